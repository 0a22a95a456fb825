/- The reference's Check, asked, over: the same errors as the program's. -/
import Derived.Test.YtkhkgmelicdpkaaRc
set_option linter.unusedVariables false
set_option linter.unusedSimpArgs false
namespace Go.Proofs.Ytkhkgmelicdpkaa
open Go.RowKit Go.BigFrame

/-! ### plain -/
section
variable {L : List Int} {N : List Lane}
theorem check_of_head {c : Int} (h : headCode L N = c) (hc : c ≠ 0) : checkCode L N = c := by
  unfold checkCode; rw [h, if_pos hc]
theorem check_empty (h : L.length = 0) : checkCode L N = 4 := check_of_head (by unfold headCode; rw [if_pos h]) (by simp)
theorem check_many (h : 8 < L.length) : checkCode L N = 3 := check_of_head (by unfold headCode; rw [if_neg (by omega), if_pos h]) (by simp)
theorem check_load {k : Nat} (h1 : 1 ≤ L.length) (h8 : L.length ≤ 8) (hk : k < L.length) (hb : ¬ (0 ≤ gI L k ∧ gI L k ≤ 9)) : checkCode L N = 1 := by
  refine check_of_head ?_ (by simp)
  have a1 := mnF_le (gI L) (L.length - 1) k (by omega)
  have a2 := mxF_ge (gI L) (L.length - 1) k (by omega)
  unfold headCode
  rw [if_neg (by omega), if_neg (by omega), if_pos (by omega)]
theorem head_loads (h1 : 1 ≤ L.length) (h8 : L.length ≤ 8) (hl : ∀ k, k < L.length → 0 ≤ gI L k ∧ gI L k ≤ 9) : headCode L N = if N.length ≠ L.length - 1 then 5 else 0 := by
  obtain ⟨i, hi, ei⟩ := mnF_is (gI L) (L.length - 1)
  obtain ⟨j, hj, ej⟩ := mxF_is (gI L) (L.length - 1)
  have g1 := hl i (by omega)
  have g2 := hl j (by omega)
  unfold headCode
  rw [if_neg (by omega), if_neg (by omega), if_neg (by omega)]
theorem check_lane {k : Nat} {c : Int} (h0 : headCode L N = 0) (hk : lanesCode L.length N k = 0) (hlt : k < N.length) (hb : laneBad L.length (getT N k) = c) (hc : c ≠ 0) : checkCode L N = c := by
  have h := laneErr (cs := []) h0 hk hlt hb hc
  rw [laidCode_nil] at h
  exact h
theorem lane_ok {k : Nat} (hk : lanesCode L.length N k = 0) (hb : laneBad L.length (getT N k) = 0) : lanesCode L.length N (k + 1) = 0 := by
  simp only [lanesCode]
  rw [if_neg (by rw [hk]; simp), hb]
theorem good_lanes (hk : lanesCode L.length N N.length = 0) : Good L.length N N.length := fun j hj => laneBad_zero (lanesGood hk j hj)
theorem check_all (h0 : headCode L N = 0) (hk : lanesCode L.length N N.length = 0) (ha : AllFrom L.length (nearK N N.length) 0) : checkCode L N = 0 := by
  unfold checkCode
  rw [if_neg (by rw [h0]; simp), if_neg (by rw [hk]; simp), if_pos ha]
theorem check_not (h0 : headCode L N = 0) (hk : lanesCode L.length N N.length = 0) (ha : ¬ AllFrom L.length (nearK N N.length) 0) : checkCode L N = 5 := by
  unfold checkCode
  rw [if_neg (by rw [h0]; simp), if_neg (by rw [hk]; simp), if_neg ha]
end
theorem in_yes (w : World) (n lo hi : Int) (h : lo ≤ n ∧ n ≤ hi) : Calls Try.prog 87 #[.int .i64 n, .int .i64 lo, .int .i64 hi] w fun e w' => e = .returned (.bool true) ∧ w = w' := by
  have := in_any w n lo hi
  rw [decide_eq_true h] at this
  exact this
theorem in_no (w : World) (n lo hi : Int) (h : ¬ (lo ≤ n ∧ n ≤ hi)) : Calls Try.prog 87 #[.int .i64 n, .int .i64 lo, .int .i64 hi] w fun e w' => e = .returned (.bool false) ∧ w = w' := by
  have := in_any w n lo hi
  rw [decide_eq_false h] at this
  exact this
theorem reached_zero (w : World) (m : Value) (L : List Int) (N : List Lane) (hm : Mkt w m L N) (hG : Good L.length N N.length) (hn : L.length ≤ 8) (hp : 0 < L.length) : Calls Try.prog 72 #[m, .int .i64 0, .slice none 0 0] w (MetPost w N [] L.length 0) := by
  have hi : Ints w (.slice none 0 0) (upL []) := ints_nil w 0
  have h := reached_any w m (.slice none 0 0) L N [] 0 hm hi hG hn hp
  rw [show ((0 : Nat) : Int) = 0 from rfl] at h
  exact h
def LoadRel (w1 : World) (L : List Int) (iv : Value) (wr : World) : Prop := ∃ k : Nat, k ≤ L.length ∧ iv = .int .i64 (k : Int) ∧ (∀ j, j < k → 0 ≤ gI L j ∧ gI L j ≤ 9) ∧ Below w1.heap.size w1 wr
def LaneRelR (w1 : World) (L : List Int) (N : List Lane) (iv : Value) (wr : World) : Prop := ∃ k : Nat, k ≤ N.length ∧ iv = .int .i64 (k : Int) ∧ lanesCode L.length N k = 0 ∧ Below w1.heap.size w1 wr
set_option maxRecDepth 100000 in
set_option maxHeartbeats 4000000 in
theorem Check_r (w : World) (m : Value) (L : List Int) (N : List Lane) (hm : Mkt w m L N) : Calls Try.prog 48 #[m] w (Ret w (.int .i64 (checkCode L N))) := by
  have HM : Hid (∀ w', Below w.heap.size w w' → Mkt w' m L N) := Lib.hid (fun w' hb => hm.below hb)
  obtain ⟨la, lc, na, nc, rfl, hl, hN⟩ := hm.shape
  obtain ⟨_, xa, xc, xb, xo, hxe, hxa, hxc⟩ := hl
  simp only [Value.slice.injEq] at hxe
  obtain ⟨rfl, _, rfl⟩ := hxe
  obtain ⟨_, ya, yc, yb, yo, hye, hya, hyc⟩ := hN
  simp only [Value.slice.injEq] at hye
  obtain ⟨rfl, _, rfl⟩ := hye
  clear hm
  by_cases h0 : L.length = 0
  · have HE := Lib.hid (check_empty (N := N) h0)
    have HH := Lib.hid h0
    have h0' : (L.length : Int) = 0 := by omega
    clear h0
    go_enter Try.func48, Try.ntmps48
    go_wp2
    go_ret
    exact ⟨ret_int HE.out.symm, Below.one _ _⟩
  · by_cases h8 : 8 < L.length
    · have HE := Lib.hid (check_many (N := N) h8)
      have h0' : ((L.length : Int) == 0) = false := by rw [beq_eq_false_iff_ne]; omega
      go_enter Try.func48, Try.ntmps48
      go_wp2
      go_ret
      exact ⟨ret_int HE.out.symm, Below.one _ _⟩
    · have h0' : ((L.length : Int) == 0) = false := by rw [beq_eq_false_iff_ne]; omega
      have h8' : decide ((8 : Int) < (L.length : Int)) = false := decide_eq_false (by omega)
      have p1 : 1 ≤ L.length := by omega
      have p8 : L.length ≤ 8 := by omega
      clear h0 h8
      go_enter Try.func48, Try.ntmps48
      go_wp2
      have HB := Lib.hid (Below.one w (.cells #[.slice la L.length lc, .slice na N.length nc] 28))
      obtain ⟨W1, hW1⟩ : ∃ W1, W1 = w.alloc (.cells #[.slice la L.length lc, .slice na N.length nc] 28) := ⟨_, rfl⟩
      have c0 : W1.cell? ⟨w.heap.size, 0, none⟩ = some (.slice la L.length lc) := by rw [hW1]; simp
      have c1 : W1.cell? ⟨w.heap.size, 1, none⟩ = some (.slice na N.length nc) := by rw [hW1]; simp
      rw [← hW1] at HB ⊢
      have HC := Lib.hid (And.intro c0 c1)
      clear hW1 c0 c1
      go_loopw [4] (LoadRel W1 L) (fun i _ => L.length - (intOf i).toNat)
      case atStart => exact ⟨0, Nat.zero_le _, rfl, fun j hj => by omega, Below.refl _ _⟩
      case round =>
        obtain ⟨k, hk, rfl, hall, hb⟩ := hrel
        have HA := Lib.hid hall
        have Hb := Lib.hid hb
        have c0 := Below.cellOf hb HC.out.1
        have c1 := Below.cellOf hb HC.out.2
        clear hall hb
        by_cases hlt : k < L.length
        · have hcell := Below.cellOf (HB.out.trans (Hb.out.mono HB.out.size)) (hxc k hlt)
          obtain rfl : la = some ⟨xb, xo, none⟩ := hxa.resolve_left (by omega)
          by_cases hok : 0 ≤ gI L k ∧ gI L k ≤ 9
          · go_wp2_with (go_at_call 87; refine (in_yes _ _ _ _ hok).mono ?_; rintro e w2 ⟨rfl, rfl⟩)
            go_roundw
            case rel => exact ⟨k + 1, by omega, by go_num, fun j hj => by
              rcases Nat.lt_or_ge j k with h | h
              · exact HA.out j h
              · obtain rfl : j = k := by omega
                exact hok, Hb.out⟩
            case measure => simp [intOf]; omega
          · have HE := Lib.hid (check_load (N := N) p1 p8 hlt hok)
            go_wp2_with (go_at_call 87; refine (in_no _ _ _ _ hok).mono ?_; rintro e w2 ⟨rfl, rfl⟩)
            go_ret
            exact ⟨ret_int HE.out.symm, HB.out.trans (Hb.out.mono HB.out.size)⟩
        · obtain rfl : k = L.length := by omega
          have HH := Lib.hid (head_loads (N := N) p1 p8 HA.out)
          have HB2 := Lib.hid (HB.out.trans (Hb.out.mono HB.out.size))
          by_cases hn : N.length = L.length - 1
          · have hnx : ((N.length : Int) == (L.length : Int) - 1) = true := by rw [beq_iff_eq]; omega
            have hnx2 : ((N.length : Int) != (L.length : Int) - 1) = false := by simp; omega
            have H0 : Hid (headCode L N = 0) := Lib.hid (by rw [HH.out, if_neg (by omega)])
            have HN := Lib.hid hn
            clear hn
            go_wp2
            go_loopw [5, 6] (fun a _ => LaneRelR wr L N a) (fun i _ _ => N.length - (intOf i).toNat)
            case atStart => exact ⟨0, Nat.zero_le _, rfl, rfl, Below.refl _ _⟩
            case round =>
              obtain ⟨k, hk, rfl, hlk, hb⟩ := hrel
              have HLK := Lib.hid hlk
              have Hb2 := Lib.hid hb
              replace c0 := Below.cellOf hb c0
              replace c1 := Below.cellOf hb c1
              clear hlk hb
              by_cases hlt : k < N.length
              · obtain ⟨hc0, hc1, hc2⟩ := hyc k hlt
                have hbw := HB2.out.trans (Hb2.out.mono HB2.out.size)
                replace hc0 := Below.cellOf hbw hc0
                replace hc1 := Below.cellOf hbw hc1
                replace hc2 := Below.cellOf hbw hc2
                have HBW := Lib.hid hbw
                obtain rfl : na = some ⟨yb, yo, none⟩ := hya.resolve_left (by omega)
                obtain ⟨bd, hbd⟩ : ∃ bd, bd = laneBad L.length (getT N k) := ⟨_, rfl⟩
                have hbd' := hbd
                unfold laneBad at hbd'
                have HBD := Lib.hid hbd
                clear hbd hbw
                by_cases b0 : 0 ≤ (getT N k).1 ∧ (getT N k).1 ≤ (L.length : Int) - 1
                · by_cases b1 : 0 ≤ (getT N k).2.1 ∧ (getT N k).2.1 ≤ (L.length : Int) - 1
                  · rw [if_neg (by omega)] at hbd'
                    by_cases b2 : (getT N k).2.1 ≤ (getT N k).1
                    · rw [if_pos b2] at hbd'
                      have HE := Lib.hid (check_lane H0.out HLK.out hlt (HBD.out.symm.trans hbd') (by simp))
                      clear hbd'
                      go_wp2_with (first | (go_at_call 87; refine (in_yes _ _ _ _ (by omega)).mono ?_; rintro e w2 ⟨rfl, rfl⟩))
                      go_ret
                      exact ⟨ret_int HE.out.symm, HBW.out.alloc (Nat.le_trans HB2.out.size Hb2.out.size) _⟩
                    · rw [if_neg b2] at hbd'
                      by_cases b3 : 1 ≤ (getT N k).2.2 ∧ (getT N k).2.2 ≤ 9
                      · rw [if_neg (by omega)] at hbd'
                        have HE := Lib.hid (lane_ok HLK.out (HBD.out.symm.trans hbd'))
                        clear hbd'
                        go_wp2_with (first | (go_at_call 87; refine (in_yes _ _ _ _ (by omega)).mono ?_; rintro e w2 ⟨rfl, rfl⟩))
                        go_roundw
                        case rel => first | exact ⟨k + 1, by omega, by go_num, HE.out, Hb2.out.alloc Hb2.out.size _⟩ | ((repeat apply Exists.intro); exact ⟨⟨k + 1, by omega, by go_num, HE.out, Hb2.out.alloc Hb2.out.size _⟩, rfl⟩)
                        case measure => simp [intOf]; omega
                      · rw [if_pos b3] at hbd'
                        have HE := Lib.hid (check_lane H0.out HLK.out hlt (HBD.out.symm.trans hbd') (by simp))
                        clear hbd'
                        go_wp2_with (first | (go_at_call 87; refine (in_yes _ _ _ _ (by omega)).mono ?_; rintro e w2 ⟨rfl, rfl⟩) | (go_at_call 87; refine (in_no _ _ _ _ (by omega)).mono ?_; rintro e w2 ⟨rfl, rfl⟩))
                        go_ret
                        exact ⟨ret_int HE.out.symm, HBW.out.alloc (Nat.le_trans HB2.out.size Hb2.out.size) _⟩
                  · rw [if_pos (.inr b1)] at hbd'
                    have HE := Lib.hid (check_lane H0.out HLK.out hlt (HBD.out.symm.trans hbd') (by simp))
                    clear hbd'
                    go_wp2_with (first | (go_at_call 87; refine (in_yes _ _ _ _ (by omega)).mono ?_; rintro e w2 ⟨rfl, rfl⟩) | (go_at_call 87; refine (in_no _ _ _ _ (by omega)).mono ?_; rintro e w2 ⟨rfl, rfl⟩))
                    go_ret
                    exact ⟨ret_int HE.out.symm, HBW.out.alloc (Nat.le_trans HB2.out.size Hb2.out.size) _⟩
                · rw [if_pos (.inl b0)] at hbd'
                  have HE := Lib.hid (check_lane H0.out HLK.out hlt (HBD.out.symm.trans hbd') (by simp))
                  clear hbd'
                  go_wp2_with (first | (go_at_call 87; refine (in_no _ _ _ _ (by omega)).mono ?_; rintro e w2 ⟨rfl, rfl⟩))
                  go_ret
                  exact ⟨ret_int HE.out.symm, HBW.out.alloc (Nat.le_trans HB2.out.size Hb2.out.size) _⟩
              · obtain rfl : k = N.length := by omega
                have HBW := Lib.hid (HB2.out.trans (Hb2.out.mono HB2.out.size))
                have K72 : Hid (Calls Try.prog 72 #[.agg #[.slice la L.length lc, .slice na N.length nc], .int .i64 0, .slice none 0 0] wr (MetPost wr N [] L.length 0)) := Lib.hid (reached_zero wr _ L N (HM.out _ HBW.out) (good_lanes HLK.out) p8 (by omega))
                go_wp2_with (go_at_call 72; refine K72.out.mono ?_; rintro e w3 ⟨v, l, rfl, hmet, hmine, hb3⟩; obtain ⟨g, o, cap, rfl, _⟩ := mine_list hmine (List.length_pos_of_mem hmet.root))
                all_goals
                  have hlen := hmet.length
                  have hm8 : Met L.length (fun x y => (nearK N N.length x).testBit y = true) (fun y => y ∈ ([] : List Nat)) 0 l := hmet
                  have hiff := hm8.all (fun y hy => by cases hy)
                  have HBF := Lib.hid (HBW.out.trans (hb3.mono HBW.out.size))
                · go_ret
                  exact ⟨ret_int (check_not H0.out HLK.out (fun h => by have := hiff.2 h; omega)).symm, HBF.out⟩
                · go_ret
                  exact ⟨ret_int (check_all H0.out HLK.out (hiff.1 (by omega))).symm, HBF.out⟩
          · have HE : Hid (checkCode L N = 5) := Lib.hid (check_of_head (by rw [HH.out, if_pos (by omega)]) (by simp))
            have hnx : ((N.length : Int) == (L.length : Int) - 1) = false := by rw [beq_eq_false_iff_ne]; omega
            have hnx2 : ((N.length : Int) != (L.length : Int) - 1) = true := by simp; omega
            go_wp2
            go_ret
            exact ⟨ret_int HE.out.symm, HB2.out⟩
end Go.Proofs.Ytkhkgmelicdpkaa
