/- The reference's before, Centres, Votes. -/
import Derived.Test.YtkhkgmelicdpkaaRl
set_option linter.unusedVariables false
set_option linter.unusedSimpArgs false
namespace Go.Proofs.Ytkhkgmelicdpkaa
open Go.RowKit Go.BigFrame

set_option maxRecDepth 100000 in
set_option maxHeartbeats 4000000 in
theorem Centres_rbad (w : World) (m : Value) (L : List Int) (N : List Lane) (c : Int) (hm : Mkt w m L N) (hc : checkCode L N = c) (hne : c ≠ 0) :
    Calls Try.prog 28 #[m] w (Ret w (.tuple #[.slice none 0 0, .int .i64 c])) := by
  have HM : Hid (∀ w', Below w.heap.size w w' → Mkt w' m L N) := Lib.hid (fun w' hb => hm.below hb)
  obtain ⟨la, lc, na, nc, rfl, hlM, hN⟩ := hm.shape
  have KC : Hid (∀ w', Below w.heap.size w w' → Calls Try.prog 48 #[.agg #[.slice la L.length lc, .slice na N.length nc]] w' (Ret w' (.int .i64 c))) := Lib.hid (fun w' hb => by rw [← hc]; exact Check_r w' _ L N (HM.out _ hb))
  have HB := Lib.hid (Below.one w (.cells #[.slice la L.length lc, .slice na N.length nc] 28))
  have h1 : (c == 0) = false := by rw [beq_eq_false_iff_ne]; exact hne
  have h2 : (c != 0) = true := by simp; exact hne
  clear hm hlM hN hc hne
  go_enter Try.func28, Try.ntmps28
  go_wp2_with (first | (go_at_call 48; refine (KC.out _ HB.out).mono ?_; rintro e w1 ⟨rfl, hb1⟩))
  go_ret2
  exact ⟨rfl, HB.out.trans (hb1.mono HB.out.size)⟩
set_option maxRecDepth 100000 in
set_option maxHeartbeats 4000000 in
theorem Votes_rbad (w : World) (m : Value) (L : List Int) (N : List Lane) (a b c : Int) (hm : Mkt w m L N) (hc : laidCode L N [a, b] = c) (hne : c ≠ 0) :
    Calls Try.prog 32 #[m, .int .i64 a, .int .i64 b] w (Ret w (.tuple #[.int .i64 0, .int .i64 0, .int .i64 c])) := by
  have HM : Hid (∀ w', Below w.heap.size w w' → Mkt w' m L N) := Lib.hid (fun w' hb => hm.below hb)
  obtain ⟨la, lc, na, nc, rfl, hlM, hN⟩ := hm.shape
  have KC : Hid (∀ w', Below w.heap.size w w' → Calls Try.prog 74 #[.agg #[.slice la L.length lc, .slice na N.length nc], .int .i64 a, .int .i64 b] w' (Ret w' (.int .i64 c))) := Lib.hid (fun w' hb => by rw [← hc]; exact asked_r w' _ L N a b (HM.out _ hb))
  have HB := Lib.hid (Below.one w (.cells #[.slice la L.length lc, .slice na N.length nc] 28))
  have h1 : (c == 0) = false := by rw [beq_eq_false_iff_ne]; exact hne
  have h2 : (c != 0) = true := by simp; exact hne
  clear hm hlM hN hc hne
  go_enter Try.func32, Try.ntmps32
  go_wp2_with (first | (go_at_call 74; refine (KC.out _ HB.out).mono ?_; rintro e w1 ⟨rfl, hb1⟩))
  go_ret3
  exact ⟨rfl, HB.out.trans (hb1.mono HB.out.size)⟩
set_option maxRecDepth 100000 in
set_option maxHeartbeats 4000000 in
theorem Longest_rbad (w : World) (m : Value) (L : List Int) (N : List Lane) (c : Int) (hm : Mkt w m L N) (hc : checkCode L N = c) (hne : c ≠ 0) :
    Calls Try.prog 30 #[m] w (Ret w (.tuple #[.slice none 0 0, .int .i64 c])) := by
  have HM : Hid (∀ w', Below w.heap.size w w' → Mkt w' m L N) := Lib.hid (fun w' hb => hm.below hb)
  obtain ⟨la, lc, na, nc, rfl, hlM, hN⟩ := hm.shape
  have KC : Hid (∀ w', Below w.heap.size w w' → Calls Try.prog 48 #[.agg #[.slice la L.length lc, .slice na N.length nc]] w' (Ret w' (.int .i64 c))) := Lib.hid (fun w' hb => by rw [← hc]; exact Check_r w' _ L N (HM.out _ hb))
  have HB := Lib.hid (Below.one w (.cells #[.slice la L.length lc, .slice na N.length nc] 28))
  have h1 : (c == 0) = false := by rw [beq_eq_false_iff_ne]; exact hne
  have h2 : (c != 0) = true := by simp; exact hne
  clear hm hlM hN hc hne
  go_enter Try.func30, Try.ntmps30
  go_wp2_with (first | (go_at_call 48; refine (KC.out _ HB.out).mono ?_; rintro e w1 ⟨rfl, hb1⟩))
  go_ret2
  exact ⟨rfl, HB.out.trans (hb1.mono HB.out.size)⟩
set_option maxRecDepth 100000 in
set_option maxHeartbeats 4000000 in
theorem Centres_r (w : World) (m : Value) (L : List Int) (N : List Lane) (far : Nat → Nat → Int) (next : Nat → Nat → Nat) (hm : Mkt w m L N) (h0 : checkCode L N = 0) (hR : AllRooted L.length N far next) :
    Calls Try.prog 28 #[m] w (RetList w (smallF (radF far L.length) L.length) 0) := by
  have HM : Hid (∀ w', Below w.heap.size w w' → Mkt w' m L N) := Lib.hid (fun w' hb => hm.below hb)
  obtain ⟨la, lc, na, nc, rfl, hlM, hN⟩ := hm.shape
  have HV := Lib.hid (valid_of h0)
  have h8 := HV.out.le
  obtain ⟨r, hr⟩ : ∃ r : Nat → Int, r = radF far L.length := ⟨_, rfl⟩
  have K48 : Hid (∀ w', Below w.heap.size w w' → Calls Try.prog 48 #[.agg #[.slice la L.length lc, .slice na N.length nc]] w' (Ret w' (.int .i64 0))) := Lib.hid (fun w' hb => by have h := Check_r w' _ L N (HM.out _ hb); rw [h0] at h; exact h)
  have K79 : Hid (∀ (w' : World) (k : Nat), Below w.heap.size w w' → k < L.length → Calls Try.prog 79 #[.agg #[.slice la L.length lc, .slice na N.length nc], .int .i64 (k : Int)] w' (Ret w' (.int .i64 (r k)))) := Lib.hid (fun w' k hb hk => by rw [hr]; exact radius_r w' _ L N k far next (HM.out _ hb) h0 hR hk)
  rw [← hr]
  have HB := Lib.hid (Below.one w (.cells #[.slice la L.length lc, .slice na N.length nc] 28))
  clear hm hlM hN h0 hR hr
  go_enter Try.func28, Try.ntmps28
  go_wp2_with (first | (go_at_call 48; refine (K48.out _ HB.out).mono ?_; rintro e w1 ⟨rfl, hb1⟩; (have c0 := Below.cellOf hb1 (show (w.alloc (.cells #[.slice la L.length lc, .slice na N.length nc] 28)).cell? ⟨w.heap.size, 0, none⟩ = some (.slice la L.length lc) by simp)); (have c1 := Below.cellOf hb1 (show (w.alloc (.cells #[.slice la L.length lc, .slice na N.length nc] 28)).cell? ⟨w.heap.size, 1, none⟩ = some (.slice na N.length nc) by simp))))
  have HBW := Lib.hid (HB.out.trans (hb1.mono HB.out.size))
  have HC := Lib.hid (And.intro c0 c1)
  clear hb1 c0 c1
  go_loopw [6, 5] (MedRelR w1 r L.length) (fun i _ _ => L.length - (intOf i).toNat)
  case atStart => exact ⟨0, Nat.zero_le _, rfl, Mine.nil _ _ _, Below.refl _ _⟩
  case round =>
    obtain ⟨k, hk, rfl, hmi, hb⟩ := hrel
    have HMI := Lib.hid hmi
    have Hb := Lib.hid hb
    have c0 := Below.cellOf hb HC.out.1
    have c1 := Below.cellOf hb HC.out.2
    clear hmi hb
    by_cases hlt : k < L.length
    · have HBR := Lib.hid (HBW.out.trans (Hb.out.mono HBW.out.size))
      go_wp2_with (first
        | (go_at_call 79; refine (K79.out _ k HBR.out hlt).mono ?_; rintro e w2 ⟨rfl, hb2⟩; (have HB2 := Lib.hid hb2); clear hb2)
        | (at_builtin; refine append_int w1.heap.size rfl _ _ rfl _ _ _ rfl ((HMI.out.below HB2.out).alloc _) w2.heap.size 0 1 rfl (r k) (by exact new_cell _ _ _) (by omega) (by exact Nat.le_trans (Nat.le_trans Hb.out.size HB2.out.size) (new_size _ _)) ?_; intro v' w3 hm3 hg3 _))
      have hsz := Nat.le_trans Hb.out.size HB2.out.size
      go_roundw
      case rel => exact ⟨k + 1, by omega, by go_num, by rw [rVals_snoc]; exact hm3, (((Hb.out.trans (HB2.out.mono Hb.out.size)).alloc hsz _).grown hg3 (Nat.le_trans hsz (new_size _ _)) (fun k hk => (HMI.out.lt hk).1))⟩
      case measure => simp [intOf]; omega
    · obtain rfl : k = L.length := by omega
      have HBR := Lib.hid (HBW.out.trans (Hb.out.mono HBW.out.size))
      have K69 : Hid (∀ v, Ints wr v (rList r L.length) → Calls Try.prog 69 #[v] wr (RetL wr (smallF r L.length))) := Lib.hid (fun v hv => by
        have h := smallest_r wr v _ hv (by rw [rList_length]; omega)
        rw [rList_length, smallF_congr L.length (fun i hi => rList_at hi)] at h
        exact h)
      go_wp2_with (first | (go_at_call 69; refine (K69.out _ (r_ints HMI.out (by omega))).mono ?_; rintro e w4 ⟨v4, rfl, hm4, hb4⟩))
      go_ret2
      exact ⟨v4, rfl, hm4.base HBR.out.size, HBR.out.trans (hb4.mono HBR.out.size)⟩
def BefRel (xs ys : List Int) (iv : Value) (wr : World) (w1 : World) : Prop := (∃ k : Nat, k ≤ xs.length ∧ k ≤ ys.length ∧ iv = .int .i64 (k : Int) ∧ ∀ j, j < k → cmpI (gI xs j) (gI ys j) = 0) ∧ Below w1.heap.size w1 wr
theorem cmpL_at {xs ys : List Int} {k : Nat} (h : ∀ j, j < k → cmpI (gI xs j) (gI ys j) = 0) (hx : k < xs.length) (hy : k < ys.length) (hne : gI xs k ≠ gI ys k) : cmpL xs ys = cmpI (gI xs k) (gI ys k) := by
  rw [cmpL_drop k (by omega) (by omega) h, drop_gI hx, drop_gI hy]
  simp only [cmpL]
  rw [if_pos (by rw [ne_eq, cmpI_zero]; exact hne)]
theorem cmpL_end {xs ys : List Int} {k : Nat} (h : ∀ j, j < k → cmpI (gI xs j) (gI ys j) = 0) (hx : k ≤ xs.length) (hy : k ≤ ys.length) (he : k = xs.length ∨ k = ys.length) : (cmpL xs ys < 0 ↔ xs.length < ys.length) := by
  rw [cmpL_drop k hx hy h]
  rcases he with rfl | rfl
  · rw [List.drop_length]
    rcases Nat.lt_or_ge xs.length ys.length with h1 | h1
    · rw [drop_gI h1]
      simp [cmpL, h1]
    · rw [List.drop_eq_nil_of_le h1]
      simp [cmpL]; omega
  · rw [List.drop_length]
    rcases Nat.lt_or_ge ys.length xs.length with h1 | h1
    · rw [drop_gI h1]
      simp [cmpL]; omega
    · rw [List.drop_eq_nil_of_le h1]
      simp [cmpL]; omega
set_option maxRecDepth 100000 in
set_option maxHeartbeats 4000000 in
theorem before_r (w : World) (v1 v2 : Value) (xs ys : List Int) (h1 : Ints w v1 xs) (h2 : Ints w v2 ys) : Calls Try.prog 83 #[v1, v2] w fun e w' => e = .returned (.bool (decide (cmpL xs ys < 0))) ∧ Below w.heap.size w w' := by
  obtain ⟨hb1, a1, cap1, b1, off1, rfl, ha1, hc1⟩ := h1
  obtain ⟨hb2, a2, cap2, b2, off2, rfl, ha2, hc2⟩ := h2
  go_enter Try.func83, Try.ntmps83
  go_wp2
  go_loopw [5] (fun a wr => BefRel xs ys a wr w) (fun i _ => xs.length - (intOf i).toNat)
  case atStart => exact ⟨⟨0, Nat.zero_le _, Nat.zero_le _, rfl, fun j hj => by omega⟩, Below.refl _ _⟩
  case round =>
    obtain ⟨⟨k, hk1, hk2, rfl, hall⟩, hb⟩ := hrel
    have HA := Lib.hid hall
    have Hb := Lib.hid hb
    clear hall
    by_cases hx : k < xs.length
    · by_cases hy : k < ys.length
      · have q1 := Below.cellOf hb (hc1 k hx)
        have q2 := Below.cellOf hb (hc2 k hy)
        obtain rfl : a1 = some ⟨b1, off1, none⟩ := ha1.resolve_left (by omega)
        obtain rfl : a2 = some ⟨b2, off2, none⟩ := ha2.resolve_left (by omega)
        have i1 : (0 : Int) ≤ (k : Int) := by omega
        have i2 : (k : Int) < (xs.length : Int) := by omega
        have i3 : (k : Int) < (ys.length : Int) := by omega
        clear hc1 hc2 ha1 ha2 hb
        by_cases he : gI xs k = gI ys k
        · have he1 : (gI xs k == gI ys k) = true := by simp [he]
          have he2 : (gI xs k != gI ys k) = false := by simp [he]
          have HE := Lib.hid he
          clear he
          go_wp2
          go_quiet (fail)
          go_wp2
          go_roundw
          case rel => exact ⟨⟨k + 1, by omega, by omega, by go_num, fun j hj => by
            rcases Nat.lt_or_ge j k with h | h
            · exact HA.out j h
            · obtain rfl : j = k := by omega
              rw [HE.out, cmpI_self]⟩, below_drewN Hb.out _⟩
          case measure => simp [intOf]; omega
        · have he1 : (gI xs k == gI ys k) = false := by simp; exact he
          have he2 : (gI xs k != gI ys k) = true := by simp; exact he
          have HC := Lib.hid (cmpL_at HA.out hx hy he)
          clear he
          by_cases hl : gI xs k < gI ys k
          · have HD : Hid (decide (cmpL xs ys < 0) = true) := Lib.hid (decide_eq_true (by rw [HC.out]; exact cmpI_lt.2 hl))
            go_wp2
            go_quiet (fail)
            go_wp2
            go_quiet (fail)
            go_wp2
            go_ret
            exact ⟨by rw [HD.out]; rfl, below_drewN (below_drewN Hb.out _) _⟩
          · have HD : Hid (decide (cmpL xs ys < 0) = false) := Lib.hid (decide_eq_false (by rw [HC.out]; exact fun h => hl (cmpI_lt.1 h)))
            have hd : decide (gI xs k < gI ys k) = false := decide_eq_false hl
            go_wp2
            go_quiet (fail)
            go_wp2
            go_quiet (fail)
            go_wp2
            go_ret
            exact ⟨by rw [HD.out]; rfl, below_drewN (below_drewN Hb.out _) _⟩
      · have HC := Lib.hid (cmpL_end HA.out hk1 hk2 (.inr (by omega)))
        have hd : decide ((k : Int) < (ys.length : Int)) = false := decide_eq_false (by omega)
        have hd2 : ¬ k < ys.length := hy
        have HD : Hid (decide (cmpL xs ys < 0) = decide (xs.length < ys.length)) := Lib.hid (decide_eq_decide.2 HC.out)
        go_wp2
        go_ret
        exact ⟨ret_bool HD.out.symm, Hb.out⟩
    · have HC := Lib.hid (cmpL_end HA.out hk1 hk2 (.inl (by omega)))
      have hd : decide ((k : Int) < (xs.length : Int)) = false := decide_eq_false (by omega)
      have hd2 : ¬ k < xs.length := hx
      have HD : Hid (decide (cmpL xs ys < 0) = decide (xs.length < ys.length)) := Lib.hid (decide_eq_decide.2 HC.out)
      go_wp2
      go_ret
      exact ⟨ret_bool HD.out.symm, Hb.out⟩
theorem voteA_eq (L : List Int) (far : Nat → Nat → Int) (a b c : Nat) : voteA L far a b c = if far c a < far c b then gI L c else 0 := by
  unfold voteA
  by_cases h : far c a < far c b
  · rw [if_pos h, if_pos (by omega)]
  · rw [if_neg h, if_neg (by omega)]
theorem voteB_eq (L : List Int) (far : Nat → Nat → Int) (a b c : Nat) : voteB L far a b c = if far c b < far c a then gI L c else 0 := by
  unfold voteB
  by_cases h : far c b < far c a
  · rw [if_pos h, if_pos (by omega)]
  · rw [if_neg h, if_neg (by omega)]
theorem votes_bound {L : List Int} {far : Nat → Nat → Int} {a b : Nat} (hL : ∀ c, c < L.length → 0 ≤ gI L c ∧ gI L c ≤ 9) : ∀ k, k ≤ L.length → (0 ≤ sumF (voteA L far a b) k ∧ sumF (voteA L far a b) k ≤ 9 * k) ∧ (0 ≤ sumF (voteB L far a b) k ∧ sumF (voteB L far a b) k ≤ 9 * k) := by
  intro k hk
  refine ⟨sumF_bound _ L.length (fun c hc => ?_) k hk, sumF_bound _ L.length (fun c hc => ?_) k hk⟩
  · unfold voteA; have := hL c hc; split <;> omega
  · unfold voteB; have := hL c hc; split <;> omega
def VotRelR (w1 : World) (L : List Int) (far : Nat → Nat → Int) (a b : Nat) (iv av bv : Value) (wr : World) : Prop := ∃ k : Nat, k ≤ L.length ∧ iv = .int .i64 (k : Int) ∧ av = .int .i64 (sumF (voteA L far a b) k) ∧ bv = .int .i64 (sumF (voteB L far a b) k) ∧ Below w1.heap.size w1 wr
set_option maxRecDepth 100000 in
set_option maxHeartbeats 4000000 in
theorem Votes_rsame (w : World) (m : Value) (L : List Int) (N : List Lane) (a : Nat) (hm : Mkt w m L N) (h0 : checkCode L N = 0) (ha : a < L.length) :
    Calls Try.prog 32 #[m, .int .i64 (a : Int), .int .i64 (a : Int)] w (Ret w (.tuple #[.int .i64 0, .int .i64 0, .int .i64 6])) := by
  have HM : Hid (∀ w', Below w.heap.size w w' → Mkt w' m L N) := Lib.hid (fun w' hb => hm.below hb)
  obtain ⟨la, lc, na, nc, rfl, hlM, hN⟩ := hm.shape
  have KC : Hid (∀ w', Below w.heap.size w w' → Calls Try.prog 74 #[.agg #[.slice la L.length lc, .slice na N.length nc], .int .i64 (a : Int), .int .i64 (a : Int)] w' (Ret w' (.int .i64 0))) := Lib.hid (fun w' hb => by rw [← corners_ok2 h0 ha ha]; exact asked_r w' _ L N a a (HM.out _ hb))
  have HB := Lib.hid (Below.one w (.cells #[.slice la L.length lc, .slice na N.length nc] 28))
  clear hm hlM hN h0
  go_enter Try.func32, Try.ntmps32
  go_wp2_with (first | (go_at_call 74; refine (KC.out _ HB.out).mono ?_; rintro e w1 ⟨rfl, hb1⟩))
  go_ret3
  exact ⟨rfl, HB.out.trans (hb1.mono HB.out.size)⟩
set_option maxRecDepth 100000 in
set_option maxHeartbeats 4000000 in
theorem Votes_r (w : World) (m : Value) (L : List Int) (N : List Lane) (a b : Nat) (far : Nat → Nat → Int) (next : Nat → Nat → Nat) (hm : Mkt w m L N) (h0 : checkCode L N = 0) (hR : AllRooted L.length N far next) (ha : a < L.length) (hb : b < L.length) (hab : a ≠ b) :
    Calls Try.prog 32 #[m, .int .i64 (a : Int), .int .i64 (b : Int)] w (Ret w (.tuple #[.int .i64 (sumF (voteA L far a b) L.length), .int .i64 (sumF (voteB L far a b) L.length), .int .i64 0])) := by
  have HM : Hid (∀ w', Below w.heap.size w w' → Mkt w' m L N) := Lib.hid (fun w' hb => hm.below hb)
  obtain ⟨la, lc, na, nc, rfl, hlM, hN⟩ := hm.shape
  obtain ⟨_, xa, xc, xb, xo, hxe, hxa, hxc⟩ := hlM
  simp only [Value.slice.injEq] at hxe
  obtain ⟨rfl, _, rfl⟩ := hxe
  have HV := Lib.hid (valid_of h0)
  have h8 := HV.out.le
  have hp := HV.out.pos
  obtain rfl := hxa.resolve_left (by omega)
  have HXC : Hid (∀ k, k < L.length → w.cell? ⟨xb, xo + k, none⟩ = some (.int .i64 (gI L k))) := Lib.hid hxc
  have KC : Hid (∀ w', Below w.heap.size w w' → Calls Try.prog 74 #[.agg #[.slice (some ⟨xb, xo, none⟩) L.length lc, .slice na N.length nc], .int .i64 (a : Int), .int .i64 (b : Int)] w' (Ret w' (.int .i64 0))) := Lib.hid (fun w' hb' => by rw [← corners_ok2 h0 ha hb]; exact asked_r w' _ L N a b (HM.out _ hb'))
  have K82 : Hid (∀ (w' : World) (x y : Nat), Below w.heap.size w w' → x < L.length → y < L.length → Calls Try.prog 82 #[.agg #[.slice (some ⟨xb, xo, none⟩) L.length lc, .slice na N.length nc], .int .i64 (x : Int), .int .i64 (y : Int)] w' (Ret w' (.int .i64 (far x y)))) := Lib.hid (fun w' x y hbw hx hy => far_r w' _ L N x y far next (HM.out _ hbw) h0 hR hx hy)
  have HB := Lib.hid (Below.one w (.cells #[.slice (some ⟨xb, xo, none⟩) L.length lc, .slice na N.length nc] 28))
  have hab' : ((a : Int) == (b : Int)) = false := by rw [beq_eq_false_iff_ne]; omega
  have HAB := Lib.hid hab
  clear hm hN hxa hxc h0 hR hab
  go_enter Try.func32, Try.ntmps32
  go_wp2_with (first | (go_at_call 74; refine (KC.out _ HB.out).mono ?_; rintro e w1 ⟨rfl, hb1⟩; (have c0 := Below.cellOf hb1 (show (w.alloc (.cells #[.slice (some ⟨xb, xo, none⟩) L.length lc, .slice na N.length nc] 28)).cell? ⟨w.heap.size, 0, none⟩ = some (.slice (some ⟨xb, xo, none⟩) L.length lc) by simp)); (have c1 := Below.cellOf hb1 (show (w.alloc (.cells #[.slice (some ⟨xb, xo, none⟩) L.length lc, .slice na N.length nc] 28)).cell? ⟨w.heap.size, 1, none⟩ = some (.slice na N.length nc) by simp))))
  have HBW := Lib.hid (HB.out.trans (hb1.mono HB.out.size))
  have HC := Lib.hid (And.intro c0 c1)
  clear hb1 c0 c1
  go_loopw [12, 10, 11] (VotRelR w1 L far a b) (fun i _ _ _ => L.length - (intOf i).toNat)
  case atStart => exact ⟨0, Nat.zero_le _, rfl, rfl, rfl, Below.refl _ _⟩
  case round =>
    obtain ⟨k, hk, rfl, rfl, rfl, hbr⟩ := hrel
    have Hb := Lib.hid hbr
    have c0 := Below.cellOf hbr HC.out.1
    have c1 := Below.cellOf hbr HC.out.2
    have HBR := Lib.hid (HBW.out.trans (hbr.mono HBW.out.size))
    clear hbr
    have hvb := votes_bound (far := far) (a := a) (b := b) HV.out.loads k hk
    obtain ⟨S1, hS1⟩ : ∃ S, S = sumF (voteA L far a b) k := ⟨_, rfl⟩
    obtain ⟨S2, hS2⟩ : ∃ S, S = sumF (voteB L far a b) k := ⟨_, rfl⟩
    rw [← hS1, ← hS2] at hvb ⊢
    have HS := Lib.hid (And.intro hS1 hS2)
    clear hS1 hS2
    by_cases hlt : k < L.length
    · have hcell := Below.cellOf HBR.out (HXC.out k hlt)
      have hload := HV.out.loads k hlt
      have p0 := Later.cell c0
      have p1 := Later.cell c1
      obtain ⟨fa, hfa⟩ : ∃ x, x = far k a := ⟨_, rfl⟩
      obtain ⟨fb, hfb⟩ : ∃ x, x = far k b := ⟨_, rfl⟩
      have T1 : Hid (∀ gw : HeldW (Later wr), Calls Try.prog 82 #[.agg #[.slice (some ⟨xb, xo, none⟩) L.length lc, .slice na N.length nc], .int .i64 (k : Int), .int .i64 (a : Int)] gw.w fun e w'' => e = .returned (.int .i64 fa) ∧ ∃ g' : HeldW (Later wr), w'' = g'.w) := Lib.hid (fun gw => by rw [hfa]; exact Calls.later gw (K82.out gw.w k a (HBR.out.trans (gw.h.mono HBR.out.size)) hlt ha))
      have T2 : Hid (∀ gw : HeldW (Later wr), Calls Try.prog 82 #[.agg #[.slice (some ⟨xb, xo, none⟩) L.length lc, .slice na N.length nc], .int .i64 (k : Int), .int .i64 (b : Int)] gw.w fun e w'' => e = .returned (.int .i64 fb) ∧ ∃ g' : HeldW (Later wr), w'' = g'.w) := Lib.hid (fun gw => by rw [hfb]; exact Calls.later gw (K82.out gw.w k b (HBR.out.trans (gw.h.mono HBR.out.size)) hlt hb))
      have HA : Hid (voteA L far a b k = if fa < fb then gI L k else 0) := Lib.hid (by rw [voteA_eq, hfa, hfb])
      have HBb : Hid (voteB L far a b k = if fb < fa then gI L k else 0) := Lib.hid (by rw [voteB_eq, hfa, hfb])
      clear hfa hfb
      rcases Int.lt_trichotomy fa fb with h | h | h
      · have HH := Lib.hid h
        have d1 : decide (fa < fb) = true := decide_eq_true (by omega)
        have d2 : decide (fb < fa) = false := decide_eq_false (by omega)
        clear h
        go_wp2
        refine wp_region_class (Later wr) (by kernel_rfl) (by kernel_rfl) (below_drewN (Below.refl _ _) 1) ?_
        repeat (go_big_quiet_step ((first | (go_at_call_of 82 (Value.int .i64 (a : Int)); exact T1.out _) | (go_at_call_of 82 (Value.int .i64 (b : Int)); exact T2.out _))))
        refine wpQuiet_nil ?_
        intro wq hw'
        obtain ⟨⟨_, hq⟩, rfl⟩ := hw'
        have r0 := Below.cellOf hq c0
        have r1 := Below.cellOf hq c1
        have r2 := Below.cellOf hq hcell
        go_wp2
        refine wp_region_class (Later wr) (by kernel_rfl) (by kernel_rfl) (hq.drew) ?_
        repeat (go_big_quiet_step ((first | (go_at_call_of 82 (Value.int .i64 (a : Int)); exact T1.out _) | (go_at_call_of 82 (Value.int .i64 (b : Int)); exact T2.out _))))
        refine wpQuiet_nil ?_
        intro wz hw'
        obtain ⟨⟨_, hz⟩, rfl⟩ := hw'
        have s0 := Below.cellOf hz c0
        have s2 := Below.cellOf hz hcell
        go_wp2
        go_roundw
        case rel => exact ⟨k + 1, by omega, by go_num, by simp only [sumF]; rw [← HS.out.1, HA.out]; rw [if_pos (by have := HH.out; omega)], by simp only [sumF]; rw [← HS.out.2, HBb.out]; rw [if_neg (by have := HH.out; omega), Int.add_zero], Hb.out.trans (hz.mono Hb.out.size)⟩
        case measure => simp [intOf]; omega
      · have HH := Lib.hid h
        have d1 : decide (fa < fb) = false := decide_eq_false (by omega)
        have d2 : decide (fb < fa) = false := decide_eq_false (by omega)
        clear h
        go_wp2
        refine wp_region_class (Later wr) (by kernel_rfl) (by kernel_rfl) (below_drewN (Below.refl _ _) 1) ?_
        repeat (go_big_quiet_step ((first | (go_at_call_of 82 (Value.int .i64 (a : Int)); exact T1.out _) | (go_at_call_of 82 (Value.int .i64 (b : Int)); exact T2.out _))))
        refine wpQuiet_nil ?_
        intro wq hw'
        obtain ⟨⟨_, hq⟩, rfl⟩ := hw'
        have r0 := Below.cellOf hq c0
        have r1 := Below.cellOf hq c1
        have r2 := Below.cellOf hq hcell
        go_wp2
        refine wp_region_class (Later wr) (by kernel_rfl) (by kernel_rfl) (hq.drew) ?_
        repeat (go_big_quiet_step ((first | (go_at_call_of 82 (Value.int .i64 (a : Int)); exact T1.out _) | (go_at_call_of 82 (Value.int .i64 (b : Int)); exact T2.out _))))
        refine wpQuiet_nil ?_
        intro wz hw'
        obtain ⟨⟨_, hz⟩, rfl⟩ := hw'
        have s0 := Below.cellOf hz c0
        have s2 := Below.cellOf hz hcell
        go_wp2
        go_roundw
        case rel => exact ⟨k + 1, by omega, by go_num, by simp only [sumF]; rw [← HS.out.1, HA.out]; rw [if_neg (by have := HH.out; omega), Int.add_zero], by simp only [sumF]; rw [← HS.out.2, HBb.out]; rw [if_neg (by have := HH.out; omega), Int.add_zero], Hb.out.trans (hz.mono Hb.out.size)⟩
        case measure => simp [intOf]; omega
      · have HH := Lib.hid h
        have d1 : decide (fa < fb) = false := decide_eq_false (by omega)
        have d2 : decide (fb < fa) = true := decide_eq_true (by omega)
        clear h
        go_wp2
        refine wp_region_class (Later wr) (by kernel_rfl) (by kernel_rfl) (below_drewN (Below.refl _ _) 1) ?_
        repeat (go_big_quiet_step ((first | (go_at_call_of 82 (Value.int .i64 (a : Int)); exact T1.out _) | (go_at_call_of 82 (Value.int .i64 (b : Int)); exact T2.out _))))
        refine wpQuiet_nil ?_
        intro wq hw'
        obtain ⟨⟨_, hq⟩, rfl⟩ := hw'
        have r0 := Below.cellOf hq c0
        have r1 := Below.cellOf hq c1
        have r2 := Below.cellOf hq hcell
        go_wp2
        refine wp_region_class (Later wr) (by kernel_rfl) (by kernel_rfl) (hq.drew) ?_
        repeat (go_big_quiet_step ((first | (go_at_call_of 82 (Value.int .i64 (a : Int)); exact T1.out _) | (go_at_call_of 82 (Value.int .i64 (b : Int)); exact T2.out _))))
        refine wpQuiet_nil ?_
        intro wz hw'
        obtain ⟨⟨_, hz⟩, rfl⟩ := hw'
        have s0 := Below.cellOf hz c0
        have s2 := Below.cellOf hz hcell
        go_wp2
        go_roundw
        case rel => exact ⟨k + 1, by omega, by go_num, by simp only [sumF]; rw [← HS.out.1, HA.out]; rw [if_neg (by have := HH.out; omega), Int.add_zero], by simp only [sumF]; rw [← HS.out.2, HBb.out]; rw [if_pos (by have := HH.out; omega)], Hb.out.trans (hz.mono Hb.out.size)⟩
        case measure => simp [intOf]; omega
    · obtain rfl : k = L.length := by omega
      go_wp2
      go_ret3
      exact ⟨by rw [← HS.out.1, ← HS.out.2]; rfl, HBR.out⟩
end Go.Proofs.Ytkhkgmelicdpkaa
