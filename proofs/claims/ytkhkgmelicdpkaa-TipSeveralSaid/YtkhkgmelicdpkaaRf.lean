/- The reference's way: the way in the tree, found by trying. -/
import Derived.Test.YtkhkgmelicdpkaaRe
set_option linter.unusedVariables false
set_option linter.unusedSimpArgs false
namespace Go.Proofs.Ytkhkgmelicdpkaa
open Go.RowKit Go.BigFrame

def WayPost (w : World) (l : List Nat) (v : Nat) (e : Ending) (w' : World) : Prop :=
  Below w.heap.size w w' ∧ ((v ∈ l ∧ ∃ r, e = .returned (.tuple #[r, .bool true]) ∧ Ints w' r (upL l)) ∨ (v ∉ l ∧ e = .returned (.tuple #[.slice none 0 0, .bool false])))
def WayTry (w1 : World) (n : Nat) (l : List Nat) (v nx : Nat) (iv : Value) (wr : World) : Prop := ∃ k : Nat, k ≤ n ∧ iv = .int .i64 (k : Int) ∧ (v ∈ l → k ≤ nx) ∧ Below w1.heap.size w1 wr
theorem mine_nx (w : World) (o : Obj) : Mine (((w.drew).alloc o).alloc (.cells #[] 3)) w.heap.size 1 (.slice (some ⟨w.heap.size + 1, 0, none⟩) 0 0) 0 [] := by
  have e : (w.drew.alloc o).heap.size = w.heap.size + 1 := by simp
  have h := mine_none (w.drew.alloc o) w.heap.size 3 (by rw [e]; omega)
  rw [e] at h
  exact h
set_option maxRecDepth 100000 in
set_option maxHeartbeats 8000000 in
theorem way_r (L : List Int) (N : List Lane) (far : Nat → Nat → Int) (next : Nat → Nat → Nat) (h0 : checkCode L N = 0) (hR : AllRooted L.length N far next) (x t : Nat) (hx : x < L.length) (ht : t < L.length) :
    ∀ (d : Nat) (w : World) (m bv : Value) (v : Nat), Mkt w m L N → v < L.length → Ints w bv (upL (wayL far next x v)) → L.length + 1 ≤ (wayL far next x v).length + d →
      Calls Try.prog 81 #[m, bv, .int .i64 (t : Int)] w (WayPost w (wayL far next x t) v) := by
  have T := tree_of (valid_of h0).lanes (valid_of h0).good hR
  have HT := Lib.hid T
  have HG := Lib.hid (valid_of h0).good
  have h8 := (valid_of h0).le
  clear T
  intro d
  induction d with
  | zero =>
    intro w m bv v hm hv hb hd
    have := HT.out.way_length hx hv
    omega
  | succ d ih =>
    intro w m bv v hm hv hb hd
    have IH := Lib.hid ih
    clear ih
    have HM : Hid (∀ w', Below w.heap.size w w' → Mkt w' m L N) := Lib.hid (fun w' hb => hm.below hb)
    have HBV : Hid (∀ w', Below w.heap.size w w' → Ints w' bv (upL (wayL far next x v))) := Lib.hid (fun w' hb' => hb.below hb')
    obtain ⟨la, lc, na, nc, rfl, hl, hN⟩ := hm.shape
    obtain ⟨WL, hWL⟩ : ∃ l, l = wayL far next x v := ⟨_, rfl⟩
    obtain ⟨WT, hWT⟩ : ∃ l, l = wayL far next x t := ⟨_, rfl⟩
    rw [← hWL] at HBV hb hd
    have hne : 1 ≤ WL.length := by rw [hWL]; exact List.length_pos_iff.2 (HT.out.wayL_ne hx hv)
    have hlast : WL[WL.length - 1]? = some v := by rw [hWL]; exact HT.out.way_last hx hv
    have hlen : WL.length ≤ L.length := by rw [hWL]; exact HT.out.way_length hx hv
    obtain ⟨_, ba, bc, bb, bo, hbe, hba, hbc⟩ := hb
    rw [upL_length] at hbe hba hbc
    subst hbe
    obtain rfl := hba.resolve_left (by omega)
    obtain ⟨q, hq⟩ : ∃ q, WL.length = q + 1 := ⟨WL.length - 1, by omega⟩
    have qv : w.cell? ⟨bb, bo + q, none⟩ = some (.int .i64 (v : Int)) := by
      rw [hbc q (by omega), gI_upL (by omega)]
      have : WL[q]? = some v := by rw [← hlast]; congr 1; omega
      rw [List.getElem?_eq_some_iff] at this
      rw [this.2]
    rw [hq] at HBV ⊢
    have HWL := Lib.hid hWL
    have HWT := Lib.hid hWT
    have HQ := Lib.hid hq
    rw [← hWT]
    have e1 : (q : Int) + 1 - 1 = (q : Int) := by omega
    have i1 : (q : Int) + 1 ≤ 8 := by omega
    have i2 : (0 : Int) ≤ (q : Int) := by omega
    have i3 : (q : Int) < (q : Int) + 1 := by omega
    have HD := Lib.hid hd
    clear hm hl hN hbc hlast hWL hWT hq hd hba
    go_enter Try.func81, Try.ntmps81
    have HB := Lib.hid (Below.one w (.cells #[.slice la L.length lc, .slice na N.length nc] 28))
    have qv1 := Below.cellOf HB.out qv
    clear qv
    by_cases hvt : v = t
    · have hmem : v ∈ WT := by rw [HWT.out, hvt]; exact List.mem_of_getElem? (HT.out.way_last hx ht)
      have hWE : WL = WT := by rw [HWL.out, HWT.out, hvt]
      have HX := Lib.hid (And.intro hmem hWE)
      clear hmem hWE
      subst hvt
      go_wp2
      go_ret2
      exact ⟨HB.out, .inl ⟨HX.out.1, _, rfl, by rw [← HX.out.2]; exact HBV.out _ HB.out⟩⟩
    · have hvt' : ((v : Int) == (t : Int)) = false := by rw [beq_eq_false_iff_ne]; omega
      have HNE := Lib.hid hvt
      clear hvt
      obtain ⟨nx, hnx⟩ : ∃ nx, nx = next v t := ⟨_, rfl⟩
      have HF : Hid (v ∈ WT → nx < L.length ∧ Adj N v nx ∧ nx ∈ WT ∧ nx ∉ WL) := Lib.hid (fun h => by
        rw [HWT.out] at h
        have := HT.out.way_follows hx ht h HNE.out
        rw [hnx, HWT.out, HWL.out]
        exact this)
      have HE : Hid (∀ c, c < L.length → Adj N v c → c ∉ WL → c ∈ WT → v ∈ WT ∧ c = nx) := Lib.hid (fun c hc hA h1 h2 => by
        rw [HWT.out] at h2
        rw [HWL.out] at h1
        have := HT.out.way_else hx hv ht hA h1 h2
        rw [hnx, HWT.out]
        exact ⟨this.1, this.2.2⟩)
      clear hnx
      go_wp2
      obtain ⟨W1, hW1⟩ : ∃ W1, W1 = w.alloc (.cells #[.slice la L.length lc, .slice na N.length nc] 28) := ⟨_, rfl⟩
      have c0 : W1.cell? ⟨w.heap.size, 0, none⟩ = some (.slice la L.length lc) := by rw [hW1]; simp
      have c1 : W1.cell? ⟨w.heap.size, 1, none⟩ = some (.slice na N.length nc) := by rw [hW1]; simp
      rw [← hW1] at HB ⊢
      have HC := Lib.hid (And.intro c0 c1)
      clear hW1 c0 c1
      go_loopw [9, 10, 11] (fun a _ _ => WayTry W1 L.length WT v nx a) (fun i _ _ _ => L.length - (intOf i).toNat)
      case atStart => exact ⟨0, Nat.zero_le _, rfl, fun _ => Nat.zero_le _, Below.refl _ _⟩
      case round =>
        obtain ⟨k, hk, rfl, hno, hb⟩ := hrel
        have HNO := Lib.hid hno
        have Hb := Lib.hid hb
        have c0 := Below.cellOf hb HC.out.1
        have c1 := Below.cellOf hb HC.out.2
        have HBW := Lib.hid (HB.out.trans (hb.mono HB.out.size))
        clear hno hb
        by_cases hlt : k < L.length
        · obtain ⟨ln, hln⟩ : ∃ ln, ln = laneF N (v : Int) (k : Int) := ⟨_, rfl⟩
          have hz := laneF_zero HG.out v k
          rw [← hln] at hz
          have K75 : Hid (Calls Try.prog 75 #[.agg #[.slice la L.length lc, .slice na N.length nc], .int .i64 (v : Int), .int .i64 (k : Int)] wr (Ret wr (.int .i64 ln))) := Lib.hid (by rw [hln]; exact lane_any wr _ L N v k (HM.out _ HBW.out))
          clear hln
          by_cases hA : Adj N v k
          · have hl0 : (ln == 0) = false := by rw [beq_eq_false_iff_ne]; exact fun h => hz.1 h hA
            have HA := Lib.hid hA
            clear hz hA
            by_cases hin : k ∈ WL
            · have K73 : Hid (∀ w', Below w.heap.size w w' → Calls Try.prog 73 #[.slice (some ⟨bb, bo, none⟩) (q + 1) bc, .int .i64 (k : Int)] w' fun e w'' => e = .returned (.bool true) ∧ w' = w'') := Lib.hid (fun w' hb => by
                have h := has_any w' _ (upL WL) (k : Int) (HBV.out w' hb)
                rw [decide_eq_true (mem_upL.2 hin)] at h
                exact h)
              have HI := Lib.hid hin
              clear hin
              go_wp2_with (first | (go_at_call 75; refine K75.out.mono ?_; rintro e w2 ⟨rfl, hb2⟩) | (go_at_call 73; refine (K73.out _ (HBW.out.trans (hb2.mono HBW.out.size))).mono ?_; rintro e w3 ⟨rfl, rfl⟩))
              go_roundw
              case rel => exact ⟨k + 1, by omega, by go_num, fun h => by
                have := HNO.out h
                have := (HF.out h).2.2.2
                rcases Nat.lt_or_ge k nx with h1 | h1
                · omega
                · exact absurd (show k ∈ WL from HI.out) (by rw [show k = nx by omega]; exact this), Hb.out.trans (hb2.mono Hb.out.size)⟩
              case measure => simp [intOf]; omega
            · have K73 : Hid (∀ w', Below w.heap.size w w' → Calls Try.prog 73 #[.slice (some ⟨bb, bo, none⟩) (q + 1) bc, .int .i64 (k : Int)] w' fun e w'' => e = .returned (.bool false) ∧ w' = w'') := Lib.hid (fun w' hb => by
                have h := has_any w' _ (upL WL) (k : Int) (HBV.out w' hb)
                rw [decide_eq_false (fun h => hin (mem_upL.1 h))] at h
                exact h)
              have HI := Lib.hid hin
              clear hin
              go_wp2_with (first | (go_at_call 75; refine K75.out.mono ?_; rintro e w2 ⟨rfl, hb2⟩) | (go_at_call 73; refine (K73.out _ (HBW.out.trans (hb2.mono HBW.out.size))).mono ?_; rintro e w3 ⟨rfl, rfl⟩))
              have HBW2 := Lib.hid (HBW.out.trans (hb2.mono HBW.out.size))
              have HBV2 := Lib.hid (HBV.out w2 HBW2.out)
              have hon : wayL far next x k = WL ++ [k] := by rw [HWL.out]; exact HT.out.way_on hx hv hlt HA.out (by rw [← HWL.out]; exact HI.out)
              have HON := Lib.hid hon
              replace c0 := Below.cellOf hb2 c0
              replace c1 := Below.cellOf hb2 c1
              clear hon
              by_cases hkt : k ∈ WT
              · have K81 : Hid (∀ w' bv', Below w.heap.size w w' → Ints w' bv' (upL (WL ++ [k])) → Calls Try.prog 81 #[.agg #[.slice la L.length lc, .slice na N.length nc], bv', .int .i64 (t : Int)] w' fun e w'' => Below w'.heap.size w' w'' ∧ ∃ r, e = .returned (.tuple #[r, .bool true]) ∧ Ints w'' r (upL WT)) := Lib.hid (fun w' bv' hb hi => by
                  refine (IH.out w' _ bv' k (HM.out w' hb) hlt (by rw [HON.out]; exact hi) (by rw [HON.out, List.length_append, HQ.out]; have := HD.out; have := HQ.out; simp; omega)).mono fun e w'' => ?_
                  rintro ⟨h1, h2 | h2⟩
                  · rw [← HWT.out] at h2
                    exact ⟨h1, h2.2⟩
                  · rw [← HWT.out] at h2
                    exact absurd hkt h2.1)
                have HK := Lib.hid hkt
                clear hkt
                go_region_held3 (fun w' => w'.cell? ⟨w.heap.size, 0, none⟩ = some (.slice la L.length lc) ∧ w'.cell? ⟨w.heap.size, 1, none⟩ = some (.slice na N.length nc))
                  (first | exact ⟨Below.cellOf (hb48) c0, Below.cellOf (hb48) c1⟩ | exact ⟨Below.cellOf (below_drewN (Below.refl _ _) 1) c0, Below.cellOf (below_drewN (Below.refl _ _) 1) c1⟩ | exact ⟨Below.cellOf ((below_drewN (Below.refl w2.heap.size w2) 1).alloc (Nat.le_refl _) _) c0, Below.cellOf ((below_drewN (Below.refl w2.heap.size w2) 1).alloc (Nat.le_refl _) _) c1⟩ | exact ⟨Below.cellOf (((below_drewN (Below.refl w2.heap.size w2) 1).alloc (Nat.le_refl _) _).alloc (new_size _ _) _) c0, Below.cellOf (((below_drewN (Below.refl w2.heap.size w2) 1).alloc (Nat.le_refl _) _).alloc (new_size _ _) _) c1⟩ | exact ⟨Below.cellOf (hb46) c0, Below.cellOf (hb46) c1⟩ | exact ⟨Below.cellOf (hb43.alloc hb43.size _) c0, Below.cellOf (hb43.alloc hb43.size _) c1⟩ | exact ⟨Below.cellOf (hb43) c0, Below.cellOf (hb43) c1⟩)
                  (first | (go_at_call 81; refine (K81.out w6 _ (HBW2.out.trans (hb46.mono HBW2.out.size)) (by have h := hm6.ints (by simp; omega); first | exact h | (simp only [List.length_append, List.length_singleton, List.length_cons, List.length_nil] at h; exact h))).mono ?_; rintro e w8 ⟨hb8, r8, rfl, hr8⟩; (have hb48 := hb46.trans (hb8.mono hb46.size))) | (refine step_append_list w2.heap.size rfl _ _ rfl (.slice (some ⟨w2.heap.size, 0, none⟩) 0 0) [] (by simp [Act.eval, Act.put]) (mine_none w2.drew w2.heap.size _ (Nat.le_refl _)) (.slice (some ⟨bb, bo, none⟩) (q + 1) bc) WL (by simp [Act.eval, Act.put]) (HBV2.out.below ((below_drewN (Below.refl w2.heap.size w2) 1).alloc (Nat.le_refl _) _)) hne (by simp; omega) ((below_drewN (Below.refl w2.heap.size w2) 1).alloc (Nat.le_refl _) _).size ?_; intro g4 o4 p4 w4 hm4 hg4; (have hb43 := ((below_drewN (Below.refl w2.heap.size w2) 1).alloc (Nat.le_refl _) _).grown hg4 ((below_drewN (Below.refl w2.heap.size w2) 1).alloc (Nat.le_refl _) _).size (fun b hb => by simp [Value.ownBlock] at hb; omega)); (have hm43 : Mine w4 w2.heap.size 1 (.slice (some ⟨g4, o4, none⟩) WL.length p4) WL.length (vals WL) := hm4); skip; rw [List.nil_append]) | (refine step_append_list w2.heap.size rfl _ _ rfl (.slice (some ⟨w2.heap.size, 0, none⟩) 0 0) [] (by simp [Act.eval, Act.put]) ((mine_none w2.drew w2.heap.size _ (Nat.le_refl _)).alloc _) (.slice (some ⟨bb, bo, none⟩) (q + 1) bc) WL (by simp [Act.eval, Act.put]) (HBV2.out.below (((below_drewN (Below.refl w2.heap.size w2) 1).alloc (Nat.le_refl _) _).alloc (new_size _ _) _)) hne (by simp; omega) (((below_drewN (Below.refl w2.heap.size w2) 1).alloc (Nat.le_refl _) _).alloc (new_size _ _) _).size ?_; intro g4 o4 p4 w4 hm4 hg4; (have hb43 := (((below_drewN (Below.refl w2.heap.size w2) 1).alloc (Nat.le_refl _) _).alloc (new_size _ _) _).grown hg4 (((below_drewN (Below.refl w2.heap.size w2) 1).alloc (Nat.le_refl _) _).alloc (new_size _ _) _).size (fun b hb => by simp [Value.ownBlock] at hb; omega)); (have hm43 : Mine w4 w2.heap.size 1 (.slice (some ⟨g4, o4, none⟩) WL.length p4) WL.length (vals WL) := hm4); (have hx0 := ints_new (w2.drew.alloc (.cells #[] 3)) k 3); (rw [show (w2.drew.alloc (.cells #[] 3)).heap.size = w2.heap.size + 1 by simp] at hx0); (have hx46 := hx0.grown hg4 (fun b hb e => by simp [Value.ownBlock] at hb e; omega)); rw [List.nil_append]) | (refine step_append_list w2.heap.size rfl _ _ rfl (.slice (some ⟨w2.heap.size + 1, 0, none⟩) 0 0) [] (by simp [Act.eval, Act.put]) (mine_nx w2 _) (.slice (some ⟨bb, bo, none⟩) (q + 1) bc) WL (by simp [Act.eval, Act.put]) (HBV2.out.below (((below_drewN (Below.refl w2.heap.size w2) 1).alloc (Nat.le_refl _) _).alloc (new_size _ _) _)) hne (by simp; omega) (((below_drewN (Below.refl w2.heap.size w2) 1).alloc (Nat.le_refl _) _).alloc (new_size _ _) _).size ?_; intro g4 o4 p4 w4 hm4 hg4; (have hb43 := (((below_drewN (Below.refl w2.heap.size w2) 1).alloc (Nat.le_refl _) _).alloc (new_size _ _) _).grown hg4 (((below_drewN (Below.refl w2.heap.size w2) 1).alloc (Nat.le_refl _) _).alloc (new_size _ _) _).size (fun b hb => by simp [Value.ownBlock] at hb; omega)); (have hm43 : Mine w4 w2.heap.size 1 (.slice (some ⟨g4, o4, none⟩) WL.length p4) WL.length (vals WL) := hm4); (have hx46 := ((ints_new w2.drew k 3).below (Below.one _ _)).grown hg4 (fun b hb e => by simp [Value.ownBlock] at hb e; omega)); rw [List.nil_append]) | (refine step_append_list w2.heap.size rfl _ _ rfl (.slice (some ⟨g4, o4, none⟩) WL.length p4) WL (by simp [Act.eval, Act.put]) (hm43.alloc _) (.slice (some ⟨w4.heap.size, 0, none⟩) 1 1) [k] (by simp [Act.eval, Act.put]) (ints_new w4 k _) (by simp) (by simp; omega) (hb43.alloc hb43.size _).size ?_; intro g6 o6 p6 w6 hm6 hg6; (have hb46 := (hb43.alloc hb43.size _).grown hg6 (hb43.alloc hb43.size _).size (fun b hb => (hm43.lt hb).1))) | (refine step_append_list w2.heap.size rfl _ _ rfl (.slice (some ⟨g4, o4, none⟩) WL.length p4) WL (by simp [Act.eval, Act.put]) (hm43) (.slice (some ⟨w2.heap.size + 1, 0, none⟩) 1 1) [k] (by simp [Act.eval, Act.put]) (hx46) (by simp) (by simp; omega) (hb43).size ?_; intro g6 o6 p6 w6 hm6 hg6; (have hb46 := (hb43).grown hg6 (hb43).size (fun b hb => (hm43.lt hb).1))) | (refine step_append_list w2.heap.size rfl _ _ rfl (.slice (some ⟨g4, o4, none⟩) WL.length p4) WL (by simp [Act.eval, Act.put]) (hm43) (.slice (some ⟨w2.heap.size, 0, none⟩) 1 1) [k] (by simp [Act.eval, Act.put]) (hx46) (by simp) (by simp; omega) (hb43).size ?_; intro g6 o6 p6 w6 hm6 hg6; (have hb46 := (hb43).grown hg6 (hb43).size (fun b hb => (hm43.lt hb).1))))
                all_goals
                  go_wp2
                  go_ret2
                  exact ⟨HBW2.out.trans (hb48.mono HBW2.out.size), .inl ⟨(HE.out k hlt HA.out HI.out HK.out).1, r8, rfl, hr8⟩⟩
              · have K81 : Hid (∀ w' bv', Below w.heap.size w w' → Ints w' bv' (upL (WL ++ [k])) → Calls Try.prog 81 #[.agg #[.slice la L.length lc, .slice na N.length nc], bv', .int .i64 (t : Int)] w' fun e w'' => e = .returned (.tuple #[.slice none 0 0, .bool false]) ∧ Below w'.heap.size w' w'') := Lib.hid (fun w' bv' hb hi => by
                  refine (IH.out w' _ bv' k (HM.out w' hb) hlt (by rw [HON.out]; exact hi) (by rw [HON.out, List.length_append, HQ.out]; have := HD.out; have := HQ.out; simp; omega)).mono fun e w'' => ?_
                  rintro ⟨h1, h2 | h2⟩
                  · rw [← HWT.out] at h2
                    exact absurd h2.1 hkt
                  · rw [← HWT.out] at h2
                    exact ⟨h2.2, h1⟩)
                have HK := Lib.hid hkt
                clear hkt
                go_region_held3 (fun w' => w'.cell? ⟨w.heap.size, 0, none⟩ = some (.slice la L.length lc) ∧ w'.cell? ⟨w.heap.size, 1, none⟩ = some (.slice na N.length nc))
                  (first | exact ⟨Below.cellOf (hb48) c0, Below.cellOf (hb48) c1⟩ | exact ⟨Below.cellOf (below_drewN (Below.refl _ _) 1) c0, Below.cellOf (below_drewN (Below.refl _ _) 1) c1⟩ | exact ⟨Below.cellOf ((below_drewN (Below.refl w2.heap.size w2) 1).alloc (Nat.le_refl _) _) c0, Below.cellOf ((below_drewN (Below.refl w2.heap.size w2) 1).alloc (Nat.le_refl _) _) c1⟩ | exact ⟨Below.cellOf (((below_drewN (Below.refl w2.heap.size w2) 1).alloc (Nat.le_refl _) _).alloc (new_size _ _) _) c0, Below.cellOf (((below_drewN (Below.refl w2.heap.size w2) 1).alloc (Nat.le_refl _) _).alloc (new_size _ _) _) c1⟩ | exact ⟨Below.cellOf (hb46) c0, Below.cellOf (hb46) c1⟩ | exact ⟨Below.cellOf (hb43.alloc hb43.size _) c0, Below.cellOf (hb43.alloc hb43.size _) c1⟩ | exact ⟨Below.cellOf (hb43) c0, Below.cellOf (hb43) c1⟩)
                  (first | (go_at_call 81; refine (K81.out w6 _ (HBW2.out.trans (hb46.mono HBW2.out.size)) (by have h := hm6.ints (by simp; omega); first | exact h | (simp only [List.length_append, List.length_singleton, List.length_cons, List.length_nil] at h; exact h))).mono ?_; rintro e w8 ⟨rfl, hb8⟩; (have hb48 := hb46.trans (hb8.mono hb46.size))) | (refine step_append_list w2.heap.size rfl _ _ rfl (.slice (some ⟨w2.heap.size, 0, none⟩) 0 0) [] (by simp [Act.eval, Act.put]) (mine_none w2.drew w2.heap.size _ (Nat.le_refl _)) (.slice (some ⟨bb, bo, none⟩) (q + 1) bc) WL (by simp [Act.eval, Act.put]) (HBV2.out.below ((below_drewN (Below.refl w2.heap.size w2) 1).alloc (Nat.le_refl _) _)) hne (by simp; omega) ((below_drewN (Below.refl w2.heap.size w2) 1).alloc (Nat.le_refl _) _).size ?_; intro g4 o4 p4 w4 hm4 hg4; (have hb43 := ((below_drewN (Below.refl w2.heap.size w2) 1).alloc (Nat.le_refl _) _).grown hg4 ((below_drewN (Below.refl w2.heap.size w2) 1).alloc (Nat.le_refl _) _).size (fun b hb => by simp [Value.ownBlock] at hb; omega)); (have hm43 : Mine w4 w2.heap.size 1 (.slice (some ⟨g4, o4, none⟩) WL.length p4) WL.length (vals WL) := hm4); skip; rw [List.nil_append]) | (refine step_append_list w2.heap.size rfl _ _ rfl (.slice (some ⟨w2.heap.size, 0, none⟩) 0 0) [] (by simp [Act.eval, Act.put]) ((mine_none w2.drew w2.heap.size _ (Nat.le_refl _)).alloc _) (.slice (some ⟨bb, bo, none⟩) (q + 1) bc) WL (by simp [Act.eval, Act.put]) (HBV2.out.below (((below_drewN (Below.refl w2.heap.size w2) 1).alloc (Nat.le_refl _) _).alloc (new_size _ _) _)) hne (by simp; omega) (((below_drewN (Below.refl w2.heap.size w2) 1).alloc (Nat.le_refl _) _).alloc (new_size _ _) _).size ?_; intro g4 o4 p4 w4 hm4 hg4; (have hb43 := (((below_drewN (Below.refl w2.heap.size w2) 1).alloc (Nat.le_refl _) _).alloc (new_size _ _) _).grown hg4 (((below_drewN (Below.refl w2.heap.size w2) 1).alloc (Nat.le_refl _) _).alloc (new_size _ _) _).size (fun b hb => by simp [Value.ownBlock] at hb; omega)); (have hm43 : Mine w4 w2.heap.size 1 (.slice (some ⟨g4, o4, none⟩) WL.length p4) WL.length (vals WL) := hm4); (have hx0 := ints_new (w2.drew.alloc (.cells #[] 3)) k 3); (rw [show (w2.drew.alloc (.cells #[] 3)).heap.size = w2.heap.size + 1 by simp] at hx0); (have hx46 := hx0.grown hg4 (fun b hb e => by simp [Value.ownBlock] at hb e; omega)); rw [List.nil_append]) | (refine step_append_list w2.heap.size rfl _ _ rfl (.slice (some ⟨w2.heap.size + 1, 0, none⟩) 0 0) [] (by simp [Act.eval, Act.put]) (mine_nx w2 _) (.slice (some ⟨bb, bo, none⟩) (q + 1) bc) WL (by simp [Act.eval, Act.put]) (HBV2.out.below (((below_drewN (Below.refl w2.heap.size w2) 1).alloc (Nat.le_refl _) _).alloc (new_size _ _) _)) hne (by simp; omega) (((below_drewN (Below.refl w2.heap.size w2) 1).alloc (Nat.le_refl _) _).alloc (new_size _ _) _).size ?_; intro g4 o4 p4 w4 hm4 hg4; (have hb43 := (((below_drewN (Below.refl w2.heap.size w2) 1).alloc (Nat.le_refl _) _).alloc (new_size _ _) _).grown hg4 (((below_drewN (Below.refl w2.heap.size w2) 1).alloc (Nat.le_refl _) _).alloc (new_size _ _) _).size (fun b hb => by simp [Value.ownBlock] at hb; omega)); (have hm43 : Mine w4 w2.heap.size 1 (.slice (some ⟨g4, o4, none⟩) WL.length p4) WL.length (vals WL) := hm4); (have hx46 := ((ints_new w2.drew k 3).below (Below.one _ _)).grown hg4 (fun b hb e => by simp [Value.ownBlock] at hb e; omega)); rw [List.nil_append]) | (refine step_append_list w2.heap.size rfl _ _ rfl (.slice (some ⟨g4, o4, none⟩) WL.length p4) WL (by simp [Act.eval, Act.put]) (hm43.alloc _) (.slice (some ⟨w4.heap.size, 0, none⟩) 1 1) [k] (by simp [Act.eval, Act.put]) (ints_new w4 k _) (by simp) (by simp; omega) (hb43.alloc hb43.size _).size ?_; intro g6 o6 p6 w6 hm6 hg6; (have hb46 := (hb43.alloc hb43.size _).grown hg6 (hb43.alloc hb43.size _).size (fun b hb => (hm43.lt hb).1))) | (refine step_append_list w2.heap.size rfl _ _ rfl (.slice (some ⟨g4, o4, none⟩) WL.length p4) WL (by simp [Act.eval, Act.put]) (hm43) (.slice (some ⟨w2.heap.size + 1, 0, none⟩) 1 1) [k] (by simp [Act.eval, Act.put]) (hx46) (by simp) (by simp; omega) (hb43).size ?_; intro g6 o6 p6 w6 hm6 hg6; (have hb46 := (hb43).grown hg6 (hb43).size (fun b hb => (hm43.lt hb).1))) | (refine step_append_list w2.heap.size rfl _ _ rfl (.slice (some ⟨g4, o4, none⟩) WL.length p4) WL (by simp [Act.eval, Act.put]) (hm43) (.slice (some ⟨w2.heap.size, 0, none⟩) 1 1) [k] (by simp [Act.eval, Act.put]) (hx46) (by simp) (by simp; omega) (hb43).size ?_; intro g6 o6 p6 w6 hm6 hg6; (have hb46 := (hb43).grown hg6 (hb43).size (fun b hb => (hm43.lt hb).1))))
                all_goals
                  go_wp2
                  go_roundw
                  case rel => first | exact ⟨k + 1, by omega, by go_num, fun h => by
                    have := HNO.out h
                    have := (HF.out h).2.2.1
                    rcases Nat.lt_or_ge k nx with h1 | h1
                    · omega
                    · exact absurd (show k ∈ WT from (by rw [show k = nx by omega]; exact this)) HK.out, Hb.out.trans ((hb2.trans (hb48.mono hb2.size)).mono Hb.out.size)⟩ | ((repeat apply Exists.intro); exact ⟨⟨k + 1, by omega, by go_num, fun h => by
                    have := HNO.out h
                    have := (HF.out h).2.2.1
                    rcases Nat.lt_or_ge k nx with h1 | h1
                    · omega
                    · exact absurd (show k ∈ WT from (by rw [show k = nx by omega]; exact this)) HK.out, Hb.out.trans ((hb2.trans (hb48.mono hb2.size)).mono Hb.out.size)⟩, rfl⟩)
                  case measure => simp [intOf]; omega
          · have hl0 : ln = 0 := hz.2 hA
            subst hl0
            have HA := Lib.hid hA
            clear hz hA
            go_wp2_with (first | (go_at_call 75; refine K75.out.mono ?_; rintro e w2 ⟨rfl, hb2⟩))
            go_roundw
            case rel => exact ⟨k + 1, by omega, by go_num, fun h => by
              have := HNO.out h
              have := (HF.out h).2.1
              rcases Nat.lt_or_ge k nx with h1 | h1
              · omega
              · exact absurd (show Adj N v k from (by rw [show k = nx by omega]; exact this)) HA.out, Hb.out.trans (hb2.mono Hb.out.size)⟩
            case measure => simp [intOf]; omega
        · obtain rfl : k = L.length := by omega
          go_wp2
          go_ret2
          exact ⟨HBW.out, .inr ⟨fun h => by have := HNO.out h; have := (HF.out h).1; omega, rfl⟩⟩
end Go.Proofs.Ytkhkgmelicdpkaa
