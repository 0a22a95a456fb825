/- The reference's heavy, Branch, Why, Proves. -/
import Derived.Test.YtkhkgmelicdpkaaRh
set_option linter.unusedVariables false
set_option linter.unusedSimpArgs false
namespace Go.Proofs.Ytkhkgmelicdpkaa
open Go.RowKit Go.BigFrame

/-- What the reference's reached finds from a neighbour, without a corner: the branch. -/
def BranchPost (w : World) (n : Nat) (next : Nat → Nat → Nat) (a b : Nat) (e : Ending) (w' : World) : Prop :=
  ∃ v l, e = .returned v ∧ Ints w' v (upL l) ∧ (∀ c, c < n → decide ((c : Int) ∈ upL l) = inBr next a b c) ∧ Below w.heap.size w w'
theorem reached_branch {w : World} {m wv : Value} {L : List Int} {N : List Lane} {a b : Nat} {far : Nat → Nat → Int} {next : Nat → Nat → Nat} (hm : Mkt w m L N) (h0 : checkCode L N = 0) (hR : AllRooted L.length N far next) (hw : Ints w wv (upL [a])) (ha : a < L.length) (hb : b < L.length) (hA : Adj N a b) :
    Calls Try.prog 72 #[m, .int .i64 (b : Int), wv] w (BranchPost w L.length next a b) := by
  have hV := valid_of h0
  have T := tree_of hV.lanes hV.good hR
  refine (reached_any w m wv L N [a] b hm hw hV.good hV.le hb).mono fun e w' => ?_
  rintro ⟨v, l, rfl, hmet, hmi, hbw⟩
  refine ⟨v, l, rfl, hmi.ints (by have := hmet.length; have := hV.le; omega), fun c hc => ?_, hbw⟩
  have h1 := T.met_branch ha hb hA hmet (fun y => by simp) c hc
  by_cases h : c ∈ l
  · rw [decide_eq_true (mem_upL.2 h), h1.1 h]
  · rw [decide_eq_false (fun h' => h (mem_upL.1 h'))]
    have h2 : ¬ inBr next a b c = true := fun h' => h (h1.2 h')
    rw [Bool.not_eq_true] at h2
    exact h2.symm
def HvRel (w1 : World) (L : List Int) (next : Nat → Nat → Nat) (a b : Nat) (iv tv av : Value) (wr : World) : Prop := ∃ k : Nat, k ≤ L.length ∧ iv = .int .i64 (k : Int) ∧ tv = .int .i64 (sumF (loadIn L next a b) k) ∧ av = .int .i64 (sumF (gI L) k) ∧ Below w1.heap.size w1 wr
set_option maxRecDepth 100000 in
set_option maxHeartbeats 4000000 in
theorem heavy_r (w : World) (m : Value) (L : List Int) (N : List Lane) (a b : Nat) (far : Nat → Nat → Int) (next : Nat → Nat → Nat) (hm : Mkt w m L N) (h0 : checkCode L N = 0) (hR : AllRooted L.length N far next) (ha : a < L.length) (hb : b < L.length) (hA : Adj N a b) :
    Calls Try.prog 76 #[m, .int .i64 (a : Int), .int .i64 (b : Int)] w (Ret w (.bool (decide (sumF (gI L) L.length < 2 * sumF (loadIn L next a b) L.length)))) := by
  have HM : Hid (∀ w', Below w.heap.size w w' → Mkt w' m L N) := Lib.hid (fun w' hb => hm.below hb)
  obtain ⟨la, lc, na, nc, rfl, hlM, hN⟩ := hm.shape
  obtain ⟨_, xa, xc, xb, xo, hxe, hxa, hxc⟩ := hlM
  simp only [Value.slice.injEq] at hxe
  obtain ⟨rfl, _, rfl⟩ := hxe
  have HV := Lib.hid (valid_of h0)
  have h8 := HV.out.le
  have hp := HV.out.pos
  obtain rfl := hxa.resolve_left (by omega)
  have HXC : Hid (∀ k, k < L.length → w.cell? ⟨xb, xo + k, none⟩ = some (.int .i64 (gI L k))) := Lib.hid hxc
  have K72 : Hid (∀ w' wv, Below w.heap.size w w' → Ints w' wv (upL [a]) → Calls Try.prog 72 #[.agg #[.slice (some ⟨xb, xo, none⟩) L.length lc, .slice na N.length nc], .int .i64 (b : Int), wv] w' (BranchPost w' L.length next a b)) := Lib.hid (fun w' wv hbw hi => reached_branch (HM.out _ hbw) h0 hR hi ha hb hA)
  have HB := Lib.hid (Below.two w (.cells #[.slice (some ⟨xb, xo, none⟩) L.length lc, .slice na N.length nc] 28) (.cells #[.int .i64 (a : Int)] 3))
  clear hm hN hxa hxc h0 hR hA
  go_enter Try.func76, Try.ntmps76
  go_wp2_with (first | (go_at_call 72; refine (K72.out _ _ HB.out (by exact (by
      have h := ints_new (w.alloc (.cells #[.slice (some ⟨xb, xo, none⟩) L.length lc, .slice na N.length nc] 28)) a 3
      first | exact h | (simp only [World.size_alloc] at h; exact h)))).mono ?_; rintro e w1 ⟨v, l, rfl, hi, hin, hb1⟩))
  have hb2 : Below (w.alloc (.cells #[.slice (some ⟨xb, xo, none⟩) L.length lc, .slice na N.length nc] 28)).heap.size (w.alloc (.cells #[.slice (some ⟨xb, xo, none⟩) L.length lc, .slice na N.length nc] 28)) w1 := (Below.one _ _).trans (hb1.mono (new_size _ _))
  have c0 : w1.cell? ⟨w.heap.size, 0, none⟩ = some (.slice (some ⟨xb, xo, none⟩) L.length lc) := Below.cellOf hb2 (by simp)
  have HBW := Lib.hid (HB.out.trans (hb1.mono HB.out.size))
  have HC := Lib.hid c0
  have HI := Lib.hid hi
  have HIN := Lib.hid hin
  clear hb1 hb2 c0 hi hin
  go_loopw [10, 8, 9] (HvRel w1 L next a b) (fun i _ _ _ => L.length - (intOf i).toNat)
  case atStart => exact ⟨0, Nat.zero_le _, rfl, rfl, rfl, Below.refl _ _⟩
  case round =>
    obtain ⟨k, hk, rfl, rfl, rfl, hbr⟩ := hrel
    have HBR := Lib.hid hbr
    have c0 := Below.cellOf hbr HC.out
    clear hbr
    have hs1 := sumF_bound (loadIn L next a b) L.length (loadIn_bound HV.out.loads) k hk
    have hs2 := sumF_bound (gI L) L.length HV.out.loads k hk
    obtain ⟨S1, hS1⟩ : ∃ S, S = sumF (loadIn L next a b) k := ⟨_, rfl⟩
    obtain ⟨S2, hS2⟩ : ∃ S, S = sumF (gI L) k := ⟨_, rfl⟩
    rw [← hS1] at hs1 ⊢
    rw [← hS2] at hs2 ⊢
    have HS := Lib.hid (And.intro hS1 hS2)
    clear hS1 hS2
    by_cases hlt : k < L.length
    · have hcell := Below.cellOf (HBW.out.trans (HBR.out.mono HBW.out.size)) (HXC.out k hlt)
      have hload := HV.out.loads k hlt
      have HIR := Lib.hid (HI.out.below HBR.out)
      by_cases hbr : inBr next a b k = true
      · have K73 : Hid (Calls Try.prog 73 #[v, .int .i64 (k : Int)] wr fun e w'' => e = .returned (.bool true) ∧ wr = w'') := Lib.hid (by
          have h := has_any wr v _ (k : Int) HIR.out
          rw [HIN.out k hlt, hbr] at h
          exact h)
        have HBT := Lib.hid hbr
        clear hbr
        go_wp2_with (first | (go_at_call 73; refine K73.out.mono ?_; rintro e w3 ⟨rfl, rfl⟩))
        go_roundw
        case rel => exact ⟨k + 1, by omega, by go_num, by simp only [sumF]; rw [HS.out.1, show loadIn L next a b k = gI L k by unfold loadIn; rw [if_pos HBT.out]], by simp only [sumF]; rw [HS.out.2], HBR.out⟩
        case measure => simp [intOf]; omega
      · rw [Bool.not_eq_true] at hbr
        have K73 : Hid (Calls Try.prog 73 #[v, .int .i64 (k : Int)] wr fun e w'' => e = .returned (.bool false) ∧ wr = w'') := Lib.hid (by
          have h := has_any wr v _ (k : Int) HIR.out
          rw [HIN.out k hlt, hbr] at h
          exact h)
        have HBT := Lib.hid hbr
        clear hbr
        go_wp2_with (first | (go_at_call 73; refine K73.out.mono ?_; rintro e w3 ⟨rfl, rfl⟩))
        go_roundw
        case rel => exact ⟨k + 1, by omega, by go_num, by simp only [sumF]; rw [HS.out.1, show loadIn L next a b k = 0 by unfold loadIn; rw [if_neg (by rw [HBT.out]; simp)], Int.add_zero], by simp only [sumF]; rw [HS.out.2], HBR.out⟩
        case measure => simp [intOf]; omega
    · obtain rfl : k = L.length := by omega
      go_wp2
      go_ret
      exact ⟨ret_bool (by rw [HS.out.1, HS.out.2]), HBW.out.trans (HBR.out.mono HBW.out.size)⟩
theorem over_adj {L : List Int} {N : List Lane} {a b : Nat} (h0 : checkCode L N = 0) (ha : a < L.length) (hb : b < L.length) (hA : Adj N a b) : overCode L N a b = 0 := by
  unfold overCode
  have h := laneF_pos (valid_of h0).good a b
  rw [if_neg (by rw [corners_ok2 h0 ha hb]; simp), if_neg (by have := h.2 hA; omega)]
theorem over_not {L : List Int} {N : List Lane} {a b : Nat} (h0 : checkCode L N = 0) (ha : a < L.length) (hb : b < L.length) (hA : ¬ Adj N a b) : overCode L N a b = 5 := by
  unfold overCode
  rw [if_neg (by rw [corners_ok2 h0 ha hb]; simp), if_pos ((laneF_zero (valid_of h0).good a b).2 hA)]
theorem over_bad {L : List Int} {N : List Lane} {a b : Int} (h : laidCode L N [a, b] ≠ 0) : overCode L N a b = laidCode L N [a, b] := by
  unfold overCode; rw [if_pos h]
set_option maxRecDepth 100000 in
set_option maxHeartbeats 4000000 in
theorem Branch_rbad (w : World) (m : Value) (L : List Int) (N : List Lane) (a b c : Int) (hm : Mkt w m L N) (hc : overCode L N a b = c) (hne : c ≠ 0) :
    Calls Try.prog 21 #[m, .int .i64 a, .int .i64 b] w (Ret w (.tuple #[.slice none 0 0, .int .i64 c])) := by
  have HM : Hid (∀ w', Below w.heap.size w w' → Mkt w' m L N) := Lib.hid (fun w' hb => hm.below hb)
  obtain ⟨la, lc, na, nc, rfl, hlM, hN⟩ := hm.shape
  have K71 : Hid (∀ w', Below w.heap.size w w' → Calls Try.prog 71 #[.agg #[.slice la L.length lc, .slice na N.length nc], .int .i64 a, .int .i64 b] w' (Ret w' (.int .i64 c))) := Lib.hid (fun w' hb => by rw [← hc]; exact over_r w' _ L N a b (HM.out _ hb))
  have HB := Lib.hid (Below.one w (.cells #[.slice la L.length lc, .slice na N.length nc] 28))
  have h1 : (c == 0) = false := by rw [beq_eq_false_iff_ne]; exact hne
  have h2 : (c != 0) = true := by simp; exact hne
  clear hm hlM hN hc hne
  go_enter Try.func21, Try.ntmps21
  go_wp2_with (first | (go_at_call 71; refine (K71.out _ HB.out).mono ?_; rintro e w1 ⟨rfl, hb1⟩))
  go_ret2
  exact ⟨rfl, HB.out.trans (hb1.mono HB.out.size)⟩
set_option maxRecDepth 100000 in
set_option maxHeartbeats 4000000 in
theorem Branch_r (w : World) (m : Value) (L : List Int) (N : List Lane) (a b : Nat) (far : Nat → Nat → Int) (next : Nat → Nat → Nat) (hm : Mkt w m L N) (h0 : checkCode L N = 0) (hR : AllRooted L.length N far next) (ha : a < L.length) (hb : b < L.length) (hA : Adj N a b) :
    Calls Try.prog 21 #[m, .int .i64 (a : Int), .int .i64 (b : Int)] w (RetList w ((List.range L.length).filter (inBr next a b)) 0) := by
  have HM : Hid (∀ w', Below w.heap.size w w' → Mkt w' m L N) := Lib.hid (fun w' hb => hm.below hb)
  obtain ⟨la, lc, na, nc, rfl, hlM, hN⟩ := hm.shape
  have HV := Lib.hid (valid_of h0)
  have h8 := HV.out.le
  have K71 : Hid (∀ w', Below w.heap.size w w' → Calls Try.prog 71 #[.agg #[.slice la L.length lc, .slice na N.length nc], .int .i64 (a : Int), .int .i64 (b : Int)] w' (Ret w' (.int .i64 0))) := Lib.hid (fun w' hbw => by rw [← over_adj h0 ha hb hA]; exact over_r w' _ L N a b (HM.out _ hbw))
  have K72 : Hid (∀ w' wv, Below w.heap.size w w' → Ints w' wv (upL [a]) → Calls Try.prog 72 #[.agg #[.slice la L.length lc, .slice na N.length nc], .int .i64 (b : Int), wv] w' (BranchPost w' L.length next a b)) := Lib.hid (fun w' wv hbw hi => reached_branch (HM.out _ hbw) h0 hR hi ha hb hA)
  have HB := Lib.hid (Below.one w (.cells #[.slice la L.length lc, .slice na N.length nc] 28))
  clear hm hlM hN h0 hR hA
  go_enter Try.func21, Try.ntmps21
  go_wp2_with (first
    | (go_at_call 71; refine (K71.out _ HB.out).mono ?_; rintro e w1 ⟨rfl, hb1⟩; (have c0 := Below.cellOf hb1 (show (w.alloc (.cells #[.slice la L.length lc, .slice na N.length nc] 28)).cell? ⟨w.heap.size, 0, none⟩ = some (.slice la L.length lc) by simp)); (have c1 := Below.cellOf hb1 (show (w.alloc (.cells #[.slice la L.length lc, .slice na N.length nc] 28)).cell? ⟨w.heap.size, 1, none⟩ = some (.slice na N.length nc) by simp)); (have HB1 := Lib.hid (HB.out.trans (hb1.mono HB.out.size))))
    | (go_at_call 72; refine (K72.out _ _ (HB1.out.alloc HB1.out.size _) (by exact ints_new _ _ _)).mono ?_; rintro e w2 ⟨v, l, rfl, hi, hin, hb2⟩))
  have hb3 : Below w1.heap.size w1 w2 := (Below.one _ _).trans (hb2.mono (new_size _ _))
  have HBW := Lib.hid (HB1.out.trans (hb3.mono HB1.out.size))
  have HC := Lib.hid (Below.cellOf hb3 c0)
  have HI := Lib.hid hi
  have HIN := Lib.hid hin
  clear hb1 hb2 hb3 c0 c1 hi hin
  go_loopw [11, 10] (FiltRel w2 (inBr next a b) L.length) (fun i _ _ => L.length - (intOf i).toNat)
  case atStart => exact ⟨0, Nat.zero_le _, rfl, Mine.nil _ _ _, Below.refl _ _⟩
  case round =>
    obtain ⟨k, hk, rfl, hmi, hbr⟩ := hrel
    have Hm := Lib.hid hmi
    have Hb := Lib.hid hbr
    have c0 := Below.cellOf hbr HC.out
    clear hmi hbr
    by_cases hlt : k < L.length
    · have HIR := Lib.hid (HI.out.below Hb.out)
      have hfl := filt_len (inBr next a b) k
      have hsm : ((List.range k).filter (inBr next a b)).length ≤ 1000000000000 := by omega
      have hBs : w2.heap.size ≤ wr.heap.size := Hb.out.size
      by_cases hbr : inBr next a b k = true
      · have K73 : Hid (Calls Try.prog 73 #[v, .int .i64 (k : Int)] wr fun e w'' => e = .returned (.bool true) ∧ wr = w'') := Lib.hid (by
          have h := has_any wr v _ (k : Int) HIR.out
          rw [HIN.out k hlt, hbr] at h
          exact h)
        have HBT := Lib.hid hbr
        clear hbr
        go_wp2_with (first | (go_at_call 73; refine K73.out.mono ?_; rintro e w3 ⟨rfl, rfl⟩) | (at_builtin; refine append_int w2.heap.size rfl _ _ rfl _ _ _ rfl (Hm.out.alloc _) wr.heap.size 0 1 rfl (k : Int) (by exact new_cell _ _ _) hsm (by exact Nat.le_trans hBs (new_size _ _)) ?_; intro v' w3 hm3 hg3 _))
        go_roundw
        case rel => exact filt_yes hlt HBT.out Hm.out Hb.out ((Below.refl _ _).alloc (Nat.le_refl _) _) hm3 hg3
        case measure => simp [intOf]; omega
      · rw [Bool.not_eq_true] at hbr
        have K73 : Hid (Calls Try.prog 73 #[v, .int .i64 (k : Int)] wr fun e w'' => e = .returned (.bool false) ∧ wr = w'') := Lib.hid (by
          have h := has_any wr v _ (k : Int) HIR.out
          rw [HIN.out k hlt, hbr] at h
          exact h)
        have HBT := Lib.hid hbr
        clear hbr
        go_wp2_with (first | (go_at_call 73; refine K73.out.mono ?_; rintro e w3 ⟨rfl, rfl⟩))
        go_roundw
        case rel => exact filt_no hlt HBT.out Hm.out Hb.out (Below.refl _ _)
        case measure => simp [intOf]; omega
    · obtain rfl : k = L.length := by omega
      go_wp2
      go_ret2
      exact ⟨_, rfl, Hm.out.base HBW.out.size, HBW.out.trans (Hb.out.mono HBW.out.size)⟩
set_option maxRecDepth 100000 in
set_option maxHeartbeats 4000000 in
theorem Proves_rbad (w : World) (m : Value) (L : List Int) (N : List Lane) (a b c : Int) (hm : Mkt w m L N) (hc : overCode L N a b = c) (hne : c ≠ 0) :
    Calls Try.prog 26 #[m, .int .i64 a, .int .i64 b] w (Ret w (.int .i64 c)) := by
  have HM : Hid (∀ w', Below w.heap.size w w' → Mkt w' m L N) := Lib.hid (fun w' hb => hm.below hb)
  obtain ⟨la, lc, na, nc, rfl, hlM, hN⟩ := hm.shape
  have K71 : Hid (∀ w', Below w.heap.size w w' → Calls Try.prog 71 #[.agg #[.slice la L.length lc, .slice na N.length nc], .int .i64 a, .int .i64 b] w' (Ret w' (.int .i64 c))) := Lib.hid (fun w' hb => by rw [← hc]; exact over_r w' _ L N a b (HM.out _ hb))
  have HB := Lib.hid (Below.one w (.cells #[.slice la L.length lc, .slice na N.length nc] 28))
  have h1 : (c == 0) = false := by rw [beq_eq_false_iff_ne]; exact hne
  clear hm hlM hN hc hne
  go_enter Try.func26, Try.ntmps26
  go_wp2_with (first | (go_at_call 71; refine (K71.out _ HB.out).mono ?_; rintro e w1 ⟨rfl, hb1⟩))
  go_ret
  exact ⟨rfl, HB.out.trans (hb1.mono HB.out.size)⟩
set_option maxRecDepth 100000 in
set_option maxHeartbeats 4000000 in
theorem Proves_r (w : World) (m : Value) (L : List Int) (N : List Lane) (a b : Nat) (far : Nat → Nat → Int) (next : Nat → Nat → Nat) (hm : Mkt w m L N) (h0 : checkCode L N = 0) (hR : AllRooted L.length N far next) (ha : a < L.length) (hb : b < L.length) (hA : Adj N a b) :
    Calls Try.prog 26 #[m, .int .i64 (a : Int), .int .i64 (b : Int)] w (Ret w (.int .i64 (provesCode L next a b))) := by
  have HM : Hid (∀ w', Below w.heap.size w w' → Mkt w' m L N) := Lib.hid (fun w' hb => hm.below hb)
  obtain ⟨la, lc, na, nc, rfl, hlM, hN⟩ := hm.shape
  have K71 : Hid (∀ w', Below w.heap.size w w' → Calls Try.prog 71 #[.agg #[.slice la L.length lc, .slice na N.length nc], .int .i64 (a : Int), .int .i64 (b : Int)] w' (Ret w' (.int .i64 0))) := Lib.hid (fun w' hbw => by rw [← over_adj h0 ha hb hA]; exact over_r w' _ L N a b (HM.out _ hbw))
  have K76 : Hid (∀ w' : World, Below w.heap.size w w' → Calls Try.prog 76 #[.agg #[.slice la L.length lc, .slice na N.length nc], .int .i64 (a : Int), .int .i64 (b : Int)] w' (Ret w' (.bool (decide (sumF (gI L) L.length < 2 * sumF (loadIn L next a b) L.length))))) := Lib.hid (fun w' hbw => heavy_r w' _ L N a b far next (HM.out _ hbw) h0 hR ha hb hA)
  have HB := Lib.hid (Below.one w (.cells #[.slice la L.length lc, .slice na N.length nc] 28))
  clear hm hlM hN h0 hR hA
  by_cases hh : sumF (gI L) L.length < 2 * sumF (loadIn L next a b) L.length
  · have HE : Hid (provesCode L next a b = 0) := Lib.hid (by unfold provesCode; rw [if_neg (by omega)])
    rw [decide_eq_true hh] at K76
    clear hh
    go_enter Try.func26, Try.ntmps26
    go_wp2_with (first
      | (go_at_call 71; refine (K71.out _ HB.out).mono ?_; rintro e w1 ⟨rfl, hb1⟩; (have c0 := Below.cellOf hb1 (show (w.alloc (.cells #[.slice la L.length lc, .slice na N.length nc] 28)).cell? ⟨w.heap.size, 0, none⟩ = some (.slice la L.length lc) by simp)); (have c1 := Below.cellOf hb1 (show (w.alloc (.cells #[.slice la L.length lc, .slice na N.length nc] 28)).cell? ⟨w.heap.size, 1, none⟩ = some (.slice na N.length nc) by simp)); (have HB1 := Lib.hid (HB.out.trans (hb1.mono HB.out.size))))
      | (go_at_call 76; refine (K76.out _ HB1.out).mono ?_; rintro e w2 ⟨rfl, hb2⟩))
    go_ret
    exact ⟨ret_int HE.out.symm, HB1.out.trans (hb2.mono HB1.out.size)⟩
  · have HE : Hid (provesCode L next a b = 14) := Lib.hid (by unfold provesCode; rw [if_pos (by omega)])
    rw [decide_eq_false hh] at K76
    clear hh
    go_enter Try.func26, Try.ntmps26
    go_wp2_with (first
      | (go_at_call 71; refine (K71.out _ HB.out).mono ?_; rintro e w1 ⟨rfl, hb1⟩; (have c0 := Below.cellOf hb1 (show (w.alloc (.cells #[.slice la L.length lc, .slice na N.length nc] 28)).cell? ⟨w.heap.size, 0, none⟩ = some (.slice la L.length lc) by simp)); (have c1 := Below.cellOf hb1 (show (w.alloc (.cells #[.slice la L.length lc, .slice na N.length nc] 28)).cell? ⟨w.heap.size, 1, none⟩ = some (.slice na N.length nc) by simp)); (have HB1 := Lib.hid (HB.out.trans (hb1.mono HB.out.size))))
      | (go_at_call 76; refine (K76.out _ HB1.out).mono ?_; rintro e w2 ⟨rfl, hb2⟩))
    go_ret
    exact ⟨ret_int HE.out.symm, HB1.out.trans (hb2.mono HB1.out.size)⟩
end Go.Proofs.Ytkhkgmelicdpkaa
