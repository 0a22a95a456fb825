/- Contracts of slices.Clone, of numbers and of lanes. -/
import Derived.Test.YtkhkgmelicdpkaaSm
set_option linter.unusedVariables false
set_option linter.unusedSimpArgs false
namespace Go.Proofs.Ytkhkgmelicdpkaa
open Go.RowKit

theorem laneVals_one : ∀ N : List Lane, ∀ u, u ∈ laneVals N → u.oneCell' = true := by
  intro N
  induction N with
  | nil => intro u h; cases h
  | cons l N ih =>
    intro u h
    simp only [laneVals, List.mem_cons] at h
    rcases h with rfl | rfl | rfl | h
    · rfl
    · rfl
    · rfl
    · exact ih u h
theorem src_lanes {w : World} {b o c : Nat} {N : List Lane} (h : ∀ i, i < N.length → w.cell? ⟨b, o + i * 3, none⟩ = some (.int .i64 (getT N i).1) ∧ w.cell? ⟨b, o + i * 3 + 1, none⟩ = some (.int .i64 (getT N i).2.1) ∧ w.cell? ⟨b, o + i * 3 + 2, none⟩ = some (.int .i64 (getT N i).2.2)) :
    Src Try.prog 3 23 (.slice (some ⟨b, o, none⟩) N.length c) N.length (laneVals N) w := by
  refine Src.ofSlice w Try.underlying23' ⟨b, o, none⟩ N.length c _ (laneVals_length N) (fun j u hu => ?_) (laneVals_one N)
  have hj : j < N.length * 3 := by rw [← laneVals_length]; exact (List.getElem?_eq_some_iff.1 hu).1
  have hadd : (⟨b, o, none⟩ : Addr).add j = ⟨b, o + j, none⟩ := by unfold Addr.add; split <;> simp_all
  rw [hadd]
  have h3 := h (j / 3) (by omega)
  have hv := laneVals_at N (j / 3) (by omega)
  have hm : j % 3 = 0 ∨ j % 3 = 1 ∨ j % 3 = 2 := by omega
  rcases hm with e | e | e
  · have e' : j = j / 3 * 3 := by omega
    have hu' : (laneVals N)[j / 3 * 3]? = some u := by rw [← e']; exact hu
    rw [hv.1] at hu'
    cases hu'
    rw [show o + j = o + j / 3 * 3 by omega]
    exact h3.1
  · have e' : j = j / 3 * 3 + 1 := by omega
    have hu' : (laneVals N)[j / 3 * 3 + 1]? = some u := by rw [← e']; exact hu
    rw [hv.2.1] at hu'
    cases hu'
    rw [show o + j = o + j / 3 * 3 + 1 by omega]
    exact h3.2.1
  · have e' : j = j / 3 * 3 + 2 := by omega
    have hu' : (laneVals N)[j / 3 * 3 + 2]? = some u := by rw [← e']; exact hu
    rw [hv.2.2] at hu'
    cases hu'
    rw [show o + j = o + j / 3 * 3 + 2 by omega]
    exact h3.2.2
set_option maxRecDepth 100000 in
set_option maxHeartbeats 1000000 in
theorem clone_any (w : World) (b o c : Nat) (L : List Int) (hL : ∀ j, j < L.length → w.cell? ⟨b, o + j, none⟩ = some (.int .i64 (gI L j))) (hl : L.length ≤ 1000) :
    Calls Try.prog 64 #[.slice (some ⟨b, o, none⟩) L.length c] w fun e w' => ∃ v, e = .returned v ∧ Mine w' w.heap.size 1 v L.length (L.map (Value.int .i64)) ∧ Below w.heap.size w w' := by
  have hnil := fun wx => Lib.run_eql_slice_nil wx 22 3 (some ⟨b, o, none⟩) L.length c 0 0 Try.underlying22'
  simp only [Option.isNone_some] at hnil
  obtain ⟨i0, hi, hz0, hz1, hz2⟩ := info_parts Try.info3'
  have HS : Hid (Src Try.prog 1 22 (.slice (some ⟨b, o, none⟩) L.length c) L.length (L.map (Value.int .i64)) (w.alloc (.cells #[] 3))) := Lib.hid (Src.ofSlice _ Try.underlying22' ⟨b, o, none⟩ L.length c _ (by simp) (fun j u hu => by
    have hj : j < L.length := by have := (List.getElem?_eq_some_iff.1 hu).1; simpa using this
    have hadd : (⟨b, o, none⟩ : Addr).add j = ⟨b, o + j, none⟩ := by unfold Addr.add; split <;> simp_all
    rw [hadd]
    have h1 := Below.cellOf (Below.one w (.cells #[] 3)) (hL j hj)
    rw [h1]
    have h2 : (L.map (Value.int .i64))[j]? = some (.int .i64 (gI L j)) := by simp [hj, gI]
    rw [h2] at hu
    exact hu) (fun u hu => by obtain ⟨x, _, rfl⟩ := List.mem_map.1 hu; rfl))
  have HI := Lib.hid hi
  go_enter Try.func64, Try.ntmps64
  clear hi
  go_wp2_with (at_builtin; refine wpList_append_mine rfl _ _ 22 22 rfl w.heap.size 1 8 3 i0 (.int .i64 0) Try.underlying22' HI.out hz0 hz1 hz2 rfl (.slice (some ⟨w.heap.size, 0, none⟩) 0 0) 0 [] rfl (Mine.made w w.heap.size 1 #[] 3 0 (Nat.le_refl _) (by decide) rfl) _ rfl L.length (L.map (Value.int .i64)) HS.out (by simp only [maxLen]; omega) (by omega) (by exact new_size _ _) ?_; intro v' w' hm' hg' _)
  go_ret
  refine ⟨_, rfl, ?_, ?_⟩
  · rw [Nat.zero_add] at hm'
    exact hm'
  · exact (Below.one w _).grown hg' (new_size _ _) (fun g hg => by simp [Value.ownBlock] at hg; subst hg; exact Nat.le_refl _)
set_option maxRecDepth 100000 in
set_option maxHeartbeats 1000000 in
theorem clone_lanes (w : World) (a : Option Addr) (c : Nat) (N : List Lane) (hN : Lanes w (.slice a N.length c) N) (hl : N.length ≤ 1000) :
    Calls Try.prog 65 #[.slice a N.length c] w fun e w' => ∃ v, e = .returned v ∧ Mine w' w.heap.size 3 v N.length (laneVals N) ∧ Below w.heap.size w w' := by
  obtain ⟨_, xa, xc, xb, xo, hse, hxa, hxc⟩ := hN
  simp only [Value.slice.injEq] at hse
  obtain ⟨rfl, _, rfl⟩ := hse
  have hnil := fun wx => Lib.run_eql_slice_nil wx 23 58 a N.length c 0 0 Try.underlying23'
  cases a with
  | none =>
    simp only [Option.isNone_none] at hnil
    have h0 : N.length = 0 := by rcases hxa with h | h; exact h; cases h
    obtain rfl : N = [] := List.eq_nil_of_length_eq_zero h0
    clear hnil
    have hnil := fun wx => Lib.run_eql_slice_nil wx 23 58 none 0 c 0 0 Try.underlying23'
    simp only [Option.isNone_none] at hnil
    show Calls Try.prog 65 #[.slice none 0 c] w _
    clear hxc hxa h0
    go_enter Try.func65, Try.ntmps65
    go_wp2
    go_ret
    exact ⟨_, rfl, Mine.nil _ _ _, Below.refl _ _⟩
  | some ad =>
    simp only [Option.isNone_some] at hnil
    obtain ⟨i0, hi, hz0, hz1, hz2⟩ := info_parts Try.info58'
    have HI := Lib.hid hi
    have HS : Hid (Src Try.prog 3 23 (.slice (some ad) N.length c) N.length (laneVals N) (w.alloc (.cells #[] 58))) := Lib.hid (by
      rcases hxa with h0 | h0
      · obtain rfl : N = [] := List.eq_nil_of_length_eq_zero h0
        exact Src.ofSlice _ Try.underlying23' ad 0 c [] rfl (fun j u hu => by simp at hu) (fun u hu => by cases hu)
      · cases h0
        exact src_lanes (fun i hi => ⟨Below.cellOf (Below.one w _) (hxc i hi).1, Below.cellOf (Below.one w _) (hxc i hi).2.1, Below.cellOf (Below.one w _) (hxc i hi).2.2⟩))
    clear hxc hxa
    go_enter Try.func65, Try.ntmps65
    clear hi
    go_wp2_with (at_builtin; refine wpList_append_mine rfl _ _ 23 23 rfl w.heap.size 3 24 58 i0 _ Try.underlying23' HI.out hz0 hz1 hz2 rfl (.slice (some ⟨w.heap.size, 0, none⟩) 0 0) 0 [] rfl (Mine.made w w.heap.size 3 #[] 58 0 (Nat.le_refl _) (by decide) rfl) _ rfl N.length (laneVals N) HS.out (by simp only [maxLen]; omega) (by omega) (by exact new_size _ _) ?_; intro v' w' hm' hg' _)
    go_ret
    refine ⟨_, rfl, ?_, ?_⟩
    · rw [Nat.zero_add] at hm'
      exact hm'
    · exact (Below.one w _).grown hg' (new_size _ _) (fun g hg => by simp [Value.ownBlock] at hg; subst hg; exact Nat.le_refl _)
/-! ### other lengths -/
/-- The lanes, the first k with lengths f. -/
def lenSet (N : List Lane) (f : Nat → Int) : Nat → List Lane
  | 0 => N
  | k + 1 => (lenSet N f k).set k ((getT N k).1, (getT N k).2.1, f k)
theorem lenSet_length (N : List Lane) (f : Nat → Int) : ∀ k, (lenSet N f k).length = N.length := by
  intro k
  induction k with
  | zero => rfl
  | succ k ih => simp only [lenSet, List.length_set, ih]
theorem getT_set {N : List Lane} {k j : Nat} {l : Lane} (hk : k < N.length) : getT (N.set k l) j = if j = k then l else getT N j := by
  unfold getT
  simp only [List.getD_eq_getElem?_getD, List.getElem?_set]
  by_cases e : j = k
  · subst e; simp [hk]
  · rw [if_neg (Ne.symm e), if_neg e]
theorem lenSet_at (N : List Lane) (f : Nat → Int) : ∀ k, k ≤ N.length → ∀ j, getT (lenSet N f k) j = if j < k then ((getT N j).1, (getT N j).2.1, f j) else getT N j := by
  intro k
  induction k with
  | zero => intro _ j; rfl
  | succ k ih =>
    intro hk j
    simp only [lenSet]
    rw [getT_set (by rw [lenSet_length]; omega), ih (by omega)]
    by_cases e : j = k
    · subst e; rw [if_pos rfl, if_pos (by omega)]
    · rw [if_neg e]
      by_cases e2 : j < k
      · rw [if_pos e2, if_pos (by omega)]
      · rw [if_neg e2, if_neg (by omega)]
theorem laneVals_set : ∀ (M : List Lane) (k : Nat) (d : Int), k < M.length → laneVals (M.set k ((getT M k).1, (getT M k).2.1, d)) = (laneVals M).set (k * 3 + 2) (.int .i64 d) := by
  intro M
  induction M with
  | nil => intro k d h; simp at h
  | cons l M ih =>
    intro k d h
    cases k with
    | zero => simp [laneVals, getT]
    | succ k =>
      have := ih k d (by simpa using h)
      have e : getT (l :: M) (k + 1) = getT M k := by simp [getT]
      rw [e, List.set_cons_succ]
      simp only [laneVals]
      rw [this, show (k + 1) * 3 + 2 = (k * 3 + 2) + 1 + 1 + 1 by omega]
      rfl
theorem Mine.put {w : World} {base size g o n cap j : Nat} {xs : List Value} (h : Mine w base size (.slice (some ⟨g, o, none⟩) n cap) n xs) (hj : j < n * size) (u : Value) : Mine (w.setCell ⟨g, o + j, none⟩ u) base size (.slice (some ⟨g, o, none⟩) n cap) n (xs.set j u) := by
  refine ⟨by rw [List.length_set]; exact h.1, .inr ?_⟩
  rcases h.2 with ⟨h0, _⟩ | ⟨g', o', cap', e, h1, h2, h3, h4, h5, h6⟩
  · cases h0
  · simp only [Value.slice.injEq, Option.some.injEq, Addr.mk.injEq] at e
    obtain ⟨⟨rfl, rfl, _⟩, _, rfl⟩ := e
    refine ⟨g, o, cap, rfl, h1, h2, h3, by simp [World.setCell]; exact h4, fun t ht => ?_, fun t ht => ⟨?_, (World.frozen?_setCell _ _ _ _).trans (h6 t ht).2⟩⟩
    · by_cases e : t = j
      · subst e
        have hx : t < xs.length := by rw [h.1]; exact ht
        obtain ⟨v, hv⟩ : ∃ v, w.cell? ⟨g, o + t, none⟩ = some v := ⟨xs[t], by rw [h5 t ht, List.getElem?_eq_getElem hx]⟩
        rw [cell_eq hv, List.getElem?_set_self hx]
      · rw [cell_ne (by omega), h5 t ht, List.getElem?_set_ne (Ne.symm e)]
    · by_cases e : t = j
      · subst e
        obtain ⟨v, hv⟩ := Option.isSome_iff_exists.1 (h6 t ht).1
        rw [cell_eq hv]
        rfl
      · rw [cell_ne (by omega)]
        exact (h6 t ht).1
end Go.Proofs.Ytkhkgmelicdpkaa
