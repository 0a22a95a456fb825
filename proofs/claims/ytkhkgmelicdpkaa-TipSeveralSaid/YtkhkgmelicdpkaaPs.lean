/- Plain facts: the smallest values' places, found in one pass, are those of the least value. No program, no memory. -/
import Derived.Test.YtkhkgmelicdpkaaS
import Derived.Test.YtkhkgmelicdpkaaL2
import Derived.Test.YtkhkgmelicdpkaaMk
set_option linter.unusedVariables false
set_option linter.unusedSimpArgs false
namespace Go.Proofs.Ytkhkgmelicdpkaa

theorem smallF_filter (r : Nat → Int) : ∀ k, smallF r (k + 1) = (List.range (k + 1)).filter (fun i => decide (r i = mnF r k)) := by
  intro k
  induction k with
  | zero =>
    rw [smallF_nil (show smallF r 0 = [] from rfl)]
    simp [mnF]
  | succ k ih =>
    obtain ⟨j, hj, ej⟩ := mnF_is r k
    have hjm : j ∈ smallF r (k + 1) := by
      rw [ih, List.mem_filter]
      exact ⟨List.mem_range.2 (by omega), by rw [decide_eq_true_eq]; exact ej.symm⟩
    obtain ⟨x, t, hxt⟩ : ∃ x t, smallF r (k + 1) = x :: t := by
      cases h : smallF r (k + 1) with
      | nil => rw [h] at hjm; cases hjm
      | cons x t => exact ⟨x, t, rfl⟩
    have hx : r x = mnF r k := by
      have : x ∈ smallF r (k + 1) := by rw [hxt]; simp
      rw [ih, List.mem_filter, decide_eq_true_eq] at this
      exact this.2
    have hmn : mnF r (k + 1) = mn (mnF r k) (r (k + 1)) := rfl
    rw [List.range_succ, List.filter_append]
    rcases Int.lt_trichotomy (r (k + 1)) (mnF r k) with h | h | h
    · rw [smallF_lt hxt (by omega), hmn, mn, if_pos h]
      have e1 : (List.range (k + 1)).filter (fun i => decide (r i = r (k + 1))) = [] := by
        rw [List.filter_eq_nil_iff]
        intro i hi
        have := mnF_le r k i (by have := List.mem_range.1 hi; omega)
        rw [decide_eq_true_eq]
        omega
      rw [e1]
      simp
    · rw [smallF_eq hxt (by omega), ← hxt, ih, hmn, mn, if_neg (by omega)]
      congr 1
      simp [h]
    · rw [smallF_gt hxt (by omega), ← hxt, ih, hmn, mn, if_neg (by omega)]
      have e1 : ¬ r (k + 1) = mnF r k := by omega
      simp [e1]
/-- The same, of a list. -/
theorem leastL_small (l : List Int) (r : Nat → Int) (h1 : 1 ≤ l.length) (h : ∀ i, i < l.length → gI l i = r i) : leastL l = smallF r l.length := by
  obtain ⟨k, hk⟩ : ∃ k, l.length = k + 1 := ⟨l.length - 1, by omega⟩
  have hm : ∀ j, j ≤ k → mnF (gI l) j = mnF r j := by
    intro j
    induction j with
    | zero => intro _; exact h 0 (by omega)
    | succ j ih => intro hj; simp only [mnF]; rw [ih (by omega), h (j + 1) (by omega)]
  unfold leastL
  rw [hk, smallF_filter]
  refine List.filter_congr fun i hi => ?_
  rw [h i (by have := List.mem_range.1 hi; omega), show k + 1 - 1 = k by omega, hm k (Nat.le_refl _)]
end Go.Proofs.Ytkhkgmelicdpkaa
