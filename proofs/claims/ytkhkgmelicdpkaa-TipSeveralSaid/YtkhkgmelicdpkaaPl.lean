/- Plain facts on costs: of one corner, and what a step changes. No program, no memory. -/
import Derived.Test.YtkhkgmelicdpkaaMw
set_option linter.unusedVariables false
set_option linter.unusedSimpArgs false
namespace Go.Proofs.Ytkhkgmelicdpkaa

theorem sumF_congr {f g : Nat → Int} : ∀ n, (∀ k, k < n → f k = g k) → sumF f n = sumF g n := by
  intro n
  induction n with
  | zero => intro _; rfl
  | succ n ih => intro h; simp only [sumF]; rw [ih (fun k hk => h k (by omega)), h n (by omega)]
theorem nearF_one {far : Nat → Nat → Int} {a c : Nat} (h : far c a ≤ 72) : ∀ k, nearF far (2 ^ a) c k = if a < k then far c a else 72 := by
  intro k
  induction k with
  | zero => simp [nearF]
  | succ k ih =>
    simp only [nearF]
    rw [ih, Nat.testBit_two_pow]
    by_cases e : a = k
    · subst e
      simp [mn]
      omega
    · simp only [e, decide_false, Bool.false_eq_true, if_false]
      by_cases e2 : a < k
      · rw [if_pos e2, if_pos (by omega)]
      · rw [if_neg e2, if_neg (by omega)]
theorem cost_single {L : List Int} {far : Nat → Nat → Int} {a : Nat} (ha : a < L.length) (h : ∀ c, c < L.length → far c a ≤ 72) : costF L far (2 ^ a) = sumF (farLoad L far a) L.length := by
  unfold costF
  refine sumF_congr _ fun c hc => ?_
  rw [nearF_one (h c hc), if_pos ha]
  rfl
theorem step_sum {L : List Int} {far : Nat → Nat → Int} {x y : Nat} {d : Int} : ∀ n, (∀ c, c < n → (far c x = far c y + d ∧ nearerB far y x c = true) ∨ (far c y = far c x + d ∧ nearerB far y x c = false)) →
    sumF (farLoad L far x) n - sumF (farLoad L far y) n = d * (sumF (nearLoad L far y x) n - (sumF (gI L) n - sumF (nearLoad L far y x) n)) := by
  intro n
  induction n with
  | zero => intro _; simp [sumF]
  | succ n ih =>
    intro h
    have h1 := ih (fun c hc => h c (by omega))
    simp only [sumF]
    have e : d * (sumF (nearLoad L far y x) n + nearLoad L far y x n - (sumF (gI L) n + gI L n - (sumF (nearLoad L far y x) n + nearLoad L far y x n))) = d * (sumF (nearLoad L far y x) n - (sumF (gI L) n - sumF (nearLoad L far y x) n)) + d * (nearLoad L far y x n - (gI L n - nearLoad L far y x n)) := by
      rw [← Int.mul_add]
      congr 1
      omega
    rw [e, ← h1]
    have e2 : farLoad L far x n - farLoad L far y n = d * (nearLoad L far y x n - (gI L n - nearLoad L far y x n)) := by
      unfold farLoad nearLoad
      rcases h n (by omega) with ⟨h2, h3⟩ | ⟨h2, h3⟩
      · rw [h2, h3]
        simp only [if_true]
        rw [Int.mul_add, Int.mul_comm (gI L n) d, Int.sub_self, Int.sub_zero]
        omega
      · rw [h2, h3]
        simp only [Bool.false_eq_true, if_false]
        rw [Int.mul_add, Int.mul_comm (gI L n) d, Int.sub_zero, Int.zero_sub, Int.mul_neg]
        omega
    omega
section
variable {n : Nat} {A : Nat → Nat → Prop} {len far : Nat → Nat → Int} {next : Nat → Nat → Nat}
theorem Tree.sideB (T : Tree n A len far next) {x y c : Nat} (hx : x < n) (hy : y < n) (hc : c < n) (h : A x y) :
    (far c x = far c y + len x y ∧ nearerB far y x c = true) ∨ (far c y = far c x + len x y ∧ nearerB far y x c = false) := by
  have hp := T.pos _ _ h
  have s1 := T.symm' hx hc
  have s2 := T.symm' hy hc
  rcases T.side hx hy hc h with ⟨_, _, h3⟩ | ⟨_, _, _, h4⟩
  · refine .inl ⟨by omega, by unfold nearerB; rw [decide_eq_true_eq]; omega⟩
  · refine .inr ⟨by omega, by unfold nearerB; rw [decide_eq_false_iff_not]; omega⟩
theorem Tree.step_cost (T : Tree n A len far next) {L : List Int} (hL : L.length = n) {x y : Nat} (hx : x < n) (hy : y < n) (h : A x y) :
    sumF (farLoad L far x) n - sumF (farLoad L far y) n = len x y * (sumF (nearLoad L far y x) n - (sumF (gI L) n - sumF (nearLoad L far y x) n)) :=
  step_sum n fun c hc => T.sideB hx hy hc h
end
end Go.Proofs.Ytkhkgmelicdpkaa
