/- Plain facts on medians: no heavy branch just if nowhere costs less; votes. No program, no memory. -/
import Derived.Test.YtkhkgmelicdpkaaPl
set_option linter.unusedVariables false
set_option linter.unusedSimpArgs false
namespace Go.Proofs.Ytkhkgmelicdpkaa

theorem sumF_mono {f g : Nat → Int} : ∀ n, (∀ k, k < n → f k ≤ g k) → sumF f n ≤ sumF g n := by
  intro n
  induction n with
  | zero => intro _; exact Int.le_refl _
  | succ n ih =>
    intro h
    have h1 := ih (fun k hk => h k (by omega))
    have h2 := h n (by omega)
    simp only [sumF]
    omega
theorem sumF_add (f g : Nat → Int) : ∀ n, sumF (fun c => f c + g c) n = sumF f n + sumF g n := by
  intro n
  induction n with
  | zero => rfl
  | succ n ih => simp only [sumF]; rw [ih]; omega
section
variable {n : Nat} {A : Nat → Nat → Prop} {len far : Nat → Nat → Int} {next : Nat → Nat → Nat}
/-- Nearer to a neighbour: behind it. -/
theorem Tree.nearer_iff (T : Tree n A len far next) {x y c : Nat} (hx : x < n) (hy : y < n) (hc : c < n) (h : A x y) : nearerB far y x c = inBr next x y c := by
  have hp := T.pos _ _ h
  have s1 := T.symm' hx hc
  have s2 := T.symm' hy hc
  rcases T.side hx hy hc h with ⟨h1, h2, h3⟩ | ⟨h1, h2, h3, h4⟩
  · have e1 : nearerB far y x c = true := by unfold nearerB; rw [decide_eq_true_eq]; omega
    rw [e1]
    simp [inBr, h1, h2]
  · have e1 : nearerB far y x c = false := by unfold nearerB; rw [decide_eq_false_iff_not]; omega
    rw [e1]
    simp [inBr, h3]
theorem Tree.nearLoad_eq (T : Tree n A len far next) {L : List Int} {x y : Nat} (hx : x < n) (hy : y < n) (h : A x y) : sumF (nearLoad L far y x) n = sumF (loadIn L next x y) n :=
  sumF_congr n fun c hc => by unfold nearLoad loadIn; rw [T.nearer_iff hx hy hc h]
/-- What lies behind a step away from c lies, seen from c, in the step's direction. -/
theorem Tree.branch_in (T : Tree n A len far next) {c x p : Nat} (hc : c < n) (hx : x < n) (hp : p < n) (hcx : x ≠ c) (hxp : next x c = p) : ∀ (d : Nat) (u : Nat), u < n → (far x u).toNat ≤ d → next p u = x → u ≠ p → next c u = next c x ∧ u ≠ c := by
  have hA : A p x := by have := (T.step c x hc hx hcx).2.1; rw [hxp] at this; exact T.symm _ _ this
  have hcp : next p c ≠ x ∨ c = p := by
    by_cases e : c = p
    · exact .inr e
    · refine .inl fun e1 => ?_
      have h1 := T.root' hp hx hc hA e1 e
      have h2 := T.root' hx hp hc (T.symm _ _ hA) hxp (Ne.symm hcx)
      rw [T.lens x p] at h2
      have := T.pos _ _ hA
      omega
  intro d
  induction d with
  | zero =>
    intro u hu hd hn hup
    by_cases e : u = x
    · subst e; exact ⟨rfl, hcx⟩
    · have h1 := T.less hx hu e
      have h2 := T.nonneg x (next u x) hx (T.step x u hx hu e).1
      omega
  | succ d ih =>
    intro u hu hd hn hup
    by_cases e : u = x
    · subst e; exact ⟨rfl, hcx⟩
    · obtain ⟨hq, huq, _⟩ := T.step x u hx hu e
      have hl := T.less hx hu e
      have h2 := T.nonneg x (next u x) hx hq
      have hqp : next u x ≠ p := fun e1 => by
        rw [e1] at huq
        have := T.next_adj hp hu (T.symm _ _ huq)
        rw [hn] at this
        exact e this.symm
      have hal := T.alike' hu hq hp huq (Ne.symm hup) (Ne.symm hqp)
      have hi := ih (next u x) hq (by omega) (by rw [← hal]; exact hn) hqp
      have huc : u ≠ c := fun e1 => by
        subst e1
        rcases hcp with h3 | h3
        · exact h3 hn
        · exact hup h3
      exact ⟨(T.alike' hu hq hc huq (Ne.symm huc) (Ne.symm hi.2)).trans hi.1, huc⟩
theorem Tree.branch_in' (T : Tree n A len far next) {c x u : Nat} (hc : c < n) (hx : x < n) (hu : u < n) (hcx : x ≠ c) (hn : next (next x c) u = x) (hup : u ≠ next x c) : next c u = next c x ∧ u ≠ c :=
  T.branch_in hc hx (T.step c x hc hx hcx).1 hcx rfl _ u hu (Nat.le_refl _) hn hup
/-- Two neighbours share the loads. -/
theorem Tree.two_sides (T : Tree n A len far next) {L : List Int} {x y : Nat} (hx : x < n) (hy : y < n) (h : A x y) : sumF (loadIn L next x y) n + sumF (loadIn L next y x) n = sumF (gI L) n := by
  rw [← sumF_add]
  refine sumF_congr n fun c hc => ?_
  unfold loadIn
  rcases T.side hx hy hc h with ⟨h1, h2, h3⟩ | ⟨h1, h2, h3, h4⟩
  · have e1 : inBr next x y c = true := by simp [inBr, h1, h2]
    have e2 : inBr next y x c = false := by
      by_cases e : c = y
      · simp [inBr, e]
      · have : next y c ≠ x := fun e2 => by
          have h5 := T.root' hy hx hc (T.symm _ _ h) e2 e
          rw [T.lens y x] at h5
          have := T.pos _ _ h
          omega
        simp [inBr, this]
    rw [e1, e2]; simp
  · have e1 : inBr next x y c = false := by simp [inBr, h3]
    have e2 : inBr next y x c = true := by simp [inBr, h1, h2]
    rw [e1, e2]; simp
/-- A step changes the cost so. -/
theorem Tree.cost_step (T : Tree n A len far next) {L : List Int} (hL : L.length = n) {x y : Nat} (hx : x < n) (hy : y < n) (h : A x y) :
    sumF (farLoad L far x) n - sumF (farLoad L far y) n = len x y * (2 * sumF (loadIn L next x y) n - sumF (gI L) n) := by
  rw [T.step_cost hL hx hy h, T.nearLoad_eq hx hy h]
  congr 1
  omega
/-- No branch of c has more than half of all loads. -/
def Light (n : Nat) (A : Nat → Nat → Prop) (L : List Int) (next : Nat → Nat → Nat) (c : Nat) : Prop := ∀ d, d < n → A c d → 2 * sumF (loadIn L next c d) n ≤ sumF (gI L) n
theorem Tree.light_le (T : Tree n A len far next) {L : List Int} (hL : L.length = n) (hpos : ∀ c, c < n → 0 ≤ gI L c) {c : Nat} (hc : c < n) (hl : Light n A L next c) : ∀ (d : Nat) (x : Nat), x < n → (far c x).toNat ≤ d → sumF (farLoad L far c) n ≤ sumF (farLoad L far x) n := by
  intro d
  induction d with
  | zero =>
    intro x hx hd
    by_cases e : x = c
    · rw [e]; exact Int.le_refl _
    · have h1 := T.less hc hx e
      have h2 := T.nonneg c (next x c) hc (T.step c x hc hx e).1
      omega
  | succ d ih =>
    intro x hx hd
    by_cases e : x = c
    · rw [e]; exact Int.le_refl _
    · obtain ⟨hp, hA, _⟩ := T.step c x hc hx e
      have h1 := T.less hc hx e
      have h2 := T.nonneg c (next x c) hc hp
      have hi := ih (next x c) hp (by omega)
      have hs := T.cost_step hL hx hp hA
      have h2s := T.two_sides (L := L) hx hp hA
      have hb : sumF (loadIn L next (next x c) x) n ≤ sumF (loadIn L next c (next c x)) n := by
        refine sumF_mono n fun u hu => ?_
        unfold loadIn
        by_cases hin : inBr next (next x c) x u = true
        · have hin' := hin
          simp only [inBr, Bool.and_eq_true, decide_eq_true_eq] at hin'
          have h3 := T.branch_in' hc hx hu e hin'.2 hin'.1
          have : inBr next c (next c x) u = true := by simp [inBr, h3.1, h3.2]
          rw [hin, this]
          exact Int.le_refl _
        · have : inBr next (next x c) x u = false := by simpa using hin
          rw [this]
          have := hpos u hu
          simp only [Bool.false_eq_true, if_false]
          split <;> omega
      obtain ⟨hq, hAq, _⟩ := T.step x c hx hc (Ne.symm e)
      have hlq := hl (next c x) hq hAq
      have hlen := T.pos _ _ hA
      have : 0 ≤ len x (next x c) * (2 * sumF (loadIn L next x (next x c)) n - sumF (gI L) n) := Int.mul_nonneg (by omega) (by omega)
      omega
theorem Tree.heavy_gt (T : Tree n A len far next) {L : List Int} (hL : L.length = n) {c d : Nat} (hc : c < n) (hd : d < n) (h : A c d) (hh : sumF (gI L) n < 2 * sumF (loadIn L next c d) n) : sumF (farLoad L far d) n < sumF (farLoad L far c) n := by
  have hs := T.cost_step hL hc hd h
  have hlen := T.pos _ _ h
  have : 0 < len c d * (2 * sumF (loadIn L next c d) n - sumF (gI L) n) := Int.mul_pos (by omega) (by omega)
  omega
/-- Two branches share at most all loads. -/
theorem two_branches {L : List Int} (hpos : ∀ c, c < n → 0 ≤ gI L c) {c d e : Nat} (hde : d ≠ e) : sumF (loadIn L next c d) n + sumF (loadIn L next c e) n ≤ sumF (gI L) n := by
  rw [← sumF_add]
  refine sumF_mono n fun u hu => ?_
  have h0 := hpos u hu
  unfold loadIn inBr
  by_cases h1 : u = c
  · simp [h1]; rw [h1] at h0; exact h0
  · by_cases h2 : next c u = d
    · have : ¬ next c u = e := fun h => hde (h2.symm.trans h)
      simp [h1, h2, hde]
    · by_cases h3 : next c u = e
      · simp [h1, h2, h3, Ne.symm hde]
      · simp [h1, h2, h3]; exact h0
/-- Whoever is not behind a's step towards b goes to b by a. -/
theorem Tree.far_via (T : Tree n A len far next) {a u : Nat} (ha : a < n) (hu : u < n) : ∀ (d : Nat) (b : Nat), b < n → (far a b).toNat ≤ d → b ≠ a → (u = a ∨ next a u ≠ next a b) → far b u = far a u + far b a := by
  intro d
  induction d with
  | zero =>
    intro b hb hd hba hout
    have h1 := T.less ha hb hba
    have h2 := T.nonneg a (next b a) ha (T.step a b ha hb hba).1
    omega
  | succ d ih =>
    intro b hb hd hba hout
    obtain ⟨hp, hA, h3⟩ := T.step a b ha hb hba
    have h1 := T.less ha hb hba
    have h2 := T.nonneg a (next b a) ha hp
    have hs : far b u = far (next b a) u + len b (next b a) := by
      rcases T.side hb hp hu hA with ⟨_, _, h⟩ | ⟨h4, h5, _, _⟩
      · exact h
      · have h6 := T.branch_in' ha hb hu hba h4 h5
        rcases hout with h7 | h7
        · exact absurd h7 h6.2
        · exact absurd h6.1 h7
    have hr : far b a = far (next b a) a + len b (next b a) := by
      have := T.symm' ha hb
      have := T.symm' ha hp
      omega
    by_cases e : next b a = a
    · rw [e] at hs hr
      have := (T.self a ha).2
      rw [e]  at *
      omega
    · have hal := T.alike' hb hp ha hA (Ne.symm hba) (Ne.symm e)
      have hi := ih (next b a) hp (by omega) e (by rw [← hal]; exact hout)
      omega
theorem Tree.far_via' (T : Tree n A len far next) {a b u : Nat} (ha : a < n) (hb : b < n) (hu : u < n) (hba : b ≠ a) (hout : u = a ∨ next a u ≠ next a b) : far b u = far a u + far b a :=
  T.far_via ha hu _ b hb (Nat.le_refl _) hba hout
theorem Tree.far_pos (T : Tree n A len far next) {a b : Nat} (ha : a < n) (hb : b < n) (h : b ≠ a) : 0 < far a b := by
  have h1 := T.less ha hb h
  have h2 := T.nonneg a (next b a) ha (T.step a b ha hb h).1
  omega
/-- Whoever is nearer to b is behind a's step towards b. -/
theorem Tree.votes_le (T : Tree n A len far next) {L : List Int} (hpos : ∀ c, c < n → 0 ≤ gI L c) {a b : Nat} (ha : a < n) (hb : b < n) (hba : b ≠ a) (hl : Light n A L next a) : sumF (voteB L far a b) n ≤ sumF (voteA L far a b) n := by
  obtain ⟨hq, hAq, _⟩ := T.step b a hb ha (Ne.symm hba)
  have hlq := hl (next a b) hq hAq
  have hfp := T.far_pos ha hb hba
  have hsab := T.symm' ha hb
  have hw : ∀ u, u < n → (u = a ∨ next a u ≠ next a b) → far u a < far u b := fun u hu ho => by
    have h1 := T.far_via' ha hb hu hba ho
    have h2 := T.symm' hu ha
    have h3 := T.symm' hu hb
    omega
  have hB : sumF (voteB L far a b) n ≤ sumF (loadIn L next a (next a b)) n := by
    refine sumF_mono n fun u hu => ?_
    have h0 := hpos u hu
    unfold voteB loadIn inBr
    by_cases ho : u = a ∨ next a u ≠ next a b
    · have := hw u hu ho
      rw [if_neg (by omega)]
      split <;> omega
    · have h1 : u ≠ a := fun h => ho (.inl h)
      have h2 : next a u = next a b := Classical.byContradiction fun h => ho (.inr h)
      simp only [h1, h2]
      split <;> simp <;> omega
  have hA : sumF (gI L) n ≤ sumF (voteA L far a b) n + sumF (loadIn L next a (next a b)) n := by
    rw [← sumF_add]
    refine sumF_mono n fun u hu => ?_
    have h0 := hpos u hu
    unfold voteA loadIn inBr
    by_cases ho : u = a ∨ next a u ≠ next a b
    · have := hw u hu ho
      rw [if_pos (by omega)]
      split <;> omega
    · have h1 : u ≠ a := fun h => ho (.inl h)
      have h2 : next a u = next a b := Classical.byContradiction fun h => ho (.inr h)
      simp only [h1, h2]
      split <;> simp <;> omega
  omega
/-- A heavy neighbour has more votes. -/
theorem Tree.votes_gt (T : Tree n A len far next) {L : List Int} {a b : Nat} (ha : a < n) (hb : b < n) (h : A a b) (hh : sumF (gI L) n < 2 * sumF (loadIn L next a b) n) : sumF (voteA L far a b) n < sumF (voteB L far a b) n := by
  have hp := T.pos _ _ h
  have h2 := T.two_sides (L := L) ha hb h
  have hB : sumF (voteB L far a b) n = sumF (loadIn L next a b) n := by
    refine sumF_congr n fun c hc => ?_
    rw [show loadIn L next a b c = nearLoad L far b a c by unfold nearLoad loadIn; rw [T.nearer_iff ha hb hc h]]
    unfold voteB nearLoad nearerB
    by_cases e : far c b < far c a
    · rw [if_pos (by omega)]; simp [e]
    · rw [if_neg (by omega)]; simp [e]
  have hA : sumF (voteA L far a b) n = sumF (loadIn L next b a) n := by
    refine sumF_congr n fun c hc => ?_
    rw [show loadIn L next b a c = nearLoad L far a b c by unfold nearLoad loadIn; rw [T.nearer_iff hb ha hc (T.symm _ _ h)]]
    unfold voteA nearLoad nearerB
    by_cases e : far c a < far c b
    · rw [if_pos (by omega)]; simp [e]
    · rw [if_neg (by omega)]; simp [e]
  omega
end
end Go.Proofs.Ytkhkgmelicdpkaa
