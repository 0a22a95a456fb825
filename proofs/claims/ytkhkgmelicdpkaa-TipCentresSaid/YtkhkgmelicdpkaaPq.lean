/- Plain facts: the first longest way among all pairs is the one from the first corner with the greatest radius. No program, no memory. -/
import Derived.Test.YtkhkgmelicdpkaaV
import Derived.Test.YtkhkgmelicdpkaaPw
set_option linter.unusedVariables false
set_option linter.unusedSimpArgs false
namespace Go.Proofs.Ytkhkgmelicdpkaa

theorem begF_max (r : Nat → Int) : ∀ k i, i < k → r i ≤ r (begF r k) := by
  intro k
  induction k with
  | zero => intro i hi; omega
  | succ k ih =>
    intro i hi
    simp only [begF]
    rcases Nat.lt_or_ge i k with h | h
    · have := ih i h
      split <;> omega
    · obtain rfl : i = k := by omega
      split <;> omega
theorem begF_first (r : Nat → Int) : ∀ k i, i < begF r k → r i < r (begF r k) := by
  intro k
  induction k with
  | zero => intro i hi; simp [begF] at hi
  | succ k ih =>
    intro i hi
    simp only [begF] at hi ⊢
    by_cases h : r (begF r k) < r k
    · rw [if_pos h] at hi ⊢
      have := begF_max r k i hi
      omega
    · rw [if_neg h] at hi ⊢
      exact ih i hi
section
variable (far : Nat → Nat → Int) (next : Nat → Nat → Nat) (D : Int)
def pairStep (a b : Nat) (st : Option (List Nat)) : Option (List Nat) :=
  if far a b = D then match st with
    | none => some (wayL far next a b)
    | some l => if cmpL (upL (wayL far next a b)) (upL l) < 0 then some (wayL far next a b) else some l
  else st
def rowK (a : Nat) (st : Option (List Nat)) : Nat → Option (List Nat)
  | 0 => st
  | j + 1 => pairStep far next D a j (rowK a st j)
def allK (n : Nat) : Nat → Option (List Nat)
  | 0 => none
  | i + 1 => rowK far next D i (allK n i) n
end
section
variable {n : Nat} {A : Nat → Nat → Prop} {len far : Nat → Nat → Int} {next : Nat → Nat → Nat} {D : Int}
theorem rowK_none {a : Nat} {st : Option (List Nat)} : ∀ j, (∀ b, b < j → ¬ far a b = D) → rowK far next D a st j = st := by
  intro j
  induction j with
  | zero => intro _; rfl
  | succ j ih =>
    intro h
    simp only [rowK, pairStep]
    rw [if_neg (h j (by omega))]
    exact ih (fun b hb => h b (by omega))
theorem rowK_long {a : Nat} (hD : D = radF far n a) : ∀ j, rowK far next D a none j = longN far next n a j := by
  intro j
  induction j with
  | zero => rfl
  | succ j ih =>
    simp only [rowK, longN]
    rw [ih, hD]
    rfl
theorem cmpL_head {x y : Int} {xs ys : List Int} (h : y < x) : ¬ cmpL (x :: xs) (y :: ys) < 0 := by
  have e : cmpI x y = 1 := by unfold cmpI; rw [if_neg (by omega), if_pos h]
  simp only [cmpL]
  rw [e]
  simp
theorem Tree.wayL_cons (T : Tree n A len far next) {a b : Nat} (ha : a < n) (hb : b < n) : ∃ t, wayL far next a b = a :: t := by
  by_cases e : a = b
  · exact ⟨[], by rw [e, wayL_self]⟩
  · exact ⟨_, T.wayL_step ha hb e⟩
theorem Tree.rowK_old (T : Tree n A len far next) {a c : Nat} {l t : List Nat} (hl : l = c :: t) (hca : c < a) (ha : a < n) : ∀ j, j ≤ n → rowK far next D a (some l) j = some l := by
  intro j
  induction j with
  | zero => intro _; rfl
  | succ j ih =>
    intro hj
    simp only [rowK, pairStep]
    rw [ih (by omega)]
    split
    · obtain ⟨u, hu⟩ := T.wayL_cons ha (show j < n by omega)
      simp only
      rw [if_neg]
      rw [hu, hl]
      show ¬ cmpL ((a : Int) :: upL u) ((c : Int) :: upL t) < 0
      exact cmpL_head (by omega)
    · rfl
theorem long_head (T : Tree n A len far next) {b : Nat} (hb : b < n) : ∀ j, j ≤ n → ∀ l, longN far next n b j = some l → ∃ t, l = b :: t := by
  intro j
  induction j with
  | zero => intro _ l h; cases h
  | succ j ih =>
    intro hj l h
    have hw : ∃ t, wayF next far b j = b :: t := T.wayL_cons hb (by omega)
    simp only [longN, longStep] at h
    split at h
    · cases hs : longN far next n b j with
      | none =>
        rw [hs] at h
        simp only [Option.some.injEq] at h
        rw [← h]
        exact hw
      | some l' =>
        rw [hs] at h
        simp only at h
        split at h
        · simp only [Option.some.injEq] at h
          rw [← h]
          exact hw
        · simp only [Option.some.injEq] at h
          rw [← h]
          exact ih (by omega) l' hs
    · exact ih (by omega) l h
theorem long_keeps {b : Nat} : ∀ j i, i ≤ j → (∃ l, longN far next n b i = some l) → ∃ l, longN far next n b j = some l := by
  intro j
  induction j with
  | zero => intro i hi h; rw [Nat.le_zero.1 hi] at h; exact h
  | succ j ih =>
    intro i hi h
    rcases Nat.lt_or_ge i (j + 1) with h' | h'
    · obtain ⟨l, hl⟩ := ih i (by omega) h
      simp only [longN, longStep]
      split
      · rw [hl]
        simp only
        split
        · exact ⟨_, rfl⟩
        · exact ⟨_, rfl⟩
      · exact ⟨l, hl⟩
    · rw [show j + 1 = i by omega]; exact h
/-- There is a longest way. -/
theorem long_some {b : Nat} (hn : 1 ≤ n) : ∃ l, longN far next n b n = some l := by
  obtain ⟨c, hc, e⟩ := mxF_is (far b) (n - 1)
  refine long_keeps n (c + 1) (by omega) ?_
  have e' : far b c = radF far n b := e.symm
  simp only [longN, longStep]
  rw [if_pos e']
  cases longN far next n b c with
  | none => exact ⟨_, rfl⟩
  | some l =>
    simp only
    split
    · exact ⟨_, rfl⟩
    · exact ⟨_, rfl⟩
/-- Among all pairs. -/
theorem Tree.all_long (T : Tree n A len far next) (hn : 1 ≤ n) (hD : D = radF far n (begF (radF far n) n)) : allK far next D n n = longN far next n (begF (radF far n) n) n := by
  have hbn := begF_lt (radF far n) n hn n (Nat.le_refl _)
  have h1 : ∀ i, i ≤ begF (radF far n) n → allK far next D n i = none := by
    intro i
    induction i with
    | zero => intro _; rfl
    | succ i ih =>
      intro hi
      simp only [allK]
      rw [ih (by omega)]
      refine rowK_none n fun b hb h => ?_
      have g1 := begF_first (radF far n) n i (by omega)
      have g2 := mxF_ge (far i) (n - 1) b (by omega)
      have g3 : radF far n i = mxF (far i) (n - 1) := rfl
      omega
  have h2 : ∀ i, begF (radF far n) n < i → i ≤ n → allK far next D n i = longN far next n (begF (radF far n) n) n := by
    intro i
    induction i with
    | zero => intro h; omega
    | succ i ih =>
      intro hi hin
      simp only [allK]
      rcases Nat.lt_or_ge (begF (radF far n) n) i with h | h
      · rw [ih h (by omega)]
        obtain ⟨l, hl⟩ := long_some (far := far) (next := next) (b := begF (radF far n) n) hn
        rw [hl]
        obtain ⟨t, ht⟩ := long_head T hbn n (Nat.le_refl _) l hl
        exact T.rowK_old ht h (by omega) n (Nat.le_refl _)
      · obtain rfl : begF (radF far n) n = i := by omega
        rw [h1 _ (Nat.le_refl _)]
        exact rowK_long hD n
  exact h2 n hbn (Nat.le_refl _)
end
end Go.Proofs.Ytkhkgmelicdpkaa
