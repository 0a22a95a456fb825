/- Plain definitions and facts on markets whose lanes branch: no program, no memory. -/
set_option linter.unusedVariables false
set_option linter.unusedSimpArgs false
namespace Go.Proofs.Ytkhkgmelicdpkaa

abbrev Lane := Int × Int × Int
def getT (N : List Lane) (i : Nat) : Lane := N.getD i (0, 0, 0)

/-- An element of a list. -/
def gI (L : List Int) (i : Nat) : Int := L.getD i 0

/-- The way from v to a corner, by the corner that follows. -/
def wayN (nx : Nat → Nat → Nat) (to : Nat) : Nat → Nat → List Nat
  | 0, v => [v]
  | k + 1, v => if v = to then [v] else v :: wayN nx to k (nx v to)

theorem wayN_to (nx : Nat → Nat → Nat) (to k : Nat) : wayN nx to k to = [to] := by
  cases k <;> simp [wayN]

theorem wayN_fuel (nx : Nat → Nat → Nat) (to n : Nat) (d : Nat → Nat) (h : ∀ c, c < n → c ≠ to → nx c to < n ∧ d (nx c to) < d c) :
    ∀ m v, v < n → d v ≤ m → ∀ k, d v ≤ k → wayN nx to k v = wayN nx to (d v) v := by
  intro m
  induction m with
  | zero =>
    intro v hv hm k hk
    by_cases e : v = to
    · subst e; rw [wayN_to, wayN_to]
    · have := h v hv e; omega
  | succ m ih =>
    intro v hv hm k hk
    by_cases e : v = to
    · subst e; rw [wayN_to, wayN_to]
    · obtain ⟨h1, h2⟩ := h v hv e
      obtain ⟨a, ha⟩ : ∃ a, d v = a + 1 := ⟨d v - 1, by omega⟩
      obtain ⟨b, rfl⟩ : ∃ b, k = b + 1 := ⟨k - 1, by omega⟩
      rw [ha]
      simp only [wayN, if_neg e]
      rw [ih _ h1 (by omega) b (by omega), ih _ h1 (by omega) a (by omega)]

/-- The way, by the measure d. -/
def wayD (nx : Nat → Nat → Nat) (d : Nat → Nat) (to v : Nat) : List Nat := wayN nx to (d v) v

theorem wayD_to (nx : Nat → Nat → Nat) (d : Nat → Nat) (to : Nat) : wayD nx d to to = [to] := wayN_to ..

theorem wayD_step {nx : Nat → Nat → Nat} {to n : Nat} {d : Nat → Nat} (h : ∀ c, c < n → c ≠ to → nx c to < n ∧ d (nx c to) < d c) {v : Nat} (hv : v < n) (e : v ≠ to) :
    wayD nx d to v = v :: wayD nx d to (nx v to) := by
  obtain ⟨h1, h2⟩ := h v hv e
  obtain ⟨a, ha⟩ : ∃ a, d v = a + 1 := ⟨d v - 1, by omega⟩
  unfold wayD
  rw [ha]
  simp only [wayN, if_neg e]
  rw [wayN_fuel nx to n d h a _ h1 (by omega) a (by omega)]

theorem wayN_length (nx : Nat → Nat → Nat) (to : Nat) : ∀ k v, (wayN nx to k v).length ≤ k + 1 := by
  intro k
  induction k with
  | zero => intro v; simp [wayN]
  | succ k ih => intro v; simp only [wayN]; split <;> simp; exact ih _


def mn (x y : Int) : Int := if y < x then y else x
def mx (x y : Int) : Int := if x < y then y else x
/-- The greatest, and the least, of f 0 .. f k. -/
def mxF (f : Nat → Int) : Nat → Int
  | 0 => f 0
  | k + 1 => mx (mxF f k) (f (k + 1))
def mnF (f : Nat → Int) : Nat → Int
  | 0 => f 0
  | k + 1 => mn (mnF f k) (f (k + 1))
def upd {α : Type} (f : Nat → α) (k : Nat) (x : α) : Nat → α := fun j => if j = k then x else f j
def upd2 {α : Type} (f : Nat → Nat → α) (c k : Nat) (x : α) : Nat → Nat → α := fun c' k' => if c' = c ∧ k' = k then x else f c' k'

/-- The error of one lane, or 0. -/
def laneBad (n : Int) (l : Lane) : Int :=
  if ¬ (0 ≤ l.1 ∧ l.1 ≤ n - 1) ∨ ¬ (0 ≤ l.2.1 ∧ l.2.1 ≤ n - 1) then 2 else if l.2.1 ≤ l.1 then 7 else if ¬ (1 ≤ l.2.2 ∧ l.2.2 ≤ 9) then 1 else 0
/-- The error of the first k lanes. -/
def lanesCode (n : Int) (N : List Lane) : Nat → Int
  | 0 => 0
  | k + 1 => if lanesCode n N k ≠ 0 then lanesCode n N k else laneBad n (getT N k)
def headCode (L : List Int) (N : List Lane) : Int :=
  if L.length = 0 then 4 else if 8 < L.length then 3 else if mnF (gI L) (L.length - 1) < 0 ∨ 9 < mxF (gI L) (L.length - 1) then 1 else if N.length ≠ L.length - 1 then 5 else 0
/-- The tables behind the first k lanes. -/
def lenK (N : List Lane) : Nat → Nat → Nat → Int
  | 0 => fun _ _ => 0
  | k + 1 => upd2 (upd2 (lenK N k) (getT N k).1.toNat (getT N k).2.1.toNat (getT N k).2.2) (getT N k).2.1.toNat (getT N k).1.toNat (getT N k).2.2
def nearK (N : List Lane) : Nat → Nat → Nat
  | 0 => fun _ => 0
  | k + 1 => upd (upd (nearK N k) (getT N k).1.toNat (nearK N k (getT N k).1.toNat ||| 2 ^ (getT N k).2.1.toNat)) (getT N k).2.1.toNat (nearK N k (getT N k).2.1.toNat ||| 2 ^ (getT N k).1.toNat)
/-- The error of single corners, or 0. -/
def cornersCode (n : Int) (cs : List Int) : Int := if ∀ i, i < cs.length → 0 ≤ gI cs i ∧ gI cs i ≤ n - 1 then 0 else 2

end Go.Proofs.Ytkhkgmelicdpkaa
