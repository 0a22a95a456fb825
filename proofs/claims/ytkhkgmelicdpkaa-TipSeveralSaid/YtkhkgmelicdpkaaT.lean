/- Plain facts on trees: what the searches from all corners of a checked market leave. No program, no memory. -/
import Derived.Test.YtkhkgmelicdpkaaN
set_option linter.unusedVariables false
set_option linter.unusedSimpArgs false
namespace Go.Proofs.Ytkhkgmelicdpkaa

/-! ### A list without repetition of small numbers -/
theorem nodup_length_le : ∀ (m : Nat) (l : List Nat), l.Nodup → (∀ x, x ∈ l → x < m) → l.length ≤ m := by
  intro m
  induction m with
  | zero =>
    intro l _ h
    cases l with
    | nil => simp
    | cons a l => exact absurd (h a (by simp)) (by omega)
  | succ m ih =>
    intro l hn h
    have h1 := ih (l.erase m) (hn.erase m) (fun x hx => by
      have := (hn.mem_erase_iff).1 hx
      have := h x this.2
      omega)
    have h2 := List.length_erase (a := m) (l := l)
    by_cases hm : m ∈ l
    · have := List.length_erase_of_mem hm
      omega
    · rw [List.erase_of_not_mem hm] at h1
      omega
theorem nodup_full {m : Nat} {l : List Nat} (hn : l.Nodup) (h : ∀ x, x ∈ l → x < m) (hl : l.length = m) : ∀ j, j < m → j ∈ l := by
  intro j hj
  by_cases hm : j ∈ l
  · exact hm
  · have := nodup_length_le m (j :: l) (List.nodup_cons.2 ⟨hm, hn⟩) (fun x hx => by
      rcases List.mem_cons.1 hx with rfl | hx
      · exact hj
      · exact h x hx)
    simp at this
    omega

/-! ### Lanes -/
def joins (l : Lane) (x y : Nat) : Prop := (l.1 = (x : Int) ∧ l.2.1 = (y : Int)) ∨ (l.1 = (y : Int) ∧ l.2.1 = (x : Int))
theorem joins_symm {l : Lane} {x y : Nat} (h : joins l x y) : joins l y x := h.symm
def Good (n : Nat) (N : List Lane) (k : Nat) : Prop := ∀ j, j < k → ∃ a b : Nat, (getT N j).1 = (a : Int) ∧ (getT N j).2.1 = (b : Int) ∧ a < b ∧ b < n ∧ 1 ≤ (getT N j).2.2 ∧ (getT N j).2.2 ≤ 9

theorem near_iff {n : Nat} {N : List Lane} : ∀ k, Good n N k → ∀ x y, ((nearK N k x).testBit y = true ↔ ∃ j, j < k ∧ joins (getT N j) x y) := by
  intro k
  induction k with
  | zero => intro _ x y; simp [nearK]
  | succ k ih =>
    intro h x y
    obtain ⟨a, b, ha, hb, hab, hbn, h1, h2⟩ := h k (by omega)
    have ih' := ih (fun j hj => h j (by omega)) x y
    have hsplit : (∃ j, j < k + 1 ∧ joins (getT N j) x y) ↔ (∃ j, j < k ∧ joins (getT N j) x y) ∨ joins (getT N k) x y := by
      constructor
      · rintro ⟨j, hj, hjj⟩
        rcases Nat.lt_or_ge j k with h' | h'
        · exact .inl ⟨j, h', hjj⟩
        · obtain rfl : j = k := by omega
          exact .inr hjj
      · rintro (⟨j, hj, hjj⟩ | hjj)
        · exact ⟨j, by omega, hjj⟩
        · exact ⟨k, by omega, hjj⟩
    rw [hsplit, ← ih']
    have hjk : joins (getT N k) x y ↔ (a = x ∧ b = y) ∨ (a = y ∧ b = x) := by
      unfold joins
      rw [ha, hb]
      omega
    rw [hjk]
    simp only [nearK, upd, ha, hb, Int.toNat_natCast]
    by_cases e1 : x = b
    · subst e1
      rw [if_pos rfl]
      simp only [testBit_or_pow, Bool.or_eq_true, decide_eq_true_eq]
      constructor
      · rintro (h' | h')
        · exact .inl h'
        · exact .inr (.inr ⟨h', trivial⟩)
      · rintro (h' | ⟨h', _⟩ | ⟨h', _⟩)
        · exact .inl h'
        · omega
        · exact .inr h'
    · rw [if_neg e1]
      by_cases e2 : x = a
      · subst e2
        rw [if_pos rfl]
        simp only [testBit_or_pow, Bool.or_eq_true, decide_eq_true_eq]
        constructor
        · rintro (h' | h')
          · exact .inl h'
          · exact .inr (.inl ⟨trivial, h'⟩)
        · rintro (h' | ⟨_, h'⟩ | ⟨_, h'⟩)
          · exact .inl h'
          · exact .inr h'
          · omega
      · rw [if_neg e2]
        constructor
        · exact .inl
        · rintro (h' | ⟨h', _⟩ | ⟨_, h'⟩)
          · exact h'
          · exact absurd h'.symm e2
          · exact absurd h'.symm e1

theorem len_of {n : Nat} {N : List Lane} : ∀ k, Good n N k → ∀ x y, ((∃ j, j < k ∧ joins (getT N j) x y ∧ lenK N k x y = (getT N j).2.2) ∨ ((∀ j, j < k → ¬ joins (getT N j) x y) ∧ lenK N k x y = 0)) := by
  intro k
  induction k with
  | zero => intro _ x y; exact .inr ⟨fun j hj => by omega, rfl⟩
  | succ k ih =>
    intro h x y
    obtain ⟨a, b, ha, hb, hab, hbn, h1, h2⟩ := h k (by omega)
    by_cases hj : joins (getT N k) x y
    · refine .inl ⟨k, by omega, hj, ?_⟩
      simp only [lenK, upd2, ha, hb, Int.toNat_natCast]
      unfold joins at hj
      rw [ha, hb] at hj
      rcases hj with ⟨e1, e2⟩ | ⟨e1, e2⟩
      · rw [if_neg (by omega), if_pos (by omega)]
      · rw [if_pos (by omega)]
    · have e : lenK N (k + 1) x y = lenK N k x y := by
        simp only [lenK, upd2, ha, hb, Int.toNat_natCast]
        unfold joins at hj
        rw [ha, hb] at hj
        rw [if_neg (by omega), if_neg (by omega)]
      rw [e]
      rcases ih (fun j hj => h j (by omega)) x y with ⟨j, hjk, hjj, hl⟩ | ⟨hno, hl⟩
      · exact .inl ⟨j, by omega, hjj, hl⟩
      · refine .inr ⟨fun j hj' => ?_, hl⟩
        rcases Nat.lt_or_ge j k with h' | h'
        · exact hno j h'
        · obtain rfl : j = k := by omega
          exact hj

/-! ### A tree -/
structure Tree (n : Nat) (A : Nat → Nat → Prop) (len far : Nat → Nat → Int) (next : Nat → Nat → Nat) : Prop where
  self : ∀ c, c < n → next c c = c ∧ far c c = 0
  step : ∀ c v, c < n → v < n → v ≠ c → next v c < n ∧ A v (next v c) ∧ far c v = far c (next v c) + len v (next v c)
  edge : ∀ c x y, c < n → x < n → y < n → A x y → next x c = y ∨ next y c = x
  symm : ∀ x y, A x y → A y x
  lens : ∀ x y, len x y = len y x
  pos : ∀ x y, A x y → 1 ≤ len x y ∧ len x y ≤ 9
  irr : ∀ x y, A x y → x ≠ y
  nonneg : ∀ c v, c < n → v < n → 0 ≤ far c v ∧ far c v ≤ 72

section
variable {n : Nat} {A : Nat → Nat → Prop} {len far : Nat → Nat → Int} {next : Nat → Nat → Nat}
theorem Tree.less (T : Tree n A len far next) {c v : Nat} (hc : c < n) (hv : v < n) (h : v ≠ c) : far c (next v c) < far c v := by
  obtain ⟨h1, h2, h3⟩ := T.step c v hc hv h
  have := T.pos _ _ h2
  omega
theorem Tree.measure (T : Tree n A len far next) {to : Nat} (ht : to < n) : ∀ c, c < n → c ≠ to → next c to < n ∧ (far to (next c to)).toNat < (far to c).toNat := by
  intro c hc hne
  have h1 := T.less ht hc hne
  have h2 := T.step to c ht hc hne
  have h3 := T.nonneg to _ ht h2.1
  exact ⟨h2.1, by omega⟩
/-- On a lane one of the two ends is nearer. -/
theorem Tree.edge' (T : Tree n A len far next) {c x y : Nat} (hc : c < n) (hx : x < n) (hy : y < n) (h : A x y) :
    (x ≠ c ∧ next x c = y ∧ far c x = far c y + len x y) ∨ (y ≠ c ∧ next y c = x ∧ far c y = far c x + len x y) := by
  rcases T.edge c x y hc hx hy h with e | e
  · have hne : x ≠ c := fun e' => by
      subst e'
      rw [(T.self x hx).1] at e
      exact T.irr _ _ h e
    have := (T.step c x hc hx hne).2.2
    rw [e] at this
    exact .inl ⟨hne, e, this⟩
  · have hne : y ≠ c := fun e' => by
      subst e'
      rw [(T.self y hy).1] at e
      exact T.irr _ _ h e.symm
    have := (T.step c y hc hy hne).2.2
    rw [e, T.lens y x] at this
    exact .inr ⟨hne, e, this⟩
theorem Tree.next_adj (T : Tree n A len far next) {x y : Nat} (hx : x < n) (hy : y < n) (h : A x y) : next x y = y := by
  rcases T.edge' hy hx hy h with ⟨_, e, _⟩ | ⟨e, _, _⟩
  · exact e
  · exact absurd rfl e

/-- Two trees of the same lanes have the same ways. -/
theorem Tree.next_unique {len' far' : Nat → Nat → Int} {next' : Nat → Nat → Nat} (T : Tree n A len far next) (T' : Tree n A len' far' next') {c : Nat} (hc : c < n) : ∀ (d : Nat) (x : Nat), x < n → (far c x).toNat ≤ d → next x c = next' x c := by
  intro d
  induction d with
  | zero =>
    intro x hx hd
    by_cases e : x = c
    · subst e; rw [(T.self x hx).1, (T'.self x hx).1]
    · have h1 := T.measure hc x hx e
      omega
  | succ d ih =>
    intro x hx hd
    by_cases e : x = c
    · subst e; rw [(T.self x hx).1, (T'.self x hx).1]
    · obtain ⟨h1, h2, h3⟩ := T.step c x hc hx e
      have hm := (T.measure hc x hx e).2
      have ihy := ih (next x c) h1 (by omega)
      rcases T'.edge c x (next x c) hc hx h1 h2 with h4 | h4
      · exact h4.symm
      · rw [← ihy] at h4
        by_cases e2 : next x c = c
        · rw [e2, (T.self c hc).1] at h4
          exact absurd h4.symm e
        · have := (T.measure hc _ h1 e2).2
          rw [h4] at this
          omega
theorem Tree.far_unique {far' : Nat → Nat → Int} {next' : Nat → Nat → Nat} (T : Tree n A len far next) (T' : Tree n A len far' next') {c : Nat} (hc : c < n) : ∀ (d : Nat) (x : Nat), x < n → (far c x).toNat ≤ d → far c x = far' c x := by
  intro d
  induction d with
  | zero =>
    intro x hx hd
    by_cases e : x = c
    · subst e; rw [(T.self x hx).2, (T'.self x hx).2]
    · have h1 := T.measure hc x hx e
      omega
  | succ d ih =>
    intro x hx hd
    by_cases e : x = c
    · subst e; rw [(T.self x hx).2, (T'.self x hx).2]
    · have h1 := T.step c x hc hx e
      have h2 := T'.step c x hc hx e
      have hm := (T.measure hc x hx e).2
      rw [h1.2.2, h2.2.2, ← T.next_unique T' hc _ x hx (Nat.le_refl _), ih _ h1.1 (by omega)]

/-- N1: seen from a corner that is neither end of a lane, both ends lie in one direction; so ways to both ends begin alike. -/
theorem Tree.alike (T : Tree n A len far next) {v p : Nat} (hv : v < n) (hp : p < n) (h : A v p) : ∀ (d : Nat) (x : Nat), x < n → x ≠ v → x ≠ p → (far v x).toNat ≤ d → next x v = next x p := by
  intro d
  induction d with
  | zero =>
    intro x hx h1 h2 hd
    have := T.measure hv x hx h1
    omega
  | succ d ih =>
    intro x hx h1 h2 hd
    obtain ⟨hy, hxy, _⟩ := T.step v x hv hx h1
    have hm := (T.measure hv x hx h1).2
    rcases T.edge p x (next x v) hp hx hy hxy with e | e
    · exact e.symm
    · by_cases e1 : next x v = v
      · rw [e1] at e
        rw [T.next_adj hv hp h] at e
        exact absurd e.symm h2
      · by_cases e2 : next x v = p
        · rw [e2, (T.self p hp).1] at e
          exact absurd e.symm h2
        · have := ih (next x v) hy e1 e2 (by omega)
          rw [← this] at e
          have hl := T.less hv hy e1
          have hl' := T.less hv hx h1
          rw [e] at hl
          omega
theorem Tree.alike' (T : Tree n A len far next) {v p x : Nat} (hv : v < n) (hp : p < n) (hx : x < n) (h : A v p) (h1 : x ≠ v) (h2 : x ≠ p) : next x v = next x p :=
  T.alike hv hp h _ x hx h1 h2 (Nat.le_refl _)

/-- R1: a step along a lane. -/
theorem Tree.root (T : Tree n A len far next) {v p : Nat} (hv : v < n) (hp : p < n) (h : A v p) : ∀ (d : Nat) (x : Nat), x < n → next v x = p → x ≠ v → (far p x).toNat ≤ d → far v x = far p x + len v p := by
  intro d
  induction d with
  | zero =>
    intro x hx hn hne hd
    by_cases e : x = p
    · subst e
      rcases T.edge' hv hv hx h with ⟨h1, _⟩ | ⟨_, h1, h2⟩
      · exact absurd rfl h1
      · rw [h2, (T.self v hv).2, (T.self x hx).2]
    · have := T.measure hp x hx e
      omega
  | succ d ih =>
    intro x hx hn hne hd
    by_cases e : x = p
    · subst e
      rcases T.edge' hv hv hx h with ⟨h1, _⟩ | ⟨_, h1, h2⟩
      · exact absurd rfl h1
      · rw [h2, (T.self v hv).2, (T.self x hx).2]
    · obtain ⟨hy, hxy, h3⟩ := T.step v x hv hx hne
      obtain ⟨_, _, h4⟩ := T.step p x hp hx e
      have hal := T.alike' hv hp hx h hne e
      rw [← hal] at h4
      have hm := (T.measure hp x hx e).2
      rw [← hal] at hm
      have hyv : next x v ≠ v := fun e1 => by
        have h5 : A x v := by rw [e1] at hxy; exact hxy
        rw [T.next_adj hv hx (T.symm _ _ h5)] at hn
        exact e hn
      have h6 := T.alike' hx hy hv hxy (Ne.symm hne) (Ne.symm hyv)
      rw [hn] at h6
      have := ih (next x v) hy h6.symm hyv (by omega)
      omega
theorem Tree.root' (T : Tree n A len far next) {v p x : Nat} (hv : v < n) (hp : p < n) (hx : x < n) (h : A v p) (hn : next v x = p) (hne : x ≠ v) : far v x = far p x + len v p :=
  T.root hv hp h _ x hx hn hne (Nat.le_refl _)
/-- It is as far there as back. -/
theorem Tree.far_symm (T : Tree n A len far next) {a : Nat} (ha : a < n) : ∀ (d : Nat) (b : Nat), b < n → (far a b).toNat ≤ d → far a b = far b a := by
  intro d
  induction d with
  | zero =>
    intro b hb hd
    by_cases e : b = a
    · rw [e]
    · have := T.measure ha b hb e
      omega
  | succ d ih =>
    intro b hb hd
    by_cases e : b = a
    · rw [e]
    · obtain ⟨hp, hbp, h3⟩ := T.step a b ha hb e
      have hm := (T.measure ha b hb e).2
      rw [h3, ih _ hp (by omega), T.root' hb hp ha hbp rfl (Ne.symm e)]
theorem Tree.symm' (T : Tree n A len far next) {a b : Nat} (ha : a < n) (hb : b < n) : far a b = far b a := T.far_symm ha _ b hb (Nat.le_refl _)
/-- Seen from c, on a lane x - y: the one way or the other. -/
theorem Tree.side (T : Tree n A len far next) {x y c : Nat} (hx : x < n) (hy : y < n) (hc : c < n) (h : A x y) :
    (next x c = y ∧ c ≠ x ∧ far x c = far y c + len x y) ∨ (next y c = x ∧ c ≠ y ∧ next x c ≠ y ∧ far y c = far x c + len x y) := by
  rcases T.edge' hc hx hy h with ⟨h1, h2, h3⟩ | ⟨h1, h2, h3⟩
  · exact .inl ⟨h2, Ne.symm h1, T.root' hx hy hc h h2 (Ne.symm h1)⟩
  · refine .inr ⟨h2, Ne.symm h1, fun e => ?_, ?_⟩
    · by_cases e' : c = x
      · subst e'
        rw [(T.self c hc).1] at e
        exact T.irr _ _ h e
      · have h5 := T.root' hx hy hc h e e'
        have h6 := T.root' hy hx hc (T.symm _ _ h) h2 (Ne.symm h1)
        rw [T.lens y x] at h6
        have := T.pos _ _ h
        omega
    · have := T.root' hy hx hc (T.symm _ _ h) h2 (Ne.symm h1)
      rw [T.lens y x] at this
      exact this
end
end Go.Proofs.Ytkhkgmelicdpkaa
