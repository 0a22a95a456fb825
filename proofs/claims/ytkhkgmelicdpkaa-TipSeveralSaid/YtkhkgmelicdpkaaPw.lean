/- Plain facts on ways in a tree: their parts, and the way back. No program, no memory. -/
import Derived.Test.YtkhkgmelicdpkaaPm
set_option linter.unusedVariables false
set_option linter.unusedSimpArgs false
namespace Go.Proofs.Ytkhkgmelicdpkaa

/-- The way from a to b. -/
def wayL (far : Nat → Nat → Int) (next : Nat → Nat → Nat) (a b : Nat) : List Nat := wayD next (fun v => (far b v).toNat) b a
section
variable {n : Nat} {A : Nat → Nat → Prop} {len far : Nat → Nat → Int} {next : Nat → Nat → Nat}
theorem wayL_self (b : Nat) : wayL far next b b = [b] := wayD_to ..
theorem Tree.wayL_step (T : Tree n A len far next) {a b : Nat} (ha : a < n) (hb : b < n) (h : a ≠ b) : wayL far next a b = a :: wayL far next (next a b) b :=
  wayD_step (fun c hc e => T.measure hb c hc e) ha h
/-- Induction along the way to b. -/
theorem Tree.wayInd (T : Tree n A len far next) {b : Nat} (hb : b < n) {P : Nat → Prop} (h0 : P b) (hs : ∀ a, a < n → a ≠ b → P (next a b) → P a) : ∀ (d a : Nat), a < n → (far b a).toNat ≤ d → P a := by
  intro d
  induction d with
  | zero =>
    intro a ha hd
    by_cases e : a = b
    · rw [e]; exact h0
    · have := T.measure hb a ha e; omega
  | succ d ih =>
    intro a ha hd
    by_cases e : a = b
    · rw [e]; exact h0
    · have := T.measure hb a ha e
      exact hs a ha e (ih _ this.1 (by omega))
theorem Tree.wayInd' (T : Tree n A len far next) {b : Nat} (hb : b < n) {P : Nat → Prop} (h0 : P b) (hs : ∀ a, a < n → a ≠ b → P (next a b) → P a) {a : Nat} (ha : a < n) : P a := T.wayInd hb h0 hs _ a ha (Nat.le_refl _)
theorem Tree.wayL_mem (T : Tree n A len far next) {a b : Nat} (ha : a < n) (hb : b < n) : ∀ c, c ∈ wayL far next a b → c < n ∧ far b c ≤ far b a := by
  refine T.wayInd' hb (P := fun a => ∀ c, c ∈ wayL far next a b → c < n ∧ far b c ≤ far b a) ?_ ?_ ha
  · intro c hc
    rw [wayL_self] at hc
    simp at hc
    rw [hc]; exact ⟨hb, Int.le_refl _⟩
  · intro a ha hab ih c hc
    rw [T.wayL_step ha hb hab] at hc
    rcases List.mem_cons.1 hc with rfl | hc
    · exact ⟨ha, Int.le_refl _⟩
    · have h1 := ih c hc
      have h2 := T.less hb ha hab
      exact ⟨h1.1, by omega⟩
theorem Tree.wayL_ne (T : Tree n A len far next) {a b : Nat} (ha : a < n) (hb : b < n) : wayL far next a b ≠ [] := by
  by_cases e : a = b
  · rw [e, wayL_self]; simp
  · rw [T.wayL_step ha hb e]; simp
theorem Tree.wayL_head (T : Tree n A len far next) {a b : Nat} (ha : a < n) (hb : b < n) : (wayL far next a b)[0]? = some a := by
  by_cases e : a = b
  · rw [e, wayL_self]; rfl
  · rw [T.wayL_step ha hb e]; rfl
/-- Behind the first step all lie in its direction. -/
theorem Tree.way_dir (T : Tree n A len far next) {a b : Nat} (ha : a < n) (hb : b < n) (hab : a ≠ b) : ∀ c, c ∈ wayL far next (next a b) b → next a c = next a b ∧ c ≠ a := by
  have hp := T.measure hb a ha hab
  have hlt := T.less hb ha hab
  have key : ∀ x, x < n → far b x < far b a → next a x = next a b → ∀ c, c ∈ wayL far next x b → next a c = next a b ∧ c ≠ a := by
    intro x hx
    refine T.wayInd' hb (P := fun x => far b x < far b a → next a x = next a b → ∀ c, c ∈ wayL far next x b → next a c = next a b ∧ c ≠ a) ?_ ?_ hx
    · intro _ _ c hc
      rw [wayL_self] at hc
      simp at hc
      rw [hc]; exact ⟨rfl, Ne.symm hab⟩
    · intro x hx hxb ih hf hn c hc
      have hxa : x ≠ a := fun e => by rw [e] at hf; omega
      rw [T.wayL_step hx hb hxb] at hc
      rcases List.mem_cons.1 hc with rfl | hc
      · exact ⟨hn, hxa⟩
      · obtain ⟨hq, hA, _⟩ := T.step b x hb hx hxb
        have h1 := T.less hb hx hxb
        have hqa : next x b ≠ a := fun e => by rw [e] at h1; omega
        have := T.alike' hx hq ha hA (Ne.symm hxa) (Ne.symm hqa)
        exact ih (by omega) (by rw [← this]; exact hn) c hc
  refine key _ hp.1 hlt ?_
  exact T.next_adj ha hp.1 (T.step b a hb ha hab).2.1
/-- The parts of a way are ways, and together as far. -/
theorem Tree.way_parts (T : Tree n A len far next) {a b : Nat} (ha : a < n) (hb : b < n) : ∀ i c, (wayL far next a b)[i]? = some c → (wayL far next a b).take (i + 1) = wayL far next a c ∧ (wayL far next a b).drop i = wayL far next c b ∧ far a c + far c b = far a b := by
  refine T.wayInd' hb (P := fun a => ∀ i c, (wayL far next a b)[i]? = some c → (wayL far next a b).take (i + 1) = wayL far next a c ∧ (wayL far next a b).drop i = wayL far next c b ∧ far a c + far c b = far a b) ?_ ?_ ha
  · intro i c h
    rw [wayL_self] at h ⊢
    cases i with
    | zero =>
      simp at h
      subst h
      rw [wayL_self]
      have := (T.self b hb).2
      exact ⟨rfl, rfl, by omega⟩
    | succ i => simp at h
  · intro a ha hab ih i c h
    rw [T.wayL_step ha hb hab] at h ⊢
    have hp := T.step b a hb ha hab
    cases i with
    | zero =>
      simp at h
      subst h
      have := (T.self a ha).2
      exact ⟨by rw [wayL_self]; rfl, by rw [List.drop_zero, ← T.wayL_step ha hb hab], by omega⟩
    | succ i =>
      rw [List.getElem?_cons_succ] at h
      obtain ⟨h1, h2, h3⟩ := ih i c h
      have hc := T.wayL_mem hp.1 hb c (List.mem_of_getElem? h)
      have hd := T.way_dir ha hb hab c (List.mem_of_getElem? h)
      refine ⟨?_, ?_, ?_⟩
      · rw [List.take_succ_cons, h1, T.wayL_step ha hc.1 (Ne.symm hd.2), hd.1]
      · rw [List.drop_succ_cons, h2]
      · have e1 := T.root' ha hp.1 hc.1 hp.2.1 hd.1 hd.2
        have e2 := T.root' ha hp.1 hb hp.2.1 rfl (Ne.symm hab)
        omega
theorem Tree.way_snoc (T : Tree n A len far next) {a p : Nat} (ha : a < n) (hp : p < n) (hA : A a p) {x : Nat} (hx : x < n) (hn : next a x = p) (hxa : x ≠ a) : wayL far next x a = wayL far next x p ++ [a] := by
  revert hn hxa
  refine T.wayInd' hp (P := fun x => next a x = p → x ≠ a → wayL far next x a = wayL far next x p ++ [a]) ?_ ?_ hx
  · intro _ hpa
    rw [wayL_self, T.wayL_step hp ha hpa, T.next_adj hp ha (T.symm _ _ hA), wayL_self]
    rfl
  · intro x hx hxp ih hn hxa
    obtain ⟨hq, hAq, _⟩ := T.step p x hp hx hxp
    have hal := T.alike' ha hp hx hA hxa hxp
    have hqa : next x p ≠ a := fun e => by
      rw [e] at hAq
      have := T.next_adj ha hx (T.symm _ _ hAq)
      rw [hn] at this
      exact hxp this.symm
    have hal2 := T.alike' hx hq ha hAq (Ne.symm hxa) (Ne.symm hqa)
    rw [T.wayL_step hx ha hxa, T.wayL_step hx hp hxp, hal, ih (by rw [← hal2]; exact hn) hqa]
    rfl
/-- The opposite of a way is the way back. -/
theorem Tree.way_back (T : Tree n A len far next) {a b : Nat} (ha : a < n) (hb : b < n) : (wayL far next a b).reverse = wayL far next b a := by
  refine T.wayInd' hb (P := fun a => (wayL far next a b).reverse = wayL far next b a) ?_ ?_ ha
  · rw [wayL_self]; rfl
  · intro a ha hab ih
    obtain ⟨hp, hA, _⟩ := T.step b a hb ha hab
    rw [T.wayL_step ha hb hab, List.reverse_cons, ih, T.way_snoc ha hp hA hb rfl (Ne.symm hab)]
theorem Tree.way_adj (T : Tree n A len far next) {a b : Nat} (ha : a < n) (hb : b < n) : ∀ i c d, (wayL far next a b)[i]? = some c → (wayL far next a b)[i + 1]? = some d → A c d := by
  refine T.wayInd' hb (P := fun a => ∀ i c d, (wayL far next a b)[i]? = some c → (wayL far next a b)[i + 1]? = some d → A c d) ?_ ?_ ha
  · intro i c d _ h
    rw [wayL_self] at h
    simp at h
  · intro a ha hab ih i c d h1 h2
    obtain ⟨hp, hA, _⟩ := T.step b a hb ha hab
    rw [T.wayL_step ha hb hab] at h1 h2
    rw [List.getElem?_cons_succ] at h2
    cases i with
    | zero =>
      simp at h1
      rw [T.wayL_head hp hb] at h2
      simp at h2
      rw [← h1, ← h2]
      exact hA
    | succ i =>
      rw [List.getElem?_cons_succ] at h1
      exact ih i c d h1 h2
theorem Tree.way_new (T : Tree n A len far next) {a b : Nat} (ha : a < n) (hb : b < n) : ∀ i c, (wayL far next a b)[i]? = some c → c ∉ (wayL far next a b).take i := by
  refine T.wayInd' hb (P := fun a => ∀ i c, (wayL far next a b)[i]? = some c → c ∉ (wayL far next a b).take i) ?_ ?_ ha
  · intro i c h
    rw [wayL_self] at h
    cases i with
    | zero => simp
    | succ i => simp at h
  · intro a ha hab ih i c h
    obtain ⟨hp, hA, _⟩ := T.step b a hb ha hab
    rw [T.wayL_step ha hb hab] at h ⊢
    cases i with
    | zero => simp
    | succ i =>
      rw [List.getElem?_cons_succ] at h
      rw [List.take_succ_cons]
      intro hm
      rcases List.mem_cons.1 hm with e | hm
      · exact (T.way_dir ha hb hab c (List.mem_of_getElem? h)).2 e
      · exact ih i c h hm
theorem Tree.way_last (T : Tree n A len far next) {a b : Nat} (ha : a < n) (hb : b < n) : (wayL far next a b)[(wayL far next a b).length - 1]? = some b := by
  have h1 := T.way_back ha hb
  have h2 := T.wayL_head hb ha
  rw [← h1] at h2
  have hne := List.length_pos_iff.2 (T.wayL_ne ha hb)
  rw [List.getElem?_reverse (by omega)] at h2
  rw [show (wayL far next a b).length - 1 = (wayL far next a b).length - 1 - 0 by omega]
  exact h2
theorem Tree.way_length (T : Tree n A len far next) {a b : Nat} (ha : a < n) (hb : b < n) : (wayL far next a b).length ≤ n := by
  refine nodup_length_le n _ ?_ (fun x hx => (T.wayL_mem ha hb x hx).1)
  refine T.wayInd' hb (P := fun a => (wayL far next a b).Nodup) ?_ ?_ ha
  · rw [wayL_self]; simp
  · intro a ha hab ih
    rw [T.wayL_step ha hb hab]
    exact List.nodup_cons.2 ⟨fun h => (T.way_dir ha hb hab a h).2 rfl, ih⟩
end
end Go.Proofs.Ytkhkgmelicdpkaa
