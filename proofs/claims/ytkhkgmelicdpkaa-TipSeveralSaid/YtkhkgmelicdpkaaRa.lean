/- Plain facts: corners that are reached without some others; ways that are begun and go on to a corner. No program, no memory. -/
import Derived.Test.YtkhkgmelicdpkaaPw
set_option linter.unusedVariables false
set_option linter.unusedSimpArgs false
namespace Go.Proofs.Ytkhkgmelicdpkaa

theorem all_length_le : ∀ (n : Nat) (l : List Nat), (∀ k, k < n → k ∈ l) → n ≤ l.length := by
  intro n
  induction n with
  | zero => intro l _; omega
  | succ n ih =>
    intro l h
    have h1 := ih (l.erase n) (fun k hk => (List.mem_erase_of_ne (by omega)).2 (h k (by omega)))
    have h2 := List.length_erase_of_mem (h n (by omega))
    have h3 := List.length_pos_of_mem (h n (by omega))
    omega
/-- While corners are met from one without the ones of W: row i is looked at up to k. -/
structure Meet (n : Nat) (A : Nat → Nat → Prop) (W : Nat → Prop) (r : Nat) (l : List Nat) (i k : Nat) : Prop where
  nodup : l.Nodup
  lt : ∀ x, x ∈ l → x < n
  root : r ∈ l
  reach : ∀ S : Nat → Prop, S r → (∀ x y, x < n → y < n → S x → A x y → ¬ W y → S y) → ∀ x, x ∈ l → S x
  closed : ∀ j x, l[j]? = some x → ∀ y, y < n → A x y → (j < i ∨ (j = i ∧ y < k)) → y ∈ l ∨ W y

section
variable {n : Nat} {A : Nat → Nat → Prop} {W : Nat → Prop} {r : Nat} {l : List Nat} {i k : Nat}
theorem Meet.start (hr : r < n) : Meet n A W r [r] 0 0 :=
  ⟨by simp, fun x hx => by simp at hx; omega, by simp, fun S h _ x hx => by simp at hx; rw [hx]; exact h, fun j x _ y _ _ h => by omega⟩
theorem Meet.skip (h : Meet n A W r l i k) {x : Nat} (hx : l[i]? = some x) (hs : ¬ A x k ∨ k ∈ l ∨ W k) : Meet n A W r l i (k + 1) := by
  refine ⟨h.nodup, h.lt, h.root, h.reach, fun j y hj z hz hA hjk => ?_⟩
  by_cases e : j = i ∧ z = k
  · obtain ⟨rfl, rfl⟩ := e
    rw [hx] at hj
    cases hj
    rcases hs with hs | hs | hs
    · exact absurd hA hs
    · exact .inl hs
    · exact .inr hs
  · exact h.closed j y hj z hz hA (by omega)
theorem Meet.add (h : Meet n A W r l i k) {x : Nat} (hx : l[i]? = some x) (hk : k < n) (hA : A x k) (hno : k ∉ l) (hW : ¬ W k) : Meet n A W r (l ++ [k]) i (k + 1) := by
  have hil : i < l.length := (List.getElem?_eq_some_iff.1 hx).1
  refine ⟨?_, ?_, by simp [h.root], ?_, fun j y hj z hz hAz hjk => ?_⟩
  · rw [List.nodup_append]
    refine ⟨h.nodup, by simp, fun a ha b hb e => ?_⟩
    simp at hb
    subst hb
    subst e
    exact hno ha
  · intro y hy
    rcases List.mem_append.1 hy with hy | hy
    · exact h.lt y hy
    · simp at hy; omega
  · intro S hS hcl y hy
    rcases List.mem_append.1 hy with hy | hy
    · exact h.reach S hS hcl y hy
    · simp at hy
      subst hy
      have hxm := List.mem_of_getElem? hx
      exact hcl x y (h.lt x hxm) hk (h.reach S hS hcl x hxm) hA hW
  · rcases Nat.lt_or_ge j l.length with hjl | hjl
    · rw [List.getElem?_append_left hjl] at hj
      by_cases e : j = i ∧ z = k
      · obtain ⟨rfl, rfl⟩ := e
        exact .inl (by simp)
      · rcases h.closed j y hj z hz hAz (by omega) with h1 | h1
        · exact .inl (by simp [h1])
        · exact .inr h1
    · omega
theorem Meet.next (h : Meet n A W r l i n) : Meet n A W r l (i + 1) 0 :=
  ⟨h.nodup, h.lt, h.root, h.reach, fun j y hj z hz hA hjk => h.closed j y hj z hz hA (by omega)⟩
/-- What is met in the end. -/
structure Met (n : Nat) (A : Nat → Nat → Prop) (W : Nat → Prop) (r : Nat) (l : List Nat) : Prop where
  nodup : l.Nodup
  lt : ∀ x, x ∈ l → x < n
  root : r ∈ l
  reach : ∀ S : Nat → Prop, S r → (∀ x y, x < n → y < n → S x → A x y → ¬ W y → S y) → ∀ x, x ∈ l → S x
  closed : ∀ x, x ∈ l → ∀ y, y < n → A x y → y ∈ l ∨ W y
theorem Meet.done (h : Meet n A W r l i k) (hi : l.length ≤ i) : Met n A W r l :=
  ⟨h.nodup, h.lt, h.root, h.reach, fun x hx y hy hA => by
    obtain ⟨j, hj⟩ := List.getElem?_of_mem hx
    have := (List.getElem?_eq_some_iff.1 hj).1
    exact h.closed j x hj y hy hA (.inl (by omega))⟩
theorem Meet.length (h : Meet n A W r l i k) : l.length ≤ n := nodup_length_le n l h.nodup h.lt
theorem Met.length (h : Met n A W r l) : l.length ≤ n := nodup_length_le n l h.nodup h.lt
/-- All are met just if all can be reached. -/
theorem Met.all {near : Nat → Nat} (h : Met n (fun x y => (near x).testBit y = true) W r l) (hW : ∀ y, ¬ W y) : (l.length = n ↔ AllFrom n near r) := by
  constructor
  · intro e S hS hcl k hk
    exact h.reach S hS (fun x y hx hy hsx hA _ => hcl x y hx hy hsx hA) k (nodup_full h.nodup h.lt e k hk)
  · intro hA
    have hall : ∀ k, k < n → k ∈ l := fun k hk => hA (fun x => x ∈ l) h.root (fun x y hx hy hsx hxy => by
      rcases h.closed x hsx y hy hxy with h1 | h1
      · exact h1
      · exact (hW y h1).elim) k hk
    have h1 := h.length
    have h2 : n ≤ l.length := by
      exact all_length_le n l hall
    omega
section
variable {len far : Nat → Nat → Int} {next : Nat → Nat → Nat}
/-- Without a corner, from its neighbour: the branch. -/
theorem Tree.met_branch (T : Tree n A len far next) {c p : Nat} (hc : c < n) (hp : p < n) (hA : A c p) (h : Met n A W p l) (hW : ∀ y, W y ↔ y = c) (x : Nat) (hx : x < n) : x ∈ l ↔ inBr next c p x = true := by
  have hin : ∀ y, inBr next c p y = true ↔ y ≠ c ∧ next c y = p := fun y => by simp [inBr]
  rw [hin]
  constructor
  · refine h.reach (fun y => y ≠ c ∧ next c y = p) ⟨Ne.symm (T.irr _ _ hA), T.next_adj hc hp hA⟩ (fun y z hy hz hs hyz hzc' => ?_) x
    have hzc : z ≠ c := fun e => hzc' ((hW z).2 e)
    refine ⟨hzc, ?_⟩
    rw [← hs.2]
    exact (T.alike' hy hz hc hyz (Ne.symm hs.1) (Ne.symm hzc)).symm
  · rintro ⟨h1, h2⟩
    revert h1 h2
    refine T.wayInd' hp (P := fun x => x ≠ c → next c x = p → x ∈ l) (fun _ _ => h.root) ?_ hx
    intro y hy hyp ih hyc hn
    obtain ⟨hq, hAq, _⟩ := T.step p y hp hy hyp
    have hqc : next y p ≠ c := fun e => by
      rw [e] at hAq
      have := T.next_adj hc hy (T.symm _ _ hAq)
      rw [hn] at this
      exact hyp this.symm
    have hq2 : next c (next y p) = p := by rw [← T.alike' hy hq hc hAq (Ne.symm hyc) (Ne.symm hqc)]; exact hn
    rcases h.closed _ (ih hqc hq2) y hy (T.symm _ _ hAq) with h1 | h1
    · exact h1
    · exact absurd ((hW y).1 h1) hyc

/-! ### Ways that are begun -/
/-- A step on to a neighbour that is not on the way. -/
theorem Tree.way_on (T : Tree n A len far next) {x v c : Nat} (hx : x < n) (hv : v < n) (hc : c < n) (hA : A v c) (hno : c ∉ wayL far next x v) : wayL far next x c = wayL far next x v ++ [c] := by
  have hxc : x ≠ c := fun e => hno (by
    have := T.wayL_head hx hv
    rw [e] at this ⊢
    exact List.mem_of_getElem? this)
  rcases T.edge' hx hv hc hA with ⟨h1, h2, _⟩ | ⟨h1, h2, _⟩
  · exfalso
    have hb := T.way_back hv hx
    rw [T.wayL_step hv hx h1, h2] at hb
    rw [← hb] at hno
    apply hno
    rw [List.mem_reverse]
    have := T.wayL_head hc hx
    exact List.mem_cons_of_mem _ (List.mem_of_getElem? this)
  · exact T.way_snoc hc hv (T.symm _ _ hA) hx h2 hxc
/-- The corner that follows on a way to a corner. -/
theorem Tree.way_follows (T : Tree n A len far next) {x v t : Nat} (hx : x < n) (ht : t < n) (hm : v ∈ wayL far next x t) (hvt : v ≠ t) :
    next v t < n ∧ A v (next v t) ∧ next v t ∈ wayL far next x t ∧ next v t ∉ wayL far next x v := by
  obtain ⟨i, hi⟩ := List.getElem?_of_mem hm
  have hv := (T.wayL_mem hx ht v hm).1
  obtain ⟨h1, h2, _⟩ := T.way_parts hx ht i v hi
  obtain ⟨hq, hAq, _⟩ := T.step t v ht hv hvt
  rw [T.wayL_step hv ht hvt] at h2
  have hn : (wayL far next x t)[i + 1]? = some (next v t) := by
    have := congrArg (fun l : List Nat => l[1]?) h2
    simp only [List.getElem?_drop, List.getElem?_cons_succ] at this
    rw [T.wayL_head hq ht] at this
    exact this
  refine ⟨hq, hAq, List.mem_of_getElem? hn, ?_⟩
  rw [← h1]
  exact T.way_new hx ht (i + 1) _ hn
/-- Another neighbour that is not on the way leads elsewhere. -/
theorem Tree.way_else (T : Tree n A len far next) {x v c t : Nat} (hx : x < n) (hv : v < n) (ht : t < n) (hA : A v c) (hno : c ∉ wayL far next x v) (hm : c ∈ wayL far next x t) : v ∈ wayL far next x t ∧ v ≠ t ∧ c = next v t := by
  have hc := (T.wayL_mem hx ht c hm).1
  obtain ⟨i, hi⟩ := List.getElem?_of_mem hm
  obtain ⟨h1, h2, _⟩ := T.way_parts hx ht i c hi
  rw [T.way_on hx hv hc hA hno] at h1
  have hlen := congrArg List.length h1
  have hil := (List.getElem?_eq_some_iff.1 hi).1
  simp only [List.length_take, List.length_append, List.length_singleton] at hlen
  have hvl := List.length_pos_iff.2 (T.wayL_ne hx hv)
  have hil' : i = (wayL far next x v).length := by omega
  have hlast : (wayL far next x t)[i - 1]? = some v := by
    have h3 := T.way_last hx hv
    have h4 : ((wayL far next x t).take (i + 1))[i - 1]? = some v := by
      rw [h1, List.getElem?_append_left (by omega), hil']
      exact h3
    rw [List.getElem?_take, if_pos (by omega)] at h4
    exact h4
  have hvm := List.mem_of_getElem? hlast
  obtain ⟨g1, g2, _⟩ := T.way_parts hx ht (i - 1) v hlast
  have hvt : v ≠ t := fun e => by
    subst e
    rw [wayL_self] at g2
    have := congrArg List.length g2
    simp only [List.length_drop, List.length_singleton] at this
    omega
  refine ⟨hvm, hvt, ?_⟩
  rw [T.wayL_step hv ht hvt] at g2
  have h5 := congrArg (fun l : List Nat => l[1]?) g2
  have hq := (T.step t v ht hv hvt).1
  simp only [List.getElem?_drop, List.getElem?_cons_succ] at h5
  rw [T.wayL_head hq ht, show i - 1 + 1 = i by omega, hi] at h5
  exact (Option.some.inj h5)
end
end
end Go.Proofs.Ytkhkgmelicdpkaa
