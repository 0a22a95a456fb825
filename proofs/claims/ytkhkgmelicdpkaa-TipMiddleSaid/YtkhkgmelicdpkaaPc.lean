/- Plain facts on the longest way and the centres of a tree. No program, no memory. -/
import Derived.Test.YtkhkgmelicdpkaaPe
set_option linter.unusedVariables false
set_option linter.unusedSimpArgs false
namespace Go.Proofs.Ytkhkgmelicdpkaa

section
variable {n : Nat} {A : Nat → Nat → Prop} {len far : Nat → Nat → Int} {next : Nat → Nat → Nat}
/-- No way is longer by another corner. -/
theorem Tree.tri (T : Tree n A len far next) {a b c : Nat} (ha : a < n) (hb : b < n) (hc : c < n) : far a c ≤ far a b + far b c := by
  refine T.wayInd' (b := b) hb (P := fun a => far a c ≤ far a b + far b c) ?_ ?_ ha
  · have := (T.self b hb).2; omega
  · intro a ha hab ih
    obtain ⟨hq, hA, h3⟩ := T.step b a hb ha hab
    have s1 := T.symm' ha hb
    have s2 := T.symm' hq hb
    have hp := T.pos _ _ hA
    rcases T.side ha hq hc hA with ⟨_, _, h⟩ | ⟨_, _, _, h⟩
    · omega
    · omega
/-- If a and b are as far from one another as any two, the farther of the two is as far from c as any corner. -/
theorem Tree.far_end (T : Tree n A len far next) {a b c u : Nat} (ha : a < n) (hb : b < n) (hc : c < n) (hu : u < n) (hmax : ∀ x y, x < n → y < n → far x y ≤ far a b) : far c u ≤ far c a ∨ far c u ≤ far c b := by
  refine T.wayInd' (b := u) hu (P := fun c => far c u ≤ far c a ∨ far c u ≤ far c b) ?_ ?_ hc
  · have h1 := (T.self u hu).2
    have h2 := (T.nonneg u a hu ha).1
    exact .inl (by omega)
  · intro c hc hcu ih
    have e0 : u ≠ c := Ne.symm hcu
    by_cases ea : a = c
    · subst ea
      exact .inr (hmax _ _ hc hu)
    by_cases eb : b = c
    · subst eb
      have h1 := hmax b u hc hu
      have h3 := T.symm' ha hc
      exact .inl (by omega)
    by_cases na : next c a = next c u
    · by_cases nb : next c b = next c u
      · obtain ⟨hq, hA, _⟩ := T.step u c hu hc hcu
        have r1 := T.root' hc hq hu hA rfl e0
        have r2 := T.root' hc hq ha hA na ea
        have r3 := T.root' hc hq hb hA nb eb
        rcases ih with h | h
        · exact .inl (by omega)
        · exact .inr (by omega)
      · have h1 := T.far_via' hc hu hb e0 (.inr nb)
        have h2 := hmax u b hu hb
        have h3 := T.tri (a := a) (b := c) (c := b) ha hc hb
        have h4 := T.symm' ha hc
        have h5 := T.symm' hu hc
        exact .inl (by omega)
    · have h1 := T.far_via' hc hu ha e0 (.inr na)
      have h2 := hmax u a hu ha
      have h3 := T.tri (a := a) (b := c) (c := b) ha hc hb
      have h4 := T.symm' ha hc
      have h5 := T.symm' hu hc
      exact .inr (by omega)
/-- The radius of c: how far the farther end is. -/
theorem Tree.radius_end (T : Tree n A len far next) {a b c : Nat} (ha : a < n) (hb : b < n) (hc : c < n) (hn : 1 ≤ n) (hmax : ∀ x y, x < n → y < n → far x y ≤ far a b) : mxF (far c) (n - 1) = if far c a < far c b then far c b else far c a := by
  obtain ⟨u, hu, eu⟩ := mxF_is (far c) (n - 1)
  have h1 := mxF_ge (far c) (n - 1) a (by omega)
  have h2 := mxF_ge (far c) (n - 1) b (by omega)
  have h3 := T.far_end ha hb hc (show u < n by omega) hmax
  split
  · rcases h3 with h | h <;> omega
  · rcases h3 with h | h <;> omega
/-- A corner off the way from a to b is farther from both ends than where the ways part. -/
theorem Tree.off_way (T : Tree n A len far next) {x y c : Nat} (hx : x < n) (hy : y < n) (hc : c < n) (h : c ∉ wayL far next x y) : ∃ v, v < n ∧ v ≠ c ∧ far c x = far c v + far v x ∧ far c y = far c v + far v y := by
  have e1 : c ≠ x := fun e => h (by rw [e]; exact List.mem_of_getElem? (T.wayL_head hx hy))
  have e2 : c ≠ y := fun e => h (by rw [e]; exact List.mem_of_getElem? (T.way_last hx hy))
  have e3 : next c x = next c y := Classical.byContradiction fun hn => h (T.on_way hc hy hx e1 hn)
  obtain ⟨v, hv, hvc, hor, hx1, hy1⟩ := T.parting hx hy _ c hc (Nat.le_refl _) e1 e2 e3
  have key : ∀ z, z < n → (v ≠ z → next v c ≠ next v z) → far c z = far c v + far v z := fun z hz hz1 => by
    by_cases ev : v = z
    · subst ev
      have := (T.self v hv).2
      omega
    · have h1 := T.far_via' hv hz hc (Ne.symm ev) (.inr (hz1 ev))
      have h2 := T.symm' hc hz
      have h3 := T.symm' hc hv
      have h4 := T.symm' hv hz
      omega
  exact ⟨v, hv, hvc, key x hx hx1, key y hy hy1⟩
/-- Along a way all are farther and farther from its beginning. -/
theorem Tree.way_inc (T : Tree n A len far next) {a b : Nat} (ha : a < n) (hb : b < n) {i j c d : Nat} (hij : i < j) (hc : (wayL far next a b)[i]? = some c) (hd : (wayL far next a b)[j]? = some d) : far a c < far a d := by
  have hdn := (T.wayL_mem ha hb d (List.mem_of_getElem? hd)).1
  have hcn := (T.wayL_mem ha hb c (List.mem_of_getElem? hc)).1
  have hp := (T.way_parts ha hb j d hd).1
  have h1 : (wayL far next a d)[i]? = some c := by rw [← hp, List.getElem?_take, if_pos (by omega)]; exact hc
  have h2 := (T.way_parts ha hdn i c h1).2.2
  have hne : d ≠ c := fun e => by
    subst e
    refine T.way_new ha hb j d hd (List.mem_of_getElem? (i := i) ?_)
    rw [List.getElem?_take, if_pos hij]
    exact hc
  have := T.far_pos hcn hdn hne
  omega
/-- Radius by the ends, on the way between them. -/
theorem Tree.centre_idx (T : Tree n A len far next) {a b : Nat} (ha : a < n) (hb : b < n) (hn : 1 ≤ n) (hmax : ∀ x y, x < n → y < n → far x y ≤ far a b) {i j c d : Nat} (hij : i < j) (hc : (wayL far next a b)[i]? = some c) (hd : (wayL far next a b)[j]? = some d)
    (hmc : ∀ x, x < n → mxF (far c) (n - 1) ≤ mxF (far x) (n - 1)) (hmd : ∀ x, x < n → mxF (far d) (n - 1) ≤ mxF (far x) (n - 1)) : j = i + 1 := by
  refine Classical.byContradiction fun hne => ?_
  have hlt : i + 1 < (wayL far next a b).length := by have := (List.getElem?_eq_some_iff.1 hd).1; omega
  obtain ⟨w, hw⟩ : ∃ w, (wayL far next a b)[i + 1]? = some w := ⟨_, List.getElem?_eq_getElem hlt⟩
  have hcn := (T.wayL_mem ha hb c (List.mem_of_getElem? hc)).1
  have hdn := (T.wayL_mem ha hb d (List.mem_of_getElem? hd)).1
  have hwn := (T.wayL_mem ha hb w (List.mem_of_getElem? hw)).1
  have f1 := T.way_inc ha hb (show i < i + 1 by omega) hc hw
  have f2 := T.way_inc ha hb (show i + 1 < j by omega) hw hd
  have p1 := (T.way_parts ha hb _ _ hc).2.2
  have p2 := (T.way_parts ha hb _ _ hw).2.2
  have p3 := (T.way_parts ha hb _ _ hd).2.2
  have r1 := T.radius_end ha hb hcn hn hmax
  have r2 := T.radius_end ha hb hwn hn hmax
  have r3 := T.radius_end ha hb hdn hn hmax
  have m1 := hmc w hwn
  have m2 := hmd w hwn
  have s1 := T.symm' ha hcn
  have s2 := T.symm' ha hwn
  have s3 := T.symm' ha hdn
  rw [r1, r2] at m1
  rw [r3, r2] at m2
  split at m1 <;> split at m1 <;> split at m2 <;> omega
/-- A centre is on the longest way. -/
theorem Tree.centre_on (T : Tree n A len far next) {a b c : Nat} (ha : a < n) (hb : b < n) (hc : c < n) (hn : 1 ≤ n) (hmax : ∀ x y, x < n → y < n → far x y ≤ far a b) (hmc : ∀ x, x < n → mxF (far c) (n - 1) ≤ mxF (far x) (n - 1)) : c ∈ wayL far next a b := by
  refine Classical.byContradiction fun h => ?_
  obtain ⟨v, hv, hvc, e1, e2⟩ := T.off_way ha hb hc h
  have r1 := T.radius_end ha hb hc hn hmax
  have r2 := T.radius_end ha hb hv hn hmax
  have hp := T.far_pos hc hv hvc
  have m := hmc v hv
  rw [r1, r2] at m
  split at m <;> split at m <;> omega
/-- Two centres have a lane. -/
theorem Tree.centre_two (T : Tree n A len far next) {a b c d : Nat} (ha : a < n) (hb : b < n) (hc : c < n) (hd : d < n) (hn : 1 ≤ n) (hmax : ∀ x y, x < n → y < n → far x y ≤ far a b) (hcd : c ≠ d) (hmc : ∀ x, x < n → mxF (far c) (n - 1) ≤ mxF (far x) (n - 1)) (hmd : ∀ x, x < n → mxF (far d) (n - 1) ≤ mxF (far x) (n - 1)) : A c d := by
  obtain ⟨i, hi⟩ := List.getElem?_of_mem (T.centre_on ha hb hc hn hmax hmc)
  obtain ⟨j, hj⟩ := List.getElem?_of_mem (T.centre_on ha hb hd hn hmax hmd)
  rcases Nat.lt_trichotomy i j with h | h | h
  · have e := T.centre_idx ha hb hn hmax h hi hj hmc hmd
    subst e
    exact T.way_adj ha hb i c d hi hj
  · subst h
    rw [hi] at hj
    cases hj
    exact absurd rfl hcd
  · have e := T.centre_idx ha hb hn hmax h hj hi hmd hmc
    subst e
    exact T.symm _ _ (T.way_adj ha hb j d c hj hi)
/-- There are no three centres. -/
theorem Tree.centre_three (T : Tree n A len far next) {a b c d e : Nat} (ha : a < n) (hb : b < n) (hc : c < n) (hd : d < n) (he : e < n) (hn : 1 ≤ n) (hmax : ∀ x y, x < n → y < n → far x y ≤ far a b) (hcd : c ≠ d) (hce : c ≠ e) (hde : d ≠ e)
    (hmc : ∀ x, x < n → mxF (far c) (n - 1) ≤ mxF (far x) (n - 1)) (hmd : ∀ x, x < n → mxF (far d) (n - 1) ≤ mxF (far x) (n - 1)) (hme : ∀ x, x < n → mxF (far e) (n - 1) ≤ mxF (far x) (n - 1)) : False := by
  obtain ⟨i, hi⟩ := List.getElem?_of_mem (T.centre_on ha hb hc hn hmax hmc)
  obtain ⟨j, hj⟩ := List.getElem?_of_mem (T.centre_on ha hb hd hn hmax hmd)
  obtain ⟨k, hk⟩ := List.getElem?_of_mem (T.centre_on ha hb he hn hmax hme)
  have n1 : i ≠ j := fun h => by subst h; rw [hi] at hj; cases hj; exact hcd rfl
  have n2 : i ≠ k := fun h => by subst h; rw [hi] at hk; cases hk; exact hce rfl
  have n3 : j ≠ k := fun h => by subst h; rw [hj] at hk; cases hk; exact hde rfl
  have q1 : i < j → j = i + 1 := fun h => T.centre_idx ha hb hn hmax h hi hj hmc hmd
  have q2 : j < i → i = j + 1 := fun h => T.centre_idx ha hb hn hmax h hj hi hmd hmc
  have q3 : i < k → k = i + 1 := fun h => T.centre_idx ha hb hn hmax h hi hk hmc hme
  have q4 : k < i → i = k + 1 := fun h => T.centre_idx ha hb hn hmax h hk hi hme hmc
  have q5 : j < k → k = j + 1 := fun h => T.centre_idx ha hb hn hmax h hj hk hmd hme
  have q6 : k < j → j = k + 1 := fun h => T.centre_idx ha hb hn hmax h hk hj hme hmd
  rcases Nat.lt_or_gt_of_ne n1 with h1 | h1
  · have := q1 h1
    rcases Nat.lt_or_gt_of_ne n2 with h2 | h2
    · have := q3 h2; omega
    · have := q4 h2; have := q6 (by omega); omega
  · have := q2 h1
    rcases Nat.lt_or_gt_of_ne n2 with h2 | h2
    · have := q3 h2; have := q5 (by omega); omega
    · have := q4 h2; omega
end
end Go.Proofs.Ytkhkgmelicdpkaa
