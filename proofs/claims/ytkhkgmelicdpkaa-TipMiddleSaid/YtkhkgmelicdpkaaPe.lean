/- Plain facts: medians are the same for all lengths, and lie on one way. No program, no memory. -/
import Derived.Test.YtkhkgmelicdpkaaPn
import Derived.Test.YtkhkgmelicdpkaaPw
set_option linter.unusedVariables false
set_option linter.unusedSimpArgs false
namespace Go.Proofs.Ytkhkgmelicdpkaa

section
variable {n : Nat} {A : Nat → Nat → Prop} {len far : Nat → Nat → Int} {next : Nat → Nat → Nat}
/-- Seen from x, all that is not behind v's step towards x lies in v's direction. -/
theorem Tree.behind (T : Tree n A len far next) {v x : Nat} (hv : v < n) (hx : x < n) (hxv : x ≠ v) : ∀ (d : Nat) (u : Nat), u < n → (far v u).toNat ≤ d → (u = v ∨ next v u ≠ next v x) → next x u = next x v ∧ u ≠ x := by
  intro d
  induction d with
  | zero =>
    intro u hu hd ho
    by_cases e : u = v
    · subst e; exact ⟨rfl, Ne.symm hxv⟩
    · have h1 := T.less hv hu e
      have h2 := T.nonneg v (next u v) hv (T.step v u hv hu e).1
      omega
  | succ d ih =>
    intro u hu hd ho
    by_cases e : u = v
    · subst e; exact ⟨rfl, Ne.symm hxv⟩
    · obtain ⟨hq, hA, _⟩ := T.step v u hv hu e
      have h1 := T.less hv hu e
      have h2 := T.nonneg v (next u v) hv hq
      have hnu : next v u ≠ next v x := ho.resolve_left e
      have hux : u ≠ x := fun e1 => hnu (by rw [e1])
      have hqo : next u v = v ∨ next v (next u v) ≠ next v x := by
        by_cases e2 : next u v = v
        · exact .inl e2
        · have := T.alike' hu hq hv hA (Ne.symm e) (Ne.symm e2)
          exact .inr (by rw [← this]; exact hnu)
      have hi := ih (next u v) hq (by omega) hqo
      exact ⟨(T.alike' hu hq hx hA (Ne.symm hux) (Ne.symm hi.2)).trans hi.1, hux⟩
/-- Behind v's step towards a median lies at least half of all loads. -/
theorem Tree.half_behind (T : Tree n A len far next) {L : List Int} (hpos : ∀ c, c < n → 0 ≤ gI L c) {v x : Nat} (hv : v < n) (hx : x < n) (hxv : x ≠ v) (hl : Light n A L next x) : sumF (gI L) n ≤ 2 * sumF (loadIn L next v (next v x)) n := by
  obtain ⟨hq, hA, _⟩ := T.step v x hv hx hxv
  have h1 := hl (next x v) hq hA
  have h2 : sumF (gI L) n ≤ sumF (loadIn L next v (next v x)) n + sumF (loadIn L next x (next x v)) n := by
    rw [← sumF_add]
    refine sumF_mono n fun u hu => ?_
    have h0 := hpos u hu
    unfold loadIn inBr
    by_cases ho : u = v ∨ next v u ≠ next v x
    · obtain ⟨h3, h4⟩ := T.behind hv hx hxv _ u hu (Nat.le_refl _) ho
      have e2 : (decide (u ≠ x) && decide (next x u = next x v)) = true := by simp [h3, h4]
      rw [if_pos e2]
      split <;> omega
    · have h3 : u ≠ v := fun h => ho (.inl h)
      have h4 : next v u = next v x := Classical.byContradiction fun h => ho (.inr h)
      have e2 : (decide (u ≠ v) && decide (next v u = next v x)) = true := by simp [h3, h4]
      rw [if_pos e2]
      split <;> omega
  omega
theorem three_branches {L : List Int} (hpos : ∀ c, c < n → 0 ≤ gI L c) {v d e f : Nat} (h1 : d ≠ e) (h2 : d ≠ f) (h3 : e ≠ f) : sumF (loadIn L next v d) n + sumF (loadIn L next v e) n + sumF (loadIn L next v f) n ≤ sumF (gI L) n := by
  rw [← sumF_add, ← sumF_add]
  refine sumF_mono n fun u hu => ?_
  have h0 := hpos u hu
  unfold loadIn inBr
  by_cases g0 : u = v
  · simp [g0]; rw [g0] at h0; exact h0
  · by_cases g1 : next v u = d
    · have a1 : ¬ next v u = e := fun h => h1 (g1.symm.trans h)
      have a2 : ¬ next v u = f := fun h => h2 (g1.symm.trans h)
      simp [g0, g1, h1, h2]
    · by_cases g2 : next v u = e
      · simp [g0, g2, Ne.symm h1, h3]
      · by_cases g3 : next v u = f
        · simp [g0, g3, Ne.symm h2, Ne.symm h3]
        · simp [g0, g1, g2, g3]; exact h0
theorem Tree.on_way (T : Tree n A len far next) {c y : Nat} (hc : c < n) (hy : y < n) {x : Nat} (hx : x < n) : c ≠ x → next c x ≠ next c y → c ∈ wayL far next x y := by
  refine T.wayInd' hy (P := fun x => c ≠ x → next c x ≠ next c y → c ∈ wayL far next x y) ?_ ?_ hx
  · intro _ h; exact absurd rfl h
  · intro x hx hxy ih hcx hn
    obtain ⟨hq, hA, _⟩ := T.step y x hy hx hxy
    rw [T.wayL_step hx hy hxy]
    by_cases e : next x y = c
    · refine List.mem_cons.2 (.inr ?_)
      rw [e]
      exact List.mem_of_getElem? (T.wayL_head hc hy)
    · refine List.mem_cons.2 (.inr (ih (Ne.symm e) ?_))
      rw [← T.alike' hx hq hc hA hcx (Ne.symm e)]
      exact hn
/-- Where the ways from c to x and to y part. -/
theorem Tree.parting (T : Tree n A len far next) {x y : Nat} (hx : x < n) (hy : y < n) : ∀ (d : Nat) (c : Nat), c < n → (far x c).toNat ≤ d → c ≠ x → c ≠ y → next c x = next c y → ∃ v, v < n ∧ v ≠ c ∧ (v = x ∨ v = y ∨ next v x ≠ next v y) ∧ (v ≠ x → next v c ≠ next v x) ∧ (v ≠ y → next v c ≠ next v y) := by
  intro d
  induction d with
  | zero =>
    intro c hc hd hcx hcy hn
    have h1 := T.less hx hc hcx
    have h2 := T.nonneg x (next c x) hx (T.step x c hx hc hcx).1
    omega
  | succ d ih =>
    intro c hc hd hcx hcy hn
    obtain ⟨hq, hA, _⟩ := T.step x c hx hc hcx
    have h1 := T.less hx hc hcx
    have h2 := T.nonneg x (next c x) hx hq
    have hne : next c x ≠ c := Ne.symm (T.irr _ _ hA)
    have hback : next (next c x) c = c := T.next_adj hq hc (T.symm _ _ hA)
    have turn : ∀ z, z < n → c ≠ z → next c z = next c x → next c x ≠ z → next (next c x) z ≠ c := fun z hz hcz hcn hdz e => by
      have g1 := T.less hz hc hcz
      have g2 := T.less hz hq hdz
      rw [hcn] at g1
      rw [e] at g2
      omega
    by_cases hstop : next c x = x ∨ next c x = y ∨ next (next c x) x ≠ next (next c x) y
    · refine ⟨next c x, hq, hne, hstop, fun e => ?_, fun e => ?_⟩
      · rw [hback]; exact Ne.symm (turn x hx hcx rfl e)
      · rw [hback]; exact Ne.symm (turn y hy hcy hn.symm e)
    · have s1 : next c x ≠ x := fun h => hstop (.inl h)
      have s2 : next c x ≠ y := fun h => hstop (.inr (.inl h))
      have s3 : next (next c x) x = next (next c x) y := Classical.byContradiction fun h => hstop (.inr (.inr h))
      obtain ⟨v, hv, hvd, hor, hx1, hy1⟩ := ih (next c x) hq (by omega) s1 s2 s3
      have hvc : v ≠ c := fun e => by
        subst e
        have hadj : next v (next v x) = next v x := T.next_adj hc hq hA
        exact hx1 hcx hadj
      have hal := T.alike' hc hq hv hA hvc hvd
      exact ⟨v, hv, hvc, hor, fun e => by rw [hal]; exact hx1 e, fun e => by rw [hal]; exact hy1 e⟩
/-- All medians lie on the way between the two that are farthest from one another. -/
theorem Tree.medians_way (T : Tree n A len far next) {L : List Int} (hpos : ∀ c, c < n → 0 ≤ gI L c) (hall : 0 < sumF (gI L) n) {x y c : Nat} (hx : x < n) (hy : y < n) (hc : c < n) (lx : Light n A L next x) (ly : Light n A L next y) (lc : Light n A L next c)
    (hmax : ∀ a b, a < n → b < n → Light n A L next a → Light n A L next b → far a b ≤ far x y) : c ∈ wayL far next x y := by
  by_cases e1 : c = x
  · rw [e1]; exact List.mem_of_getElem? (T.wayL_head hx hy)
  by_cases e2 : c = y
  · rw [e2]; exact List.mem_of_getElem? (T.way_last hx hy)
  by_cases e3 : next c x = next c y
  · exfalso
    obtain ⟨v, hv, hvc, hor, hx1, hy1⟩ := T.parting hx hy _ c hc (Nat.le_refl _) e1 e2 e3
    by_cases e4 : v = x
    · subst e4
      by_cases e5 : v = y
      · subst e5
        have h1 := hmax c v hc hv lc lx
        have h2 := T.far_pos hc hv (Ne.symm e1)
        have h3 := (T.self v hv).2
        omega
      · have h1 := T.far_via' hv hy hc (Ne.symm e5) (.inr (hy1 e5))
        have h2 := hmax y c hy hc ly lc
        have h3 := T.far_pos hv hc e1
        have h4 := T.symm' hv hy
        omega
    · by_cases e5 : v = y
      · subst e5
        have h1 := T.far_via' hv hx hc (Ne.symm e4) (.inr (hx1 e4))
        have h2 := hmax x c hx hc lx lc
        have h3 := T.far_pos hv hc e2
        omega
      · have hxy : next v x ≠ next v y := by
          rcases hor with h | h | h
          · exact absurd h e4
          · exact absurd h e5
          · exact h
        have g1 := T.half_behind hpos hv hx (Ne.symm e4) lx
        have g2 := T.half_behind hpos hv hy (Ne.symm e5) ly
        have g3 := T.half_behind hpos hv hc (Ne.symm hvc) lc
        have g4 := three_branches (n := n) (L := L) (next := next) hpos (v := v) hxy (Ne.symm (hx1 e4)) (Ne.symm (hy1 e5))
        omega
  · exact T.on_way hc hy hx e1 e3
/-- Without loads all are medians. -/
theorem light_zero {L : List Int} (hpos : ∀ c, c < n → 0 ≤ gI L c) (hall : sumF (gI L) n = 0) (c : Nat) : Light n A L next c := by
  intro d hd _
  have h1 : sumF (loadIn L next c d) n ≤ sumF (gI L) n := sumF_mono n fun u hu => by
    have := hpos u hu
    unfold loadIn
    split <;> omega
  omega
end
section
variable {L : List Int} {N N' : List Lane}
theorem nearK_ends (hl : N'.length = N.length) (he : ∀ j, j < N.length → (getT N' j).1 = (getT N j).1 ∧ (getT N' j).2.1 = (getT N j).2.1) : ∀ k, k ≤ N.length → nearK N' k = nearK N k := by
  intro k
  induction k with
  | zero => intro _; rfl
  | succ k ih =>
    intro hk
    obtain ⟨e1, e2⟩ := he k (by omega)
    simp only [nearK]
    rw [ih (by omega), e1, e2]
theorem same_near (hl : N'.length = N.length) (he : ∀ j, j < N.length → (getT N' j).1 = (getT N j).1 ∧ (getT N' j).2.1 = (getT N j).2.1) : nearK N' N'.length = nearK N N.length := by
  rw [hl]; exact nearK_ends hl he _ (Nat.le_refl _)
theorem same_code (hl : N'.length = N.length) (he : ∀ j, j < N.length → (getT N' j).1 = (getT N j).1 ∧ (getT N' j).2.1 = (getT N j).2.1) (hd : ∀ j, j < N.length → 1 ≤ (getT N' j).2.2 ∧ (getT N' j).2.2 ≤ 9) (h0 : checkCode L N = 0) : checkCode L N' = 0 := by
  have V := valid_of h0
  have hG : Good L.length N' N'.length := fun j hj => by
    obtain ⟨a, b, ha, hb, hab, hbn, _⟩ := V.good j (by omega)
    obtain ⟨e1, e2⟩ := he j (by omega)
    exact ⟨a, b, e1.trans ha, e2.trans hb, hab, hbn, hd j (by omega)⟩
  refine checkCode_ok ?_ (lanesCode_zero _ hG) (by rw [same_near hl he]; exact V.all)
  unfold headCode
  have hp := V.pos
  have hle := V.le
  have hlan := V.lanes
  obtain ⟨i, hi, ei⟩ := mnF_is (gI L) (L.length - 1)
  obtain ⟨j, hj, ej⟩ := mxF_is (gI L) (L.length - 1)
  have := V.loads i (by omega)
  have := V.loads j (by omega)
  rw [if_neg (by omega), if_neg (by omega), if_neg (by omega), if_neg (by omega)]
theorem same_med {far far' : Nat → Nat → Int} {next next' : Nat → Nat → Nat} (hl : N'.length = N.length) (he : ∀ j, j < N.length → (getT N' j).1 = (getT N j).1 ∧ (getT N' j).2.1 = (getT N j).2.1)
    (T : Tree L.length (Adj N) (lenK N N.length) far next) (T' : Tree L.length (Adj N') (lenK N' N'.length) far' next') : medL L N' next' = medL L N next := by
  have hA : Adj N' = Adj N := by
    funext x y
    unfold Adj
    rw [same_near hl he]
  rw [hA] at T'
  unfold medL
  refine List.filter_congr fun c hc => ?_
  have hc' : c < L.length := List.mem_range.1 hc
  have hs : ∀ d, sumF (loadIn L next' c d) L.length = sumF (loadIn L next c d) L.length := fun d => sumF_congr _ fun u hu => by
    unfold loadIn inBr
    rw [T'.next_unique T hu _ c hc' (Nat.le_refl _)]
  have key : ∀ c', (lightB L next' (nearK N' N'.length) c' = true ↔ Light L.length (Adj N') L next' c') := fun c' => light_iff c'
  have e1 : Light L.length (Adj N') L next' c ↔ Light L.length (Adj N) L next c := by
    rw [hA]
    unfold Light
    constructor
    · intro h d hd ha; rw [← hs d]; exact h d hd ha
    · intro h d hd ha; rw [hs d]; exact h d hd ha
  rw [Bool.eq_iff_iff, key c, light_iff c]
  exact e1
end
end Go.Proofs.Ytkhkgmelicdpkaa
