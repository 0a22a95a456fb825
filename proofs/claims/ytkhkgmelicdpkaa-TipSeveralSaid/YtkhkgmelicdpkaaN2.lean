/- Plain facts on the errors of a market, and on its tables. No program, no memory. -/
import Derived.Test.YtkhkgmelicdpkaaT
set_option linter.unusedVariables false
set_option linter.unusedSimpArgs false
namespace Go.Proofs.Ytkhkgmelicdpkaa

open Classical in
/-- The error of a market, or 0. -/
noncomputable def checkCode (L : List Int) (N : List Lane) : Int :=
  if headCode L N ≠ 0 then headCode L N else if lanesCode L.length N N.length ≠ 0 then lanesCode L.length N N.length else if AllFrom L.length (nearK N N.length) 0 then 0 else 5
/-- The error of a market and single corners, or 0. -/
noncomputable def laidCode (L : List Int) (N : List Lane) (cs : List Int) : Int := if checkCode L N ≠ 0 then checkCode L N else cornersCode L.length cs

theorem lanesCode_stays (n : Int) (N : List Lane) (k : Nat) (h : lanesCode n N k ≠ 0) : ∀ j, k ≤ j → lanesCode n N j = lanesCode n N k := by
  intro j hj
  induction j with
  | zero => rw [Nat.le_zero.1 hj]
  | succ j ih =>
    rcases Nat.lt_or_ge k (j + 1) with hlt | hge
    · have e := ih (by omega)
      simp only [lanesCode]
      rw [if_pos (by rw [e]; exact h), e]
    · rw [show k = j + 1 by omega]
theorem laneErr {L : List Int} {N : List Lane} {cs : List Int} {k : Nat} {c : Int} (h0 : headCode L N = 0) (hk : lanesCode L.length N k = 0) (hlt : k < N.length) (hb : laneBad L.length (getT N k) = c) (hc : c ≠ 0) : laidCode L N cs = c := by
  have e1 : lanesCode L.length N (k + 1) = c := by
    simp only [lanesCode]
    rw [if_neg (by rw [hk]; simp), hb]
  have e2 := lanesCode_stays L.length N (k + 1) (by rw [e1]; exact hc) N.length (by omega)
  have e3 : checkCode L N = c := by
    unfold checkCode
    rw [if_neg (by rw [h0]; simp), e2, e1, if_pos hc]
  unfold laidCode
  rw [e3, if_pos hc]
theorem lanesGood {n : Int} {N : List Lane} {k : Nat} (hk : lanesCode n N k = 0) : ∀ j, j < k → laneBad n (getT N j) = 0 := by
  intro j hj
  rcases Int.decEq (laneBad n (getT N j)) 0 with h | h
  · have e1 : lanesCode n N (j + 1) ≠ 0 := by
      simp only [lanesCode]
      split
      · assumption
      · exact h
    rw [← lanesCode_stays n N (j + 1) e1 k (by omega)] at e1
    exact absurd hk e1
  · exact h
theorem laneBad_zero {n : Nat} {l : Lane} (h : laneBad (n : Int) l = 0) : ∃ a b : Nat, l.1 = a ∧ l.2.1 = b ∧ a < b ∧ b < n ∧ 1 ≤ l.2.2 ∧ l.2.2 ≤ 9 := by
  unfold laneBad at h
  split at h
  · cases h
  · split at h
    · cases h
    · split at h
      · cases h
      · rename_i h1 h2 h3
        refine ⟨l.1.toNat, l.2.1.toNat, by omega, by omega, by omega, by omega, by omega, by omega⟩

theorem nearK_lt {n : Nat} {N : List Lane} (hn : n ≤ 8) : ∀ k, (∀ j, j < k → laneBad (n : Int) (getT N j) = 0) → ∀ c, nearK N k c < 256 := by
  intro k
  induction k with
  | zero => intro _ c; simp [nearK]
  | succ k ih =>
    intro h c
    obtain ⟨a, b, ha, hb, hab, hbn, _⟩ := laneBad_zero (h k (by omega))
    have ih' := ih (fun j hj => h j (by omega))
    have hp : ∀ q, q < n → 2 ^ q < 2 ^ 8 := fun q hq => Nat.pow_lt_pow_right (by omega) (by omega)
    simp only [nearK, upd, ha, hb, Int.toNat_natCast]
    split
    · exact Nat.or_lt_two_pow (n := 8) (ih' _) (hp a (by omega))
    · split
      · exact Nat.or_lt_two_pow (n := 8) (ih' _) (hp b hbn)
      · exact ih' c

theorem lenK_bound {n : Nat} {N : List Lane} : ∀ k, (∀ j, j < k → laneBad (n : Int) (getT N j) = 0) → ∀ x y, 0 ≤ lenK N k x y ∧ lenK N k x y ≤ 9 := by
  intro k
  induction k with
  | zero => intro _ x y; simp [lenK]
  | succ k ih =>
    intro h x y
    obtain ⟨a, b, ha, hb, hab, hbn, h1, h2⟩ := laneBad_zero (h k (by omega))
    have ih' := ih (fun j hj => h j (by omega))
    simp only [lenK, upd2]
    split
    · omega
    · split
      · omega
      · exact ih' x y
theorem nearK_symm {n : Nat} {N : List Lane} : ∀ k, (∀ j, j < k → laneBad (n : Int) (getT N j) = 0) → ∀ x y, (nearK N k x).testBit y = (nearK N k y).testBit x := by
  intro k
  induction k with
  | zero => intro _ x y; simp [nearK]
  | succ k ih =>
    intro h x y
    obtain ⟨a, b, ha, hb, hab, hbn, h1, h2⟩ := laneBad_zero (h k (by omega))
    have ih' := ih (fun j hj => h j (by omega))
    simp only [nearK, upd, ha, hb, Int.toNat_natCast]
    by_cases e1 : x = b
    · subst e1
      by_cases e2 : y = x
      · subst e2; rfl
      · by_cases e3 : y = a
        · subst e3
          simp [testBit_or_pow, e2, ih']
        · simp only [if_neg e2, if_neg e3, if_true, testBit_or_pow]
          rw [ih' x y]
          simp [Ne.symm e3]
    · by_cases e2 : y = b
      · subst e2
        by_cases e3 : x = a
        · subst e3
          simp [testBit_or_pow, e1, ih']
        · simp only [if_neg e1, if_neg e3, if_true, testBit_or_pow]
          rw [ih' x y]
          simp [Ne.symm e3]
      · by_cases e3 : x = a
        · subst e3
          by_cases e4 : y = x
          · subst e4; rfl
          · simp only [if_neg e1, if_neg e2, if_neg e4, if_true, testBit_or_pow]
            rw [ih' x y]
            simp [Ne.symm e2]
        · by_cases e4 : y = a
          · subst e4
            simp only [if_neg e1, if_neg e2, if_neg e3, if_true, testBit_or_pow]
            rw [ih' x y]
            simp [Ne.symm e1]
          · simp only [if_neg e1, if_neg e2, if_neg e3, if_neg e4]
            exact ih' x y
theorem allFrom_of {n : Nat} {near : Nat → Nat} {c d : Nat} (hs : ∀ x y, (near x).testBit y = (near y).testBit x) (hc : c < n) (hd : d < n) (h : AllFrom n near c) : AllFrom n near d := by
  intro S hS hcl k hk
  have hSc : S c := by
    refine Classical.byContradiction fun hn => ?_
    exact h (fun x => ¬ S x) hn (fun x y hx hy hsx hxy hsy => hsx (hcl y x hy hx hsy (by rw [hs y x]; exact hxy))) d hd hS
  exact h S hSc hcl k hk

theorem checkCode_ok {L : List Int} {N : List Lane} (h0 : headCode L N = 0) (hl : lanesCode L.length N N.length = 0) (hA : AllFrom L.length (nearK N N.length) 0) : checkCode L N = 0 := by
  unfold checkCode
  rw [if_neg (by rw [h0]; simp), if_neg (by rw [hl]; simp), if_pos hA]
theorem laidCode_ok {L : List Int} {N : List Lane} {cs : List Int} (h : checkCode L N = 0) : laidCode L N cs = cornersCode L.length cs := by
  unfold laidCode
  rw [if_neg (by rw [h]; simp)]

end Go.Proofs.Ytkhkgmelicdpkaa
