/- Plain facts: the market that is made by numbers, and its distances. No program, no memory. -/
import Derived.Test.YtkhkgmelicdpkaaT2
set_option linter.unusedVariables false
set_option linter.unusedSimpArgs false
namespace Go.Proofs.Ytkhkgmelicdpkaa

section
variable (bk : Nat → Nat) (ln : Nat → Int)
def madeN : Nat → List Lane
  | 0 => []
  | c + 1 => if c = 0 then [] else madeN c ++ [((bk c : Int), (c : Int), ln c)]
def madeFar : Nat → Nat → Nat → Int
  | 0 => fun _ _ => 0
  | c + 1 => fun x y => if x = c ∧ y < c then madeFar c (bk c) y + ln c else if y = c ∧ x < c then madeFar c (bk c) x + ln c else madeFar c x y
def madeNext : Nat → Nat → Nat → Nat
  | 0 => fun x _ => x
  | c + 1 => fun x y => if x = c then (if y < c then bk c else c) else if y = c then (if x = bk c then c else madeNext c x (bk c)) else madeNext c x y
end
section
variable {bk : Nat → Nat} {ln : Nat → Int}
theorem madeFar_succ (c x y : Nat) : madeFar bk ln (c + 1) x y = if x = c ∧ y < c then madeFar bk ln c (bk c) y + ln c else if y = c ∧ x < c then madeFar bk ln c (bk c) x + ln c else madeFar bk ln c x y := rfl
theorem madeNext_succ (c x y : Nat) : madeNext bk (c + 1) x y = if x = c then (if y < c then bk c else c) else if y = c then (if x = bk c then c else madeNext bk c x (bk c)) else madeNext bk c x y := rfl
theorem madeN_length : ∀ k, (madeN bk ln k).length = k - 1 := by
  intro k
  induction k with
  | zero => rfl
  | succ c ih =>
    simp only [madeN]
    split
    · subst_vars; rfl
    · rw [List.length_append, ih]; simp; omega
theorem getT_left {N M : List Lane} {j : Nat} (h : j < N.length) : getT (N ++ M) j = getT N j := by
  unfold getT
  simp only [List.getD_eq_getElem?_getD]
  rw [List.getElem?_append_left h]
theorem getT_last {N : List Lane} {l : Lane} : getT (N ++ [l]) N.length = l := by
  unfold getT
  simp [List.getD_eq_getElem?_getD]
theorem lenK_left {N M : List Lane} : ∀ k, k ≤ N.length → lenK (N ++ M) k = lenK N k := by
  intro k
  induction k with
  | zero => intro _; rfl
  | succ k ih => intro h; simp only [lenK]; rw [ih (by omega), getT_left (by omega)]
theorem nearK_left {N M : List Lane} : ∀ k, k ≤ N.length → nearK (N ++ M) k = nearK N k := by
  intro k
  induction k with
  | zero => intro _; rfl
  | succ k ih => intro h; simp only [nearK]; rw [ih (by omega), getT_left (by omega)]
theorem len_snoc {N : List Lane} {b c : Nat} {d : Int} : lenK (N ++ [((b : Int), (c : Int), d)]) (N ++ [((b : Int), (c : Int), d)]).length = upd2 (upd2 (lenK N N.length) b c d) c b d := by
  rw [List.length_append, List.length_singleton]
  simp only [lenK]
  rw [lenK_left _ (Nat.le_refl _), getT_last]
  simp
theorem near_snoc {N : List Lane} {b c : Nat} {d : Int} : nearK (N ++ [((b : Int), (c : Int), d)]) (N ++ [((b : Int), (c : Int), d)]).length = upd (upd (nearK N N.length) b (nearK N N.length b ||| 2 ^ c)) c (nearK N N.length c ||| 2 ^ b) := by
  rw [List.length_append, List.length_singleton]
  simp only [nearK]
  rw [nearK_left _ (Nat.le_refl _), getT_last]
  simp
theorem madeFar_zero : ∀ k x y, (k ≤ x ∨ k ≤ y) → madeFar bk ln k x y = 0 := by
  intro k
  induction k with
  | zero => intro x y _; rfl
  | succ c ih =>
    intro x y h
    simp only [madeFar]
    rw [if_neg (by omega), if_neg (by omega)]
    exact ih x y (by omega)
theorem madeFar_self : ∀ k x, madeFar bk ln k x x = 0 := by
  intro k
  induction k with
  | zero => intro x; rfl
  | succ c ih =>
    intro x
    simp only [madeFar]
    rw [if_neg (by omega), if_neg (by omega)]
    exact ih x
theorem madeFar_symm : ∀ k x y, madeFar bk ln k x y = madeFar bk ln k y x := by
  intro k
  induction k with
  | zero => intro x y; rfl
  | succ c ih =>
    intro x y
    simp only [madeFar]
    by_cases h1 : x = c ∧ y < c
    · rw [if_pos h1, if_neg (by omega), if_pos h1]
    · rw [if_neg h1]
      by_cases h2 : y = c ∧ x < c
      · rw [if_pos h2, if_pos h2]
      · rw [if_neg h2, if_neg h2, if_neg h1]
        exact ih x y
theorem madeFar_old {c x y : Nat} (hx : x < c) (hy : y < c) : madeFar bk ln (c + 1) x y = madeFar bk ln c x y := by
  simp only [madeFar]
  rw [if_neg (by omega), if_neg (by omega)]
theorem madeFar_row {c y : Nat} (hy : y < c) : madeFar bk ln (c + 1) c y = madeFar bk ln c (bk c) y + ln c := by
  simp only [madeFar]
  rw [if_pos ⟨trivial, hy⟩]
theorem madeFar_col {c x : Nat} (hx : x < c) : madeFar bk ln (c + 1) x c = madeFar bk ln c (bk c) x + ln c := by
  rw [madeFar_symm, madeFar_row hx]
theorem madeFar_bound (hb : ∀ c, 0 < c → bk c < c) (hl : ∀ c, 1 ≤ ln c ∧ ln c ≤ 9) : ∀ k x y, 0 ≤ madeFar bk ln (k + 1) x y ∧ madeFar bk ln (k + 1) x y ≤ 9 * (k : Int) := by
  intro k
  induction k with
  | zero => intro x y; simp [madeFar]
  | succ k ih =>
    intro x y
    have h0 := hl (k + 1)
    rw [madeFar_succ]
    split
    · have := ih (bk (k + 1)) y; omega
    · split
      · have := ih (bk (k + 1)) x; omega
      · have := ih x y; omega
theorem upd_or {f : Nat → Nat} {b c x y : Nat} (hbc : b ≠ c) : ((upd (upd f b (f b ||| 2 ^ c)) c (f c ||| 2 ^ b)) x).testBit y = ((f x).testBit y || decide ((x = b ∧ y = c) ∨ (x = c ∧ y = b))) := by
  simp only [upd]
  by_cases h1 : x = c
  · subst h1
    rw [if_pos rfl, testBit_or_pow]
    congr 1
    by_cases h2 : b = y
    · subst h2; simp
    · simp [h2, Ne.symm hbc, Ne.symm h2]
  · rw [if_neg h1]
    by_cases h2 : x = b
    · subst h2
      rw [if_pos rfl, testBit_or_pow]
      congr 1
      by_cases h3 : c = y
      · subst h3; simp
      · simp [h3, Ne.symm h3, h1]
    · rw [if_neg h2]
      simp [h1, h2]
theorem made_rooted (hb : ∀ c, 0 < c → bk c < c) (hl : ∀ c, 1 ≤ ln c ∧ ln c ≤ 9) : ∀ k, k < 8 → AllRooted (k + 1) (madeN bk ln (k + 1)) (madeFar bk ln (k + 1)) (madeNext bk (k + 1)) := by
  intro k
  induction k with
  | zero =>
    intro _ c hc
    obtain rfl : c = 0 := by omega
    exact ⟨⟨by simp [madeNext], madeFar_self _ _⟩, fun k hk => by have := madeFar_bound hb hl 0 0 k; omega, fun k hk hkc => by omega⟩
  | succ k ih =>
    intro hk t ht
    have IH := ih (by omega)
    have hbc := hb (k + 1) (by omega)
    have hl0 := hl (k + 1)
    have hN : madeN bk ln (k + 1 + 1) = madeN bk ln (k + 1) ++ [((bk (k + 1) : Int), ((k + 1 : Nat) : Int), ln (k + 1))] := by
      rw [madeN, if_neg (by omega)]
    refine ⟨⟨?_, madeFar_self _ _⟩, fun v hv => by have := madeFar_bound hb hl (k + 1) t v; omega, fun v hv hvt => ?_⟩
    · show madeNext bk (k + 1 + 1) t t = t
      by_cases e : t = k + 1
      · subst e; rw [madeNext_succ, if_pos rfl, if_neg (by omega)]
      · rw [madeNext_succ, if_neg e, if_neg e]
        exact (IH t (by omega)).root.1
    · show madeNext bk (k + 1 + 1) v t < k + 1 + 1 ∧ (nearK (madeN bk ln (k + 1 + 1)) (madeN bk ln (k + 1 + 1)).length (madeNext bk (k + 1 + 1) v t)).testBit v = true ∧ madeFar bk ln (k + 1 + 1) t v = madeFar bk ln (k + 1 + 1) t (madeNext bk (k + 1 + 1) v t) + lenK (madeN bk ln (k + 1 + 1)) (madeN bk ln (k + 1 + 1)).length (madeNext bk (k + 1 + 1) v t) v
      rw [hN, len_snoc, near_snoc]
      by_cases e1 : v = k + 1
      · have e2 : t < k + 1 := by omega
        have en : madeNext bk (k + 1 + 1) v t = bk (k + 1) := by rw [madeNext_succ, if_pos e1, if_pos e2]
        rw [en]
        refine ⟨by omega, ?_, ?_⟩
        · rw [upd_or (by omega)]; simp [e1]
        · subst e1
          rw [madeFar_col e2, madeFar_old e2 hbc, madeFar_symm]
          simp only [upd2]
          rw [if_neg (by omega), if_pos ⟨trivial, trivial⟩]
      · have hv' : v < k + 1 := by omega
        by_cases e2 : t = k + 1
        · by_cases e3 : v = bk (k + 1)
          · have en : madeNext bk (k + 1 + 1) v t = k + 1 := by rw [madeNext_succ, if_neg e1, if_pos e2, if_pos e3]
            rw [en]
            refine ⟨by omega, ?_, ?_⟩
            · rw [upd_or (by omega)]; simp [e3]
            · subst e2
              rw [madeFar_row hv', madeFar_self, e3, madeFar_self]
              simp [upd2]
          · have en : madeNext bk (k + 1 + 1) v t = madeNext bk (k + 1) v (bk (k + 1)) := by rw [madeNext_succ, if_neg e1, if_pos e2, if_neg e3]
            rw [en]
            obtain ⟨h1, h2, h3⟩ := (IH (bk (k + 1)) hbc).tree v hv' e3
            try simp only at h1 h2 h3
            refine ⟨by omega, ?_, ?_⟩
            · rw [upd_or (by omega), h2]; simp
            · subst e2
              rw [madeFar_row hv', madeFar_row h1, h3]
              simp only [upd2]
              rw [if_neg (by omega), if_neg (by omega)]
              omega
        · have ht' : t < k + 1 := by omega
          have en : madeNext bk (k + 1 + 1) v t = madeNext bk (k + 1) v t := by rw [madeNext_succ, if_neg e1, if_neg e2]
          rw [en]
          obtain ⟨h1, h2, h3⟩ := (IH t ht').tree v hv' hvt
          try simp only at h1 h2 h3
          refine ⟨by omega, ?_, ?_⟩
          · rw [upd_or (by omega), h2]; simp
          · rw [madeFar_old ht' hv', madeFar_old ht' h1, h3]
            simp only [upd2]
            rw [if_neg (by omega), if_neg (by omega)]
theorem madeN_at : ∀ k j, j + 1 < k → getT (madeN bk ln k) j = ((bk (j + 1) : Int), ((j + 1 : Nat) : Int), ln (j + 1)) := by
  intro k
  induction k with
  | zero => intro j h; omega
  | succ c ih =>
    intro j h
    rw [madeN, if_neg (by omega)]
    rcases Nat.lt_or_ge (j + 1) c with h' | h'
    · rw [getT_left (by rw [madeN_length]; omega)]
      exact ih j h'
    · obtain rfl : c = j + 1 := by omega
      have e : j = (madeN bk ln (j + 1)).length := by rw [madeN_length]; omega
      conv => lhs; rw [show getT (madeN bk ln (j + 1) ++ [((bk (j + 1) : Int), ((j + 1 : Nat) : Int), ln (j + 1))]) j = getT (madeN bk ln (j + 1) ++ [((bk (j + 1) : Int), ((j + 1 : Nat) : Int), ln (j + 1))]) (madeN bk ln (j + 1)).length by rw [← e]]
      exact getT_last
theorem made_good (hb : ∀ c, 0 < c → bk c < c) (hl : ∀ c, 1 ≤ ln c ∧ ln c ≤ 9) (n : Nat) : Good n (madeN bk ln n) (madeN bk ln n).length := by
  intro j hj
  rw [madeN_length] at hj
  rw [madeN_at n j (by omega)]
  exact ⟨bk (j + 1), j + 1, rfl, rfl, hb _ (by omega), by omega, hl _⟩
theorem allFrom_rooted {n : Nat} {N : List Lane} {far : Nat → Nat → Int} {next : Nat → Nat → Nat} (hG : Good n N N.length) (hR : AllRooted n N far next) (hn : 0 < n) : AllFrom n (nearK N N.length) 0 := by
  intro S hS hcl
  have R := hR 0 hn
  have key : ∀ d k, k < n → (far 0 k).toNat ≤ d → S k := by
    intro d
    induction d with
    | zero =>
      intro k hk hd
      by_cases e : k = 0
      · rw [e]; exact hS
      · obtain ⟨h1, h2, h3⟩ := R.tree k hk e
        have := adj_pos hG (x := next k 0) (y := k) h2
        have := R.bound (next k 0) h1
        try simp only at h3
        omega
    | succ d ih =>
      intro k hk hd
      by_cases e : k = 0
      · rw [e]; exact hS
      · obtain ⟨h1, h2, h3⟩ := R.tree k hk e
        have := adj_pos hG (x := next k 0) (y := k) h2
        have := R.bound (next k 0) h1
        try simp only at h3
        exact hcl _ k h1 hk (ih _ h1 (by omega)) h2
  intro k hk
  exact key _ k hk (Nat.le_refl _)
theorem mnF_is (f : Nat → Int) : ∀ k, ∃ i, i ≤ k ∧ mnF f k = f i := by
  intro k
  induction k with
  | zero => exact ⟨0, Nat.le_refl _, rfl⟩
  | succ k ih =>
    obtain ⟨i, hi, e⟩ := ih
    simp only [mnF, mn]
    split
    · exact ⟨k + 1, Nat.le_refl _, rfl⟩
    · exact ⟨i, by omega, e⟩
theorem lanesCode_zero {n : Nat} {N : List Lane} : ∀ k, Good n N k → lanesCode (n : Int) N k = 0 := by
  intro k
  induction k with
  | zero => intro _; rfl
  | succ k ih =>
    intro h
    simp only [lanesCode]
    rw [ih (fun j hj => h j (by omega)), if_neg (by simp)]
    obtain ⟨a, b, ha, hb, h1, h2, h3, h4⟩ := h k (by omega)
    unfold laneBad
    rw [ha, hb, if_neg (by omega), if_neg (by omega), if_neg (by omega)]
theorem made_code (hb : ∀ c, 0 < c → bk c < c) (hl : ∀ c, 1 ≤ ln c ∧ ln c ≤ 9) (L : List Int) (h0 : 0 < L.length) (h8 : L.length ≤ 8) (hL : ∀ c, c < L.length → 0 ≤ gI L c ∧ gI L c ≤ 9) : checkCode L (madeN bk ln L.length) = 0 ∧ AllRooted L.length (madeN bk ln L.length) (madeFar bk ln L.length) (madeNext bk L.length) := by
  have hR : AllRooted L.length (madeN bk ln L.length) (madeFar bk ln L.length) (madeNext bk L.length) := by
    obtain ⟨k, hk⟩ : ∃ k, L.length = k + 1 := ⟨L.length - 1, by omega⟩
    rw [hk]
    exact made_rooted hb hl k (by omega)
  have hG := made_good hb hl L.length
  refine ⟨checkCode_ok ?_ (lanesCode_zero _ hG) (allFrom_rooted hG hR h0), hR⟩
  unfold headCode
  obtain ⟨i, hi, ei⟩ := mnF_is (gI L) (L.length - 1)
  obtain ⟨j, hj, ej⟩ := mxF_is (gI L) (L.length - 1)
  have := hL i (by omega)
  have := hL j (by omega)
  rw [if_neg (by omega), if_neg (by omega), if_neg (by omega), if_neg (by rw [madeN_length]; simp)]
end
end Go.Proofs.Ytkhkgmelicdpkaa
