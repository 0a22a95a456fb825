/- Plain facts: a market without error is a tree. No program, no memory. -/
import Derived.Test.YtkhkgmelicdpkaaN2
set_option linter.unusedVariables false
set_option linter.unusedSimpArgs false
namespace Go.Proofs.Ytkhkgmelicdpkaa

theorem mnF_le (f : Nat → Int) : ∀ k i, i ≤ k → mnF f k ≤ f i := by
  intro k
  induction k with
  | zero => intro i hi; rw [Nat.le_zero.1 hi]; simp [mnF]
  | succ k ih =>
    intro i hi
    simp only [mnF, mn]
    rcases Nat.lt_or_ge i (k + 1) with h | h
    · have := ih i (by omega)
      split <;> omega
    · obtain rfl : i = k + 1 := by omega
      split <;> omega
theorem mxF_ge (f : Nat → Int) : ∀ k i, i ≤ k → f i ≤ mxF f k := by
  intro k
  induction k with
  | zero => intro i hi; rw [Nat.le_zero.1 hi]; simp [mxF]
  | succ k ih =>
    intro i hi
    simp only [mxF, mx]
    rcases Nat.lt_or_ge i (k + 1) with h | h
    · have := ih i (by omega)
      split <;> omega
    · obtain rfl : i = k + 1 := by omega
      split <;> omega
theorem mxF_is (f : Nat → Int) : ∀ k, ∃ i, i ≤ k ∧ mxF f k = f i := by
  intro k
  induction k with
  | zero => exact ⟨0, Nat.le_refl _, rfl⟩
  | succ k ih =>
    obtain ⟨i, hi, e⟩ := ih
    simp only [mxF, mx]
    split
    · exact ⟨k + 1, Nat.le_refl _, rfl⟩
    · exact ⟨i, by omega, e⟩

structure Valid (L : List Int) (N : List Lane) : Prop where
  pos : 1 ≤ L.length
  le : L.length ≤ 8
  lanes : N.length + 1 = L.length
  good : Good L.length N N.length
  loads : ∀ c, c < L.length → 0 ≤ gI L c ∧ gI L c ≤ 9
  all : AllFrom L.length (nearK N N.length) 0

theorem valid_of {L : List Int} {N : List Lane} (h : checkCode L N = 0) : Valid L N := by
  have h0 : headCode L N = 0 := by
    rcases Int.decEq (headCode L N) 0 with h' | h'
    · unfold checkCode at h; rw [if_pos h'] at h; exact absurd h h'
    · exact h'
  have h1 : lanesCode L.length N N.length = 0 := by
    rcases Int.decEq (lanesCode L.length N N.length) 0 with h' | h'
    · unfold checkCode at h; rw [if_neg (by rw [h0]; simp), if_pos h'] at h; exact absurd h h'
    · exact h'
  have h2 : AllFrom L.length (nearK N N.length) 0 := by
    refine Classical.byContradiction fun h' => ?_
    unfold checkCode at h
    rw [if_neg (by rw [h0]; simp), if_neg (by rw [h1]; simp), if_neg h'] at h
    cases h
  unfold headCode at h0
  split at h0
  · cases h0
  · split at h0
    · cases h0
    · split at h0
      · cases h0
      · split at h0
        · cases h0
        · rename_i g1 g2 g3 g4
          refine ⟨by omega, by omega, by omega, fun j hj => laneBad_zero (lanesGood h1 j hj), fun c hc => ?_, h2⟩
          have a1 := mnF_le (gI L) (L.length - 1) c (by omega)
          have a2 := mxF_ge (gI L) (L.length - 1) c (by omega)
          omega

def Adj (N : List Lane) (x y : Nat) : Prop := (nearK N N.length x).testBit y = true

theorem lenK_symm {n : Nat} {N : List Lane} : ∀ k, Good n N k → ∀ x y, lenK N k x y = lenK N k y x := by
  intro k
  induction k with
  | zero => intro _ x y; rfl
  | succ k ih =>
    intro h x y
    obtain ⟨a, b, ha, hb, hab, hbn, h1, h2⟩ := h k (by omega)
    have ih' := ih (fun j hj => h j (by omega)) x y
    simp only [lenK, upd2, ha, hb, Int.toNat_natCast]
    by_cases c1 : x = b ∧ y = a
    · rw [if_pos c1, if_neg (by omega), if_pos (by omega)]
    · rw [if_neg c1]
      by_cases c2 : x = a ∧ y = b
      · rw [if_pos c2, if_pos (by omega)]
      · rw [if_neg c2, if_neg (by omega), if_neg (by omega)]
        exact ih'

section
variable {n : Nat} {N : List Lane} {far : Nat → Nat → Int} {next : Nat → Nat → Nat}

theorem adj_iff (hG : Good n N N.length) (x y : Nat) : Adj N x y ↔ ∃ j, j < N.length ∧ joins (getT N j) x y := near_iff N.length hG x y
theorem adj_symm (hG : Good n N N.length) {x y : Nat} (h : Adj N x y) : Adj N y x := by
  obtain ⟨j, hj, hh⟩ := (adj_iff hG x y).1 h
  exact (adj_iff hG y x).2 ⟨j, hj, joins_symm hh⟩
theorem adj_pos (hG : Good n N N.length) {x y : Nat} (h : Adj N x y) : 1 ≤ lenK N N.length x y ∧ lenK N N.length x y ≤ 9 := by
  obtain ⟨j, hj, hh⟩ := (adj_iff hG x y).1 h
  rcases len_of N.length hG x y with ⟨i, hi, _, e⟩ | ⟨hno, _⟩
  · obtain ⟨a, b, _, _, _, _, h1, h2⟩ := hG i hi
    rw [e]; exact ⟨h1, h2⟩
  · exact absurd hh (hno j hj)
theorem adj_irr (hG : Good n N N.length) {x y : Nat} (h : Adj N x y) : x ≠ y := by
  obtain ⟨j, hj, hh⟩ := (adj_iff hG x y).1 h
  obtain ⟨a, b, ha, hb, hab, _⟩ := hG j hj
  unfold joins at hh
  rw [ha, hb] at hh
  omega
theorem adj_lt (hG : Good n N N.length) {x y : Nat} (h : Adj N x y) : x < n ∧ y < n := by
  obtain ⟨j, hj, hh⟩ := (adj_iff hG x y).1 h
  obtain ⟨a, b, ha, hb, hab, _⟩ := hG j hj
  unfold joins at hh
  rw [ha, hb] at hh
  omega

def AllRooted (n : Nat) (N : List Lane) (far : Nat → Nat → Int) (next : Nat → Nat → Nat) : Prop := ∀ c, c < n → Rooted n (lenK N N.length) (nearK N N.length) c (far c) (fun k => next k c)

/-- Each lane is a step towards c, and of one corner alone. -/
theorem lanes_count (hN : N.length + 1 = n) (hG : Good n N N.length) (hR : AllRooted n N far next) {c : Nat} (hc : c < n) : ∃ J : Nat → Nat, ∀ j, j < N.length → ∃ v, v < n ∧ v ≠ c ∧ J v = j ∧ joins (getT N j) v (next v c) := by
  have hJ : ∀ v, v < n → v ≠ c → ∃ j, j < N.length ∧ joins (getT N j) v (next v c) := fun v hv hvc => by
    have := ((hR c hc).tree v hv hvc).2.1
    exact (adj_iff hG v _).1 (adj_symm hG this)
  let J : Nat → Nat := fun v => if h : v < n ∧ v ≠ c then Classical.choose (hJ v h.1 h.2) else 0
  have hJs : ∀ v, v < n → v ≠ c → J v < N.length ∧ joins (getT N (J v)) v (next v c) := fun v hv hvc => by
    have e : J v = Classical.choose (hJ v hv hvc) := dif_pos ⟨hv, hvc⟩
    rw [e]
    exact Classical.choose_spec (hJ v hv hvc)
  have hnd : (List.range n).Nodup := List.nodup_range
  have hmem : ∀ v, v ∈ (List.range n).erase c ↔ v ≠ c ∧ v < n := fun v => by rw [hnd.mem_erase_iff, List.mem_range]
  have hlen : ((List.range n).erase c).length = N.length := by
    rw [List.length_erase_of_mem (List.mem_range.2 hc), List.length_range]
    omega
  have hfull := nodup_full (m := N.length) (l := ((List.range n).erase c).map J) ?_ ?_ (by rw [List.length_map, hlen])
  · refine ⟨J, fun j hj => ?_⟩
    obtain ⟨v, hv, e⟩ := List.mem_map.1 (hfull j hj)
    obtain ⟨hvc, hvn⟩ := (hmem v).1 hv
    exact ⟨v, hvn, hvc, e, by rw [← e]; exact (hJs v hvn hvc).2⟩
  · rw [List.Nodup, List.pairwise_map]
    refine List.Pairwise.imp_of_mem (fun {a b} ha hb hab e => ?_) (hnd.erase c)
    obtain ⟨hac, han⟩ := (hmem a).1 ha
    obtain ⟨hbc, hbn⟩ := (hmem b).1 hb
    have h1 := (hJs a han hac).2
    have h2 := (hJs b hbn hbc).2
    rw [e] at h1
    have ta := (hR c hc).tree a han hac
    have tb := (hR c hc).tree b hbn hbc
    have pa := adj_pos hG ta.2.1
    have pb := adj_pos hG tb.2.1
    have hab' : next a c = b ∧ next b c = a := by
      unfold joins at h1 h2
      omega
    have fa := ta.2.2
    have fb := tb.2.2
    rw [hab'.1] at fa
    rw [hab'.2] at fb
    simp only [hab'.1] at pa
    simp only [hab'.2] at pb
    omega
  · intro x hx
    obtain ⟨v, hv, e⟩ := List.mem_map.1 hx
    obtain ⟨hvc, hvn⟩ := (hmem v).1 hv
    rw [← e]
    exact (hJs v hvn hvc).1

theorem tree_of (hN : N.length + 1 = n) (hG : Good n N N.length) (hR : AllRooted n N far next) : Tree n (Adj N) (lenK N N.length) far next := by
  refine ⟨fun c hc => (hR c hc).root, fun c v hc hv hvc => ?_, fun c x y hc hx hy h => ?_, fun x y h => adj_symm hG h, lenK_symm N.length hG, fun x y h => adj_pos hG h, fun x y h => adj_irr hG h, fun c v hc hv => (hR c hc).bound v hv⟩
  · obtain ⟨h1, h2, h3⟩ := (hR c hc).tree v hv hvc
    exact ⟨h1, adj_symm hG h2, by rw [lenK_symm N.length hG v]; exact h3⟩
  · obtain ⟨j, hj, hh⟩ := (adj_iff hG x y).1 h
    obtain ⟨J, hJ⟩ := lanes_count hN hG hR hc
    obtain ⟨v, hv, hvc, _, hjv⟩ := hJ j hj
    unfold joins at hh hjv
    have : (x = v ∧ y = next v c) ∨ (y = v ∧ x = next v c) := by omega
    rcases this with ⟨rfl, e⟩ | ⟨rfl, e⟩
    · exact .inl e.symm
    · exact .inr e.symm

/-- No two lanes have the same ends. -/
theorem lane_uniq (hN : N.length + 1 = n) (hn : 0 < n) (hG : Good n N N.length) (hR : AllRooted n N far next) {i j x y : Nat} (hi : i < N.length) (hj : j < N.length) (h1 : joins (getT N i) x y) (h2 : joins (getT N j) x y) : i = j := by
  obtain ⟨J, hJ⟩ := lanes_count hN hG hR (c := 0) hn
  obtain ⟨a, ha, ha0, hai, hja⟩ := hJ i hi
  obtain ⟨b, hb, hb0, hbj, hjb⟩ := hJ j hj
  by_cases e : a = b
  · rw [← hai, ← hbj, e]
  · have hab : next a 0 = b ∧ next b 0 = a := by
      unfold joins at h1 h2 hja hjb
      omega
    have ta := (hR 0 hn).tree a ha ha0
    have tb := (hR 0 hn).tree b hb hb0
    have pa := adj_pos hG ta.2.1
    have pb := adj_pos hG tb.2.1
    have fa := ta.2.2
    have fb := tb.2.2
    rw [hab.1] at fa
    rw [hab.2] at fb
    simp only [hab.1] at pa
    simp only [hab.2] at pb
    omega
end
end Go.Proofs.Ytkhkgmelicdpkaa
