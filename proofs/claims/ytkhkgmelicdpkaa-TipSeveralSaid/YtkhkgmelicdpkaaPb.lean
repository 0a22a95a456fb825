/- Plain facts: the best of several tips: least cost, and first in the order of lists; found over all sets, or by trying all lists. No program, no memory. -/
import Derived.Test.YtkhkgmelicdpkaaR
import Derived.Test.YtkhkgmelicdpkaaQ
import Derived.Test.YtkhkgmelicdpkaaPl
set_option linter.unusedVariables false
set_option linter.unusedSimpArgs false
namespace Go.Proofs.Ytkhkgmelicdpkaa

/-! ### the order of lists -/
theorem cmpI_self (x : Int) : cmpI x x = 0 := by unfold cmpI; rw [if_neg (by omega), if_neg (by omega)]
theorem cmpI_anti (x y : Int) : cmpI x y = - cmpI y x := by
  unfold cmpI
  split <;> split <;> (try split) <;> omega
theorem cmpI_lt {x y : Int} : cmpI x y < 0 ↔ x < y := by
  unfold cmpI
  split
  · simp; assumption
  · split <;> simp <;> omega
theorem cmpI_zero {x y : Int} : cmpI x y = 0 ↔ x = y := by
  unfold cmpI
  split
  · simp; omega
  · split <;> simp <;> omega
theorem cmpL_self : ∀ l : List Int, cmpL l l = 0 := by
  intro l
  induction l with
  | nil => rfl
  | cons x l ih =>
    simp only [cmpL]
    rw [if_neg (by rw [cmpI_self]; simp)]
    exact ih
theorem cmpL_anti : ∀ a b : List Int, cmpL a b = - cmpL b a := by
  intro a
  induction a with
  | nil => intro b; cases b <;> rfl
  | cons x a ih =>
    intro b
    cases b with
    | nil => rfl
    | cons y b =>
      simp only [cmpL]
      have h := cmpI_anti x y
      by_cases e : cmpI y x = 0
      · rw [if_neg (by omega), if_neg (by omega)]
        exact ih b
      · rw [if_pos (by omega), if_pos (by omega)]
        exact h
theorem cmpL_zero : ∀ {a b : List Int}, cmpL a b = 0 → a = b := by
  intro a
  induction a with
  | nil => intro b h; cases b with
    | nil => rfl
    | cons y b => simp [cmpL] at h
  | cons x a ih =>
    intro b h
    cases b with
    | nil => simp [cmpL] at h
    | cons y b =>
      simp only [cmpL] at h
      by_cases e : cmpI x y = 0
      · rw [if_neg (by omega)] at h
        rw [cmpI_zero.1 e, ih h]
      · rw [if_pos e] at h
        exact absurd h e
theorem cmpL_trans : ∀ {a b c : List Int}, cmpL a b < 0 → cmpL b c < 0 → cmpL a c < 0 := by
  intro a
  induction a with
  | nil =>
    intro b c h1 h2
    cases c with
    | nil => cases b <;> simp [cmpL] at h1 h2
    | cons z c => simp [cmpL]
  | cons x a ih =>
    intro b c h1 h2
    cases b with
    | nil => simp [cmpL] at h1
    | cons y b =>
      cases c with
      | nil => simp [cmpL] at h2
      | cons z c =>
        simp only [cmpL] at h1 h2 ⊢
        by_cases e1 : cmpI x y = 0
        · rw [if_neg (by omega)] at h1
          have := cmpI_zero.1 e1
          subst this
          by_cases e2 : cmpI x z = 0
          · rw [if_neg (by omega)] at h2 ⊢
            exact ih h1 h2
          · rw [if_pos e2] at h2 ⊢
            exact h2
        · rw [if_pos e1] at h1
          by_cases e2 : cmpI y z = 0
          · have := cmpI_zero.1 e2
            subst this
            rw [if_pos e1]
            exact h1
          · rw [if_pos e2] at h2
            have g1 := cmpI_lt.1 h1
            have g2 := cmpI_lt.1 h2
            have g3 : cmpI x z < 0 := cmpI_lt.2 (by omega)
            rw [if_pos (by omega)]
            exact g3
theorem upL_inj : ∀ {a b : List Nat}, upL a = upL b → a = b := by
  intro a
  induction a with
  | nil => intro b h; cases b with
    | nil => rfl
    | cons y b => simp [upL] at h
  | cons x a ih =>
    intro b h
    cases b with
    | nil => simp [upL] at h
    | cons y b =>
      simp only [upL, List.map_cons, List.cons.injEq] at h
      rw [show x = y by omega, ih h.2]
def lexLt (a b : List Nat) : Prop := cmpL (upL a) (upL b) < 0
theorem lexLt_trans {a b c : List Nat} (h1 : lexLt a b) (h2 : lexLt b c) : lexLt a c := cmpL_trans h1 h2
theorem lexLt_irr {a : List Nat} : ¬ lexLt a a := by unfold lexLt; rw [cmpL_self]; omega
theorem lexLt_not {a b : List Nat} (h : ¬ lexLt a b) : a = b ∨ lexLt b a := by
  unfold lexLt at h ⊢
  have h1 := cmpL_anti (upL a) (upL b)
  by_cases e : cmpL (upL a) (upL b) = 0
  · exact .inl (upL_inj (cmpL_zero e))
  · exact .inr (by omega)
theorem lexLt_at (p s t : List Nat) {x y : Nat} (h : x < y) : lexLt (p ++ x :: s) (p ++ y :: t) := by
  unfold lexLt
  induction p with
  | nil =>
    show cmpL ((x : Int) :: upL s) ((y : Int) :: upL t) < 0
    have : cmpI (x : Int) y < 0 := cmpI_lt.2 (by omega)
    simp only [cmpL]
    rw [if_pos (by omega)]
    exact this
  | cons z p ih =>
    show cmpL ((z : Int) :: upL (p ++ x :: s)) ((z : Int) :: upL (p ++ y :: t)) < 0
    simp only [cmpL]
    rw [if_neg (by rw [cmpI_self]; simp)]
    exact ih

/-! ### the best of some lists -/
def IsBest (C : List Nat → Int) (V : List Nat → Prop) (l : List Nat) : Prop := V l ∧ ∀ v, V v → C l < C v ∨ (C l = C v ∧ (l = v ∨ lexLt l v))
theorem IsBest.uniq {C : List Nat → Int} {V : List Nat → Prop} {a b : List Nat} (ha : IsBest C V a) (hb : IsBest C V b) : a = b := by
  rcases ha.2 b hb.1 with h1 | ⟨h1, h2⟩
  · rcases hb.2 a ha.1 with h3 | ⟨h3, _⟩ <;> omega
  · rcases h2 with h2 | h2
    · exact h2
    · rcases hb.2 a ha.1 with h3 | ⟨_, h4⟩
      · omega
      · rcases h4 with h4 | h4
        · exact h4.symm
        · exact absurd (lexLt_trans h2 h4) lexLt_irr
theorem IsBest.congr {C C' : List Nat → Int} {V V' : List Nat → Prop} {l : List Nat} (h : IsBest C V l) (hV : ∀ v, V v ↔ V' v) (hC : ∀ v, V v → C v = C' v) : IsBest C' V' l := by
  refine ⟨(hV l).1 h.1, fun v hv => ?_⟩
  have hv' := (hV v).2 hv
  rw [← hC l h.1, ← hC v hv']
  exact h.2 v hv'
/-- Lists behind the ones that were tried: the better one. -/
theorem IsBest.join {C : List Nat → Int} {V E : List Nat → Prop} {a b : List Nat} (ha : IsBest C V a) (hb : IsBest C E b) (h : ∀ v e, V v → E e → lexLt v e) : IsBest C (fun x => V x ∨ E x) (if C b < C a then b else a) := by
  split
  · refine ⟨.inr hb.1, fun v hv => ?_⟩
    rcases hv with hv | hv
    · rcases ha.2 v hv with h1 | ⟨h1, _⟩ <;> exact .inl (by omega)
    · exact hb.2 v hv
  · refine ⟨.inl ha.1, fun v hv => ?_⟩
    rcases hv with hv | hv
    · exact ha.2 v hv
    · rcases hb.2 v hv with h1 | ⟨h1, _⟩
      · exact .inl (by omega)
      · by_cases e : C a = C v
        · exact .inr ⟨e, .inr (h a v ha.1 hv)⟩
        · exact .inl (by omega)
/-- What is known while lists are tried. -/
def BestOf (C : List Nat → Int) (V : List Nat → Prop) : Option (List Nat × Int) → Prop
  | none => ∀ v, ¬ V v
  | some (l, k) => IsBest C V l ∧ k = C l
theorem BestOf.congr {C : List Nat → Int} {V V' : List Nat → Prop} {st : Option (List Nat × Int)} (h : BestOf C V st) (hV : ∀ v, V v ↔ V' v) : BestOf C V' st := by
  cases st with
  | none => exact fun v hv => h v ((hV v).2 hv)
  | some x =>
    obtain ⟨l, k⟩ := x
    exact ⟨h.1.congr hV (fun _ _ => rfl), h.2⟩

/-! ### lists of tips -/
def Cand (n many : Nat) (l : List Nat) : Prop := l.length = many ∧ l.Pairwise (· < ·) ∧ ∀ x, x ∈ l → x < n
theorem sorted_ext : ∀ {a b : List Nat}, a.Pairwise (· < ·) → b.Pairwise (· < ·) → (∀ x, x ∈ a ↔ x ∈ b) → a = b := by
  intro a
  induction a with
  | nil =>
    intro b _ _ h
    cases b with
    | nil => rfl
    | cons y b => exact absurd ((h y).2 (by simp)) (by simp)
  | cons x a ih =>
    intro b ha hb h
    cases b with
    | nil => exact absurd ((h x).1 (by simp)) (by simp)
    | cons y b =>
      rw [List.pairwise_cons] at ha hb
      have hxy : x = y := by
        rcases List.mem_cons.1 ((h x).1 (by simp)) with e | e
        · exact e
        · rcases List.mem_cons.1 ((h y).2 (by simp)) with e' | e'
          · exact e'.symm
          · have := ha.1 y e'
            have := hb.1 x e
            omega
      subst hxy
      rw [ih ha.2 hb.2 (fun z => ?_)]
      constructor
      · intro hz
        rcases List.mem_cons.1 ((h z).1 (by simp [hz])) with e | e
        · have := ha.1 z hz; omega
        · exact e
      · intro hz
        rcases List.mem_cons.1 ((h z).2 (by simp [hz])) with e | e
        · have := hb.1 z hz; omega
        · exact e
theorem range_sorted (n : Nat) : (List.range n).Pairwise (· < ·) := List.pairwise_lt_range
theorem listOf_sorted (m : Nat) : (listOf m).Pairwise (· < ·) := (range_sorted 8).sublist List.filter_sublist
theorem listOf_mem (m k : Nat) : k ∈ listOf m ↔ k < 8 ∧ m.testBit k = true := by
  unfold listOf
  rw [List.mem_filter, List.mem_range]
theorem maskOf_bit (ts : List Int) : ∀ k j, (maskOf ts k).testBit j = true ↔ ∃ i, i < k ∧ (gI ts i).toNat = j := by
  intro k
  induction k with
  | zero => intro j; simp [maskOf]
  | succ k ih =>
    intro j
    simp only [maskOf]
    rw [testBit_or_pow, Bool.or_eq_true, ih, decide_eq_true_eq]
    constructor
    · rintro (⟨i, hi, e⟩ | e)
      · exact ⟨i, by omega, e⟩
      · exact ⟨k, by omega, e⟩
    · rintro ⟨i, hi, e⟩
      by_cases h : i = k
      · subst h; exact .inr e
      · exact .inl ⟨i, by omega, e⟩
theorem maskOf_list {n : Nat} (hn : n ≤ 8) {l : List Nat} (hs : l.Pairwise (· < ·)) (hl : ∀ x, x ∈ l → x < n) : listOf (maskOf (upL l) l.length) = l ∧ maskOf (upL l) l.length < 2 ^ n := by
  have hb : ∀ j, (maskOf (upL l) l.length).testBit j = true ↔ j ∈ l := by
    intro j
    rw [maskOf_bit]
    constructor
    · rintro ⟨i, hi, e⟩
      rw [gI_upL hi] at e
      have : l[i] = j := by omega
      rw [← this]
      exact List.getElem_mem hi
    · intro h
      obtain ⟨i, hi, e⟩ := List.mem_iff_getElem.1 h
      exact ⟨i, hi, by rw [gI_upL hi, e]; omega⟩
  refine ⟨sorted_ext (listOf_sorted _) hs (fun x => ?_), ?_⟩
  · rw [listOf_mem, hb]
    exact ⟨fun h => h.2, fun h => ⟨by have := hl x h; omega, h⟩⟩
  · refine Nat.lt_pow_two_of_testBit _ (fun i hi => ?_)
    cases h : (maskOf (upL l) l.length).testBit i with
    | false => rfl
    | true => have := hl i ((hb i).1 h); omega
theorem cand_mask {n many : Nat} (hn : n ≤ 8) (l : List Nat) : Cand n many l ↔ ∃ m, m < 2 ^ n ∧ popc m = many ∧ listOf m = l := by
  have h256 : 2 ^ n ≤ 256 := Nat.pow_le_pow_right (by omega) hn
  constructor
  · rintro ⟨h1, h2, h3⟩
    obtain ⟨e1, e2⟩ := maskOf_list hn h2 h3
    refine ⟨_, e2, ?_, e1⟩
    rw [← listOf_length _ (by omega), e1, h1]
  · rintro ⟨m, hm, hp, rfl⟩
    refine ⟨by rw [listOf_length _ (by omega)]; exact hp, listOf_sorted m, fun x hx => ?_⟩
    have hb := ((listOf_mem m x).1 hx).2
    rcases Nat.lt_or_ge x n with h | h
    · exact h
    · have : m < 2 ^ x := Nat.lt_of_lt_of_le hm (Nat.pow_le_pow_right (by omega) h)
      rw [Nat.testBit_lt_two_pow this] at hb
      cases hb

/-! ### the cost of a list -/
def nearL (far : Nat → Nat → Int) (c : Nat) (l : List Nat) : Int := l.foldl (fun a d => mn a (far c d)) 72
def costL (L : List Int) (far : Nat → Nat → Int) (l : List Nat) : Int := sumF (fun c => gI L c * nearL far c l) L.length
theorem nearF_list (far : Nat → Nat → Int) (m c : Nat) : ∀ k, nearF far m c k = nearL far c ((List.range k).filter (fun j => m.testBit j)) := by
  intro k
  induction k with
  | zero => rfl
  | succ k ih =>
    rw [List.range_succ, List.filter_append]
    simp only [nearF]
    unfold nearL at ih ⊢
    rw [List.foldl_append, ← ih]
    by_cases h : m.testBit k = true
    · simp [h]
    · rw [Bool.not_eq_true] at h
      simp [h]
theorem range_filter_cut {p : Nat → Bool} {n : Nat} : ∀ j, (∀ i, n ≤ i → p i = false) → (List.range (n + j)).filter p = (List.range n).filter p := by
  intro j
  induction j with
  | zero => intro _; rfl
  | succ j ih =>
    intro h
    rw [← Nat.add_assoc, List.range_succ, List.filter_append, ih h]
    simp [h (n + j) (by omega)]
theorem bit_high {m n i : Nat} (hm : m < 2 ^ n) (hi : n ≤ i) : m.testBit i = false :=
  Nat.testBit_lt_two_pow (Nat.lt_of_lt_of_le hm (Nat.pow_le_pow_right (by omega) hi))
theorem costF_list {L : List Int} (far : Nat → Nat → Int) {m : Nat} (hL : L.length ≤ 8) (hm : m < 2 ^ L.length) : costF L far m = costL L far (listOf m) := by
  unfold costF costL
  refine sumF_congr _ (fun c hc => ?_)
  rw [nearF_list]
  have := range_filter_cut (p := fun j => m.testBit j) (n := L.length) (8 - L.length) (fun i hi => bit_high hm hi)
  rw [show L.length + (8 - L.length) = 8 by omega] at this
  unfold listOf
  rw [this]
/-- Over all sets. -/
theorem bestN_best {L : List Int} (far : Nat → Nat → Int) (many : Nat) (hL : L.length ≤ 8) : ∀ k, k ≤ 2 ^ L.length → BestOf (costL L far) (fun l => ∃ m, m < k ∧ popc m = many ∧ listOf m = l) (bestN L far many k) := by
  intro k
  induction k with
  | zero => intro _ v hv; obtain ⟨m, hm, _⟩ := hv; omega
  | succ k ih =>
    intro hk
    have IH := ih (by omega)
    have hc := costF_list far hL (show k < 2 ^ L.length by omega)
    simp only [bestN, bestStep]
    by_cases hp : popc k = many
    · rw [if_neg (fun e => e hp)]
      cases hs : bestN L far many k with
      | none =>
        rw [hs] at IH
        refine ⟨⟨⟨k, by omega, hp, rfl⟩, ?_⟩, hc⟩
        rintro v ⟨m, hm, hpm, rfl⟩
        by_cases e : m = k
        · subst e; exact .inr ⟨rfl, .inl rfl⟩
        · exact absurd ⟨m, by omega, hpm, rfl⟩ (IH (listOf m))
      | some x =>
        obtain ⟨b, c⟩ := x
        rw [hs] at IH
        obtain ⟨⟨⟨mb, hmb, hpb, eb⟩, hall⟩, hcb⟩ := IH
        simp only
        rw [hc, hcb]
        split
        · rename_i h
          refine ⟨⟨⟨k, by omega, hp, rfl⟩, ?_⟩, rfl⟩
          rintro v ⟨m, hm, hpm, rfl⟩
          by_cases e : m = k
          · subst e; exact .inr ⟨rfl, .inl rfl⟩
          · rcases hall _ ⟨m, by omega, hpm, rfl⟩ with g | ⟨g1, g2⟩
            · exact .inl (by omega)
            · rcases h with h | ⟨h1, h2⟩
              · exact .inl (by omega)
              · refine .inr ⟨by omega, .inr ?_⟩
                rcases g2 with g2 | g2
                · rw [← g2]; exact h2
                · exact lexLt_trans h2 g2
        · rename_i h
          refine ⟨⟨⟨mb, by omega, hpb, eb⟩, ?_⟩, rfl⟩
          rintro v ⟨m, hm, hpm, rfl⟩
          by_cases e : m = k
          · subst e
            by_cases e2 : costL L far b = costL L far (listOf m)
            · refine .inr ⟨e2, ?_⟩
              rcases lexLt_not (a := listOf m) (b := b) (fun h2 => h (.inr ⟨e2.symm, h2⟩)) with g | g
              · exact .inl g.symm
              · exact .inr g
            · exact .inl (by omega)
          · exact hall _ ⟨m, by omega, hpm, rfl⟩
    · rw [if_pos hp]
      refine IH.congr (fun v => ⟨fun ⟨m, hm, h⟩ => ⟨m, by omega, h⟩, fun ⟨m, hm, h⟩ => ⟨m, ?_, h⟩⟩)
      have : m ≠ k := fun e => by subst e; exact hp h.1
      omega
theorem bestN_all {L : List Int} (far : Nat → Nat → Int) (many : Nat) (hL : L.length ≤ 8) : BestOf (costL L far) (Cand L.length many) (bestN L far many (2 ^ L.length)) :=
  (bestN_best far many hL _ (Nat.le_refl _)).congr (fun v => (cand_mask hL v).symm)

/-! ### all lists that begin with some -/
def fromOf (p : List Nat) : Nat := if p.length = 0 then 0 else p.getD (p.length - 1) 0 + 1
theorem fromOf_snoc (p : List Nat) (c : Nat) : fromOf (p ++ [c]) = c + 1 := by
  unfold fromOf
  rw [if_neg (by simp)]
  simp
theorem from_le : ∀ {p : List Nat}, p.Pairwise (· < ·) → ∀ c, (∀ x, x ∈ p → x < c) ↔ fromOf p ≤ c := by
  intro p hp c
  rcases List.eq_nil_or_concat p with rfl | ⟨q, z, rfl⟩
  · simp [fromOf]
  · rw [List.concat_eq_append] at hp ⊢
    rw [fromOf_snoc]
    rw [List.pairwise_append] at hp
    constructor
    · intro h
      exact h z (by simp)
    · intro h x hx
      rcases List.mem_append.1 hx with hx | hx
      · have := hp.2.2 x hx z (by simp); omega
      · simp at hx; omega
/-- The lists that go on from p. -/
def Ext (n many : Nat) (p l : List Nat) : Prop := Cand n many l ∧ ∃ s, l = p ++ s
theorem ext_full {n many : Nat} {p : List Nat} (hp : Cand n many p) (l : List Nat) : Ext n many p l ↔ l = p := by
  constructor
  · rintro ⟨⟨h1, _⟩, s, rfl⟩
    have := hp.1
    rw [List.length_append] at h1
    have : s = [] := List.eq_nil_of_length_eq_zero (by omega)
    rw [this]; simp
  · rintro rfl
    exact ⟨hp, [], by simp⟩
theorem ext_step {n many : Nat} {p l : List Nat} (hs : p.Pairwise (· < ·)) (hlt : p.length < many) : Ext n many p l ↔ ∃ c, fromOf p ≤ c ∧ c < n ∧ Ext n many (p ++ [c]) l := by
  constructor
  · rintro ⟨⟨h1, h2, h3⟩, s, rfl⟩
    cases s with
    | nil => simp at h1; omega
    | cons c s =>
      refine ⟨c, (from_le hs c).1 (fun x hx => ?_), h3 c (by simp), ⟨h1, h2, h3⟩, s, by simp⟩
      exact (List.pairwise_append.1 h2).2.2 x hx c (by simp)
  · rintro ⟨c, _, _, h, s, rfl⟩
    exact ⟨h, c :: s, by simp⟩
theorem ext_lex {n many : Nat} {p v e : List Nat} {c d : Nat} (hcd : c < d) (hv : Ext n many (p ++ [c]) v) (he : Ext n many (p ++ [d]) e) : lexLt v e := by
  obtain ⟨_, s, rfl⟩ := hv
  obtain ⟨_, t, rfl⟩ := he
  rw [List.append_assoc, List.append_assoc]
  exact lexLt_at p s t hcd
/-- So many more must fit. -/
theorem sorted_room : ∀ {l : List Nat} {n a : Nat}, l.Pairwise (· < ·) → (∀ x, x ∈ l → a ≤ x ∧ x < n) → l ≠ [] → a + l.length ≤ n := by
  intro l
  induction l with
  | nil => intro n a _ _ h; exact absurd rfl h
  | cons x l ih =>
    intro n a hs h _
    rw [List.pairwise_cons] at hs
    have hx := h x (by simp)
    by_cases e : l = []
    · subst e; simp; omega
    · have := ih (a := x + 1) (n := n) hs.2 (fun y hy => ⟨by have := hs.1 y hy; omega, (h y (by simp [hy])).2⟩) e
      simp only [List.length_cons]
      omega
theorem ext_room {n many : Nat} {p l : List Nat} {c : Nat} (h : Ext n many (p ++ [c]) l) : c + many ≤ n + p.length := by
  obtain ⟨⟨h1, h2, h3⟩, s, rfl⟩ := h
  rw [List.append_assoc] at h1 h2 h3
  have h4 := (List.pairwise_append.1 h2).2.1
  have := sorted_room (a := c) (n := n) (l := [c] ++ s) h4 (fun x hx => ⟨?_, h3 x (by simp at hx ⊢; exact .inr hx)⟩) (by simp)
  · simp at h1 this
    omega
  · rcases List.mem_append.1 hx with hx | hx
    · simp at hx; omega
    · have := (List.pairwise_append.1 h4).2.2 c (by simp) x hx
      omega
end Go.Proofs.Ytkhkgmelicdpkaa
