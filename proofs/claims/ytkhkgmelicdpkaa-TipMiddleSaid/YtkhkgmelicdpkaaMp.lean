/- What the walk of TipMiddle needs: the greatest distance so far, and contracts in its forms. -/
import Derived.Test.YtkhkgmelicdpkaaHf
import Derived.Test.YtkhkgmelicdpkaaBk
import Derived.Test.YtkhkgmelicdpkaaPc
import Derived.Test.YtkhkgmelicdpkaaPs
import Derived.Test.YtkhkgmelicdpkaaPq
set_option linter.unusedVariables false
set_option linter.unusedSimpArgs false
namespace Go.Proofs.Ytkhkgmelicdpkaa
open Go.RowKit Go.BigFrame

/-- The greatest distance so far: of all pairs before (i, j). -/
def DMax (far : Nat → Nat → Int) (n i j : Nat) (M : Int) : Prop := 0 ≤ M ∧ M ≤ 72 ∧ (∀ a b, b < n → (a < i ∨ (a = i ∧ b < j)) → far a b ≤ M) ∧ (M = 0 ∨ ∃ a b, a < n ∧ b < n ∧ far a b = M)
def DOut (W : World) (far : Nat → Nat → Int) (n : Nat) (iv mv : Value) (wr : World) : Prop := ∃ (i : Nat) (M : Int), i ≤ n ∧ iv = .int .i64 (i : Int) ∧ mv = .int .i64 M ∧ DMax far n i 0 M ∧ Below W.heap.size W wr
def DIn (W : World) (far : Nat → Nat → Int) (n i : Nat) (iv mv : Value) (wr : World) : Prop := ∃ (j : Nat) (M : Int), j ≤ n ∧ iv = .int .i64 (j : Int) ∧ mv = .int .i64 M ∧ DMax far n i j M ∧ Below W.heap.size W wr
theorem DMax.step {far : Nat → Nat → Int} {n i j : Nat} {M : Int} (h : DMax far n i j M) (hi : i < n) (hj : j < n) (hb : 0 ≤ far i j ∧ far i j ≤ 72) : DMax far n i (j + 1) (if M < far i j then far i j else M) := by
  obtain ⟨h1, h2, h3, h4⟩ := h
  refine ⟨by split <;> omega, by split <;> omega, fun a b hbn hab => ?_, ?_⟩
  · by_cases e : a = i ∧ b = j
    · obtain ⟨rfl, rfl⟩ := e
      split <;> omega
    · have := h3 a b hbn (by omega)
      split <;> omega
  · split
    · exact .inr ⟨i, j, hi, hj, rfl⟩
    · exact h4
theorem DMax.next {far : Nat → Nat → Int} {n i : Nat} {M : Int} (h : DMax far n i n M) : DMax far n (i + 1) 0 M :=
  ⟨h.1, h.2.1, fun a b hb hab => h.2.2.1 a b hb (by omega), h.2.2.2⟩
section
variable {n : Nat} {A : Nat → Nat → Prop} {len far : Nat → Nat → Int} {next : Nat → Nat → Nat}
theorem dmax_is (T : Tree n A len far next) (hn : 1 ≤ n) {M : Int} (h : DMax far n n 0 M) : M = radF far n (begF (radF far n) n) := by
  obtain ⟨h1, h2, h3, h4⟩ := h
  have hb := begF_lt (radF far n) n hn n (Nat.le_refl _)
  obtain ⟨c, hc, e⟩ := mxF_is (far (begF (radF far n) n)) (n - 1)
  have g1 := h3 (begF (radF far n) n) c (by omega) (.inl hb)
  have e' : radF far n (begF (radF far n) n) = mxF (far (begF (radF far n) n)) (n - 1) := rfl
  rcases h4 with h4 | ⟨a, b, ha, hb', e2⟩
  · have := T.nonneg (begF (radF far n) n) c hb (by omega)
    omega
  · have g2 := begF_max (radF far n) n a ha
    have g3 := mxF_ge (far a) (n - 1) b (by omega)
    have g4 : radF far n a = mxF (far a) (n - 1) := rfl
    omega
/-- A longest way is a way to a farthest corner. -/
theorem long_is {b : Nat} : ∀ j l, longN far next n b j = some l → ∃ c, c < j ∧ far b c = radF far n b ∧ l = wayL far next b c := by
  intro j
  induction j with
  | zero => intro l h; cases h
  | succ j ih =>
    intro l h
    have old : ∀ l, longN far next n b j = some l → ∃ c, c < j + 1 ∧ far b c = radF far n b ∧ l = wayL far next b c := fun l h => by
      obtain ⟨c, hc, h1, h2⟩ := ih l h
      exact ⟨c, by omega, h1, h2⟩
    simp only [longN, longStep] at h
    split at h
    · rename_i hf
      cases hs : longN far next n b j with
      | none =>
        rw [hs] at h
        simp only [Option.some.injEq] at h
        exact ⟨j, by omega, hf, h.symm⟩
      | some l' =>
        rw [hs] at h
        simp only at h
        split at h
        · simp only [Option.some.injEq] at h
          exact ⟨j, by omega, hf, h.symm⟩
        · simp only [Option.some.injEq] at h
          exact old l (by rw [hs, h])
    · exact old l h
end
def BOut (W : World) (far : Nat → Nat → Int) (next : Nat → Nat → Nat) (n : Nat) (M : Int) (iv bv : Value) (wr : World) : Prop := ∃ i : Nat, i ≤ n ∧ iv = .int .i64 (i : Int) ∧ LongSt (allK far next M n i) bv wr ∧ Below W.heap.size W wr
def BIn (W : World) (far : Nat → Nat → Int) (next : Nat → Nat → Nat) (n : Nat) (M : Int) (i : Nat) (iv bv : Value) (wr : World) : Prop := ∃ j : Nat, j ≤ n ∧ iv = .int .i64 (j : Int) ∧ LongSt (rowK far next M i (allK far next M n i) j) bv wr ∧ Below W.heap.size W wr
theorem row_skip {far : Nat → Nat → Int} {next : Nat → Nat → Nat} {M : Int} {i j : Nat} {st : Option (List Nat)} (h : ¬ far i j = M) : rowK far next M i st (j + 1) = rowK far next M i st j := by
  simp only [rowK, pairStep]; rw [if_neg h]
theorem row_first {far : Nat → Nat → Int} {next : Nat → Nat → Nat} {M : Int} {i j : Nat} {st : Option (List Nat)} (h : far i j = M) (hs : rowK far next M i st j = none) : rowK far next M i st (j + 1) = some (wayL far next i j) := by
  simp only [rowK, pairStep]; rw [if_pos h, hs]
theorem row_new {far : Nat → Nat → Int} {next : Nat → Nat → Nat} {M : Int} {i j : Nat} {st : Option (List Nat)} {l : List Nat} (h : far i j = M) (hs : rowK far next M i st j = some l) (hc : cmpL (upL (wayL far next i j)) (upL l) < 0) : rowK far next M i st (j + 1) = some (wayL far next i j) := by
  simp only [rowK, pairStep]; rw [if_pos h, hs]; simp only; rw [if_pos hc]
theorem row_old {far : Nat → Nat → Int} {next : Nat → Nat → Nat} {M : Int} {i j : Nat} {st : Option (List Nat)} {l : List Nat} (h : far i j = M) (hs : rowK far next M i st j = some l) (hc : ¬ cmpL (upL (wayL far next i j)) (upL l) < 0) : rowK far next M i st (j + 1) = some l := by
  simp only [rowK, pairStep]; rw [if_pos h, hs]; simp only; rw [if_neg hc]
/-- The call returns the longest way. -/
def RetLong (w : World) (l : List Nat) (e : Ending) (w' : World) : Prop := ∃ b o cap k, e = .returned (.tuple #[.slice (some ⟨b, o, none⟩) (k + 1) cap, .int .i64 0]) ∧ l.length = k + 1 ∧ Ints w' (.slice (some ⟨b, o, none⟩) (k + 1) cap) (upL l) ∧ Below w.heap.size w w'
theorem Longest_li {w : World} {m : Value} {L : List Int} {N : List Lane} {far : Nat → Nat → Int} {next : Nat → Nat → Nat} {l : List Nat} (hm : Mkt w m L N) (h0 : checkCode L N = 0) (hR : AllRooted L.length N far next) (hl : longN far next L.length (begF (radF far L.length) L.length) L.length = some l) (h1 : 1 ≤ l.length) :
    Calls Try.prog 29 #[m] w (RetLong w l) := by
  refine (Longest_ok w m L N far next hm h0 hR).mono fun e w' => ?_
  rintro ⟨v, rfl, hv, hb⟩
  rw [hl] at hv
  have hv0 : Ints w' v (upL l) := hv
  have hv' := hv0
  obtain ⟨_, a, cap, b, o, rfl, ha, _⟩ := hv'
  have hul := upL_length l
  obtain rfl := ha.resolve_left (by rw [hul]; omega)
  have e1 : (upL l).length = l.length - 1 + 1 := by rw [hul]; omega
  rw [e1] at hv0 ⊢
  exact ⟨b, o, cap, l.length - 1, rfl, by omega, hv0, hb⟩
theorem Ints.at_ {w : World} {b o n cap : Nat} {l : List Nat} (h : Ints w (.slice (some ⟨b, o, none⟩) n cap) (upL l)) {j c : Nat} (hc : l[j]? = some c) : w.cell? ⟨b, o + j, none⟩ = some (.int .i64 (c : Int)) := by
  obtain ⟨hj, e⟩ := List.getElem?_eq_some_iff.1 hc
  obtain ⟨_, a, cap', b', o', hv, ha, hcell⟩ := h
  simp only [Value.slice.injEq] at hv
  obtain ⟨rfl, _, _⟩ := hv
  have hul := upL_length l
  have := ha.resolve_left (by rw [hul]; omega)
  simp at this
  obtain ⟨rfl, rfl⟩ := this
  rw [hcell j (by rw [hul]; exact hj), gI_upL hj, e]
/-- The radii so far. -/
def radVals (r : Nat → Int) (k : Nat) : List Value := (List.range k).map fun c => Value.int .i64 (r c)
def radL (r : Nat → Int) (k : Nat) : List Int := (List.range k).map r
theorem radVals_snoc (r : Nat → Int) (k : Nat) : radVals r (k + 1) = radVals r k ++ [.int .i64 (r k)] := by unfold radVals; rw [List.range_succ, List.map_append]; rfl
theorem radL_length (r : Nat → Int) (k : Nat) : (radL r k).length = k := by simp [radL]
theorem radL_at {r : Nat → Int} {k i : Nat} (h : i < k) : gI (radL r k) i = r i := by simp [gI, radL, h]
theorem rad_ints {w : World} {base k : Nat} {v : Value} {r : Nat → Int} (h : Mine w base 1 v k (radVals r k)) (hk : k ≤ 1000) : Ints w v (radL r k) := by
  rcases h.2 with ⟨rfl, h0⟩ | ⟨g, o, cap, rfl, h1, h2, h3, h4, h5, h6⟩
  · subst h0
    exact ints_nil w 0
  · refine ⟨by rw [radL_length]; omega, some ⟨g, o, none⟩, cap, g, o, by rw [radL_length], .inr rfl, fun i hi => ?_⟩
    rw [radL_length] at hi
    rw [h5 i (by omega), radL_at hi]
    simp [radVals, hi]
def RadRel (W : World) (r : Nat → Int) (n : Nat) (iv rv : Value) (wr : World) : Prop := ∃ k : Nat, k ≤ n ∧ iv = .int .i64 (k : Int) ∧ Mine wr W.heap.size 1 rv k (radVals r k) ∧ Below W.heap.size W wr
/-- A list that a call returned, of at least one number. -/
def RetCen (w : World) (l : List Nat) (e : Ending) (w' : World) : Prop := ∃ b o cap k, e = .returned (.tuple #[.slice (some ⟨b, o, none⟩) (k + 1) cap, .int .i64 0]) ∧ l.length = k + 1 ∧ Ints w' (.slice (some ⟨b, o, none⟩) (k + 1) cap) (upL l) ∧ Below w.heap.size w w'
theorem Centres_li {w : World} {m : Value} {L : List Int} {N : List Lane} {far : Nat → Nat → Int} {next : Nat → Nat → Nat} {l : List Nat} (hm : Mkt w m L N) (h0 : checkCode L N = 0) (hR : AllRooted L.length N far next) (hl : l = smallF (radF far L.length) L.length) (h1 : 1 ≤ l.length) (h2 : l.length ≤ 1000) :
    Calls Try.prog 27 #[m] w (RetCen w l) := by
  refine (Centres_ok w m L N far next hm h0 hR).mono fun e w' => ?_
  rintro ⟨v, rfl, hv, hb⟩
  rw [← hl] at hv
  have hv0 : Ints w' v (upL l) := hv.ints (by omega)
  have hv' := hv0
  obtain ⟨_, a, cap, b, o, rfl, ha, _⟩ := hv'
  have hul := upL_length l
  obtain rfl := ha.resolve_left (by rw [hul]; omega)
  have e1 : (upL l).length = l.length - 1 + 1 := by rw [hul]; omega
  rw [e1] at hv0 ⊢
  exact ⟨b, o, cap, l.length - 1, rfl, by omega, hv0, hb⟩
def KRel (W : World) (n : Nat) (iv : Value) (wr : World) : Prop := ∃ k : Nat, k ≤ n ∧ iv = .int .i64 (k : Int) ∧ Below W.heap.size W wr
section
variable {n : Nat} {A : Nat → Nat → Prop} {len far : Nat → Nat → Int} {next : Nat → Nat → Nat}
theorem small_least {r : Nat → Int} (hn : 1 ≤ n) {c : Nat} (hc : c ∈ smallF r n) : c < n ∧ ∀ x, x < n → r c ≤ r x := by
  obtain ⟨k, rfl⟩ : ∃ k, n = k + 1 := ⟨n - 1, by omega⟩
  rw [smallF_filter, List.mem_filter, decide_eq_true_eq] at hc
  exact ⟨List.mem_range.1 hc.1, fun x hx => by rw [hc.2]; exact mnF_le r k x (by omega)⟩
theorem small_ne {r : Nat → Int} (hn : 1 ≤ n) : smallF r n ≠ [] := by
  obtain ⟨k, rfl⟩ : ∃ k, n = k + 1 := ⟨n - 1, by omega⟩
  obtain ⟨i, hi, e⟩ := mnF_is r k
  rw [smallF_filter]
  intro h
  have : i ∈ (List.range (k + 1)).filter (fun i => decide (r i = mnF r k)) := by
    rw [List.mem_filter]
    exact ⟨List.mem_range.2 (by omega), by rw [decide_eq_true_eq]; exact e.symm⟩
  rw [h] at this
  cases this
theorem small_sorted {r : Nat → Int} (hn : 1 ≤ n) : (smallF r n).Pairwise (· < ·) := by
  obtain ⟨k, rfl⟩ : ∃ k, n = k + 1 := ⟨n - 1, by omega⟩
  rw [smallF_filter]
  exact List.pairwise_lt_range.sublist List.filter_sublist
/-- One centre, or two with a lane. -/
theorem Tree.centres_few (T : Tree n A len far next) {a b : Nat} (ha : a < n) (hb : b < n) (hn : 1 ≤ n) (hmax : ∀ x y, x < n → y < n → far x y ≤ far a b) :
    (∃ c, smallF (radF far n) n = [c]) ∨ ∃ c d, smallF (radF far n) n = [c, d] ∧ c < n ∧ d < n ∧ A c d := by
  have hm : ∀ c, c ∈ smallF (radF far n) n → c < n ∧ ∀ x, x < n → mxF (far c) (n - 1) ≤ mxF (far x) (n - 1) := fun c hc => small_least hn hc
  have hs := small_sorted (r := radF far n) hn
  have hne := small_ne (r := radF far n) hn
  cases hl : smallF (radF far n) n with
  | nil => exact absurd hl hne
  | cons c t =>
    rw [hl] at hm hs
    have hcm := hm c (by simp)
    cases t with
    | nil => exact .inl ⟨c, rfl⟩
    | cons d u =>
      have hdm := hm d (by simp)
      rw [List.pairwise_cons] at hs
      have hcd := hs.1 d (by simp)
      cases u with
      | nil => exact .inr ⟨c, d, rfl, hcm.1, hdm.1, T.centre_two ha hb hcm.1 hdm.1 hn hmax (by omega) hcm.2 hdm.2⟩
      | cons e v =>
        have hem := hm e (by simp)
        have hce := hs.1 e (by simp)
        have hde := (List.pairwise_cons.1 hs.2).1 e (by simp)
        exact (T.centre_three ha hb hcm.1 hdm.1 hem.1 hn hmax (by omega) (by omega) (by omega) hcm.2 hdm.2 hem.2).elim
theorem Tree.centres_on (T : Tree n A len far next) {a b c : Nat} (ha : a < n) (hb : b < n) (hn : 1 ≤ n) (hmax : ∀ x y, x < n → y < n → far x y ≤ far a b) (hc : c ∈ smallF (radF far n) n) : c ∈ wayL far next a b := by
  have h := small_least (r := radF far n) hn hc
  exact T.centre_on ha hb h.1 hn hmax h.2
end
end Go.Proofs.Ytkhkgmelicdpkaa
