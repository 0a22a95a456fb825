/- Plain facts on medians as the program finds them: the list of corners without a heavy branch. No program, no memory. -/
import Derived.Test.YtkhkgmelicdpkaaPm
import Derived.Test.YtkhkgmelicdpkaaR
set_option linter.unusedVariables false
set_option linter.unusedSimpArgs false
namespace Go.Proofs.Ytkhkgmelicdpkaa

theorem firstF_succ (p : Nat → Bool) (n : Nat) : firstF p (n + 1) = if firstF p n < 0 then (if p n then (n : Int) else -1) else firstF p n := by
  unfold firstF
  rw [List.range_succ, List.find?_append]
  cases h : (List.range n).find? p with
  | some c =>
    simp only [Option.some_or]
    rw [if_neg (by omega)]
  | none =>
    simp only [Option.none_or]
    rw [if_pos (by omega)]
    cases h2 : p n with
    | true => simp [List.find?, h2]
    | false => simp [List.find?, h2]
theorem firstF_cases (p : Nat → Bool) : ∀ n, (firstF p n = -1 ∧ ∀ j, j < n → p j = false) ∨ (∃ c, c < n ∧ firstF p n = (c : Int) ∧ p c = true ∧ ∀ j, j < c → p j = false) := by
  intro n
  induction n with
  | zero => exact .inl ⟨rfl, fun j hj => by omega⟩
  | succ n ih =>
    rw [firstF_succ]
    rcases ih with ⟨h1, h2⟩ | ⟨c, h1, h2, h3, h4⟩
    · rw [if_pos (by omega)]
      cases h : p n with
      | true => exact .inr ⟨n, by omega, by simp, h, h2⟩
      | false =>
        refine .inl ⟨by simp, fun j hj => ?_⟩
        rcases Nat.lt_or_ge j n with h' | h'
        · exact h2 j h'
        · obtain rfl : j = n := by omega
          exact h
    · rw [if_neg (by omega)]
      exact .inr ⟨c, by omega, h2, h3, h4⟩
section
variable {L : List Int} {N : List Lane} {far : Nat → Nat → Int} {next : Nat → Nat → Nat}
theorem heavyB_iff (c d : Nat) : heavyB L next (nearK N N.length) c d = true ↔ Adj N c d ∧ sumF (gI L) L.length < 2 * sumF (loadIn L next c d) L.length := by
  unfold heavyB Adj
  simp
theorem light_iff (c : Nat) : lightB L next (nearK N N.length) c = true ↔ Light L.length (Adj N) L next c := by
  unfold lightB
  rw [decide_eq_true_eq]
  rcases firstF_cases (heavyB L next (nearK N N.length) c) L.length with ⟨h1, h2⟩ | ⟨d, h1, h2, h3, h4⟩
  · refine ⟨fun _ d hd hA => ?_, fun _ => by omega⟩
    have := h2 d hd
    rcases Int.lt_or_le (sumF (gI L) L.length) (2 * sumF (loadIn L next c d) L.length) with h | h
    · rw [(heavyB_iff c d).2 ⟨hA, h⟩] at this; cases this
    · exact h
  · refine ⟨fun h => by omega, fun h => ?_⟩
    obtain ⟨hA, hh⟩ := (heavyB_iff c d).1 h3
    have := h d h1 hA
    omega
theorem not_light {c : Nat} (h : ¬ Light L.length (Adj N) L next c) : ∃ d, d < L.length ∧ firstF (heavyB L next (nearK N N.length) c) L.length = (d : Int) ∧ Adj N c d ∧ sumF (gI L) L.length < 2 * sumF (loadIn L next c d) L.length := by
  rcases firstF_cases (heavyB L next (nearK N N.length) c) L.length with ⟨h1, h2⟩ | ⟨d, h1, h2, h3, h4⟩
  · refine absurd ((light_iff c).1 ?_) h
    unfold lightB
    rw [decide_eq_true_eq]
    omega
  · obtain ⟨hA, hh⟩ := (heavyB_iff c d).1 h3
    exact ⟨d, h1, h2, hA, hh⟩
/-- The medians. -/
def medL (L : List Int) (N : List Lane) (next : Nat → Nat → Nat) : List Nat := (List.range L.length).filter (lightB L next (nearK N N.length))
theorem medL_mem {c : Nat} (hc : c < L.length) : (c : Int) ∈ upL (medL L N next) ↔ Light L.length (Adj N) L next c := by
  unfold upL medL
  rw [List.mem_map]
  constructor
  · rintro ⟨a, ha, e⟩
    rw [List.mem_filter] at ha
    obtain rfl : a = c := by omega
    exact (light_iff a).1 ha.2
  · intro h
    exact ⟨c, List.mem_filter.2 ⟨List.mem_range.2 hc, (light_iff c).2 h⟩, rfl⟩
theorem medL_length : (medL L N next).length ≤ L.length := by
  have := List.length_filter_le (lightB L next (nearK N N.length)) (List.range L.length)
  rw [List.length_range] at this
  exact this
end
end Go.Proofs.Ytkhkgmelicdpkaa
