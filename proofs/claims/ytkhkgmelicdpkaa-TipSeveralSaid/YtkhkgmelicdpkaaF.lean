/- The contract of package tip's laid: the errors ahead of the lanes. -/
import Derived.Test.YtkhkgmelicdpkaaE
set_option linter.unusedVariables false
set_option linter.unusedSimpArgs false
namespace Go.Proofs.Ytkhkgmelicdpkaa
open Go.RowKit

def LaidBad (w : World) (c : Int) (e : Ending) (w' : World) : Prop := e = .returned (.tuple #[.pointer none, .int .i64 c]) ∧ Below w.heap.size w w'

set_option maxRecDepth 100000 in
set_option maxHeartbeats 2000000 in
theorem laid_head (w : World) (m cv : Value) (L : List Int) (N : List Lane) (hm : Mkt w m L N) (hbad : headCode L N ≠ 0) : Calls Try.prog 66 #[m, cv] w (LaidBad w (headCode L N)) := by
  obtain ⟨lv, nv, rfl, ⟨hl12, a, cap, lb, lo, rfl, ha, hcl⟩, hn12, na, ncap, nb, no, rfl, hna, hcn⟩ := hm
  unfold headCode at hbad ⊢
  by_cases h0 : L.length = 0
  · rw [if_pos h0]
    have hz : ((L.length : Int) == 0) = true := by simp [h0]
    have H0 := Lib.hid h0
    clear h0 hbad
    go_enter Try.func66, Try.ntmps66
    go_wp2
    go_ret2
    exact ⟨rfl, (Below.refl _ _).alloc (Nat.le_refl _) _⟩
  · rw [if_neg h0] at hbad ⊢
    have hz : ((L.length : Int) == 0) = false := by rw [beq_eq_false_iff_ne]; omega
    by_cases h8 : 8 < L.length
    · rw [if_pos h8]
      have h8' : (8 : Int) < (L.length : Int) := by omega
      clear hbad
      go_enter Try.func66, Try.ntmps66
      go_wp2
      go_ret2
      exact ⟨rfl, (Below.refl _ _).alloc (Nat.le_refl _) _⟩
    · rw [if_neg h8] at hbad ⊢
      have h8' : ¬ (8 : Int) < (L.length : Int) := by omega
      obtain ⟨n, hn⟩ : ∃ n, L.length = n + 1 := ⟨L.length - 1, by omega⟩
      rw [hn] at hbad hcl ha hz h8' ⊢
      obtain rfl : a = some ⟨lb, lo, none⟩ := ha.resolve_left (by omega)
      simp only [Nat.add_sub_cancel] at hbad ⊢
      have hlb := World.block_lt_of_cell? w _ (hcl 0 (by omega))
      have HC := Lib.hid hcl
      have HN := Lib.hid hn
      clear hcl hn ha h0 h8 hcn hna
      by_cases hr : mnF (gI L) n < 0 ∨ 9 < mxF (gI L) n
      · rw [if_pos hr]
        clear hbad
        by_cases h1 : mnF (gI L) n < 0
        · clear hr
          go_enter Try.func66, Try.ntmps66
          go_wp2_with (go_at_call 90; refine (min_any _ lb lo n cap (gI L) (by have := HN.out; omega) (by exact fun k hk => Below.cellOf ((Below.refl _ _).alloc (Nat.le_refl _) _) (HC.out k hk))).mono ?_; rintro e w1 ⟨rfl, rfl⟩)
          go_ret2
          exact ⟨rfl, (Below.refl _ _).alloc (Nat.le_refl _) _⟩
        · have h2 : 9 < mxF (gI L) n := hr.resolve_left h1
          clear hr
          go_enter Try.func66, Try.ntmps66
          go_wp2_with (first | (go_at_call 90; refine (min_any _ lb lo n cap (gI L) (by have := HN.out; omega) (by exact fun k hk => Below.cellOf ((Below.refl _ _).alloc (Nat.le_refl _) _) (HC.out k hk))).mono ?_; rintro e w1 ⟨rfl, rfl⟩) | (go_at_call 61; refine (max_any _ lb lo n cap (gI L) (by have := HN.out; omega) (by exact fun k hk => Below.cellOf ((Below.refl _ _).alloc (Nat.le_refl _) _) (HC.out k hk))).mono ?_; rintro e w1 ⟨rfl, rfl⟩))
          go_ret2
          exact ⟨rfl, (Below.refl _ _).alloc (Nat.le_refl _) _⟩
      · rw [if_neg hr] at hbad ⊢
        have h1 : ¬ mnF (gI L) n < 0 := fun h => hr (.inl h)
        have h2 : ¬ 9 < mxF (gI L) n := fun h => hr (.inr h)
        clear hr
        by_cases h5 : N.length ≠ n
        · rw [if_pos h5]
          have h5' : ((N.length : Int) != (n : Int)) = true := by simp; omega
          clear hbad h5
          go_enter Try.func66, Try.ntmps66
          go_wp2_with (first | (go_at_call 90; refine (min_any _ lb lo n cap (gI L) (by have := HN.out; omega) (by exact fun k hk => Below.cellOf ((Below.refl _ _).alloc (Nat.le_refl _) _) (HC.out k hk))).mono ?_; rintro e w1 ⟨rfl, rfl⟩) | (go_at_call 61; refine (max_any _ lb lo n cap (gI L) (by have := HN.out; omega) (by exact fun k hk => Below.cellOf ((Below.refl _ _).alloc (Nat.le_refl _) _) (HC.out k hk))).mono ?_; rintro e w1 ⟨rfl, rfl⟩))
          go_ret2
          exact ⟨rfl, (Below.refl _ _).alloc (Nat.le_refl _) _⟩
        · exact absurd (if_neg h5) hbad
end Go.Proofs.Ytkhkgmelicdpkaa
