/- The law's own helpers: same, large, list; and best tips, so many as there are none. -/
import Derived.Test.YtkhkgmelicdpkaaV
set_option linter.unusedVariables false
set_option linter.unusedSimpArgs false
namespace Go.Proofs.Ytkhkgmelicdpkaa
open Go.RowKit

set_option maxRecDepth 100000 in
set_option maxHeartbeats 1000000 in
theorem Best_none (w : World) (m : Value) (L : List Int) (N : List Lane) (many : Int) (hm : Mkt w m L N) (h0 : checkCode L N = 0) (h1 : ¬ (1 ≤ many ∧ many ≤ L.length)) :
    Calls Try.prog 35 #[m, .int .i64 many] w (Ret w (.tuple #[.slice none 0 0, .int .i64 2])) := by
  have hM : ∀ w', Below w.heap.size w w' → Mkt w' m L N := fun w' hb => hm.below hb
  obtain ⟨far, next, hR⟩ := tree_exists hm h0
  obtain ⟨la, lc, na, nc, rfl, hl, hn⟩ := hm.shape
  have H1 := Lib.hid (corners_ok0 h0)
  have HN := Lib.hid h1
  clear h0 hm h1
  go_enter Try.func35, Try.ntmps35
  go_wp2_with (first | (go_at_call 66; refine (laid_ok _ _ _ L N [] far next (by exact hM _ (Below.one _ _)) (by exact ints_nil _ _) H1.out hR).mono ?_; rintro e w1 ⟨bt, rfl, hbt, hT, hb1⟩; (have hmb := box_cell hb1)) | (go_at_call 84; refine (within_no _ _ _ _ HN.out).mono ?_; rintro e w2 ⟨rfl, rfl⟩))
  go_ret2
  exact ⟨rfl, (Below.one w _).trans (hb1.mono (by simp))⟩

/-- Are two lists the same? -/
def SameRel (w : World) (xs ys : List Int) (iv : Value) (wr : World) : Prop := ∃ k : Nat, k ≤ xs.length ∧ iv = .int .i64 (k : Int) ∧ (∀ j, j < k → gI xs j = gI ys j) ∧ Below w.heap.size w wr
theorem gI_ext : ∀ {xs ys : List Int}, xs.length = ys.length → (∀ j, j < xs.length → gI xs j = gI ys j) → xs = ys := by
  intro xs ys hl h
  apply List.ext_getElem hl
  intro i h1 h2
  have := h i h1
  simp only [gI] at this
  rw [List.getD_eq_getElem?_getD, List.getD_eq_getElem?_getD, List.getElem?_eq_getElem h1, List.getElem?_eq_getElem h2] at this
  exact this
set_option maxRecDepth 100000 in
set_option maxHeartbeats 1000000 in
theorem same_any (w : World) (v1 v2 : Value) (xs ys : List Int) (h1 : Ints w v1 xs) (h2 : Ints w v2 ys) : Calls Try.prog 24 #[v1, v2] w fun e w' => e = .returned (.bool (decide (xs = ys))) ∧ Below w.heap.size w w' := by
  obtain ⟨hx12, a, c1, b1, o1, rfl, ha, hca⟩ := h1
  obtain ⟨hy12, b, c2, b2, o2, rfl, hb, hcb⟩ := h2
  by_cases hl : xs.length = ys.length
  · have hl' : ((xs.length : Int) != (ys.length : Int)) = false := by simp; omega
    have HX := Lib.hid hca
    have HY := Lib.hid hcb
    have HL := Lib.hid hl
    clear hca hcb hl
    go_enter Try.func24, Try.ntmps24
    go_wp2
    go_loopw [5] (SameRel w xs ys) (fun i _ => xs.length - (intOf i).toNat)
    case atStart => exact ⟨0, Nat.zero_le _, rfl, fun j hj => by omega, Below.refl _ _⟩
    case round =>
      obtain ⟨k, hk, rfl, hj, hb2⟩ := hrel
      have HJ := Lib.hid hj
      have HB := Lib.hid hb2
      clear hj hb2
      by_cases hlt : k < xs.length
      · obtain rfl : a = some ⟨b1, o1, none⟩ := ha.resolve_left (by omega)
        obtain rfl : b = some ⟨b2, o2, none⟩ := hb.resolve_left (by have := HL.out; omega)
        have hcell := Below.cellOf HB.out (HX.out k hlt)
        have hcell2 := Below.cellOf HB.out (HY.out k (by have := HL.out; omega))
        have i1 : (0 : Int) ≤ (k : Int) := by omega
        have i2 : (k : Int) < (xs.length : Int) := by omega
        have i3 : (k : Int) < (ys.length : Int) := by have := HL.out; omega
        by_cases h0 : gI xs k = gI ys k
        · have h0' : (gI xs k != gI ys k) = false := by simpa using h0
          have H0 := Lib.hid h0
          go_wp2
          go_quiet (fail)
          go_wp2
          go_roundw
          case rel => exact ⟨k + 1, by omega, by go_num, fun j hj => by
            rcases Nat.lt_or_ge j k with h' | h'
            · exact HJ.out j h'
            · obtain rfl : j = k := by omega
              exact H0.out, below_drewN HB.out _⟩
          case measure => simp [intOf]; omega
        · have h0' : (gI xs k != gI ys k) = true := by simpa using h0
          have H0 := Lib.hid h0
          go_wp2
          go_quiet (fail)
          go_wp2
          go_ret
          refine ⟨?_, below_drewN HB.out _⟩
          rw [decide_eq_false (fun h => H0.out (by rw [h]))]
          rfl
      · obtain rfl : k = xs.length := by omega
        go_wp2
        go_ret
        refine ⟨?_, HB.out⟩
        rw [decide_eq_true (gI_ext HL.out HJ.out)]
        rfl
  · have hl' : ((xs.length : Int) != (ys.length : Int)) = true := by simp; omega
    go_enter Try.func24, Try.ntmps24
    go_wp2
    go_ret
    refine ⟨?_, Below.refl _ _⟩
    rw [decide_eq_false (fun h => hl (by rw [h]))]
    rfl

set_option maxRecDepth 100000 in
set_option maxHeartbeats 1000000 in
theorem large_any (w : World) (m : Value) (L : List Int) (N : List Lane) (hm : Mkt w m L N) :
    Calls Try.prog 16 #[m] w (Ret w (.bool (decide (40 < L.length ∨ 40 < N.length)))) := by
  obtain ⟨la, lc, na, nc, rfl, hl, hn⟩ := hm.shape
  clear hm
  by_cases h1 : 40 < L.length
  · have h1' : (40 : Int) < (L.length : Int) := by omega
    go_enter Try.func16, Try.ntmps16
    go_wp2
    go_ret
    refine ⟨?_, Below.one w _⟩
    rw [decide_eq_true (.inl h1)]
    rfl
  · have h1' : ¬ (40 : Int) < (L.length : Int) := by omega
    by_cases h2 : 40 < N.length
    · have h2' : (40 : Int) < (N.length : Int) := by omega
      go_enter Try.func16, Try.ntmps16
      go_wp2
      go_ret
      refine ⟨?_, Below.one w _⟩
      rfl
    · have h2' : ¬ (40 : Int) < (N.length : Int) := by omega
      go_enter Try.func16, Try.ntmps16
      go_wp2
      go_ret
      refine ⟨?_, Below.one w _⟩
      rfl
end Go.Proofs.Ytkhkgmelicdpkaa
