/- Contracts of package tip's exported functions: branches, proofs, votes, errors. -/
import Derived.Test.YtkhkgmelicdpkaaK
set_option linter.unusedVariables false
set_option linter.unusedSimpArgs false
namespace Go.Proofs.Ytkhkgmelicdpkaa
open Go.RowKit

set_option maxRecDepth 100000 in
set_option maxHeartbeats 1000000 in
theorem Branch_bad (w : World) (m : Value) (L : List Int) (N : List Lane) (a b code : Int) (hm : Mkt w m L N) (h0 : laidCode L N [a, b] = code) (hne : code ≠ 0) :
    Calls Try.prog 20 #[m, .int .i64 a, .int .i64 b] w (Ret w (.tuple #[.slice none 0 0, .int .i64 code])) := by
  have hM : ∀ w', Below w.heap.size w w' → Mkt w' m L N := fun w' hb => hm.below hb
  obtain ⟨la, lc, na, nc, rfl, hl, hn⟩ := hm.shape
  have hne' : (code != 0) = true := by simpa using hne
  have H0 := Lib.hid h0
  clear h0 hm
  go_enter Try.func20, Try.ntmps20
  go_wp2_with (go_at_call 70; refine (beside_bad _ _ L N a b code (by exact hM _ (Below.one _ _)) H0.out hne).mono ?_; rintro e w1 ⟨rfl, hb1⟩)
  go_ret2
  exact ⟨rfl, (Below.one w _).trans (hb1.mono (by simp))⟩

set_option maxRecDepth 100000 in
set_option maxHeartbeats 1000000 in
theorem Branch_no (w : World) (m : Value) (L : List Int) (N : List Lane) (a b : Nat) (far : Nat → Nat → Int) (next : Nat → Nat → Nat) (hm : Mkt w m L N) (h0 : checkCode L N = 0) (hR : AllRooted L.length N far next) (ha : a < L.length) (hb : b < L.length) (hbit : ¬ (nearK N N.length a).testBit b = true) :
    Calls Try.prog 20 #[m, .int .i64 a, .int .i64 b] w (Ret w (.tuple #[.slice none 0 0, .int .i64 5])) := by
  have hM : ∀ w', Below w.heap.size w w' → Mkt w' m L N := fun w' hb => hm.below hb
  obtain ⟨la, lc, na, nc, rfl, hl, hn⟩ := hm.shape
  have H0 := Lib.hid h0
  have HBit := Lib.hid hbit
  clear h0 hm hbit
  go_enter Try.func20, Try.ntmps20
  go_wp2_with (go_at_call 70; refine (beside_no _ _ L N a b far next (by exact hM _ (Below.one _ _)) H0.out hR ha hb HBit.out).mono ?_; rintro e w1 ⟨bt, rfl, hT, hb1⟩)
  go_ret2
  exact ⟨rfl, (Below.one w _).trans (hb1.mono (by simp))⟩

set_option maxRecDepth 100000 in
set_option maxHeartbeats 1000000 in
theorem Branch_ok (w : World) (m : Value) (L : List Int) (N : List Lane) (a b : Nat) (far : Nat → Nat → Int) (next : Nat → Nat → Nat) (hm : Mkt w m L N) (h0 : checkCode L N = 0) (hR : AllRooted L.length N far next) (ha : a < L.length) (hb : b < L.length) (hbit : (nearK N N.length a).testBit b = true) :
    Calls Try.prog 20 #[m, .int .i64 a, .int .i64 b] w (RetList w ((List.range L.length).filter (inBr next a b)) 0) := by
  have hM : ∀ w', Below w.heap.size w w' → Mkt w' m L N := fun w' hb => hm.below hb
  obtain ⟨la, lc, na, nc, rfl, hl, hn⟩ := hm.shape
  have hV := valid_of h0
  have ha8 : a < 8 := by have := hV.le; omega
  have i1 : (L.length : Int) ≤ 8 := by have := hV.le; omega
  have H0 := Lib.hid h0
  have HV := Lib.hid hV
  have HBit := Lib.hid hbit
  clear h0 hm hbit hV
  go_enter Try.func20, Try.ntmps20
  go_wp2_with (go_at_call 70; refine (beside_ok _ _ L N a b far next (by exact hM _ (Below.one _ _)) H0.out hR ha hb HBit.out).mono ?_; rintro e w1 ⟨bt, rfl, hT, hb1⟩; (have hmb := box_cell hb1))
  have HB := Lib.hid ((Below.one w _).trans (hb1.mono (by simp)))
  have HT := Lib.hid hT
  clear hT hb1
  go_loopw [25, 10] (FiltRel w1 (inBr next a b) L.length) (fun i _ _ => L.length - (intOf i).toNat)
  case atStart => exact ⟨0, Nat.zero_le _, rfl, Mine.nil _ _ _, Below.refl _ _⟩
  case round =>
    obtain ⟨k, hk, rfl, hm, hb⟩ := hrel
    have Hm := Lib.hid hm
    have Hb := Lib.hid hb
    clear hm hb
    by_cases hlt : k < L.length
    · have hfl := filt_len (inBr next a b) k
      have hsm : ((List.range k).filter (inBr next a b)).length ≤ 1000000000000 := by have := HV.out.le; omega
      have hk8 : k < 8 := by have := HV.out.le; omega
      have hcell := (HT.out.below Hb.out).cNext a k ha hlt
      by_cases e1 : k = a
      · have e1' : ((k : Int) != (a : Int)) = false := by simp; omega
        have E1 := Lib.hid e1
        clear e1
        go_wp2
        go_roundw
        case rel => exact filt_no hlt (by simp [inBr, E1.out]) Hm.out Hb.out (Below.refl _ _)
        case measure => simp [intOf]; omega
      · have e1' : ((k : Int) != (a : Int)) = true := by simp; omega
        by_cases e2 : next a k = b
        · have e2' : ((next a k : Int) == (b : Int)) = true := by simp; omega
          have E2 := Lib.hid e2
          clear e2
          go_wp2_with (at_builtin; refine append_int w1.heap.size rfl _ _ rfl _ _ _ rfl (Hm.out.alloc _) wr.heap.size 0 1 rfl (k : Int) (by simp) hsm (by have := Hb.out.size; simp; omega) ?_; intro v' w3 hm3 hg3 _)
          go_roundw
          case rel => exact filt_yes hlt (by simp [inBr, e1, E2.out]) Hm.out Hb.out (Below.one _ _) hm3 hg3
          case measure => simp [intOf]; omega
        · have e2' : ((next a k : Int) == (b : Int)) = false := by simp; omega
          go_wp2
          go_roundw
          case rel => exact filt_no hlt (by simp [inBr, e1, e2]) Hm.out Hb.out (Below.refl _ _)
          case measure => simp [intOf]; omega
    · obtain rfl : k = L.length := by omega
      go_wp2
      go_ret2
      exact ⟨_, rfl, Hm.out.base HB.out.size, HB.out.trans (Hb.out.mono HB.out.size)⟩

set_option maxRecDepth 100000 in
set_option maxHeartbeats 1000000 in
theorem Proves_bad (w : World) (m : Value) (L : List Int) (N : List Lane) (a b code : Int) (hm : Mkt w m L N) (h0 : laidCode L N [a, b] = code) (hne : code ≠ 0) :
    Calls Try.prog 25 #[m, .int .i64 a, .int .i64 b] w (Ret w (.int .i64 code)) := by
  have hM : ∀ w', Below w.heap.size w w' → Mkt w' m L N := fun w' hb => hm.below hb
  obtain ⟨la, lc, na, nc, rfl, hl, hn⟩ := hm.shape
  have hne' : (code != 0) = true := by simpa using hne
  have H0 := Lib.hid h0
  clear h0 hm
  go_enter Try.func25, Try.ntmps25
  go_wp2_with (go_at_call 70; refine (beside_bad _ _ L N a b code (by exact hM _ (Below.one _ _)) H0.out hne).mono ?_; rintro e w1 ⟨rfl, hb1⟩)
  go_ret
  exact ⟨rfl, (Below.one w _).trans (hb1.mono (by simp))⟩
set_option maxRecDepth 100000 in
set_option maxHeartbeats 1000000 in
theorem Proves_no (w : World) (m : Value) (L : List Int) (N : List Lane) (a b : Nat) (far : Nat → Nat → Int) (next : Nat → Nat → Nat) (hm : Mkt w m L N) (h0 : checkCode L N = 0) (hR : AllRooted L.length N far next) (ha : a < L.length) (hb : b < L.length) (hbit : ¬ (nearK N N.length a).testBit b = true) :
    Calls Try.prog 25 #[m, .int .i64 a, .int .i64 b] w (Ret w (.int .i64 5)) := by
  have hM : ∀ w', Below w.heap.size w w' → Mkt w' m L N := fun w' hb => hm.below hb
  obtain ⟨la, lc, na, nc, rfl, hl, hn⟩ := hm.shape
  have H0 := Lib.hid h0
  have HBit := Lib.hid hbit
  clear h0 hm hbit
  go_enter Try.func25, Try.ntmps25
  go_wp2_with (go_at_call 70; refine (beside_no _ _ L N a b far next (by exact hM _ (Below.one _ _)) H0.out hR ha hb HBit.out).mono ?_; rintro e w1 ⟨bt, rfl, hT, hb1⟩)
  go_ret
  exact ⟨rfl, (Below.one w _).trans (hb1.mono (by simp))⟩
def provesCode (L : List Int) (next : Nat → Nat → Nat) (a b : Nat) : Int := if 2 * sumF (loadIn L next a b) L.length ≤ sumF (gI L) L.length then 14 else 0
set_option maxRecDepth 100000 in
set_option maxHeartbeats 1000000 in
theorem Proves_ok (w : World) (m : Value) (L : List Int) (N : List Lane) (a b : Nat) (far : Nat → Nat → Int) (next : Nat → Nat → Nat) (hm : Mkt w m L N) (h0 : checkCode L N = 0) (hR : AllRooted L.length N far next) (ha : a < L.length) (hb : b < L.length) (hbit : (nearK N N.length a).testBit b = true) :
    Calls Try.prog 25 #[m, .int .i64 a, .int .i64 b] w (Ret w (.int .i64 (provesCode L next a b))) := by
  have hM : ∀ w', Below w.heap.size w w' → Mkt w' m L N := fun w' hb => hm.below hb
  obtain ⟨la, lc, na, nc, rfl, hl, hn⟩ := hm.shape
  have hV := valid_of h0
  have hs1 := sumF_bound (gI L) L.length hV.loads _ (Nat.le_refl _)
  have hs2 := sumF_bound (loadIn L next a b) L.length (loadIn_bound hV.loads) _ (Nat.le_refl _)
  have i1 : (L.length : Int) ≤ 8 := by have := hV.le; omega
  have H0 := Lib.hid h0
  have HV := Lib.hid hV
  have HBit := Lib.hid hbit
  clear h0 hm hbit hV
  by_cases hh : 2 * sumF (loadIn L next a b) L.length ≤ sumF (gI L) L.length
  · have HC : Hid (provesCode L next a b = 14) := by unfold provesCode; rw [if_pos hh]; rfl
    go_enter Try.func25, Try.ntmps25
    go_wp2_with (first | (go_at_call 70; refine (beside_ok _ _ L N a b far next (by exact hM _ (Below.one _ _)) H0.out hR ha hb HBit.out).mono ?_; rintro e w1 ⟨bt, rfl, hT, hb1⟩) | (go_at_call 77; refine (weight_any w1 bt L far next (nearK N N.length) hT HV.out.le HV.out.loads a b ha).mono ?_; rintro e w2 ⟨rfl, rfl⟩))
    go_ret
    exact ⟨ret_int HC.out.symm, (Below.one w _).trans (hb1.mono (by simp))⟩
  · have HC : Hid (provesCode L next a b = 0) := by unfold provesCode; rw [if_neg hh]; rfl
    go_enter Try.func25, Try.ntmps25
    go_wp2_with (first | (go_at_call 70; refine (beside_ok _ _ L N a b far next (by exact hM _ (Below.one _ _)) H0.out hR ha hb HBit.out).mono ?_; rintro e w1 ⟨bt, rfl, hT, hb1⟩) | (go_at_call 77; refine (weight_any w1 bt L far next (nearK N N.length) hT HV.out.le HV.out.loads a b ha).mono ?_; rintro e w2 ⟨rfl, rfl⟩))
    go_ret
    exact ⟨ret_int HC.out.symm, (Below.one w _).trans (hb1.mono (by simp))⟩

set_option maxRecDepth 100000 in
set_option maxHeartbeats 1000000 in
theorem Check_ok (w : World) (m : Value) (L : List Int) (N : List Lane) (hm : Mkt w m L N) (h0 : checkCode L N = 0) :
    Calls Try.prog 47 #[m] w (Ret w (.int .i64 0)) := by
  have hM : ∀ w', Below w.heap.size w w' → Mkt w' m L N := fun w' hb => hm.below hb
  obtain ⟨far, next, hR⟩ := tree_exists hm h0
  obtain ⟨la, lc, na, nc, rfl, hl, hn⟩ := hm.shape
  have H1 := Lib.hid (corners_ok0 h0)
  clear h0 hm
  go_enter Try.func47, Try.ntmps47
  go_wp2_with (go_at_call 66; refine (laid_ok _ _ _ L N [] far next (by exact hM _ (Below.one _ _)) (by exact ints_nil _ _) H1.out hR).mono ?_; rintro e w1 ⟨bt, rfl, hbt, hT, hb1⟩)
  go_ret
  exact ⟨rfl, (Below.one w _).trans (hb1.mono (by simp))⟩
theorem laidCode_nil (L : List Int) (N : List Lane) : laidCode L N [] = checkCode L N := by
  unfold laidCode cornersCode
  split
  · rfl
  · rename_i h
    rw [if_pos (fun i hi => by simp at hi)]
    rcases Int.decEq (checkCode L N) 0 with h' | h'
    · exact absurd h' h
    · exact h'.symm
theorem Check_any (w : World) (m : Value) (L : List Int) (N : List Lane) (hm : Mkt w m L N) : Calls Try.prog 47 #[m] w (Ret w (.int .i64 (checkCode L N))) := by
  by_cases h0 : checkCode L N = 0
  · rw [h0]; exact Check_ok w m L N hm h0
  · exact Check_bad w m L N (checkCode L N) hm (laidCode_nil L N) h0
end Go.Proofs.Ytkhkgmelicdpkaa
