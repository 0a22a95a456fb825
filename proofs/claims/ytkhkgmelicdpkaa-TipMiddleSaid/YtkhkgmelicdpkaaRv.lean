/- Contract of slices.Reverse of numbers; parts of slices read as parts of lists. -/
import Derived.Test.YtkhkgmelicdpkaaSm
import Derived.Test.YtkhkgmelicdpkaaPw
set_option linter.unusedVariables false
set_option linter.unusedSimpArgs false
namespace Go.Proofs.Ytkhkgmelicdpkaa
open Go.RowKit

/-- A row of numbers that may be written. -/
structure RvSt (g o n : Nat) (F : Nat → Int) (wr : World) : Prop where
  cell : ∀ t, t < n → wr.cell? ⟨g, o + t, none⟩ = some (.int .i64 (F t))
  free : ∀ t, t < n → wr.frozen? ⟨g, o + t, none⟩ = false
theorem RvSt.set {g o n : Nat} {F : Nat → Int} {wr : World} (h : RvSt g o n F wr) {i : Nat} (hi : i < n) (x : Int) : RvSt g o n (upd F i x) (wr.setCell ⟨g, o + i, none⟩ (.int .i64 x)) := by
  refine ⟨fun t ht => ?_, fun t ht => (World.frozen?_setCell _ _ _ _).trans (h.free t ht)⟩
  by_cases e : t = i
  · subst e
    rw [cell_eq (h.cell t ht)]
    simp [upd]
  · rw [cell_ne (by omega), h.cell t ht]
    simp [upd, e]
theorem RvSt.congr {g o n : Nat} {F G : Nat → Int} {wr : World} (h : RvSt g o n F wr) (hF : ∀ t, t < n → F t = G t) : RvSt g o n G wr := ⟨fun t ht => by rw [← hF t ht]; exact h.cell t ht, h.free⟩
def revF (F : Nat → Int) (n i : Nat) : Nat → Int := fun t => if t < i ∨ n - i ≤ t then F (n - 1 - t) else F t
def RvRel (w : World) (base g o n : Nat) (F : Nat → Int) (iv jv : Value) (wr : World) : Prop := ∃ i j : Nat, i + j + 1 = n ∧ i ≤ j + 1 ∧ iv = .int .i64 (i : Int) ∧ jv = .int .i64 (j : Int) ∧ RvSt g o n (revF F n i) wr ∧ Below base w wr
theorem rev_step {w wr : World} {base g o n i j : Nat} {F : Nat → Int} (hg : base ≤ g) (hn : i + j + 1 = n) (hij : i < j) (h : RvSt g o n (revF F n i) wr) (hb : Below base w wr) :
    RvRel w base g o n F (.int .i64 ((i : Int) + 1)) (.int .i64 ((j : Int) - 1)) ((wr.setCell ⟨g, o + i, none⟩ (.int .i64 (F j))).setCell ⟨g, o + j, none⟩ (.int .i64 (F i))) := by
  refine ⟨i + 1, j - 1, by omega, by omega, by rw [Int.natCast_add]; rfl, by rw [Int.natCast_sub (by omega)]; rfl, ?_, (hb.setCell hg _).setCell hg _⟩
  refine ((h.set (show i < n by omega) (F j)).set (show j < n by omega) (F i)).congr fun t ht => ?_
  simp only [upd, revF]
  by_cases e1 : t = j
  · subst e1
    rw [if_pos rfl, if_pos (by omega)]
    congr 1
    omega
  · rw [if_neg e1]
    by_cases e2 : t = i
    · subst e2
      rw [if_pos rfl, if_pos (by omega)]
      congr 1
      omega
    · rw [if_neg e2]
      by_cases e3 : t < i ∨ n - i ≤ t
      · rw [if_pos e3, if_pos (by omega)]
      · rw [if_neg e3, if_neg (by omega)]
theorem rev_drew {w wr : World} {base g o n : Nat} {F : Nat → Int} {iv jv : Value} (h : RvRel w base g o n F iv jv wr) : RvRel w base g o n F iv jv wr.drew := by
  obtain ⟨i, j, h1, h2, h3, h4, h5, h6⟩ := h
  exact ⟨i, j, h1, h2, h3, h4, ⟨h5.cell, h5.free⟩, h6.drew⟩
set_option maxRecDepth 100000 in
set_option maxHeartbeats 2000000 in
theorem reverse_any (w : World) (base g o n cap : Nat) (F : Nat → Int) (hg : base ≤ g) (hn : 1 ≤ n) (hn8 : n ≤ 1000) (h : RvSt g o n F w) (hbw : base ≤ w.heap.size) :
    Calls Try.prog 62 #[.slice (some ⟨g, o, none⟩) n cap] w fun e w' => e = .returned (.tuple #[]) ∧ RvSt g o n (fun t => F (n - 1 - t)) w' ∧ Below base w w' := by
  have H := Lib.hid h
  clear h
  go_enter Try.func62, Try.ntmps62
  go_wp2
  go_loopw [2, 3] (RvRel w base g o n F) (fun i _ _ => n - (intOf i).toNat)
  case atStart =>
    refine ⟨0, n - 1, by omega, by omega, rfl, by rw [Int.natCast_sub hn]; rfl, H.out.congr fun t ht => ?_, Below.refl _ _⟩
    simp only [revF]
    rw [if_neg (by omega)]
  case round =>
    obtain ⟨i, j, hij, hle, rfl, rfl, hst, hb⟩ := hrel
    have HST := Lib.hid hst
    have HB := Lib.hid hb
    by_cases hlt : i < j
    · have q1 := hst.cell i (by omega)
      have q2 := hst.cell j (by omega)
      have f1 := hst.free i (by omega)
      have f2 := hst.free j (by omega)
      have e1 : revF F n i i = F i := by simp only [revF]; rw [if_neg (by omega)]
      have e2 : revF F n i j = F j := by simp only [revF]; rw [if_neg (by omega)]
      rw [e1] at q1
      rw [e2] at q2
      have q4 : (wr.setCell ⟨g, o + i, none⟩ (.int .i64 (F j))).cell? ⟨g, o + j, none⟩ = some (.int .i64 (F j)) := (cell_ne (by omega)).trans q2
      have f4 : (wr.setCell ⟨g, o + i, none⟩ (.int .i64 (F j))).frozen? ⟨g, o + j, none⟩ = false := (World.frozen?_setCell _ _ _ _).trans f2
      clear hst hb e1 e2
      go_wp2
      go_region
      all_goals
        clear q1 q2 q4 f1 f2 f4
        go_wp2
        go_roundw
        case rel => exact rev_drew (rev_step hg hij hlt HST.out HB.out)
        case measure => simp [intOf]; omega
    · clear hst hb
      go_wp2
      go_end0
      refine ⟨rfl, HST.out.congr fun t ht => ?_, HB.out⟩
      simp only [revF]
      by_cases e : t < i ∨ n - i ≤ t
      · rw [if_pos e]
      · rw [if_neg e]
        congr 1
        omega
/-! ### parts of a list in memory -/
theorem gI_take {L : List Int} {i j : Nat} (h : j < i) : gI (L.take i) j = gI L j := by
  unfold gI
  rw [List.getD_eq_getElem?_getD, List.getD_eq_getElem?_getD, List.getElem?_take, if_pos h]
theorem gI_drop {L : List Int} {i j : Nat} : gI (L.drop i) j = gI L (i + j) := by
  unfold gI
  rw [List.getD_eq_getElem?_getD, List.getD_eq_getElem?_getD, List.getElem?_drop]
theorem ints_take {w : World} {b o c c' : Nat} {L : List Int} {i : Nat} (h : ∀ j, j < L.length → w.cell? ⟨b, o + j, none⟩ = some (.int .i64 (gI L j))) (hi : i ≤ L.length) (hl : L.length ≤ 1000000) : Ints w (.slice (some ⟨b, o, none⟩) i c') (L.take i) := by
  refine ⟨by rw [List.length_take]; omega, _, c', b, o, by rw [List.length_take, Nat.min_eq_left hi], .inr rfl, fun j hj => ?_⟩
  rw [List.length_take] at hj
  rw [gI_take (by omega)]
  exact h j (by omega)
theorem ints_drop {w : World} {b o c' : Nat} {L : List Int} {i : Nat} (h : ∀ j, j < L.length → w.cell? ⟨b, o + j, none⟩ = some (.int .i64 (gI L j))) (hi : i ≤ L.length) (hl : L.length ≤ 1000000) : Ints w (.slice (some ⟨b, o + i, none⟩) (L.length - i) c') (L.drop i) := by
  refine ⟨by rw [List.length_drop]; omega, _, c', b, o + i, by rw [List.length_drop], .inr rfl, fun j hj => ?_⟩
  rw [List.length_drop] at hj
  rw [gI_drop, Nat.add_assoc]
  exact h (i + j) (by omega)
end Go.Proofs.Ytkhkgmelicdpkaa
