/- Contracts of package tip's exported functions for markets without error: lists that are filtered. -/
import Derived.Test.YtkhkgmelicdpkaaI
set_option linter.unusedVariables false
set_option linter.unusedSimpArgs false
namespace Go.Proofs.Ytkhkgmelicdpkaa
open Go.RowKit

theorem Mine.base {w : World} {base base' size n : Nat} {v : Value} {xs : List Value} (h : Mine w base size v n xs) (hb : base' ≤ base) : Mine w base' size v n xs := by
  refine ⟨h.1, h.2.imp id ?_⟩
  rintro ⟨g, o, cap, rfl, h1, h2⟩
  exact ⟨g, o, cap, rfl, by omega, h2⟩
/-- The call returns a new list and a number. -/
def RetList (w : World) (l : List Nat) (c : Int) (e : Ending) (w' : World) : Prop := ∃ v, e = .returned (.tuple #[v, .int .i64 c]) ∧ Mine w' w.heap.size 1 v l.length (vals l) ∧ Below w.heap.size w w'
def FiltRel (w1 : World) (p : Nat → Bool) (n : Nat) (iv out : Value) (wr : World) : Prop :=
  ∃ k : Nat, k ≤ n ∧ iv = .int .i64 (k : Int) ∧ Mine wr w1.heap.size 1 out ((List.range k).filter p).length (vals ((List.range k).filter p)) ∧ Below w1.heap.size w1 wr
theorem filt_no {w1 wr w' : World} {p : Nat → Bool} {n k : Nat} {out : Value} (hk : k < n) (hp : p k = false) (hm : Mine wr w1.heap.size 1 out ((List.range k).filter p).length (vals ((List.range k).filter p))) (hb : Below w1.heap.size w1 wr) (hs : Below wr.heap.size wr w') :
    FiltRel w1 p n (.int .i64 ((k : Int) + 1)) out w' := by
  have e : (List.range (k + 1)).filter p = (List.range k).filter p := by
    rw [List.range_succ, List.filter_append]
    simp [hp]
  exact ⟨k + 1, by omega, by rw [Int.natCast_add]; rfl, by rw [e]; exact hm.below hs, hb.trans (hs.mono hb.size)⟩
theorem filt_len (p : Nat → Bool) (k : Nat) : ((List.range k).filter p).length ≤ k := by
  have := List.length_filter_le p (List.range k)
  rw [List.length_range] at this
  exact this
theorem filt_yes {w1 wr w2 w' : World} {p : Nat → Bool} {n k : Nat} {out v' : Value} (hk : k < n) (hp : p k = true) (hm : Mine wr w1.heap.size 1 out ((List.range k).filter p).length (vals ((List.range k).filter p))) (hb : Below w1.heap.size w1 wr) (hs : Below wr.heap.size wr w2)
    (hm' : Mine w' w1.heap.size 1 v' (((List.range k).filter p).length + 1) (vals ((List.range k).filter p) ++ [.int .i64 (k : Int)])) (hg : w2.grownBy w' out.ownBlock) :
    FiltRel w1 p n (.int .i64 ((k : Int) + 1)) v' w' := by
  have e : (List.range (k + 1)).filter p = (List.range k).filter p ++ [k] := by
    rw [List.range_succ, List.filter_append]
    simp [hp]
  exact ⟨k + 1, by omega, by rw [Int.natCast_add]; rfl, by rw [e, vals_snoc, List.length_append]; exact hm', (hb.trans (hs.mono hb.size)).grown hg (Nat.le_trans hb.size hs.size) (fun k hk => (hm.lt hk).1)⟩

theorem box_cell {w w1 : World} {x y : Value} {T : TypeId} (hb : Below (w.alloc (.cells #[x, y] T)).heap.size (w.alloc (.cells #[x, y] T)) w1) : w1.cell? ⟨w.heap.size, 0, none⟩ = some x :=
  (hb.cell (p := ⟨w.heap.size, 0, none⟩) (by simp)).trans (by simp)
/-- Is there no heavy branch? -/
def lightB (L : List Int) (next : Nat → Nat → Nat) (near : Nat → Nat) (c : Nat) : Bool := decide (firstF (heavyB L next near c) L.length < 0)

set_option maxRecDepth 100000 in
set_option maxHeartbeats 1000000 in
theorem Medians_ok (w : World) (m : Value) (L : List Int) (N : List Lane) (far : Nat → Nat → Int) (next : Nat → Nat → Nat) (hm : Mkt w m L N) (h0 : checkCode L N = 0) (hR : AllRooted L.length N far next) :
    Calls Try.prog 18 #[m] w (RetList w ((List.range L.length).filter (lightB L next (nearK N N.length))) 0) := by
  have hM : ∀ w', Below w.heap.size w w' → Mkt w' m L N := fun w' hb => hm.below hb
  obtain ⟨la, lc, na, nc, rfl, hl, hn⟩ := hm.shape
  have h1 := corners_ok0 h0
  have hV := valid_of h0
  have i1 : (L.length : Int) ≤ 8 := by have := hV.le; omega
  have H1 := Lib.hid h1
  have HV := Lib.hid hV
  clear h0 hm h1 hV
  go_enter Try.func18, Try.ntmps18
  go_wp2_with (go_at_call 66; refine (laid_ok _ _ _ L N [] far next (by exact hM _ (Below.one _ _)) (by exact ints_nil _ _) H1.out hR).mono ?_; rintro e w1 ⟨bt, rfl, hbt, hT, hb1⟩; (have hmb := box_cell hb1))
  have HB := Lib.hid ((Below.one w _).trans (hb1.mono (by simp)))
  have HT := Lib.hid hT
  clear hT hb1
  go_loopw [19, 6] (FiltRel w1 (lightB L next (nearK N N.length)) L.length) (fun i _ _ => L.length - (intOf i).toNat)
  case atStart => exact ⟨0, Nat.zero_le _, rfl, Mine.nil _ _ _, Below.refl _ _⟩
  case round =>
    obtain ⟨k, hk, rfl, hm, hb⟩ := hrel
    have Hm := Lib.hid hm
    have Hb := Lib.hid hb
    clear hm hb
    by_cases hlt : k < L.length
    · have hfl := filt_len (lightB L next (nearK N N.length)) k
      have hsm : ((List.range k).filter (lightB L next (nearK N N.length))).length ≤ 1000000000000 := by have := HV.out.le; omega
      by_cases hp : firstF (heavyB L next (nearK N N.length) k) L.length < 0
      · go_wp2_with (first | (go_at_call 67; refine (heavy_any wr bt L far next (nearK N N.length) (HT.out.below Hb.out) HV.out.le HV.out.loads k hlt).mono ?_; rintro e w2 ⟨rfl, hb2⟩) | (at_builtin; refine append_int w1.heap.size rfl _ _ rfl _ _ _ rfl ((Hm.out.below hb2).alloc _) w2.heap.size 0 1 rfl (k : Int) (by simp) hsm (by have := Hb.out.size; have := hb2.size; simp; omega) ?_; intro v' w3 hm3 hg3 _))
        go_roundw
        case rel => exact filt_yes hlt (by simp [lightB, hp]) Hm.out Hb.out (hb2.alloc hb2.size _) hm3 hg3
        case measure => simp [intOf]; omega
      · go_wp2_with (first | (go_at_call 67; refine (heavy_any wr bt L far next (nearK N N.length) (HT.out.below Hb.out) HV.out.le HV.out.loads k hlt).mono ?_; rintro e w2 ⟨rfl, hb2⟩))
        go_roundw
        case rel => exact filt_no hlt (by simp [lightB, hp]) Hm.out Hb.out hb2
        case measure => simp [intOf]; omega
    · obtain rfl : k = L.length := by omega
      go_wp2
      go_ret2
      exact ⟨_, rfl, Hm.out.base HB.out.size, HB.out.trans (Hb.out.mono HB.out.size)⟩
end Go.Proofs.Ytkhkgmelicdpkaa
