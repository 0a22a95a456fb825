/- Contracts of package tip: how many bits are set; a town in the making, and stores into it. -/
import Derived.Test.YtkhkgmelicdpkaaC
import Derived.Test.YtkhkgmelicdpkaaN
import Derived.ScopeJumps
import Derived.WalkMore
set_option linter.unusedVariables false
set_option linter.unusedSimpArgs false
namespace Go.Proofs.Ytkhkgmelicdpkaa
open Go.RowKit

def PopPost (w : World) (r : Int) (e : Ending) (w' : World) : Prop := e = .returned (.int .i64 r) ∧ w = w'
set_option maxRecDepth 100000 in
set_option maxHeartbeats 800000 in
theorem ones_any (w : World) (m : Nat) (hm : m < 256) :
    Calls Try.prog 88 #[.int .u64 m] w (PopPost w (popc m)) := by
  have hm' : (m : Int) < 256 := by omega
  go_enter Try.func88, Try.ntmps88
  go_wp2
  go_ret
  refine ⟨ret_int ?_, rfl⟩
  clear hm'
  revert m
  decide +kernel

/-- A town in the making at block b: nothing of it is frozen. -/
structure Making (w : World) (b : Nat) (lv : Value) (far : Nat → Nat → Int) (next : Nat → Nat → Nat) (near : Nat → Nat) : Prop where
  cLoads : w.cell? ⟨b, 0, none⟩ = some lv
  cFar : ∀ c k, c < 8 → k < 8 → w.cell? ⟨b, 1 + c * 8 + k, none⟩ = some (.int .i64 (far c k))
  cNext : ∀ c k, c < 8 → k < 8 → w.cell? ⟨b, 65 + c * 8 + k, none⟩ = some (.int .i64 (next c k))
  cNear : ∀ c, c < 8 → w.cell? ⟨b, 129 + c, none⟩ = some (.int .u64 (near c))
  free : ∀ o, w.frozen? ⟨b, o, none⟩ = false

section
variable {w : World} {b : Nat} {lv : Value} {far : Nat → Nat → Int} {next : Nat → Nat → Nat} {near : Nat → Nat}
theorem cell_ne {w : World} {b o o' : Nat} {v : Value} (h : o ≠ o') : (w.setCell ⟨b, o, none⟩ v).cell? ⟨b, o', none⟩ = w.cell? ⟨b, o', none⟩ :=
  World.cell?_setCell_other _ _ _ _ (fun e => h (by injection e))
theorem cell_eq {w : World} {b o : Nat} {u v : Value} (h : w.cell? ⟨b, o, none⟩ = some u) : (w.setCell ⟨b, o, none⟩ v).cell? ⟨b, o, none⟩ = some v :=
  World.cell?_setCell_same _ _ _ h
theorem Making.below {w' : World} (h : Making w b lv far next near) (hs : w'.heap[b]? = w.heap[b]?) : Making w' b lv far next near := by
  have e1 : ∀ o, w'.cell? ⟨b, o, none⟩ = w.cell? ⟨b, o, none⟩ := fun o => World.cell?_of_block (a := ⟨b, o, none⟩) hs
  have e2 : ∀ o, w'.frozen? ⟨b, o, none⟩ = w.frozen? ⟨b, o, none⟩ := fun o => World.frozen?_of_block (a := ⟨b, o, none⟩) hs
  obtain ⟨h1, h2, h3, h4, h5⟩ := h
  exact ⟨by rw [e1]; exact h1, fun c k hc hk => by rw [e1]; exact h2 c k hc hk, fun c k hc hk => by rw [e1]; exact h3 c k hc hk, fun c hc => by rw [e1]; exact h4 c hc, fun o => by rw [e2]; exact h5 o⟩
theorem Making.setFar (h : Making w b lv far next near) {c k : Nat} (hc : c < 8) (hk : k < 8) (x : Int) : Making (w.setCell ⟨b, 1 + c * 8 + k, none⟩ (.int .i64 x)) b lv (upd2 far c k x) next near := by
  obtain ⟨h1, h2, h3, h4, h5⟩ := h
  refine ⟨by rw [cell_ne (by omega)]; exact h1, fun c' k' hc' hk' => ?_, fun c' k' hc' hk' => by rw [cell_ne (by omega)]; exact h3 c' k' hc' hk', fun c' hc' => by rw [cell_ne (by omega)]; exact h4 c' hc', fun o => by rw [World.frozen?_setCell]; exact h5 o⟩
  by_cases e : c' = c ∧ k' = k
  · obtain ⟨rfl, rfl⟩ := e
    rw [cell_eq (h2 c' k' hc' hk')]
    simp [upd2]
  · rw [cell_ne (by omega), h2 c' k' hc' hk']
    simp only [upd2, if_neg e]
theorem Making.setNext (h : Making w b lv far next near) {c k : Nat} (hc : c < 8) (hk : k < 8) (x : Nat) : Making (w.setCell ⟨b, 65 + c * 8 + k, none⟩ (.int .i64 x)) b lv far (upd2 next c k x) near := by
  obtain ⟨h1, h2, h3, h4, h5⟩ := h
  refine ⟨by rw [cell_ne (by omega)]; exact h1, fun c' k' hc' hk' => by rw [cell_ne (by omega)]; exact h2 c' k' hc' hk', fun c' k' hc' hk' => ?_, fun c' hc' => by rw [cell_ne (by omega)]; exact h4 c' hc', fun o => by rw [World.frozen?_setCell]; exact h5 o⟩
  by_cases e : c' = c ∧ k' = k
  · obtain ⟨rfl, rfl⟩ := e
    rw [cell_eq (h3 c' k' hc' hk')]
    simp [upd2]
  · rw [cell_ne (by omega), h3 c' k' hc' hk']
    simp only [upd2, if_neg e]
theorem Making.setNear (h : Making w b lv far next near) {c : Nat} (hc : c < 8) (x : Nat) : Making (w.setCell ⟨b, 129 + c, none⟩ (.int .u64 x)) b lv far next (upd near c x) := by
  obtain ⟨h1, h2, h3, h4, h5⟩ := h
  refine ⟨by rw [cell_ne (by omega)]; exact h1, fun c' k' hc' hk' => by rw [cell_ne (by omega)]; exact h2 c' k' hc' hk', fun c' k' hc' hk' => by rw [cell_ne (by omega)]; exact h3 c' k' hc' hk', fun c' hc' => ?_, fun o => by rw [World.frozen?_setCell]; exact h5 o⟩
  by_cases e : c' = c
  · obtain rfl := e
    rw [cell_eq (h4 c' hc')]
    simp [upd]
  · rw [cell_ne (by omega), h4 c' hc']
    simp only [upd, if_neg e]
theorem Making.lt (h : Making w b lv far next near) : b < w.heap.size := World.block_lt_of_cell? w _ h.cLoads
end

/-- A table of numbers in a block of its own. -/
structure Table (w : World) (b : Nat) (len : Nat → Nat → Int) : Prop where
  cell : ∀ c k, c < 8 → k < 8 → w.cell? ⟨b, c * 8 + k, none⟩ = some (.int .i64 (len c k))
theorem Table.below {w w' : World} {b : Nat} {len : Nat → Nat → Int} (h : Table w b len) (hs : w'.heap[b]? = w.heap[b]?) : Table w' b len :=
  ⟨fun c k hc hk => (World.cell?_of_block (a := ⟨b, c * 8 + k, none⟩) hs).trans (h.cell c k hc hk)⟩
theorem Bits8.kept {w w' : World} {g : Nat} (h : Bits8 w g) (hs : w'.heap[g]? = w.heap[g]?) : Bits8 w' g :=
  ⟨fun k hk => (World.cell?_of_block (a := ⟨g, k, none⟩) hs).trans (h.cell k hk)⟩

/-- Below B nothing has turned but block b. -/
structure But (B b : Nat) (w w' : World) : Prop where
  os : w'.os = w.os
  tape : w'.tape = w.tape
  output : w'.output = w.output
  size : w.heap.size ≤ w'.heap.size
  block : ∀ k, k < B → k ≠ b → w'.heap[k]? = w.heap[k]?
theorem But.refl (B b : Nat) (w : World) : But B b w w := ⟨rfl, rfl, rfl, Nat.le_refl _, fun _ _ _ => rfl⟩
theorem But.trans {B b : Nat} {a c d : World} (h : But B b a c) (k : But B b c d) : But B b a d :=
  ⟨k.os.trans h.os, k.tape.trans h.tape, k.output.trans h.output, Nat.le_trans h.size k.size, fun i hi hn => (k.block i hi hn).trans (h.block i hi hn)⟩
theorem But.ofBelow {B b : Nat} {w w' : World} (h : Below B w w') : But B b w w' := ⟨h.os, h.tape, h.output, h.size, fun k hk _ => h.block k hk⟩
theorem But.below {B b B' : Nat} {w w' : World} (h : But B b w w') (h1 : B' ≤ B) (h2 : B' ≤ b) : Below B' w w' := ⟨h.os, h.tape, h.output, h.size, fun k hk => h.block k (by omega) (by omega)⟩
theorem But.setCell {B b o : Nat} (w : World) (v : Value) : But B b w (w.setCell ⟨b, o, none⟩ v) := ⟨rfl, rfl, rfl, by simp [World.setCell], fun k _ hk => Below.heap_setCell _ _ _ _ hk⟩
theorem But.mono {B b B' : Nat} {w w' : World} (h : But B b w w') (h1 : B' ≤ B) : But B' b w w' := ⟨h.os, h.tape, h.output, h.size, fun k hk hn => h.block k (by omega) hn⟩

theorem Mine.pop {w : World} {base g o k cap : Nat} {x : Value} {xs : List Value} (h : Mine w base 1 (.slice (some ⟨g, o, none⟩) (k + 1) cap) (k + 1) (x :: xs)) :
    Mine w base 1 (.slice (some (if cap = 1 then (⟨g, o, none⟩ : Addr) else ⟨g, o + 1, none⟩)) k (cap - 1)) k xs := by
  have hl := h.1
  rcases h.2 with ⟨hh, _⟩ | ⟨g', o', cap', hv, h1, h2, h3, h4, h5, h6⟩
  · cases hh
  · injection hv with e1 _ e3
    injection e1 with e1
    injection e1 with e1 e2
    subst e1; subst e2; subst e3
    refine ⟨by simpa using hl, .inr ?_⟩
    by_cases hc : cap = 1
    · subst hc
      refine ⟨g, o, 0, by simp, h1, by omega, by omega, h4, fun j hj => by omega, fun j hj => by omega⟩
    · refine ⟨g, o + 1, cap - 1, by simp [hc], h1, by omega, by omega, h4, fun j hj => ?_, fun j hj => ?_⟩
      · have := h5 (j + 1) (by omega)
        rw [show o + (j + 1) = o + 1 + j by omega] at this
        rw [this]; simp
      · have := h6 (j + 1) (by omega)
        rw [show o + (j + 1) = o + 1 + j by omega] at this
        exact this
theorem slice1 (g o k cap : Nat) (h : k + 1 ≤ cap) (wx : World) : (Instr.sliceAt 22 (.slice (some ⟨g, o, none⟩) (k + 1) cap) (some (.int .i64 1)) none none).run Try.prog wx =
    .ok (.slice (some (if cap = 1 then (⟨g, o, none⟩ : Addr) else ⟨g, o + 1, none⟩)) k (cap - 1)) wx := by
  have e := run_sliceAt_slice (P := Try.prog) (w := wx) 22 (.slice (some ⟨g, o, none⟩) (k + 1) cap) (some (.int .i64 1)) none none (by kernel_rfl)
  rw [e]
  simp [go_sem]
  rw [if_pos (by omega)]
  split <;> rfl
end Go.Proofs.Ytkhkgmelicdpkaa
