/- Contracts of package tip's inner functions over a town in memory: the bits, the ways, weights, heavy branches, costs, radii. -/
import Derived.Test.YtkhkgmelicdpkaaA
import Derived.Deep.RegionHeld3
import Derived.Deep.DeepCutAuto
set_option linter.unusedVariables false
set_option linter.unusedSimpArgs false
namespace Go.Proofs.Ytkhkgmelicdpkaa
open Go.RowKit
def setsV : Value := .agg #[.int .u64 1, .int .u64 2, .int .u64 4, .int .u64 8, .int .u64 16, .int .u64 32, .int .u64 64, .int .u64 128]
def SetsPost (w : World) (e : Ending) (w' : World) : Prop := e = .returned (.agg #[.int .u64 1, .int .u64 2, .int .u64 4, .int .u64 8, .int .u64 16, .int .u64 32, .int .u64 64, .int .u64 128]) ∧ Below w.heap.size w w'
set_option maxRecDepth 100000 in
set_option maxHeartbeats 400000 in
theorem sets_any (w : World) : Calls Try.prog 85 #[] w fun e w' => e = .returned (.agg #[.int .u64 1, .int .u64 2, .int .u64 4, .int .u64 8, .int .u64 16, .int .u64 32, .int .u64 64, .int .u64 128]) ∧ Below w.heap.size w w' := by
  go_enter Try.func85, Try.ntmps85
  go_wp2
  exact bodyPost_ret (v := .agg #[.int .u64 1, .int .u64 2, .int .u64 4, .int .u64 8, .int .u64 16, .int .u64 32, .int .u64 64, .int .u64 128]) (by simp [results, Try.results85, go_sem]) rfl ⟨rfl, (Below.refl _ _).alloc (Nat.le_refl _) _⟩

/-- A slice of the single bits. -/
structure Bits8 (w : World) (g : Nat) : Prop where
  cell : ∀ k, k < 8 → w.cell? ⟨g, k, none⟩ = some (.int .u64 ((2 ^ k : Nat) : Int))

def SetsAllPost (w : World) (e : Ending) (w' : World) : Prop := ∃ g, e = .returned (.slice (some ⟨g, 0, none⟩) 8 8) ∧ Bits8 w' g ∧ w.heap.size ≤ g ∧ g < w'.heap.size ∧ Below w.heap.size w w'

set_option maxRecDepth 100000 in
set_option maxHeartbeats 400000 in
theorem setsAll_any (w : World) : Calls Try.prog 94 #[] w (SetsAllPost w) := by
  go_enter Try.func94, Try.ntmps94
  go_wp2_with (go_at_call 85; refine (sets_any _).mono ?_; rintro e w1 ⟨rfl, hb1⟩)
  go_ret
  refine ⟨w1.heap.size, rfl, ⟨fun k hk => ?_⟩, hb1.size, by simp, hb1.alloc hb1.size _⟩
  have h8 : k = 0 ∨ k = 1 ∨ k = 2 ∨ k = 3 ∨ k = 4 ∨ k = 5 ∨ k = 6 ∨ k = 7 := by omega
  rcases h8 with rfl | rfl | rfl | rfl | rfl | rfl | rfl | rfl <;> simp

theorem Bits8.below {w w' : World} {g : Nat} (h : Bits8 w g) (hb : Below w.heap.size w w') : Bits8 w' g := ⟨fun k hk => Below.cellOf hb (h.cell k hk)⟩

/-- The tables of a town at block b. -/
structure Town (w : World) (b : Nat) (L : List Int) (far : Nat → Nat → Int) (next : Nat → Nat → Nat) (near : Nat → Nat) : Prop where
  cLoads : ∃ lv, w.cell? ⟨b, 0, none⟩ = some lv ∧ Ints w lv L
  cFar : ∀ c k, c < L.length → k < L.length → w.cell? ⟨b, 1 + c * 8 + k, none⟩ = some (.int .i64 (far c k))
  cNext : ∀ c k, c < L.length → k < L.length → w.cell? ⟨b, 65 + c * 8 + k, none⟩ = some (.int .i64 (next c k))
  cNear : ∀ c, c < L.length → w.cell? ⟨b, 129 + c, none⟩ = some (.int .u64 (near c))
  lt : ∀ c, c < L.length → near c < 256

theorem Town.congr {w : World} {b : Nat} {L : List Int} {far far' : Nat → Nat → Int} {next next' : Nat → Nat → Nat} {near : Nat → Nat} (h : Town w b L far next near) (hf : ∀ c k, c < L.length → k < L.length → far c k = far' c k ∧ next k c = next' k c) : Town w b L far' next' near := by
  obtain ⟨h1, h3, h4, h5, h6⟩ := h
  exact ⟨h1, fun c k hc hk => by rw [← (hf c k hc hk).1]; exact h3 c k hc hk, fun c k hc hk => by rw [← (hf k c hk hc).2]; exact h4 c k hc hk, h5, h6⟩
theorem Town.below {w w' : World} {b : Nat} {L : List Int} {far : Nat → Nat → Int} {next : Nat → Nat → Nat} {near : Nat → Nat} (h : Town w b L far next near) (hb : Below w.heap.size w w') : Town w' b L far next near := by
  obtain ⟨⟨lv, h1, h2⟩, h3, h4, h5, h6⟩ := h
  exact ⟨⟨lv, Below.cellOf hb h1, h2.below hb⟩, fun c k hc hk => Below.cellOf hb (h3 c k hc hk), fun c k hc hk => Below.cellOf hb (h4 c k hc hk), fun c hc => Below.cellOf hb (h5 c hc), h6⟩

def sumF (f : Nat → Int) : Nat → Int
  | 0 => 0
  | k + 1 => sumF f k + f k
theorem sumF_bound (f : Nat → Int) (n : Nat) (h : ∀ k, k < n → 0 ≤ f k ∧ f k ≤ 9) : ∀ k, k ≤ n → 0 ≤ sumF f k ∧ sumF f k ≤ 9 * k := by
  intro k
  induction k with
  | zero => intro _; simp [sumF]
  | succ k ih => intro hk; have := ih (by omega); have := h k (by omega); simp only [sumF]; omega

def inBr (next : Nat → Nat → Nat) (corner over c : Nat) : Bool := decide (c ≠ corner) && decide (next corner c = over)
def loadIn (L : List Int) (next : Nat → Nat → Nat) (corner over c : Nat) : Int := if inBr next corner over c then gI L c else 0
def WeightRel (L : List Int) (next : Nat → Nat → Nat) (corner over : Nat) (i there all : Value) : Prop := ∃ k : Nat, k ≤ L.length ∧ i = .int .i64 k ∧ there = .int .i64 (sumF (loadIn L next corner over) k) ∧ all = .int .i64 (sumF (gI L) k)

set_option maxRecDepth 100000 in
set_option maxHeartbeats 400000 in
theorem weight_any (w : World) (b : Nat) (L : List Int) (far : Nat → Nat → Int) (next : Nat → Nat → Nat) (near : Nat → Nat) (hT : Town w b L far next near) (hn : L.length ≤ 8) (hL : ∀ c, c < L.length → 0 ≤ gI L c ∧ gI L c ≤ 9) (corner over : Nat) (hcor : corner < L.length) :
    Calls Try.prog 77 #[.pointer (some ⟨b, 0, none⟩), .int .i64 corner, .int .i64 over] w fun e w' => e = .returned (.tuple #[.int .i64 (sumF (loadIn L next corner over) L.length), .int .i64 (sumF (gI L) L.length)]) ∧ w = w' := by
  obtain ⟨⟨lv, h1, _, a, cap, lb, lo, rfl, ha, hcl⟩, h3, h4, h5, h6⟩ := hT
  have hLin : ∀ c, c < L.length → 0 ≤ loadIn L next corner over c ∧ loadIn L next corner over c ≤ 9 := by
    intro c hc; unfold loadIn; split
    · exact hL c hc
    · omega
  go_enter Try.func77, Try.ntmps77
  go_wp2
  go_loop [15, 6, 7] (WeightRel L next corner over) (fun i _ _ => L.length - (intOf i).toNat)
  case atStart => exact ⟨0, Nat.zero_le _, rfl, rfl, rfl⟩
  case round =>
    obtain ⟨k, hk, rfl, rfl, rfl⟩ := hrel
    by_cases hlt : k < L.length
    · have hcell := hcl k hlt
      obtain rfl : a = some ⟨lb, lo, none⟩ := ha.resolve_left (by omega)
      have hb1 := sumF_bound _ _ hLin k hk
      have hb2 := sumF_bound _ _ hL k hk
      have hb3 := hL k hlt
      have hnc := h4 corner k (by omega) (by omega)
      have hc8 : corner < 8 := by omega
      have hk8 : k < 8 := by omega
      clear hL hLin hcl h3 h4 h5 ha
      by_cases e1 : k = corner
      · have e1' : ((k : Int) != (corner : Int)) = false := by simp; omega
        have E1 := Lib.hid e1
        clear e1
        go_wp2
        go_round
        case rel => exact ⟨k + 1, by omega, by go_num, by simp [sumF, loadIn, inBr, E1.out], by simp [sumF]⟩
        case measure => simp [intOf]; omega
      · have e1' : ((k : Int) != (corner : Int)) = true := by simp; omega
        by_cases e2 : next corner k = over
        · have e2' : ((next corner k : Int) == (over : Int)) = true := by simp; omega
          have E2 := Lib.hid e2
          clear e2
          go_wp2
          go_round
          case rel => exact ⟨k + 1, by omega, by go_num, by simp [sumF, loadIn, inBr, E2.out, e1], by simp [sumF]⟩
          case measure => simp [intOf]; omega
        · have e2' : ((next corner k : Int) == (over : Int)) = false := by simp; omega
          go_wp2
          go_round
          case rel => exact ⟨k + 1, by omega, by go_num, by simp [sumF, loadIn, inBr, e2, e1], by simp [sumF]⟩
          case measure => simp [intOf]; omega
    · obtain rfl : k = L.length := by omega
      go_wp2
      go_ret2
      exact ⟨rfl, rfl⟩

def WayRel (w : World) (n : Nat) (R : List Nat) (go : Nat → List Nat) (f out : Value) (wr : World) : Prop := ∃ (c : Nat) (acc : List Nat), f = .int .i64 c ∧ c < n ∧ acc ++ go c = R ∧ Mine wr w.heap.size 1 out (acc.length + 1) (vals (acc ++ [c])) ∧ Below w.heap.size w wr
def NewList (w : World) (l : List Nat) (e : Ending) (w' : World) : Prop := ∃ r, e = .returned r ∧ Mine w' w.heap.size 1 r l.length (vals l) ∧ Below w.heap.size w w'

set_option maxRecDepth 100000 in
set_option maxHeartbeats 400000 in
theorem townWay (w : World) (b : Nat) (u v n : Nat) (hu : u < n) (hv : v < n) (hn : n ≤ 8) (next : Nat → Nat → Nat) (d : Nat → Nat) (hd : d u ≤ 1000)
   (hc : ∀ c k, c < n → k < n → w.cell? ⟨b, 65 + c * 8 + k, none⟩ = some (.int .i64 (next c k)))
   (hnx : ∀ c, c < n → c ≠ v → next c v < n ∧ d (next c v) < d c) :
    Calls Try.prog 80 #[.pointer (some ⟨b, 0, none⟩), .int .i64 u, .int .i64 v] w (NewList w (wayD next d v u)) := by
  have hbw : b < w.heap.size := World.block_lt_of_cell? w _ (hc u v hu hv)
  have hR : (wayD next d v u).length ≤ 1001 := Nat.le_trans (wayN_length _ _ _ _) (by omega)
  go_enter Try.func80, Try.ntmps80
  go_wp2
  go_loopw [1, 7] (WayRel w n (wayD next d v u) (wayD next d v)) (fun f _ _ => d (intOf f).toNat)
  case atStart => exact ⟨u, [], rfl, hu, by simp, Mine.made _ _ _ _ _ _ (Nat.le_refl _) (by simp [maxLen]) rfl, (Below.refl _ _).alloc (Nat.le_refl _) _⟩
  case round =>
    obtain ⟨c, acc, rfl, hcn, hacc, hm, hb⟩ := hrel
    have HA := Lib.hid hacc
    clear hacc
    by_cases hcv : c = v
    · subst hcv
      go_wp2
      go_ret
      refine ⟨_, rfl, ?_, hb⟩
      have e1 := HA.out
      rw [wayD_to] at e1
      rw [← e1, List.length_append]
      exact hm
    · have hne : ((c : Int) == (v : Int)) = false := by simp; omega
      have hne' : ((c : Int) != (v : Int)) = true := by simp; omega
      obtain ⟨h1, h2⟩ := hnx c hcn hcv
      have hcell := Below.cell hb (p := ⟨b, 65 + c * 8 + v, none⟩) hbw
      rw [hc c v (by omega) (by omega)] at hcell
      have hstep := Lib.hid (wayD_step hnx hcn hcv)
      clear hc hnx
      have hc8 : c < 8 := by omega
      have hlen : acc.length + 1 ≤ 1000000000000 := by
        have e1 := congrArg List.length HA.out
        rw [List.length_append] at e1
        omega
      have hB : w.heap.size ≤ wr.heap.size := hb.size
      go_wp2_with (at_builtin; refine append_int w.heap.size rfl _ _ rfl _ _ _ rfl (hm.alloc _) wr.heap.size 0 1 rfl (next c v) (by simp) hlen (by simp; omega) ?_; intro v' w1 hm1 hg1 _)
      go_roundw
      case rel =>
        refine ⟨next c v, acc ++ [c], rfl, h1, ?_, ?_, ?_⟩
        · rw [List.append_assoc, ← HA.out, hstep.out]
          rfl
        · rw [vals_snoc, List.length_append]
          exact hm1
        · exact (hb.alloc hB _).grown hg1 (by simp; omega) (fun k hk => (hm.lt hk).1)
      case measure => simp [intOf]; omega
end Go.Proofs.Ytkhkgmelicdpkaa
