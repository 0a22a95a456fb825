/- Contracts of the law's helpers: sum, cost, branch over the distances by value. -/
import Derived.Test.YtkhkgmelicdpkaaS
set_option linter.unusedVariables false
set_option linter.unusedSimpArgs false
namespace Go.Proofs.Ytkhkgmelicdpkaa
open Go.RowKit

/-- Distances by value. -/
def FarV (v : Value) (far : Nat → Nat → Int) : Prop := ∃ fv : Array Value, v = .agg fv ∧ fv.size = 64 ∧ ∀ c k, c < 8 → k < 8 → fv[c * 8 + k]? = some (.int .i64 (far c k))

theorem sumF_abs (f : Nat → Int) (B : Int) (n : Nat) (h : ∀ k, k < n → -B ≤ f k ∧ f k ≤ B) : ∀ k, k ≤ n → -(B * k) ≤ sumF f k ∧ sumF f k ≤ B * k := by
  intro k
  induction k with
  | zero => intro _; simp [sumF]
  | succ k ih =>
    intro hk
    have h1 := ih (by omega)
    have h2 := h k (by omega)
    have e : B * ((k + 1 : Nat) : Int) = B * k + B := by rw [Int.natCast_add, Int.mul_add]; simp
    rw [e]
    simp only [sumF]
    omega

def SumRel (L : List Int) (i s : Value) : Prop := ∃ k : Nat, k ≤ L.length ∧ i = .int .i64 k ∧ s = .int .i64 (sumF (gI L) k)
set_option maxRecDepth 100000 in
set_option maxHeartbeats 400000 in
/-- sum(l), of at most eight numbers below a thousand. -/
theorem sum_any (w : World) (v : Value) (L : List Int) (hv : Ints w v L) (hn : L.length ≤ 8) (hL : ∀ c, c < L.length → 0 ≤ gI L c ∧ gI L c ≤ 9) :
    Calls Try.prog 38 #[v] w fun e w' => e = .returned (.int .i64 (sumF (gI L) L.length)) ∧ w = w' := by
  obtain ⟨_, a, cap, b, off, rfl, ha, hc⟩ := hv
  go_enter Try.func38, Try.ntmps38
  go_wp2
  go_loop [8, 3] (SumRel L) (fun i _ => L.length - (intOf i).toNat)
  case atStart => exact ⟨0, Nat.zero_le _, rfl, rfl⟩
  case round =>
    obtain ⟨k, hk, rfl, rfl⟩ := hrel
    by_cases hlt : k < L.length
    · have hcell := hc k hlt
      obtain rfl : a = some ⟨b, off, none⟩ := ha.resolve_left (by omega)
      have hb1 := sumF_bound _ _ hL k hk
      have hb3 := hL k hlt
      clear hL hc ha
      go_wp2
      go_round
      case rel => exact ⟨k + 1, by omega, by go_num, by simp [sumF]⟩
      case measure => simp [intOf]; omega
    · obtain rfl : k = L.length := by omega
      go_wp2
      go_ret
      exact ⟨rfl, rfl⟩

/-- What a corner's load costs. -/
def farLoad (L : List Int) (far : Nat → Nat → Int) (corner c : Nat) : Int := gI L c * far c corner
theorem farLoad_bound {L : List Int} {far : Nat → Nat → Int} {corner : Nat} (hL : ∀ c, c < L.length → 0 ≤ gI L c ∧ gI L c ≤ 9) (hF : ∀ c, c < L.length → 0 ≤ far c corner ∧ far c corner ≤ 72) : ∀ c, c < L.length → 0 ≤ farLoad L far corner c ∧ farLoad L far corner c ≤ 648 := by
  intro c hc
  have h1 := hL c hc
  have h2 := hF c hc
  unfold farLoad
  refine ⟨Int.mul_nonneg h1.1 h2.1, ?_⟩
  have := Int.mul_le_mul h1.2 h2.2 h2.1 (by omega)
  omega
theorem sumF_le (f : Nat → Int) (B : Int) (n : Nat) (h : ∀ k, k < n → 0 ≤ f k ∧ f k ≤ B) : ∀ k, k ≤ n → 0 ≤ sumF f k ∧ sumF f k ≤ B * k := by
  intro k
  induction k with
  | zero => intro _; simp [sumF]
  | succ k ih =>
    intro hk
    have h1 := ih (by omega)
    have h2 := h k (by omega)
    have e : B * ((k + 1 : Nat) : Int) = B * k + B := by rw [Int.natCast_add, Int.mul_add]; simp
    rw [e]
    simp only [sumF]
    omega
def LCostRel (L : List Int) (far : Nat → Nat → Int) (corner : Nat) (i s : Value) : Prop := ∃ k : Nat, k ≤ L.length ∧ i = .int .i64 k ∧ s = .int .i64 (sumF (farLoad L far corner) k)
set_option maxRecDepth 100000 in
set_option maxHeartbeats 1000000 in
theorem lcost_any (w : World) (m fv : Value) (L : List Int) (N : List Lane) (far : Nat → Nat → Int) (corner : Nat) (hm : Mkt w m L N) (hf : FarV fv far) (hn : L.length ≤ 8) (hcor : corner < L.length)
    (hL : ∀ c, c < L.length → 0 ≤ gI L c ∧ gI L c ≤ 9) (hF : ∀ c, c < L.length → 0 ≤ far c corner ∧ far c corner ≤ 72) :
    Calls Try.prog 41 #[m, fv, .int .i64 corner] w fun e w' => e = .returned (.int .i64 (sumF (farLoad L far corner) L.length)) ∧ Below w.heap.size w w' := by
  obtain ⟨lv, nv, rfl, hl, hN⟩ := hm
  have HL := Lib.hid hl
  obtain ⟨_, a, cap, b, off, rfl, ha, hc⟩ := hl
  obtain ⟨fa, rfl, hsz, hfa⟩ := hf
  have hB := Lib.hid (sumF_le _ _ _ (farLoad_bound hL hF))
  have hbb : L.length = 0 ∨ b < w.heap.size := by
    rcases Nat.eq_zero_or_pos L.length with h | h
    · exact .inl h
    · exact .inr (World.block_lt_of_cell? w _ (hc 0 h))
  go_enter Try.func41, Try.ntmps41
  go_wp2
  go_loop [13, 7] (LCostRel L far corner) (fun i _ => L.length - (intOf i).toNat)
  case atStart => exact ⟨0, Nat.zero_le _, rfl, rfl⟩
  case round =>
    obtain ⟨k, hk, rfl, rfl⟩ := hrel
    by_cases hlt : k < L.length
    · have hcell := hc k hlt
      obtain rfl : a = some ⟨b, off, none⟩ := ha.resolve_left (by omega)
      have hb1 := hB.out k hk
      have hb2 : 0 ≤ gI L k * far k corner ∧ gI L k * far k corner ≤ 648 := farLoad_bound hL hF k hlt
      have hb3 := hL k hlt
      have hb4 := hF k hlt
      have hfc := hfa k corner (by omega) (by omega)
      have hc8 : corner < 8 := by omega
      have hk8 : k < 8 := by omega
      have hlt0 : b < w.heap.size := by omega
      have hne0 : ¬ (b = w.heap.size) := by omega
      have hne1 : ¬ (b = w.heap.size + 1) := by omega
      clear hL hF hc ha hfa
      go_wp2
      go_round
      case rel => exact ⟨k + 1, by omega, by go_num, by simp [sumF, farLoad]⟩
      case measure => simp [intOf]; omega
    · obtain rfl : k = L.length := by omega
      go_wp2
      go_ret
      exact ⟨rfl, ((Below.refl _ w).alloc (Nat.le_refl _) _).alloc (by simp) _⟩
/-- Is a corner nearer to one than to another? -/
def nearerB (far : Nat → Nat → Int) (over corner c : Nat) : Bool := decide (far c over < far c corner)
def nearLoad (L : List Int) (far : Nat → Nat → Int) (over corner c : Nat) : Int := if nearerB far over corner c then gI L c else 0
theorem nearLoad_bound {L : List Int} {far : Nat → Nat → Int} {over corner : Nat} (hL : ∀ c, c < L.length → 0 ≤ gI L c ∧ gI L c ≤ 9) : ∀ c, c < L.length → 0 ≤ nearLoad L far over corner c ∧ nearLoad L far over corner c ≤ 9 := by
  intro c hc; unfold nearLoad; split
  · exact hL c hc
  · omega
def LBrRel (w1 : World) (L : List Int) (far : Nat → Nat → Int) (over corner : Nat) (iv out s : Value) (wr : World) : Prop :=
  ∃ k : Nat, k ≤ L.length ∧ iv = .int .i64 (k : Int) ∧ s = .int .i64 (sumF (nearLoad L far over corner) k) ∧ Mine wr w1.heap.size 1 out ((List.range k).filter (nearerB far over corner)).length (vals ((List.range k).filter (nearerB far over corner))) ∧ Below w1.heap.size w1 wr
theorem lbr_yes {w1 wr w2 w' : World} {L : List Int} {far : Nat → Nat → Int} {over corner k : Nat} {out v' : Value} (hk : k < L.length) (hp : far k over < far k corner) (hm : Mine wr w1.heap.size 1 out ((List.range k).filter (nearerB far over corner)).length (vals ((List.range k).filter (nearerB far over corner)))) (hb : Below w1.heap.size w1 wr) (hs : Below wr.heap.size wr w2)
    (hm' : Mine w' w1.heap.size 1 v' (((List.range k).filter (nearerB far over corner)).length + 1) (vals ((List.range k).filter (nearerB far over corner)) ++ [.int .i64 (k : Int)])) (hg : w2.grownBy w' out.ownBlock) :
    LBrRel w1 L far over corner (.int .i64 ((k : Int) + 1)) v' (.int .i64 (sumF (nearLoad L far over corner) k + gI L k)) w' := by
  have hp' : nearerB far over corner k = true := by simp [nearerB, hp]
  obtain ⟨j, h1, h2, h3, h4⟩ := filt_yes (n := L.length) hk hp' hm hb hs hm' hg
  obtain rfl : j = k + 1 := by
    simp only [Value.int.injEq] at h2
    omega
  exact ⟨k + 1, h1, h2, by simp [sumF, nearLoad, hp'], h3, h4⟩
theorem lbr_no {w1 wr w' : World} {L : List Int} {far : Nat → Nat → Int} {over corner k : Nat} {out : Value} (hk : k < L.length) (hp : ¬ far k over < far k corner) (hm : Mine wr w1.heap.size 1 out ((List.range k).filter (nearerB far over corner)).length (vals ((List.range k).filter (nearerB far over corner)))) (hb : Below w1.heap.size w1 wr) (hs : Below wr.heap.size wr w') :
    LBrRel w1 L far over corner (.int .i64 ((k : Int) + 1)) out (.int .i64 (sumF (nearLoad L far over corner) k)) w' := by
  have hp' : nearerB far over corner k = false := by simp [nearerB, hp]
  obtain ⟨j, h1, h2, h3, h4⟩ := filt_no (n := L.length) hk hp' hm hb hs
  obtain rfl : j = k + 1 := by
    simp only [Value.int.injEq] at h2
    omega
  exact ⟨k + 1, h1, h2, by simp [sumF, nearLoad, hp'], h3, h4⟩
set_option maxRecDepth 100000 in
set_option maxHeartbeats 2000000 in
theorem lbranch_any (w : World) (m fv : Value) (L : List Int) (N : List Lane) (far : Nat → Nat → Int) (corner over : Nat) (hm : Mkt w m L N) (hf : FarV fv far) (hn : L.length ≤ 8) (hcor : corner < L.length) (hov : over < L.length)
    (hL : ∀ c, c < L.length → 0 ≤ gI L c ∧ gI L c ≤ 9) :
    Calls Try.prog 40 #[m, fv, .int .i64 corner, .int .i64 over] w (RetList w ((List.range L.length).filter (nearerB far over corner)) (sumF (nearLoad L far over corner) L.length)) := by
  obtain ⟨lv, nv, rfl, hl, hN⟩ := hm
  obtain ⟨_, a, cap, b, off, rfl, ha, hc⟩ := hl
  obtain ⟨fa, rfl, hsz, hfa⟩ := hf
  have hB := Lib.hid (sumF_bound _ _ (nearLoad_bound (far := far) (over := over) (corner := corner) hL))
  have hbb : L.length = 0 ∨ b < w.heap.size := by
    rcases Nat.eq_zero_or_pos L.length with h | h
    · exact .inl h
    · exact .inr (World.block_lt_of_cell? w _ (hc 0 h))
  go_enter Try.func40, Try.ntmps40
  go_wp2
  have hB2 : Below w.heap.size w ((w.alloc (.cells #[.slice a L.length cap, nv] 25)).alloc (.cells fa 54)) := ((Below.refl _ w).alloc (Nat.le_refl _) _).alloc (by simp) _
  have HB2 := Lib.hid hB2
  clear hB2
  go_loopw [17, 10, 11] (LBrRel ((w.alloc (.cells #[.slice a L.length cap, nv] 25)).alloc (.cells fa 54)) L far over corner) (fun i _ _ _ => L.length - (intOf i).toNat)
  case atStart => exact ⟨0, Nat.zero_le _, rfl, rfl, Mine.nil _ _ _, Below.refl _ _⟩
  case round =>
    obtain ⟨k, hk, rfl, rfl, hm, hb⟩ := hrel
    have Hm := Lib.hid hm
    have Hb := Lib.hid hb
    clear hm hb
    by_cases hlt : k < L.length
    · have hcell := Below.cellOf (HB2.out.trans (Hb.out.mono HB2.out.size)) (hc k hlt)
      obtain rfl : a = some ⟨b, off, none⟩ := ha.resolve_left (by omega)
      have hb1 := hB.out k hk
      have hb3 := hL k hlt
      have hf1 : wr.cell? ⟨w.heap.size + 1, k * 8 + over, none⟩ = some (.int .i64 (far k over)) := (Hb.out.cell (p := ⟨w.heap.size + 1, k * 8 + over, none⟩) (by simp)).trans (by simp; exact hfa k over (by omega) (by omega))
      have hf2 : wr.cell? ⟨w.heap.size + 1, k * 8 + corner, none⟩ = some (.int .i64 (far k corner)) := (Hb.out.cell (p := ⟨w.heap.size + 1, k * 8 + corner, none⟩) (by simp)).trans (by simp; exact hfa k corner (by omega) (by omega))
      have hc8 : corner < 8 := by omega
      have ho8 : over < 8 := by omega
      have hk8 : k < 8 := by omega
      have hfl := filt_len (nearerB far over corner) k
      have hsm : ((List.range k).filter (nearerB far over corner)).length ≤ 1000000000000 := by omega
      have hBs : ((w.alloc (.cells #[.slice (some ⟨b, off, none⟩) L.length cap, nv] 25)).alloc (.cells fa 54)).heap.size ≤ wr.heap.size := Hb.out.size
      clear hL hc ha hfa
      by_cases hp : far k over < far k corner
      · go_wp2
        go_quiet (fail)
        go_wp2_with (first | (at_builtin; refine append_int ((w.alloc (.cells #[.slice (some ⟨b, off, none⟩) L.length cap, nv] 25)).alloc (.cells fa 54)).heap.size rfl _ _ rfl _ _ _ rfl (by exact (Hm.out.below (below_drewN (Below.refl _ _) _)).alloc _) wr.heap.size 0 1 rfl (k : Int) (by exact new_cell _ _ _) hsm (by exact Nat.le_trans hBs (new_size _ _)) ?_; intro v' w3 hm3 hg3 _))
        go_roundw
        case rel => exact lbr_yes hlt hp Hm.out Hb.out ((below_drewN (Below.refl _ _) _).alloc (Nat.le_refl _) _) hm3 hg3
        case measure => simp [intOf]; omega
      · go_wp2
        go_quiet (fail)
        go_wp2
        go_roundw
        case rel => exact lbr_no hlt (by omega) Hm.out Hb.out (below_drewN (Below.refl _ _) _)
        case measure => simp [intOf]; omega
    · obtain rfl : k = L.length := by omega
      go_wp2
      go_ret2
      exact ⟨_, rfl, Hm.out.base HB2.out.size, HB2.out.trans (Hb.out.mono HB2.out.size)⟩
end Go.Proofs.Ytkhkgmelicdpkaa
