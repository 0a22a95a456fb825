/- Contracts of package tip: heavy branches, costs, radii over a town in memory. -/
import Derived.Test.YtkhkgmelicdpkaaB
set_option linter.unusedVariables false
set_option linter.unusedSimpArgs false
namespace Go.Proofs.Ytkhkgmelicdpkaa
open Go.RowKit

/-- The first number below n with p, or -1. -/
def firstF (p : Nat → Bool) (n : Nat) : Int := match (List.range n).find? p with | some c => (c : Int) | none => -1
theorem firstF_at {p : Nat → Bool} {n k : Nat} (hk : k < n) (h : ∀ j, j < k → p j = false) (hp : p k = true) : firstF p n = k := by
  unfold firstF
  have : (List.range n).find? p = some k := by
    rw [List.find?_range_eq_some]
    exact ⟨hp, by simpa using hk, fun j hj => by rw [h j hj]; rfl⟩
  rw [this]
theorem firstF_none {p : Nat → Bool} {n : Nat} (h : ∀ j, j < n → p j = false) : firstF p n = -1 := by
  unfold firstF
  have : (List.range n).find? p = none := by
    rw [List.find?_range_eq_none]
    intro j hj; rw [h j hj]; rfl
  rw [this]

theorem loadIn_bound {L : List Int} {next : Nat → Nat → Nat} {corner over : Nat} (hL : ∀ c, c < L.length → 0 ≤ gI L c ∧ gI L c ≤ 9) : ∀ c, c < L.length → 0 ≤ loadIn L next corner over c ∧ loadIn L next corner over c ≤ 9 := by
  intro c hc; unfold loadIn; split
  · exact hL c hc
  · omega
def heavyB (L : List Int) (next : Nat → Nat → Nat) (near : Nat → Nat) (corner c : Nat) : Bool :=
  (near corner).testBit c && decide (sumF (gI L) L.length < 2 * sumF (loadIn L next corner c) L.length)
def HeavyRel (L : List Int) (next : Nat → Nat → Nat) (near : Nat → Nat) (corner : Nat) (i : Value) : Prop := ∃ k : Nat, k ≤ L.length ∧ i = .int .i64 k ∧ (∀ j, j < k → heavyB L next near corner j = false)

set_option maxRecDepth 100000 in
set_option maxHeartbeats 400000 in
theorem heavy_any (w : World) (b : Nat) (L : List Int) (far : Nat → Nat → Int) (next : Nat → Nat → Nat) (near : Nat → Nat) (hT : Town w b L far next near) (hn : L.length ≤ 8) (hL : ∀ c, c < L.length → 0 ≤ gI L c ∧ gI L c ≤ 9) (corner : Nat) (hcor : corner < L.length) :
    Calls Try.prog 67 #[.pointer (some ⟨b, 0, none⟩), .int .i64 corner] w fun e w' => e = .returned (.int .i64 (firstF (heavyB L next near corner) L.length)) ∧ Below w.heap.size w w' := by
  have HT := Lib.hid hT
  obtain ⟨⟨lv, h1, _, a, cap, lb, lo, rfl, ha, hcl⟩, h3, h4, h5, h6⟩ := hT
  have hbw := World.block_lt_of_cell? w _ h1
  have hl8 : (L.length : Int) ≤ 8 := by omega
  have hl0 : (0 : Int) ≤ L.length := by omega
  clear h3 h4 hcl ha
  go_enter Try.func67, Try.ntmps67
  go_wp2
  go_region_held3 (fun w' => w'.cell? ⟨b, 0, none⟩ = some (.slice a L.length cap))
    (first | go_keep | exact Below.cellOf hb1 (by assumption))
    (first | (go_at_call 94; refine (setsAll_any _).mono ?_; rintro e w1 ⟨g, rfl, hbits, hg0, hg1, hb1⟩))
  go_wp2
  have hbw1 : Below w.heap.size w w1 := (Below.refl _ w).drew.trans hb1
  have HT1 := Lib.hid (HT.out.below hbw1)
  go_loop [17] (HeavyRel L next near corner) (fun i => L.length - (intOf i).toNat)
  case atStart => exact ⟨0, Nat.zero_le _, rfl, fun j hj => by omega⟩
  case round =>
    obtain ⟨k, hk, rfl, hno⟩ := hrel
    have HN := Lib.hid hno
    clear hno
    by_cases hlt : k < L.length
    · have hbc := hbits.cell k (by omega)
      have hnc := HT1.out.cNear corner (by omega)
      have hba := bits_and_pow (near corner) k (h6 corner (by omega)) (by omega)
      have HW := Lib.hid (weight_any w1 b L far next near HT1.out hn hL corner k hcor)
      have hcor8 : corner < 8 := by omega
      have hs1 := sumF_bound (gI L) L.length hL _ (Nat.le_refl _)
      have hs2 := sumF_bound (loadIn L next corner k) L.length (loadIn_bound hL) _ (Nat.le_refl _)
      clear hL h5 h6
      by_cases hbit : (near corner).testBit k = true
      · rw [if_pos hbit] at hba
        have hp1 := two_pow_ne k
        by_cases hh : sumF (gI L) L.length < 2 * sumF (loadIn L next corner k) L.length
        · go_wp2_with (go_at_call 77; refine HW.out.mono ?_; rintro e w' ⟨rfl, rfl⟩)
          go_ret
          exact ⟨ret_int (firstF_at hlt HN.out (by simp [heavyB, hbit, hh])).symm, hbw1⟩
        · go_wp2_with (go_at_call 77; refine HW.out.mono ?_; rintro e w' ⟨rfl, rfl⟩)
          go_round
          case rel => exact ⟨k + 1, by omega, by go_num, fun j hj => by
            rcases Nat.lt_or_ge j k with h | h
            · exact HN.out j h
            · obtain rfl : j = k := by omega
              simp [heavyB, hh]⟩
          case measure => simp [intOf]; omega
      · rw [if_neg hbit] at hba
        go_wp2_with (go_at_call 77; refine HW.out.mono ?_; rintro e w' ⟨rfl, rfl⟩)
        go_round
        case rel => exact ⟨k + 1, by omega, by go_num, fun j hj => by
            rcases Nat.lt_or_ge j k with h | h
            · exact HN.out j h
            · obtain rfl : j = k := by omega
              simp [heavyB, hbit]⟩
        case measure => simp [intOf]; omega
    · obtain rfl : k = L.length := by omega
      go_wp2
      go_ret
      exact ⟨ret_int (firstF_none HN.out).symm, hbw1⟩
def nearF (far : Nat → Nat → Int) (m c : Nat) : Nat → Int
  | 0 => 72
  | k + 1 => if m.testBit k then mn (nearF far m c k) (far c k) else nearF far m c k
def costF (L : List Int) (far : Nat → Nat → Int) (m : Nat) : Int := sumF (fun c => gI L c * nearF far m c L.length) L.length
theorem nearF_bound {far : Nat → Nat → Int} {m c n : Nat} (h : ∀ k, k < n → 0 ≤ far c k) : ∀ k, k ≤ n → 0 ≤ nearF far m c k ∧ nearF far m c k ≤ 72 := by
  intro k
  induction k with
  | zero => intro _; simp [nearF]
  | succ k ih =>
    intro hk
    have h1 := ih (by omega)
    have h2 := h k (by omega)
    simp only [nearF, mn]
    split
    · split <;> omega
    · exact h1
theorem sumF_bound' (f : Nat → Int) (B : Int) (n : Nat) (h : ∀ k, k < n → 0 ≤ f k ∧ f k ≤ B) : ∀ k, k ≤ n → 0 ≤ sumF f k ∧ sumF f k ≤ B * k := by
  intro k
  induction k with
  | zero => intro _; simp [sumF]
  | succ k ih =>
    intro hk
    have h1 := ih (by omega)
    have h2 := h k (by omega)
    simp only [sumF]
    refine ⟨by omega, ?_⟩
    rw [Int.natCast_add, Int.mul_add]
    simp
    omega
theorem costTerm_bound {L : List Int} {far : Nat → Nat → Int} {m n : Nat} (hL : ∀ c, c < L.length → 0 ≤ gI L c ∧ gI L c ≤ 9) (h : ∀ c k, c < L.length → k < L.length → 0 ≤ far c k) (c : Nat) (hc : c < L.length) :
    0 ≤ gI L c * nearF far m c L.length ∧ gI L c * nearF far m c L.length ≤ 648 := by
  have h1 := hL c hc
  have h2 := nearF_bound (m := m) (fun k hk => h c k hc hk) L.length (Nat.le_refl _)
  refine ⟨Int.mul_nonneg h1.1 h2.1, ?_⟩
  calc gI L c * nearF far m c L.length ≤ 9 * nearF far m c L.length := Int.mul_le_mul_of_nonneg_right h1.2 h2.1
    _ ≤ 648 := by omega

def CostRel (w : World) (L : List Int) (far : Nat → Nat → Int) (m : Nat) (i n : Value) (wr : World) : Prop := ∃ k : Nat, k ≤ L.length ∧ i = .int .i64 k ∧ n = .int .i64 (sumF (fun c => gI L c * nearF far m c L.length) k) ∧ Below w.heap.size w wr
def NearRel (L : List Int) (far : Nat → Nat → Int) (m c : Nat) (i n : Value) : Prop := ∃ k : Nat, k ≤ L.length ∧ i = .int .i64 k ∧ n = .int .i64 (nearF far m c k)

set_option maxRecDepth 100000 in
set_option maxHeartbeats 800000 in
theorem cost_any (w : World) (b : Nat) (L : List Int) (far : Nat → Nat → Int) (next : Nat → Nat → Nat) (near : Nat → Nat) (hT : Town w b L far next near) (hn : L.length ≤ 8) (hL : ∀ c, c < L.length → 0 ≤ gI L c ∧ gI L c ≤ 9)
    (hfar : ∀ c k, c < L.length → k < L.length → 0 ≤ far c k) (m : Nat) (hm : m < 256) :
    Calls Try.prog 86 #[.pointer (some ⟨b, 0, none⟩), .int .u64 m] w fun e w' => e = .returned (.int .i64 (costF L far m)) ∧ Below w.heap.size w w' := by
  have HT := Lib.hid hT
  obtain ⟨⟨lv, h1, _, a, cap, lb, lo, rfl, ha, hcl⟩, h3, h4, h5, h6⟩ := hT
  have hbw := World.block_lt_of_cell? w _ h1
  have hl8 : (L.length : Int) ≤ 8 := by omega
  have hl0 : (0 : Int) ≤ L.length := by omega
  clear h3 h4 h5 h6
  go_enter Try.func86, Try.ntmps86
  go_wp2
  go_loopw [16, 5] (CostRel w L far m) (fun i _ _ => L.length - (intOf i).toNat)
  case atStart => exact ⟨0, Nat.zero_le _, rfl, rfl, Below.refl _ _⟩
  case round =>
    obtain ⟨k, hk, rfl, rfl, hb⟩ := hrel
    by_cases hlt : k < L.length
    · have hcell := Below.cellOf hb (hcl k hlt)
      have hload := Below.cellOf hb h1
      obtain rfl : a = some ⟨lb, lo, none⟩ := ha.resolve_left (by omega)
      have HSB := sumF_bound' _ 648 _ (costTerm_bound (m := m) hL hfar (n := 0)) k hk
      have HTB := costTerm_bound (m := m) hL hfar (n := 0) k hlt
      have HNB := Lib.hid (fun j hj => nearF_bound (m := m) (c := k) (fun q hq => hfar k q hlt hq) j hj)
      have HT1 := Lib.hid (HT.out.below hb)
      have hk8 : k < 8 := by omega
      clear hcl ha h1 hfar hL
      obtain ⟨wo, rfl⟩ : ∃ wo : World, wo = wr := ⟨_, rfl⟩
      go_wp2
      go_region_held3 (fun w' => w'.cell? ⟨b, 0, none⟩ = some (.slice (some ⟨lb, lo, none⟩) L.length cap))
        (first | go_keep | exact Below.cellOf hb1 (by assumption))
        (first | (go_at_call 94; refine (setsAll_any _).mono ?_; rintro e w1 ⟨g, rfl, hbits, hg0, hg1, hb1⟩))
      go_wp2
      have hbw1 : Below wo.heap.size wo w1 := (Below.refl _ wo).drew.trans hb1
      have HT2 := Lib.hid (HT1.out.below hbw1)
      go_loop [29, 8] (NearRel L far m k) (fun i _ => L.length - (intOf i).toNat)
      case atStart => exact ⟨0, Nat.zero_le _, rfl, rfl⟩
      case round =>
        obtain ⟨j, hj, rfl, rfl⟩ := hrel
        by_cases hjl : j < L.length
        · have hbc := hbits.cell j (by omega)
          have hfc := HT2.out.cFar k j hlt hjl
          have hba := bits_and_pow m j hm (by omega)
          have hj8 : j < 8 := by omega
          by_cases hbit : m.testBit j = true
          · rw [if_pos hbit] at hba
            have hp1 := two_pow_ne j
            by_cases hlt2 : far k j < nearF far m k j
            · go_wp2
              go_round
              case rel => exact ⟨j + 1, by omega, by go_num, by simp [nearF, hbit, mn, hlt2]⟩
              case measure => simp [intOf]; omega
            · go_wp2
              go_round
              case rel => exact ⟨j + 1, by omega, by go_num, by simp [nearF, hbit, mn, hlt2]⟩
              case measure => simp [intOf]; omega
          · rw [if_neg hbit] at hba
            go_wp2
            go_round
            case rel => exact ⟨j + 1, by omega, by go_num, by simp [nearF, hbit]⟩
            case measure => simp [intOf]; omega
        · obtain rfl : j = L.length := by omega
          have HNB' := HNB.out L.length (Nat.le_refl _)
          go_wp2
          go_roundw
          case rel => exact ⟨k + 1, by omega, by go_num, by simp [sumF], hb.trans (hbw1.mono hb.size)⟩
          case measure => simp [intOf]; omega
    · obtain rfl : k = L.length := by omega
      go_wp2
      go_ret
      exact ⟨rfl, hb⟩
def ExtRel (g : (Nat → Int) → Nat → Int) (f : Nat → Int) (n : Nat) (i m : Value) : Prop := ∃ k : Nat, k < n ∧ i = .int .i64 ((k : Int) + 1) ∧ m = .int .i64 (g f k)

set_option maxRecDepth 100000 in
set_option maxHeartbeats 800000 in
theorem max_any (w : World) (b off n cap : Nat) (f : Nat → Int) (hn : n + 1 ≤ 1000000000000) (hc : ∀ k, k < n + 1 → w.cell? ⟨b, off + k, none⟩ = some (.int .i64 (f k))) :
    Calls Try.prog 61 #[.slice (some ⟨b, off, none⟩) (n + 1) cap] w fun e w' => e = .returned (.int .i64 (mxF f n)) ∧ w = w' := by
  have h0 := hc 0 (by omega)
  rw [Nat.add_zero] at h0
  go_enter Try.func61, Try.ntmps61
  go_wp2
  go_loop [4, 3] (ExtRel mxF f (n + 1)) (fun i _ => n + 1 - (intOf i).toNat)
  case atStart => exact ⟨0, by omega, rfl, rfl⟩
  case round =>
    obtain ⟨k, hk, rfl, rfl⟩ := hrel
    by_cases hlt : k < n
    · have hcell := hc (k + 1) (by omega)
      clear hc h0
      by_cases hlt2 : mxF f k < f (k + 1)
      · go_wp2
        go_round
        case rel => exact ⟨k + 1, by omega, by go_num, by simp [mxF, mx, hlt2]⟩
        case measure => simp [intOf]; omega
      · go_wp2
        go_round
        case rel => exact ⟨k + 1, by omega, by go_num, by simp [mxF, mx, hlt2]⟩
        case measure => simp [intOf]; omega
    · obtain rfl : k = n := by omega
      clear hc h0
      go_wp2
      go_ret
      exact ⟨rfl, rfl⟩

set_option maxRecDepth 100000 in
set_option maxHeartbeats 800000 in
theorem min_any (w : World) (b off n cap : Nat) (f : Nat → Int) (hn : n + 1 ≤ 1000000000000) (hc : ∀ k, k < n + 1 → w.cell? ⟨b, off + k, none⟩ = some (.int .i64 (f k))) :
    Calls Try.prog 90 #[.slice (some ⟨b, off, none⟩) (n + 1) cap] w fun e w' => e = .returned (.int .i64 (mnF f n)) ∧ w = w' := by
  have h0 := hc 0 (by omega)
  rw [Nat.add_zero] at h0
  go_enter Try.func90, Try.ntmps90
  go_wp2
  go_loop [4, 3] (ExtRel mnF f (n + 1)) (fun i _ => n + 1 - (intOf i).toNat)
  case atStart => exact ⟨0, by omega, rfl, rfl⟩
  case round =>
    obtain ⟨k, hk, rfl, rfl⟩ := hrel
    by_cases hlt : k < n
    · have hcell := hc (k + 1) (by omega)
      clear hc h0
      by_cases hlt2 : f (k + 1) < mnF f k
      · go_wp2
        go_round
        case rel => exact ⟨k + 1, by omega, by go_num, by simp [mnF, mn, hlt2]⟩
        case measure => simp [intOf]; omega
      · go_wp2
        go_round
        case rel => exact ⟨k + 1, by omega, by go_num, by simp [mnF, mn, hlt2]⟩
        case measure => simp [intOf]; omega
    · obtain rfl : k = n := by omega
      clear hc h0
      go_wp2
      go_ret
      exact ⟨rfl, rfl⟩

set_option maxRecDepth 100000 in
set_option maxHeartbeats 800000 in
theorem radius_any (w : World) (b : Nat) (L : List Int) (far : Nat → Nat → Int) (next : Nat → Nat → Nat) (near : Nat → Nat) (hT : Town w b L far next near) (n : Nat) (hLn : L.length = n + 1) (hn : n + 1 ≤ 8) (corner : Nat) (hcor : corner < n + 1) :
    Calls Try.prog 78 #[.pointer (some ⟨b, 0, none⟩), .int .i64 corner] w fun e w' => e = .returned (.int .i64 (mxF (far corner) n)) ∧ Below w.heap.size w w' := by
  obtain ⟨⟨lv, h1, _, a, cap, lb, lo, rfl, ha, hcl⟩, h3, h4, h5, h6⟩ := hT
  rw [hLn] at h1
  have hF : ∀ k, k < n + 1 → w.cell? ⟨b, 1 + corner * 8 + k, none⟩ = some (.int .i64 (far corner k)) := fun k hk => h3 corner k (by omega) (by omega)
  have HF := Lib.hid hF
  have hc8 : corner < 8 := by omega
  have HLn := Lib.hid hLn
  have i1 : (0 : Int) ≤ (corner : Int) := by omega
  have i2 : (corner : Int) < 8 := by omega
  have i3 : (0 : Int) ≤ (n : Int) + 1 := by omega
  have i4 : (n : Int) + 1 ≤ 8 := by omega
  clear hLn hF h3 h4 h5 h6 ha hcl
  go_enter Try.func78, Try.ntmps78
  go_wp2
  go_region_held3 (fun w' => w'.cell? ⟨b, 0, none⟩ = some (.slice a (n + 1) cap))
    (first | go_keep)
    (first | (go_at_call 61; refine (max_any _ b (1 + corner * 8) n 8 (far corner) (by omega) (by exact fun k hk => HF.out k hk)).mono ?_; rintro e w1 ⟨rfl, rfl⟩))
  go_wp2
  go_ret
  exact ⟨rfl, (Below.refl _ _).drew⟩
end Go.Proofs.Ytkhkgmelicdpkaa
