/- Contracts of the reference's small functions: bounds, members, lanes. -/
import Derived.Test.YtkhkgmelicdpkaaL2
import Derived.Test.YtkhkgmelicdpkaaRa
set_option linter.unusedVariables false
set_option linter.unusedSimpArgs false
namespace Go.Proofs.Ytkhkgmelicdpkaa
open Go.RowKit

set_option maxRecDepth 100000 in
set_option maxHeartbeats 400000 in
theorem in_any (w : World) (n lo hi : Int) : Calls Try.prog 87 #[.int .i64 n, .int .i64 lo, .int .i64 hi] w fun e w' => e = .returned (.bool (decide (lo ≤ n ∧ n ≤ hi))) ∧ w = w' := by
  by_cases h1 : lo ≤ n
  · by_cases h2 : n ≤ hi
    · have HD := Lib.hid (decide_eq_true (show lo ≤ n ∧ n ≤ hi from ⟨h1, h2⟩))
      go_enter Try.func87, Try.ntmps87
      go_wp2
      go_ret
      exact ⟨ret_bool HD.out.symm, rfl⟩
    · have HD := Lib.hid (decide_eq_false (show ¬ (lo ≤ n ∧ n ≤ hi) from fun h => h2 h.2))
      have hd : decide (n ≤ hi) = false := decide_eq_false h2
      go_enter Try.func87, Try.ntmps87
      go_wp2
      go_ret
      exact ⟨rfl, rfl⟩
  · have HD := Lib.hid (decide_eq_false (show ¬ (lo ≤ n ∧ n ≤ hi) from fun h => h1 h.1))
    have hd : decide (lo ≤ n) = false := decide_eq_false h1
    go_enter Try.func87, Try.ntmps87
    go_wp2
    go_ret
    exact ⟨rfl, rfl⟩

def HasRel (L : List Int) (x : Int) (i : Value) : Prop := ∃ k : Nat, k ≤ L.length ∧ i = .int .i64 k ∧ ∀ j, j < k → ¬ gI L j = x
set_option maxRecDepth 100000 in
set_option maxHeartbeats 400000 in
theorem has_any (w : World) (v : Value) (L : List Int) (x : Int) (hv : Ints w v L) :
    Calls Try.prog 73 #[v, .int .i64 x] w fun e w' => e = .returned (.bool (decide (x ∈ L))) ∧ w = w' := by
  obtain ⟨hbig, a, cap, b, off, rfl, ha, hc⟩ := hv
  go_enter Try.func73, Try.ntmps73
  go_wp2
  go_loop [5] (HasRel L x) (fun i => L.length - (intOf i).toNat)
  case atStart => exact ⟨0, Nat.zero_le _, rfl, fun j hj => by omega⟩
  case round =>
    obtain ⟨k, hk, rfl, hno⟩ := hrel
    have HN := Lib.hid hno
    clear hno
    by_cases hlt : k < L.length
    · have hcell := hc k hlt
      obtain rfl : a = some ⟨b, off, none⟩ := ha.resolve_left (by omega)
      clear hc ha
      by_cases hx : gI L k = x
      · have hx1 : (gI L k == x) = true := by simp [hx]
        have HX := Lib.hid hx
        clear hx
        go_wp2
        go_ret
        exact ⟨ret_bool (decide_eq_true (mem_gI.2 ⟨k, hlt, HX.out⟩)).symm, rfl⟩
      · have hx1 : (gI L k == x) = false := by simp; exact hx
        have HX := Lib.hid hx
        clear hx
        go_wp2
        go_round
        case rel => exact ⟨k + 1, by omega, by go_num, fun j hj => by
          rcases Nat.lt_or_ge j k with h | h
          · exact HN.out j h
          · obtain rfl : j = k := by omega
            exact HX.out⟩
        case measure => simp [intOf]; omega
    · obtain rfl : k = L.length := by omega
      go_wp2
      go_ret
      refine ⟨ret_bool (decide_eq_false (fun h => ?_)).symm, rfl⟩
      obtain ⟨i, hi, e⟩ := mem_gI.1 h
      exact absurd e (HN.out i hi)

/-! ### lanes -/
/-- The lane of two corners, as the reference looks for it. -/
def hitB (N : List Lane) (a b : Int) (j : Nat) : Bool := decide ((getT N j).1 = min a b) && decide ((getT N j).2.1 = max a b)
def laneF (N : List Lane) (a b : Int) : Int := match (List.range N.length).find? (hitB N a b) with
  | some j => (getT N j).2.2
  | none => 0
theorem find_first {p : Nat → Bool} {n k : Nat} (hk : k < n) (hp : p k = true) (h : ∀ j, j < k → p j = false) : (List.range n).find? p = some k := by
  rw [List.find?_range_eq_some]
  exact ⟨hp, List.mem_range.2 hk, fun j hj => by rw [h j hj]; rfl⟩
theorem find_none {p : Nat → Bool} {n : Nat} (h : ∀ j, j < n → p j = false) : (List.range n).find? p = none := by
  rw [List.find?_eq_none]
  intro j hj
  rw [h j (List.mem_range.1 hj)]
  simp
theorem laneF_at {N : List Lane} {a b : Int} {k : Nat} (hk : k < N.length) (hp : hitB N a b k = true) (h : ∀ j, j < k → hitB N a b j = false) : laneF N a b = (getT N k).2.2 := by
  unfold laneF
  rw [find_first hk hp h]
theorem laneF_none {N : List Lane} {a b : Int} (h : ∀ j, j < N.length → hitB N a b j = false) : laneF N a b = 0 := by
  unfold laneF
  rw [find_none h]
theorem laneF_cases (N : List Lane) (a b : Int) : (∃ k, k < N.length ∧ hitB N a b k = true ∧ (∀ j, j < k → hitB N a b j = false) ∧ laneF N a b = (getT N k).2.2) ∨ ((∀ j, j < N.length → hitB N a b j = false) ∧ laneF N a b = 0) := by
  cases h : (List.range N.length).find? (hitB N a b) with
  | none =>
    right
    rw [List.find?_eq_none] at h
    have hn : ∀ j, j < N.length → hitB N a b j = false := fun j hj => by
      have := h j (List.mem_range.2 hj)
      simpa using this
    exact ⟨hn, laneF_none hn⟩
  | some k =>
    left
    rw [List.find?_range_eq_some] at h
    obtain ⟨h1, h2, h3⟩ := h
    have h3' : ∀ j, j < k → hitB N a b j = false := fun j hj => by have := h3 j hj; simpa using this
    exact ⟨k, List.mem_range.1 h2, h1, h3', laneF_at (List.mem_range.1 h2) h1 h3'⟩
theorem hit_joins {n : Nat} {N : List Lane} (hG : Good n N N.length) {x y j : Nat} (hj : j < N.length) : hitB N x y j = true ↔ joins (getT N j) x y := by
  obtain ⟨p, q, hp, hq, hpq, hqn, h1, h2⟩ := hG j hj
  unfold hitB joins
  rw [hp, hq]
  simp only [Bool.and_eq_true, decide_eq_true_eq]
  omega
theorem laneF_pos {n : Nat} {N : List Lane} (hG : Good n N N.length) (x y : Nat) : 0 < laneF N x y ↔ Adj N x y := by
  rw [adj_iff hG]
  rcases laneF_cases N x y with ⟨k, hk, h1, h2, e⟩ | ⟨hno, e⟩
  · rw [e]
    obtain ⟨p, q, hp, hq, hpq, hqn, g1, g2⟩ := hG k hk
    exact ⟨fun _ => ⟨k, hk, (hit_joins hG hk).1 h1⟩, fun _ => by omega⟩
  · rw [e]
    refine ⟨fun h => by omega, fun ⟨j, hj, hjj⟩ => ?_⟩
    have := hno j hj
    rw [(hit_joins hG hj).2 hjj] at this
    cases this
theorem laneF_zero {n : Nat} {N : List Lane} (hG : Good n N N.length) (x y : Nat) : laneF N x y = 0 ↔ ¬ Adj N x y := by
  rw [← laneF_pos hG]
  rcases laneF_cases N x y with ⟨k, hk, h1, h2, e⟩ | ⟨hno, e⟩
  · rw [e]
    obtain ⟨p, q, hp, hq, hpq, hqn, g1, g2⟩ := hG k hk
    omega
  · omega
theorem laneF_len {n : Nat} {N : List Lane} {far : Nat → Nat → Int} {next : Nat → Nat → Nat} (hN : N.length + 1 = n) (hn : 0 < n) (hG : Good n N N.length) (hR : AllRooted n N far next) (x y : Nat) : laneF N x y = lenK N N.length x y := by
  rcases laneF_cases N x y with ⟨k, hk, h1, h2, e⟩ | ⟨hno, e⟩
  · rw [e]
    exact (len_found hG (fun i j hi hj g1 g2 => lane_uniq hN hn hG hR hi hj g1 g2) hk ((hit_joins hG hk).1 h1)).symm
  · rw [e]
    refine (len_none hG (fun j hj hjj => ?_)).symm
    have := hno j hj
    rw [(hit_joins hG hj).2 hjj] at this
    cases this
def LaneFRel (w1 : World) (N : List Lane) (a b : Int) (iv : Value) (wr : World) : Prop :=
  ∃ k : Nat, k ≤ N.length ∧ iv = .int .i64 (k : Int) ∧ (∀ j, j < k → hitB N a b j = false) ∧ Below w1.heap.size w1 wr
theorem lane_next {N : List Lane} {a b : Int} {k : Nat} (h : ∀ j, j < k → hitB N a b j = false) (hk : hitB N a b k = false) : ∀ j, j < k + 1 → hitB N a b j = false := fun j hj => by
  rcases Nat.lt_or_ge j k with h' | h'
  · exact h j h'
  · obtain rfl : j = k := by omega
    exact hk
set_option maxRecDepth 100000 in
set_option maxHeartbeats 2000000 in
theorem lane_any (w : World) (m : Value) (L : List Int) (N : List Lane) (a b : Int) (hm : Mkt w m L N) :
    Calls Try.prog 75 #[m, .int .i64 a, .int .i64 b] w (Ret w (.int .i64 (laneF N a b))) := by
  obtain ⟨lv, nv, rfl, hl, hN⟩ := hm
  obtain ⟨_, xa, xc, xb, xo, rfl, _, _⟩ := hl
  obtain ⟨_, na, nc, nb, no, rfl, hna, hc⟩ := hN
  go_enter Try.func75, Try.ntmps75
  go_wp2
  have HB := Lib.hid (Below.one (w := w) (.cells #[.slice xa L.length xc, .slice na N.length nc] 28))
  go_loopw [7] (LaneFRel (w.alloc (.cells #[.slice xa L.length xc, .slice na N.length nc] 28)) N a b) (fun i _ => N.length - (intOf i).toNat)
  case atStart => exact ⟨0, Nat.zero_le _, rfl, fun j hj => by omega, Below.refl _ _⟩
  case round =>
    obtain ⟨k, hk, rfl, hno, hb⟩ := hrel
    have HN := Lib.hid hno
    have hnv : wr.cell? ⟨w.heap.size, 1, none⟩ = some (.slice na N.length nc) := Below.cellOf hb (by simp)
    have Hb := Lib.hid hb
    clear hno hb
    by_cases hlt : k < N.length
    · obtain ⟨hc0, hc1, hc2⟩ := hc k hlt
      have hw := HB.out.trans (Hb.out.mono HB.out.size)
      replace hc0 := Below.cellOf hw hc0
      replace hc1 := Below.cellOf hw hc1
      replace hc2 := Below.cellOf hw hc2
      obtain rfl : na = some ⟨nb, no, none⟩ := hna.resolve_left (by omega)
      clear hc hna hw
      have tri : (a < b ∧ min a b = a ∧ max a b = b) ∨ (a = b ∧ min a b = a ∧ max a b = a) ∨ (b < a ∧ min a b = b ∧ max a b = a) := by omega
      have hunf : hitB N a b k = (decide ((getT N k).1 = min a b) && decide ((getT N k).2.1 = max a b)) := rfl
      rcases tri with ⟨t1, t2, t3⟩ | ⟨t1, t2, t3⟩ | ⟨t1, t2, t3⟩
      · skip
        rw [t2, t3] at hunf
        clear t2 t3
        by_cases h1 : (getT N k).1 = a
        · by_cases h2 : (getT N k).2.1 = b
          · have HH := Lib.hid (show hitB N a b k = true by rw [hunf]; simp [h1, h2])
            have e1 : ((getT N k).1 == a) = true := by simp [h1]
            have e2 : ((getT N k).2.1 == b) = true := by simp [h2]
            clear h1 h2 hunf
            go_wp2
            go_ret
            exact ⟨ret_int (laneF_at hlt HH.out HN.out).symm, HB.out.trans (Hb.out.mono HB.out.size)⟩
          · have HH := Lib.hid (show hitB N a b k = false by rw [hunf]; simp [h2])
            have e1 : ((getT N k).1 == a) = true := by simp [h1]
            have e2 : ((getT N k).2.1 == b) = false := by simp [h2]
            clear h1 h2 hunf
            go_wp2
            go_roundw
            case rel => exact ⟨k + 1, by omega, by go_num, lane_next HN.out HH.out, Hb.out⟩
            case measure => simp [intOf]; omega
        · have HH := Lib.hid (show hitB N a b k = false by rw [hunf]; simp [h1])
          have e1 : ((getT N k).1 == a) = false := by simp [h1]
          clear h1 hunf
          go_wp2
          go_roundw
          case rel => exact ⟨k + 1, by omega, by go_num, lane_next HN.out HH.out, Hb.out⟩
          case measure => simp [intOf]; omega
      · subst t1
        rw [t2, t3] at hunf
        clear t2 t3
        by_cases h1 : (getT N k).1 = a
        · by_cases h2 : (getT N k).2.1 = a
          · have HH := Lib.hid (show hitB N a a k = true by rw [hunf]; simp [h1, h2])
            have e1 : ((getT N k).1 == a) = true := by simp [h1]
            have e2 : ((getT N k).2.1 == a) = true := by simp [h2]
            clear h1 h2 hunf
            go_wp2
            go_ret
            exact ⟨ret_int (laneF_at hlt HH.out HN.out).symm, HB.out.trans (Hb.out.mono HB.out.size)⟩
          · have HH := Lib.hid (show hitB N a a k = false by rw [hunf]; simp [h2])
            have e1 : ((getT N k).1 == a) = true := by simp [h1]
            have e2 : ((getT N k).2.1 == a) = false := by simp [h2]
            clear h1 h2 hunf
            go_wp2
            go_roundw
            case rel => exact ⟨k + 1, by omega, by go_num, lane_next HN.out HH.out, Hb.out⟩
            case measure => simp [intOf]; omega
        · have HH := Lib.hid (show hitB N a a k = false by rw [hunf]; simp [h1])
          have e1 : ((getT N k).1 == a) = false := by simp [h1]
          clear h1 hunf
          go_wp2
          go_roundw
          case rel => exact ⟨k + 1, by omega, by go_num, lane_next HN.out HH.out, Hb.out⟩
          case measure => simp [intOf]; omega
      · skip
        rw [t2, t3] at hunf
        clear t2 t3
        by_cases h1 : (getT N k).1 = b
        · by_cases h2 : (getT N k).2.1 = a
          · have HH := Lib.hid (show hitB N a b k = true by rw [hunf]; simp [h1, h2])
            have e1 : ((getT N k).1 == b) = true := by simp [h1]
            have e2 : ((getT N k).2.1 == a) = true := by simp [h2]
            clear h1 h2 hunf
            go_wp2
            go_ret
            exact ⟨ret_int (laneF_at hlt HH.out HN.out).symm, HB.out.trans (Hb.out.mono HB.out.size)⟩
          · have HH := Lib.hid (show hitB N a b k = false by rw [hunf]; simp [h2])
            have e1 : ((getT N k).1 == b) = true := by simp [h1]
            have e2 : ((getT N k).2.1 == a) = false := by simp [h2]
            clear h1 h2 hunf
            go_wp2
            go_roundw
            case rel => exact ⟨k + 1, by omega, by go_num, lane_next HN.out HH.out, Hb.out⟩
            case measure => simp [intOf]; omega
        · have HH := Lib.hid (show hitB N a b k = false by rw [hunf]; simp [h1])
          have e1 : ((getT N k).1 == b) = false := by simp [h1]
          clear h1 hunf
          go_wp2
          go_roundw
          case rel => exact ⟨k + 1, by omega, by go_num, lane_next HN.out HH.out, Hb.out⟩
          case measure => simp [intOf]; omega
    · obtain rfl : k = N.length := by omega
      go_wp2
      go_ret
      exact ⟨ret_int (laneF_none HN.out).symm, HB.out.trans (Hb.out.mono HB.out.size)⟩
end Go.Proofs.Ytkhkgmelicdpkaa
