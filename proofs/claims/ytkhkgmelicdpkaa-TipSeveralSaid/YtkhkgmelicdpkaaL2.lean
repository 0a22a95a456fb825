/- Contracts of the law's helpers: an element's index, whether a list has it, the smallest numbers' indices, a lane's length. -/
import Derived.Test.YtkhkgmelicdpkaaL1
set_option linter.unusedVariables false
set_option linter.unusedSimpArgs false
namespace Go.Proofs.Ytkhkgmelicdpkaa
open Go.RowKit

theorem mem_gI {L : List Int} {x : Int} : x ∈ L ↔ ∃ i, i < L.length ∧ gI L i = x := by
  constructor
  · intro h
    obtain ⟨i, hi, e⟩ := List.mem_iff_getElem.1 h
    exact ⟨i, hi, by simp [gI, hi, e]⟩
  · rintro ⟨i, hi, e⟩
    rw [← e]
    simp [gI, hi]
def IdxRel (L : List Int) (x : Int) (i : Value) : Prop := ∃ k : Nat, k ≤ L.length ∧ i = .int .i64 k ∧ ∀ j, j < k → ¬ gI L j = x
set_option maxRecDepth 100000 in
set_option maxHeartbeats 400000 in
theorem index_any (w : World) (v : Value) (L : List Int) (x : Int) (hv : Ints w v L) :
    Calls Try.prog 91 #[v, .int .i64 x] w fun e w' => ∃ i : Int, e = .returned (.int .i64 i) ∧ w = w' ∧ (0 ≤ i ↔ x ∈ L) := by
  obtain ⟨hbig, a, cap, b, off, rfl, ha, hc⟩ := hv
  go_enter Try.func91, Try.ntmps91
  go_wp2
  go_loop [8] (IdxRel L x) (fun i => L.length - (intOf i).toNat)
  case atStart => exact ⟨0, Nat.zero_le _, rfl, fun j hj => by omega⟩
  case round =>
    obtain ⟨k, hk, rfl, hno⟩ := hrel
    have HN := Lib.hid hno
    clear hno
    by_cases hlt : k < L.length
    · have hcell := hc k hlt
      obtain rfl : a = some ⟨b, off, none⟩ := ha.resolve_left (by omega)
      clear hc ha
      by_cases hx : gI L k = x
      · have hx1 : (x == gI L k) = true := by simp [hx]
        have HX := Lib.hid hx
        clear hx
        go_wp2
        go_ret
        exact ⟨(k : Int), rfl, rfl, ⟨fun _ => mem_gI.2 ⟨k, hlt, HX.out⟩, fun _ => by omega⟩⟩
      · have hx1 : (x == gI L k) = false := by simp; exact fun h => hx h.symm
        have HX := Lib.hid hx
        clear hx
        go_wp2
        go_round
        case rel => exact ⟨k + 1, by omega, by go_num, fun j hj => by
          rcases Nat.lt_or_ge j k with h | h
          · exact HN.out j h
          · obtain rfl : j = k := by omega
            exact HX.out⟩
        case measure => simp [intOf]; omega
    · obtain rfl : k = L.length := by omega
      go_wp2
      go_ret
      refine ⟨-1, rfl, rfl, ⟨fun h => by omega, fun h => ?_⟩⟩
      obtain ⟨i, hi, e⟩ := mem_gI.1 h
      exact absurd e (HN.out i hi)
set_option maxRecDepth 100000 in
set_option maxHeartbeats 400000 in
theorem contains_any (w : World) (v : Value) (L : List Int) (x : Int) (hv : Ints w v L) :
    Calls Try.prog 59 #[v, .int .i64 x] w fun e w' => e = .returned (.bool (decide (x ∈ L))) ∧ w = w' := by
  go_enter Try.func59, Try.ntmps59
  go_wp2_with (go_at_call 91; refine (index_any _ _ L x hv).mono ?_; rintro e w1 ⟨i, rfl, rfl, hi⟩)
  go_ret
  exact ⟨ret_bool (decide_eq_decide.2 Iff.rfl), rfl⟩

/-! ### the smallest -/
def LeastRel (w1 : World) (L : List Int) (iv out : Value) (wr : World) : Prop :=
  ∃ k : Nat, k ≤ L.length ∧ iv = .int .i64 (k : Int) ∧ Mine wr w1.heap.size 1 out ((List.range k).filter (fun i => decide (gI L i = mnF (gI L) (L.length - 1)))).length (vals ((List.range k).filter (fun i => decide (gI L i = mnF (gI L) (L.length - 1))))) ∧ Below w1.heap.size w1 wr
def leastL (L : List Int) : List Nat := (List.range L.length).filter (fun i => decide (gI L i = mnF (gI L) (L.length - 1)))
/-- The call returns a new list. -/
def RetL (w : World) (l : List Nat) (e : Ending) (w' : World) : Prop := ∃ v, e = .returned v ∧ Mine w' w.heap.size 1 v l.length (vals l) ∧ Below w.heap.size w w'
theorem min_ints {w : World} {v : Value} {L : List Int} (hv : Ints w v L) (h0 : 0 < L.length) : Calls Try.prog 90 #[v] w fun e w' => e = .returned (.int .i64 (mnF (gI L) (L.length - 1))) ∧ w = w' := by
  obtain ⟨hbig, a, cap, b, off, rfl, ha, hc⟩ := hv
  obtain rfl : a = some ⟨b, off, none⟩ := ha.resolve_left (by omega)
  have h := min_any w b off (L.length - 1) cap (gI L) (by omega) (fun k hk => hc k (by omega))
  rw [show L.length - 1 + 1 = L.length by omega] at h
  exact h
set_option maxRecDepth 100000 in
set_option maxHeartbeats 1000000 in
theorem least_any (w : World) (v : Value) (L : List Int) (hv : Ints w v L) (h8 : L.length ≤ 1000) :
    Calls Try.prog 57 #[v] w (RetL w (leastL L)) := by
  have HV := Lib.hid hv
  obtain ⟨hbig, a, cap, b, off, rfl, ha, hc⟩ := hv
  go_enter Try.func57, Try.ntmps57
  go_wp2
  go_loopw [8, 3] (LeastRel w L) (fun i _ _ => L.length - (intOf i).toNat)
  case atStart => exact ⟨0, Nat.zero_le _, rfl, Mine.nil _ _ _, Below.refl _ _⟩
  case round =>
    obtain ⟨k, hk, rfl, hm, hb⟩ := hrel
    have Hm := Lib.hid hm
    have Hb := Lib.hid hb
    clear hm hb
    by_cases hlt : k < L.length
    · have hcell := Below.cellOf Hb.out (hc k hlt)
      have HM := Lib.hid (min_ints (HV.out.below Hb.out) (by omega))
      obtain rfl : a = some ⟨b, off, none⟩ := ha.resolve_left (by omega)
      have hfl := filt_len (fun i => decide (gI L i = mnF (gI L) (L.length - 1))) k
      have hsm : ((List.range k).filter (fun i => decide (gI L i = mnF (gI L) (L.length - 1)))).length ≤ 1000000000000 := by omega
      have hBs : w.heap.size ≤ wr.heap.size := Hb.out.size
      clear hc ha
      by_cases hp : gI L k = mnF (gI L) (L.length - 1)
      · have hp1 : (gI L k == mnF (gI L) (L.length - 1)) = true := by simp [hp]
        have HP := Lib.hid hp
        clear hp
        go_wp2_with (first | (go_at_call 90; refine HM.out.mono ?_; rintro e w2 ⟨rfl, rfl⟩) | (at_builtin; refine append_int w.heap.size rfl _ _ rfl _ _ _ rfl (Hm.out.alloc _) wr.heap.size 0 1 rfl (k : Int) (by exact new_cell _ _ _) hsm (by exact Nat.le_trans hBs (new_size _ _)) ?_; intro v' w3 hm3 hg3 _))
        go_roundw
        case rel => exact filt_yes hlt (by simp [HP.out]) Hm.out Hb.out ((Below.refl _ _).alloc (Nat.le_refl _) _) hm3 hg3
        case measure => simp [intOf]; omega
      · have hp1 : (gI L k == mnF (gI L) (L.length - 1)) = false := by simp [hp]
        have HP := Lib.hid hp
        clear hp
        go_wp2_with (go_at_call 90; refine HM.out.mono ?_; rintro e w2 ⟨rfl, rfl⟩)
        go_roundw
        case rel => exact filt_no hlt (by simp [HP.out]) Hm.out Hb.out (Below.refl _ _)
        case measure => simp [intOf]; omega
    · obtain rfl : k = L.length := by omega
      go_wp2
      go_ret
      exact ⟨_, rfl, Hm.out, Hb.out⟩

/-! ### a lane's length -/
def LenRel (w1 : World) (N : List Lane) (a b : Nat) (iv : Value) (wr : World) : Prop :=
  ∃ k : Nat, k ≤ N.length ∧ iv = .int .i64 (k : Int) ∧ (∀ j, j < k → ¬ joins (getT N j) a b) ∧ Below w1.heap.size w1 wr
theorem len_found {n : Nat} {N : List Lane} {a b k : Nat} (hG : Good n N N.length) (hU : ∀ i j, i < N.length → j < N.length → joins (getT N i) a b → joins (getT N j) a b → i = j) (hk : k < N.length) (hj : joins (getT N k) a b) : lenK N N.length a b = (getT N k).2.2 := by
  rcases len_of N.length hG a b with ⟨i, hi, hi1, e⟩ | ⟨hno, _⟩
  · rw [e, hU i k hi hk hi1 hj]
  · exact absurd hj (hno k hk)
theorem len_none {n : Nat} {N : List Lane} {a b : Nat} (hG : Good n N N.length) (hno : ∀ j, j < N.length → ¬ joins (getT N j) a b) : lenK N N.length a b = 0 := by
  rcases len_of N.length hG a b with ⟨i, hi, hi1, e⟩ | ⟨_, e⟩
  · exact absurd hi1 (hno i hi)
  · exact e
set_option maxRecDepth 100000 in
set_option maxHeartbeats 1000000 in
theorem length_ok (w : World) (m : Value) (L : List Int) (N : List Lane) (far : Nat → Nat → Int) (next : Nat → Nat → Nat) (a b : Nat) (hm : Mkt w m L N) (h0 : checkCode L N = 0) (hR : AllRooted L.length N far next) :
    Calls Try.prog 58 #[m, .int .i64 (a : Int), .int .i64 (b : Int)] w (Ret w (.int .i64 (lenK N N.length a b))) := by
  have hV := valid_of h0
  have HV := Lib.hid hV
  have HU := Lib.hid (fun i j (hi : i < N.length) (hj : j < N.length) h1 h2 => lane_uniq (x := a) (y := b) hV.lanes (by have := hV.pos; omega) hV.good hR hi hj h1 h2)
  clear hV h0 hR
  obtain ⟨lv, nv, rfl, hl, hN⟩ := hm
  obtain ⟨_, xa, xc, xb, xo, rfl, _, _⟩ := hl
  obtain ⟨_, na, nc, nb, no, rfl, hna, hc⟩ := hN
  go_enter Try.func58, Try.ntmps58
  go_wp2
  have HB := Lib.hid (Below.one (w := w) (.cells #[.slice xa L.length xc, .slice na N.length nc] 25))
  go_loopw [12] (LenRel (w.alloc (.cells #[.slice xa L.length xc, .slice na N.length nc] 25)) N a b) (fun i _ => N.length - (intOf i).toNat)
  case atStart => exact ⟨0, Nat.zero_le _, rfl, fun j hj => by omega, Below.refl _ _⟩
  case round =>
    obtain ⟨k, hk, rfl, hno, hb⟩ := hrel
    have HN := Lib.hid hno
    have Hb := Lib.hid hb
    clear hno hb
    by_cases hlt : k < N.length
    · obtain ⟨hc0, hc1, hc2⟩ := hc k hlt
      have hw := HB.out.trans (Hb.out.mono HB.out.size)
      replace hc0 := Below.cellOf hw hc0
      replace hc1 := Below.cellOf hw hc1
      replace hc2 := Below.cellOf hw hc2
      obtain ⟨p, q, hp, hq, hpq, hqn, h1, h2⟩ := HV.out.good k hlt
      obtain rfl : na = some ⟨nb, no, none⟩ := hna.resolve_left (by omega)
      rw [hp] at hc0
      rw [hq] at hc1
      clear hc hna hw
      go_wp2
      all_goals (first
        | (go_roundw; (case rel => exact ⟨k + 1, by omega, by go_num, fun j hj => by
            rcases Nat.lt_or_ge j k with h | h
            · exact HN.out j h
            · obtain rfl : j = k := by omega
              intro hjj
              unfold joins at hjj
              rw [hp, hq] at hjj
              try simp only [beq_eq_false_iff_ne, ne_eq, beq_iff_eq] at *
              omega, Hb.out.alloc Hb.out.size _⟩); (case measure => simp [intOf]; omega))
        | (go_ret; exact ⟨ret_int (len_found HV.out.good HU.out hlt (by unfold joins; rw [hp, hq]; (try simp only [beq_eq_false_iff_ne, ne_eq, beq_iff_eq] at *); omega)).symm, HB.out.trans ((Hb.out.alloc Hb.out.size _).mono HB.out.size)⟩))
    · obtain rfl : k = N.length := by omega
      go_wp2
      go_ret
      exact ⟨ret_int (len_none HV.out.good HN.out).symm, HB.out.trans (Hb.out.mono HB.out.size)⟩
end Go.Proofs.Ytkhkgmelicdpkaa
