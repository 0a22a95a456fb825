/- Contracts of package tip's exported functions: votes, the order of lists, tips. -/
import Derived.Test.YtkhkgmelicdpkaaO
set_option linter.unusedVariables false
set_option linter.unusedSimpArgs false
namespace Go.Proofs.Ytkhkgmelicdpkaa
open Go.RowKit

def voteA (L : List Int) (far : Nat → Nat → Int) (a b c : Nat) : Int := if far c a - far c b < 0 then gI L c else 0
def voteB (L : List Int) (far : Nat → Nat → Int) (a b c : Nat) : Int := if 0 < far c a - far c b then gI L c else 0
theorem box_cell2 {w w1 : World} {x y : Value} {T : TypeId} {o : Obj} (hb : Below ((w.alloc (.cells #[x, y] T)).alloc o).heap.size ((w.alloc (.cells #[x, y] T)).alloc o) w1) : w1.cell? ⟨w.heap.size, 0, none⟩ = some x :=
  (hb.cell (p := ⟨w.heap.size, 0, none⟩) (by simp; omega)).trans (by simp)
theorem Ints.cells {w : World} {la : Option Addr} {n lc : Nat} {xs : List Int} (h : Ints w (.slice la n lc) xs) : ∃ lb lo, (xs.length = 0 ∨ la = some ⟨lb, lo, none⟩) ∧ ∀ i, i < xs.length → w.cell? ⟨lb, lo + i, none⟩ = some (.int .i64 (gI xs i)) := by
  obtain ⟨_, a, cap, b, off, hv, ha, hc⟩ := h
  injection hv with e1 _ _
  exact ⟨b, off, by rw [e1]; exact ha, hc⟩
def VoteRel (L : List Int) (far : Nat → Nat → Int) (a b : Nat) (iv x y : Value) : Prop := ∃ k : Nat, k ≤ L.length ∧ iv = .int .i64 (k : Int) ∧ x = .int .i64 (sumF (voteA L far a b) k) ∧ y = .int .i64 (sumF (voteB L far a b) k)
def VoteRelW (w1 : World) (L : List Int) (far : Nat → Nat → Int) (a b : Nat) (iv x y : Value) (wr : World) : Prop := VoteRel L far a b iv x y ∧ Below w1.heap.size w1 wr

set_option maxRecDepth 100000 in
set_option maxHeartbeats 1000000 in
theorem Votes_same (w : World) (m : Value) (L : List Int) (N : List Lane) (a : Nat) (far : Nat → Nat → Int) (next : Nat → Nat → Nat) (hm : Mkt w m L N) (h0 : checkCode L N = 0) (hR : AllRooted L.length N far next) (ha : a < L.length) :
    Calls Try.prog 31 #[m, .int .i64 a, .int .i64 a] w (Ret w (.tuple #[.int .i64 0, .int .i64 0, .int .i64 6])) := by
  have hM : ∀ w', Below w.heap.size w w' → Mkt w' m L N := fun w' hb => hm.below hb
  obtain ⟨la, lc, na, nc, rfl, hl, hn⟩ := hm.shape
  have H1 := Lib.hid (corners_ok2 h0 ha ha)
  clear h0 hm
  go_enter Try.func31, Try.ntmps31
  go_wp2_with (go_at_call 66; refine (laid_ok _ _ _ L N [(a : Int), (a : Int)] far next (by exact hM _ (Below.two _ _ _)) (by exact ints_lit2 _ _ _ _ (by simp)) H1.out hR).mono ?_; rintro e w1 ⟨bt, rfl, hbt, hT, hb1⟩)
  go_ret3
  exact ⟨rfl, (Below.two w _ _).trans (hb1.mono (by simp; omega))⟩

set_option maxRecDepth 100000 in
set_option maxHeartbeats 2000000 in
theorem Votes_ok (w : World) (m : Value) (L : List Int) (N : List Lane) (a b : Nat) (far : Nat → Nat → Int) (next : Nat → Nat → Nat) (hm : Mkt w m L N) (h0 : checkCode L N = 0) (hR : AllRooted L.length N far next) (ha : a < L.length) (hb : b < L.length) (hab : a ≠ b) :
    Calls Try.prog 31 #[m, .int .i64 a, .int .i64 b] w (Ret w (.tuple #[.int .i64 (sumF (voteA L far a b) L.length), .int .i64 (sumF (voteB L far a b) L.length), .int .i64 0])) := by
  have hM : ∀ w', Below w.heap.size w w' → Mkt w' m L N := fun w' hb => hm.below hb
  obtain ⟨la, lc, na, nc, rfl, hl, hn⟩ := hm.shape
  have hV := valid_of h0
  have T := tree_of hV.lanes hV.good hR
  have hAB : ∀ c, c < L.length → 0 ≤ voteA L far a b c ∧ voteA L far a b c ≤ 9 := by
    intro c hc; unfold voteA; have := hV.loads c hc; split <;> omega
  have hBB : ∀ c, c < L.length → 0 ≤ voteB L far a b c ∧ voteB L far a b c ≤ 9 := by
    intro c hc; unfold voteB; have := hV.loads c hc; split <;> omega
  have hne : ((a : Int) == (b : Int)) = false := by rw [beq_eq_false_iff_ne]; omega
  have i1 : (L.length : Int) ≤ 8 := by have := hV.le; omega
  have j1 : (0 : Int) ≤ (a : Int) := by omega
  have j2 : (a : Int) < 8 := by have := hV.le; omega
  have j3 : (0 : Int) ≤ (b : Int) := by omega
  have j4 : (b : Int) < 8 := by have := hV.le; omega
  have H1 := Lib.hid (corners_ok2 h0 ha hb)
  have HV := Lib.hid hV
  obtain ⟨lb, lo, ha', hcl⟩ := hl.cells
  have HA := Lib.hid ha'
  have HCl := Lib.hid hcl
  clear ha' hcl
  have HTr := Lib.hid T
  have HAB := Lib.hid hAB
  have HBB := Lib.hid hBB
  clear h0 hm hV T hl hAB hBB hab
  go_enter Try.func31, Try.ntmps31
  go_wp2_with (go_at_call 66; refine (laid_ok _ _ _ L N [(a : Int), (b : Int)] far next (by exact hM _ (Below.two _ _ _)) (by exact ints_lit2 _ _ _ _ (by simp)) H1.out hR).mono ?_; rintro e w1 ⟨bt, rfl, hbt, hT, hb1⟩; (have hmb := box_cell2 hb1))
  have HB := Lib.hid ((Below.two w (.cells #[.slice la L.length lc, .slice na N.length nc] 25) (.cells #[.int .i64 (a : Int), .int .i64 (b : Int)] 3)).trans (hb1.mono (by simp; omega)))
  have HT := Lib.hid hT
  clear hT hb1
  go_loopw [32, 6, 7] (VoteRelW w1 L far a b) (fun i _ _ _ => L.length - (intOf i).toNat)
  case atStart => exact ⟨⟨0, Nat.zero_le _, rfl, rfl, rfl⟩, Below.refl _ _⟩
  case round =>
    obtain ⟨⟨k, hk, rfl, rfl, rfl⟩, hb⟩ := hrel
    have Hb := Lib.hid hb
    clear hb
    by_cases hlt : k < L.length
    · obtain rfl : la = some ⟨lb, lo, none⟩ := HA.out.resolve_left (by omega)
      have hcell := Below.cellOf (HB.out.trans (Hb.out.mono HB.out.size)) (HCl.out k hlt)
      have hf1 := (HT.out.below Hb.out).cFar k a hlt ha
      have hf2 := (HT.out.below Hb.out).cFar k b hlt hb
      have hn1 := HTr.out.nonneg k a hlt ha
      have hn2 := HTr.out.nonneg k b hlt hb
      have hs1 := sumF_bound _ _ HAB.out k hk
      have hs2 := sumF_bound _ _ HBB.out k hk
      have hld := HV.out.loads k hlt
      have j5 : (0 : Int) ≤ (k : Int) := by omega
      have j6 : (k : Int) < 8 := by omega
      have hwr : IntKind.i64.wrap (far k a - far k b) = far k a - far k b := by rw [IntKind.wrap_i64]; omega
      go_wp2_with fail
      go_region_held3 (fun w' => w'.cell? ⟨bt, 1 + k * 8 + a, none⟩ = some (.int .i64 (far k a)) ∧ w'.cell? ⟨bt, 1 + k * 8 + b, none⟩ = some (.int .i64 (far k b)))
        (first | go_keep)
        (fail)
      by_cases h1 : far k a - far k b < 0
      · have h2 : ¬ 0 < far k a - far k b := by omega
        go_wp2
        go_roundw
        case rel => exact ⟨⟨k + 1, by omega, by go_num, by simp only [sumF, voteA]; rw [if_pos h1], by simp only [sumF, voteB]; rw [if_neg h2, Int.add_zero]⟩, Hb.out.drew⟩
        case measure => simp [intOf]; omega
      · by_cases h2 : 0 < far k a - far k b
        · go_wp2
          go_roundw
          case rel => exact ⟨⟨k + 1, by omega, by go_num, by simp only [sumF, voteA]; rw [if_neg h1, Int.add_zero], by simp only [sumF, voteB]; rw [if_pos h2]⟩, Hb.out.drew⟩
          case measure => simp [intOf]; omega
        · go_wp2
          go_roundw
          case rel => exact ⟨⟨k + 1, by omega, by go_num, by simp only [sumF, voteA]; rw [if_neg h1, Int.add_zero], by simp only [sumF, voteB]; rw [if_neg h2, Int.add_zero]⟩, Hb.out.drew⟩
          case measure => simp [intOf]; omega
    · obtain rfl : k = L.length := by omega
      go_wp2
      go_ret3
      exact ⟨rfl, HB.out.trans (Hb.out.mono HB.out.size)⟩

/-! ### the order of lists -/
def cmpI (x y : Int) : Int := if x < y then -1 else if y < x then 1 else 0
set_option maxRecDepth 100000 in
set_option maxHeartbeats 1000000 in
theorem cmp_any (w : World) (x y : Int) : Calls Try.prog 92 #[.int .i64 x, .int .i64 y] w fun e w' => e = .returned (.int .i64 (cmpI x y)) ∧ w = w' := by
  by_cases h1 : x < y
  · have e : Hid (cmpI x y = -1) := by unfold cmpI; rw [if_pos h1]; rfl
    go_enter Try.func92, Try.ntmps92
    go_wp2
    go_ret
    exact ⟨ret_int e.out.symm, rfl⟩
  · by_cases h2 : y < x
    · have e : Hid (cmpI x y = 1) := by unfold cmpI; rw [if_neg h1, if_pos h2]; rfl
      go_enter Try.func92, Try.ntmps92
      go_wp2
      go_ret
      exact ⟨ret_int e.out.symm, rfl⟩
    · have e : Hid (cmpI x y = 0) := by unfold cmpI; rw [if_neg h1, if_neg h2]; rfl
      go_enter Try.func92, Try.ntmps92
      go_wp2
      go_ret
      exact ⟨ret_int e.out.symm, rfl⟩
/-- The order of lists. -/
def cmpL : List Int → List Int → Int
  | [], [] => 0
  | [], _ :: _ => -1
  | _ :: _, [] => 1
  | x :: xs, y :: ys => if cmpI x y ≠ 0 then cmpI x y else cmpL xs ys
theorem drop_gI {xs : List Int} {k : Nat} (h : k < xs.length) : xs.drop k = gI xs k :: xs.drop (k + 1) := by
  rw [List.drop_eq_getElem_cons h]
  simp [gI, h]
theorem cmpL_drop {xs ys : List Int} : ∀ k, k ≤ xs.length → k ≤ ys.length → (∀ j, j < k → cmpI (gI xs j) (gI ys j) = 0) → cmpL xs ys = cmpL (xs.drop k) (ys.drop k) := by
  intro k
  induction k with
  | zero => intro _ _ _; simp
  | succ k ih =>
    intro h1 h2 h
    rw [ih (by omega) (by omega) (fun j hj => h j (by omega)), drop_gI (show k < xs.length by omega), drop_gI (show k < ys.length by omega)]
    simp only [cmpL]
    rw [if_neg (by rw [h k (by omega)]; simp)]
def CmpRel (xs ys : List Int) (iv : Value) : Prop := ∃ k : Nat, k ≤ xs.length ∧ k ≤ ys.length ∧ iv = .int .i64 (k : Int) ∧ ∀ j, j < k → cmpI (gI xs j) (gI ys j) = 0
set_option maxRecDepth 100000 in
set_option maxHeartbeats 1000000 in
theorem compare_any (w : World) (v1 v2 : Value) (xs ys : List Int) (h1 : Ints w v1 xs) (h2 : Ints w v2 ys) : Calls Try.prog 60 #[v1, v2] w fun e w' => e = .returned (.int .i64 (cmpL xs ys)) ∧ w = w' := by
  obtain ⟨hx12, a, c1, b1, o1, rfl, ha, hca⟩ := h1
  obtain ⟨hy12, b, c2, b2, o2, rfl, hb, hcb⟩ := h2
  go_enter Try.func60, Try.ntmps60
  go_wp2
  go_loop [11] (CmpRel xs ys) (fun i => xs.length - (intOf i).toNat)
  case atStart => exact ⟨0, Nat.zero_le _, Nat.zero_le _, rfl, fun j hj => by omega⟩
  case round =>
    obtain ⟨k, hk, hk2, rfl, hj⟩ := hrel
    have HJ := Lib.hid hj
    clear hj
    by_cases hlt : k < xs.length
    · obtain rfl : a = some ⟨b1, o1, none⟩ := ha.resolve_left (by omega)
      have hcell := hca k hlt
      by_cases hlt2 : k < ys.length
      · obtain rfl : b = some ⟨b2, o2, none⟩ := hb.resolve_left (by omega)
        have hcell2 := hcb k hlt2
        have hge : ¬ ((ys.length : Int) ≤ (k : Int)) := by omega
        clear hca hcb ha hb
        by_cases h0 : cmpI (gI xs k) (gI ys k) = 0
        · have H0 := Lib.hid h0
          have h0' : (cmpI (gI xs k) (gI ys k) != 0) = false := by simpa using h0
          clear h0
          go_wp2_with (go_at_call 92; refine (cmp_any _ _ _).mono ?_; rintro e w1 ⟨rfl, rfl⟩)
          go_round
          case rel => exact ⟨k + 1, by omega, by omega, by go_num, fun j hj => by
            rcases Nat.lt_or_ge j k with h' | h'
            · exact HJ.out j h'
            · obtain rfl : j = k := by omega
              exact H0.out⟩
          case measure => simp [intOf]; omega
        · have h0' : (cmpI (gI xs k) (gI ys k) != 0) = true := by simpa using h0
          have H0 := Lib.hid h0
          clear h0
          go_wp2_with (go_at_call 92; refine (cmp_any _ _ _).mono ?_; rintro e w1 ⟨rfl, rfl⟩)
          go_ret
          refine ⟨ret_int ?_, rfl⟩
          rw [cmpL_drop k (by omega) (by omega) HJ.out, drop_gI hlt, drop_gI hlt2]
          simp only [cmpL]
          rw [if_pos H0.out]
      · obtain rfl : k = ys.length := by omega
        have hge : (ys.length : Int) ≤ (ys.length : Int) := Int.le_refl _
        clear hca hcb ha hb
        go_wp2
        go_ret
        refine ⟨ret_int ?_, rfl⟩
        rw [cmpL_drop ys.length (by omega) (by omega) HJ.out, drop_gI hlt, List.drop_length]
        rfl
    · obtain rfl : k = xs.length := by omega
      by_cases hl : xs.length < ys.length
      · go_wp2
        go_ret
        refine ⟨ret_int ?_, rfl⟩
        rw [cmpL_drop xs.length (by omega) (by omega) HJ.out, drop_gI hl, List.drop_length]
        rfl
      · have e1 : xs.length = ys.length := by omega
        have E1 := Lib.hid e1
        clear e1
        go_wp2
        go_ret
        refine ⟨ret_int ?_, rfl⟩
        rw [cmpL_drop xs.length (by omega) (by omega) HJ.out, List.drop_length, E1.out, List.drop_length]
        rfl
end Go.Proofs.Ytkhkgmelicdpkaa
