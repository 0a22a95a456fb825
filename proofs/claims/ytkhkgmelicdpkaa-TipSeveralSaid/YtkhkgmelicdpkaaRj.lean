/- Both sides of TipBranches in one form each, and its walk. -/
import Derived.Test.YtkhkgmelicdpkaaRi
import Derived.Test.YtkhkgmelicdpkaaWk
set_option linter.unusedVariables false
set_option linter.unusedSimpArgs false
namespace Go.Proofs.Ytkhkgmelicdpkaa
open Go.RowKit Go.BigFrame

set_option maxRecDepth 100000 in
set_option maxHeartbeats 4000000 in
theorem Medians_rbad (w : World) (m : Value) (L : List Int) (N : List Lane) (c : Int) (hm : Mkt w m L N) (hc : checkCode L N = c) (hne : c ≠ 0) :
    Calls Try.prog 19 #[m] w (Ret w (.tuple #[.slice none 0 0, .int .i64 c])) := by
  have HM : Hid (∀ w', Below w.heap.size w w' → Mkt w' m L N) := Lib.hid (fun w' hb => hm.below hb)
  obtain ⟨la, lc, na, nc, rfl, hlM, hN⟩ := hm.shape
  have K48 : Hid (∀ w', Below w.heap.size w w' → Calls Try.prog 48 #[.agg #[.slice la L.length lc, .slice na N.length nc]] w' (Ret w' (.int .i64 c))) := Lib.hid (fun w' hb => by rw [← hc]; exact Check_r w' _ L N (HM.out _ hb))
  have HB := Lib.hid (Below.one w (.cells #[.slice la L.length lc, .slice na N.length nc] 28))
  have h1 : (c == 0) = false := by rw [beq_eq_false_iff_ne]; exact hne
  have h2 : (c != 0) = true := by simp; exact hne
  clear hm hlM hN hc hne
  go_enter Try.func19, Try.ntmps19
  go_wp2_with (first | (go_at_call 48; refine (K48.out _ HB.out).mono ?_; rintro e w1 ⟨rfl, hb1⟩))
  go_ret2
  exact ⟨rfl, HB.out.trans (hb1.mono HB.out.size)⟩
set_option maxRecDepth 100000 in
set_option maxHeartbeats 4000000 in
theorem Why_rbad (w : World) (m : Value) (L : List Int) (N : List Lane) (a c : Int) (hm : Mkt w m L N) (hc : laidCode L N [a, a] = c) (hne : c ≠ 0) :
    Calls Try.prog 23 #[m, .int .i64 a] w (Ret w (.tuple #[.int .i64 0, .int .i64 c])) := by
  have HM : Hid (∀ w', Below w.heap.size w w' → Mkt w' m L N) := Lib.hid (fun w' hb => hm.below hb)
  obtain ⟨la, lc, na, nc, rfl, hlM, hN⟩ := hm.shape
  have K74 : Hid (∀ w', Below w.heap.size w w' → Calls Try.prog 74 #[.agg #[.slice la L.length lc, .slice na N.length nc], .int .i64 a, .int .i64 a] w' (Ret w' (.int .i64 c))) := Lib.hid (fun w' hb => by rw [← hc]; exact asked_r w' _ L N a a (HM.out _ hb))
  have HB := Lib.hid (Below.one w (.cells #[.slice la L.length lc, .slice na N.length nc] 28))
  have h1 : (c == 0) = false := by rw [beq_eq_false_iff_ne]; exact hne
  have h2 : (c != 0) = true := by simp; exact hne
  clear hm hlM hN hc hne
  go_enter Try.func23, Try.ntmps23
  go_wp2_with (first | (go_at_call 74; refine (K74.out _ HB.out).mono ?_; rintro e w1 ⟨rfl, hb1⟩))
  go_ret2
  exact ⟨rfl, HB.out.trans (hb1.mono HB.out.size)⟩
def WhyRelR (w1 : World) (L : List Int) (N : List Lane) (next : Nat → Nat → Nat) (a : Nat) (iv : Value) (wr : World) : Prop := ∃ k : Nat, k ≤ L.length ∧ iv = .int .i64 (k : Int) ∧ (∀ j, j < k → heavyB L next (nearK N N.length) a j = false) ∧ Below w1.heap.size w1 wr
def whyRes (f : Int) : Value := if 0 ≤ f then .tuple #[.int .i64 f, .int .i64 0] else .tuple #[.int .i64 0, .int .i64 13]
theorem why_next {p : Nat → Bool} {k : Nat} (h : ∀ j, j < k → p j = false) (hk : p k = false) : ∀ j, j < k + 1 → p j = false := fun j hj => by
  rcases Nat.lt_or_ge j k with h' | h'
  · exact h j h'
  · obtain rfl : j = k := by omega
    exact hk
set_option maxRecDepth 100000 in
set_option maxHeartbeats 4000000 in
theorem Why_r (w : World) (m : Value) (L : List Int) (N : List Lane) (a : Nat) (far : Nat → Nat → Int) (next : Nat → Nat → Nat) (hm : Mkt w m L N) (h0 : checkCode L N = 0) (hR : AllRooted L.length N far next) (ha : a < L.length) :
    Calls Try.prog 23 #[m, .int .i64 (a : Int)] w (Ret w (whyRes (firstF (heavyB L next (nearK N N.length) a) L.length))) := by
  have HM : Hid (∀ w', Below w.heap.size w w' → Mkt w' m L N) := Lib.hid (fun w' hb => hm.below hb)
  obtain ⟨la, lc, na, nc, rfl, hlM, hN⟩ := hm.shape
  have HV := Lib.hid (valid_of h0)
  have h8 := HV.out.le
  have K74 : Hid (∀ w', Below w.heap.size w w' → Calls Try.prog 74 #[.agg #[.slice la L.length lc, .slice na N.length nc], .int .i64 (a : Int), .int .i64 (a : Int)] w' (Ret w' (.int .i64 0))) := Lib.hid (fun w' hb => by rw [← corners_ok2 h0 ha ha]; exact asked_r w' _ L N a a (HM.out _ hb))
  have K76 : Hid (∀ (w' : World) (b : Nat), Below w.heap.size w w' → b < L.length → Adj N a b → Calls Try.prog 76 #[.agg #[.slice la L.length lc, .slice na N.length nc], .int .i64 (a : Int), .int .i64 (b : Int)] w' (Ret w' (.bool (decide (sumF (gI L) L.length < 2 * sumF (loadIn L next a b) L.length))))) := Lib.hid (fun w' b hbw hb hA => heavy_r w' _ L N a b far next (HM.out _ hbw) h0 hR ha hb hA)
  have HHB : Hid (∀ b, heavyB L next (nearK N N.length) a b = true ↔ Adj N a b ∧ sumF (gI L) L.length < 2 * sumF (loadIn L next a b) L.length) := Lib.hid (fun b => heavyB_iff a b)
  have HB := Lib.hid (Below.one w (.cells #[.slice la L.length lc, .slice na N.length nc] 28))
  clear hm hlM hN h0 hR
  go_enter Try.func23, Try.ntmps23
  go_wp2_with (first
    | (go_at_call 74; refine (K74.out _ HB.out).mono ?_; rintro e w1 ⟨rfl, hb1⟩; (have c0 := Below.cellOf hb1 (show (w.alloc (.cells #[.slice la L.length lc, .slice na N.length nc] 28)).cell? ⟨w.heap.size, 0, none⟩ = some (.slice la L.length lc) by simp)); (have c1 := Below.cellOf hb1 (show (w.alloc (.cells #[.slice la L.length lc, .slice na N.length nc] 28)).cell? ⟨w.heap.size, 1, none⟩ = some (.slice na N.length nc) by simp))))
  have HBW := Lib.hid (HB.out.trans (hb1.mono HB.out.size))
  have HC := Lib.hid (And.intro c0 c1)
  clear hb1 c0 c1
  go_loopw [7] (WhyRelR w1 L N next a) (fun i _ => L.length - (intOf i).toNat)
  case atStart => exact ⟨0, Nat.zero_le _, rfl, fun j hj => by omega, Below.refl _ _⟩
  case round =>
    obtain ⟨k, hk, rfl, hno, hb⟩ := hrel
    have HNO := Lib.hid hno
    have Hb := Lib.hid hb
    have c0 := Below.cellOf hb HC.out.1
    have c1 := Below.cellOf hb HC.out.2
    have HBR := Lib.hid (HBW.out.trans (hb.mono HBW.out.size))
    clear hno hb
    by_cases hlt : k < L.length
    · obtain ⟨ln, hln⟩ : ∃ ln, ln = laneF N (a : Int) (k : Int) := ⟨_, rfl⟩
      have hp := laneF_pos HV.out.good a k
      rw [← hln] at hp
      have K75 : Hid (Calls Try.prog 75 #[.agg #[.slice la L.length lc, .slice na N.length nc], .int .i64 (a : Int), .int .i64 (k : Int)] wr (Ret wr (.int .i64 ln))) := Lib.hid (by rw [hln]; exact lane_any wr _ L N a k (HM.out _ HBR.out))
      clear hln
      by_cases hA : Adj N a k
      · have hl0 : 0 < ln := hp.2 hA
        have hd1 : decide (0 < ln) = true := decide_eq_true hl0
        have HA := Lib.hid hA
        clear hp hA
        by_cases hh : sumF (gI L) L.length < 2 * sumF (loadIn L next a k) L.length
        · have K76k : Hid (∀ w' : World, Below w.heap.size w w' → Calls Try.prog 76 #[.agg #[.slice la L.length lc, .slice na N.length nc], .int .i64 (a : Int), .int .i64 (k : Int)] w' (Ret w' (.bool true))) := Lib.hid (fun w' hbw => by
            have h := K76.out w' k hbw hlt HA.out
            rw [decide_eq_true hh] at h
            exact h)
          have HE : Hid (firstF (heavyB L next (nearK N N.length) a) L.length = (k : Int)) := Lib.hid (firstF_at hlt HNO.out ((HHB.out k).2 ⟨HA.out, hh⟩))
          clear hh
          go_wp2_with (first | (go_at_call 75; refine K75.out.mono ?_; rintro e w2 ⟨rfl, hb2⟩; (have HB2 := Lib.hid (HBR.out.trans (hb2.mono HBR.out.size))); (replace c0 := Below.cellOf hb2 c0); (replace c1 := Below.cellOf hb2 c1)) | (go_at_call 76; refine (K76k.out _ HB2.out).mono ?_; rintro e w3 ⟨rfl, hb3⟩))
          go_ret2
          exact ⟨by rw [HE.out]; unfold whyRes; rw [if_pos (by omega)]; rfl, HB2.out.trans (hb3.mono HB2.out.size)⟩
        · have K76k : Hid (∀ w' : World, Below w.heap.size w w' → Calls Try.prog 76 #[.agg #[.slice la L.length lc, .slice na N.length nc], .int .i64 (a : Int), .int .i64 (k : Int)] w' (Ret w' (.bool false))) := Lib.hid (fun w' hbw => by
            have h := K76.out w' k hbw hlt HA.out
            rw [decide_eq_false hh] at h
            exact h)
          have HE : Hid (heavyB L next (nearK N N.length) a k = false) := Lib.hid (by rw [← Bool.not_eq_true]; exact fun h => hh ((HHB.out k).1 h).2)
          clear hh
          go_wp2_with (first | (go_at_call 75; refine K75.out.mono ?_; rintro e w2 ⟨rfl, hb2⟩; (have HB2 := Lib.hid (HBR.out.trans (hb2.mono HBR.out.size))); (have HBB := Lib.hid (Hb.out.trans (hb2.mono Hb.out.size))); (replace c0 := Below.cellOf hb2 c0); (replace c1 := Below.cellOf hb2 c1)) | (go_at_call 76; refine (K76k.out _ HB2.out).mono ?_; rintro e w3 ⟨rfl, hb3⟩))
          go_roundw
          case rel => exact ⟨k + 1, by omega, by go_num, why_next HNO.out HE.out, HBB.out.trans (hb3.mono HBB.out.size)⟩
          case measure => simp [intOf]; omega
      · have hd1 : decide (0 < ln) = false := decide_eq_false (fun h => hA (hp.1 h))
        have HE : Hid (heavyB L next (nearK N N.length) a k = false) := Lib.hid (by rw [← Bool.not_eq_true]; exact fun h => hA ((HHB.out k).1 h).1)
        clear hp hA
        go_wp2_with (first | (go_at_call 75; refine K75.out.mono ?_; rintro e w2 ⟨rfl, hb2⟩))
        go_roundw
        case rel => exact ⟨k + 1, by omega, by go_num, why_next HNO.out HE.out, Hb.out.trans (hb2.mono Hb.out.size)⟩
        case measure => simp [intOf]; omega
    · obtain rfl : k = L.length := by omega
      have HE := Lib.hid (firstF_none HNO.out)
      go_wp2
      go_ret2
      exact ⟨by rw [HE.out]; unfold whyRes; rw [if_neg (by omega)]; rfl, HBR.out⟩

/-! ### both sides in one form -/
theorem ret_ints {w : World} {c : Int} {e : Ending} {w' : World} (h : Ret w (.tuple #[.slice none 0 0, .int .i64 c]) e w') : RetInts w [] c e w' := ⟨_, h.1, ints_nil _ 0, h.2⟩
theorem list_ints {w : World} {l : List Nat} {c : Int} {e : Ending} {w' : World} (hl : l.length ≤ 1000) (h : RetList w l c e w') : RetInts w (upL l) c e w' := by
  obtain ⟨v, rfl, hv, hb⟩ := h
  exact ⟨v, rfl, hv.ints (by omega), hb⟩
theorem Medians_two {w0 : World} {m0 : Value} {L : List Int} {N : List Lane} (hm0 : Mkt w0 m0 L N) : ∃ xs c, (∀ w m, Mkt w m L N → Calls Try.prog 18 #[m] w (RetInts w xs c)) ∧ (∀ w m, Mkt w m L N → Calls Try.prog 19 #[m] w (RetInts w xs c)) := by
  rcases Int.decEq (checkCode L N) 0 with h | h
  · refine ⟨[], checkCode L N, fun w m hm => (Medians_bad w m L N _ hm (laidCode_nil L N) h).mono (fun e w' he => ret_ints he), fun w m hm => (Medians_rbad w m L N _ hm rfl h).mono (fun e w' he => ret_ints he)⟩
  · obtain ⟨far, next, hR⟩ := tree_exists hm0 h
    have hl : (medL L N next).length ≤ 1000 := by have := medL_length (L := L) (N := N) (next := next); have := (valid_of h).le; omega
    exact ⟨upL (medL L N next), 0, fun w m hm => (Medians_ok w m L N far next hm h hR).mono (fun e w' he => list_ints hl he), fun w m hm => (Medians_r w m L N far next hm h hR).mono (fun e w' he => list_ints hl he)⟩
theorem corners_nat {L : List Int} {N : List Lane} {a b : Int} (h0 : checkCode L N = 0) (h : laidCode L N [a, b] = 0) : ∃ x y : Nat, a = (x : Int) ∧ b = (y : Int) ∧ x < L.length ∧ y < L.length := by
  rw [asked_two h0] at h
  by_cases hc : (0 ≤ a ∧ a ≤ (L.length : Int) - 1) ∧ (0 ≤ b ∧ b ≤ (L.length : Int) - 1)
  · exact ⟨a.toNat, b.toNat, by omega, by omega, by omega, by omega⟩
  · rw [if_neg hc] at h
    cases h
theorem laid_check {L : List Int} {N : List Lane} {cs : List Int} (h : laidCode L N cs = 0) : checkCode L N = 0 := (checkCode_of_laid h).1
theorem Branch_two {w0 : World} {m0 : Value} {L : List Int} {N : List Lane} (hm0 : Mkt w0 m0 L N) (a b : Int) : ∃ xs c, (∀ w m, Mkt w m L N → Calls Try.prog 20 #[m, .int .i64 a, .int .i64 b] w (RetInts w xs c)) ∧ (∀ w m, Mkt w m L N → Calls Try.prog 21 #[m, .int .i64 a, .int .i64 b] w (RetInts w xs c)) := by
  rcases Int.decEq (laidCode L N [a, b]) 0 with h | h
  · exact ⟨[], _, fun w m hm => (Branch_bad w m L N a b _ hm rfl h).mono (fun e w' he => ret_ints he), fun w m hm => (Branch_rbad w m L N a b _ hm (over_bad h) h).mono (fun e w' he => ret_ints he)⟩
  · have h0 := laid_check h
    obtain ⟨x, y, rfl, rfl, hx, hy⟩ := corners_nat h0 h
    obtain ⟨far, next, hR⟩ := tree_exists hm0 h0
    by_cases hA : (nearK N N.length x).testBit y = true
    · have hl : ((List.range L.length).filter (inBr next x y)).length ≤ 1000 := by have := filt_len (inBr next x y) L.length; have := (valid_of h0).le; omega
      exact ⟨upL ((List.range L.length).filter (inBr next x y)), 0, fun w m hm => (Branch_ok w m L N x y far next hm h0 hR hx hy hA).mono (fun e w' he => list_ints hl he), fun w m hm => (Branch_r w m L N x y far next hm h0 hR hx hy hA).mono (fun e w' he => list_ints hl he)⟩
    · exact ⟨[], 5, fun w m hm => (Branch_no w m L N x y far next hm h0 hR hx hy hA).mono (fun e w' he => ret_ints he), fun w m hm => (Branch_rbad w m L N x y 5 hm (over_not h0 hx hy hA) (by simp)).mono (fun e w' he => ret_ints he)⟩
theorem Proves_two {w0 : World} {m0 : Value} {L : List Int} {N : List Lane} (hm0 : Mkt w0 m0 L N) (a b : Int) : ∃ c : Int, (∀ w m, Mkt w m L N → Calls Try.prog 25 #[m, .int .i64 a, .int .i64 b] w (Ret w (.int .i64 c))) ∧ (∀ w m, Mkt w m L N → Calls Try.prog 26 #[m, .int .i64 a, .int .i64 b] w (Ret w (.int .i64 c))) := by
  rcases Int.decEq (laidCode L N [a, b]) 0 with h | h
  · exact ⟨_, fun w m hm => Proves_bad w m L N a b _ hm rfl h, fun w m hm => Proves_rbad w m L N a b _ hm (over_bad h) h⟩
  · have h0 := laid_check h
    obtain ⟨x, y, rfl, rfl, hx, hy⟩ := corners_nat h0 h
    obtain ⟨far, next, hR⟩ := tree_exists hm0 h0
    by_cases hA : (nearK N N.length x).testBit y = true
    · exact ⟨_, fun w m hm => Proves_ok w m L N x y far next hm h0 hR hx hy hA, fun w m hm => Proves_r w m L N x y far next hm h0 hR hx hy hA⟩
    · exact ⟨5, fun w m hm => Proves_no w m L N x y far next hm h0 hR hx hy hA, fun w m hm => Proves_rbad w m L N x y 5 hm (over_not h0 hx hy hA) (by simp)⟩
theorem Why_two {w0 : World} {m0 : Value} {L : List Int} {N : List Lane} (hm0 : Mkt w0 m0 L N) (a : Int) : ∃ x c : Int, (∀ w m, Mkt w m L N → Calls Try.prog 22 #[m, .int .i64 a] w (Ret w (.tuple #[.int .i64 x, .int .i64 c]))) ∧ (∀ w m, Mkt w m L N → Calls Try.prog 23 #[m, .int .i64 a] w (Ret w (.tuple #[.int .i64 x, .int .i64 c]))) := by
  rcases Int.decEq (laidCode L N [a, a]) 0 with h | h
  · exact ⟨0, _, fun w m hm => Why_bad w m L N a _ hm (asked_one a) h, fun w m hm => Why_rbad w m L N a _ hm rfl h⟩
  · have h0 := laid_check h
    obtain ⟨x, y, hx0, _, hx, _⟩ := corners_nat h0 h
    subst hx0
    obtain ⟨far, next, hR⟩ := tree_exists hm0 h0
    by_cases hh : 0 ≤ firstF (heavyB L next (nearK N N.length) x) L.length
    · refine ⟨_, 0, fun w m hm => Why_ok w m L N x far next hm h0 hR hx hh, fun w m hm => ?_⟩
      have := Why_r w m L N x far next hm h0 hR hx
      unfold whyRes at this
      rw [if_pos hh] at this
      exact this
    · refine ⟨0, 13, fun w m hm => Why_no w m L N x far next hm h0 hR hx hh, fun w m hm => ?_⟩
      have := Why_r w m L N x far next hm h0 hR hx
      unfold whyRes at this
      rw [if_neg hh] at this
      exact this
end Go.Proofs.Ytkhkgmelicdpkaa
