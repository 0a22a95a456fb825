/- The reference's Tips in a market with an error; both sides of Tips in one form. -/
import Derived.Test.YtkhkgmelicdpkaaRu
set_option linter.unusedVariables false
set_option linter.unusedSimpArgs false
namespace Go.Proofs.Ytkhkgmelicdpkaa
open Go.RowKit Go.BigFrame

set_option maxRecDepth 100000 in
set_option maxHeartbeats 4000000 in
theorem Tips_rbad (w : World) (m tv : Value) (L : List Int) (N : List Lane) (ts : List Int) (c : Int) (hm : Mkt w m L N) (ht : Ints w tv ts) (h0 : checkCode L N = c) (hne : c ≠ 0) :
    Calls Try.prog 34 #[m, tv] w (Ret w (.tuple #[.int .i64 0, .int .i64 c])) := by
  have HM : Hid (∀ w', Below w.heap.size w w' → Mkt w' m L N) := Lib.hid (fun w' hb => hm.below hb)
  obtain ⟨la, lc, na, nc, rfl, hlM, hN⟩ := hm.shape
  obtain ⟨hbig, ta, tc, tb, tf, hte, hta, htc⟩ := ht
  have hbig' : (ts.length : Int) ≤ 1000000000000 := by omega
  have KC : Hid (∀ w', Below w.heap.size w w' → Calls Try.prog 48 #[.agg #[.slice la L.length lc, .slice na N.length nc]] w' (Ret w' (.int .i64 c))) := Lib.hid (fun w' hb => by rw [← h0]; exact Check_r w' _ L N (HM.out _ hb))
  have HB := Lib.hid (Below.one w (.cells #[.slice la L.length lc, .slice na N.length nc] 28))
  subst hte
  have he1 : (c == 0) = false := by rw [beq_eq_false_iff_ne]; exact hne
  have he2 : (c != 0) = true := by simp; exact hne
  by_cases hz0 : ts.length = 0
  · have hz : ((ts.length : Int) == 0) = true := by rw [beq_iff_eq]; omega
    have hz2 : decide ((0 : Int) < (ts.length : Int)) = false := decide_eq_false (by omega)
    have hz3 : ¬ 0 < ts.length := by omega
    have hz4 : (ts.length : Int) = 0 := by omega
    clear hm hlM hN h0 hta htc hz0 hne
    go_enter Try.func34, Try.ntmps34
    go_wp2_with (first | (go_at_call 48; refine (KC.out _ HB.out).mono ?_; rintro e w1 ⟨rfl, hb1⟩))
    have HBW := Lib.hid (HB.out.trans (hb1.mono HB.out.size))
    clear hb1
    go_loopw [7, 6] (fun a b wr => (a = .int .i64 0 ∧ b = .int .i64 c) ∧ Below w1.heap.size w1 wr) (fun i _ _ => 0)
    case atStart => exact ⟨⟨rfl, rfl⟩, Below.refl _ _⟩
    case round =>
      obtain ⟨⟨rfl, rfl⟩, hb⟩ := hrel
      go_wp2
      go_ret2
      exact ⟨rfl, HBW.out.trans (hb.mono HBW.out.size)⟩
  · have hz : ((ts.length : Int) == 0) = false := by rw [beq_eq_false_iff_ne]; omega
    have hz2 : decide ((0 : Int) < (ts.length : Int)) = true := decide_eq_true (by omega)
    have hz3 : 0 < ts.length := by omega
    have hz4 : (0 : Int) < (ts.length : Int) := by omega
    clear hm hlM hN h0 hta htc hz0 hne
    go_enter Try.func34, Try.ntmps34
    go_wp2_with (first | (go_at_call 48; refine (KC.out _ HB.out).mono ?_; rintro e w1 ⟨rfl, hb1⟩))
    have HBW := Lib.hid (HB.out.trans (hb1.mono HB.out.size))
    clear hb1
    go_loopw [7, 6] (fun a b wr => (a = .int .i64 0 ∧ b = .int .i64 c) ∧ Below w1.heap.size w1 wr) (fun i _ _ => 0)
    case atStart => exact ⟨⟨rfl, rfl⟩, Below.refl _ _⟩
    case round =>
      obtain ⟨⟨rfl, rfl⟩, hb⟩ := hrel
      go_wp2
      go_ret2
      exact ⟨rfl, HBW.out.trans (hb.mono HBW.out.size)⟩
theorem Tips_two {w0 : World} {m0 : Value} {L : List Int} {N : List Lane} (hm0 : Mkt w0 m0 L N) (ts : List Int) : ∃ x c, (∀ w m tv, Mkt w m L N → Ints w tv ts → Calls Try.prog 33 #[m, tv] w (Ret w (.tuple #[.int .i64 x, .int .i64 c]))) ∧ (∀ w m tv, Mkt w m L N → Ints w tv ts → Calls Try.prog 34 #[m, tv] w (Ret w (.tuple #[.int .i64 x, .int .i64 c]))) := by
  rcases Int.decEq (checkCode L N) 0 with h | h
  · exact ⟨0, checkCode L N, fun w m tv hm ht => Tips_bad w m L N tv _ hm (laidCode_nil L N) h, fun w m tv hm ht => Tips_rbad w m tv L N ts _ hm ht rfl h⟩
  · obtain ⟨far, next, hR⟩ := tree_exists hm0 h
    by_cases hz : ts.length = 0
    · refine ⟨0, 4, fun w m tv hm ht => ?_, fun w m tv hm ht => ?_⟩
      · obtain rfl : ts = [] := List.length_eq_zero_iff.1 hz
        exact Tips_empty w m tv L N far next hm ht h hR
      · have := Tips_r w m tv L N ts far next hm ht h hR
        unfold tipsRes at this
        rw [if_pos hz] at this
        exact this
    · refine ⟨_, _, fun w m tv hm ht => (Tips_ok w m tv L N ts far next hm ht h hR hz).mono (fun e w' he => ⟨he.2, he.1⟩), fun w m tv hm ht => ?_⟩
      have := Tips_r w m tv L N ts far next hm ht h hR
      unfold tipsRes at this
      rw [if_neg hz] at this
      exact this
end Go.Proofs.Ytkhkgmelicdpkaa
