/- What package tip answers at the law's examples. -/
import Derived.Test.YtkhkgmelicdpkaaZ
set_option linter.unusedVariables false
set_option linter.unusedSimpArgs false
namespace Go.Proofs.Ytkhkgmelicdpkaa
open Go.RowKit

theorem way_S23 {w : World} {m : Value} (hm : Mkt w m LS NS) : Calls Try.prog 43 #[m, .int .i64 2, .int .i64 3] w (RetList w [2, 0, 3] 0) := by
  have h := Way_ok w m LS NS 2 3 farS nextS hm codeS rootS (by decide) (by decide)
  rw [show wayD nextS (fun v => (farS 3 v).toNat) 3 2 = [2, 0, 3] by decide +kernel] at h
  exact h
theorem far_S23 {w : World} {m : Value} (hm : Mkt w m LS NS) : Calls Try.prog 45 #[m, .int .i64 2, .int .i64 3] w (Ret w (.tuple #[.int .i64 5, .int .i64 0])) := by
  have h := Far_ok w m LS NS 2 3 farS nextS hm codeS rootS (by decide) (by decide)
  rw [show farS 2 3 = 5 by decide +kernel] at h
  exact h
theorem cost_T0 {w : World} {m : Value} (hm : Mkt w m LT NT) : Calls Try.prog 39 #[m, .int .i64 0] w (Ret w (.tuple #[.int .i64 9, .int .i64 0])) := by
  have h := Cost_ok w m LT NT 0 farT nextT hm codeT rootT (by decide)
  rw [show costF LT farT (2 ^ 0) = 9 by decide +kernel] at h
  exact h
theorem medians_T {w : World} {m : Value} (hm : Mkt w m LT NT) : Calls Try.prog 18 #[m] w (RetList w [3] 0) := by
  have h := Medians_ok w m LT NT farT nextT hm codeT rootT
  rw [show (List.range LT.length).filter (lightB LT nextT (nearK NT NT.length)) = [3] by decide +kernel] at h
  exact h
theorem branch_T12 {w : World} {m : Value} (hm : Mkt w m LT NT) : Calls Try.prog 20 #[m, .int .i64 1, .int .i64 2] w (RetList w [2, 3] 0) := by
  have h := Branch_ok w m LT NT 1 2 farT nextT hm codeT rootT (by decide) (by decide) (by decide +kernel)
  rw [show (List.range LT.length).filter (inBr nextT 1 2) = [2, 3] by decide +kernel] at h
  exact h
theorem branch_T13 {w : World} {m : Value} (hm : Mkt w m LT NT) : Calls Try.prog 20 #[m, .int .i64 1, .int .i64 3] w (Ret w (.tuple #[.slice none 0 0, .int .i64 5])) :=
  Branch_no w m LT NT 1 3 farT nextT hm codeT rootT (by decide) (by decide) (by decide +kernel)
theorem why_T0 {w : World} {m : Value} (hm : Mkt w m LT NT) : Calls Try.prog 22 #[m, .int .i64 0] w (Ret w (.tuple #[.int .i64 1, .int .i64 0])) := by
  have h := Why_ok w m LT NT 0 farT nextT hm codeT rootT (by decide) (by decide +kernel)
  rw [show firstF (heavyB LT nextT (nearK NT NT.length) 0) LT.length = 1 by decide +kernel] at h
  exact h
theorem why_T3 {w : World} {m : Value} (hm : Mkt w m LT NT) : Calls Try.prog 22 #[m, .int .i64 3] w (Ret w (.tuple #[.int .i64 0, .int .i64 13])) :=
  Why_no w m LT NT 3 farT nextT hm codeT rootT (by decide) (by decide +kernel)
theorem radius_T1 {w : World} {m : Value} (hm : Mkt w m LT NT) : Calls Try.prog 50 #[m, .int .i64 1] w (Ret w (.tuple #[.int .i64 2, .int .i64 0])) := by
  have h := Radius_ok w m LT NT 1 farT nextT hm codeT rootT (by decide)
  rw [show mxF (farT 1) (LT.length - 1) = 2 by decide +kernel] at h
  exact h
theorem centres_T {w : World} {m : Value} (hm : Mkt w m LT NT) : Calls Try.prog 27 #[m] w (RetList w [1, 2] 0) := by
  have h := Centres_ok w m LT NT farT nextT hm codeT rootT
  rw [show smallF (radF farT LT.length) LT.length = [1, 2] by decide +kernel] at h
  exact h
theorem longest_S {w : World} {m : Value} (hm : Mkt w m LS NS) : Calls Try.prog 29 #[m] w (RetInts w [2, 0, 3] 0) := by
  have h := Longest_ok w m LS NS farS nextS hm codeS rootS
  rw [show longList (longN farS nextS LS.length (begF (radF farS LS.length) LS.length) LS.length) = [2, 0, 3] by decide +kernel] at h
  exact h
theorem votes_T03 {w : World} {m : Value} (hm : Mkt w m LT NT) : Calls Try.prog 31 #[m, .int .i64 0, .int .i64 3] w (Ret w (.tuple #[.int .i64 1, .int .i64 3, .int .i64 0])) := by
  have h := Votes_ok w m LT NT 0 3 farT nextT hm codeT rootT (by decide) (by decide) (by decide)
  rw [show sumF (voteA LT farT 0 3) LT.length = 1 by decide +kernel, show sumF (voteB LT farT 0 3) LT.length = 3 by decide +kernel] at h
  exact h
theorem tips_T1 {w : World} {m v : Value} (hm : Mkt w m LT NT) (hv : Ints w v [1]) : Calls Try.prog 33 #[m, v] w (Ret w (.tuple #[.int .i64 7, .int .i64 0])) := by
  have h := Tips_ok w m v LT NT [1] farT nextT hm hv codeT rootT (by decide)
  refine h.mono fun e w' => ?_
  rintro ⟨h1, h2⟩
  refine ⟨?_, h1⟩
  rw [h2]
  rw [show tipsCode (LT.length : Int) [1] [(1 : Int)].length = 0 by decide +kernel, show costF LT farT (maskOf [1] [(1 : Int)].length) = 7 by decide +kernel]
  rfl
theorem best_S2 {w : World} {m : Value} (hm : Mkt w m LS NS) : Calls Try.prog 35 #[m, .int .i64 2] w (RetInts w [0, 3] 0) := by
  have h := Best_ok w m LS NS 2 farS nextS hm codeS rootS (by decide) (by decide)
  rw [show bestList (bestN LS farS 2 (2 ^ LS.length)) = [0, 3] by decide +kernel] at h
  exact h
theorem proves_T01 {w : World} {m : Value} (hm : Mkt w m LT NT) : Calls Try.prog 25 #[m, .int .i64 0, .int .i64 1] w (Ret w (.int .i64 0)) := by
  have h := Proves_ok w m LT NT 0 1 farT nextT hm codeT rootT (by decide) (by decide) (by decide +kernel)
  rw [show provesCode LT nextT 0 1 = 0 by decide +kernel] at h
  exact h
theorem proves_T10 {w : World} {m : Value} (hm : Mkt w m LT NT) : Calls Try.prog 25 #[m, .int .i64 1, .int .i64 0] w (Ret w (.int .i64 14)) := by
  have h := Proves_ok w m LT NT 1 0 farT nextT hm codeT rootT (by decide) (by decide) (by decide +kernel)
  rw [show provesCode LT nextT 1 0 = 14 by decide +kernel] at h
  exact h
end Go.Proofs.Ytkhkgmelicdpkaa
