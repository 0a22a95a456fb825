/- What package tip answers at the examples of TipKnown. -/
import Derived.Test.YtkhkgmelicdpkaaWk
set_option linter.unusedVariables false
set_option linter.unusedSimpArgs false
namespace Go.Proofs.Ytkhkgmelicdpkaa
open Go.RowKit

theorem way_T03 {w : World} {m : Value} (hm : Mkt w m LT NT) : Calls Try.prog 43 #[m, .int .i64 0, .int .i64 3] w (RetList w [0, 1, 2, 3] 0) := by
  have h := Way_ok w m LT NT 0 3 farT nextT hm codeT rootT (by decide) (by decide)
  rw [show wayD nextT (fun v => (farT 3 v).toNat) 3 0 = [0, 1, 2, 3] by decide +kernel] at h
  exact h
theorem far_T03 {w : World} {m : Value} (hm : Mkt w m LT NT) : Calls Try.prog 45 #[m, .int .i64 0, .int .i64 3] w (Ret w (.tuple #[.int .i64 3, .int .i64 0])) := by
  have h := Far_ok w m LT NT 0 3 farT nextT hm codeT rootT (by decide) (by decide)
  rw [show farT 0 3 = 3 by decide +kernel] at h
  exact h
theorem cost_T3 {w : World} {m : Value} (hm : Mkt w m LT NT) : Calls Try.prog 39 #[m, .int .i64 3] w (Ret w (.tuple #[.int .i64 3, .int .i64 0])) := by
  have h := Cost_ok w m LT NT 3 farT nextT hm codeT rootT (by decide)
  rw [show costF LT farT (2 ^ 3) = 3 by decide +kernel] at h
  exact h
theorem cost_T4 {w : World} {m : Value} (hm : Mkt w m LT NT) : Calls Try.prog 39 #[m, .int .i64 4] w (Ret w (.tuple #[.int .i64 0, .int .i64 2])) :=
  Cost_bad w m LT NT 4 2 hm (by unfold laidCode; rw [if_neg (by rw [codeT]; simp)]; decide +kernel) (by decide)
theorem medians_S {w : World} {m : Value} (hm : Mkt w m LS NS) : Calls Try.prog 18 #[m] w (RetList w [0] 0) := by
  have h := Medians_ok w m LS NS farS nextS hm codeS rootS
  rw [show (List.range LS.length).filter (lightB LS nextS (nearK NS NS.length)) = [0] by decide +kernel] at h
  exact h
theorem medians_U {w : World} {m : Value} (hm : Mkt w m LU NU) : Calls Try.prog 18 #[m] w (RetList w [0, 1] 0) := by
  have h := Medians_ok w m LU NU farU nextU hm codeU rootU
  rw [show (List.range LU.length).filter (lightB LU nextU (nearK NU NU.length)) = [0, 1] by decide +kernel] at h
  exact h
theorem branch_T10 {w : World} {m : Value} (hm : Mkt w m LT NT) : Calls Try.prog 20 #[m, .int .i64 1, .int .i64 0] w (RetList w [0] 0) := by
  have h := Branch_ok w m LT NT 1 0 farT nextT hm codeT rootT (by decide) (by decide) (by decide +kernel)
  rw [show (List.range LT.length).filter (inBr nextT 1 0) = [0] by decide +kernel] at h
  exact h
theorem radius_T0 {w : World} {m : Value} (hm : Mkt w m LT NT) : Calls Try.prog 50 #[m, .int .i64 0] w (Ret w (.tuple #[.int .i64 3, .int .i64 0])) := by
  have h := Radius_ok w m LT NT 0 farT nextT hm codeT rootT (by decide)
  rw [show mxF (farT 0) (LT.length - 1) = 3 by decide +kernel] at h
  exact h
theorem centres_S {w : World} {m : Value} (hm : Mkt w m LS NS) : Calls Try.prog 27 #[m] w (RetList w [0] 0) := by
  have h := Centres_ok w m LS NS farS nextS hm codeS rootS
  rw [show smallF (radF farS LS.length) LS.length = [0] by decide +kernel] at h
  exact h
theorem longest_T {w : World} {m : Value} (hm : Mkt w m LT NT) : Calls Try.prog 29 #[m] w (RetInts w [0, 1, 2, 3] 0) := by
  have h := Longest_ok w m LT NT farT nextT hm codeT rootT
  rw [show longList (longN farT nextT LT.length (begF (radF farT LT.length) LT.length) LT.length) = [0, 1, 2, 3] by decide +kernel] at h
  exact h
theorem votes_T13 {w : World} {m : Value} (hm : Mkt w m LT NT) : Calls Try.prog 31 #[m, .int .i64 1, .int .i64 3] w (Ret w (.tuple #[.int .i64 1, .int .i64 3, .int .i64 0])) := by
  have h := Votes_ok w m LT NT 1 3 farT nextT hm codeT rootT (by decide) (by decide) (by decide)
  rw [show sumF (voteA LT farT 1 3) LT.length = 1 by decide +kernel, show sumF (voteB LT farT 1 3) LT.length = 3 by decide +kernel] at h
  exact h
theorem votes_T11 {w : World} {m : Value} (hm : Mkt w m LT NT) : Calls Try.prog 31 #[m, .int .i64 1, .int .i64 1] w (Ret w (.tuple #[.int .i64 0, .int .i64 0, .int .i64 6])) :=
  Votes_same w m LT NT 1 farT nextT hm codeT rootT (by decide)
theorem tips_T03 {w : World} {m v : Value} (hm : Mkt w m LT NT) (hv : Ints w v [0, 3]) : Calls Try.prog 33 #[m, v] w (Ret w (.tuple #[.int .i64 0, .int .i64 0])) := by
  have h := Tips_ok w m v LT NT [0, 3] farT nextT hm hv codeT rootT (by decide)
  refine h.mono fun e w' => ?_
  rintro ⟨h1, h2⟩
  refine ⟨?_, h1⟩
  rw [h2]
  rw [show tipsCode (LT.length : Int) [0, 3] [(0 : Int), 3].length = 0 by decide +kernel, show costF LT farT (maskOf [0, 3] [(0 : Int), 3].length) = 0 by decide +kernel]
  rfl
theorem tips_T11 {w : World} {m v : Value} (hm : Mkt w m LT NT) (hv : Ints w v [1, 1]) : Calls Try.prog 33 #[m, v] w (Ret w (.tuple #[.int .i64 0, .int .i64 7])) := by
  have h := Tips_ok w m v LT NT [1, 1] farT nextT hm hv codeT rootT (by decide)
  refine h.mono fun e w' => ?_
  rintro ⟨h1, h2⟩
  refine ⟨?_, h1⟩
  rw [h2]
  rw [show tipsCode (LT.length : Int) [1, 1] [(1 : Int), 1].length = 7 by decide +kernel]
  rfl
theorem tips_Tn {w : World} {m : Value} (hm : Mkt w m LT NT) : Calls Try.prog 33 #[m, .slice none 0 0] w (Ret w (.tuple #[.int .i64 0, .int .i64 4])) :=
  Tips_empty w m _ LT NT farT nextT hm (ints_nil w 0) codeT rootT
theorem best_T1 {w : World} {m : Value} (hm : Mkt w m LT NT) : Calls Try.prog 35 #[m, .int .i64 1] w (RetInts w [3] 0) := by
  have h := Best_ok w m LT NT 1 farT nextT hm codeT rootT (by decide) (by decide)
  rw [show bestList (bestN LT farT 1 (2 ^ LT.length)) = [3] by decide +kernel] at h
  exact h
theorem best_T2 {w : World} {m : Value} (hm : Mkt w m LT NT) : Calls Try.prog 35 #[m, .int .i64 2] w (RetInts w [0, 3] 0) := by
  have h := Best_ok w m LT NT 2 farT nextT hm codeT rootT (by decide) (by decide)
  rw [show bestList (bestN LT farT 2 (2 ^ LT.length)) = [0, 3] by decide +kernel] at h
  exact h
theorem best_T5 {w : World} {m : Value} (hm : Mkt w m LT NT) : Calls Try.prog 35 #[m, .int .i64 5] w (Ret w (.tuple #[.slice none 0 0, .int .i64 2])) :=
  Best_none w m LT NT 5 hm codeT (by decide)
theorem proves_T13 {w : World} {m : Value} (hm : Mkt w m LT NT) : Calls Try.prog 25 #[m, .int .i64 1, .int .i64 3] w (Ret w (.int .i64 5)) :=
  Proves_no w m LT NT 1 3 farT nextT hm codeT rootT (by decide) (by decide) (by decide +kernel)
theorem code_head {L : List Int} {N : List Lane} {c : Int} (h : headCode L N = c) (hc : c ≠ 0) : checkCode L N = c := by
  unfold checkCode
  rw [if_pos (by rw [h]; exact hc), h]
theorem code_lanes {L : List Int} {N : List Lane} {c : Int} (h0 : headCode L N = 0) (h : lanesCode L.length N N.length = c) (hc : c ≠ 0) : checkCode L N = c := by
  unfold checkCode
  rw [if_neg (by rw [h0]; simp), if_pos (by rw [h]; exact hc), h]
theorem check_nil {w : World} {m : Value} (hm : Mkt w m [] []) : Calls Try.prog 47 #[m] w (Ret w (.int .i64 4)) := by
  have h := Check_any w m [] [] hm
  rw [code_head (c := 4) (by decide) (by decide)] at h
  exact h
theorem check_1 {w : World} {m : Value} (hm : Mkt w m [1, 1] []) : Calls Try.prog 47 #[m] w (Ret w (.int .i64 5)) := by
  have h := Check_any w m [1, 1] [] hm
  rw [code_head (c := 5) (by decide +kernel) (by decide)] at h
  exact h
theorem check_2 {w : World} {m : Value} (hm : Mkt w m [1, 1] [(1, 0, 5)]) : Calls Try.prog 47 #[m] w (Ret w (.int .i64 7)) := by
  have h := Check_any w m [1, 1] [(1, 0, 5)] hm
  rw [code_lanes (c := 7) (by decide +kernel) (by decide +kernel) (by decide)] at h
  exact h
theorem check_3 {w : World} {m : Value} (hm : Mkt w m [1, 1] [(0, 1, 0)]) : Calls Try.prog 47 #[m] w (Ret w (.int .i64 1)) := by
  have h := Check_any w m [1, 1] [(0, 1, 0)] hm
  rw [code_lanes (c := 1) (by decide +kernel) (by decide +kernel) (by decide)] at h
  exact h
theorem code_4 : checkCode [1, 1, 1] [(0, 1, 1), (0, 1, 1)] = 5 := by
  unfold checkCode
  rw [if_neg (by decide +kernel), if_neg (by decide +kernel), if_neg]
  intro h
  have hd : ∀ x, x < 3 → ∀ y, y < 3 → x ≠ 2 → (nearK [(0, 1, 1), (0, 1, 1)] 2 x).testBit y = true → y ≠ 2 := by decide +kernel
  have h2 := h (fun x => x ≠ 2) (by decide) (fun x y hx hy h1 h3 => hd x hx y hy h1 h3) 2 (by decide)
  exact h2 rfl
theorem check_4 {w : World} {m : Value} (hm : Mkt w m [1, 1, 1] [(0, 1, 1), (0, 1, 1)]) : Calls Try.prog 47 #[m] w (Ret w (.int .i64 5)) := by
  have h := Check_any w m [1, 1, 1] [(0, 1, 1), (0, 1, 1)] hm
  rw [code_4] at h
  exact h
end Go.Proofs.Ytkhkgmelicdpkaa
