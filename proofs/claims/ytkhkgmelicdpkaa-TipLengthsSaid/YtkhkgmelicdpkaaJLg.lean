/- TipLengths: for every sketch and eight numbers the law returns true; no condition. -/
import Derived.Test.YtkhkgmelicdpkaaRows
import Derived.Test.YtkhkgmelicdpkaaLg
import Derived.Test.YtkhkgmelicdpkaaOp
set_option linter.unusedVariables false
set_option linter.unusedSimpArgs false
namespace Go.Proofs.Ytkhkgmelicdpkaa
open Go.ChangeShapes Go.WideShapes Go.ChangeAt Go.RowKit

theorem Try.own : ownKnob Try.prog.godebug = none := by kernel_rfl
theorem Try.laidOut : laidOutB Try.prog = true := by kernel_rfl

set_option maxRecDepth 100000 in
theorem okWide_arr8 {w : World} {r : Reach} {b : Nat} {v : Value} (h : Value.okWide Try.prog w r b 50 v) : ∃ cs, v = .agg cs ∧ cs.size = 8 := by
  simp only [Value.okWide, Try.underlying50] at h
  obtain ⟨cs, h1, h2, _⟩ := h
  exact ⟨cs, h1, h2.trans Try.cells50⟩
set_option maxRecDepth 100000 in
theorem tipLengths_lifted (os : Os) (started : os.Started) (H : Type) (enc : TypeId × Value → H) :
    ReturnsInHanded {} Try.checked os 15 .any (Rows.tipLengthsSpec.pre6 enc Try.prog Try.f15 Rows.tipLengthsRow.domain false) (Rows.tipLengthsSpec.post enc Try.prog Try.f15 false true false false) := by
  refine returnsInHanded_of_change (C := Try.checked) Try.own started (by kernel_rfl) Try.func15
    (ChangeSpec.witness6 (enc := enc) (C := Try.checked) false ⟨#[], #[.agg (Array.replicate 25 (.int .u8 0)), .agg (Array.replicate 8 (.int .u8 0))], []⟩ 8 (by kernel_rfl) (by kernel_rfl) (by kernel_rfl) (by kernel_rfl)) ?_
  intro W base args ds gs before hval0 hW hcnd _
  have hval : ∀ (j : Nat) t v, Try.f15.params[j]? = some t → args[j]? = some v → Value.okWide Try.prog W .any base t v := hval0
  have hW' := hW
  obtain ⟨p, q, hA0, hV, rfl, hfz, hnd⟩ := hW
  have hA : DataW.TrodAll enc Try.prog W 0 (fun _ => true) true Try.f15.params.toList args.toList ds p := hA0
  rw [Try.params15] at hA hval
  obtain ⟨v0, v1, d0, d1, p0, p1, rfl, rfl, rfl, h0, h1⟩ := trodAll_two hA
  obtain ⟨rfl, rfl⟩ := trodVars_none hV
  have k0 := h0
  have lt0 : ∀ x ∈ p0, x.block < W.heap.size := by obtain ⟨m, hm⟩ := k0; exact DataW.trod_lt m _ _ _ hm
  obtain ⟨sa, co, lo, ba, le, rfl, hs⟩ := sk_open (hval 0 52 v0 rfl rfl) h0
  have k1 := h1
  have lt1 : ∀ x ∈ p1, x.block < W.heap.size := by obtain ⟨m, hm⟩ := k1; exact DataW.trod_lt m _ _ _ hm
  obtain ⟨qa, rfl, hqs⟩ := okWide_arr8 (hval 1 50 v1 rfl rfl)
  obtain ⟨f, hf⟩ : ∃ f : Nat → Nat, ∀ i, f i < 256 ∧ (i < 8 → qa[i]? = some (.int .u8 (f i : Int))) := by
    obtain ⟨fuel, hfu⟩ := h1
    obtain ⟨f, hf⟩ := arr8_open hfu
    exact ⟨f, fun i => ⟨(hf i).1, fun hi => by have := (hf i).2 hi; simpa [Value.cells] using this⟩⟩
  clear hA0 hval0
  refine (lengths_law W sa co lo ba le hs qa f hqs hf).mono fun e W' ⟨he, bel⟩ => ?_
  subst he
  exact ⟨_, rfl, _, _, _, [], _, [], hW', trodAll_mk1 (shut_bool Try.underlying4 _), trodAll_cons_mk (Below.trod Try.laidOut (by kernel_rfl) (of_decide_eq_true (by kernel_rfl)) k0 bel lt0) (trodAll_cons_mk (Below.trod Try.laidOut (by kernel_rfl) (of_decide_eq_true (by kernel_rfl)) k1 bel lt1) trodAll_mk0), rfl, bel.frame _, fun h => by cases h⟩

theorem tipLengths_holds : Rows.TipLengthsSaid :=
  OpenClaim.holds_of_wide 15 Try.f15 rfl rfl rfl rfl rfl rfl rfl ⟨rfl, rfl, rfl, rfl, rfl⟩ rfl rfl rfl rfl rfl (by kernel_rfl) Try.func15 (by kernel_rfl)
    (of_decide_eq_true (by kernel_rfl)) (by unfold Func.isWrapper; first | (rw [if_pos (by decide +kernel)]; kernel_rfl) | (rw [if_neg (by decide +kernel)]; exact ⟨rfl, rfl⟩))
    (fun os started H enc _ => tipLengths_lifted os started H enc)
end Go.Proofs.Ytkhkgmelicdpkaa
