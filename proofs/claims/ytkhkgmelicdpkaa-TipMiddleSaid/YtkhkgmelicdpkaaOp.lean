/- The arguments of the laws, opened: a sketch, eight small numbers, a market. No statement of the seat is proved here. -/
import Derived.Test.YtkhkgmelicdpkaaSk
import Derived.ProofKit
import Derived.OpenShut
import Derived.Deep.Slices
set_option linter.unusedVariables false
set_option linter.unusedSimpArgs false
namespace Go.Proofs.Ytkhkgmelicdpkaa
open Go.ChangeShapes Go.WideShapes Go.ChangeAt Go.RowKit

theorem Try.cells5 : Try.prog.cellsOf 5 = 1 := by kernel_rfl
theorem Try.cells50 : Try.prog.cellsOf 50 = 8 := by kernel_rfl
theorem Try.cells52 : Try.prog.cellsOf 52 = 25 := by kernel_rfl
section
variable {H : Type} {enc : TypeId × Value → H} {w : World} {base : Nat} {spare : Nat → Bool} {held : Bool}
theorem u8_open {fuel : Nat} {cs : List Value} {x : DataW H × List MemPlace} (h : DataW.trod enc Try.prog w base spare held fuel 5 cs = some x) : ∃ k : Nat, cs = [.int .u8 (k : Int)] ∧ k < 256 := by
  obtain ⟨n, hn, _, hw⟩ := DataW.trod_int Try.underlying5 h
  have hb := bounds_u8 hw
  exact ⟨n.toNat, by rw [hn, Int.toNat_of_nonneg hb.1], by omega⟩
theorem arr8_open {fuel : Nat} {cs : List Value} {x : DataW H × List MemPlace} (h : DataW.trod enc Try.prog w base spare held fuel 50 cs = some x) :
    ∃ f : Nat → Nat, ∀ i, f i < 256 ∧ (i < 8 → cs[i]? = some (.int .u8 (f i : Int))) := by
  obtain ⟨xs, m, _, _, hl, hx, hat⟩ := DataW.trod_array Try.underlying50 h
  have key : ∀ i, ∃ k : Nat, k < 256 ∧ (i < 8 → cs[i]? = some (.int .u8 (k : Int))) := by
    intro i
    by_cases hi : i < 8
    · have h1 := hat i hi
      rw [Try.cells5, Nat.mul_one] at h1
      obtain ⟨y, hy⟩ : ∃ y, xs[i]? = some y := ⟨xs[i]'(by omega), List.getElem?_eq_getElem (by omega)⟩
      rw [hy] at h1
      obtain ⟨k, hk, hb⟩ := u8_open h1
      refine ⟨k, hb, fun _ => ?_⟩
      have h2 : ((cs.drop i).take 1)[0]? = some (.int .u8 (k : Int)) := by rw [hk]; rfl
      rw [List.getElem?_take, if_pos (by omega), List.getElem?_drop] at h2
      simpa using h2
    · exact ⟨0, by omega, fun h => absurd h hi⟩
  exact ⟨fun i => Classical.choose (key i), fun i => Classical.choose_spec (key i)⟩
set_option maxRecDepth 100000 in
theorem sk_open {r : Reach} {b0 : Nat} {v : Value} {d : DataW H} {p : List MemPlace} (hv : Value.okWide Try.prog w r b0 52 v) (h : DataW.Trod enc Try.prog w base spare held 52 v d p) :
    ∃ sa co lo ba le, v = .agg sa ∧ SkA sa co lo ba le := by
  obtain ⟨cs, rfl, hsz⟩ := okWide_struct Try.underlying52 hv
  obtain ⟨fuel, hf⟩ := h
  obtain ⟨xs, n, _, _, hl, hx, hat⟩ := DataW.trod_struct Try.underlying52 hf
  have hx4 : xs.length = 4 := hx
  have get : ∀ i, i < 4 → ∃ y, xs[i]? = some y := fun i hi => ⟨xs[i]'(by omega), List.getElem?_eq_getElem (by omega)⟩
  obtain ⟨y0, e0⟩ := get 0 (by omega)
  obtain ⟨y1, e1⟩ := get 1 (by omega)
  obtain ⟨y2, e2⟩ := get 2 (by omega)
  obtain ⟨y3, e3⟩ := get 3 (by omega)
  have h0 : DataW.trod enc Try.prog w base spare held n 5 (((Value.agg cs).cells.toList.drop 0).take (Try.prog.cellsOf 5)) = some y0 := (hat 0 _ rfl).trans e0
  have h1 : DataW.trod enc Try.prog w base spare held n 50 (((Value.agg cs).cells.toList.drop 1).take (Try.prog.cellsOf 50)) = some y1 := (hat 1 _ rfl).trans e1
  have h2 : DataW.trod enc Try.prog w base spare held n 50 (((Value.agg cs).cells.toList.drop 9).take (Try.prog.cellsOf 50)) = some y2 := (hat 2 _ rfl).trans e2
  have h3 : DataW.trod enc Try.prog w base spare held n 50 (((Value.agg cs).cells.toList.drop 17).take (Try.prog.cellsOf 50)) = some y3 := (hat 3 _ rfl).trans e3
  rw [Try.cells5] at h0
  rw [Try.cells50] at h1 h2 h3
  obtain ⟨co, hco, hb⟩ := u8_open h0
  obtain ⟨lo, hlo⟩ := arr8_open h1
  obtain ⟨ba, hba⟩ := arr8_open h2
  obtain ⟨le, hle⟩ := arr8_open h3
  have at_ : ∀ (o i : Nat) (u : Value), i < 8 → ((((Value.agg cs).cells.toList).drop o).take 8)[i]? = some u → cs[o + i]? = some u := by
    intro o i u hi he
    rw [List.getElem?_take, if_pos hi, List.getElem?_drop] at he
    simpa [Value.cells] using he
  rw [Try.cells52] at hsz
  refine ⟨cs, co, lo, ba, le, rfl, hsz, ?_, fun i hi => at_ 1 i _ hi ((hlo i).2 hi), fun i hi => at_ 9 i _ hi ((hba i).2 hi), fun i hi => at_ 17 i _ hi ((hle i).2 hi), hb, fun i => (hlo i).1, fun i => (hba i).1, fun i => (hle i).1⟩
  have h2 : ((((Value.agg cs).cells.toList).drop 0).take 1)[0]? = some (.int .u8 (co : Int)) := by rw [hco]; rfl
  rw [List.getElem?_take, if_pos (by omega), List.getElem?_drop] at h2
  simpa [Value.cells] using h2
/-- Eight small numbers by value. -/
def Arr8 (v : Value) (f : Nat → Nat) : Prop := ∃ a : Array Value, v = .agg a ∧ a.size = 8 ∧ ∀ i, f i < 256 ∧ (i < 8 → a[i]? = some (.int .u8 (f i : Int)))
end
end Go.Proofs.Ytkhkgmelicdpkaa
