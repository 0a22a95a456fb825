/- A sketch's market: what the laws read of it. -/
import Derived.Test.YtkhkgmelicdpkaaSt
import Derived.Test.YtkhkgmelicdpkaaPn
set_option linter.unusedVariables false
set_option linter.unusedSimpArgs false
namespace Go.Proofs.Ytkhkgmelicdpkaa
open Go.RowKit

def MadeSl (w : World) (most : Nat) (e : Ending) (w' : World) : Prop :=
  ∃ b o c a' c' fc L N far next, e = .returned (.tuple #[.agg #[.slice (some ⟨b, o, none⟩) L.length c, .slice a' N.length c'], .agg fc]) ∧ Mkt w' (.agg #[.slice (some ⟨b, o, none⟩) L.length c, .slice a' N.length c']) L N ∧ FarA fc far ∧ checkCode L N = 0 ∧ AllRooted L.length N far next ∧ 1 ≤ L.length ∧ L.length ≤ most ∧ (∀ j, j < N.length → (getT N j).2.1 = ((j + 1 : Nat) : Int)) ∧ Below w.heap.size w w'
theorem made_sl (w : World) (sa : Array Value) (co : Nat) (lo ba le : Nat → Nat) (most : Nat) (hs : SkA sa co lo ba le) (h1 : 1 ≤ most) (h8 : most ≤ 8) : Calls Try.prog 37 #[.agg sa, .int .i64 (most : Int)] w (MadeSl w most) := by
  refine (made_sk w sa co lo ba le most hs h1 h8).mono fun e w' => ?_
  rintro ⟨a, n, c, a', n', c', fc, L, N, far, next, rfl, hm, hf, h0, hR, hl1, hl8, hlane, hb⟩
  obtain ⟨_, xa, xc, xb, xo, hle, hla, _⟩ := mkt_l hm
  obtain ⟨_, ya, yc, yb, yo, hne, _, _⟩ := mkt_n hm
  simp only [Value.slice.injEq] at hle hne
  obtain ⟨rfl, rfl, rfl⟩ := hle
  obtain ⟨rfl, rfl, rfl⟩ := hne
  obtain rfl : a = some ⟨xb, xo, none⟩ := hla.resolve_left (by omega)
  exact ⟨_, _, _, _, _, _, _, _, _, _, rfl, hm, hf, h0, hR, hl1, hl8, hlane, hb⟩
theorem SkSt.load {g : Nat} {b o c : Nat} {nv : Value} {fc : Array Value} {L : List Int} {N : List Lane} {far : Nat → Nat → Int} {wr : World} (h : SkSt g (.slice (some ⟨b, o, none⟩) L.length c) nv fc L N far wr) {i : Nat} (hi : i < L.length) : wr.cell? ⟨b, o + i, none⟩ = some (.int .i64 (gI L i)) := by
  obtain ⟨_, xa, xc, xb, xo, hle, hla, hlc⟩ := mkt_l h.mkt
  simp only [Value.slice.injEq] at hle
  obtain ⟨rfl, _, rfl⟩ := hle
  have := hla.resolve_left (by omega)
  simp at this
  obtain ⟨rfl, rfl⟩ := this
  exact hlc i hi
theorem SkSt.dist {g : Nat} {lv nv : Value} {fc : Array Value} {L : List Int} {N : List Lane} {far : Nat → Nat → Int} {wr : World} (h : SkSt g lv nv fc L N far wr) {x y : Nat} (hx : x < 8) (hy : y < 8) : wr.cell? ⟨g + 1, x * 8 + y, none⟩ = some (.int .i64 (far x y)) :=
  (cell_of h.bq _).trans (h.far_.at_ x y hx hy)
end Go.Proofs.Ytkhkgmelicdpkaa
