/- A market as an argument, opened. No statement of the seat is proved here. -/
import Derived.Test.YtkhkgmelicdpkaaRe
import Derived.ProofKit
import Derived.OpenShut
import Derived.Deep.Slices
set_option linter.unusedVariables false
set_option linter.unusedSimpArgs false
namespace Go.Proofs.Ytkhkgmelicdpkaa
open Go.ChangeShapes Go.WideShapes Go.ChangeAt Go.RowKit

theorem Try.cells3 : Try.prog.cellsOf 3 = 1 := by kernel_rfl
theorem Try.cells22 : Try.prog.cellsOf 22 = 1 := by kernel_rfl
theorem Try.cells23 : Try.prog.cellsOf 23 = 1 := by kernel_rfl
theorem Try.cells25 : Try.prog.cellsOf 25 = 2 := by kernel_rfl
theorem Try.cells58 : Try.prog.cellsOf 58 = 3 := by kernel_rfl
/-- A market that may be read, or one that is too large anyhow. -/
def MktArg (w : World) (v : Value) : Prop := (∃ L N, Mkt w v L N) ∨ ∃ la n lc na k nc, v = .agg #[.slice la n lc, .slice na k nc] ∧ (40 < n ∨ 40 < k)
theorem addr_plain {w : World} {a : Addr} {v : Value} (h : w.cell? a = some v) : a.spot = none := by
  unfold World.cell? at h
  split at h
  · split at h
    · cases h
    · rename_i h'
      simpa using h'
  · cases h
section
variable {H : Type} {enc : TypeId × Value → H} {w : World} {base : Nat} {spare : Nat → Bool} {held : Bool}
theorem ints_open {fuel : Nat} {cs : List Value} {x : DataW H × List MemPlace} (h : DataW.trod enc Try.prog w base spare held fuel 22 cs = some x) :
    ∃ a n c, cs = [.slice a n c] ∧ (n ≤ 1000000000000 → ∃ L, L.length = n ∧ Ints w (.slice a n c) L) := by
  rcases open_ints Try.underlying22' Try.underlying3 Try.cells3 h with ⟨rfl, _⟩ | ⟨a, n, c, zs, rfl, _, hnc, _, hz, _, hc, _⟩
  · exact ⟨none, 0, 0, rfl, fun _ => ⟨[], rfl, by simp, none, 0, 0, 0, rfl, .inl rfl, fun i hi => by simp at hi⟩⟩
  · refine ⟨some a, n, c, rfl, fun hn => ⟨zs.take n, ?_, ?_⟩⟩
    · rw [List.length_take, hz]; split <;> omega
    · have hl : (zs.take n).length = n := by rw [List.length_take, hz]; split <;> omega
      have hzn : n ≤ zs.length := by rw [hz]; split <;> omega
      refine ⟨by rw [hl]; exact hn, some a, c, a.block, a.off, by rw [hl], ?_, fun i hi => ?_⟩
      · rcases Nat.eq_zero_or_pos n with h0 | h0
        · exact .inl (by rw [hl]; exact h0)
        · have h1 := hc 0 (by omega)
          have h2 : a.add 0 = a := by simp [Addr.add]
          rw [h2] at h1
          have h3 := addr_plain h1
          obtain ⟨b, o, s⟩ := a
          simp only at h3
          subst h3
          exact .inr rfl
      · rw [hl] at hi
        have h1 := hc i (by omega)
        have h0 := hc 0 (by omega)
        have h2 : a.add 0 = a := by simp [Addr.add]
        rw [h2] at h0
        have h3 := addr_plain h0
        obtain ⟨b, o, s⟩ := a
        simp only at h3
        subst h3
        rw [Addr.add_lit] at h1
        rw [h1]
        simp [gI, List.getD_eq_getElem?_getD, List.getElem?_take, hi]
theorem lane_open {fuel : Nat} {cs : List Value} {x : DataW H × List MemPlace} (h : DataW.trod enc Try.prog w base spare held fuel 58 cs = some x) : ∃ l : Lane, cs = [.int .i64 l.1, .int .i64 l.2.1, .int .i64 l.2.2] := by
  obtain ⟨xs, m, _, _, hl, hx, hat⟩ := DataW.trod_array Try.underlying58 h
  rw [Try.cells58] at hl
  have key : ∀ i, i < 3 → ∃ n : Int, cs[i]? = some (.int .i64 n) := by
    intro i hi
    have h1 := hat i hi
    rw [Try.cells3, Nat.mul_one] at h1
    obtain ⟨y, hy⟩ : ∃ y, xs[i]? = some y := ⟨xs[i]'(by omega), List.getElem?_eq_getElem (by omega)⟩
    rw [hy] at h1
    obtain ⟨n, hn, _, _⟩ := DataW.trod_int Try.underlying3 h1
    refine ⟨n, ?_⟩
    have h2 : ((cs.drop i).take 1)[0]? = some (.int .i64 n) := by rw [hn]; rfl
    rw [List.getElem?_take, if_pos (by omega), List.getElem?_drop] at h2
    simpa using h2
  obtain ⟨p, hp⟩ := key 0 (by omega)
  obtain ⟨q, hq⟩ := key 1 (by omega)
  obtain ⟨r, hr⟩ := key 2 (by omega)
  refine ⟨(p, q, r), ?_⟩
  match cs, hl, hp, hq, hr with
  | [a, b, c], _, hp, hq, hr =>
    simp at hp hq hr
    rw [hp, hq, hr]
theorem lanes_open {fuel : Nat} {cs : List Value} {x : DataW H × List MemPlace} (h : DataW.trod enc Try.prog w base spare held fuel 23 cs = some x) :
    ∃ a n c, cs = [.slice a n c] ∧ (n ≤ 1000000000000 → ∃ N, N.length = n ∧ Lanes w (.slice a n c) N) := by
  rcases Go.Deep.open_slice Try.underlying23' h with ⟨rfl, _⟩ | ⟨a, n, c, m, f, D, Pl, rfl, _, hnc, _, hm, _, hc⟩
  · exact ⟨none, 0, 0, rfl, fun _ => ⟨[], rfl, by simp, none, 0, 0, 0, rfl, .inl rfl, fun i hi => by simp at hi⟩⟩
  · have hnm : n ≤ m := by rw [hm]; split <;> omega
    have key : ∀ i, ∃ l : Lane, i < n → w.cell? (a.add (i * 3)) = some (.int .i64 l.1) ∧ w.cell? ((a.add (i * 3)).add 1) = some (.int .i64 l.2.1) ∧ w.cell? ((a.add (i * 3)).add 2) = some (.int .i64 l.2.2) := by
      intro i
      by_cases hi : i < n
      · obtain ⟨cs', h1, h2⟩ := hc i (by omega)
        rw [Try.cells58] at h1
        obtain ⟨l, rfl⟩ := lane_open h2
        obtain ⟨_, _, h3⟩ := World.cells?_some h1
        refine ⟨l, fun _ => ⟨?_, ?_, ?_⟩⟩
        · have := h3 0 (by omega)
          simpa [Addr.add] using this
        · simpa using h3 1 (by omega)
        · simpa using h3 2 (by omega)
      · exact ⟨(0, 0, 0), fun h => absurd h hi⟩
    obtain ⟨F, hF⟩ : ∃ F : Nat → Lane, ∀ i, i < n → w.cell? (a.add (i * 3)) = some (.int .i64 (F i).1) ∧ w.cell? ((a.add (i * 3)).add 1) = some (.int .i64 (F i).2.1) ∧ w.cell? ((a.add (i * 3)).add 2) = some (.int .i64 (F i).2.2) :=
      ⟨fun i => Classical.choose (key i), fun i => Classical.choose_spec (key i)⟩
    have hl : ((List.range n).map F).length = n := by simp
    refine ⟨some a, n, c, rfl, fun hn => ⟨(List.range n).map F, hl, by rw [hl]; exact hn, some a, c, a.block, a.off, by rw [hl], ?_, fun i hi => ?_⟩⟩
    · rcases Nat.eq_zero_or_pos n with h0 | h0
      · exact .inl (by rw [hl]; exact h0)
      · have h1 := (hF 0 h0).1
        have h2 : a.add (0 * 3) = a := by simp [Addr.add]
        rw [h2] at h1
        have h3 := addr_plain h1
        obtain ⟨b, o, s⟩ := a
        simp only at h3
        subst h3
        exact .inr rfl
    · rw [hl] at hi
      have h1 := (hF 0 (by omega)).1
      have h2 : a.add (0 * 3) = a := by simp [Addr.add]
      rw [h2] at h1
      have h3 := addr_plain h1
      obtain ⟨b, o, s⟩ := a
      simp only at h3
      subst h3
      have hg : getT ((List.range n).map F) i = F i := by simp [getT, hi]
      obtain ⟨g1, g2, g3⟩ := hF i hi
      simp only [Addr.add_lit] at g1 g2 g3
      rw [hg]
      exact ⟨g1, g2, g3⟩
set_option maxRecDepth 100000 in
theorem mkt_open {r : Reach} {b0 : Nat} {v : Value} {d : DataW H} {p : List MemPlace} (hv : Value.okWide Try.prog w r b0 25 v) (h : DataW.Trod enc Try.prog w base spare held 25 v d p) : MktArg w v := by
  obtain ⟨cs, rfl, hsz⟩ := okWide_struct Try.underlying25 hv
  rw [Try.cells25] at hsz
  obtain ⟨fuel, hf⟩ := h
  obtain ⟨xs, n, _, _, hl, hx, hat⟩ := DataW.trod_struct Try.underlying25 hf
  have hx2 : xs.length = 2 := hx
  have get : ∀ i, i < 2 → ∃ y, xs[i]? = some y := fun i hi => ⟨xs[i]'(by omega), List.getElem?_eq_getElem (by omega)⟩
  obtain ⟨y0, e0⟩ := get 0 (by omega)
  obtain ⟨y1, e1⟩ := get 1 (by omega)
  have h0 : DataW.trod enc Try.prog w base spare held n 22 (((Value.agg cs).cells.toList.drop 0).take (Try.prog.cellsOf 22)) = some y0 := (hat 0 _ rfl).trans e0
  have h1 : DataW.trod enc Try.prog w base spare held n 23 (((Value.agg cs).cells.toList.drop 1).take (Try.prog.cellsOf 23)) = some y1 := (hat 1 _ rfl).trans e1
  rw [Try.cells22] at h0
  rw [Try.cells23] at h1
  obtain ⟨la, k0, lc, q0, i0⟩ := ints_open h0
  obtain ⟨na, k1, nc, q1, i1⟩ := lanes_open h1
  have hcs : cs = #[.slice la k0 lc, .slice na k1 nc] := by
    obtain ⟨l⟩ := cs
    simp only [Value.cells] at q0 q1
    match l, hsz, q0, q1 with
    | [a, b], _, q0, q1 =>
      simp at q0 q1
      rw [q0, q1]
  subst hcs
  by_cases hb : k0 ≤ 1000000000000 ∧ k1 ≤ 1000000000000
  · obtain ⟨L, hL, hiL⟩ := i0 hb.1
    obtain ⟨N, hN, hiN⟩ := i1 hb.2
    exact .inl ⟨L, N, _, _, rfl, hiL, hiN⟩
  · exact .inr ⟨la, k0, lc, na, k1, nc, rfl, by omega⟩
end
set_option maxRecDepth 100000 in
set_option maxHeartbeats 1000000 in
theorem large_shape (w : World) (la na : Option Addr) (n lc k nc : Nat) (h : 40 < n ∨ 40 < k) :
    Calls Try.prog 16 #[.agg #[.slice la n lc, .slice na k nc]] w (Ret w (.bool true)) := by
  by_cases h1 : 40 < n
  · have i1 : (40 : Int) < (n : Int) := by omega
    go_enter Try.func16, Try.ntmps16
    go_wp2
    go_ret
    exact ⟨rfl, Below.one _ _⟩
  · have hk : 40 < k := by omega
    have i1 : decide ((40 : Int) < (n : Int)) = false := decide_eq_false (by omega)
    have i2 : (40 : Int) < (k : Int) := by omega
    have i3 : ¬ (40 < n) := h1
    go_enter Try.func16, Try.ntmps16
    go_wp2
    go_ret
    exact ⟨rfl, Below.one _ _⟩
end Go.Proofs.Ytkhkgmelicdpkaa
