/- The walk of TipSteps: for every sketch it returns true. -/
import Derived.Test.YtkhkgmelicdpkaaSk
import Derived.Test.YtkhkgmelicdpkaaWk
set_option linter.unusedVariables false
set_option linter.unusedSimpArgs false
namespace Go.Proofs.Ytkhkgmelicdpkaa
open Go.RowKit

theorem mkt_l {w : World} {lv nv : Value} {L : List Int} {N : List Lane} (h : Mkt w (.agg #[lv, nv]) L N) : Ints w lv L := by
  obtain ⟨a, b, e, h1, h2⟩ := h
  simp at e
  rw [e.1]
  exact h1
theorem mkt_n {w : World} {lv nv : Value} {L : List Int} {N : List Lane} (h : Mkt w (.agg #[lv, nv]) L N) : Lanes w nv N := by
  obtain ⟨a, b, e, h1, h2⟩ := h
  simp at e
  rw [e.2]
  exact h2
theorem Cost_lin {w : World} {m : Value} {L : List Int} {N : List Lane} {a : Nat} {far : Nat → Nat → Int} {next : Nat → Nat → Nat} (hm : Mkt w m L N) (h0 : checkCode L N = 0) (hR : AllRooted L.length N far next) (ha : a < L.length) :
    Calls Try.prog 39 #[m, .int .i64 a] w (Ret w (.tuple #[.int .i64 (sumF (farLoad L far a) L.length), .int .i64 0])) := by
  have h := Cost_ok w m L N a far next hm h0 hR ha
  rw [cost_single ha (fun c hc => ((hR c hc).bound a ha).2)] at h
  exact h
def StRel (W : World) (N : List Lane) (iv : Value) (wr : World) : Prop := ∃ k : Nat, k ≤ N.length ∧ iv = .int .i64 (k : Int) ∧ Below W.heap.size W wr
set_option maxRecDepth 100000 in
set_option maxHeartbeats 4000000 in
theorem steps_ok (w : World) (sa : Array Value) (co : Nat) (lo ba le : Nat → Nat) (hs : SkA sa co lo ba le) : Calls Try.prog 6 #[.agg sa] w (Ret w (.bool true)) := by
  have HS := Lib.hid hs
  clear hs
  have hW := Below.refl w.heap.size w
  go_enter Try.func6, Try.ntmps6
  go_wp2_with (first
    | ((with_reducible show wpList _ _ _ (⟨_, Op.load 52 _, _, _, _, _⟩ :: _) _ _); refine list_load25 rfl _ rfl w.heap.size rfl sa (by exact heap_alloc_new _ _) HS.out.size ?_)
    | (go_at_call 37; refine (made_sk _ sa co lo ba le 8 HS.out (by omega) (by omega)).mono ?_; rintro e w1 ⟨la, ln, lc, na, nn, nc, fc, L, N, far, next, rfl, hm, hf, h0, hR, hl1, hl8, hlane, hb⟩; (have HM := Lib.hid hm); (have HF := Lib.hid hf); (have H0 := Lib.hid h0); (have HR := Lib.hid hR); (have HLN := Lib.hid hlane); clear hm hf h0 hR hlane)
    | ((with_reducible show wpList _ _ _ (⟨_, Op.store 54 _ _, _, _, _, _⟩ :: _) _ _); refine list_sk (by rfl) _ _ (by rfl) (by rfl) (by rfl) (by rfl) HM.out HF.out ?_; intro W hS hBW; (have c0 := hS.c0); (have c1 := hS.c1))
    | (go_at_call 38; refine (sum_any _ _ L (by exact mkt_l hS.mkt) hl8 (valid_of H0.out).loads).mono ?_; rintro e w2 ⟨rfl, rfl⟩))
  have HSW := Lib.hid hS
  have HB1 := Lib.hid ((((Below.refl w.heap.size w).alloc (Nat.le_refl _) (.cells sa 52)).trans (hb.mono (by simp))).trans (hBW.mono (Nat.le_trans (by simp) hb.size)))
  obtain ⟨_, xa, xc, xb, xo, hxe, hxa, hxc⟩ := mkt_n hS.mkt
  simp only [Value.slice.injEq] at hxe
  obtain ⟨rfl, rfl, rfl⟩ := hxe
  have HXC := Lib.hid hxc
  have HXA := Lib.hid hxa
  have hg1 : w1.heap.size < W.heap.size := World.block_lt_of_cell? W _ c0
  clear hxc hxa hS c0 c1 hb hBW
  go_loopw [25] (StRel W N) (fun i _ => N.length - (intOf i).toNat)
  case atStart => exact ⟨0, Nat.zero_le _, rfl, Below.refl _ _⟩
  case round =>
    obtain ⟨k, hk, rfl, hbr⟩ := hrel
    have HBR := Lib.hid hbr
    clear hbr
    by_cases hlt : k < N.length
    · obtain rfl : na = some ⟨xb, xo, none⟩ := HXA.out.resolve_left (by omega)
      obtain ⟨hc0, hc1, hc2⟩ := HXC.out k hlt
      replace hc0 := Below.cellOf HBR.out hc0
      replace hc1 := Below.cellOf HBR.out hc1
      replace hc2 := Below.cellOf HBR.out hc2
      obtain ⟨x, y, hx, hy, hxy, hyn, hd1, hd9⟩ := (valid_of H0.out).good k hlt
      obtain ⟨d, hd⟩ : ∃ d : Int, d = (getT N k).2.2 := ⟨_, rfl⟩
      rw [← hd] at hc2 hd1 hd9
      rw [hx] at hc0
      rw [hy] at hc1
      have hS := HSW.out.below HBR.out
      have c0 := hS.c0
      have c1 := hS.c1
      have hg2 : w1.heap.size < wr.heap.size := by have := HBR.out.size; omega
      have hg3 : ¬ (w1.heap.size = wr.heap.size) := by omega
      have HXY := Lib.hid (And.intro hx (And.intro hy hd))
      have HS1 := Lib.hid hS
      clear hx hy hd hS
      have hJ : Adj N x y := (adj_iff (valid_of H0.out).good x y).2 ⟨k, hlt, .inl ⟨HXY.out.1, HXY.out.2.1⟩⟩
      have T := tree_of (valid_of H0.out).lanes (valid_of H0.out).good HR.out
      have hxn : x < L.length := Nat.lt_trans hxy hyn
      have hlen : lenK N N.length x y = d := by
        rw [HXY.out.2.2]
        exact len_found (valid_of H0.out).good (fun i j hi hj h1 h2 => lane_uniq (valid_of H0.out).lanes (by omega) (valid_of H0.out).good HR.out hi hj h1 h2) hlt (.inl ⟨HXY.out.1, HXY.out.2.1⟩)
      have hst := T.step_cost rfl hxn hyn hJ
      rw [hlen] at hst
      have hL := (valid_of H0.out).loads
      have hbx := (sumF_le _ 648 _ (farLoad_bound hL (fun c hc => (HR.out c hc).bound x hxn))) L.length (Nat.le_refl _)
      have hby := (sumF_le _ 648 _ (farLoad_bound hL (fun c hc => (HR.out c hc).bound y hyn))) L.length (Nat.le_refl _)
      have hbT := sumF_bound _ _ (nearLoad_bound (far := far) (over := y) (corner := x) hL) L.length (Nat.le_refl _)
      have hbS := sumF_bound _ _ hL L.length (Nat.le_refl _)
      have HL := Lib.hid hL
      have HFX := Lib.hid (fun c hc => (HR.out c hc).bound x hxn)
      obtain ⟨FX, hFX⟩ : ∃ F, F = sumF (farLoad L far x) L.length := ⟨_, rfl⟩
      obtain ⟨FY, hFY⟩ : ∃ F, F = sumF (farLoad L far y) L.length := ⟨_, rfl⟩
      obtain ⟨TT, hTT⟩ : ∃ F, F = sumF (nearLoad L far y x) L.length := ⟨_, rfl⟩
      obtain ⟨SS, hSS⟩ : ∃ F, F = sumF (gI L) L.length := ⟨_, rfl⟩
      have K1 : Hid (∀ (w : World) (m : Value), Mkt w m L N → Calls Try.prog 39 #[m, .int .i64 (x : Int)] w (Ret w (.tuple #[.int .i64 FX, .int .i64 0]))) := Lib.hid (fun w m hm => by rw [hFX]; exact Cost_lin hm H0.out HR.out hxn)
      have K2 : Hid (∀ (w : World) (m : Value), Mkt w m L N → Calls Try.prog 39 #[m, .int .i64 (y : Int)] w (Ret w (.tuple #[.int .i64 FY, .int .i64 0]))) := Lib.hid (fun w m hm => by rw [hFY]; exact Cost_lin hm H0.out HR.out hyn)
      have K3 : Hid (∀ (w : World) (m fv : Value), Mkt w m L N → FarV fv far → Calls Try.prog 40 #[m, fv, .int .i64 (x : Int), .int .i64 (y : Int)] w (RetList w ((List.range L.length).filter (nearerB far y x)) TT)) := Lib.hid (fun w m fv hm hf => by rw [hTT]; exact lbranch_any w m fv L N far x y hm hf hl8 hxn hyn HL.out)
      have K4 : Hid (∀ (w : World) (m fv : Value), Mkt w m L N → FarV fv far → Calls Try.prog 41 #[m, fv, .int .i64 (x : Int)] w (Ret w (.int .i64 FX))) := Lib.hid (fun w m fv hm hf => by rw [hFX]; exact lcost_any w m fv L N far x hm hf hl8 hxn HL.out HFX.out)
      rw [← hFX, ← hFY, ← hTT, ← hSS] at hst
      rw [← hFX] at hbx
      rw [← hFY] at hby
      rw [← hTT] at hbT
      rw [← hSS] at hbS
      rw [← hSS]
      clear hFX hFY hTT hSS hL hlen T hJ
      have hpb : -5184 ≤ d * (TT - (SS - TT)) ∧ d * (TT - (SS - TT)) ≤ 5184 := by omega
      have hEq : ((FX - FY) != d * (TT - (SS - TT))) = false := by simp; exact hst
      have HST := Lib.hid hst
      clear hst
      go_wp2_with (first
        | (go_at_call_of 39 (Value.int .i64 (x : Int)); refine (K1.out _ _ (HS1.out.mkt.below (Below.one _ _))).mono ?_; rintro e w2 ⟨rfl, hb2⟩; (have HS2 := Lib.hid ((HS1.out.below (Below.one _ _)).below hb2)); (have c0 := HS2.out.c0); (have c1 := HS2.out.c1); (have q0 := Below.cellOf hb2 (new_cell3 wr (.int .i64 (x : Int)) (.int .i64 (y : Int)) (.int .i64 d) 58).1); (have q1 := Below.cellOf hb2 (new_cell3 wr (.int .i64 (x : Int)) (.int .i64 (y : Int)) (.int .i64 d) 58).2.1); (have q2 := Below.cellOf hb2 (new_cell3 wr (.int .i64 (x : Int)) (.int .i64 (y : Int)) (.int .i64 d) 58).2.2))
        | (go_at_call_of 39 (Value.int .i64 (y : Int)); refine (K2.out _ _ HS2.out.mkt).mono ?_; rintro e w3 ⟨rfl, hb3⟩; (have HS3 := Lib.hid (HS2.out.below hb3)); (have c0 := HS3.out.c0); (have c1 := HS3.out.c1); (have q0 := Below.cellOf hb3 q0); (have q1 := Below.cellOf hb3 q1); (have q2 := Below.cellOf hb3 q2))
        | (go_at_call 40; refine (K3.out _ _ _ HS3.out.mkt HS3.out.fv).mono ?_; rintro e w4 ⟨vb, rfl, hvb, hb4⟩; (have HS4 := Lib.hid (HS3.out.below hb4)); (have c0 := HS4.out.c0); (have c1 := HS4.out.c1); (have q0 := Below.cellOf hb4 q0); (have q1 := Below.cellOf hb4 q1); (have q2 := Below.cellOf hb4 q2))
        | (go_at_call 41; refine (K4.out _ _ _ HS4.out.mkt HS4.out.fv).mono ?_; rintro e w5 ⟨rfl, hb5⟩; (have q0 := Below.cellOf hb5 q0); (have q1 := Below.cellOf hb5 q1); (have q2 := Below.cellOf hb5 q2))
        | ((with_reducible show wpList _ _ _ (⟨_, Op.load 54 _, _, _, _, _⟩ :: _) _ _); refine list_load64 (by rfl) _ (by rfl) (w1.heap.size + 1) (by rfl) fc (by first | exact HS4.out.bq | exact HS3.out.bq) HF.out.size ?_))
      go_roundw
      case rel =>
        have e1 := HBR.out.trans ((Below.one wr (.cells #[.int .i64 (x : Int), .int .i64 (y : Int), .int .i64 d] 58)).mono HBR.out.size)
        have e2 := e1.trans (hb2.mono e1.size)
        have e3 := e2.trans (hb3.mono e2.size)
        have e4 := e3.trans (hb4.mono e3.size)
        exact ⟨k + 1, by omega, by go_num, e4.trans (hb5.mono e4.size)⟩
      case measure => simp [intOf]; omega
    · obtain rfl : k = N.length := by omega
      go_wp2_with (go_at_call 17; refine (works_ok _).mono ?_; rintro e w2 ⟨rfl, hb2⟩)
      go_ret
      exact ⟨rfl, HB1.out.trans ((HBR.out.trans (hb2.mono HBR.out.size)).mono HB1.out.size)⟩
end Go.Proofs.Ytkhkgmelicdpkaa
