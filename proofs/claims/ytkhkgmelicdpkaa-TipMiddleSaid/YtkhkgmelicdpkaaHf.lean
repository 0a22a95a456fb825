/- The walk of TipHalf: for every sketch it returns true. -/
import Derived.Test.YtkhkgmelicdpkaaSm
set_option linter.unusedVariables false
set_option linter.unusedSimpArgs false
namespace Go.Proofs.Ytkhkgmelicdpkaa
open Go.RowKit

/-- The costs of the first k corners. -/
def costsL (L : List Int) (far : Nat → Nat → Int) (k : Nat) : List Int := (List.range k).map fun c => sumF (farLoad L far c) L.length
theorem costsL_length (L : List Int) (far : Nat → Nat → Int) (k : Nat) : (costsL L far k).length = k := by simp [costsL]
theorem costsL_at (L : List Int) (far : Nat → Nat → Int) {k i : Nat} (h : i < k) : gI (costsL L far k) i = sumF (farLoad L far i) L.length := by simp [gI, costsL, h]
theorem costsL_succ (L : List Int) (far : Nat → Nat → Int) (k : Nat) : costsL L far (k + 1) = costsL L far k ++ [sumF (farLoad L far k) L.length] := by
  simp only [costsL, List.range_succ, List.map_append, List.map_cons, List.map_nil]
/-- The corners that cost least are those without a heavy branch. -/
theorem least_med {L : List Int} {N : List Lane} {far : Nat → Nat → Int} {next : Nat → Nat → Nat} (T : Tree L.length (Adj N) (lenK N N.length) far next) (hL : ∀ c, c < L.length → 0 ≤ gI L c ∧ gI L c ≤ 9) (h1 : 1 ≤ L.length) : leastL (costsL L far L.length) = medL L N next := by
  unfold leastL medL
  rw [costsL_length]
  refine List.filter_congr fun i hi => ?_
  have hi' : i < L.length := List.mem_range.1 hi
  rw [costsL_at L far hi']
  have key : sumF (farLoad L far i) L.length = mnF (gI (costsL L far L.length)) (L.length - 1) ↔ Light L.length (Adj N) L next i := by
    obtain ⟨j, hj, ej⟩ := mnF_is (gI (costsL L far L.length)) (L.length - 1)
    rw [costsL_at L far (show j < L.length by omega)] at ej
    constructor
    · intro h
      refine Classical.byContradiction fun hn => ?_
      obtain ⟨d, hd, _, hA, hh⟩ := not_light hn
      have h2 := T.heavy_gt rfl hi' hd hA hh
      have h3 := mnF_le (gI (costsL L far L.length)) (L.length - 1) d (by omega)
      rw [costsL_at L far hd] at h3
      omega
    · intro h
      have h2 := T.light_le rfl (fun c hc => (hL c hc).1) hi' h _ j (by omega) (Nat.le_refl _)
      have h3 := mnF_le (gI (costsL L far L.length)) (L.length - 1) i (by omega)
      rw [costsL_at L far hi'] at h3
      omega
  by_cases hl : Light L.length (Adj N) L next i
  · rw [decide_eq_true (key.2 hl), (light_iff i).2 hl]
  · rw [decide_eq_false (fun h => hl (key.1 h))]
    refine Eq.symm ?_
    rw [← Bool.not_eq_true]
    exact fun h => hl ((light_iff i).1 h)
/-- A second heavy branch there is not. -/
theorem heavy_once {L : List Int} {N : List Lane} {next : Nat → Nat → Nat} {c d : Nat} (hL : ∀ c, c < L.length → 0 ≤ gI L c ∧ gI L c ≤ 9) (hd : d < L.length) (hh : heavyB L next (nearK N N.length) c d = true) : firstF (heavyB L next (nearK N N.length) c) d = -1 := by
  rcases firstF_cases (heavyB L next (nearK N N.length) c) d with ⟨h1, _⟩ | ⟨e, h1, h2, h3, h4⟩
  · exact h1
  · have a1 := (heavyB_iff c d).1 hh
    have a2 := (heavyB_iff c e).1 h3
    have := two_branches (n := L.length) (L := L) (next := next) (c := c) (d := d) (e := e) (fun c hc => (hL c hc).1) (by omega)
    omega

theorem first_same (p : Nat → Bool) (d : Nat) : Value.int .i64 (firstF p d) = Value.int .i64 (if firstF p d < 0 then (if false = true then (d : Int) else -1) else firstF p d) := by
  rcases firstF_cases p d with ⟨h1, _⟩ | ⟨c, _, h1, _, _⟩
  · rw [h1]; rfl
  · rw [h1, if_neg (by omega)]
theorem light_first {L : List Int} {N : List Lane} {next : Nat → Nat → Nat} {c : Nat} (h : Light L.length (Adj N) L next c) : firstF (heavyB L next (nearK N N.length) c) L.length = -1 := by
  rcases firstF_cases (heavyB L next (nearK N N.length) c) L.length with ⟨h1, h2⟩ | ⟨d, h1, h2, h3, h4⟩
  · exact h1
  · have := (light_iff c).2 h
    unfold lightB at this
    rw [decide_eq_true_eq] at this
    omega
def CostsRel (W : World) (B : Nat) (L : List Int) (far : Nat → Nat → Int) (iv out : Value) (wr : World) : Prop :=
  ∃ k : Nat, k ≤ L.length ∧ iv = .int .i64 (k : Int) ∧ Mine wr B 1 out k ((costsL L far k).map (Value.int .i64)) ∧ Below W.heap.size W wr
def HOutRel (W : World) (n : Nat) (iv : Value) (wr : World) : Prop := ∃ k : Nat, k ≤ n ∧ iv = .int .i64 (k : Int) ∧ Below W.heap.size W wr
def HInRel (W : World) (L : List Int) (N : List Lane) (next : Nat → Nat → Nat) (c : Nat) (iv hv : Value) (wr : World) : Prop := ∃ k : Nat, k ≤ L.length ∧ iv = .int .i64 (k : Int) ∧ hv = .int .i64 (firstF (heavyB L next (nearK N N.length) c) k) ∧ Below W.heap.size W wr

set_option maxRecDepth 100000 in
set_option maxHeartbeats 8000000 in
theorem half_law (w : World) (sa : Array Value) (co : Nat) (lo ba le : Nat → Nat) (hs : SkA sa co lo ba le) : Calls Try.prog 10 #[.agg sa] w (Ret w (.bool true)) := by
  have HS := Lib.hid hs
  clear hs
  go_enter Try.func10, Try.ntmps10
  go_wp2_with (first
    | ((with_reducible show wpList _ _ _ (⟨_, Op.load 52 _, _, _, _, _⟩ :: _) _ _); refine list_load25 rfl _ rfl w.heap.size rfl sa (by exact heap_alloc_new _ _) HS.out.size ?_)
    | (go_at_call 37; refine (made_sl _ sa co lo ba le 8 HS.out (by omega) (by omega)).mono ?_; rintro e w1 ⟨lb, lof, lc, na, nc, fc, L, N, far, next, rfl, hm, hf, h0, hR, hl1, hl8, hlane, hb⟩; (have HM := Lib.hid hm); (have HF := Lib.hid hf); (have H0 := Lib.hid h0); (have HR := Lib.hid hR); clear hm hf h0 hR hlane)
    | ((with_reducible show wpList _ _ _ (⟨_, Op.store 54 _ _, _, _, _, _⟩ :: _) _ _); refine list_sk (by rfl) _ _ (by rfl) (by rfl) (by rfl) (by rfl) HM.out HF.out ?_; intro W hS hBW; (have c0 := hS.c0); (have c1 := hS.c1))
    | (go_at_call 38; refine (sum_any _ _ L (by exact mkt_l hS.mkt) hl8 (valid_of H0.out).loads).mono ?_; rintro e w2 ⟨rfl, rfl⟩))
  have HSW := Lib.hid hS
  have HB1 := Lib.hid ((((Below.refl w.heap.size w).alloc (Nat.le_refl _) (.cells sa 52)).trans (hb.mono (by simp))).trans (hBW.mono (Nat.le_trans (by simp) hb.size)))
  have hg1 : w1.heap.size < W.heap.size := World.block_lt_of_cell? W _ c0
  have HL := Lib.hid (valid_of H0.out).loads
  have HT := Lib.hid (tree_of (valid_of H0.out).lanes (valid_of H0.out).good HR.out)
  obtain ⟨SS, hSS⟩ : ∃ V, V = sumF (gI L) L.length := ⟨_, rfl⟩
  rw [← hSS]
  have HSS := Lib.hid hSS
  have hbS := sumF_bound _ _ HL.out L.length (Nat.le_refl _)
  rw [← hSS] at hbS
  clear hS c0 c1 hb hBW HM hSS
  go_loopw [32, 6] (CostsRel W W.heap.size L far) (fun i _ _ => L.length - (intOf i).toNat)
  case atStart => exact ⟨0, Nat.zero_le _, rfl, Mine.nil _ _ _, Below.refl _ _⟩
  case round =>
    obtain ⟨k, hk, rfl, hmc, hbr⟩ := hrel
    have HMC := Lib.hid hmc
    have HBR := Lib.hid hbr
    clear hmc hbr
    have HS2 := Lib.hid (HSW.out.below HBR.out)
    have c0 := HS2.out.c0
    have c1 := HS2.out.c1
    by_cases hlt : k < L.length
    · obtain ⟨FK, hFK⟩ : ∃ V, V = sumF (farLoad L far k) L.length := ⟨_, rfl⟩
      have K41 : Hid (∀ (w : World) (m fv : Value), Mkt w m L N → FarV fv far → Calls Try.prog 41 #[m, fv, .int .i64 (k : Int)] w (Ret w (.int .i64 FK))) := Lib.hid (fun w m fv hm hf => by rw [hFK]; exact lcost_any w m fv L N far k hm hf hl8 hlt HL.out (fun c hc => (HR.out c hc).bound k hlt))
      have HFK := Lib.hid hFK
      clear hFK
      go_wp2_with (first
        | (go_at_call 41; refine (K41.out _ _ _ HS2.out.mkt HS2.out.fv).mono ?_; rintro e w5 ⟨rfl, hb5⟩)
        | ((with_reducible show wpList _ _ _ (⟨_, Op.load 54 _, _, _, _, _⟩ :: _) _ _); refine list_load64 (by rfl) _ (by rfl) (w1.heap.size + 1) (by rfl) fc (by exact HS2.out.bq) HF.out.size ?_)
        | (at_builtin; refine append_int W.heap.size rfl _ _ rfl _ _ _ rfl ((HMC.out.below hb5).alloc _) w5.heap.size 0 1 rfl FK (by exact new_cell _ _ _) (by omega) (by exact Nat.le_trans (Nat.le_trans HBR.out.size hb5.size) (new_size _ _)) ?_; intro v' w3 hm3 hg3 _))
      go_roundw
      case rel =>
        refine ⟨k + 1, by omega, by go_num, ?_, ?_⟩
        · rw [costsL_succ, List.map_append, ← HFK.out]
          exact hm3
        · have e1 := HBR.out.trans (hb5.mono HBR.out.size)
          exact (e1.alloc e1.size _).grown hg3 (Nat.le_trans e1.size (new_size _ _)) (fun g hg => (HMC.out.lt hg).1)
      case measure => simp [intOf]; omega
    · obtain rfl : k = L.length := by omega
      have HCI := Lib.hid (mine_ints HMC.out (costsL_length L far L.length) (by omega))
      have hleast := least_med HT.out HL.out hl1
      have K57 : Hid (∀ w' v, Ints w' v (costsL L far L.length) → Calls Try.prog 57 #[v] w' (RetL w' (medL L N next))) := Lib.hid (fun w' v hv => by
        have h := least_any w' v (costsL L far L.length) hv (by rw [costsL_length]; omega)
        rw [hleast] at h
        exact h)
      have hml := medL_length (L := L) (N := N) (next := next)
      have K18 : Hid (∀ w' m, Mkt w' m L N → Calls Try.prog 18 #[m] w' (RetList w' (medL L N next) 0)) := Lib.hid (fun w' m hm => Medians_ok w' m L N far next hm H0.out HR.out)
      clear hleast
      go_wp2_with (first
        | (go_at_call 57; refine (K57.out _ _ HCI.out).mono ?_; rintro e w5 ⟨vw, rfl, hvw, hb5⟩; (have HS3 := Lib.hid (HS2.out.below hb5)); (have HW5 := Lib.hid (hvw.ints (by omega))); (have c0 := HS3.out.c0); (have c1 := HS3.out.c1))
        | (go_at_call 18; refine (K18.out _ _ HS3.out.mkt).mono ?_; rintro e w6 ⟨vm, rfl, hvm, hb6⟩; (have HS4 := Lib.hid (HS3.out.below hb6)); (have HW6 := Lib.hid (HW5.out.below hb6)); (have HM6 := Lib.hid (hvm.ints (by omega))); (have c0 := HS4.out.c0); (have c1 := HS4.out.c1))
        | (go_at_call 24; refine (same_yes _ _ _ _ HM6.out HW6.out).mono ?_; rintro e w7 ⟨rfl, hb7⟩; (have HS5 := Lib.hid (HS4.out.below hb7)); (have HW7 := Lib.hid (HW6.out.below hb7)); (have c0 := HS5.out.c0); (have c1 := HS5.out.c1)))
      have HB7 := Lib.hid (let e1 := HBR.out.trans (hb5.mono HBR.out.size); let e2 := e1.trans (hb6.mono e1.size); let e3 := HB1.out.trans (e2.mono HB1.out.size); e3.trans (hb7.mono e3.size))
      clear c0 c1 hvw hvm hb5 hb6 hb7 HS2 HS3 HS4 HW5 HW6 HM6 HCI HMC HBR
      go_loopw [61] (HOutRel w7 L.length) (fun i _ => L.length - (intOf i).toNat)
      case atStart => exact ⟨0, Nat.zero_le _, rfl, Below.refl _ _⟩
      case round =>
        obtain ⟨c, hk, rfl, hbr⟩ := hrel
        have HBR := Lib.hid hbr
        clear hbr
        have c0 := (HS5.out.below HBR.out).c0
        have c1 := (HS5.out.below HBR.out).c1
        by_cases hlt : c < L.length
        · go_wp2
          go_loopw [67, 12] (HInRel w7 L N next c) (fun i _ _ => L.length - (intOf i).toNat)
          case atStart => exact ⟨0, Nat.zero_le _, rfl, rfl, HBR.out⟩
          case round =>
            obtain ⟨d, hj, rfl, rfl, hbr2⟩ := hrel
            have HBR2 := Lib.hid hbr2
            have HS6 := Lib.hid (HS5.out.below hbr2)
            have c0 := HS6.out.c0
            have c1 := HS6.out.c1
            clear hbr2
            have HFS := Lib.hid (firstF_succ (heavyB L next (nearK N N.length) c) d)
            by_cases hltd : d < L.length
            · by_cases hA : Adj N c d
              · obtain ⟨len, hlen⟩ : ∃ len, len = lenK N N.length c d := ⟨_, rfl⟩
                have K58 : Hid (∀ w' m, Mkt w' m L N → Calls Try.prog 58 #[m, .int .i64 (c : Int), .int .i64 (d : Int)] w' (Ret w' (.int .i64 len))) := Lib.hid (fun w' m hm => by rw [hlen]; exact length_ok _ _ L N far next c d hm H0.out HR.out)
                have hlp := adj_pos (valid_of H0.out).good hA
                rw [← hlen] at hlp
                have hle0 : (len == 0) = false := by simp; omega
                obtain ⟨TT, hTT⟩ : ∃ V, V = sumF (loadIn L next c d) L.length := ⟨_, rfl⟩
                obtain ⟨BL, hBL⟩ : ∃ l, l = (List.range L.length).filter (inBr next c d) := ⟨_, rfl⟩
                have hbl : BL.length ≤ L.length := by rw [hBL]; have := List.length_filter_le (inBr next c d) (List.range L.length); rw [List.length_range] at this; exact this
                have K40 : Hid (∀ (w : World) (m fv : Value), Mkt w m L N → FarV fv far → Calls Try.prog 40 #[m, fv, .int .i64 (c : Int), .int .i64 (d : Int)] w (RetList w BL TT)) := Lib.hid (fun w m fv hm hf => by
                  have h := lbranch_any w m fv L N far c d hm hf hl8 hlt hltd HL.out
                  rw [HT.out.nearLoad_eq hlt hltd hA, List.filter_congr (fun i hi => HT.out.nearer_iff hlt hltd (List.mem_range.1 hi) hA), ← hBL, ← hTT] at h
                  exact h)
                have K20 : Hid (∀ w' m, Mkt w' m L N → Calls Try.prog 20 #[m, .int .i64 (c : Int), .int .i64 (d : Int)] w' (RetList w' BL 0)) := Lib.hid (fun w' m hm => by rw [hBL]; exact Branch_ok w' m L N c d far next hm H0.out HR.out hlt hltd hA)
                have hbT := sumF_bound _ _ (loadIn_bound (next := next) (corner := c) (over := d) HL.out) L.length (Nat.le_refl _)
                rw [← hTT] at hbT
                have HTT := Lib.hid hTT
                have HA := Lib.hid hA
                clear hlen hTT hBL hA
                by_cases hv : SS < 2 * TT
                · have K25 : Hid (∀ w' m, Mkt w' m L N → Calls Try.prog 25 #[m, .int .i64 (c : Int), .int .i64 (d : Int)] w' (Ret w' (.int .i64 0))) := Lib.hid (fun w' m hm => by
                    have h := Proves_ok w' m L N c d far next hm H0.out HR.out hlt hltd HA.out
                    unfold provesCode at h
                    rw [← HTT.out, ← HSS.out, if_neg (by omega)] at h
                    exact h)
                  have hhb : heavyB L next (nearK N N.length) c d = true := (heavyB_iff c d).2 ⟨HA.out, by rw [← HTT.out, ← HSS.out]; exact hv⟩
                  have hF1 := heavy_once HL.out hltd hhb
                  rw [hF1]
                  have HHB := Lib.hid (And.intro hhb hF1)
                  clear hhb hF1
                  go_wp2_with (first
                | (go_at_call 58; refine (K58.out _ _ HS6.out.mkt).mono ?_; rintro e w8 ⟨rfl, hb8⟩; (have HS8 := Lib.hid (HS6.out.below hb8)); (have c0 := HS8.out.c0); (have c1 := HS8.out.c1))
                | (go_at_call 40; refine (K40.out _ _ _ HS8.out.mkt HS8.out.fv).mono ?_; rintro e w9 ⟨vb, rfl, hvb, hb9⟩; (have HS9 := Lib.hid (HS8.out.below hb9)); (have HV9 := Lib.hid (hvb.ints (by omega))); (have c0 := HS9.out.c0); (have c1 := HS9.out.c1))
                | (go_at_call 20; refine (K20.out _ _ HS9.out.mkt).mono ?_; rintro e w10 ⟨vc, rfl, hvc, hb10⟩; (have HS10 := Lib.hid (HS9.out.below hb10)); (have HV10 := Lib.hid (HV9.out.below hb10)); (have HC10 := Lib.hid (hvc.ints (by omega))); (have c0 := HS10.out.c0); (have c1 := HS10.out.c1))
                | (go_at_call 25; refine (K25.out _ _ HS10.out.mkt).mono ?_; rintro e w11 ⟨rfl, hb11⟩; (have HV11 := Lib.hid (HV10.out.below hb11)); (have HC11 := Lib.hid (HC10.out.below hb11)))
                | (go_at_call 24; refine (same_yes _ _ _ _ HC11.out HV11.out).mono ?_; rintro e w12 ⟨rfl, hb12⟩)
                | ((with_reducible show wpList _ _ _ (⟨_, Op.load 54 _, _, _, _, _⟩ :: _) _ _); refine list_load64 (by rfl) _ (by rfl) (w1.heap.size + 1) (by rfl) fc (by exact HS8.out.bq) HF.out.size ?_))
                  go_roundw
                  case rel => exact ⟨d + 1, by omega, by go_num, by rw [HFS.out, HHB.out.1, HHB.out.2]; rfl, (let e1 := HBR2.out.trans (hb8.mono HBR2.out.size); let e2 := e1.trans (hb9.mono e1.size); let e3 := e2.trans (hb10.mono e2.size); let e4 := e3.trans (hb11.mono e3.size); e4.trans (hb12.mono e4.size))⟩
                  case measure => simp [intOf]; omega
                · have K25 : Hid (∀ w' m, Mkt w' m L N → Calls Try.prog 25 #[m, .int .i64 (c : Int), .int .i64 (d : Int)] w' (Ret w' (.int .i64 14))) := Lib.hid (fun w' m hm => by
                    have h := Proves_ok w' m L N c d far next hm H0.out HR.out hlt hltd HA.out
                    unfold provesCode at h
                    rw [← HTT.out, ← HSS.out, if_pos (by omega)] at h
                    exact h)
                  have HHB := Lib.hid (show heavyB L next (nearK N N.length) c d = false by
                    rw [← Bool.not_eq_true]
                    intro h
                    have := ((heavyB_iff c d).1 h).2
                    rw [← HTT.out, ← HSS.out] at this
                    exact hv this)
                  go_wp2_with (first
                | (go_at_call 58; refine (K58.out _ _ HS6.out.mkt).mono ?_; rintro e w8 ⟨rfl, hb8⟩; (have HS8 := Lib.hid (HS6.out.below hb8)); (have c0 := HS8.out.c0); (have c1 := HS8.out.c1))
                | (go_at_call 40; refine (K40.out _ _ _ HS8.out.mkt HS8.out.fv).mono ?_; rintro e w9 ⟨vb, rfl, hvb, hb9⟩; (have HS9 := Lib.hid (HS8.out.below hb9)); (have HV9 := Lib.hid (hvb.ints (by omega))); (have c0 := HS9.out.c0); (have c1 := HS9.out.c1))
                | (go_at_call 20; refine (K20.out _ _ HS9.out.mkt).mono ?_; rintro e w10 ⟨vc, rfl, hvc, hb10⟩; (have HS10 := Lib.hid (HS9.out.below hb10)); (have HV10 := Lib.hid (HV9.out.below hb10)); (have HC10 := Lib.hid (hvc.ints (by omega))); (have c0 := HS10.out.c0); (have c1 := HS10.out.c1))
                | (go_at_call 25; refine (K25.out _ _ HS10.out.mkt).mono ?_; rintro e w11 ⟨rfl, hb11⟩; (have HV11 := Lib.hid (HV10.out.below hb11)); (have HC11 := Lib.hid (HC10.out.below hb11)))
                | (go_at_call 24; refine (same_yes _ _ _ _ HC11.out HV11.out).mono ?_; rintro e w12 ⟨rfl, hb12⟩)
                | ((with_reducible show wpList _ _ _ (⟨_, Op.load 54 _, _, _, _, _⟩ :: _) _ _); refine list_load64 (by rfl) _ (by rfl) (w1.heap.size + 1) (by rfl) fc (by exact HS8.out.bq) HF.out.size ?_))
                  go_roundw
                  case rel => exact ⟨d + 1, by omega, by go_num, by rw [HFS.out, HHB.out]; exact (first_same _ d), (let e1 := HBR2.out.trans (hb8.mono HBR2.out.size); let e2 := e1.trans (hb9.mono e1.size); let e3 := e2.trans (hb10.mono e2.size); let e4 := e3.trans (hb11.mono e3.size); e4.trans (hb12.mono e4.size))⟩
                  case measure => simp [intOf]; omega
              · have K58 : Hid (∀ w' m, Mkt w' m L N → Calls Try.prog 58 #[m, .int .i64 (c : Int), .int .i64 (d : Int)] w' (Ret w' (.int .i64 0))) := Lib.hid (fun w' m hm => by
                  have h := length_ok w' m L N far next c d hm H0.out HR.out
                  rw [len_none (valid_of H0.out).good (fun j hj hjj => hA ((adj_iff (valid_of H0.out).good c d).2 ⟨j, hj, hjj⟩))] at h
                  exact h)
                have HHB := Lib.hid (show heavyB L next (nearK N N.length) c d = false by
                  rw [← Bool.not_eq_true]
                  exact fun h => hA ((heavyB_iff c d).1 h).1)
                clear hA
                go_wp2_with ((go_at_call 58; refine (K58.out _ _ HS6.out.mkt).mono ?_; rintro e w8 ⟨rfl, hb8⟩; (have HS8 := Lib.hid (HS6.out.below hb8)); (have c0 := HS8.out.c0); (have c1 := HS8.out.c1)))
                go_roundw
                case rel => exact ⟨d + 1, by omega, by go_num, by rw [HFS.out, HHB.out]; exact (first_same _ d), HBR2.out.trans (hb8.mono HBR2.out.size)⟩
                case measure => simp [intOf]; omega
            · obtain rfl : d = L.length := by omega
              by_cases hl : Light L.length (Adj N) L next c
              · have hF := light_first (L := L) (N := N) (next := next) hl
                rw [hF]
                have K22 : Hid (∀ w' m, Mkt w' m L N → Calls Try.prog 22 #[m, .int .i64 (c : Int)] w' (Ret w' (.tuple #[.int .i64 0, .int .i64 13]))) := Lib.hid (fun w' m hm => Why_no w' m L N c far next hm H0.out HR.out hlt (by rw [hF]; decide))
                have K59 : Hid (∀ w', Below w7.heap.size w7 w' → Calls Try.prog 59 #[vw, .int .i64 (c : Int)] w' fun e w'' => e = .returned (.bool true) ∧ w' = w'') := Lib.hid (fun w' hb => by have h := contains_any w' vw (upL (medL L N next)) c (HW7.out.below hb); rw [decide_eq_true ((medL_mem hlt).2 hl)] at h; exact h)
                clear hl hF
                go_wp2_with (first | (go_at_call 22; refine (K22.out _ _ HS6.out.mkt).mono ?_; rintro e w8 ⟨rfl, hb8⟩) | (go_at_call 59; refine (K59.out _ (HBR2.out.trans (hb8.mono HBR2.out.size))).mono ?_; rintro e w9 ⟨rfl, rfl⟩))
                go_roundw
                case rel => exact ⟨c + 1, by omega, by go_num, HBR2.out.trans (hb8.mono HBR2.out.size)⟩
                case measure => simp [intOf]; omega
              · obtain ⟨x, hx, hF, _, _⟩ := not_light hl
                rw [hF]
                have K22 : Hid (∀ w' m, Mkt w' m L N → Calls Try.prog 22 #[m, .int .i64 (c : Int)] w' (Ret w' (.tuple #[.int .i64 (x : Int), .int .i64 0]))) := Lib.hid (fun w' m hm => by
                  have h := Why_ok w' m L N c far next hm H0.out HR.out hlt (by rw [hF]; omega)
                  rw [hF] at h
                  exact h)
                have K59 : Hid (∀ w', Below w7.heap.size w7 w' → Calls Try.prog 59 #[vw, .int .i64 (c : Int)] w' fun e w'' => e = .returned (.bool false) ∧ w' = w'') := Lib.hid (fun w' hb => by have h := contains_any w' vw (upL (medL L N next)) c (HW7.out.below hb); rw [decide_eq_false (fun h => hl ((medL_mem hlt).1 h))] at h; exact h)
                clear hl hF
                have hx0 : ¬ (x : Int) < 0 := by omega
                go_wp2_with (first | (go_at_call 22; refine (K22.out _ _ HS6.out.mkt).mono ?_; rintro e w8 ⟨rfl, hb8⟩) | (go_at_call 59; refine (K59.out _ (HBR2.out.trans (hb8.mono HBR2.out.size))).mono ?_; rintro e w9 ⟨rfl, rfl⟩))
                go_roundw
                case rel => exact ⟨c + 1, by omega, by go_num, HBR2.out.trans (hb8.mono HBR2.out.size)⟩
                case measure => simp [intOf]; omega
        · obtain rfl : c = L.length := by omega
          go_wp2_with (go_at_call 17; refine (works_ok _).mono ?_; rintro e w8 ⟨rfl, hb8⟩)
          go_ret
          exact ⟨rfl, HB7.out.trans ((HBR.out.trans (hb8.mono HBR.out.size)).mono HB7.out.size)⟩
end Go.Proofs.Ytkhkgmelicdpkaa
