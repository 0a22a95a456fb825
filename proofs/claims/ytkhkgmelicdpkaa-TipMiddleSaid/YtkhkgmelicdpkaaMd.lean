/- The walk of TipMiddle: for every sketch it returns true. -/
import Derived.Test.YtkhkgmelicdpkaaMp
import Derived.Deep.Light
import Derived.Test.YtkhkgmelicdpkaaRq
set_option linter.unusedVariables false
set_option linter.unusedSimpArgs false
namespace Go.Proofs.Ytkhkgmelicdpkaa
open Go.RowKit Go.BigFrame

set_option maxRecDepth 100000 in
set_option maxHeartbeats 8000000 in
theorem middle_law (w : World) (sa : Array Value) (co : Nat) (lo ba le : Nat → Nat) (hs : SkA sa co lo ba le) : Calls Try.prog 11 #[.agg sa] w (Ret w (.bool true)) := by
  have HS := Lib.hid hs
  clear hs
  go_enter Try.func11, Try.ntmps11
  go_wp2_with (first
    | ((with_reducible show wpList _ _ _ (⟨_, Op.load 52 _, _, _, _, _⟩ :: _) _ _); refine list_load25 rfl _ rfl w.heap.size rfl sa (by exact heap_alloc_new _ _) HS.out.size ?_)
    | (go_at_call 37; refine (made_sl _ sa co lo ba le 8 HS.out (by omega) (by omega)).mono ?_; rintro e w1 ⟨lb, lof, lc, na, nc, fc, L, N, far, next, rfl, hm, hf, h0, hR, hl1, hl8, hlane, hb⟩; (have HM := Lib.hid hm); (have HF := Lib.hid hf); (have H0 := Lib.hid h0); (have HR := Lib.hid hR); clear hm hf h0 hR hlane)
    | ((with_reducible show wpList _ _ _ (⟨_, Op.store 54 _ _, _, _, _, _⟩ :: _) _ _); refine list_sk (by rfl) _ _ (by rfl) (by rfl) (by rfl) (by rfl) HM.out HF.out ?_; intro W hS hBW; (have c0 := hS.c0); (have c1 := hS.c1)))
  have HSW := Lib.hid hS
  have HB1 := Lib.hid ((((Below.refl w.heap.size w).alloc (Nat.le_refl _) (.cells sa 52)).trans (hb.mono (by simp))).trans (hBW.mono (Nat.le_trans (by simp) hb.size)))
  have HT := Lib.hid (tree_of (valid_of H0.out).lanes (valid_of H0.out).good HR.out)
  clear hS c0 c1 hb hBW HM
  go_loopw [34, 6] (DOut W far L.length) (fun i _ _ => L.length - (intOf i).toNat)
  case atStart => exact ⟨0, 0, Nat.zero_le _, rfl, rfl, ⟨by omega, by omega, fun a b hb h => by omega, .inl rfl⟩, Below.refl _ _⟩
  case round =>
    obtain ⟨i, M, hi, rfl, rfl, hM, hbr⟩ := hrel
    have HMX := Lib.hid hM
    have HBR := Lib.hid hbr
    clear hM hbr
    by_cases hlt : i < L.length
    · have hd5 : decide ((i : Int) < (L.length : Int)) = true := decide_eq_true (by omega)
      go_wp2
      go_loopw [38, 6] (DIn W far L.length i) (fun i _ _ => L.length - (intOf i).toNat)
      case atStart => exact ⟨0, M, Nat.zero_le _, rfl, rfl, HMX.out, HBR.out⟩
      case round =>
        obtain ⟨j, M2, hj, rfl, rfl, hM, hbr⟩ := hrel
        have HMX2 := Lib.hid hM
        have HBR2 := Lib.hid hbr
        clear hM hbr
        by_cases hlt2 : j < L.length
        · have q := (HSW.out.below HBR2.out).dist (x := i) (y := j) (by omega) (by omega)
          have hbd := HT.out.nonneg i j hlt hlt2
          have b1 : i < 8 := by omega
          have b2 : j < 8 := by omega
          by_cases hgt : M2 < far i j
          · go_wp2
            go_roundw
            case rel => exact ⟨j + 1, far i j, by omega, by go_num, rfl, by have h := HMX2.out.step hlt hlt2 hbd; rw [if_pos hgt] at h; exact h, HBR2.out⟩
            case measure => simp [intOf]; omega
          · go_wp2
            go_roundw
            case rel => exact ⟨j + 1, M2, by omega, by go_num, rfl, by have h := HMX2.out.step hlt hlt2 hbd; rw [if_neg (by omega)] at h; exact h, HBR2.out⟩
            case measure => simp [intOf]; omega
        · obtain rfl : j = L.length := by omega
          go_wp2
          go_roundw
          case rel => exact ⟨i + 1, M2, by omega, by go_num, rfl, HMX2.out.next, HBR2.out⟩
          case measure => simp [intOf]; omega
    · obtain rfl : i = L.length := by omega
      have hM := HMX.out
      have HD := Lib.hid (dmax_is HT.out hl1 hM)
      have HPL : Hid (∀ x y, x < L.length → y < L.length → far x y ≤ M) := Lib.hid (fun x y hx hy => hM.2.2.1 x y hy (.inl hx))
      have K43 : Hid (∀ w' m x y, Mkt w' m L N → x < L.length → y < L.length → Calls Try.prog 43 #[m, .int .i64 (x : Int), .int .i64 (y : Int)] w' (RetWay w' (wayL far next x y))) := Lib.hid (fun w' m x y hm hx hy => Way_li hm H0.out HR.out hx hy)
      clear hM HMX
      go_wp2
      go_loopw [51, 9, 12, 13] (fun a b _ _ => BOut W far next L.length M a b) (fun i _ _ _ _ => L.length - (intOf i).toNat)
      case atStart => exact ⟨0, Nat.zero_le _, rfl, .inl ⟨rfl, rfl⟩, HBR.out⟩
      case round =>
        obtain ⟨i, hi, rfl, hst, hbr⟩ := hrel
        have HST := Lib.hid hst
        have HBR2 := Lib.hid hbr
        clear hst hbr
        by_cases hlt : i < L.length
        · have hd5 : decide ((i : Int) < (L.length : Int)) = true := decide_eq_true (by omega)
          go_wp2
          go_loopw [55, 9, 12, 13] (fun a b _ _ => BIn W far next L.length M i a b) (fun i _ _ _ _ => L.length - (intOf i).toNat)
          case atStart => exact ⟨0, Nat.zero_le _, rfl, HST.out, HBR2.out⟩
          case round =>
            obtain ⟨j, hj, rfl, hst, hbr⟩ := hrel
            have HS2 := Lib.hid hst
            have HBR3 := Lib.hid hbr
            have HSR := Lib.hid (HSW.out.below hbr)
            clear hst hbr
            by_cases hlt2 : j < L.length
            · have q := HSR.out.dist (x := i) (y := j) (by omega) (by omega)
              have b1 : i < 8 := by omega
              have b2 : j < 8 := by omega
              by_cases hf : far i j = M
              · rw [hf] at q
                have HFE := Lib.hid hf
                have c0 := HSR.out.c0
                have c1 := HSR.out.c1
                have h8 := HT.out.way_length hlt hlt2
                clear hf
                rcases HS2.out with ⟨hs1, hs2⟩ | ⟨l, ad, ln, lcap, hs1, hs2, hs3⟩
                · subst hs2
                  have hnil := fun wx => Lib.run_eql_slice_nil wx 22 3 none 0 0 0 0 Try.underlying22'
                  simp only [Option.isNone_none] at hnil
                  have HS1 := Lib.hid hs1
                  clear hs1
                  go_wp2_with (go_at_call 43; refine (K43.out _ _ _ _ HSR.out.mkt hlt hlt2).mono ?_; rintro e w2 ⟨g1, o1, cap1, k1, rfl, hk1, hlw, hb2⟩)
                  go_roundw
                  case rel => exact ⟨j + 1, by omega, by go_num, by rw [row_first HFE.out HS1.out]; exact .inr ⟨_, _, _, _, rfl, rfl, li_ints hk1 (by omega) hlw⟩, HBR3.out.trans (hb2.mono HBR3.out.size)⟩
                  case measure => simp [intOf]; omega
                · subst hs2
                  have hnil := fun wx => Lib.run_eql_slice_nil wx 22 3 (some ad) ln lcap 0 0 Try.underlying22'
                  simp only [Option.isNone_some] at hnil
                  have HS1 := Lib.hid hs1
                  have HS3 := Lib.hid hs3
                  clear hs1 hs3
                  by_cases hz : cmpL (upL (wayL far next i j)) (upL l) < 0
                  · go_wp2_with (first
                      | (go_at_call 60; refine (compare_any _ _ _ _ _ (li_ints hk1 (by omega) hlw) (HS3.out.below hb2)).mono ?_; rintro e w3 ⟨rfl, rfl⟩)
                      | (go_at_call 43; refine (K43.out _ _ _ _ HSR.out.mkt hlt hlt2).mono ?_; rintro e w2 ⟨g1, o1, cap1, k1, rfl, hk1, hlw, hb2⟩))
                    go_roundw
                    case rel => exact ⟨j + 1, by omega, by go_num, by rw [row_new HFE.out HS1.out hz]; exact .inr ⟨_, _, _, _, rfl, rfl, li_ints hk1 (by omega) hlw⟩, HBR3.out.trans (hb2.mono HBR3.out.size)⟩
                    case measure => simp [intOf]; omega
                  · go_wp2_with (first
                      | (go_at_call 60; refine (compare_any _ _ _ _ _ (li_ints hk1 (by omega) hlw) (HS3.out.below hb2)).mono ?_; rintro e w3 ⟨rfl, rfl⟩)
                      | (go_at_call 43; refine (K43.out _ _ _ _ HSR.out.mkt hlt hlt2).mono ?_; rintro e w2 ⟨g1, o1, cap1, k1, rfl, hk1, hlw, hb2⟩))
                    go_roundw
                    case rel => exact ⟨j + 1, by omega, by go_num, by rw [row_old HFE.out HS1.out (by omega)]; exact .inr ⟨_, _, _, _, rfl, rfl, HS3.out.below hb2⟩, HBR3.out.trans (hb2.mono HBR3.out.size)⟩
                    case measure => simp [intOf]; omega
              · have hf1 : (far i j == M) = false := by simp; exact hf
                have hf2 : (far i j != M) = true := by simp; exact hf
                have HFE := Lib.hid hf
                clear hf
                go_wp2
                go_roundw
                case rel => exact ⟨j + 1, by omega, by go_num, by rw [row_skip HFE.out]; exact HS2.out, HBR3.out⟩
                case measure => simp [intOf]; omega
            · obtain rfl : j = L.length := by omega
              go_wp2
              go_roundw
              case rel => exact ⟨i + 1, by omega, by go_num, HS2.out, HBR3.out⟩
              case measure => simp [intOf]; omega
        · obtain rfl : i = L.length := by omega
          obtain ⟨l, hl⟩ := long_some (far := far) (next := next) (b := begF (radF far L.length) L.length) hl1
          have hall := HT.out.all_long hl1 HD.out
          rw [hall, hl] at HST
          obtain ⟨b, hbl, hbf, hlw⟩ := long_is _ _ hl
          obtain ⟨a, hae⟩ : ∃ a, a = begF (radF far L.length) L.length := ⟨_, rfl⟩
          have han : a < L.length := by rw [hae]; exact begF_lt (radF far L.length) L.length hl1 L.length (Nat.le_refl _)
          have hab : far a b = M := by rw [HD.out, hae]; exact hbf
          have hlw' : l = wayL far next a b := by rw [hae]; exact hlw
          have hne : 1 ≤ l.length := by rw [hlw']; exact List.length_pos_iff.2 (HT.out.wayL_ne han hbl)
          have h8 : l.length ≤ L.length := by rw [hlw']; exact HT.out.way_length han hbl
          have K29 : Hid (∀ w' m, Mkt w' m L N → Calls Try.prog 29 #[m] w' (RetLong w' l)) := Lib.hid (fun w' m hm => Longest_li hm H0.out HR.out hl hne)
          have hhead : l[0]? = some a := by rw [hlw']; exact HT.out.wayL_head han hbl
          have hlast : l[l.length - 1]? = some b := by rw [hlw']; exact HT.out.way_last han hbl
          have HHL := Lib.hid (And.intro hhead hlast)
          have HLW := Lib.hid hlw'
          have HMAX : Hid (∀ x y, x < L.length → y < L.length → far x y ≤ far a b) := Lib.hid (fun x y hx hy => by rw [hab]; exact HPL.out x y hx hy)
          have HAB := Lib.hid hab
          rcases HST.out with ⟨h, _⟩ | ⟨l', ad, ln, lcap, hs1, rfl, hs3⟩
          · cases h
          cases hs1
          have HBL := Lib.hid hs3
          have HSR := Lib.hid (HSW.out.below HBR2.out)
          have c0 := HSR.out.c0
          have c1 := HSR.out.c1
          have HQ := Lib.hid (HSR.out.dist (x := a) (y := b) (by omega) (by omega))
          clear hs3 HST hhead hlast hlw' hall hl hlw hae hbf hab
          go_wp2_with (first
            | (go_at_call 29; refine (K29.out _ _ HSR.out.mkt).mono ?_; rintro e w2 ⟨g1, o1, cap1, k1, rfl, hk1, hli, hb2⟩; (have HLI := Lib.hid hli); (have HB2 := Lib.hid hb2); clear hli hb2)
            | (go_at_call 24; refine (same_any _ _ _ (upL l) (upL l) HLI.out (HBL.out.below HB2.out)).mono ?_; rintro e w3 ⟨rfl, hb3⟩; (have HB3 := Lib.hid hb3); rw [show decide (upL l = upL l) = true from decide_eq_true rfl]; clear hb3))
          have HB3' := Lib.hid (HB2.out.trans (HB3.out.mono HB2.out.size))
          have qa : w3.cell? ⟨g1, o1, none⟩ = some (.int .i64 (a : Int)) := (HLI.out.below HB3.out).at_ HHL.out.1
          have qb : w3.cell? ⟨g1, o1 + k1, none⟩ = some (.int .i64 (b : Int)) := (HLI.out.below HB3.out).at_ (by have := HHL.out.2; rw [hk1] at this; exact this)
          have q := HSR.out.below HB3'.out |>.dist (x := a) (y := b) (by omega) (by omega)
          rw [HAB.out] at q
          have ha8 : a < 8 := by omega
          have hb8 : b < 8 := by omega
          have hk8 : k1 + 1 ≤ 8 := by omega
          have i1 : (0 : Int) ≤ (k1 : Int) := by omega
          have i2 : (0 : Int) < (k1 : Int) + 1 := by omega
          have i3 : (k1 : Int) < (k1 : Int) + 1 := by omega
          clear c0 c1
          go_wp2
          go_quiet (fail)
          have HB4 := Lib.hid (below_drewN (HBR2.out.trans (HB3'.out.mono HBR2.out.size)) nq)
          have HL4 := Lib.hid ((HLI.out.below HB3.out).below (below_drewN (Below.refl w3.heap.size w3) nq))
          have HS4 := Lib.hid ((HSR.out.below HB3'.out).below (below_drewN (Below.refl w3.heap.size w3) nq))
          have q := HS4.out.dist (x := a) (y := b) (by omega) (by omega)
          rw [HAB.out] at q
          have K59 : Hid (∀ w' x, Below (w3.drewN nq).heap.size (w3.drewN nq) w' → x ∈ l → Calls Try.prog 59 #[.slice (some ⟨g1, o1, none⟩) (k1 + 1) cap1, .int .i64 (x : Int)] w' fun e w'' => e = .returned (.bool true) ∧ w' = w'') := Lib.hid (fun w' x hb hx => by
            have h := contains_any w' _ (upL l) (x : Int) (HL4.out.below hb)
            rw [decide_eq_true (show (x : Int) ∈ upL l from List.mem_map.2 ⟨x, hx, rfl⟩)] at h
            exact h)
          obtain ⟨W4, hW4⟩ : ∃ W4, W4 = w3.drewN nq := ⟨_, rfl⟩
          rw [← hW4] at HB4 HL4 HS4 K59 q ⊢
          clear hW4 qa qb HLI HBL HB2 HB3 HB3' i1 i2 i3
          have hd1 : decide ((a : Int) < 0) = false := decide_eq_false (by omega)
          have hd2 : decide (L.length ≤ a) = false := decide_eq_false (by omega)
          have hd3 : decide ((b : Int) < 0) = false := decide_eq_false (by omega)
          have hd4 : decide (L.length ≤ b) = false := decide_eq_false (by omega)
          go_wp2
          go_loopw [138, 18, 20, 21] (fun x y _ _ => RadRel W4 (radF far L.length) L.length x y) (fun i _ _ _ _ => L.length - (intOf i).toNat)
          case atStart => exact ⟨0, Nat.zero_le _, rfl, Mine.nil _ _ _, Below.refl _ _⟩
          case round =>
            obtain ⟨k, hk, rfl, hm, hbr⟩ := hrel
            have HMR := Lib.hid hm
            have HBR5 := Lib.hid hbr
            have HS5 := Lib.hid (HS4.out.below hbr)
            clear hm hbr
            by_cases hlt5 : k < L.length
            · have c0 := HS5.out.c0
              have c1 := HS5.out.c1
              have hkk8 : k < 8 := by omega
              have j1 : (0 : Int) ≤ (k : Int) := by omega
              have j2 : (k : Int) < 8 := by omega
              have j3 : (0 : Int) ≤ (L.length : Int) := by omega
              have j4 : (L.length : Int) ≤ 8 := by omega
              have j5 : (0 : Int) ≤ (a : Int) := by omega
              have j6 : (a : Int) < 8 := by omega
              have j7 : (0 : Int) ≤ (b : Int) := by omega
              have j8 : (b : Int) < 8 := by omega
              by_cases hcmp : far k a < far k b
              · have HRK := Lib.hid (show radF far L.length k = far k b by
                  have h := HT.out.radius_end han hbl hlt5 hl1 HMAX.out
                  rw [if_pos hcmp] at h
                  exact h)
                have K50 : Hid (∀ w' m, Mkt w' m L N → Calls Try.prog 50 #[m, .int .i64 (k : Int)] w' (Ret w' (.tuple #[.int .i64 (far k b), .int .i64 0]))) := Lib.hid (fun w' m hm => by
                  have h := Radius_ok w' m L N k far next hm H0.out HR.out hlt5
                  rw [show mxF (far k) (L.length - 1) = far k b from HRK.out] at h
                  exact h)
                have K61 : Hid (∀ w', Below wr.heap.size wr w' → Calls Try.prog 61 #[.slice (some ⟨w1.heap.size + 1, k * 8, none⟩) L.length 8] w' fun e w'' => e = .returned (.int .i64 (far k b)) ∧ ∃ m, w'' = w'.drewN m) := Lib.hid (fun w' hb => by
                  have h := max_any w' (w1.heap.size + 1) (k * 8) (L.length - 1) 8 (far k) (by omega) (fun j hj => (HS5.out.below hb).dist (by omega) (by omega))
                  rw [show L.length - 1 + 1 = L.length by omega, show mxF (far k) (L.length - 1) = far k b from HRK.out] at h
                  exact h.mono (fun e w'' ⟨h1, h2⟩ => ⟨h1, 0, h2.symm⟩))
                go_wp2_with (go_at_call 50; refine (K50.out _ _ HS5.out.mkt).mono ?_; rintro e w5 ⟨rfl, hb5⟩; (have q1 := (HS5.out.below hb5).dist (x := k) (y := a) (by omega) (by omega)); (have q2 := (HS5.out.below hb5).dist (x := k) (y := b) (by omega) (by omega)))
                go_quiet (first | (go_at_call 61; refine Calls.quiet_of (K61.out _ (by exact below_drewN hb5 _))))
                have HB6 := Lib.hid (below_drewN hb5 nq)
                have hsz := Nat.le_trans HBR5.out.size HB6.out.size
                clear hb5
                go_wp2_with (at_builtin; refine append_int W4.heap.size rfl _ _ rfl _ _ _ rfl ((HMR.out.below HB6.out).alloc _) w5.heap.size 0 1 rfl (far k b) (by exact new_cell _ _ _) (by omega) (by exact Nat.le_trans hsz (new_size _ _)) ?_; intro v' w7 hm7 hg7 _)
                go_roundw
                case rel => first | exact ⟨k + 1, by omega, by go_num, by rw [radVals_snoc, HRK.out]; exact hm7, (((HBR5.out.trans (HB6.out.mono HBR5.out.size)).alloc hsz _).grown hg7 (Nat.le_trans hsz (new_size _ _)) (fun k hk => (HMR.out.lt hk).1))⟩ | ((repeat apply Exists.intro); exact ⟨⟨k + 1, by omega, by go_num, by rw [radVals_snoc, HRK.out]; exact hm7, (((HBR5.out.trans (HB6.out.mono HBR5.out.size)).alloc hsz _).grown hg7 (Nat.le_trans hsz (new_size _ _)) (fun k hk => (HMR.out.lt hk).1))⟩, rfl⟩)
                case measure => simp [intOf]; omega
              · have HRK := Lib.hid (show radF far L.length k = far k a by
                  have h := HT.out.radius_end han hbl hlt5 hl1 HMAX.out
                  rw [if_neg hcmp] at h
                  exact h)
                have K50 : Hid (∀ w' m, Mkt w' m L N → Calls Try.prog 50 #[m, .int .i64 (k : Int)] w' (Ret w' (.tuple #[.int .i64 (far k a), .int .i64 0]))) := Lib.hid (fun w' m hm => by
                  have h := Radius_ok w' m L N k far next hm H0.out HR.out hlt5
                  rw [show mxF (far k) (L.length - 1) = far k a from HRK.out] at h
                  exact h)
                have K61 : Hid (∀ w', Below wr.heap.size wr w' → Calls Try.prog 61 #[.slice (some ⟨w1.heap.size + 1, k * 8, none⟩) L.length 8] w' fun e w'' => e = .returned (.int .i64 (far k a)) ∧ ∃ m, w'' = w'.drewN m) := Lib.hid (fun w' hb => by
                  have h := max_any w' (w1.heap.size + 1) (k * 8) (L.length - 1) 8 (far k) (by omega) (fun j hj => (HS5.out.below hb).dist (by omega) (by omega))
                  rw [show L.length - 1 + 1 = L.length by omega, show mxF (far k) (L.length - 1) = far k a from HRK.out] at h
                  exact h.mono (fun e w'' ⟨h1, h2⟩ => ⟨h1, 0, h2.symm⟩))
                go_wp2_with (go_at_call 50; refine (K50.out _ _ HS5.out.mkt).mono ?_; rintro e w5 ⟨rfl, hb5⟩; (have q1 := (HS5.out.below hb5).dist (x := k) (y := a) (by omega) (by omega)); (have q2 := (HS5.out.below hb5).dist (x := k) (y := b) (by omega) (by omega)))
                go_quiet (first | (go_at_call 61; refine Calls.quiet_of (K61.out _ (by exact below_drewN hb5 _))))
                have HB6 := Lib.hid (below_drewN hb5 nq)
                have hsz := Nat.le_trans HBR5.out.size HB6.out.size
                clear hb5
                go_wp2_with (at_builtin; refine append_int W4.heap.size rfl _ _ rfl _ _ _ rfl ((HMR.out.below HB6.out).alloc _) w5.heap.size 0 1 rfl (far k a) (by exact new_cell _ _ _) (by omega) (by exact Nat.le_trans hsz (new_size _ _)) ?_; intro v' w7 hm7 hg7 _)
                go_roundw
                case rel => first | exact ⟨k + 1, by omega, by go_num, by rw [radVals_snoc, HRK.out]; exact hm7, (((HBR5.out.trans (HB6.out.mono HBR5.out.size)).alloc hsz _).grown hg7 (Nat.le_trans hsz (new_size _ _)) (fun k hk => (HMR.out.lt hk).1))⟩ | ((repeat apply Exists.intro); exact ⟨⟨k + 1, by omega, by go_num, by rw [radVals_snoc, HRK.out]; exact hm7, (((HBR5.out.trans (HB6.out.mono HBR5.out.size)).alloc hsz _).grown hg7 (Nat.le_trans hsz (new_size _ _)) (fun k hk => (HMR.out.lt hk).1))⟩, rfl⟩)
                case measure => simp [intOf]; omega
            · obtain rfl : k = L.length := by omega
              have c0 := HS5.out.c0
              have c1 := HS5.out.c1
              have hri := rad_ints HMR.out (by omega)
              have hls := leastL_small (radL (radF far L.length) L.length) (radF far L.length) (by rw [radL_length]; omega) (fun i hi => radL_at (by rw [radL_length] at hi; exact hi))
              rw [radL_length] at hls
              have hon : ∀ c, c ∈ smallF (radF far L.length) L.length → c ∈ l := fun c hc => by rw [HLW.out]; exact HT.out.centres_on han hbl hl1 HMAX.out hc
              have hfew := HT.out.centres_few han hbl hl1 HMAX.out
              have HON := Lib.hid hon
              have HRI := Lib.hid hri
              have HLS := Lib.hid hls
              clear hon hri hls q
              rcases hfew with ⟨c, hc⟩ | ⟨c, d, hc, hcn, hdn, hcd⟩
              · have K27 : Hid (∀ w' m, Mkt w' m L N → Calls Try.prog 27 #[m] w' fun e w'' => ∃ b o cap, e = .returned (.tuple #[.slice (some ⟨b, o, none⟩) 1 cap, .int .i64 0]) ∧ Ints w'' (.slice (some ⟨b, o, none⟩) 1 cap) (upL [c]) ∧ Below w'.heap.size w' w'') := Lib.hid (fun w' m hm => by
                  refine (Centres_li (l := [c]) hm H0.out HR.out hc.symm (by simp) (by simp)).mono fun e w'' => ?_
                  rintro ⟨b, o, cap, k, rfl, hk, hi, hb⟩
                  obtain rfl : k = 0 := by simpa using hk.symm
                  exact ⟨b, o, cap, rfl, hi, hb⟩)
                have K57 : Hid (∀ w' v, Ints w' v (radL (radF far L.length) L.length) → Calls Try.prog 57 #[v] w' (RetL w' [c])) := Lib.hid (fun w' v hv => by
                  have h := least_any w' v _ hv (by rw [radL_length]; omega)
                  rw [HLS.out, hc] at h
                  exact h)
                have HCL : Hid (∀ x, x ∈ [c] → x ∈ l) := Lib.hid (fun x hx => HON.out x (by rw [hc]; exact hx))
                clear hc
                go_wp2_with (go_at_call 27; refine (K27.out _ _ HS5.out.mkt).mono ?_; rintro e w6 ⟨bk, ok, ck, rfl, hik, hb6⟩; (have HIK := Lib.hid hik); (have HB6 := Lib.hid hb6); clear hik hb6)
                have HB5' := Lib.hid HBR5.out
                clear c0 c1
                refine wp_region_any (by kernel_rfl) ?_
                change wpAny _ _ _ _ _ _ _ (World.drew _)
                (refine wpAny_take (i := 0) (oi := _) (v := ?_) rfl (by kernel_rfl) (by kernel_rfl) (by kernel_rfl) (fun _ _ _ h => h) (Or.inl ⟨by rfl, ?_⟩) ?_); rotate_left
                · (intro w; go_simp; (try with_reducible rfl))
                (try simp only [Act.put, List.setIfInBounds_toArray, List.set_cons_zero, List.set_cons_succ])
                (refine wpAny_take (i := 1) (oi := _) (v := ?_) rfl (by kernel_rfl) (by kernel_rfl) (by kernel_rfl) (fun _ _ _ h => h) (Or.inl ⟨by rfl, ?_⟩) ?_); rotate_left
                · (intro w; go_simp; (try with_reducible rfl))
                (try simp only [Act.put, List.setIfInBounds_toArray, List.set_cons_zero, List.set_cons_succ])
                (refine wpAny_take (i := 2) (oi := _) (v := ?_) rfl (by kernel_rfl) (by kernel_rfl) (by kernel_rfl) (fun _ _ _ h => h) (Or.inl ⟨by rfl, ?_⟩) ?_); rotate_left
                · (intro w; go_simp; (try with_reducible rfl))
                (try simp only [Act.put, List.setIfInBounds_toArray, List.set_cons_zero, List.set_cons_succ])
                (refine wpAny_take (i := 3) (oi := _) (v := ?_) rfl (by kernel_rfl) (by kernel_rfl) (by kernel_rfl) (fun _ _ _ h => h) (Or.inl ⟨by rfl, ?_⟩) ?_); rotate_left
                · (intro w; go_simp; (try with_reducible rfl))
                (try simp only [Act.put, List.setIfInBounds_toArray, List.set_cons_zero, List.set_cons_succ])
                (refine wpAny_take (i := 4) (oi := _) (v := ?_) rfl (by kernel_rfl) (by kernel_rfl) (by kernel_rfl) (fun _ _ _ h => h) (Or.inl ⟨by rfl, ?_⟩) ?_); rotate_left
                · (intro w; go_simp; (try with_reducible rfl))
                (try simp only [Act.put, List.setIfInBounds_toArray, List.set_cons_zero, List.set_cons_succ])
                refine wpAny_ready (rs := [5]) (by kernel_rfl) (by simp) ?_
                refine AllReady.cons (o := _) rfl (fun K hK => ?_) AllReady.nil
                go_simp
                (go_at_call 57; refine (K57.out _ _ (by exact (HRI.out.below HB6.out).below (below_drewN (Below.refl _ _) 1))).mono ?_; rintro e w8 ⟨lv, rfl, hlm, hb8⟩)
                show K _ _
                refine hK _ _ ?_
                clear hK K
                (try simp only [Act.put, List.setIfInBounds_toArray, List.set_cons_zero, List.set_cons_succ])
                have HB8 := Lib.hid ((below_drewN (Below.refl w6.heap.size w6) 1).trans (hb8.mono (Nat.le_refl _)))
                have HLM := Lib.hid hlm
                clear hb8 hlm
                have K24 : Hid (∀ gw : HeldW (Later w8), Calls Try.prog 24 #[.slice (some ⟨bk, ok, none⟩) 1 ck, lv] gw.w fun e w'' => e = .returned (.bool true) ∧ ∃ g' : HeldW (Later w8), w'' = g'.w) := Lib.hid (fun gw => by
                  have h := same_any gw.w _ _ (upL [c]) (upL [c]) ((HIK.out.below HB8.out).below gw.h) ((HLM.out.ints (by simp)).below gw.h)
                  rw [show decide (upL [c] = upL [c]) = true from decide_eq_true rfl] at h
                  exact Calls.later gw h)
                refine wpAny_class (k := 6) (rest := ?rest) (Later w8) ?hs ?hd ?hf ?hB ?hS ?h
                case hs => kernel_rfl
                case hd => (simp only [List.drop_succ_cons, List.drop_zero]; try rfl)
                case hf => rfl
                case hB => kernel_rfl
                case hS => exact Below.refl _ _
                case h =>
                  repeat (go_big_quiet_step ((first | (go_at_call 24; exact K24.out _))))
                  refine wpQuiet_nil ?_
                  intro wq hw'
                  obtain ⟨⟨_, hq⟩, rfl⟩ := hw'
                  have HQ := Lib.hid (HB8.out.trans (hq.mono HB8.out.size))
                  clear hq
                  have HBQ := Lib.hid (HB5'.out.trans ((HB6.out.trans (HQ.out.mono HB6.out.size)).mono HB5'.out.size))
                  go_wp2
                  go_loopw [215, 24] (fun x _ => KRel wq 1 x) (fun i _ _ => 1 - (intOf i).toNat)
                  case atStart => exact ⟨0, Nat.zero_le _, rfl, Below.refl _ _⟩
                  case round =>
                    obtain ⟨t, ht, rfl, hbr⟩ := hrel
                    have HBR7 := Lib.hid hbr
                    clear hbr
                    by_cases hlt7 : t < 1
                    · obtain ⟨ce, hce⟩ : ∃ ce, ([c] : List Nat)[t]? = some ce := ⟨_, List.getElem?_eq_getElem (show t < 1 from hlt7)⟩
                      have qe := ((HIK.out.below HQ.out).below HBR7.out).at_ hce
                      have HCE := Lib.hid (HCL.out ce (List.mem_of_getElem? hce))
                      clear hce
                      have hdt : decide ((t : Int) < 1) = true := decide_eq_true (by omega)
                      go_wp2_with (go_at_call 59; refine (K59.out _ ce (by exact HBQ.out.trans (HBR7.out.mono HBQ.out.size)) HCE.out).mono ?_; rintro e w10 ⟨rfl, rfl⟩)
                      go_roundw
                      case rel => first | exact ⟨t + 1, by omega, by go_num, HBR7.out⟩ | ((repeat apply Exists.intro); exact ⟨⟨t + 1, by omega, by go_num, HBR7.out⟩, rfl⟩)
                      case measure => simp [intOf]; omega
                    · obtain rfl : t = 1 := by omega
                      go_wp2_with (go_at_call 17; refine (works_ok _).mono ?_; rintro e w11 ⟨rfl, hb11⟩)
                      go_ret
                      have e1 := HB1.out.trans ((HB4.out.trans (HBQ.out.mono HB4.out.size)).mono HB1.out.size)
                      have e2 := e1.trans (HBR7.out.mono e1.size)
                      exact ⟨rfl, e2.trans (hb11.mono e2.size)⟩
              · have K27 : Hid (∀ w' m, Mkt w' m L N → Calls Try.prog 27 #[m] w' fun e w'' => ∃ b o cap, e = .returned (.tuple #[.slice (some ⟨b, o, none⟩) 2 cap, .int .i64 0]) ∧ Ints w'' (.slice (some ⟨b, o, none⟩) 2 cap) (upL [c, d]) ∧ Below w'.heap.size w' w'') := Lib.hid (fun w' m hm => by
                  refine (Centres_li (l := [c, d]) hm H0.out HR.out hc.symm (by simp) (by simp)).mono fun e w'' => ?_
                  rintro ⟨b, o, cap, k, rfl, hk, hi, hb⟩
                  obtain rfl : k = 1 := by simp at hk; omega
                  exact ⟨b, o, cap, rfl, hi, hb⟩)
                have K57 : Hid (∀ w' v, Ints w' v (radL (radF far L.length) L.length) → Calls Try.prog 57 #[v] w' (RetL w' [c, d])) := Lib.hid (fun w' v hv => by
                  have h := least_any w' v _ hv (by rw [radL_length]; omega)
                  rw [HLS.out, hc] at h
                  exact h)
                have HCL : Hid (∀ x, x ∈ [c, d] → x ∈ l) := Lib.hid (fun x hx => HON.out x (by rw [hc]; exact hx))
                have hln := (adj_pos (valid_of H0.out).good hcd).1
                obtain ⟨ln, hle⟩ : ∃ ln, ln = lenK N N.length c d := ⟨_, rfl⟩
                rw [← hle] at hln
                have K58w : Hid (∀ w' m, Mkt w' m L N → Calls Try.prog 58 #[m, .int .i64 (c : Int), .int .i64 (d : Int)] w' (Ret w' (.int .i64 ln))) := Lib.hid (fun w' m hm => by rw [hle]; exact length_ok _ _ L N far next c d hm H0.out HR.out)
                have hl0 : (ln == 0) = false := by rw [beq_eq_false_iff_ne]; omega
                clear hc hcd hle hln
                go_wp2_with (go_at_call 27; refine (K27.out _ _ HS5.out.mkt).mono ?_; rintro e w6 ⟨bk, ok, ck, rfl, hik, hb6⟩; (have HIK := Lib.hid hik); (have HB6 := Lib.hid hb6); clear hik hb6)
                have HB5' := Lib.hid HBR5.out
                clear c0 c1
                refine wp_region_any (by kernel_rfl) ?_
                change wpAny _ _ _ _ _ _ _ (World.drew _)
                (refine wpAny_take (i := 0) (oi := _) (v := ?_) rfl (by kernel_rfl) (by kernel_rfl) (by kernel_rfl) (fun _ _ _ h => h) (Or.inl ⟨by rfl, ?_⟩) ?_); rotate_left
                · (intro w; go_simp; (try with_reducible rfl))
                (try simp only [Act.put, List.setIfInBounds_toArray, List.set_cons_zero, List.set_cons_succ])
                (refine wpAny_take (i := 1) (oi := _) (v := ?_) rfl (by kernel_rfl) (by kernel_rfl) (by kernel_rfl) (fun _ _ _ h => h) (Or.inl ⟨by rfl, ?_⟩) ?_); rotate_left
                · (intro w; go_simp; (try with_reducible rfl))
                (try simp only [Act.put, List.setIfInBounds_toArray, List.set_cons_zero, List.set_cons_succ])
                (refine wpAny_take (i := 2) (oi := _) (v := ?_) rfl (by kernel_rfl) (by kernel_rfl) (by kernel_rfl) (fun _ _ _ h => h) (Or.inl ⟨by rfl, ?_⟩) ?_); rotate_left
                · (intro w; go_simp; (try with_reducible rfl))
                (try simp only [Act.put, List.setIfInBounds_toArray, List.set_cons_zero, List.set_cons_succ])
                (refine wpAny_take (i := 3) (oi := _) (v := ?_) rfl (by kernel_rfl) (by kernel_rfl) (by kernel_rfl) (fun _ _ _ h => h) (Or.inl ⟨by rfl, ?_⟩) ?_); rotate_left
                · (intro w; go_simp; (try with_reducible rfl))
                (try simp only [Act.put, List.setIfInBounds_toArray, List.set_cons_zero, List.set_cons_succ])
                (refine wpAny_take (i := 4) (oi := _) (v := ?_) rfl (by kernel_rfl) (by kernel_rfl) (by kernel_rfl) (fun _ _ _ h => h) (Or.inl ⟨by rfl, ?_⟩) ?_); rotate_left
                · (intro w; go_simp; (try with_reducible rfl))
                (try simp only [Act.put, List.setIfInBounds_toArray, List.set_cons_zero, List.set_cons_succ])
                refine wpAny_ready (rs := [5]) (by kernel_rfl) (by simp) ?_
                refine AllReady.cons (o := _) rfl (fun K hK => ?_) AllReady.nil
                go_simp
                (go_at_call 57; refine (K57.out _ _ (by exact (HRI.out.below HB6.out).below (below_drewN (Below.refl _ _) 1))).mono ?_; rintro e w8 ⟨lv, rfl, hlm, hb8⟩)
                show K _ _
                refine hK _ _ ?_
                clear hK K
                (try simp only [Act.put, List.setIfInBounds_toArray, List.set_cons_zero, List.set_cons_succ])
                have HB8 := Lib.hid ((below_drewN (Below.refl w6.heap.size w6) 1).trans (hb8.mono (Nat.le_refl _)))
                have HLM := Lib.hid hlm
                clear hb8 hlm
                have K24 : Hid (∀ gw : HeldW (Later w8), Calls Try.prog 24 #[.slice (some ⟨bk, ok, none⟩) 2 ck, lv] gw.w fun e w'' => e = .returned (.bool true) ∧ ∃ g' : HeldW (Later w8), w'' = g'.w) := Lib.hid (fun gw => by
                  have h := same_any gw.w _ _ (upL [c, d]) (upL [c, d]) ((HIK.out.below HB8.out).below gw.h) ((HLM.out.ints (by simp)).below gw.h)
                  rw [show decide (upL [c, d] = upL [c, d]) = true from decide_eq_true rfl] at h
                  exact Calls.later gw h)
                have p0 := Later.cell ((HS5.out.below HB6.out).below HB8.out).c0
                have p1 := Later.cell ((HS5.out.below HB6.out).below HB8.out).c1
                have p2 := Later.cell ((HIK.out.below HB8.out).at_ (j := 0) (c := c) rfl)
                have p3 := Later.cell ((HIK.out.below HB8.out).at_ (j := 1) (c := d) rfl)
                rw [Nat.add_zero] at p2
                have K58 : Hid (∀ gw : HeldW (Later w8), Calls Try.prog 58 #[.agg #[.slice (some ⟨lb, lof, none⟩) L.length lc, .slice na N.length nc], .int .i64 (c : Int), .int .i64 (d : Int)] gw.w fun e w'' => e = .returned (.int .i64 ln) ∧ ∃ g' : HeldW (Later w8), w'' = g'.w) := Lib.hid (fun gw => Calls.later gw (K58w.out _ _ (((HS5.out.below HB6.out).below HB8.out).below gw.h).mkt))
                refine wpAny_class (k := 6) (rest := ?rest) (Later w8) ?hs ?hd ?hf ?hB ?hS ?h
                case hs => kernel_rfl
                case hd => (simp only [List.drop_succ_cons, List.drop_zero]; try rfl)
                case hf => rfl
                case hB => kernel_rfl
                case hS => exact Below.refl _ _
                case h =>
                  repeat (go_big_quiet_step ((first | (go_at_call 24; exact K24.out _) | (go_at_call 58; exact K58.out _))))
                  refine wpQuiet_nil ?_
                  intro wq hw'
                  obtain ⟨⟨_, hq⟩, rfl⟩ := hw'
                  have HQ := Lib.hid (HB8.out.trans (hq.mono HB8.out.size))
                  clear hq
                  have HBQ := Lib.hid (HB5'.out.trans ((HB6.out.trans (HQ.out.mono HB6.out.size)).mono HB5'.out.size))
                  go_wp2
                  go_loopw [215, 24] (fun x _ => KRel wq 2 x) (fun i _ _ => 2 - (intOf i).toNat)
                  case atStart => exact ⟨0, Nat.zero_le _, rfl, Below.refl _ _⟩
                  case round =>
                    obtain ⟨t, ht, rfl, hbr⟩ := hrel
                    have HBR7 := Lib.hid hbr
                    clear hbr
                    by_cases hlt7 : t < 2
                    · obtain ⟨ce, hce⟩ : ∃ ce, ([c, d] : List Nat)[t]? = some ce := ⟨_, List.getElem?_eq_getElem (show t < 2 from hlt7)⟩
                      have qe := ((HIK.out.below HQ.out).below HBR7.out).at_ hce
                      have HCE := Lib.hid (HCL.out ce (List.mem_of_getElem? hce))
                      clear hce
                      have hdt : decide ((t : Int) < 2) = true := decide_eq_true (by omega)
                      go_wp2_with (go_at_call 59; refine (K59.out _ ce (by exact HBQ.out.trans (HBR7.out.mono HBQ.out.size)) HCE.out).mono ?_; rintro e w10 ⟨rfl, rfl⟩)
                      go_roundw
                      case rel => first | exact ⟨t + 1, by omega, by go_num, HBR7.out⟩ | ((repeat apply Exists.intro); exact ⟨⟨t + 1, by omega, by go_num, HBR7.out⟩, rfl⟩)
                      case measure => simp [intOf]; omega
                    · obtain rfl : t = 2 := by omega
                      go_wp2_with (go_at_call 17; refine (works_ok _).mono ?_; rintro e w11 ⟨rfl, hb11⟩)
                      go_ret
                      have e1 := HB1.out.trans ((HB4.out.trans (HBQ.out.mono HB4.out.size)).mono HB1.out.size)
                      have e2 := e1.trans (HBR7.out.mono e1.size)
                      exact ⟨rfl, e2.trans (hb11.mono e2.size)⟩
end Go.Proofs.Ytkhkgmelicdpkaa

