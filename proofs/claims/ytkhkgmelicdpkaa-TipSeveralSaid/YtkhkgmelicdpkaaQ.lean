/- Contracts of package tip's exported functions: several tips. -/
import Derived.Test.YtkhkgmelicdpkaaP
set_option linter.unusedVariables false
set_option linter.unusedSimpArgs false
namespace Go.Proofs.Ytkhkgmelicdpkaa
open Go.RowKit

def tipBad (n : Int) (ts : List Int) (i : Nat) : Int := if ¬ (0 ≤ gI ts i ∧ gI ts i ≤ n - 1) then 2 else if 0 < i ∧ gI ts i ≤ gI ts (i - 1) then 7 else 0
def tipsCode (n : Int) (ts : List Int) : Nat → Int
  | 0 => 0
  | k + 1 => if tipsCode n ts k ≠ 0 then tipsCode n ts k else tipBad n ts k
def maskOf (ts : List Int) : Nat → Nat
  | 0 => 0
  | k + 1 => maskOf ts k ||| 2 ^ (gI ts k).toNat
theorem tipsCode_stays (n : Int) (ts : List Int) (k : Nat) (h : tipsCode n ts k ≠ 0) : ∀ j, k ≤ j → tipsCode n ts j = tipsCode n ts k := by
  intro j hj
  induction j with
  | zero => rw [Nat.le_zero.1 hj]
  | succ j ih =>
    rcases Nat.lt_or_ge k (j + 1) with hlt | hge
    · have e := ih (by omega)
      simp only [tipsCode]
      rw [if_pos (by rw [e]; exact h), e]
    · rw [show k = j + 1 by omega]
theorem tipsErr {n : Int} {ts : List Int} {k : Nat} {c : Int} (hk : tipsCode n ts k = 0) (hlt : k < ts.length) (hb : tipBad n ts k = c) (hc : c ≠ 0) : tipsCode n ts ts.length = c := by
  have e1 : tipsCode n ts (k + 1) = c := by
    simp only [tipsCode]
    rw [if_neg (by rw [hk]; simp), hb]
  rw [tipsCode_stays n ts (k + 1) (by rw [e1]; exact hc) ts.length (by omega), e1]
theorem tips_next {n : Int} {ts : List Int} {k : Nat} (hk : tipsCode n ts k = 0) (hb : tipBad n ts k = 0) : tipsCode n ts (k + 1) = 0 := by
  simp only [tipsCode]
  rw [if_neg (by rw [hk]; simp), hb]
def TipsRel (w1 : World) (n : Int) (ts : List Int) (iv sv : Value) (wr : World) : Prop :=
  ∃ k : Nat, k ≤ ts.length ∧ iv = .int .i64 (k : Int) ∧ sv = .int .u64 ((maskOf ts k : Nat) : Int) ∧ tipsCode n ts k = 0 ∧ maskOf ts k < 256 ∧ Below w1.heap.size w1 wr
def TipsPost (w : World) (L : List Int) (far : Nat → Nat → Int) (ts : List Int) (e : Ending) (w' : World) : Prop :=
  Below w.heap.size w w' ∧ e = .returned (.tuple #[.int .i64 (if tipsCode L.length ts ts.length = 0 then costF L far (maskOf ts ts.length) else 0), .int .i64 (tipsCode L.length ts ts.length)])

set_option maxRecDepth 100000 in
set_option maxHeartbeats 1000000 in
theorem Tips_empty (w : World) (m : Value) (tv : Value) (L : List Int) (N : List Lane) (far : Nat → Nat → Int) (next : Nat → Nat → Nat) (hm : Mkt w m L N) (ht : Ints w tv []) (h0 : checkCode L N = 0) (hR : AllRooted L.length N far next) :
    Calls Try.prog 33 #[m, tv] w (Ret w (.tuple #[.int .i64 0, .int .i64 4])) := by
  have hM : ∀ w', Below w.heap.size w w' → Mkt w' m L N := fun w' hb => hm.below hb
  obtain ⟨la, lc, na, nc, rfl, hl, hn⟩ := hm.shape
  obtain ⟨ht12, ta, tc, tb, tf, rfl, hta, htc⟩ := ht
  have H1 := Lib.hid (corners_ok0 h0)
  clear h0 hm
  go_enter Try.func33, Try.ntmps33
  go_wp2_with (go_at_call 66; refine (laid_ok _ _ _ L N [] far next (by exact hM _ (Below.one _ _)) (by exact ints_nil _ _) H1.out hR).mono ?_; rintro e w1 ⟨bt, rfl, hbt, hT, hb1⟩)
  go_ret2
  exact ⟨rfl, (Below.one w _).trans (hb1.mono (by simp))⟩

set_option maxRecDepth 100000 in
set_option maxHeartbeats 2000000 in
theorem Tips_ok (w : World) (m : Value) (tv : Value) (L : List Int) (N : List Lane) (ts : List Int) (far : Nat → Nat → Int) (next : Nat → Nat → Nat) (hm : Mkt w m L N) (ht : Ints w tv ts) (h0 : checkCode L N = 0) (hR : AllRooted L.length N far next) (hne : ts.length ≠ 0) :
    Calls Try.prog 33 #[m, tv] w (TipsPost w L far ts) := by
  have hM : ∀ w', Below w.heap.size w w' → Mkt w' m L N := fun w' hb => hm.below hb
  obtain ⟨la, lc, na, nc, rfl, hl, hn⟩ := hm.shape
  obtain ⟨ht12, ta, tc, tb, tf, rfl, hta, htc⟩ := ht
  obtain rfl : ta = some ⟨tb, tf, none⟩ := hta.resolve_left hne
  have hz : ((ts.length : Int) == 0) = false := by rw [beq_eq_false_iff_ne]; omega
  have hV := valid_of h0
  have T := tree_of hV.lanes hV.good hR
  have i1 : (L.length : Int) ≤ 8 := by have := hV.le; omega
  have H1 := Lib.hid (corners_ok0 h0)
  have HV := Lib.hid hV
  have HTC := Lib.hid htc
  have HF := Lib.hid (fun c k hc hk => (T.nonneg c k hc hk).1)
  clear h0 hm hV T htc hta hne
  go_enter Try.func33, Try.ntmps33
  go_wp2_with (go_at_call 66; refine (laid_ok _ _ _ L N [] far next (by exact hM _ (Below.one _ _)) (by exact ints_nil _ _) H1.out hR).mono ?_; rintro e w1 ⟨bt, rfl, hbt, hT, hb1⟩; (have hmb := box_cell hb1))
  have HB := Lib.hid ((Below.one w (.cells #[.slice la L.length lc, .slice na N.length nc] 25)).trans (hb1.mono (by simp)))
  have HT := Lib.hid hT
  have hbl : w.heap.size < w1.heap.size := World.block_lt_of_cell? w1 _ hmb
  clear hT hb1
  go_loopw [26, 8] (TipsRel w1 L.length ts) (fun i _ _ => ts.length - (intOf i).toNat)
  case atStart => exact ⟨0, Nat.zero_le _, rfl, rfl, rfl, by simp [maskOf], Below.refl _ _⟩
  case round =>
    obtain ⟨k, hk, rfl, rfl, htk, hmk, hb⟩ := hrel
    have Hb := Lib.hid hb
    have HK := Lib.hid htk
    clear hb htk
    by_cases hlt : k < ts.length
    · have hcell := Below.cellOf (HB.out.trans (Hb.out.mono HB.out.size)) (HTC.out k hlt)
      have hmb' := Below.cellOf Hb.out hmb
      have HErr := Lib.hid (fun (c : Int) h1 h2 => tipsErr (c := c) HK.out hlt h1 h2)
      by_cases hA : 0 ≤ gI ts k ∧ gI ts k ≤ (L.length : Int) - 1
      · by_cases hO : 0 < k ∧ gI ts k ≤ gI ts (k - 1)
        · have hcell2 := Below.cellOf (HB.out.trans (Hb.out.mono HB.out.size)) (HTC.out (k - 1) (by omega))
          have HE := Lib.hid (HErr.out 7 (by unfold tipBad; rw [if_neg (fun h => h hA), if_pos hO]) (by omega))
          obtain ⟨j, rfl⟩ : ∃ j, k = j + 1 := ⟨k - 1, by omega⟩
          have hO2 : gI ts (j + 1) ≤ gI ts j := hO.2
          simp only [Nat.add_sub_cancel] at hcell2
          clear hO
          go_wp2_with (go_at_call 84; refine (within_yes _ _ _ _ hA.1 hA.2).mono ?_; rintro e w2 ⟨rfl, rfl⟩)
          go_ret2
          refine ⟨HB.out.trans (Hb.out.mono HB.out.size), ?_⟩
          rw [HE.out]
          rfl
        · have HG : Hid (tipBad L.length ts k = 0) := by unfold tipBad; rw [if_neg (fun h => h hA), if_neg hO]; rfl
          obtain ⟨x, hx⟩ : ∃ x : Nat, gI ts k = (x : Int) := ⟨(gI ts k).toNat, by omega⟩
          have hx8 : x < 8 := by omega
          have hix := idx_sets x hx8
          have hbo := bits_or_pow (maskOf ts k) x hmk hx8
          have hmk' : maskOf ts k ||| 2 ^ x < 256 := Nat.or_lt_two_pow (n := 8) hmk (Nat.pow_lt_pow_right (by omega) hx8)
          have hme : maskOf ts (k + 1) = maskOf ts k ||| 2 ^ x := by simp only [maskOf, hx, Int.toNat_natCast]
          have HM := Lib.hid hme
          clear hme
          rw [hx] at hcell hA
          by_cases hk0 : 0 < k
          · have hcell2 := Below.cellOf (HB.out.trans (Hb.out.mono HB.out.size)) (HTC.out (k - 1) (by omega))
            obtain ⟨j, rfl⟩ : ∃ j, k = j + 1 := ⟨k - 1, by omega⟩
            have hO2 : ¬ ((x : Int) ≤ gI ts j) := fun h => hO ⟨hk0, by rw [hx]; exact h⟩
            simp only [Nat.add_sub_cancel] at hcell2
            have HX := Lib.hid hx
            clear hO hx
            go_wp2_with (first | (go_at_call 84; refine (within_yes _ _ _ _ hA.1 hA.2).mono ?_; rintro e w2 ⟨rfl, rfl⟩) | (go_at_call 85; refine (sets_any _).mono ?_; rintro e w2 ⟨rfl, hb2⟩))
            go_roundw
            case rel => exact ⟨j + 1 + 1, by omega, by go_num, by rw [HM.out], tips_next HK.out HG.out, by rw [HM.out]; exact hmk', Hb.out.trans (hb2.mono Hb.out.size)⟩
            case measure => simp [intOf]; omega
          · have hk0' : ¬ (0 : Int) < (k : Int) := by omega
            have HX := Lib.hid hx
            clear hO hx hk0
            go_wp2_with (first | (go_at_call 84; refine (within_yes _ _ _ _ hA.1 hA.2).mono ?_; rintro e w2 ⟨rfl, rfl⟩) | (go_at_call 85; refine (sets_any _).mono ?_; rintro e w2 ⟨rfl, hb2⟩))
            go_roundw
            case rel => exact ⟨k + 1, by omega, by go_num, by rw [HM.out], tips_next HK.out HG.out, by rw [HM.out]; exact hmk', Hb.out.trans (hb2.mono Hb.out.size)⟩
            case measure => simp [intOf]; omega
      · have HE := Lib.hid (HErr.out 2 (by unfold tipBad; rw [if_pos hA]) (by omega))
        go_wp2_with (go_at_call 84; refine (within_no _ _ _ _ hA).mono ?_; rintro e w2 ⟨rfl, rfl⟩)
        go_ret2
        refine ⟨HB.out.trans (Hb.out.mono HB.out.size), ?_⟩
        rw [HE.out]
        rfl
    · obtain rfl : k = ts.length := by omega
      go_wp2_with (go_at_call 86; refine (cost_any wr bt L far next (nearK N N.length) (HT.out.below Hb.out) HV.out.le HV.out.loads HF.out (maskOf ts ts.length) hmk).mono ?_; rintro e w2 ⟨rfl, hb2⟩)
      go_ret2
      refine ⟨(HB.out.trans (Hb.out.mono HB.out.size)).trans (hb2.mono (HB.out.trans (Hb.out.mono HB.out.size)).size), ?_⟩
      rw [HK.out]
      rfl
end Go.Proofs.Ytkhkgmelicdpkaa
