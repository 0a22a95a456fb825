/- The reference's Best and Tips; both sides of TipSeveral in one form each. -/
import Derived.Test.YtkhkgmelicdpkaaRt
set_option linter.unusedVariables false
set_option linter.unusedSimpArgs false
namespace Go.Proofs.Ytkhkgmelicdpkaa
open Go.RowKit Go.BigFrame

set_option maxRecDepth 100000 in
set_option maxHeartbeats 4000000 in
theorem Best_rbad (w : World) (m : Value) (L : List Int) (N : List Lane) (k c : Int) (hm : Mkt w m L N) (hc : checkCode L N = c) (hne : c ≠ 0) :
    Calls Try.prog 36 #[m, .int .i64 k] w (Ret w (.tuple #[.slice none 0 0, .int .i64 c])) := by
  have HM : Hid (∀ w', Below w.heap.size w w' → Mkt w' m L N) := Lib.hid (fun w' hb => hm.below hb)
  obtain ⟨la, lc, na, nc, rfl, hlM, hN⟩ := hm.shape
  have KC : Hid (∀ w', Below w.heap.size w w' → Calls Try.prog 48 #[.agg #[.slice la L.length lc, .slice na N.length nc]] w' (Ret w' (.int .i64 c))) := Lib.hid (fun w' hb => by rw [← hc]; exact Check_r w' _ L N (HM.out _ hb))
  have HB := Lib.hid (Below.one w (.cells #[.slice la L.length lc, .slice na N.length nc] 28))
  have h1 : (c == 0) = false := by rw [beq_eq_false_iff_ne]; exact hne
  have h2 : (c != 0) = true := by simp; exact hne
  clear hm hlM hN hc hne
  go_enter Try.func36, Try.ntmps36
  go_wp2_with (first | (go_at_call 48; refine (KC.out _ HB.out).mono ?_; rintro e w1 ⟨rfl, hb1⟩))
  go_ret2
  exact ⟨rfl, HB.out.trans (hb1.mono HB.out.size)⟩
theorem best_same {L : List Int} {far : Nat → Nat → Int} {many : Nat} {l : List Nat} (h8 : L.length ≤ 8) (h : IsBest (costL L far) (Ext L.length many []) l) : bestList (bestN L far many (2 ^ L.length)) = upL l := by
  have hb := bestN_all far many h8
  have hl : IsBest (costL L far) (Cand L.length many) l := h.congr (fun v => ⟨fun h => h.1, fun h => ⟨h, v, rfl⟩⟩) (fun _ _ => rfl)
  cases hs : bestN L far many (2 ^ L.length) with
  | none =>
    rw [hs] at hb
    exact absurd hl.1 (hb l)
  | some x =>
    obtain ⟨b, k⟩ := x
    rw [hs] at hb
    show upL b = upL l
    rw [hb.1.uniq hl]
set_option maxRecDepth 100000 in
set_option maxHeartbeats 4000000 in
theorem Best_rnone (w : World) (m : Value) (L : List Int) (N : List Lane) (k : Int) (hm : Mkt w m L N) (h0 : checkCode L N = 0) (hk : ¬ (1 ≤ k ∧ k ≤ L.length)) :
    Calls Try.prog 36 #[m, .int .i64 k] w (Ret w (.tuple #[.slice none 0 0, .int .i64 2])) := by
  have HM : Hid (∀ w', Below w.heap.size w w' → Mkt w' m L N) := Lib.hid (fun w' hb => hm.below hb)
  obtain ⟨la, lc, na, nc, rfl, hlM, hN⟩ := hm.shape
  have KC : Hid (∀ w', Below w.heap.size w w' → Calls Try.prog 48 #[.agg #[.slice la L.length lc, .slice na N.length nc]] w' (Ret w' (.int .i64 0))) := Lib.hid (fun w' hb => by rw [← h0]; exact Check_r w' _ L N (HM.out _ hb))
  have HB := Lib.hid (Below.one w (.cells #[.slice la L.length lc, .slice na N.length nc] 28))
  have HK := Lib.hid hk
  clear hm hlM hN h0 hk
  go_enter Try.func36, Try.ntmps36
  go_wp2_with (first
    | (go_at_call 48; refine (KC.out _ HB.out).mono ?_; rintro e w1 ⟨rfl, hb1⟩; (have c0 := Below.cellOf hb1 (show (w.alloc (.cells #[.slice la L.length lc, .slice na N.length nc] 28)).cell? ⟨w.heap.size, 0, none⟩ = some (.slice la L.length lc) by simp)))
    | (go_at_call 87; refine (in_no _ _ _ _ HK.out).mono ?_; rintro e w2 ⟨rfl, rfl⟩))
  go_ret2
  exact ⟨rfl, HB.out.trans (hb1.mono HB.out.size)⟩
set_option maxRecDepth 100000 in
set_option maxHeartbeats 4000000 in
theorem Best_r2 (w : World) (m : Value) (L : List Int) (N : List Lane) (k : Nat) (far : Nat → Nat → Int) (next : Nat → Nat → Nat) (hm : Mkt w m L N) (h0 : checkCode L N = 0) (hR : AllRooted L.length N far next) (h1 : 1 ≤ k) (h2 : k ≤ L.length) :
    Calls Try.prog 36 #[m, .int .i64 (k : Int)] w (RetInts w (bestList (bestN L far k (2 ^ L.length))) 0) := by
  have HM : Hid (∀ w', Below w.heap.size w w' → Mkt w' m L N) := Lib.hid (fun w' hb => hm.below hb)
  obtain ⟨la, lc, na, nc, rfl, hlM, hN⟩ := hm.shape
  have HV := Lib.hid (valid_of h0)
  have KC : Hid (∀ w', Below w.heap.size w w' → Calls Try.prog 48 #[.agg #[.slice la L.length lc, .slice na N.length nc]] w' (Ret w' (.int .i64 0))) := Lib.hid (fun w' hb => by rw [← h0]; exact Check_r w' _ L N (HM.out _ hb))
  have K89 : Hid (∀ w', Below w.heap.size w w' → Calls Try.prog 89 #[.agg #[.slice la L.length lc, .slice na N.length nc], .slice none 0 0, .int .i64 (k : Int)] w' (BestPost w' (costL L far) (Ext L.length k []) k)) := Lib.hid (fun w' hb => by
    have hi : Ints w' (.slice none 0 0) (upL []) := ints_nil w' 0
    exact best_r L N far next h0 hR k h1 h2 (k + 1) w' _ _ [] (HM.out _ hb) (by simp) (by simp) (by simp) (by simp [fromOf]; omega) hi (by simp))
  have HB := Lib.hid (Below.one w (.cells #[.slice la L.length lc, .slice na N.length nc] 28))
  have HK : Hid (1 ≤ (k : Int) ∧ (k : Int) ≤ (L.length : Int)) := Lib.hid (by omega)
  clear hm hlM hN h0 hR
  go_enter Try.func36, Try.ntmps36
  go_wp2_with (first
    | (go_at_call 48; refine (KC.out _ HB.out).mono ?_; rintro e w1 ⟨rfl, hb1⟩; (have c0 := Below.cellOf hb1 (show (w.alloc (.cells #[.slice la L.length lc, .slice na N.length nc] 28)).cell? ⟨w.heap.size, 0, none⟩ = some (.slice la L.length lc) by simp)); (have c1 := Below.cellOf hb1 (show (w.alloc (.cells #[.slice la L.length lc, .slice na N.length nc] 28)).cell? ⟨w.heap.size, 1, none⟩ = some (.slice na N.length nc) by simp)); (have HB1 := Lib.hid (HB.out.trans (hb1.mono HB.out.size))))
    | (go_at_call 87; refine (in_yes _ _ _ _ HK.out).mono ?_; rintro e w2 ⟨rfl, rfl⟩)
    | (go_at_call 89; refine (K89.out _ HB1.out).mono ?_; rintro e w3 ⟨g3, o3, p3, l3, rfl, hl3, hi3, hb3⟩))
  go_ret2
  exact ⟨_, rfl, by rw [best_same HV.out.le hl3]; exact hi3, HB1.out.trans (hb3.mono HB1.out.size)⟩
theorem Best_two {w0 : World} {m0 : Value} {L : List Int} {N : List Lane} (hm0 : Mkt w0 m0 L N) (k : Int) : ∃ xs c, (∀ w m, Mkt w m L N → Calls Try.prog 35 #[m, .int .i64 k] w (RetInts w xs c)) ∧ (∀ w m, Mkt w m L N → Calls Try.prog 36 #[m, .int .i64 k] w (RetInts w xs c)) := by
  rcases Int.decEq (checkCode L N) 0 with h | h
  · exact ⟨[], checkCode L N, fun w m hm => (Best_bad w m L N k _ hm (laidCode_nil L N) h).mono (fun e w' he => ret_ints he), fun w m hm => (Best_rbad w m L N k _ hm rfl h).mono (fun e w' he => ret_ints he)⟩
  · by_cases hk : 1 ≤ k ∧ k ≤ L.length
    · obtain ⟨far, next, hR⟩ := tree_exists hm0 h
      obtain ⟨n, rfl⟩ : ∃ n : Nat, k = (n : Int) := ⟨k.toNat, by omega⟩
      exact ⟨_, 0, fun w m hm => Best_ok w m L N n far next hm h hR (by omega) (by omega), fun w m hm => Best_r2 w m L N n far next hm h hR (by omega) (by omega)⟩
    · exact ⟨[], 2, fun w m hm => (Best_none w m L N k hm h hk).mono (fun e w' he => ret_ints he), fun w m hm => (Best_rnone w m L N k hm h hk).mono (fun e w' he => ret_ints he)⟩

/-! ### Tips -/
theorem tips_good {n : Int} {ts : List Int} {k : Nat} (hk : tipsCode n ts k = 0) : ∀ j, j < k → tipBad n ts j = 0 := by
  intro j hj
  rcases Int.decEq (tipBad n ts j) 0 with h | h
  · have e1 : tipsCode n ts (j + 1) ≠ 0 := by
      simp only [tipsCode]
      split
      · assumption
      · exact h
    rw [← tipsCode_stays n ts (j + 1) e1 k (by omega)] at e1
    exact absurd hk e1
  · exact h
theorem tipBad_zero {n : Int} {ts : List Int} {i : Nat} (h : tipBad n ts i = 0) : (0 ≤ gI ts i ∧ gI ts i ≤ n - 1) ∧ ¬ (0 < i ∧ gI ts i ≤ gI ts (i - 1)) := by
  unfold tipBad at h
  split at h
  · cases h
  · split at h
    · cases h
    · rename_i h1 h2
      exact ⟨Classical.not_not.1 h1, h2⟩
theorem tips_list {n : Nat} {ts : List Int} (h : tipsCode (n : Int) ts ts.length = 0) : ∃ l : List Nat, ts = upL l ∧ l.Pairwise (· < ·) ∧ ∀ x, x ∈ l → x < n := by
  have hg := tips_good h
  have hr : ∀ i, i < ts.length → 0 ≤ gI ts i ∧ gI ts i ≤ (n : Int) - 1 := fun i hi => (tipBad_zero (hg i hi)).1
  have hinc : ∀ j i, i < j → j < ts.length → gI ts i < gI ts j := by
    intro j
    induction j with
    | zero => intro i hi; omega
    | succ j ih =>
      intro i hi hj
      have h1 := (tipBad_zero (hg (j + 1) hj)).2
      rw [show j + 1 - 1 = j by omega] at h1
      rcases Nat.lt_or_ge i j with h2 | h2
      · have := ih i h2 (by omega)
        omega
      · rw [show i = j by omega]
        omega
  have hgi : ∀ i (hi : i < ts.length), gI ts i = ts[i] := fun i hi => by simp [gI, hi]
  refine ⟨ts.map Int.toNat, ?_, ?_, ?_⟩
  · unfold upL
    refine List.ext_getElem (by simp) (fun i h1 h2 => ?_)
    have h3 := hr i h1
    rw [hgi i h1] at h3
    simp only [List.getElem_map]
    omega
  · rw [List.pairwise_iff_getElem]
    intro i j hi hj hij
    rw [List.length_map] at hi hj
    simp only [List.getElem_map]
    have h1 := hinc j i hij hj
    rw [hgi i hi, hgi j hj] at h1
    have h2 := hr i hi
    rw [hgi i hi] at h2
    omega
  · intro x hx
    rw [List.mem_map] at hx
    obtain ⟨y, hy, rfl⟩ := hx
    obtain ⟨i, hi, e⟩ := List.mem_iff_getElem.1 hy
    have h2 := hr i hi
    rw [hgi i hi, e] at h2
    omega
/-- What both sides return for tips in a market without error. -/
def tipsRes (L : List Int) (far : Nat → Nat → Int) (ts : List Int) : Value :=
  if ts.length = 0 then .tuple #[.int .i64 0, .int .i64 4] else .tuple #[.int .i64 (if tipsCode L.length ts ts.length = 0 then costF L far (maskOf ts ts.length) else 0), .int .i64 (tipsCode L.length ts ts.length)]
theorem tips_cost {L : List Int} {far : Nat → Nat → Int} {l : List Nat} (h8 : L.length ≤ 8) (hs : l.Pairwise (· < ·)) (hl : ∀ x, x ∈ l → x < L.length) : costF L far (maskOf (upL l) (upL l).length) = costL L far l := by
  obtain ⟨e1, e2⟩ := maskOf_list h8 hs hl
  rw [upL_length, costF_list far h8 e2, e1]
def TipsTry (w1 : World) (n : Int) (ts : List Int) (iv ev : Value) (wr : World) : Prop := ∃ k : Nat, k ≤ ts.length ∧ iv = .int .i64 (k : Int) ∧ ev = .int .i64 (tipsCode n ts k) ∧ Below w1.heap.size w1 wr
theorem code_next {n : Int} {ts : List Int} {k : Nat} (hk : tipsCode n ts k = 0) : tipsCode n ts (k + 1) = tipBad n ts k := by
  simp only [tipsCode]
  rw [if_neg (by rw [hk]; simp)]
set_option maxRecDepth 100000 in
set_option maxHeartbeats 8000000 in
theorem Tips_r (w : World) (m tv : Value) (L : List Int) (N : List Lane) (ts : List Int) (far : Nat → Nat → Int) (next : Nat → Nat → Nat) (hm : Mkt w m L N) (ht : Ints w tv ts) (h0 : checkCode L N = 0) (hR : AllRooted L.length N far next) :
    Calls Try.prog 34 #[m, tv] w (Ret w (tipsRes L far ts)) := by
  have HM : Hid (∀ w', Below w.heap.size w w' → Mkt w' m L N) := Lib.hid (fun w' hb => hm.below hb)
  have HTI := Lib.hid ht
  obtain ⟨la, lc, na, nc, rfl, hlM, hN⟩ := hm.shape
  have HV := Lib.hid (valid_of h0)
  have h8 := HV.out.le
  have hp := HV.out.pos
  obtain ⟨hbig, ta, tc, tb, tf, hte, hta, htc⟩ := ht
  have hbig' : (ts.length : Int) ≤ 1000000000000 := by omega
  have KC : Hid (∀ w', Below w.heap.size w w' → Calls Try.prog 48 #[.agg #[.slice la L.length lc, .slice na N.length nc]] w' (Ret w' (.int .i64 0))) := Lib.hid (fun w' hb => by rw [← h0]; exact Check_r w' _ L N (HM.out _ hb))
  have HRES : Hid (∀ w', Below w.heap.size w w' → 1 ≤ ts.length → tipsCode L.length ts ts.length = 0 → ∃ q, tipsRes L far ts = .tuple #[.int .i64 q, .int .i64 0] ∧ Calls Try.prog 68 #[.agg #[.slice la L.length lc, .slice na N.length nc], tv] w' (Ret w' (.int .i64 q))) := Lib.hid (fun w' hb h1 hz => by
    obtain ⟨l, hl, hs, hlt⟩ := tips_list hz
    refine ⟨costL L far l, ?_, ?_⟩
    · unfold tipsRes
      rw [if_neg (by omega), if_pos hz, hz, hl, tips_cost h8 hs hlt]
    · have hi := HTI.out.below hb
      rw [hl] at hi h1
      rw [upL_length] at h1
      exact cost_r w' _ tv L N l far next (HM.out _ hb) h0 hR hi h1 hlt)
  have HB := Lib.hid (Below.one w (.cells #[.slice la L.length lc, .slice na N.length nc] 28))
  subst hte
  have l8 : (L.length : Int) ≤ 8 := by omega
  have l1 : 1 ≤ (L.length : Int) := by omega
  by_cases hz0 : ts.length = 0
  · have HE : Hid (tipsRes L far ts = .tuple #[.int .i64 0, .int .i64 4]) := Lib.hid (by unfold tipsRes; rw [if_pos hz0])
    have hz : ((ts.length : Int) == 0) = true := by rw [beq_iff_eq]; omega
    have hz2 : decide ((0 : Int) < (ts.length : Int)) = false := decide_eq_false (by omega)
    have hz3 : ¬ 0 < ts.length := by omega
    have hz4 : (ts.length : Int) = 0 := by omega
    clear hm hlM hN h0 hR hta htc hz0
    go_enter Try.func34, Try.ntmps34
    go_wp2_with (first | (go_at_call 48; refine (KC.out _ HB.out).mono ?_; rintro e w1 ⟨rfl, hb1⟩))
    have HBW := Lib.hid (HB.out.trans (hb1.mono HB.out.size))
    clear hb1
    go_loopw [7, 6] (fun a b wr => (a = .int .i64 0 ∧ b = .int .i64 4) ∧ Below w1.heap.size w1 wr) (fun i _ _ => 0)
    case atStart => exact ⟨⟨rfl, rfl⟩, Below.refl _ _⟩
    case round =>
      obtain ⟨⟨rfl, rfl⟩, hb⟩ := hrel
      go_wp2
      go_ret2
      rw [HE.out]
      exact ⟨rfl, HBW.out.trans (hb.mono HBW.out.size)⟩
  · have h1 : 1 ≤ ts.length := by omega
    have hz : ((ts.length : Int) == 0) = false := by rw [beq_eq_false_iff_ne]; omega
    obtain rfl := hta.resolve_left hz0
    have HTC : Hid (∀ i, i < ts.length → w.cell? ⟨tb, tf + i, none⟩ = some (.int .i64 (gI ts i))) := Lib.hid htc
    clear hm hlM hN h0 hR hta htc hz0
    go_enter Try.func34, Try.ntmps34
    go_wp2_with (first | (go_at_call 48; refine (KC.out _ HB.out).mono ?_; rintro e w1 ⟨rfl, hb1⟩; (have c0 := Below.cellOf hb1 (show (w.alloc (.cells #[.slice la L.length lc, .slice na N.length nc] 28)).cell? ⟨w.heap.size, 0, none⟩ = some (.slice la L.length lc) by simp)); (have c1 := Below.cellOf hb1 (show (w.alloc (.cells #[.slice la L.length lc, .slice na N.length nc] 28)).cell? ⟨w.heap.size, 1, none⟩ = some (.slice na N.length nc) by simp))))
    have HBW := Lib.hid (HB.out.trans (hb1.mono HB.out.size))
    have HC := Lib.hid (And.intro c0 c1)
    clear hb1 c0 c1
    go_loopw [7, 6] (TipsTry w1 L.length ts) (fun i _ _ => ts.length + 1 - (intOf i).toNat)
    case atStart => exact ⟨0, Nat.zero_le _, rfl, rfl, Below.refl _ _⟩
    case round =>
      obtain ⟨k, hk, rfl, rfl, hb⟩ := hrel
      have Hb := Lib.hid hb
      have c0 := Below.cellOf hb HC.out.1
      have c1 := Below.cellOf hb HC.out.2
      have HBR := Lib.hid (HBW.out.trans (hb.mono HBW.out.size))
      clear hb
      obtain ⟨E, hE⟩ : ∃ E, E = tipsCode L.length ts k := ⟨_, rfl⟩
      rw [← hE]
      have HE := Lib.hid hE
      clear hE
      have p0 := Later.cell c0
      have p1 := Later.cell c1
      by_cases hE0 : E = 0
      · subst hE0
        have HN := Lib.hid (code_next HE.out.symm)
        by_cases hlt : k < ts.length
        · have hck := Below.cellOf HBR.out (HTC.out k hlt)
          have p2 := Later.cell hck
          have k1 : (0 : Int) ≤ (k : Int) := by omega
          have k2 : (k : Int) < (ts.length : Int) := by omega
          by_cases hin : 0 ≤ gI ts k ∧ gI ts k ≤ (L.length : Int) - 1
          · rcases Nat.eq_zero_or_pos k with hk0 | hk0
            · have HB0 : Hid (tipBad L.length ts k = 0) := Lib.hid (by unfold tipBad; rw [if_neg (fun h => h hin), if_neg (by omega)])
              have hkd : decide ((0 : Int) < (k : Int)) = false := decide_eq_false (by omega)
              have hkd2 : decide (0 < k) = false := decide_eq_false (by omega)
              have HK0 := Lib.hid hk0
              clear hk0
              have S87 : Hid (∀ gw : HeldW (Later wr), Calls Try.prog 87 #[.int .i64 (gI ts k), .int .i64 0, .int .i64 ((L.length : Int) - 1)] gw.w fun e w'' => e = .returned (.bool true) ∧ ∃ g' : HeldW (Later wr), w'' = g'.w) := Lib.hid (fun gw => Calls.later_same gw (in_yes gw.w _ _ _ hin))
              go_wp2
              refine wp_region_class (Later wr) (by kernel_rfl) (by kernel_rfl) (below_drewN (Below.refl _ _) 1) ?_
              repeat (go_big_quiet_step ((first | (go_at_call 87; exact S87.out _))))
              refine wpQuiet_nil ?_
              intro wq hw'
              obtain ⟨⟨_, hq⟩, rfl⟩ := hw'
              have HQ := Lib.hid (Hb.out.trans (hq.mono Hb.out.size))
              have c2 := Below.cellOf hq hck
              go_wp2
              go_quiet (fail)
              go_wp2
              go_roundw
              case rel => exact ⟨k + 1, by omega, by go_num, by rw [HN.out, HB0.out], below_drewN HQ.out _⟩
              case measure => simp [intOf]; omega
            · obtain ⟨j, hj⟩ : ∃ j, k = j + 1 := ⟨k - 1, by omega⟩
              have hcj : wr.cell? ⟨tb, tf + j, none⟩ = some (.int .i64 (gI ts j)) := Below.cellOf HBR.out (HTC.out j (by omega))
              have e1 : (k : Int) - 1 = (j : Int) := by omega
              have j1 : (0 : Int) ≤ (j : Int) := by omega
              have j2 : (j : Int) < (ts.length : Int) := by omega
              have hkd : decide ((0 : Int) < (k : Int)) = true := decide_eq_true (by omega)
              have hkd2 : (0 : Int) < (k : Int) := by omega
              have HJ : Hid (gI ts (k - 1) = gI ts j) := Lib.hid (by rw [hj]; rfl)
              have HK0 := Lib.hid hk0
              clear hj
              by_cases hle : gI ts k ≤ gI ts j
              · have HB7 : Hid (tipBad L.length ts k = 7) := Lib.hid (by unfold tipBad; rw [if_neg (fun h => h hin), if_pos ⟨HK0.out, by rw [HJ.out]; exact hle⟩])
                have hled : decide (gI ts k ≤ gI ts j) = true := decide_eq_true hle
                have S87 : Hid (∀ gw : HeldW (Later wr), Calls Try.prog 87 #[.int .i64 (gI ts k), .int .i64 0, .int .i64 ((L.length : Int) - 1)] gw.w fun e w'' => e = .returned (.bool true) ∧ ∃ g' : HeldW (Later wr), w'' = g'.w) := Lib.hid (fun gw => Calls.later_same gw (in_yes gw.w _ _ _ hin))
                go_wp2
                refine wp_region_class (Later wr) (by kernel_rfl) (by kernel_rfl) (below_drewN (Below.refl _ _) 1) ?_
                repeat (go_big_quiet_step ((first | (go_at_call 87; exact S87.out _))))
                refine wpQuiet_nil ?_
                intro wq hw'
                obtain ⟨⟨_, hq⟩, rfl⟩ := hw'
                have HQ := Lib.hid (Hb.out.trans (hq.mono Hb.out.size))
                have c2 := Below.cellOf hq hck
                have c3 := Below.cellOf hq hcj
                go_wp2
                go_quiet (fail)
                go_wp2
                go_roundw
                case rel => exact ⟨k + 1, by omega, by go_num, by rw [HN.out, HB7.out], below_drewN HQ.out _⟩
                case measure => simp [intOf]; omega
              · have HB0 : Hid (tipBad L.length ts k = 0) := Lib.hid (by unfold tipBad; rw [if_neg (fun h => h hin), if_neg (by rw [HJ.out]; exact fun h => hle h.2)])
                have hled : decide (gI ts k ≤ gI ts j) = false := decide_eq_false hle
                have S87 : Hid (∀ gw : HeldW (Later wr), Calls Try.prog 87 #[.int .i64 (gI ts k), .int .i64 0, .int .i64 ((L.length : Int) - 1)] gw.w fun e w'' => e = .returned (.bool true) ∧ ∃ g' : HeldW (Later wr), w'' = g'.w) := Lib.hid (fun gw => Calls.later_same gw (in_yes gw.w _ _ _ hin))
                go_wp2
                refine wp_region_class (Later wr) (by kernel_rfl) (by kernel_rfl) (below_drewN (Below.refl _ _) 1) ?_
                repeat (go_big_quiet_step ((first | (go_at_call 87; exact S87.out _))))
                refine wpQuiet_nil ?_
                intro wq hw'
                obtain ⟨⟨_, hq⟩, rfl⟩ := hw'
                have HQ := Lib.hid (Hb.out.trans (hq.mono Hb.out.size))
                have c2 := Below.cellOf hq hck
                have c3 := Below.cellOf hq hcj
                go_wp2
                go_quiet (fail)
                go_wp2
                go_roundw
                case rel => exact ⟨k + 1, by omega, by go_num, by rw [HN.out, HB0.out], below_drewN HQ.out _⟩
                case measure => simp [intOf]; omega
          · have HB2 : Hid (tipBad L.length ts k = 2) := Lib.hid (by unfold tipBad; rw [if_pos hin])
            have S87 : Hid (∀ gw : HeldW (Later wr), Calls Try.prog 87 #[.int .i64 (gI ts k), .int .i64 0, .int .i64 ((L.length : Int) - 1)] gw.w fun e w'' => e = .returned (.bool false) ∧ ∃ g' : HeldW (Later wr), w'' = g'.w) := Lib.hid (fun gw => Calls.later_same gw (in_no gw.w _ _ _ hin))
            go_wp2
            refine wp_region_class (Later wr) (by kernel_rfl) (by kernel_rfl) (below_drewN (Below.refl _ _) 1) ?_
            repeat (go_big_quiet_step ((first | (go_at_call 87; exact S87.out _))))
            refine wpQuiet_nil ?_
            intro wq hw'
            obtain ⟨⟨_, hq⟩, rfl⟩ := hw'
            have HQ := Lib.hid (Hb.out.trans (hq.mono Hb.out.size))
            go_wp2
            go_roundw
            case rel => exact ⟨k + 1, by omega, by go_num, by rw [HN.out, HB2.out], HQ.out⟩
            case measure => simp [intOf]; omega
        · obtain rfl : k = ts.length := by omega
          obtain ⟨q, hq1, hq2⟩ := HRES.out wr HBR.out h1 HE.out.symm
          have HQ1 := Lib.hid hq1
          have K68 := Lib.hid hq2
          clear hq1 hq2
          go_wp2_with (first | (go_at_call 68; refine K68.out.mono ?_; rintro e w5 ⟨rfl, hb5⟩))
          go_ret2
          rw [HQ1.out]
          exact ⟨rfl, HBR.out.trans (hb5.mono HBR.out.size)⟩
      · have HX : Hid (tipsRes L far ts = .tuple #[.int .i64 0, .int .i64 E]) := Lib.hid (by
          have e := tipsCode_stays (L.length : Int) ts k (by rw [← HE.out]; exact hE0) ts.length hk
          unfold tipsRes
          rw [if_neg (by omega), e, ← HE.out, if_neg hE0])
        have he1 : (E == 0) = false := by rw [beq_eq_false_iff_ne]; exact hE0
        have he2 : (E != 0) = true := by simp; exact hE0
        clear hE0
        by_cases hlt : k < ts.length
        · have k2 : (k : Int) < (ts.length : Int) := by omega
          go_wp2
          go_ret2
          rw [HX.out]
          exact ⟨rfl, HBR.out⟩
        · have k2 : decide ((k : Int) < (ts.length : Int)) = false := decide_eq_false (by omega)
          have k3 : ¬ k < ts.length := hlt
          go_wp2
          go_ret2
          rw [HX.out]
          exact ⟨rfl, HBR.out⟩
end Go.Proofs.Ytkhkgmelicdpkaa
