/- The walk of TipBranches: for every market and two numbers it returns true. -/
import Derived.Test.YtkhkgmelicdpkaaRj
import Derived.Test.YtkhkgmelicdpkaaRo
set_option linter.unusedVariables false
set_option linter.unusedSimpArgs false
namespace Go.Proofs.Ytkhkgmelicdpkaa
open Go.RowKit Go.BigFrame

set_option maxRecDepth 100000 in
set_option maxHeartbeats 4000000 in
theorem branches_law (w : World) (m : Value) (L : List Int) (N : List Lane) (a b : Int) (hm : Mkt w m L N) : Calls Try.prog 3 #[m, .int .i64 a, .int .i64 b] w (Ret w (.bool true)) := by
  have HM : Hid (∀ w', Below w.heap.size w w' → Mkt w' m L N) := Lib.hid (fun w' hb => hm.below hb)
  obtain ⟨xs, c, k18, k19⟩ := Medians_two hm
  obtain ⟨ys, d, k20, k21⟩ := Branch_two hm a b
  obtain ⟨x, f, k22, k23⟩ := Why_two hm a
  obtain ⟨g, k25, k26⟩ := Proves_two hm a b
  have K18 := Lib.hid k18
  have K19 := Lib.hid k19
  have K20 := Lib.hid k20
  have K21 := Lib.hid k21
  have K22 := Lib.hid k22
  have K23 := Lib.hid k23
  have K25 := Lib.hid k25
  have K26 := Lib.hid k26
  have KL := Lib.hid (fun w' (hm' : Mkt w' m L N) => large_any w' m L N hm')
  clear k18 k19 k20 k21 k22 k23 k25 k26
  obtain ⟨la, lc, na, nc, rfl, hlM, hN⟩ := hm.shape
  have HB := Lib.hid (Below.one w (.cells #[.slice la L.length lc, .slice na N.length nc] 25))
  clear hm hlM hN
  by_cases hlg : 40 < L.length ∨ 40 < N.length
  · have K16 : Hid (∀ w', Mkt w' (.agg #[.slice la L.length lc, .slice na N.length nc]) L N → Calls Try.prog 16 #[.agg #[.slice la L.length lc, .slice na N.length nc]] w' (Ret w' (.bool true))) := Lib.hid (fun w' h => by
      have h := KL.out w' h
      rw [decide_eq_true hlg] at h
      exact h)
    clear hlg
    go_enter Try.func3, Try.ntmps3
    go_wp2_with (first | (go_at_call 16; refine (K16.out _ (HM.out _ HB.out)).mono ?_; rintro e w1 ⟨rfl, hb1⟩; (have HB1 := Lib.hid (HB.out.trans (hb1.mono HB.out.size)))) | (go_at_call 17; refine (works_ok _).mono ?_; rintro e w2 ⟨rfl, hb2⟩))
    go_ret
    exact ⟨rfl, HB1.out.trans (hb2.mono HB1.out.size)⟩
  · have K16 : Hid (∀ w', Mkt w' (.agg #[.slice la L.length lc, .slice na N.length nc]) L N → Calls Try.prog 16 #[.agg #[.slice la L.length lc, .slice na N.length nc]] w' (Ret w' (.bool false))) := Lib.hid (fun w' h => by
      have h := KL.out w' h
      rw [decide_eq_false hlg] at h
      exact h)
    clear hlg
    go_enter Try.func3, Try.ntmps3
    go_wp2_with (first
      | (go_at_call 16; refine (K16.out _ (HM.out _ HB.out)).mono ?_; rintro e w1 ⟨rfl, hb1⟩; (have HB1 := Lib.hid (HB.out.trans (hb1.mono HB.out.size))); (have c0 := Below.cellOf hb1 (show (w.alloc (.cells #[.slice la L.length lc, .slice na N.length nc] 25)).cell? ⟨w.heap.size, 0, none⟩ = some (.slice la L.length lc) by simp)); (have c1 := Below.cellOf hb1 (show (w.alloc (.cells #[.slice la L.length lc, .slice na N.length nc] 25)).cell? ⟨w.heap.size, 1, none⟩ = some (.slice na N.length nc) by simp)); (have hg1 : w.heap.size < w1.heap.size := World.block_lt_of_cell? w1 _ c0); clear hb1)
      | (go_at_call 18; refine (K18.out _ _ (HM.out _ (HB1.out.alloc HB1.out.size _))).mono ?_; rintro e w2 ⟨v2, rfl, hv2, hb2⟩; (have hB2 : Below w1.heap.size w1 w2 := (Below.one _ _).trans (hb2.mono (new_size _ _))); (replace c0 := Below.cellOf hB2 c0); (replace c1 := Below.cellOf hB2 c1); (have d0 := Below.cellOf hb2 (show (w1.alloc (.cells #[.slice la L.length lc, .slice na N.length nc] 28)).cell? ⟨w1.heap.size, 0, none⟩ = some (.slice la L.length lc) by simp)); (have d1 := Below.cellOf hb2 (show (w1.alloc (.cells #[.slice la L.length lc, .slice na N.length nc] 28)).cell? ⟨w1.heap.size, 1, none⟩ = some (.slice na N.length nc) by simp)); (have HB2 := Lib.hid (HB1.out.trans (hB2.mono HB1.out.size))); (have HV2 := Lib.hid hv2); clear hv2; clear hb2 hB2)
      | (go_at_call 19; refine (K19.out _ _ (HM.out _ HB2.out)).mono ?_; rintro e w3 ⟨v3, rfl, hv3, hb3⟩; (replace c0 := Below.cellOf hb3 c0); (replace c1 := Below.cellOf hb3 c1); (replace d0 := Below.cellOf hb3 d0); (replace d1 := Below.cellOf hb3 d1); (have HB3 := Lib.hid (HB2.out.trans (hb3.mono HB2.out.size))); (replace HV2 := Lib.hid (HV2.out.below hb3)); (have HV3 := Lib.hid hv3); clear hv3; clear hb3)
      | (go_at_call 20; refine (K20.out _ _ (HM.out _ HB3.out)).mono ?_; rintro e w4 ⟨v4, rfl, hv4, hb4⟩; (replace c0 := Below.cellOf hb4 c0); (replace c1 := Below.cellOf hb4 c1); (replace d0 := Below.cellOf hb4 d0); (replace d1 := Below.cellOf hb4 d1); (have HB4 := Lib.hid (HB3.out.trans (hb4.mono HB3.out.size))); (replace HV2 := Lib.hid (HV2.out.below hb4)); (replace HV3 := Lib.hid (HV3.out.below hb4)); (have HV4 := Lib.hid hv4); clear hv4; clear hb4)
      | (go_at_call 21; refine (K21.out _ _ (HM.out _ HB4.out)).mono ?_; rintro e w5 ⟨v5, rfl, hv5, hb5⟩; (replace c0 := Below.cellOf hb5 c0); (replace c1 := Below.cellOf hb5 c1); (replace d0 := Below.cellOf hb5 d0); (replace d1 := Below.cellOf hb5 d1); (have HB5 := Lib.hid (HB4.out.trans (hb5.mono HB4.out.size))); (replace HV2 := Lib.hid (HV2.out.below hb5)); (replace HV3 := Lib.hid (HV3.out.below hb5)); (replace HV4 := Lib.hid (HV4.out.below hb5)); (have HV5 := Lib.hid hv5); clear hv5; clear hb5)
      | (go_at_call 22; refine (K22.out _ _ (HM.out _ HB5.out)).mono ?_; rintro e w6 ⟨rfl, hb6⟩; (replace c0 := Below.cellOf hb6 c0); (replace c1 := Below.cellOf hb6 c1); (replace d0 := Below.cellOf hb6 d0); (replace d1 := Below.cellOf hb6 d1); (have HB6 := Lib.hid (HB5.out.trans (hb6.mono HB5.out.size))); (replace HV2 := Lib.hid (HV2.out.below hb6)); (replace HV3 := Lib.hid (HV3.out.below hb6)); (replace HV4 := Lib.hid (HV4.out.below hb6)); (replace HV5 := Lib.hid (HV5.out.below hb6)); clear hb6)
      | (go_at_call 23; refine (K23.out _ _ (HM.out _ HB6.out)).mono ?_; rintro e w7 ⟨rfl, hb7⟩; (replace c0 := Below.cellOf hb7 c0); (replace c1 := Below.cellOf hb7 c1); (replace d0 := Below.cellOf hb7 d0); (replace d1 := Below.cellOf hb7 d1); (have HB7 := Lib.hid (HB6.out.trans (hb7.mono HB6.out.size))); (replace HV2 := Lib.hid (HV2.out.below hb7)); (replace HV3 := Lib.hid (HV3.out.below hb7)); (replace HV4 := Lib.hid (HV4.out.below hb7)); (replace HV5 := Lib.hid (HV5.out.below hb7)); clear hb7))
    have p0 := Later.cell c0
    have p1 := Later.cell c1
    have p2 := Later.cell d0
    have p3 := Later.cell d1
    have S1 : Hid (∀ gw : HeldW (Later w7), Calls Try.prog 24 #[v2, v3] gw.w fun e w'' => e = .returned (.bool true) ∧ ∃ g' : HeldW (Later w7), w'' = g'.w) := Lib.hid (fun gw => by
      have h := same_any gw.w v2 v3 xs xs (HV2.out.below gw.h) (HV3.out.below gw.h)
      rw [show decide (xs = xs) = true from decide_eq_true rfl] at h
      exact Calls.later gw h)
    have S2 : Hid (∀ gw : HeldW (Later w7), Calls Try.prog 24 #[v4, v5] gw.w fun e w'' => e = .returned (.bool true) ∧ ∃ g' : HeldW (Later w7), w'' = g'.w) := Lib.hid (fun gw => by
      have h := same_any gw.w v4 v5 ys ys (HV4.out.below gw.h) (HV5.out.below gw.h)
      rw [show decide (ys = ys) = true from decide_eq_true rfl] at h
      exact Calls.later gw h)
    have S3 : Hid (∀ gw : HeldW (Later w7), Calls Try.prog 25 #[.agg #[.slice la L.length lc, .slice na N.length nc], .int .i64 a, .int .i64 b] gw.w fun e w'' => e = .returned (.int .i64 g) ∧ ∃ g' : HeldW (Later w7), w'' = g'.w) := Lib.hid (fun gw => Calls.later gw (K25.out gw.w _ (HM.out _ (HB7.out.trans (gw.h.mono HB7.out.size)))))
    have S4 : Hid (∀ gw : HeldW (Later w7), Calls Try.prog 26 #[.agg #[.slice la L.length lc, .slice na N.length nc], .int .i64 a, .int .i64 b] gw.w fun e w'' => e = .returned (.int .i64 g) ∧ ∃ g' : HeldW (Later w7), w'' = g'.w) := Lib.hid (fun gw => Calls.later gw (K26.out gw.w _ (HM.out _ (HB7.out.trans (gw.h.mono HB7.out.size)))))
    have S5 : Hid (∀ gw : HeldW (Later w7), Calls Try.prog 17 #[] gw.w fun e w'' => e = .returned (.bool true) ∧ ∃ g' : HeldW (Later w7), w'' = g'.w) := Lib.hid (fun gw => Calls.later gw (works_ok gw.w))
    clear c0 c1 d0 d1
    refine wp_region_class (Later w7) (by kernel_rfl) (by kernel_rfl) (below_drewN (Below.refl _ _) 1) ?_
    repeat (go_big_quiet_step ((first | (go_at_call_of 24 v2; exact S1.out _) | (go_at_call_of 24 v4; exact S2.out _) | (go_at_call 25; exact S3.out _) | (go_at_call 26; exact S4.out _) | (go_at_call 17; exact S5.out _))))
    refine wpQuiet_nil ?_
    intro wq hw'
    obtain ⟨⟨_, hq⟩, rfl⟩ := hw'
    go_wp2
    go_ret
    exact ⟨rfl, HB7.out.trans (hq.mono HB7.out.size)⟩
set_option maxRecDepth 100000 in
set_option maxHeartbeats 1000000 in
theorem branches_big (w : World) (la na : Option Addr) (n lc k nc : Nat) (a b : Int) (h : 40 < n ∨ 40 < k) : Calls Try.prog 3 #[.agg #[.slice la n lc, .slice na k nc], .int .i64 a, .int .i64 b] w (Ret w (.bool true)) := by
  have HH := Lib.hid h
  have HB := Lib.hid (Below.one w (.cells #[.slice la n lc, .slice na k nc] 25))
  clear h
  go_enter Try.func3, Try.ntmps3
  go_wp2_with (first | (go_at_call 16; refine (large_shape _ la na n lc k nc HH.out).mono ?_; rintro e w1 ⟨rfl, hb1⟩; (have HB1 := Lib.hid (HB.out.trans (hb1.mono HB.out.size)))) | (go_at_call 17; refine (works_ok _).mono ?_; rintro e w2 ⟨rfl, hb2⟩))
  go_ret
  exact ⟨rfl, HB1.out.trans (hb2.mono HB1.out.size)⟩
theorem branches_any (w : World) (m : Value) (a b : Int) (h : MktArg w m) : Calls Try.prog 3 #[m, .int .i64 a, .int .i64 b] w (Ret w (.bool true)) := by
  rcases h with ⟨L, N, hm⟩ | ⟨la, n, lc, na, k, nc, rfl, h⟩
  · exact branches_law w m L N a b hm
  · exact branches_big w la na n lc k nc a b h
end Go.Proofs.Ytkhkgmelicdpkaa
