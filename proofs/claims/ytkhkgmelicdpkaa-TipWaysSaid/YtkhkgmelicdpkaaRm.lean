/- The walk of TipWays: for every market and two numbers it returns true. -/
import Derived.Test.YtkhkgmelicdpkaaRl
import Derived.Test.YtkhkgmelicdpkaaRo
set_option linter.unusedVariables false
set_option linter.unusedSimpArgs false
namespace Go.Proofs.Ytkhkgmelicdpkaa
open Go.RowKit Go.BigFrame

set_option maxRecDepth 100000 in
set_option maxHeartbeats 4000000 in
theorem ways_law (w : World) (m : Value) (L : List Int) (N : List Lane) (a b : Int) (hm : Mkt w m L N) : Calls Try.prog 8 #[m, .int .i64 a, .int .i64 b] w (Ret w (.bool true)) := by
  have HM : Hid (∀ w', Below w.heap.size w w' → Mkt w' m L N) := Lib.hid (fun w' hb => hm.below hb)
  obtain ⟨xs, c, k43, k44⟩ := Way_two hm a b
  obtain ⟨x, d, k45, k46⟩ := Far_two hm a b
  obtain ⟨y, f, k39, k49⟩ := Cost_two hm a
  obtain ⟨z, g, k50, k51⟩ := Radius_two hm a
  have K43 := Lib.hid k43
  have K44 := Lib.hid k44
  have K45 := Lib.hid k45
  have K46 := Lib.hid k46
  have K39 := Lib.hid k39
  have K49 := Lib.hid k49
  have K50 := Lib.hid k50
  have K51 := Lib.hid k51
  obtain ⟨q, hq0⟩ : ∃ q, q = checkCode L N := ⟨_, rfl⟩
  have K47 : Hid (∀ w' m', Mkt w' m' L N → Calls Try.prog 47 #[m'] w' (Ret w' (.int .i64 q))) := Lib.hid (fun w' m' h => by rw [hq0]; exact Check_any w' m' L N h)
  have K48 : Hid (∀ w' m', Mkt w' m' L N → Calls Try.prog 48 #[m'] w' (Ret w' (.int .i64 q))) := Lib.hid (fun w' m' h => by rw [hq0]; exact Check_r w' m' L N h)
  clear hq0 k43 k44 k45 k46 k39 k49 k50 k51
  have KL := Lib.hid (fun w' (hm' : Mkt w' m L N) => large_any w' m L N hm')
  obtain ⟨la, lc, na, nc, rfl, hlM, hN⟩ := hm.shape
  have HB := Lib.hid (Below.one w (.cells #[.slice la L.length lc, .slice na N.length nc] 25))
  clear hm hlM hN
  by_cases hlg : 40 < L.length ∨ 40 < N.length
  · have K16 : Hid (∀ w', Mkt w' (.agg #[.slice la L.length lc, .slice na N.length nc]) L N → Calls Try.prog 16 #[.agg #[.slice la L.length lc, .slice na N.length nc]] w' (Ret w' (.bool true))) := Lib.hid (fun w' h => by
      have h := KL.out w' h
      rw [decide_eq_true hlg] at h
      exact h)
    clear hlg
    go_enter Try.func8, Try.ntmps8
    go_wp2_with (first | (go_at_call 16; refine (K16.out _ (HM.out _ HB.out)).mono ?_; rintro e w1 ⟨rfl, hb1⟩; (have HB1 := Lib.hid (HB.out.trans (hb1.mono HB.out.size)))) | (go_at_call 17; refine (works_ok _).mono ?_; rintro e w2 ⟨rfl, hb2⟩))
    go_ret
    exact ⟨rfl, HB1.out.trans (hb2.mono HB1.out.size)⟩
  · have K16 : Hid (∀ w', Mkt w' (.agg #[.slice la L.length lc, .slice na N.length nc]) L N → Calls Try.prog 16 #[.agg #[.slice la L.length lc, .slice na N.length nc]] w' (Ret w' (.bool false))) := Lib.hid (fun w' h => by
      have h := KL.out w' h
      rw [decide_eq_false hlg] at h
      exact h)
    clear hlg
    go_enter Try.func8, Try.ntmps8
    go_wp2_with (first
      | (go_at_call 16; refine (K16.out _ (HM.out _ HB.out)).mono ?_; rintro e w1 ⟨rfl, hb1⟩; (have HB1 := Lib.hid (HB.out.trans (hb1.mono HB.out.size))); (have c0 := Below.cellOf hb1 (show (w.alloc (.cells #[.slice la L.length lc, .slice na N.length nc] 25)).cell? ⟨w.heap.size, 0, none⟩ = some (.slice la L.length lc) by simp)); (have c1 := Below.cellOf hb1 (show (w.alloc (.cells #[.slice la L.length lc, .slice na N.length nc] 25)).cell? ⟨w.heap.size, 1, none⟩ = some (.slice na N.length nc) by simp)); (have hg1 : w.heap.size < w1.heap.size := World.block_lt_of_cell? w1 _ c0); clear hb1)
      | (go_at_call 43; refine (K43.out _ _ (HM.out _ (HB1.out.alloc HB1.out.size _))).mono ?_; rintro e w2 ⟨v2, rfl, hv2, hb2⟩; (have hB2 : Below w1.heap.size w1 w2 := (Below.one _ _).trans (hb2.mono (new_size _ _))); (replace c0 := Below.cellOf hB2 c0); (replace c1 := Below.cellOf hB2 c1); (have d0 := Below.cellOf hb2 (show (w1.alloc (.cells #[.slice la L.length lc, .slice na N.length nc] 28)).cell? ⟨w1.heap.size, 0, none⟩ = some (.slice la L.length lc) by simp)); (have d1 := Below.cellOf hb2 (show (w1.alloc (.cells #[.slice la L.length lc, .slice na N.length nc] 28)).cell? ⟨w1.heap.size, 1, none⟩ = some (.slice na N.length nc) by simp)); (have HB2 := Lib.hid (HB1.out.trans (hB2.mono HB1.out.size))); (have HV2 := Lib.hid hv2); clear hv2; clear hb2 hB2)
      | (go_at_call 44; refine (K44.out _ _ (HM.out _ HB2.out)).mono ?_; rintro e w3 ⟨v3, rfl, hv3, hb3⟩; (replace c0 := Below.cellOf hb3 c0); (replace c1 := Below.cellOf hb3 c1); (replace d0 := Below.cellOf hb3 d0); (replace d1 := Below.cellOf hb3 d1); (have HB3 := Lib.hid (HB2.out.trans (hb3.mono HB2.out.size))); (replace HV2 := Lib.hid (HV2.out.below hb3)); (have HV3 := Lib.hid hv3); clear hv3; clear hb3)
      | (go_at_call 45; refine (K45.out _ _ (HM.out _ HB3.out)).mono ?_; rintro e w4 ⟨rfl, hb4⟩; (replace c0 := Below.cellOf hb4 c0); (replace c1 := Below.cellOf hb4 c1); (replace d0 := Below.cellOf hb4 d0); (replace d1 := Below.cellOf hb4 d1); (have HB4 := Lib.hid (HB3.out.trans (hb4.mono HB3.out.size))); (replace HV2 := Lib.hid (HV2.out.below hb4)); (replace HV3 := Lib.hid (HV3.out.below hb4)); clear hb4)
      | (go_at_call 46; refine (K46.out _ _ (HM.out _ HB4.out)).mono ?_; rintro e w5 ⟨rfl, hb5⟩; (replace c0 := Below.cellOf hb5 c0); (replace c1 := Below.cellOf hb5 c1); (replace d0 := Below.cellOf hb5 d0); (replace d1 := Below.cellOf hb5 d1); (have HB5 := Lib.hid (HB4.out.trans (hb5.mono HB4.out.size))); (replace HV2 := Lib.hid (HV2.out.below hb5)); (replace HV3 := Lib.hid (HV3.out.below hb5)); clear hb5))
    have p0 := Later.cell c0
    have p1 := Later.cell c1
    have p2 := Later.cell d0
    have p3 := Later.cell d1
    have S1 : Hid (∀ gw : HeldW (Later w5), Calls Try.prog 24 #[v2, v3] gw.w fun e w'' => e = .returned (.bool true) ∧ ∃ g' : HeldW (Later w5), w'' = g'.w) := Lib.hid (fun gw => by
      have h := same_any gw.w v2 v3 xs xs (HV2.out.below gw.h) (HV3.out.below gw.h)
      rw [show decide (xs = xs) = true from decide_eq_true rfl] at h
      exact Calls.later gw h)
    have S2 : Hid (∀ gw : HeldW (Later w5), Calls Try.prog 47 #[.agg #[.slice la L.length lc, .slice na N.length nc]] gw.w fun e w'' => e = .returned (.int .i64 q) ∧ ∃ g' : HeldW (Later w5), w'' = g'.w) := Lib.hid (fun gw => Calls.later gw (K47.out gw.w _ (HM.out _ (HB5.out.trans (gw.h.mono HB5.out.size)))))
    have S3 : Hid (∀ gw : HeldW (Later w5), Calls Try.prog 48 #[.agg #[.slice la L.length lc, .slice na N.length nc]] gw.w fun e w'' => e = .returned (.int .i64 q) ∧ ∃ g' : HeldW (Later w5), w'' = g'.w) := Lib.hid (fun gw => Calls.later gw (K48.out gw.w _ (HM.out _ (HB5.out.trans (gw.h.mono HB5.out.size)))))
    refine wp_region_class (Later w5) (by kernel_rfl) (by kernel_rfl) (below_drewN (Below.refl _ _) 1) ?_
    repeat (go_big_quiet_step ((first | (go_at_call_of 24 v2; exact S1.out _) | (go_at_call 47; exact S2.out _) | (go_at_call 48; exact S3.out _))))
    refine wpQuiet_nil ?_
    intro wr hw'
    obtain ⟨⟨_, hq⟩, rfl⟩ := hw'
    replace c0 := Below.cellOf hq c0
    replace c1 := Below.cellOf hq c1
    replace d0 := Below.cellOf hq d0
    replace d1 := Below.cellOf hq d1
    have HBQ := Lib.hid (HB5.out.trans (hq.mono HB5.out.size))
    clear hq p0 p1 p2 p3
    go_wp2_with (first
      | (go_at_call 39; refine (K39.out _ _ (HM.out _ HBQ.out)).mono ?_; rintro e w6 ⟨rfl, hb6⟩; (replace c0 := Below.cellOf hb6 c0); (replace c1 := Below.cellOf hb6 c1); (replace d0 := Below.cellOf hb6 d0); (replace d1 := Below.cellOf hb6 d1); (have HB6 := Lib.hid (HBQ.out.trans (hb6.mono HBQ.out.size)));  clear hb6)
      | (go_at_call 49; refine (K49.out _ _ (HM.out _ HB6.out)).mono ?_; rintro e w7 ⟨rfl, hb7⟩; (replace c0 := Below.cellOf hb7 c0); (replace c1 := Below.cellOf hb7 c1); (replace d0 := Below.cellOf hb7 d0); (replace d1 := Below.cellOf hb7 d1); (have HB7 := Lib.hid (HB6.out.trans (hb7.mono HB6.out.size)));  clear hb7)
      | (go_at_call 50; refine (K50.out _ _ (HM.out _ HB7.out)).mono ?_; rintro e w8 ⟨rfl, hb8⟩; (replace c0 := Below.cellOf hb8 c0); (replace c1 := Below.cellOf hb8 c1); (replace d0 := Below.cellOf hb8 d0); (replace d1 := Below.cellOf hb8 d1); (have HB8 := Lib.hid (HB7.out.trans (hb8.mono HB7.out.size)));  clear hb8)
      | (go_at_call 51; refine (K51.out _ _ (HM.out _ HB8.out)).mono ?_; rintro e w9 ⟨rfl, hb9⟩; (replace c0 := Below.cellOf hb9 c0); (replace c1 := Below.cellOf hb9 c1); (replace d0 := Below.cellOf hb9 d0); (replace d1 := Below.cellOf hb9 d1); (have HB9 := Lib.hid (HB8.out.trans (hb9.mono HB8.out.size)));  clear hb9)
      | (go_at_call 17; refine (works_ok _).mono ?_; rintro e w10 ⟨rfl, hb10⟩))
    go_ret
    exact ⟨rfl, HB9.out.trans (hb10.mono HB9.out.size)⟩
set_option maxRecDepth 100000 in
set_option maxHeartbeats 1000000 in
theorem ways_big (w : World) (la na : Option Addr) (n lc k nc : Nat) (a b : Int) (h : 40 < n ∨ 40 < k) : Calls Try.prog 8 #[.agg #[.slice la n lc, .slice na k nc], .int .i64 a, .int .i64 b] w (Ret w (.bool true)) := by
  have HH := Lib.hid h
  have HB := Lib.hid (Below.one w (.cells #[.slice la n lc, .slice na k nc] 25))
  clear h
  go_enter Try.func8, Try.ntmps8
  go_wp2_with (first | (go_at_call 16; refine (large_shape _ la na n lc k nc HH.out).mono ?_; rintro e w1 ⟨rfl, hb1⟩; (have HB1 := Lib.hid (HB.out.trans (hb1.mono HB.out.size)))) | (go_at_call 17; refine (works_ok _).mono ?_; rintro e w2 ⟨rfl, hb2⟩))
  go_ret
  exact ⟨rfl, HB1.out.trans (hb2.mono HB1.out.size)⟩
theorem ways_any (w : World) (m : Value) (a b : Int) (h : MktArg w m) : Calls Try.prog 8 #[m, .int .i64 a, .int .i64 b] w (Ret w (.bool true)) := by
  rcases h with ⟨L, N, hm⟩ | ⟨la, n, lc, na, k, nc, rfl, h⟩
  · exact ways_law w m L N a b hm
  · exact ways_big w la na n lc k nc a b h
end Go.Proofs.Ytkhkgmelicdpkaa

