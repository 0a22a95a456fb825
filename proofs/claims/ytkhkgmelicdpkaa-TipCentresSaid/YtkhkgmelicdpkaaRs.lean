/- Both sides of TipCentres in one form each, and its walk: for every market and two numbers it returns true. -/
import Derived.Test.YtkhkgmelicdpkaaRp
import Derived.Test.YtkhkgmelicdpkaaRo
set_option linter.unusedVariables false
set_option linter.unusedSimpArgs false
namespace Go.Proofs.Ytkhkgmelicdpkaa
open Go.RowKit Go.BigFrame

theorem Centres_two {w0 : World} {m0 : Value} {L : List Int} {N : List Lane} (hm0 : Mkt w0 m0 L N) : ∃ xs c, (∀ w m, Mkt w m L N → Calls Try.prog 27 #[m] w (RetInts w xs c)) ∧ (∀ w m, Mkt w m L N → Calls Try.prog 28 #[m] w (RetInts w xs c)) := by
  rcases Int.decEq (checkCode L N) 0 with h | h
  · exact ⟨[], checkCode L N, fun w m hm => (Centres_bad w m L N _ hm (laidCode_nil L N) h).mono (fun e w' he => ret_ints he), fun w m hm => (Centres_rbad w m L N _ hm rfl h).mono (fun e w' he => ret_ints he)⟩
  · obtain ⟨far, next, hR⟩ := tree_exists hm0 h
    have hl : (smallF (radF far L.length) L.length).length ≤ 1000 := by have := smallF_length (radF far L.length) L.length; have := (valid_of h).le; omega
    exact ⟨upL (smallF (radF far L.length) L.length), 0, fun w m hm => (Centres_ok w m L N far next hm h hR).mono (fun e w' he => list_ints hl he), fun w m hm => (Centres_r w m L N far next hm h hR).mono (fun e w' he => list_ints hl he)⟩
theorem Longest_two {w0 : World} {m0 : Value} {L : List Int} {N : List Lane} (hm0 : Mkt w0 m0 L N) : ∃ xs c, (∀ w m, Mkt w m L N → Calls Try.prog 29 #[m] w (RetInts w xs c)) ∧ (∀ w m, Mkt w m L N → Calls Try.prog 30 #[m] w (RetInts w xs c)) := by
  rcases Int.decEq (checkCode L N) 0 with h | h
  · exact ⟨[], checkCode L N, fun w m hm => (Longest_bad w m L N _ hm (laidCode_nil L N) h).mono (fun e w' he => ret_ints he), fun w m hm => (Longest_rbad w m L N _ hm rfl h).mono (fun e w' he => ret_ints he)⟩
  · obtain ⟨far, next, hR⟩ := tree_exists hm0 h
    exact ⟨_, 0, fun w m hm => Longest_ok w m L N far next hm h hR, fun w m hm => Longest_r w m L N far next hm h hR⟩
theorem Votes_two {w0 : World} {m0 : Value} {L : List Int} {N : List Lane} (hm0 : Mkt w0 m0 L N) (a b : Int) : ∃ x y c : Int, (∀ w m, Mkt w m L N → Calls Try.prog 31 #[m, .int .i64 a, .int .i64 b] w (Ret w (.tuple #[.int .i64 x, .int .i64 y, .int .i64 c]))) ∧ (∀ w m, Mkt w m L N → Calls Try.prog 32 #[m, .int .i64 a, .int .i64 b] w (Ret w (.tuple #[.int .i64 x, .int .i64 y, .int .i64 c]))) := by
  rcases Int.decEq (laidCode L N [a, b]) 0 with h | h
  · exact ⟨0, 0, _, fun w m hm => Votes_bad w m L N a b _ hm rfl h, fun w m hm => Votes_rbad w m L N a b _ hm rfl h⟩
  · have h0 := laid_check h
    obtain ⟨x, y, rfl, rfl, hx, hy⟩ := corners_nat h0 h
    obtain ⟨far, next, hR⟩ := tree_exists hm0 h0
    by_cases hxy : x = y
    · subst hxy
      exact ⟨0, 0, 6, fun w m hm => Votes_same w m L N x far next hm h0 hR hx, fun w m hm => Votes_rsame w m L N x hm h0 hx⟩
    · exact ⟨_, _, 0, fun w m hm => Votes_ok w m L N x y far next hm h0 hR hx hy hxy, fun w m hm => Votes_r w m L N x y far next hm h0 hR hx hy hxy⟩
set_option maxRecDepth 100000 in
set_option maxHeartbeats 4000000 in
theorem centres_law (w : World) (m : Value) (L : List Int) (N : List Lane) (a b : Int) (hm : Mkt w m L N) : Calls Try.prog 4 #[m, .int .i64 a, .int .i64 b] w (Ret w (.bool true)) := by
  have HM : Hid (∀ w', Below w.heap.size w w' → Mkt w' m L N) := Lib.hid (fun w' hb => hm.below hb)
  obtain ⟨xs, c, k27, k28⟩ := Centres_two hm
  obtain ⟨ys, d, k29, k30⟩ := Longest_two hm
  obtain ⟨x, y, f, k31, k32⟩ := Votes_two hm a b
  have K27 := Lib.hid k27
  have K28 := Lib.hid k28
  have K29 := Lib.hid k29
  have K30 := Lib.hid k30
  have K31 := Lib.hid k31
  have K32 := Lib.hid k32
  clear k27 k28 k29 k30 k31 k32
  have KL := Lib.hid (fun w' (hm' : Mkt w' m L N) => large_any w' m L N hm')
  obtain ⟨la, lc, na, nc, rfl, hlM, hN⟩ := hm.shape
  have HB := Lib.hid (Below.one w (.cells #[.slice la L.length lc, .slice na N.length nc] 25))
  clear hm hlM hN
  by_cases hlg : 40 < L.length ∨ 40 < N.length
  · have K16 : Hid (∀ w', Mkt w' (.agg #[.slice la L.length lc, .slice na N.length nc]) L N → Calls Try.prog 16 #[.agg #[.slice la L.length lc, .slice na N.length nc]] w' (Ret w' (.bool true))) := Lib.hid (fun w' h => by
      have h := KL.out w' h
      rw [decide_eq_true hlg] at h
      exact h)
    clear hlg
    go_enter Try.func4, Try.ntmps4
    go_wp2_with (first | (go_at_call 16; refine (K16.out _ (HM.out _ HB.out)).mono ?_; rintro e w1 ⟨rfl, hb1⟩; (have HB1 := Lib.hid (HB.out.trans (hb1.mono HB.out.size)))) | (go_at_call 17; refine (works_ok _).mono ?_; rintro e w2 ⟨rfl, hb2⟩))
    go_ret
    exact ⟨rfl, HB1.out.trans (hb2.mono HB1.out.size)⟩
  · have K16 : Hid (∀ w', Mkt w' (.agg #[.slice la L.length lc, .slice na N.length nc]) L N → Calls Try.prog 16 #[.agg #[.slice la L.length lc, .slice na N.length nc]] w' (Ret w' (.bool false))) := Lib.hid (fun w' h => by
      have h := KL.out w' h
      rw [decide_eq_false hlg] at h
      exact h)
    clear hlg
    go_enter Try.func4, Try.ntmps4
    go_wp2_with (first
      | (go_at_call 16; refine (K16.out _ (HM.out _ HB.out)).mono ?_; rintro e w1 ⟨rfl, hb1⟩; (have HB1 := Lib.hid (HB.out.trans (hb1.mono HB.out.size))); (have c0 := Below.cellOf hb1 (show (w.alloc (.cells #[.slice la L.length lc, .slice na N.length nc] 25)).cell? ⟨w.heap.size, 0, none⟩ = some (.slice la L.length lc) by simp)); (have c1 := Below.cellOf hb1 (show (w.alloc (.cells #[.slice la L.length lc, .slice na N.length nc] 25)).cell? ⟨w.heap.size, 1, none⟩ = some (.slice na N.length nc) by simp)); (have hg1 : w.heap.size < w1.heap.size := World.block_lt_of_cell? w1 _ c0); clear hb1)
      | (go_at_call 27; refine (K27.out _ _ (HM.out _ (HB1.out.alloc HB1.out.size _))).mono ?_; rintro e w2 ⟨v2, rfl, hv2, hb2⟩; (have hB2 : Below w1.heap.size w1 w2 := (Below.one _ _).trans (hb2.mono (new_size _ _))); (replace c0 := Below.cellOf hB2 c0); (replace c1 := Below.cellOf hB2 c1); (have d0 := Below.cellOf hb2 (show (w1.alloc (.cells #[.slice la L.length lc, .slice na N.length nc] 28)).cell? ⟨w1.heap.size, 0, none⟩ = some (.slice la L.length lc) by simp)); (have d1 := Below.cellOf hb2 (show (w1.alloc (.cells #[.slice la L.length lc, .slice na N.length nc] 28)).cell? ⟨w1.heap.size, 1, none⟩ = some (.slice na N.length nc) by simp)); (have HB2 := Lib.hid (HB1.out.trans (hB2.mono HB1.out.size))); (have HV2 := Lib.hid hv2); clear hv2; clear hb2 hB2)
      | (go_at_call 28; refine (K28.out _ _ (HM.out _ HB2.out)).mono ?_; rintro e w3 ⟨v3, rfl, hv3, hb3⟩; (replace c0 := Below.cellOf hb3 c0); (replace c1 := Below.cellOf hb3 c1); (replace d0 := Below.cellOf hb3 d0); (replace d1 := Below.cellOf hb3 d1); (have HB3 := Lib.hid (HB2.out.trans (hb3.mono HB2.out.size))); (replace HV2 := Lib.hid (HV2.out.below hb3)); (have HV3 := Lib.hid hv3); clear hv3; clear hb3)
      | (go_at_call 29; refine (K29.out _ _ (HM.out _ HB3.out)).mono ?_; rintro e w4 ⟨v4, rfl, hv4, hb4⟩; (replace c0 := Below.cellOf hb4 c0); (replace c1 := Below.cellOf hb4 c1); (replace d0 := Below.cellOf hb4 d0); (replace d1 := Below.cellOf hb4 d1); (have HB4 := Lib.hid (HB3.out.trans (hb4.mono HB3.out.size))); (replace HV2 := Lib.hid (HV2.out.below hb4)); (replace HV3 := Lib.hid (HV3.out.below hb4)); (have HV4 := Lib.hid hv4); clear hv4; clear hb4)
      | (go_at_call 30; refine (K30.out _ _ (HM.out _ HB4.out)).mono ?_; rintro e w5 ⟨v5, rfl, hv5, hb5⟩; (replace c0 := Below.cellOf hb5 c0); (replace c1 := Below.cellOf hb5 c1); (replace d0 := Below.cellOf hb5 d0); (replace d1 := Below.cellOf hb5 d1); (have HB5 := Lib.hid (HB4.out.trans (hb5.mono HB4.out.size))); (replace HV2 := Lib.hid (HV2.out.below hb5)); (replace HV3 := Lib.hid (HV3.out.below hb5)); (replace HV4 := Lib.hid (HV4.out.below hb5)); (have HV5 := Lib.hid hv5); clear hv5; clear hb5)
      | (go_at_call 31; refine (K31.out _ _ (HM.out _ HB5.out)).mono ?_; rintro e w6 ⟨rfl, hb6⟩; (replace c0 := Below.cellOf hb6 c0); (replace c1 := Below.cellOf hb6 c1); (replace d0 := Below.cellOf hb6 d0); (replace d1 := Below.cellOf hb6 d1); (have HB6 := Lib.hid (HB5.out.trans (hb6.mono HB5.out.size))); (replace HV2 := Lib.hid (HV2.out.below hb6)); (replace HV3 := Lib.hid (HV3.out.below hb6)); (replace HV4 := Lib.hid (HV4.out.below hb6)); (replace HV5 := Lib.hid (HV5.out.below hb6)); clear hb6)
      | (go_at_call 32; refine (K32.out _ _ (HM.out _ HB6.out)).mono ?_; rintro e w7 ⟨rfl, hb7⟩; (replace c0 := Below.cellOf hb7 c0); (replace c1 := Below.cellOf hb7 c1); (replace d0 := Below.cellOf hb7 d0); (replace d1 := Below.cellOf hb7 d1); (have HB7 := Lib.hid (HB6.out.trans (hb7.mono HB6.out.size))); (replace HV2 := Lib.hid (HV2.out.below hb7)); (replace HV3 := Lib.hid (HV3.out.below hb7)); (replace HV4 := Lib.hid (HV4.out.below hb7)); (replace HV5 := Lib.hid (HV5.out.below hb7)); clear hb7)
      | (go_at_call_of 24 v2; refine (same_any _ v2 v3 xs xs HV2.out HV3.out).mono ?_; rintro e w8 ⟨rfl, hb8⟩; rw [show decide (xs = xs) = true from decide_eq_true rfl]; (replace HV4 := Lib.hid (HV4.out.below hb8)); (replace HV5 := Lib.hid (HV5.out.below hb8)); (have HB8 := Lib.hid (HB7.out.trans (hb8.mono HB7.out.size))); clear hb8)
      | (go_at_call_of 24 v4; refine (same_any _ v4 v5 ys ys HV4.out HV5.out).mono ?_; rintro e w9 ⟨rfl, hb9⟩; rw [show decide (ys = ys) = true from decide_eq_true rfl]; (have HB9 := Lib.hid (HB8.out.trans (hb9.mono HB8.out.size))); clear hb9)
      | (go_at_call 17; refine (works_ok _).mono ?_; rintro e w10 ⟨rfl, hb10⟩))
    go_ret
    exact ⟨rfl, HB9.out.trans (hb10.mono HB9.out.size)⟩
set_option maxRecDepth 100000 in
set_option maxHeartbeats 1000000 in
theorem centres_big (w : World) (la na : Option Addr) (n lc k nc : Nat) (a b : Int) (h : 40 < n ∨ 40 < k) : Calls Try.prog 4 #[.agg #[.slice la n lc, .slice na k nc], .int .i64 a, .int .i64 b] w (Ret w (.bool true)) := by
  have HH := Lib.hid h
  have HB := Lib.hid (Below.one w (.cells #[.slice la n lc, .slice na k nc] 25))
  clear h
  go_enter Try.func4, Try.ntmps4
  go_wp2_with (first | (go_at_call 16; refine (large_shape _ la na n lc k nc HH.out).mono ?_; rintro e w1 ⟨rfl, hb1⟩; (have HB1 := Lib.hid (HB.out.trans (hb1.mono HB.out.size)))) | (go_at_call 17; refine (works_ok _).mono ?_; rintro e w2 ⟨rfl, hb2⟩))
  go_ret
  exact ⟨rfl, HB1.out.trans (hb2.mono HB1.out.size)⟩
theorem centres_any (w : World) (m : Value) (a b : Int) (h : MktArg w m) : Calls Try.prog 4 #[m, .int .i64 a, .int .i64 b] w (Ret w (.bool true)) := by
  rcases h with ⟨L, N, hm⟩ | ⟨la, n, lc, na, k, nc, rfl, h⟩
  · exact centres_law w m L N a b hm
  · exact centres_big w la na n lc k nc a b h
end Go.Proofs.Ytkhkgmelicdpkaa

