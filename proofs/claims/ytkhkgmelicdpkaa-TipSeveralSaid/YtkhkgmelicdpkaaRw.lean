/- The walk of TipSeveral: for every market, list of tips and number it returns true. -/
import Derived.Test.YtkhkgmelicdpkaaRx
import Derived.Test.YtkhkgmelicdpkaaRo
set_option linter.unusedVariables false
set_option linter.unusedSimpArgs false
namespace Go.Proofs.Ytkhkgmelicdpkaa
open Go.RowKit Go.BigFrame

set_option maxRecDepth 100000 in
set_option maxHeartbeats 4000000 in
theorem several_law (w : World) (m : Value) (L : List Int) (N : List Lane) (ta : Option Addr) (n tc : Nat) (many : Int) (hm : Mkt w m L N) (ht : 40 < n ∨ ∃ ts, ts.length = n ∧ Ints w (.slice ta n tc) ts) : Calls Try.prog 5 #[m, .slice ta n tc, .int .i64 many] w (Ret w (.bool true)) := by
  have HM : Hid (∀ w', Below w.heap.size w w' → Mkt w' m L N) := Lib.hid (fun w' hb => hm.below hb)
  obtain ⟨ys, c, k35, k36⟩ := Best_two hm many
  have K35 := Lib.hid k35
  have K36 := Lib.hid k36
  have KS : Hid (∀ w' v v', Ints w' v ys → Ints w' v' ys → Calls Try.prog 24 #[v, v'] w' (Ret w' (.bool true))) := Lib.hid (fun w' v v' h1 h2 => by
    have h := same_any w' v v' ys ys h1 h2
    rw [show decide (ys = ys) = true from decide_eq_true rfl] at h
    exact h)
  have HM0 := Lib.hid hm
  have KL := Lib.hid (fun w' (hm' : Mkt w' m L N) => large_any w' m L N hm')
  obtain ⟨la, lc, na, nc, rfl, hlM, hN⟩ := hm.shape
  have HB := Lib.hid (Below.one w (.cells #[.slice la L.length lc, .slice na N.length nc] 25))
  clear hm hlM hN k35 k36
  by_cases hlg : 40 < L.length ∨ 40 < N.length
  · have K16 : Hid (∀ w', Mkt w' (.agg #[.slice la L.length lc, .slice na N.length nc]) L N → Calls Try.prog 16 #[.agg #[.slice la L.length lc, .slice na N.length nc]] w' (Ret w' (.bool true))) := Lib.hid (fun w' h => by
      have h := KL.out w' h
      rw [decide_eq_true hlg] at h
      exact h)
    clear hlg ht
    go_enter Try.func5, Try.ntmps5
    go_wp2_with (first | (go_at_call 16; refine (K16.out _ (HM.out _ HB.out)).mono ?_; rintro e w1 ⟨rfl, hb1⟩; (have HB1 := Lib.hid (HB.out.trans (hb1.mono HB.out.size)))) | (go_at_call 17; refine (works_ok _).mono ?_; rintro e w2 ⟨rfl, hb2⟩))
    go_ret
    exact ⟨rfl, HB1.out.trans (hb2.mono HB1.out.size)⟩
  · have K16 : Hid (∀ w', Mkt w' (.agg #[.slice la L.length lc, .slice na N.length nc]) L N → Calls Try.prog 16 #[.agg #[.slice la L.length lc, .slice na N.length nc]] w' (Ret w' (.bool false))) := Lib.hid (fun w' h => by
      have h := KL.out w' h
      rw [decide_eq_false hlg] at h
      exact h)
    clear hlg
    by_cases hn : 40 < n
    · have hn1 : (40 : Int) < (n : Int) := by omega
      have hn2 : decide ((40 : Int) < (n : Int)) = true := decide_eq_true hn1
      clear ht
      go_enter Try.func5, Try.ntmps5
      go_wp2_with (first | (go_at_call 16; refine (K16.out _ (HM.out _ HB.out)).mono ?_; rintro e w1 ⟨rfl, hb1⟩; (have HB1 := Lib.hid (HB.out.trans (hb1.mono HB.out.size)))) | (go_at_call 17; refine (works_ok _).mono ?_; rintro e w2 ⟨rfl, hb2⟩))
      go_ret
      exact ⟨rfl, HB1.out.trans (hb2.mono HB1.out.size)⟩
    · obtain ⟨ts, hts, hti⟩ := ht.resolve_left hn
      have HT : Hid (∀ w', Below w.heap.size w w' → Ints w' (.slice ta n tc) ts) := Lib.hid (fun w' hb => hti.below hb)
      obtain ⟨x, d, k33, k34⟩ := Tips_two HM0.out ts
      have K33 := Lib.hid k33
      have K34 := Lib.hid k34
      have hn1 : ¬ (40 : Int) < (n : Int) := by omega
      have hn2 : decide ((40 : Int) < (n : Int)) = false := decide_eq_false hn1
      clear hts hti k33 k34
      go_enter Try.func5, Try.ntmps5
      go_wp2_with (first
        | (go_at_call 16; refine (K16.out _ (HM.out _ HB.out)).mono ?_; rintro e w1 ⟨rfl, hb1⟩; (have HB1 := Lib.hid (HB.out.trans (hb1.mono HB.out.size))); (have c0 := Below.cellOf hb1 (show (w.alloc (.cells #[.slice la L.length lc, .slice na N.length nc] 25)).cell? ⟨w.heap.size, 0, none⟩ = some (.slice la L.length lc) by simp)); (have c1 := Below.cellOf hb1 (show (w.alloc (.cells #[.slice la L.length lc, .slice na N.length nc] 25)).cell? ⟨w.heap.size, 1, none⟩ = some (.slice na N.length nc) by simp)); (have hg1 : w.heap.size < w1.heap.size := World.block_lt_of_cell? w1 _ c0); clear hb1)
        | (go_at_call 33; refine (K33.out _ _ _ (HM.out _ (HB1.out.alloc HB1.out.size _)) (HT.out _ (HB1.out.alloc HB1.out.size _))).mono ?_; rintro e w2 ⟨rfl, hb2⟩; (have hB2 : Below w1.heap.size w1 w2 := (Below.one _ _).trans (hb2.mono (new_size _ _))); (replace c0 := Below.cellOf hB2 c0); (replace c1 := Below.cellOf hB2 c1); (have d0 := Below.cellOf hb2 (show (w1.alloc (.cells #[.slice la L.length lc, .slice na N.length nc] 28)).cell? ⟨w1.heap.size, 0, none⟩ = some (.slice la L.length lc) by simp)); (have d1 := Below.cellOf hb2 (show (w1.alloc (.cells #[.slice la L.length lc, .slice na N.length nc] 28)).cell? ⟨w1.heap.size, 1, none⟩ = some (.slice na N.length nc) by simp)); (have HB2 := Lib.hid (HB1.out.trans (hB2.mono HB1.out.size))); clear hb2 hB2)
        | (go_at_call 34; refine (K34.out _ _ _ (HM.out _ HB2.out) (HT.out _ HB2.out)).mono ?_; rintro e w3 ⟨rfl, hb3⟩; (replace c0 := Below.cellOf hb3 c0); (replace c1 := Below.cellOf hb3 c1); (replace d0 := Below.cellOf hb3 d0); (replace d1 := Below.cellOf hb3 d1); (have HB3 := Lib.hid (HB2.out.trans (hb3.mono HB2.out.size)));  clear hb3)
        | (go_at_call 35; refine (K35.out _ _ (HM.out _ HB3.out)).mono ?_; rintro e w4 ⟨v4, rfl, hv4, hb4⟩; (replace c0 := Below.cellOf hb4 c0); (replace c1 := Below.cellOf hb4 c1); (replace d0 := Below.cellOf hb4 d0); (replace d1 := Below.cellOf hb4 d1); (have HB4 := Lib.hid (HB3.out.trans (hb4.mono HB3.out.size)));  (have HV4 := Lib.hid hv4); clear hv4; clear hb4)
        | (go_at_call 36; refine (K36.out _ _ (HM.out _ HB4.out)).mono ?_; rintro e w5 ⟨v5, rfl, hv5, hb5⟩; (replace c0 := Below.cellOf hb5 c0); (replace c1 := Below.cellOf hb5 c1); (replace d0 := Below.cellOf hb5 d0); (replace d1 := Below.cellOf hb5 d1); (have HB5 := Lib.hid (HB4.out.trans (hb5.mono HB4.out.size))); (replace HV4 := Lib.hid (HV4.out.below hb5)); (have HV5 := Lib.hid hv5); clear hv5; clear hb5)
        | (go_at_call 24; refine (KS.out _ _ _ HV4.out HV5.out).mono ?_; rintro e w6 ⟨rfl, hb6⟩; (have HB6 := Lib.hid (HB5.out.trans (hb6.mono HB5.out.size))))
        | (go_at_call 17; refine (works_ok _).mono ?_; rintro e w7 ⟨rfl, hb7⟩))
      go_ret
      exact ⟨rfl, HB6.out.trans (hb7.mono HB6.out.size)⟩
set_option maxRecDepth 100000 in
set_option maxHeartbeats 1000000 in
theorem several_big (w : World) (la na : Option Addr) (n lc k nc : Nat) (tv : Value) (many : Int) (h : 40 < n ∨ 40 < k) : Calls Try.prog 5 #[.agg #[.slice la n lc, .slice na k nc], tv, .int .i64 many] w (Ret w (.bool true)) := by
  have HH := Lib.hid h
  have HB := Lib.hid (Below.one w (.cells #[.slice la n lc, .slice na k nc] 25))
  clear h
  go_enter Try.func5, Try.ntmps5
  go_wp2_with (first | (go_at_call 16; refine (large_shape _ la na n lc k nc HH.out).mono ?_; rintro e w1 ⟨rfl, hb1⟩; (have HB1 := Lib.hid (HB.out.trans (hb1.mono HB.out.size)))) | (go_at_call 17; refine (works_ok _).mono ?_; rintro e w2 ⟨rfl, hb2⟩))
  go_ret
  exact ⟨rfl, HB1.out.trans (hb2.mono HB1.out.size)⟩
theorem several_any (w : World) (m : Value) (ta : Option Addr) (n tc : Nat) (many : Int) (h : MktArg w m) (ht : 40 < n ∨ ∃ ts, ts.length = n ∧ Ints w (.slice ta n tc) ts) : Calls Try.prog 5 #[m, .slice ta n tc, .int .i64 many] w (Ret w (.bool true)) := by
  rcases h with ⟨L, N, hm⟩ | ⟨la, n', lc, na, k, nc, rfl, h⟩
  · exact several_law w m L N ta n tc many hm ht
  · exact several_big w la na n' lc k nc _ many h
end Go.Proofs.Ytkhkgmelicdpkaa

