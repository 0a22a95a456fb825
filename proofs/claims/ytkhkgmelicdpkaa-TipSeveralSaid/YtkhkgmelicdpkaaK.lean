/- Contracts of package tip's exported functions for markets without error: numbers, and branches. -/
import Derived.Test.YtkhkgmelicdpkaaJ
set_option linter.unusedVariables false
set_option linter.unusedSimpArgs false
namespace Go.Proofs.Ytkhkgmelicdpkaa
open Go.RowKit

set_option maxRecDepth 100000 in
set_option maxHeartbeats 1000000 in
theorem Far_ok (w : World) (m : Value) (L : List Int) (N : List Lane) (a b : Nat) (far : Nat → Nat → Int) (next : Nat → Nat → Nat) (hm : Mkt w m L N) (h0 : checkCode L N = 0) (hR : AllRooted L.length N far next) (ha : a < L.length) (hb : b < L.length) :
    Calls Try.prog 45 #[m, .int .i64 a, .int .i64 b] w (Ret w (.tuple #[.int .i64 (far a b), .int .i64 0])) := by
  have hM : ∀ w', Below w.heap.size w w' → Mkt w' m L N := fun w' hb => hm.below hb
  obtain ⟨la, lc, na, nc, rfl, hl, hn⟩ := hm.shape
  have hV := valid_of h0
  have ha8 : a < 8 := by have := hV.le; omega
  have hb8 : b < 8 := by have := hV.le; omega
  have H1 := Lib.hid (corners_ok2 h0 ha hb)
  clear h0 hm hV
  go_enter Try.func45, Try.ntmps45
  go_wp2_with (go_at_call 66; refine (laid_ok _ _ _ L N [(a : Int), (b : Int)] far next (by exact hM _ (Below.two _ _ _)) (by exact ints_lit2 _ _ _ _ (by simp)) H1.out hR).mono ?_; rintro e w1 ⟨bt, rfl, hbt, hT, hb1⟩; (have hcell := hT.cFar a b ha hb))
  go_ret2
  exact ⟨rfl, (Below.two w _ _).trans (hb1.mono (by simp; omega))⟩

set_option maxRecDepth 100000 in
set_option maxHeartbeats 1000000 in
theorem Way_ok (w : World) (m : Value) (L : List Int) (N : List Lane) (a b : Nat) (far : Nat → Nat → Int) (next : Nat → Nat → Nat) (hm : Mkt w m L N) (h0 : checkCode L N = 0) (hR : AllRooted L.length N far next) (ha : a < L.length) (hb : b < L.length) :
    Calls Try.prog 43 #[m, .int .i64 a, .int .i64 b] w (RetList w (wayD next (fun v => (far b v).toNat) b a) 0) := by
  have hM : ∀ w', Below w.heap.size w w' → Mkt w' m L N := fun w' hb => hm.below hb
  obtain ⟨la, lc, na, nc, rfl, hl, hn⟩ := hm.shape
  have hV := valid_of h0
  have T := tree_of hV.lanes hV.good hR
  have hbd := (T.nonneg b a hb ha).2
  have H1 := Lib.hid (corners_ok2 h0 ha hb)
  have HV := Lib.hid hV
  have HM := Lib.hid (T.measure hb)
  clear h0 hm hV T
  go_enter Try.func43, Try.ntmps43
  go_wp2_with (first | (go_at_call 66; refine (laid_ok _ _ _ L N [(a : Int), (b : Int)] far next (by exact hM _ (Below.two _ _ _)) (by exact ints_lit2 _ _ _ _ (by simp)) H1.out hR).mono ?_; rintro e w1 ⟨bt, rfl, hbt, hT, hb1⟩) | (go_at_call 80; refine (townWay w1 bt a b L.length ha hb HV.out.le next (fun v => (far b v).toNat) (by show (far b a).toNat ≤ 1000; omega) hT.cNext HM.out).mono ?_; rintro e w2 ⟨r, rfl, hmr, hb2⟩))
  go_ret2
  have hB := (Below.two w (.cells #[.slice la L.length lc, .slice na N.length nc] 25) (.cells #[.int .i64 (a : Int), .int .i64 (b : Int)] 3)).trans (hb1.mono (by simp; omega))
  exact ⟨r, rfl, hmr.base hB.size, hB.trans (hb2.mono hB.size)⟩

set_option maxRecDepth 100000 in
set_option maxHeartbeats 1000000 in
theorem Radius_ok (w : World) (m : Value) (L : List Int) (N : List Lane) (a : Nat) (far : Nat → Nat → Int) (next : Nat → Nat → Nat) (hm : Mkt w m L N) (h0 : checkCode L N = 0) (hR : AllRooted L.length N far next) (ha : a < L.length) :
    Calls Try.prog 50 #[m, .int .i64 a] w (Ret w (.tuple #[.int .i64 (mxF (far a) (L.length - 1)), .int .i64 0])) := by
  have hM : ∀ w', Below w.heap.size w w' → Mkt w' m L N := fun w' hb => hm.below hb
  obtain ⟨la, lc, na, nc, rfl, hl, hn⟩ := hm.shape
  have hV := valid_of h0
  have H1 := Lib.hid (corners_ok1 h0 ha)
  have HV := Lib.hid hV
  clear h0 hm hV
  go_enter Try.func50, Try.ntmps50
  go_wp2_with (first | (go_at_call 66; refine (laid_ok _ _ _ L N [(a : Int)] far next (by exact hM _ (Below.two _ _ _)) (by exact ints_lit1 _ _ _ (by simp)) H1.out hR).mono ?_; rintro e w1 ⟨bt, rfl, hbt, hT, hb1⟩) | (go_at_call 78; refine (radius_any w1 bt L far next (nearK N N.length) hT (L.length - 1) (by have := HV.out.pos; omega) (by have := HV.out.le; have := HV.out.pos; omega) a (by omega)).mono ?_; rintro e w2 ⟨rfl, hb2⟩))
  go_ret2
  have hB := (Below.two w (.cells #[.slice la L.length lc, .slice na N.length nc] 25) (.cells #[.int .i64 (a : Int)] 3)).trans (hb1.mono (by simp; omega))
  exact ⟨rfl, hB.trans (hb2.mono hB.size)⟩

theorem cost_pow (w : World) (b : Nat) (L : List Int) (far : Nat → Nat → Int) (next : Nat → Nat → Nat) (near : Nat → Nat) (hT : Town w b L far next near) (hn : L.length ≤ 8) (hL : ∀ c, c < L.length → 0 ≤ gI L c ∧ gI L c ≤ 9)
    (hfar : ∀ c k, c < L.length → k < L.length → 0 ≤ far c k) (a : Nat) (ha : a < 8) :
    Calls Try.prog 86 #[.pointer (some ⟨b, 0, none⟩), .int .u64 ((2 : Int) ^ a)] w fun e w' => e = .returned (.int .i64 (costF L far (2 ^ a))) ∧ Below w.heap.size w w' := by
  have h := cost_any w b L far next near hT hn hL hfar (2 ^ a) (popc_pow a ha).2
  have e : ((2 ^ a : Nat) : Int) = (2 : Int) ^ a := by simp
  rw [e] at h
  exact h
set_option maxRecDepth 100000 in
set_option maxHeartbeats 1000000 in
theorem Cost_ok (w : World) (m : Value) (L : List Int) (N : List Lane) (a : Nat) (far : Nat → Nat → Int) (next : Nat → Nat → Nat) (hm : Mkt w m L N) (h0 : checkCode L N = 0) (hR : AllRooted L.length N far next) (ha : a < L.length) :
    Calls Try.prog 39 #[m, .int .i64 a] w (Ret w (.tuple #[.int .i64 (costF L far (2 ^ a)), .int .i64 0])) := by
  have hM : ∀ w', Below w.heap.size w w' → Mkt w' m L N := fun w' hb => hm.below hb
  obtain ⟨la, lc, na, nc, rfl, hl, hn⟩ := hm.shape
  have hV := valid_of h0
  have T := tree_of hV.lanes hV.good hR
  have ha8 : a < 8 := by have := hV.le; omega
  have hix := idx_sets a ha8
  have hp := Lib.hid (popc_pow a ha8).2
  have H1 := Lib.hid (corners_ok1 h0 ha)
  have HV := Lib.hid hV
  have HF := Lib.hid (fun c k hc hk => (T.nonneg c k hc hk).1)
  clear h0 hm hV T
  go_enter Try.func39, Try.ntmps39
  go_wp2_with (first | (go_at_call 66; refine (laid_ok _ _ _ L N [(a : Int)] far next (by exact hM _ (Below.two _ _ _)) (by exact ints_lit1 _ _ _ (by simp)) H1.out hR).mono ?_; rintro e w1 ⟨bt, rfl, hbt, hT, hb1⟩) | (go_at_call 85; refine (sets_any _).mono ?_; rintro e w2 ⟨rfl, hb2⟩))
  have hB := (Below.two w (.cells #[.slice la L.length lc, .slice na N.length nc] 25) (.cells #[.int .i64 (a : Int)] 3)).trans (hb1.mono (by simp; omega))
  refine (cost_pow w2 bt L far next (nearK N N.length) (hT.below hb2) HV.out.le HV.out.loads HF.out a ha8).mono ?_
  rintro e w3 ⟨rfl, hb3⟩
  go_wp2
  go_ret2
  exact ⟨rfl, (hB.trans (hb2.mono hB.size)).trans (hb3.mono (Nat.le_trans hB.size hb2.size))⟩

set_option maxRecDepth 100000 in
set_option maxHeartbeats 1000000 in
theorem Why_ok (w : World) (m : Value) (L : List Int) (N : List Lane) (a : Nat) (far : Nat → Nat → Int) (next : Nat → Nat → Nat) (hm : Mkt w m L N) (h0 : checkCode L N = 0) (hR : AllRooted L.length N far next) (ha : a < L.length) (hh : 0 ≤ firstF (heavyB L next (nearK N N.length) a) L.length) :
    Calls Try.prog 22 #[m, .int .i64 a] w (Ret w (.tuple #[.int .i64 (firstF (heavyB L next (nearK N N.length) a) L.length), .int .i64 0])) := by
  have hM : ∀ w', Below w.heap.size w w' → Mkt w' m L N := fun w' hb => hm.below hb
  obtain ⟨la, lc, na, nc, rfl, hl, hn⟩ := hm.shape
  have hV := valid_of h0
  have H1 := Lib.hid (corners_ok1 h0 ha)
  have HV := Lib.hid hV
  clear h0 hm hV
  go_enter Try.func22, Try.ntmps22
  go_wp2_with (first | (go_at_call 66; refine (laid_ok _ _ _ L N [(a : Int)] far next (by exact hM _ (Below.two _ _ _)) (by exact ints_lit1 _ _ _ (by simp)) H1.out hR).mono ?_; rintro e w1 ⟨bt, rfl, hbt, hT, hb1⟩) | (go_at_call 67; refine (heavy_any w1 bt L far next (nearK N N.length) hT HV.out.le HV.out.loads a ha).mono ?_; rintro e w2 ⟨rfl, hb2⟩))
  go_ret2
  have hB := (Below.two w (.cells #[.slice la L.length lc, .slice na N.length nc] 25) (.cells #[.int .i64 (a : Int)] 3)).trans (hb1.mono (by simp; omega))
  exact ⟨rfl, hB.trans (hb2.mono hB.size)⟩
set_option maxRecDepth 100000 in
set_option maxHeartbeats 1000000 in
theorem Why_no (w : World) (m : Value) (L : List Int) (N : List Lane) (a : Nat) (far : Nat → Nat → Int) (next : Nat → Nat → Nat) (hm : Mkt w m L N) (h0 : checkCode L N = 0) (hR : AllRooted L.length N far next) (ha : a < L.length) (hh : ¬ 0 ≤ firstF (heavyB L next (nearK N N.length) a) L.length) :
    Calls Try.prog 22 #[m, .int .i64 a] w (Ret w (.tuple #[.int .i64 0, .int .i64 13])) := by
  have hM : ∀ w', Below w.heap.size w w' → Mkt w' m L N := fun w' hb => hm.below hb
  obtain ⟨la, lc, na, nc, rfl, hl, hn⟩ := hm.shape
  have hV := valid_of h0
  have H1 := Lib.hid (corners_ok1 h0 ha)
  have HV := Lib.hid hV
  clear h0 hm hV
  go_enter Try.func22, Try.ntmps22
  go_wp2_with (first | (go_at_call 66; refine (laid_ok _ _ _ L N [(a : Int)] far next (by exact hM _ (Below.two _ _ _)) (by exact ints_lit1 _ _ _ (by simp)) H1.out hR).mono ?_; rintro e w1 ⟨bt, rfl, hbt, hT, hb1⟩) | (go_at_call 67; refine (heavy_any w1 bt L far next (nearK N N.length) hT HV.out.le HV.out.loads a ha).mono ?_; rintro e w2 ⟨rfl, hb2⟩))
  go_ret2
  have hB := (Below.two w (.cells #[.slice la L.length lc, .slice na N.length nc] 25) (.cells #[.int .i64 (a : Int)] 3)).trans (hb1.mono (by simp; omega))
  exact ⟨rfl, hB.trans (hb2.mono hB.size)⟩
end Go.Proofs.Ytkhkgmelicdpkaa
