/- The reference's Way, Far, Cost, Radius; both sides of TipWays in one form each. -/
import Derived.Test.YtkhkgmelicdpkaaRj
set_option linter.unusedVariables false
set_option linter.unusedSimpArgs false
namespace Go.Proofs.Ytkhkgmelicdpkaa
open Go.RowKit Go.BigFrame

set_option maxRecDepth 100000 in
set_option maxHeartbeats 4000000 in
theorem Way_rbad (w : World) (m : Value) (L : List Int) (N : List Lane) (a b c : Int) (hm : Mkt w m L N) (hc : laidCode L N [a, b] = c) (hne : c ≠ 0) :
    Calls Try.prog 44 #[m, .int .i64 a, .int .i64 b] w (Ret w (.tuple #[.slice none 0 0, .int .i64 c])) := by
  have HM : Hid (∀ w', Below w.heap.size w w' → Mkt w' m L N) := Lib.hid (fun w' hb => hm.below hb)
  obtain ⟨la, lc, na, nc, rfl, hlM, hN⟩ := hm.shape
  have KC : Hid (∀ w', Below w.heap.size w w' → Calls Try.prog 74 #[.agg #[.slice la L.length lc, .slice na N.length nc], .int .i64 a, .int .i64 b] w' (Ret w' (.int .i64 c))) := Lib.hid (fun w' hb => by rw [← hc]; exact asked_r w' _ L N a b (HM.out _ hb))
  have HB := Lib.hid (Below.one w (.cells #[.slice la L.length lc, .slice na N.length nc] 28))
  have h1 : (c == 0) = false := by rw [beq_eq_false_iff_ne]; exact hne
  have h2 : (c != 0) = true := by simp; exact hne
  clear hm hlM hN hc hne
  go_enter Try.func44, Try.ntmps44
  go_wp2_with (first | (go_at_call 74; refine (KC.out _ HB.out).mono ?_; rintro e w1 ⟨rfl, hb1⟩))
  go_ret2
  exact ⟨rfl, HB.out.trans (hb1.mono HB.out.size)⟩
set_option maxRecDepth 100000 in
set_option maxHeartbeats 4000000 in
theorem Far_rbad (w : World) (m : Value) (L : List Int) (N : List Lane) (a b c : Int) (hm : Mkt w m L N) (hc : laidCode L N [a, b] = c) (hne : c ≠ 0) :
    Calls Try.prog 46 #[m, .int .i64 a, .int .i64 b] w (Ret w (.tuple #[.int .i64 0, .int .i64 c])) := by
  have HM : Hid (∀ w', Below w.heap.size w w' → Mkt w' m L N) := Lib.hid (fun w' hb => hm.below hb)
  obtain ⟨la, lc, na, nc, rfl, hlM, hN⟩ := hm.shape
  have KC : Hid (∀ w', Below w.heap.size w w' → Calls Try.prog 74 #[.agg #[.slice la L.length lc, .slice na N.length nc], .int .i64 a, .int .i64 b] w' (Ret w' (.int .i64 c))) := Lib.hid (fun w' hb => by rw [← hc]; exact asked_r w' _ L N a b (HM.out _ hb))
  have HB := Lib.hid (Below.one w (.cells #[.slice la L.length lc, .slice na N.length nc] 28))
  have h1 : (c == 0) = false := by rw [beq_eq_false_iff_ne]; exact hne
  have h2 : (c != 0) = true := by simp; exact hne
  clear hm hlM hN hc hne
  go_enter Try.func46, Try.ntmps46
  go_wp2_with (first | (go_at_call 74; refine (KC.out _ HB.out).mono ?_; rintro e w1 ⟨rfl, hb1⟩))
  go_ret2
  exact ⟨rfl, HB.out.trans (hb1.mono HB.out.size)⟩
set_option maxRecDepth 100000 in
set_option maxHeartbeats 4000000 in
theorem Cost_rbad (w : World) (m : Value) (L : List Int) (N : List Lane) (a c : Int) (hm : Mkt w m L N) (hc : laidCode L N [a, a] = c) (hne : c ≠ 0) :
    Calls Try.prog 49 #[m, .int .i64 a] w (Ret w (.tuple #[.int .i64 0, .int .i64 c])) := by
  have HM : Hid (∀ w', Below w.heap.size w w' → Mkt w' m L N) := Lib.hid (fun w' hb => hm.below hb)
  obtain ⟨la, lc, na, nc, rfl, hlM, hN⟩ := hm.shape
  have KC : Hid (∀ w', Below w.heap.size w w' → Calls Try.prog 74 #[.agg #[.slice la L.length lc, .slice na N.length nc], .int .i64 a, .int .i64 a] w' (Ret w' (.int .i64 c))) := Lib.hid (fun w' hb => by rw [← hc]; exact asked_r w' _ L N a a (HM.out _ hb))
  have HB := Lib.hid (Below.one w (.cells #[.slice la L.length lc, .slice na N.length nc] 28))
  have h1 : (c == 0) = false := by rw [beq_eq_false_iff_ne]; exact hne
  have h2 : (c != 0) = true := by simp; exact hne
  clear hm hlM hN hc hne
  go_enter Try.func49, Try.ntmps49
  go_wp2_with (first | (go_at_call 74; refine (KC.out _ HB.out).mono ?_; rintro e w1 ⟨rfl, hb1⟩))
  go_ret2
  exact ⟨rfl, HB.out.trans (hb1.mono HB.out.size)⟩
set_option maxRecDepth 100000 in
set_option maxHeartbeats 4000000 in
theorem Radius_rbad (w : World) (m : Value) (L : List Int) (N : List Lane) (a c : Int) (hm : Mkt w m L N) (hc : laidCode L N [a, a] = c) (hne : c ≠ 0) :
    Calls Try.prog 51 #[m, .int .i64 a] w (Ret w (.tuple #[.int .i64 0, .int .i64 c])) := by
  have HM : Hid (∀ w', Below w.heap.size w w' → Mkt w' m L N) := Lib.hid (fun w' hb => hm.below hb)
  obtain ⟨la, lc, na, nc, rfl, hlM, hN⟩ := hm.shape
  have KC : Hid (∀ w', Below w.heap.size w w' → Calls Try.prog 74 #[.agg #[.slice la L.length lc, .slice na N.length nc], .int .i64 a, .int .i64 a] w' (Ret w' (.int .i64 c))) := Lib.hid (fun w' hb => by rw [← hc]; exact asked_r w' _ L N a a (HM.out _ hb))
  have HB := Lib.hid (Below.one w (.cells #[.slice la L.length lc, .slice na N.length nc] 28))
  have h1 : (c == 0) = false := by rw [beq_eq_false_iff_ne]; exact hne
  have h2 : (c != 0) = true := by simp; exact hne
  clear hm hlM hN hc hne
  go_enter Try.func51, Try.ntmps51
  go_wp2_with (first | (go_at_call 74; refine (KC.out _ HB.out).mono ?_; rintro e w1 ⟨rfl, hb1⟩))
  go_ret2
  exact ⟨rfl, HB.out.trans (hb1.mono HB.out.size)⟩
set_option maxRecDepth 100000 in
set_option maxHeartbeats 4000000 in
theorem Way_r2 (w : World) (m : Value) (L : List Int) (N : List Lane) (a b : Nat) (far : Nat → Nat → Int) (next : Nat → Nat → Nat) (hm : Mkt w m L N) (h0 : checkCode L N = 0) (hR : AllRooted L.length N far next) (ha : a < L.length) (hb : b < L.length) :
    Calls Try.prog 44 #[m, .int .i64 (a : Int), .int .i64 (b : Int)] w (RetInts w (upL (wayL far next a b)) 0) := by
  have HM : Hid (∀ w', Below w.heap.size w w' → Mkt w' m L N) := Lib.hid (fun w' hb => hm.below hb)
  obtain ⟨la, lc, na, nc, rfl, hlM, hN⟩ := hm.shape
  have KC : Hid (∀ w', Below w.heap.size w w' → Calls Try.prog 74 #[.agg #[.slice la L.length lc, .slice na N.length nc], .int .i64 (a : Int), .int .i64 (b : Int)] w' (Ret w' (.int .i64 0))) := Lib.hid (fun w' hb' => by rw [← corners_ok2 h0 ha hb]; exact asked_r w' _ L N a b (HM.out _ hb'))
  have K81 : Hid (∀ w' bv, Below w.heap.size w w' → Ints w' bv (upL [a]) → Calls Try.prog 81 #[.agg #[.slice la L.length lc, .slice na N.length nc], bv, .int .i64 (b : Int)] w' fun e w'' => Below w'.heap.size w' w'' ∧ ∃ r, e = .returned (.tuple #[r, .bool true]) ∧ Ints w'' r (upL (wayL far next a b))) := Lib.hid (fun w' bv hb' hi => by
    have T := tree_of (valid_of h0).lanes (valid_of h0).good hR
    have e1 : upL [a] = upL (wayL far next a a) := by rw [wayL_self]
    rw [e1] at hi
    refine (way_r L N far next h0 hR a b ha hb L.length w' _ bv a (HM.out w' hb') ha hi (by rw [wayL_self]; simp; omega)).mono fun e w'' => ?_
    rintro ⟨h1, h2 | h2⟩
    · exact ⟨h1, h2.2⟩
    · exact absurd (List.mem_of_getElem? (T.wayL_head ha hb)) h2.1)
  have HB := Lib.hid (Below.one w (.cells #[.slice la L.length lc, .slice na N.length nc] 28))
  clear hm hlM hN h0 hR
  go_enter Try.func44, Try.ntmps44
  go_wp2_with (first
    | (go_at_call 74; refine (KC.out _ HB.out).mono ?_; rintro e w1 ⟨rfl, hb1⟩; (have c0 := Below.cellOf hb1 (show (w.alloc (.cells #[.slice la L.length lc, .slice na N.length nc] 28)).cell? ⟨w.heap.size, 0, none⟩ = some (.slice la L.length lc) by simp)); (have c1 := Below.cellOf hb1 (show (w.alloc (.cells #[.slice la L.length lc, .slice na N.length nc] 28)).cell? ⟨w.heap.size, 1, none⟩ = some (.slice na N.length nc) by simp)); (have HB1 := Lib.hid (HB.out.trans (hb1.mono HB.out.size))))
    | (go_at_call 81; refine (K81.out _ _ (HB1.out.alloc HB1.out.size _) (by exact ints_new _ _ _)).mono ?_; rintro e w2 ⟨hb2, r2, rfl, hr2⟩))
  go_ret2
  have hb3 := (Below.one w1 (.cells #[.int .i64 (a : Int)] 3)).trans (hb2.mono (new_size _ _))
  exact ⟨r2, rfl, hr2, HB1.out.trans (hb3.mono HB1.out.size)⟩
set_option maxRecDepth 100000 in
set_option maxHeartbeats 4000000 in
theorem Far_r2 (w : World) (m : Value) (L : List Int) (N : List Lane) (a b : Nat) (far : Nat → Nat → Int) (next : Nat → Nat → Nat) (hm : Mkt w m L N) (h0 : checkCode L N = 0) (hR : AllRooted L.length N far next) (ha : a < L.length) (hb : b < L.length) :
    Calls Try.prog 46 #[m, .int .i64 (a : Int), .int .i64 (b : Int)] w (Ret w (.tuple #[.int .i64 (far a b), .int .i64 0])) := by
  have HM : Hid (∀ w', Below w.heap.size w w' → Mkt w' m L N) := Lib.hid (fun w' hb => hm.below hb)
  obtain ⟨la, lc, na, nc, rfl, hlM, hN⟩ := hm.shape
  have KC : Hid (∀ w', Below w.heap.size w w' → Calls Try.prog 74 #[.agg #[.slice la L.length lc, .slice na N.length nc], .int .i64 (a : Int), .int .i64 (b : Int)] w' (Ret w' (.int .i64 0))) := Lib.hid (fun w' hb' => by rw [← corners_ok2 h0 ha hb]; exact asked_r w' _ L N a b (HM.out _ hb'))
  have K82 : Hid (∀ w' : World, Below w.heap.size w w' → Calls Try.prog 82 #[.agg #[.slice la L.length lc, .slice na N.length nc], .int .i64 (a : Int), .int .i64 (b : Int)] w' (Ret w' (.int .i64 (far a b)))) := Lib.hid (fun w' hb' => far_r w' _ L N a b far next (HM.out _ hb') h0 hR ha hb)
  have HB := Lib.hid (Below.one w (.cells #[.slice la L.length lc, .slice na N.length nc] 28))
  clear hm hlM hN h0 hR
  go_enter Try.func46, Try.ntmps46
  go_wp2_with (first
    | (go_at_call 74; refine (KC.out _ HB.out).mono ?_; rintro e w1 ⟨rfl, hb1⟩; (have c0 := Below.cellOf hb1 (show (w.alloc (.cells #[.slice la L.length lc, .slice na N.length nc] 28)).cell? ⟨w.heap.size, 0, none⟩ = some (.slice la L.length lc) by simp)); (have c1 := Below.cellOf hb1 (show (w.alloc (.cells #[.slice la L.length lc, .slice na N.length nc] 28)).cell? ⟨w.heap.size, 1, none⟩ = some (.slice na N.length nc) by simp)); (have HB1 := Lib.hid (HB.out.trans (hb1.mono HB.out.size))))
    | (go_at_call 82; refine (K82.out _ HB1.out).mono ?_; rintro e w2 ⟨rfl, hb2⟩))
  go_ret2
  exact ⟨rfl, HB1.out.trans (hb2.mono HB1.out.size)⟩
set_option maxRecDepth 100000 in
set_option maxHeartbeats 4000000 in
theorem Cost_r2 (w : World) (m : Value) (L : List Int) (N : List Lane) (a : Nat) (far : Nat → Nat → Int) (next : Nat → Nat → Nat) (hm : Mkt w m L N) (h0 : checkCode L N = 0) (hR : AllRooted L.length N far next) (ha : a < L.length) :
    Calls Try.prog 49 #[m, .int .i64 (a : Int)] w (Ret w (.tuple #[.int .i64 (costL L far [a]), .int .i64 0])) := by
  have HM : Hid (∀ w', Below w.heap.size w w' → Mkt w' m L N) := Lib.hid (fun w' hb => hm.below hb)
  obtain ⟨la, lc, na, nc, rfl, hlM, hN⟩ := hm.shape
  have KC : Hid (∀ w', Below w.heap.size w w' → Calls Try.prog 74 #[.agg #[.slice la L.length lc, .slice na N.length nc], .int .i64 (a : Int), .int .i64 (a : Int)] w' (Ret w' (.int .i64 0))) := Lib.hid (fun w' hb' => by rw [← corners_ok2 h0 ha ha]; exact asked_r w' _ L N a a (HM.out _ hb'))
  have K68 : Hid (∀ w' tv, Below w.heap.size w w' → Ints w' tv (upL [a]) → Calls Try.prog 68 #[.agg #[.slice la L.length lc, .slice na N.length nc], tv] w' (Ret w' (.int .i64 (costL L far [a])))) := Lib.hid (fun w' tv hb' hi => cost_r w' _ tv L N [a] far next (HM.out _ hb') h0 hR hi (by simp) (fun x hx => by simp at hx; omega))
  have HB := Lib.hid (Below.one w (.cells #[.slice la L.length lc, .slice na N.length nc] 28))
  clear hm hlM hN h0 hR
  go_enter Try.func49, Try.ntmps49
  go_wp2_with (first
    | (go_at_call 74; refine (KC.out _ HB.out).mono ?_; rintro e w1 ⟨rfl, hb1⟩; (have c0 := Below.cellOf hb1 (show (w.alloc (.cells #[.slice la L.length lc, .slice na N.length nc] 28)).cell? ⟨w.heap.size, 0, none⟩ = some (.slice la L.length lc) by simp)); (have c1 := Below.cellOf hb1 (show (w.alloc (.cells #[.slice la L.length lc, .slice na N.length nc] 28)).cell? ⟨w.heap.size, 1, none⟩ = some (.slice na N.length nc) by simp)); (have HB1 := Lib.hid (HB.out.trans (hb1.mono HB.out.size))))
    | (go_at_call 68; refine (K68.out _ _ (HB1.out.alloc HB1.out.size _) (by exact ints_new _ _ _)).mono ?_; rintro e w2 ⟨rfl, hb2⟩))
  go_ret2
  have hb3 := (Below.one w1 (.cells #[.int .i64 (a : Int)] 3)).trans (hb2.mono (new_size _ _))
  exact ⟨rfl, HB1.out.trans (hb3.mono HB1.out.size)⟩
def mxZ (f : Nat → Int) : Nat → Int
  | 0 => 0
  | k + 1 => if mxZ f k < f k then f k else mxZ f k
theorem mxZ_all {f : Nat → Int} (h : 0 ≤ f 0) : ∀ k, mxZ f (k + 1) = mxF f k := by
  intro k
  induction k with
  | zero =>
    show (if (0 : Int) < f 0 then f 0 else 0) = f 0
    split <;> omega
  | succ k ih =>
    show (if mxZ f (k + 1) < f (k + 1) then f (k + 1) else mxZ f (k + 1)) = mx (mxF f k) (f (k + 1))
    rw [ih]
    rfl
theorem mxZ_bound {f : Nat → Int} {n : Nat} (h : ∀ k, k < n → 0 ≤ f k ∧ f k ≤ 72) : ∀ k, k ≤ n → 0 ≤ mxZ f k ∧ mxZ f k ≤ 72 := by
  intro k
  induction k with
  | zero => intro _; simp [mxZ]
  | succ k ih =>
    intro hk
    have h1 := ih (by omega)
    have h2 := h k (by omega)
    simp only [mxZ]
    split <;> omega
def RadRelR (w1 : World) (f : Nat → Int) (n : Nat) (iv nv : Value) (wr : World) : Prop := ∃ k : Nat, k ≤ n ∧ iv = .int .i64 (k : Int) ∧ nv = .int .i64 (mxZ f k) ∧ Below w1.heap.size w1 wr
set_option maxRecDepth 100000 in
set_option maxHeartbeats 4000000 in
theorem radius_r (w : World) (m : Value) (L : List Int) (N : List Lane) (a : Nat) (far : Nat → Nat → Int) (next : Nat → Nat → Nat) (hm : Mkt w m L N) (h0 : checkCode L N = 0) (hR : AllRooted L.length N far next) (ha : a < L.length) :
    Calls Try.prog 79 #[m, .int .i64 (a : Int)] w (Ret w (.int .i64 (radF far L.length a))) := by
  have HM : Hid (∀ w', Below w.heap.size w w' → Mkt w' m L N) := Lib.hid (fun w' hb => hm.below hb)
  obtain ⟨la, lc, na, nc, rfl, hlM, hN⟩ := hm.shape
  have T := tree_of (valid_of h0).lanes (valid_of h0).good hR
  have HV := Lib.hid (valid_of h0)
  have h8 := HV.out.le
  have hp := HV.out.pos
  have HF : Hid (∀ k, k < L.length → 0 ≤ far a k ∧ far a k ≤ 72) := Lib.hid (fun k hk => T.nonneg a k ha hk)
  have HE : Hid (mxZ (far a) L.length = radF far L.length a) := Lib.hid (by
    have e := mxZ_all (f := far a) (T.nonneg a 0 ha (by omega)).1 (L.length - 1)
    rw [show L.length - 1 + 1 = L.length by omega] at e
    exact e)
  have K82 : Hid (∀ (w' : World) (k : Nat), Below w.heap.size w w' → k < L.length → Calls Try.prog 82 #[.agg #[.slice la L.length lc, .slice na N.length nc], .int .i64 (a : Int), .int .i64 (k : Int)] w' (Ret w' (.int .i64 (far a k)))) := Lib.hid (fun w' k hb hk => far_r w' _ L N a k far next (HM.out _ hb) h0 hR ha hk)
  have HB := Lib.hid (Below.one w (.cells #[.slice la L.length lc, .slice na N.length nc] 28))
  clear hm hlM hN h0 hR T
  go_enter Try.func79, Try.ntmps79
  go_wp2
  obtain ⟨W1, hW1⟩ : ∃ W1, W1 = w.alloc (.cells #[.slice la L.length lc, .slice na N.length nc] 28) := ⟨_, rfl⟩
  have c0 : W1.cell? ⟨w.heap.size, 0, none⟩ = some (.slice la L.length lc) := by rw [hW1]; simp
  have c1 : W1.cell? ⟨w.heap.size, 1, none⟩ = some (.slice na N.length nc) := by rw [hW1]; simp
  rw [← hW1] at HB ⊢
  have HC := Lib.hid (And.intro c0 c1)
  clear hW1 c0 c1
  go_loopw [6, 5] (RadRelR W1 (far a) L.length) (fun i _ _ => L.length - (intOf i).toNat)
  case atStart => exact ⟨0, Nat.zero_le _, rfl, rfl, Below.refl _ _⟩
  case round =>
    obtain ⟨k, hk, rfl, rfl, hb⟩ := hrel
    have Hb := Lib.hid hb
    have c0 := Below.cellOf hb HC.out.1
    have c1 := Below.cellOf hb HC.out.2
    have HBW := Lib.hid (HB.out.trans (hb.mono HB.out.size))
    clear hb
    have hmb := mxZ_bound HF.out k hk
    by_cases hlt : k < L.length
    · have hfk := HF.out k hlt
      obtain ⟨Q, hQ⟩ : ∃ Q, Q = mxZ (far a) k := ⟨_, rfl⟩
      rw [← hQ] at hmb ⊢
      have HQ := Lib.hid hQ
      clear hQ
      by_cases hcmp : Q < far a k
      · have HCM := Lib.hid hcmp
        go_wp2_with (first | (go_at_call 82; refine (K82.out _ k HBW.out hlt).mono ?_; rintro e w2 ⟨rfl, hb2⟩))
        go_roundw
        case rel => exact ⟨k + 1, by omega, by go_num, by simp only [mxZ]; rw [← HQ.out, if_pos (by have := HCM.out; omega)], Hb.out.trans (hb2.mono Hb.out.size)⟩
        case measure => simp [intOf]; omega
      · have HCM := Lib.hid hcmp
        go_wp2_with (first | (go_at_call 82; refine (K82.out _ k HBW.out hlt).mono ?_; rintro e w2 ⟨rfl, hb2⟩))
        go_roundw
        case rel => exact ⟨k + 1, by omega, by go_num, by simp only [mxZ]; rw [← HQ.out, if_neg (by have := HCM.out; omega)], Hb.out.trans (hb2.mono Hb.out.size)⟩
        case measure => simp [intOf]; omega
    · obtain rfl : k = L.length := by omega
      go_wp2
      go_ret
      exact ⟨ret_int HE.out, HBW.out⟩
set_option maxRecDepth 100000 in
set_option maxHeartbeats 4000000 in
theorem Radius_r2 (w : World) (m : Value) (L : List Int) (N : List Lane) (a : Nat) (far : Nat → Nat → Int) (next : Nat → Nat → Nat) (hm : Mkt w m L N) (h0 : checkCode L N = 0) (hR : AllRooted L.length N far next) (ha : a < L.length) :
    Calls Try.prog 51 #[m, .int .i64 (a : Int)] w (Ret w (.tuple #[.int .i64 (radF far L.length a), .int .i64 0])) := by
  have HM : Hid (∀ w', Below w.heap.size w w' → Mkt w' m L N) := Lib.hid (fun w' hb => hm.below hb)
  obtain ⟨la, lc, na, nc, rfl, hlM, hN⟩ := hm.shape
  have KC : Hid (∀ w', Below w.heap.size w w' → Calls Try.prog 74 #[.agg #[.slice la L.length lc, .slice na N.length nc], .int .i64 (a : Int), .int .i64 (a : Int)] w' (Ret w' (.int .i64 0))) := Lib.hid (fun w' hb' => by rw [← corners_ok2 h0 ha ha]; exact asked_r w' _ L N a a (HM.out _ hb'))
  have K79 : Hid (∀ w' : World, Below w.heap.size w w' → Calls Try.prog 79 #[.agg #[.slice la L.length lc, .slice na N.length nc], .int .i64 (a : Int)] w' (Ret w' (.int .i64 (radF far L.length a)))) := Lib.hid (fun w' hb' => radius_r w' _ L N a far next (HM.out _ hb') h0 hR ha)
  have HB := Lib.hid (Below.one w (.cells #[.slice la L.length lc, .slice na N.length nc] 28))
  clear hm hlM hN h0 hR
  go_enter Try.func51, Try.ntmps51
  go_wp2_with (first
    | (go_at_call 74; refine (KC.out _ HB.out).mono ?_; rintro e w1 ⟨rfl, hb1⟩; (have c0 := Below.cellOf hb1 (show (w.alloc (.cells #[.slice la L.length lc, .slice na N.length nc] 28)).cell? ⟨w.heap.size, 0, none⟩ = some (.slice la L.length lc) by simp)); (have c1 := Below.cellOf hb1 (show (w.alloc (.cells #[.slice la L.length lc, .slice na N.length nc] 28)).cell? ⟨w.heap.size, 1, none⟩ = some (.slice na N.length nc) by simp)); (have HB1 := Lib.hid (HB.out.trans (hb1.mono HB.out.size))))
    | (go_at_call 79; refine (K79.out _ HB1.out).mono ?_; rintro e w2 ⟨rfl, hb2⟩))
  go_ret2
  exact ⟨rfl, HB1.out.trans (hb2.mono HB1.out.size)⟩

/-! ### both sides in one form -/
theorem Way_two {w0 : World} {m0 : Value} {L : List Int} {N : List Lane} (hm0 : Mkt w0 m0 L N) (a b : Int) : ∃ xs c, (∀ w m, Mkt w m L N → Calls Try.prog 43 #[m, .int .i64 a, .int .i64 b] w (RetInts w xs c)) ∧ (∀ w m, Mkt w m L N → Calls Try.prog 44 #[m, .int .i64 a, .int .i64 b] w (RetInts w xs c)) := by
  rcases Int.decEq (laidCode L N [a, b]) 0 with h | h
  · exact ⟨[], _, fun w m hm => (Way_bad w m L N a b _ hm rfl h).mono (fun e w' he => ret_ints he), fun w m hm => (Way_rbad w m L N a b _ hm rfl h).mono (fun e w' he => ret_ints he)⟩
  · have h0 := laid_check h
    obtain ⟨x, y, rfl, rfl, hx, hy⟩ := corners_nat h0 h
    obtain ⟨far, next, hR⟩ := tree_exists hm0 h0
    have T := tree_of (valid_of h0).lanes (valid_of h0).good hR
    have hl : (wayL far next x y).length ≤ 1000 := by have := T.way_length hx hy; have := (valid_of h0).le; omega
    exact ⟨upL (wayL far next x y), 0, fun w m hm => (Way_ok w m L N x y far next hm h0 hR hx hy).mono (fun e w' he => list_ints hl he), fun w m hm => Way_r2 w m L N x y far next hm h0 hR hx hy⟩
theorem Far_two {w0 : World} {m0 : Value} {L : List Int} {N : List Lane} (hm0 : Mkt w0 m0 L N) (a b : Int) : ∃ x c : Int, (∀ w m, Mkt w m L N → Calls Try.prog 45 #[m, .int .i64 a, .int .i64 b] w (Ret w (.tuple #[.int .i64 x, .int .i64 c]))) ∧ (∀ w m, Mkt w m L N → Calls Try.prog 46 #[m, .int .i64 a, .int .i64 b] w (Ret w (.tuple #[.int .i64 x, .int .i64 c]))) := by
  rcases Int.decEq (laidCode L N [a, b]) 0 with h | h
  · exact ⟨0, _, fun w m hm => Far_bad w m L N a b _ hm rfl h, fun w m hm => Far_rbad w m L N a b _ hm rfl h⟩
  · have h0 := laid_check h
    obtain ⟨x, y, rfl, rfl, hx, hy⟩ := corners_nat h0 h
    obtain ⟨far, next, hR⟩ := tree_exists hm0 h0
    exact ⟨_, _, fun w m hm => Far_ok w m L N x y far next hm h0 hR hx hy, fun w m hm => Far_r2 w m L N x y far next hm h0 hR hx hy⟩
theorem Cost_two {w0 : World} {m0 : Value} {L : List Int} {N : List Lane} (hm0 : Mkt w0 m0 L N) (a : Int) : ∃ x c : Int, (∀ w m, Mkt w m L N → Calls Try.prog 39 #[m, .int .i64 a] w (Ret w (.tuple #[.int .i64 x, .int .i64 c]))) ∧ (∀ w m, Mkt w m L N → Calls Try.prog 49 #[m, .int .i64 a] w (Ret w (.tuple #[.int .i64 x, .int .i64 c]))) := by
  rcases Int.decEq (laidCode L N [a, a]) 0 with h | h
  · exact ⟨0, _, fun w m hm => Cost_bad w m L N a _ hm (asked_one a) h, fun w m hm => Cost_rbad w m L N a _ hm rfl h⟩
  · have h0 := laid_check h
    obtain ⟨x, y, hx0, _, hx, _⟩ := corners_nat h0 h
    subst hx0
    obtain ⟨far, next, hR⟩ := tree_exists hm0 h0
    have T := tree_of (valid_of h0).lanes (valid_of h0).good hR
    have hF : ∀ c, c < L.length → far c x ≤ 72 := fun c hc => (T.nonneg c x hc hx).2
    have e : costF L far (2 ^ x) = costL L far [x] := by rw [cost_single hx hF, costL_one hF]
    exact ⟨_, _, fun w m hm => by have h := Cost_ok w m L N x far next hm h0 hR hx; rw [e] at h; exact h, fun w m hm => Cost_r2 w m L N x far next hm h0 hR hx⟩
theorem Radius_two {w0 : World} {m0 : Value} {L : List Int} {N : List Lane} (hm0 : Mkt w0 m0 L N) (a : Int) : ∃ x c : Int, (∀ w m, Mkt w m L N → Calls Try.prog 50 #[m, .int .i64 a] w (Ret w (.tuple #[.int .i64 x, .int .i64 c]))) ∧ (∀ w m, Mkt w m L N → Calls Try.prog 51 #[m, .int .i64 a] w (Ret w (.tuple #[.int .i64 x, .int .i64 c]))) := by
  rcases Int.decEq (laidCode L N [a, a]) 0 with h | h
  · exact ⟨0, _, fun w m hm => Radius_bad w m L N a _ hm (asked_one a) h, fun w m hm => Radius_rbad w m L N a _ hm rfl h⟩
  · have h0 := laid_check h
    obtain ⟨x, y, hx0, _, hx, _⟩ := corners_nat h0 h
    subst hx0
    obtain ⟨far, next, hR⟩ := tree_exists hm0 h0
    exact ⟨_, _, fun w m hm => Radius_ok w m L N x far next hm h0 hR hx, fun w m hm => Radius_r2 w m L N x far next hm h0 hR hx⟩
end Go.Proofs.Ytkhkgmelicdpkaa
