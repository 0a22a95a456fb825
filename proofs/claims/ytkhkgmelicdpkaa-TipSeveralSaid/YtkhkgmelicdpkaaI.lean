/- Contracts of package tip's exported functions (printed by a program of this session, gen_exp.py). -/
import Derived.Test.YtkhkgmelicdpkaaH
set_option linter.unusedVariables false
set_option linter.unusedSimpArgs false
namespace Go.Proofs.Ytkhkgmelicdpkaa
open Go.RowKit

/-- The call returns these values, and what was there has not turned. -/
def Ret (w : World) (v : Value) (e : Ending) (w' : World) : Prop := e = .returned v ∧ Below w.heap.size w w'
theorem Below.two (w : World) (a b : Obj) : Below w.heap.size w ((w.alloc a).alloc b) := ((Below.refl _ _).alloc (Nat.le_refl _) _).alloc (by simp) _
theorem Below.one (w : World) (a : Obj) : Below w.heap.size w (w.alloc a) := (Below.refl _ _).alloc (Nat.le_refl _) _
theorem corners_ok1 {L : List Int} {N : List Lane} (h0 : checkCode L N = 0) {a : Nat} (ha : a < L.length) : laidCode L N [(a : Int)] = 0 := by
  rw [laidCode_ok h0]
  unfold cornersCode
  rw [if_pos]
  intro i hi
  have h1 : i = 0 := by simp at hi; omega
  subst h1
  simp [gI]
  omega
theorem corners_ok2 {L : List Int} {N : List Lane} (h0 : checkCode L N = 0) {a b : Nat} (ha : a < L.length) (hb : b < L.length) : laidCode L N [(a : Int), (b : Int)] = 0 := by
  rw [laidCode_ok h0]
  unfold cornersCode
  rw [if_pos]
  intro i hi
  have h1 : i = 0 ∨ i = 1 := by simp at hi; omega
  rcases h1 with rfl | rfl <;> simp [gI] <;> omega
theorem corners_ok0 {L : List Int} {N : List Lane} (h0 : checkCode L N = 0) : laidCode L N [] = 0 := by
  rw [laidCode_ok h0]
  unfold cornersCode
  rw [if_pos (fun i hi => by simp at hi)]

set_option maxRecDepth 100000 in
set_option maxHeartbeats 1000000 in
theorem Far_bad (w : World) (m : Value) (L : List Int) (N : List Lane) (a b : Int) (code : Int) (hm : Mkt w m L N) (h0 : laidCode L N [a, b] = code) (hne : code ≠ 0) :
    Calls Try.prog 45 #[m, .int .i64 a, .int .i64 b] w (Ret w (.tuple #[.int .i64 0, .int .i64 code])) := by
  have hM : ∀ w', Below w.heap.size w w' → Mkt w' m L N := fun w' hb => hm.below hb
  obtain ⟨la, lc, na, nc, rfl, hl, hn⟩ := hm.shape
  have hne' : (code != 0) = true := by simpa using hne
  have hne2 : (code == 0) = false := by simpa using hne
  have H0 := Lib.hid h0
  clear h0 hm
  go_enter Try.func45, Try.ntmps45
  go_wp2_with (go_at_call 66; refine (laid_bad _ _ _ L N [a, b] code (by exact hM _ (((Below.refl _ _).alloc (Nat.le_refl _) _).alloc (by simp) _)) (by exact ints_lit2 _ _ _ _ (by simp)) H0.out hne).mono ?_; rintro e w1 ⟨rfl, hb1⟩)
  go_ret2
  exact ⟨rfl, (((Below.refl _ _).alloc (Nat.le_refl _) _).alloc (by simp) _).trans (hb1.mono (by simp; try omega))⟩

set_option maxRecDepth 100000 in
set_option maxHeartbeats 1000000 in
theorem Way_bad (w : World) (m : Value) (L : List Int) (N : List Lane) (a b : Int) (code : Int) (hm : Mkt w m L N) (h0 : laidCode L N [a, b] = code) (hne : code ≠ 0) :
    Calls Try.prog 43 #[m, .int .i64 a, .int .i64 b] w (Ret w (.tuple #[.slice none 0 0, .int .i64 code])) := by
  have hM : ∀ w', Below w.heap.size w w' → Mkt w' m L N := fun w' hb => hm.below hb
  obtain ⟨la, lc, na, nc, rfl, hl, hn⟩ := hm.shape
  have hne' : (code != 0) = true := by simpa using hne
  have hne2 : (code == 0) = false := by simpa using hne
  have H0 := Lib.hid h0
  clear h0 hm
  go_enter Try.func43, Try.ntmps43
  go_wp2_with (go_at_call 66; refine (laid_bad _ _ _ L N [a, b] code (by exact hM _ (((Below.refl _ _).alloc (Nat.le_refl _) _).alloc (by simp) _)) (by exact ints_lit2 _ _ _ _ (by simp)) H0.out hne).mono ?_; rintro e w1 ⟨rfl, hb1⟩)
  go_ret2
  exact ⟨rfl, (((Below.refl _ _).alloc (Nat.le_refl _) _).alloc (by simp) _).trans (hb1.mono (by simp; try omega))⟩

set_option maxRecDepth 100000 in
set_option maxHeartbeats 1000000 in
theorem Cost_bad (w : World) (m : Value) (L : List Int) (N : List Lane) (a : Int) (code : Int) (hm : Mkt w m L N) (h0 : laidCode L N [a] = code) (hne : code ≠ 0) :
    Calls Try.prog 39 #[m, .int .i64 a] w (Ret w (.tuple #[.int .i64 0, .int .i64 code])) := by
  have hM : ∀ w', Below w.heap.size w w' → Mkt w' m L N := fun w' hb => hm.below hb
  obtain ⟨la, lc, na, nc, rfl, hl, hn⟩ := hm.shape
  have hne' : (code != 0) = true := by simpa using hne
  have hne2 : (code == 0) = false := by simpa using hne
  have H0 := Lib.hid h0
  clear h0 hm
  go_enter Try.func39, Try.ntmps39
  go_wp2_with (go_at_call 66; refine (laid_bad _ _ _ L N [a] code (by exact hM _ (((Below.refl _ _).alloc (Nat.le_refl _) _).alloc (by simp) _)) (by exact ints_lit1 _ _ _ (by simp)) H0.out hne).mono ?_; rintro e w1 ⟨rfl, hb1⟩)
  go_ret2
  exact ⟨rfl, (((Below.refl _ _).alloc (Nat.le_refl _) _).alloc (by simp) _).trans (hb1.mono (by simp; try omega))⟩

set_option maxRecDepth 100000 in
set_option maxHeartbeats 1000000 in
theorem Radius_bad (w : World) (m : Value) (L : List Int) (N : List Lane) (a : Int) (code : Int) (hm : Mkt w m L N) (h0 : laidCode L N [a] = code) (hne : code ≠ 0) :
    Calls Try.prog 50 #[m, .int .i64 a] w (Ret w (.tuple #[.int .i64 0, .int .i64 code])) := by
  have hM : ∀ w', Below w.heap.size w w' → Mkt w' m L N := fun w' hb => hm.below hb
  obtain ⟨la, lc, na, nc, rfl, hl, hn⟩ := hm.shape
  have hne' : (code != 0) = true := by simpa using hne
  have hne2 : (code == 0) = false := by simpa using hne
  have H0 := Lib.hid h0
  clear h0 hm
  go_enter Try.func50, Try.ntmps50
  go_wp2_with (go_at_call 66; refine (laid_bad _ _ _ L N [a] code (by exact hM _ (((Below.refl _ _).alloc (Nat.le_refl _) _).alloc (by simp) _)) (by exact ints_lit1 _ _ _ (by simp)) H0.out hne).mono ?_; rintro e w1 ⟨rfl, hb1⟩)
  go_ret2
  exact ⟨rfl, (((Below.refl _ _).alloc (Nat.le_refl _) _).alloc (by simp) _).trans (hb1.mono (by simp; try omega))⟩

set_option maxRecDepth 100000 in
set_option maxHeartbeats 1000000 in
theorem Why_bad (w : World) (m : Value) (L : List Int) (N : List Lane) (a : Int) (code : Int) (hm : Mkt w m L N) (h0 : laidCode L N [a] = code) (hne : code ≠ 0) :
    Calls Try.prog 22 #[m, .int .i64 a] w (Ret w (.tuple #[.int .i64 0, .int .i64 code])) := by
  have hM : ∀ w', Below w.heap.size w w' → Mkt w' m L N := fun w' hb => hm.below hb
  obtain ⟨la, lc, na, nc, rfl, hl, hn⟩ := hm.shape
  have hne' : (code != 0) = true := by simpa using hne
  have hne2 : (code == 0) = false := by simpa using hne
  have H0 := Lib.hid h0
  clear h0 hm
  go_enter Try.func22, Try.ntmps22
  go_wp2_with (go_at_call 66; refine (laid_bad _ _ _ L N [a] code (by exact hM _ (((Below.refl _ _).alloc (Nat.le_refl _) _).alloc (by simp) _)) (by exact ints_lit1 _ _ _ (by simp)) H0.out hne).mono ?_; rintro e w1 ⟨rfl, hb1⟩)
  go_ret2
  exact ⟨rfl, (((Below.refl _ _).alloc (Nat.le_refl _) _).alloc (by simp) _).trans (hb1.mono (by simp; try omega))⟩

set_option maxRecDepth 100000 in
set_option maxHeartbeats 1000000 in
theorem Medians_bad (w : World) (m : Value) (L : List Int) (N : List Lane) (code : Int) (hm : Mkt w m L N) (h0 : laidCode L N [] = code) (hne : code ≠ 0) :
    Calls Try.prog 18 #[m] w (Ret w (.tuple #[.slice none 0 0, .int .i64 code])) := by
  have hM : ∀ w', Below w.heap.size w w' → Mkt w' m L N := fun w' hb => hm.below hb
  obtain ⟨la, lc, na, nc, rfl, hl, hn⟩ := hm.shape
  have hne' : (code != 0) = true := by simpa using hne
  have hne2 : (code == 0) = false := by simpa using hne
  have H0 := Lib.hid h0
  clear h0 hm
  go_enter Try.func18, Try.ntmps18
  go_wp2_with (go_at_call 66; refine (laid_bad _ _ _ L N [] code (by exact hM _ ((Below.refl _ _).alloc (Nat.le_refl _) _)) (by exact ints_nil _ _) H0.out hne).mono ?_; rintro e w1 ⟨rfl, hb1⟩)
  go_ret2
  exact ⟨rfl, ((Below.refl _ _).alloc (Nat.le_refl _) _).trans (hb1.mono (by simp; try omega))⟩

set_option maxRecDepth 100000 in
set_option maxHeartbeats 1000000 in
theorem Centres_bad (w : World) (m : Value) (L : List Int) (N : List Lane) (code : Int) (hm : Mkt w m L N) (h0 : laidCode L N [] = code) (hne : code ≠ 0) :
    Calls Try.prog 27 #[m] w (Ret w (.tuple #[.slice none 0 0, .int .i64 code])) := by
  have hM : ∀ w', Below w.heap.size w w' → Mkt w' m L N := fun w' hb => hm.below hb
  obtain ⟨la, lc, na, nc, rfl, hl, hn⟩ := hm.shape
  have hne' : (code != 0) = true := by simpa using hne
  have hne2 : (code == 0) = false := by simpa using hne
  have H0 := Lib.hid h0
  clear h0 hm
  go_enter Try.func27, Try.ntmps27
  go_wp2_with (go_at_call 66; refine (laid_bad _ _ _ L N [] code (by exact hM _ ((Below.refl _ _).alloc (Nat.le_refl _) _)) (by exact ints_nil _ _) H0.out hne).mono ?_; rintro e w1 ⟨rfl, hb1⟩)
  go_ret2
  exact ⟨rfl, ((Below.refl _ _).alloc (Nat.le_refl _) _).trans (hb1.mono (by simp; try omega))⟩

set_option maxRecDepth 100000 in
set_option maxHeartbeats 1000000 in
theorem Longest_bad (w : World) (m : Value) (L : List Int) (N : List Lane) (code : Int) (hm : Mkt w m L N) (h0 : laidCode L N [] = code) (hne : code ≠ 0) :
    Calls Try.prog 29 #[m] w (Ret w (.tuple #[.slice none 0 0, .int .i64 code])) := by
  have hM : ∀ w', Below w.heap.size w w' → Mkt w' m L N := fun w' hb => hm.below hb
  obtain ⟨la, lc, na, nc, rfl, hl, hn⟩ := hm.shape
  have hne' : (code != 0) = true := by simpa using hne
  have hne2 : (code == 0) = false := by simpa using hne
  have H0 := Lib.hid h0
  clear h0 hm
  go_enter Try.func29, Try.ntmps29
  go_wp2_with (go_at_call 66; refine (laid_bad _ _ _ L N [] code (by exact hM _ ((Below.refl _ _).alloc (Nat.le_refl _) _)) (by exact ints_nil _ _) H0.out hne).mono ?_; rintro e w1 ⟨rfl, hb1⟩)
  go_ret2
  exact ⟨rfl, ((Below.refl _ _).alloc (Nat.le_refl _) _).trans (hb1.mono (by simp; try omega))⟩

set_option maxRecDepth 100000 in
set_option maxHeartbeats 1000000 in
theorem Votes_bad (w : World) (m : Value) (L : List Int) (N : List Lane) (a b : Int) (code : Int) (hm : Mkt w m L N) (h0 : laidCode L N [a, b] = code) (hne : code ≠ 0) :
    Calls Try.prog 31 #[m, .int .i64 a, .int .i64 b] w (Ret w (.tuple #[.int .i64 0, .int .i64 0, .int .i64 code])) := by
  have hM : ∀ w', Below w.heap.size w w' → Mkt w' m L N := fun w' hb => hm.below hb
  obtain ⟨la, lc, na, nc, rfl, hl, hn⟩ := hm.shape
  have hne' : (code != 0) = true := by simpa using hne
  have hne2 : (code == 0) = false := by simpa using hne
  have H0 := Lib.hid h0
  clear h0 hm
  go_enter Try.func31, Try.ntmps31
  go_wp2_with (go_at_call 66; refine (laid_bad _ _ _ L N [a, b] code (by exact hM _ (((Below.refl _ _).alloc (Nat.le_refl _) _).alloc (by simp) _)) (by exact ints_lit2 _ _ _ _ (by simp)) H0.out hne).mono ?_; rintro e w1 ⟨rfl, hb1⟩)
  go_ret3
  exact ⟨rfl, (((Below.refl _ _).alloc (Nat.le_refl _) _).alloc (by simp) _).trans (hb1.mono (by simp; try omega))⟩

set_option maxRecDepth 100000 in
set_option maxHeartbeats 1000000 in
theorem beside_bad (w : World) (m : Value) (L : List Int) (N : List Lane) (a b : Int) (code : Int) (hm : Mkt w m L N) (h0 : laidCode L N [a, b] = code) (hne : code ≠ 0) :
    Calls Try.prog 70 #[m, .int .i64 a, .int .i64 b] w (Ret w (.tuple #[.pointer none, .int .i64 code])) := by
  have hM : ∀ w', Below w.heap.size w w' → Mkt w' m L N := fun w' hb => hm.below hb
  obtain ⟨la, lc, na, nc, rfl, hl, hn⟩ := hm.shape
  have hne' : (code != 0) = true := by simpa using hne
  have hne2 : (code == 0) = false := by simpa using hne
  have H0 := Lib.hid h0
  clear h0 hm
  go_enter Try.func70, Try.ntmps70
  go_wp2_with (go_at_call 66; refine (laid_bad _ _ _ L N [a, b] code (by exact hM _ (((Below.refl _ _).alloc (Nat.le_refl _) _).alloc (by simp) _)) (by exact ints_lit2 _ _ _ _ (by simp)) H0.out hne).mono ?_; rintro e w1 ⟨rfl, hb1⟩)
  have hB := (Below.two w _ _).trans (hb1.mono (by simp; omega))
  go_quiet (fail)
  go_wp2
  go_ret2
  exact ⟨rfl, below_drewN hB _⟩

set_option maxRecDepth 100000 in
set_option maxHeartbeats 1000000 in
theorem Best_bad (w : World) (m : Value) (L : List Int) (N : List Lane) (many : Int) (code : Int) (hm : Mkt w m L N) (h0 : laidCode L N [] = code) (hne : code ≠ 0) :
    Calls Try.prog 35 #[m, .int .i64 many] w (Ret w (.tuple #[.slice none 0 0, .int .i64 code])) := by
  have hM : ∀ w', Below w.heap.size w w' → Mkt w' m L N := fun w' hb => hm.below hb
  obtain ⟨la, lc, na, nc, rfl, hl, hn⟩ := hm.shape
  have hne' : (code != 0) = true := by simpa using hne
  have hne2 : (code == 0) = false := by simpa using hne
  have H0 := Lib.hid h0
  clear h0 hm
  go_enter Try.func35, Try.ntmps35
  go_wp2_with (go_at_call 66; refine (laid_bad _ _ _ L N [] code (by exact hM _ ((Below.refl _ _).alloc (Nat.le_refl _) _)) (by exact ints_nil _ _) H0.out hne).mono ?_; rintro e w1 ⟨rfl, hb1⟩)
  go_ret2
  exact ⟨rfl, ((Below.refl _ _).alloc (Nat.le_refl _) _).trans (hb1.mono (by simp; try omega))⟩

set_option maxRecDepth 100000 in
set_option maxHeartbeats 1000000 in
theorem Tips_bad (w : World) (m : Value) (L : List Int) (N : List Lane) (tv : Value) (code : Int) (hm : Mkt w m L N) (h0 : laidCode L N [] = code) (hne : code ≠ 0) :
    Calls Try.prog 33 #[m, tv] w (Ret w (.tuple #[.int .i64 0, .int .i64 code])) := by
  have hM : ∀ w', Below w.heap.size w w' → Mkt w' m L N := fun w' hb => hm.below hb
  obtain ⟨la, lc, na, nc, rfl, hl, hn⟩ := hm.shape
  have hne' : (code != 0) = true := by simpa using hne
  have hne2 : (code == 0) = false := by simpa using hne
  have H0 := Lib.hid h0
  clear h0 hm
  go_enter Try.func33, Try.ntmps33
  go_wp2_with (go_at_call 66; refine (laid_bad _ _ _ L N [] code (by exact hM _ ((Below.refl _ _).alloc (Nat.le_refl _) _)) (by exact ints_nil _ _) H0.out hne).mono ?_; rintro e w1 ⟨rfl, hb1⟩)
  go_ret2
  exact ⟨rfl, ((Below.refl _ _).alloc (Nat.le_refl _) _).trans (hb1.mono (by simp; try omega))⟩

set_option maxRecDepth 100000 in
set_option maxHeartbeats 1000000 in
theorem Check_bad (w : World) (m : Value) (L : List Int) (N : List Lane) (code : Int) (hm : Mkt w m L N) (h0 : laidCode L N [] = code) (hne : code ≠ 0) :
    Calls Try.prog 47 #[m] w (Ret w (.int .i64 code)) := by
  have hM : ∀ w', Below w.heap.size w w' → Mkt w' m L N := fun w' hb => hm.below hb
  obtain ⟨la, lc, na, nc, rfl, hl, hn⟩ := hm.shape
  have hne' : (code != 0) = true := by simpa using hne
  have hne2 : (code == 0) = false := by simpa using hne
  have H0 := Lib.hid h0
  clear h0 hm
  go_enter Try.func47, Try.ntmps47
  go_wp2_with (go_at_call 66; refine (laid_bad _ _ _ L N [] code (by exact hM _ ((Below.refl _ _).alloc (Nat.le_refl _) _)) (by exact ints_nil _ _) H0.out hne).mono ?_; rintro e w1 ⟨rfl, hb1⟩)
  go_ret
  exact ⟨rfl, ((Below.refl _ _).alloc (Nat.le_refl _) _).trans (hb1.mono (by simp; try omega))⟩

def BesideOk (w : World) (L : List Int) (far : Nat → Nat → Int) (next : Nat → Nat → Nat) (near : Nat → Nat) (c : Int) (e : Ending) (w' : World) : Prop :=
  ∃ b, e = .returned (.tuple #[.pointer (some ⟨b, 0, none⟩), .int .i64 c]) ∧ Town w' b L far next near ∧ Below w.heap.size w w'
set_option maxRecDepth 100000 in
set_option maxHeartbeats 1000000 in
theorem beside_ok (w : World) (m : Value) (L : List Int) (N : List Lane) (a b : Nat) (far : Nat → Nat → Int) (next : Nat → Nat → Nat) (hm : Mkt w m L N) (h0 : checkCode L N = 0) (hR : AllRooted L.length N far next) (ha : a < L.length) (hb : b < L.length) (hbit : (nearK N N.length a).testBit b = true) :
    Calls Try.prog 70 #[m, .int .i64 a, .int .i64 b] w (BesideOk w L far next (nearK N N.length) 0) := by
  have hM : ∀ w', Below w.heap.size w w' → Mkt w' m L N := fun w' hb => hm.below hb
  obtain ⟨la, lc, na, nc, rfl, hl, hn⟩ := hm.shape
  have h1 := corners_ok2 h0 ha hb
  have hV := valid_of h0
  have ha8 : a < 8 := by have := hV.le; omega
  have hb8 : b < 8 := by have := hV.le; omega
  have i1 : (0 : Int) ≤ (a : Int) := by omega
  have i2 : (a : Int) < 8 := by omega
  have i3 : (0 : Int) ≤ (b : Int) := by omega
  have i4 : (b : Int) < 8 := by omega
  have hix := idx_sets b hb8
  have hp1 := two_pow_ne b
  have hp2 : (((2 : Int) ^ b) == 0) = false := by simpa using hp1
  have hp3 : (((2 : Int) ^ b) != 0) = true := by simpa using hp1
  have H1 := Lib.hid h1
  have HV := Lib.hid hV
  clear h0 hm h1 hV
  go_enter Try.func70, Try.ntmps70
  go_wp2_with (go_at_call 66; refine (laid_ok _ _ _ L N [(a : Int), (b : Int)] far next (by exact hM _ (Below.two _ _ _)) (by exact ints_lit2 _ _ _ _ (by simp)) H1.out hR).mono ?_; rintro e w1 ⟨bt, rfl, hbt, hT, hb1⟩)
  have hnc := hT.cNear a ha
  have hba := bits_and_pow (nearK N N.length a) b (hT.lt a ha) hb8
  have HB := Lib.hid ((Below.two w _ _).trans (hb1.mono (by simp; omega)))
  have HT := Lib.hid hT
  clear hT hb1
  rw [if_pos hbit] at hba
  go_region_held3 (fun w' => w'.cell? ⟨bt, 129 + a, none⟩ = some (.int .u64 (nearK N N.length a : Int)))
    (first | go_keep | exact Below.cellOf hb2 (by assumption))
    (first | (go_at_call 85; refine (sets_any _).mono ?_; rintro e w2 ⟨rfl, hb2⟩))
  go_wp2
  go_ret2
  exact ⟨bt, rfl, HT.out.below ((Below.refl _ w1).drew.trans hb2), HB.out.trans (((Below.refl _ w1).drew.trans hb2).mono HB.out.size)⟩
set_option maxRecDepth 100000 in
set_option maxHeartbeats 1000000 in
theorem beside_no (w : World) (m : Value) (L : List Int) (N : List Lane) (a b : Nat) (far : Nat → Nat → Int) (next : Nat → Nat → Nat) (hm : Mkt w m L N) (h0 : checkCode L N = 0) (hR : AllRooted L.length N far next) (ha : a < L.length) (hb : b < L.length) (hbit : ¬ (nearK N N.length a).testBit b = true) :
    Calls Try.prog 70 #[m, .int .i64 a, .int .i64 b] w (BesideOk w L far next (nearK N N.length) 5) := by
  have hM : ∀ w', Below w.heap.size w w' → Mkt w' m L N := fun w' hb => hm.below hb
  obtain ⟨la, lc, na, nc, rfl, hl, hn⟩ := hm.shape
  have h1 := corners_ok2 h0 ha hb
  have hV := valid_of h0
  have ha8 : a < 8 := by have := hV.le; omega
  have hb8 : b < 8 := by have := hV.le; omega
  have i1 : (0 : Int) ≤ (a : Int) := by omega
  have i2 : (a : Int) < 8 := by omega
  have i3 : (0 : Int) ≤ (b : Int) := by omega
  have i4 : (b : Int) < 8 := by omega
  have hix := idx_sets b hb8
  have hp1 := two_pow_ne b
  have hp2 : (((2 : Int) ^ b) == 0) = false := by simpa using hp1
  have hp3 : (((2 : Int) ^ b) != 0) = true := by simpa using hp1
  have H1 := Lib.hid h1
  have HV := Lib.hid hV
  clear h0 hm h1 hV
  go_enter Try.func70, Try.ntmps70
  go_wp2_with (go_at_call 66; refine (laid_ok _ _ _ L N [(a : Int), (b : Int)] far next (by exact hM _ (Below.two _ _ _)) (by exact ints_lit2 _ _ _ _ (by simp)) H1.out hR).mono ?_; rintro e w1 ⟨bt, rfl, hbt, hT, hb1⟩)
  have hnc := hT.cNear a ha
  have hba := bits_and_pow (nearK N N.length a) b (hT.lt a ha) hb8
  have HB := Lib.hid ((Below.two w _ _).trans (hb1.mono (by simp; omega)))
  have HT := Lib.hid hT
  clear hT hb1
  rw [if_neg hbit] at hba
  go_region_held3 (fun w' => w'.cell? ⟨bt, 129 + a, none⟩ = some (.int .u64 (nearK N N.length a : Int)))
    (first | go_keep | exact Below.cellOf hb2 (by assumption))
    (first | (go_at_call 85; refine (sets_any _).mono ?_; rintro e w2 ⟨rfl, hb2⟩))
  go_wp2
  go_ret2
  exact ⟨bt, rfl, HT.out.below ((Below.refl _ w1).drew.trans hb2), HB.out.trans (((Below.refl _ w1).drew.trans hb2).mono HB.out.size)⟩

end Go.Proofs.Ytkhkgmelicdpkaa
