/- Contracts of package tip's exported functions: centres. -/
import Derived.Test.YtkhkgmelicdpkaaR
set_option linter.unusedVariables false
set_option linter.unusedSimpArgs false
namespace Go.Proofs.Ytkhkgmelicdpkaa
open Go.RowKit

/-- The places of the smallest values. -/
def smallF (r : Nat → Int) : Nat → List Nat
  | 0 => []
  | k + 1 => match smallF r k with
    | [] => [k]
    | x :: t => if r k < r x then [k] else if r k = r x then x :: t ++ [k] else x :: t
theorem smallF_nil {r : Nat → Int} {k : Nat} (h : smallF r k = []) : smallF r (k + 1) = [k] := by
  simp only [smallF]
  rw [h]
theorem smallF_lt {r : Nat → Int} {k x : Nat} {t : List Nat} (h : smallF r k = x :: t) (hc : r k < r x) : smallF r (k + 1) = [k] := by
  simp only [smallF]
  rw [h]
  simp only
  rw [if_pos hc]
theorem smallF_eq {r : Nat → Int} {k x : Nat} {t : List Nat} (h : smallF r k = x :: t) (hc : r k = r x) : smallF r (k + 1) = x :: t ++ [k] := by
  simp only [smallF]
  rw [h]
  simp only
  rw [if_neg (by omega), if_pos hc]
theorem smallF_gt {r : Nat → Int} {k x : Nat} {t : List Nat} (h : smallF r k = x :: t) (hc : r x < r k) : smallF r (k + 1) = x :: t := by
  simp only [smallF]
  rw [h]
  simp only
  rw [if_neg (by omega), if_neg (by omega)]
theorem smallF_mem (r : Nat → Int) : ∀ k, ∀ x ∈ smallF r k, x < k := by
  intro k
  induction k with
  | zero => intro x hx; simp [smallF] at hx
  | succ k ih =>
    intro x hx
    rcases hl : smallF r k with _ | ⟨y, t⟩
    · rw [smallF_nil hl] at hx
      simp at hx
      omega
    · rw [hl] at ih
      rcases Int.lt_trichotomy (r k) (r y) with h | h | h
      · rw [smallF_lt hl h] at hx
        simp at hx
        omega
      · rw [smallF_eq hl h] at hx
        rcases List.mem_append.1 hx with h1 | h1
        · have := ih x h1; omega
        · simp at h1; omega
      · rw [smallF_gt hl h] at hx
        have := ih x hx
        omega
theorem smallF_length (r : Nat → Int) (k : Nat) : (smallF r k).length ≤ k := by
  induction k with
  | zero => simp [smallF]
  | succ k ih =>
    rcases hl : smallF r k with _ | ⟨y, t⟩
    · rw [smallF_nil hl]; simp
    · rw [hl] at ih
      rcases Int.lt_trichotomy (r k) (r y) with h | h | h
      · rw [smallF_lt hl h]; simp
      · rw [smallF_eq hl h, List.length_append]; simp at ih ⊢; omega
      · rw [smallF_gt hl h]; omega

def CenRel (w1 : World) (r : Nat → Int) (n : Nat) (iv out : Value) (wr : World) : Prop :=
  ∃ k : Nat, k ≤ n ∧ iv = .int .i64 (k : Int) ∧ Mine wr w1.heap.size 1 out (smallF r k).length (vals (smallF r k)) ∧ Below w1.heap.size w1 wr
/-- The radius of a corner. -/
def radF (far : Nat → Nat → Int) (n c : Nat) : Int := mxF (far c) (n - 1)
theorem radius_at {w0 w : World} {b : Nat} {L : List Int} {far : Nat → Nat → Int} {next : Nat → Nat → Nat} {near : Nat → Nat} (hT : Town w0 b L far next near) (hb : Below w0.heap.size w0 w) (hpos : 1 ≤ L.length) (hle : L.length ≤ 8) (c : Nat) (hc : c < L.length) :
    Calls Try.prog 78 #[.pointer (some ⟨b, 0, none⟩), .int .i64 c] w fun e w' => e = .returned (.int .i64 (radF far L.length c)) ∧ Below w.heap.size w w' :=
  radius_any w b L far next near (hT.below hb) (L.length - 1) (by omega) (by omega) c (by omega)

theorem new_cell (w : World) (v : Value) (t : TypeId) : (w.alloc (.cells #[v] t)).cell? ⟨w.heap.size, 0, none⟩ = some v := by simp
theorem new_size (w : World) (o : Obj) : w.heap.size ≤ (w.alloc o).heap.size := by simp
set_option maxRecDepth 100000 in
set_option maxHeartbeats 4000000 in
theorem Centres_ok (w : World) (m : Value) (L : List Int) (N : List Lane) (far : Nat → Nat → Int) (next : Nat → Nat → Nat) (hm : Mkt w m L N) (h0 : checkCode L N = 0) (hR : AllRooted L.length N far next) :
    Calls Try.prog 27 #[m] w (RetList w (smallF (radF far L.length) L.length) 0) := by
  have hM : ∀ w', Below w.heap.size w w' → Mkt w' m L N := fun w' hb => hm.below hb
  obtain ⟨la, lc, na, nc, rfl, hl, hn⟩ := hm.shape
  have h1 := corners_ok0 h0
  have hV := valid_of h0
  have i1 : (L.length : Int) ≤ 8 := by have := hV.le; omega
  have H1 := Lib.hid h1
  have HV := Lib.hid hV
  clear h0 hm h1 hV
  go_enter Try.func27, Try.ntmps27
  go_wp2_with (go_at_call 66; refine (laid_ok _ _ _ L N [] far next (by exact hM _ (Below.one _ _)) (by exact ints_nil _ _) H1.out hR).mono ?_; rintro e w1 ⟨bt, rfl, hbt, hT, hb1⟩; (have hmb := box_cell hb1))
  have HB := Lib.hid ((Below.one w _).trans (hb1.mono (by simp)))
  have HT := Lib.hid hT
  clear hT hb1
  go_loopw [19, 6] (CenRel w1 (radF far L.length) L.length) (fun i _ _ => L.length - (intOf i).toNat)
  case atStart => exact ⟨0, Nat.zero_le _, rfl, Mine.nil _ _ _, Below.refl _ _⟩
  case round =>
    obtain ⟨k, hk, rfl, hm, hb⟩ := hrel
    have Hm := Lib.hid hm
    have Hb := Lib.hid hb
    by_cases hlt : k < L.length
    · have HTr := Lib.hid (HT.out.below hb)
      have hsz := hb.size
      have hlen := smallF_length (radF far L.length) k
      rcases hsl : smallF (radF far L.length) k with _ | ⟨x, t⟩
      · rw [hsl] at hm
        obtain ⟨rfl, _⟩ | ⟨_, _, _, rfl, _, _, _, _⟩ := hm.2
        · have HM := Lib.hid hm
          have HS := Lib.hid hsl
          clear hm hsl hb hlen
          go_wp2
          go_quiet (fail)
          go_wp2
          go_quiet (fail)
          go_wp2_with (at_builtin; refine append_int w1.heap.size rfl _ _ rfl _ _ _ rfl (Mine.nil _ _ _) wr.heap.size 0 1 rfl (k : Int) (by exact new_cell _ _ _) (by simp) (by exact Nat.le_trans Hb.out.size (new_size _ _)) ?_; intro v' w3 hm3 hg3 _)
          go_roundw
          case rel => exact ⟨k + 1, by omega, by go_num, by rw [smallF_nil HS.out]; exact hm3, ((below_drewN Hb.out _).alloc Hb.out.size _).grown hg3 (Nat.le_trans Hb.out.size (new_size _ _)) (fun k hk => (HM.out.lt hk).1)⟩
          case measure => simp [intOf]; omega
        · have HM := Lib.hid hm
          have HS := Lib.hid hsl
          clear hm hsl hb hlen
          go_wp2
          go_quiet (fail)
          go_wp2
          go_quiet (fail)
          go_wp2_with (at_builtin; refine append_int w1.heap.size rfl _ _ rfl _ _ _ rfl ((HM.out.below (below_drewN (Below.refl _ _) _)).alloc _) wr.heap.size 0 1 rfl (k : Int) (by exact new_cell _ _ _) (by simp) (by exact Nat.le_trans Hb.out.size (new_size _ _)) ?_; intro v' w3 hm3 hg3 _)
          go_roundw
          case rel => exact ⟨k + 1, by omega, by go_num, by rw [smallF_nil HS.out]; exact hm3, ((below_drewN Hb.out _).alloc Hb.out.size _).grown hg3 (Nat.le_trans Hb.out.size (new_size _ _)) (fun k hk => (HM.out.lt hk).1)⟩
          case measure => simp [intOf]; omega
      · rw [hsl] at hm
        obtain ⟨_, h⟩ | ⟨g, o, cap, rfl, hm1, hm2, hm3, hm4, hm5, hm6⟩ := hm.2
        · simp at h
        have hc0 := hm5 0 (by simp)
        simp [vals] at hc0
        have hx : x < k := smallF_mem (radF far L.length) k x (by rw [hsl]; simp)
        have HM := Lib.hid hm
        have HS := Lib.hid hsl
        have hlen' : (x :: t).length ≤ k := by rw [← hsl]; exact hlen
        clear hm hsl hb hlen hm5 hm6
        have hz : ((t.length : Int) + 1 == 0) = false := by rw [beq_eq_false_iff_ne]; omega
        rcases Int.lt_trichotomy (radF far L.length k) (radF far L.length x) with h | h | h
        · go_wp2
          go_region_held3 (fun w' => w'.cell? ⟨g, o, none⟩ = some (.int .i64 x))
            (first | go_keep | exact Below.cellOf hb1 (by assumption) | exact Below.cellOf hb2 (by assumption))
            (first | (go_at_call_of 78 (Value.int .i64 (k : Int)); refine (radius_at HTr.out (Below.refl _ _).drew HV.out.pos HV.out.le k (by omega)).mono ?_; rintro e w2 ⟨rfl, hb1⟩) | (go_at_call_of 78 (Value.int .i64 (x : Int)); refine (radius_at (HTr.out.below (Below.refl _ _).drew) hb1 HV.out.pos HV.out.le x (by omega)).mono ?_; rintro e w3 ⟨rfl, hb2⟩))
          have HB3 := Lib.hid (((Below.refl wr.heap.size wr).drew.trans hb1).trans (hb2.mono hb1.size))
          clear hb1 hb2
          go_wp2
          go_quiet (fail)
          go_wp2_with (at_builtin; refine append_int w1.heap.size rfl _ _ rfl _ _ _ rfl (Mine.nil _ _ _) w3.heap.size 0 1 rfl (k : Int) (by exact new_cell _ _ _) (by simp) (by exact Nat.le_trans (Nat.le_trans Hb.out.size HB3.out.size) (new_size _ _)) ?_; intro v' w4 hm4 hg4 _)
          go_roundw
          case rel => exact ⟨k + 1, by omega, by go_num, by rw [smallF_lt HS.out h]; exact hm4, ((below_drewN (Hb.out.trans (HB3.out.mono Hb.out.size)) _).alloc (Nat.le_trans Hb.out.size HB3.out.size) _).grown hg4 (Nat.le_trans (Nat.le_trans Hb.out.size HB3.out.size) (new_size _ _)) (fun k hk => by cases hk)⟩
          case measure => simp [intOf]; omega
        · have h' : ¬ radF far L.length k < radF far L.length x := by omega
          have he : (radF far L.length k == radF far L.length x) = true := by rw [h]; simp
          go_wp2
          go_region_held3 (fun w' => w'.cell? ⟨g, o, none⟩ = some (.int .i64 x))
            (first | go_keep | exact Below.cellOf hb1 (by assumption) | exact Below.cellOf hb2 (by assumption))
            (first | (go_at_call_of 78 (Value.int .i64 (k : Int)); refine (radius_at HTr.out (Below.refl _ _).drew HV.out.pos HV.out.le k (by omega)).mono ?_; rintro e w2 ⟨rfl, hb1⟩) | (go_at_call_of 78 (Value.int .i64 (x : Int)); refine (radius_at (HTr.out.below (Below.refl _ _).drew) hb1 HV.out.pos HV.out.le x (by omega)).mono ?_; rintro e w3 ⟨rfl, hb2⟩))
          have HB3 := Lib.hid (((Below.refl wr.heap.size wr).drew.trans hb1).trans (hb2.mono hb1.size))
          have HT3 := Lib.hid (HTr.out.below HB3.out)
          clear hb1 hb2
          go_wp2
          go_region_held3 (fun w' => w'.cell? ⟨g, o, none⟩ = some (.int .i64 x))
            (first | go_keep | exact Below.cellOf hb4 (by assumption) | exact Below.cellOf hb5 (by assumption))
            (first | (go_at_call_of 78 (Value.int .i64 (k : Int)); refine (radius_at HT3.out (Below.refl _ _).drew HV.out.pos HV.out.le k (by omega)).mono ?_; rintro e w4 ⟨rfl, hb4⟩) | (go_at_call_of 78 (Value.int .i64 (x : Int)); refine (radius_at (HT3.out.below (Below.refl _ _).drew) hb4 HV.out.pos HV.out.le x (by omega)).mono ?_; rintro e w5 ⟨rfl, hb5⟩))
          have HB5 := Lib.hid (HB3.out.trans ((((Below.refl w3.heap.size w3).drew.trans hb4).trans (hb5.mono hb4.size)).mono HB3.out.size))
          clear hb4 hb5
          go_wp2_with (at_builtin; refine append_int w1.heap.size rfl _ _ rfl _ _ _ rfl ((HM.out.below HB5.out).alloc _) w5.heap.size 0 1 rfl (k : Int) (by exact new_cell _ _ _) (by omega) (by exact Nat.le_trans (Nat.le_trans Hb.out.size HB5.out.size) (new_size _ _)) ?_; intro v' w6 hm6 hg6 _)
          go_roundw
          case rel => exact ⟨k + 1, by omega, by go_num, by rw [smallF_eq HS.out h, vals_snoc, List.length_append]; exact hm6, ((Hb.out.trans (HB5.out.mono Hb.out.size)).alloc (Nat.le_trans Hb.out.size HB5.out.size) _).grown hg6 (Nat.le_trans (Nat.le_trans Hb.out.size HB5.out.size) (new_size _ _)) (fun k hk => (HM.out.lt hk).1)⟩
          case measure => simp [intOf]; omega
        · have h' : ¬ radF far L.length k < radF far L.length x := by omega
          have he : (radF far L.length k == radF far L.length x) = false := by rw [beq_eq_false_iff_ne]; omega
          go_wp2
          go_region_held3 (fun w' => w'.cell? ⟨g, o, none⟩ = some (.int .i64 x))
            (first | go_keep | exact Below.cellOf hb1 (by assumption) | exact Below.cellOf hb2 (by assumption))
            (first | (go_at_call_of 78 (Value.int .i64 (k : Int)); refine (radius_at HTr.out (Below.refl _ _).drew HV.out.pos HV.out.le k (by omega)).mono ?_; rintro e w2 ⟨rfl, hb1⟩) | (go_at_call_of 78 (Value.int .i64 (x : Int)); refine (radius_at (HTr.out.below (Below.refl _ _).drew) hb1 HV.out.pos HV.out.le x (by omega)).mono ?_; rintro e w3 ⟨rfl, hb2⟩))
          have HB3 := Lib.hid (((Below.refl wr.heap.size wr).drew.trans hb1).trans (hb2.mono hb1.size))
          have HT3 := Lib.hid (HTr.out.below HB3.out)
          clear hb1 hb2
          go_wp2
          go_region_held3 (fun w' => w'.cell? ⟨g, o, none⟩ = some (.int .i64 x))
            (first | go_keep | exact Below.cellOf hb4 (by assumption) | exact Below.cellOf hb5 (by assumption))
            (first | (go_at_call_of 78 (Value.int .i64 (k : Int)); refine (radius_at HT3.out (Below.refl _ _).drew HV.out.pos HV.out.le k (by omega)).mono ?_; rintro e w4 ⟨rfl, hb4⟩) | (go_at_call_of 78 (Value.int .i64 (x : Int)); refine (radius_at (HT3.out.below (Below.refl _ _).drew) hb4 HV.out.pos HV.out.le x (by omega)).mono ?_; rintro e w5 ⟨rfl, hb5⟩))
          have HB5 := Lib.hid (HB3.out.trans ((((Below.refl w3.heap.size w3).drew.trans hb4).trans (hb5.mono hb4.size)).mono HB3.out.size))
          clear hb4 hb5
          go_wp2
          go_roundw
          case rel => exact ⟨k + 1, by omega, by go_num, by rw [smallF_gt HS.out h]; exact HM.out.below HB5.out, Hb.out.trans (HB5.out.mono Hb.out.size)⟩
          case measure => simp [intOf]; omega
    · obtain rfl : k = L.length := by omega
      clear hm hb
      go_wp2
      go_ret2
      exact ⟨_, rfl, Hm.out.base HB.out.size, HB.out.trans (Hb.out.mono HB.out.size)⟩
end Go.Proofs.Ytkhkgmelicdpkaa
