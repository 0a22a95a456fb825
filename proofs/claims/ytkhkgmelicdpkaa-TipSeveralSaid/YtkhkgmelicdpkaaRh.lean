/- The reference's smallest, Medians, heavy, Branch, Why, Proves. -/
import Derived.Test.YtkhkgmelicdpkaaRg
import Derived.Test.YtkhkgmelicdpkaaPs
import Derived.Test.YtkhkgmelicdpkaaPn
set_option linter.unusedVariables false
set_option linter.unusedSimpArgs false
namespace Go.Proofs.Ytkhkgmelicdpkaa
open Go.RowKit Go.BigFrame

theorem costL_one {L : List Int} {far : Nat → Nat → Int} {a : Nat} (h : ∀ c, c < L.length → far c a ≤ 72) : costL L far [a] = sumF (farLoad L far a) L.length := by
  unfold costL
  refine sumF_congr _ (fun c hc => ?_)
  have e : nearL far c [a] = far c a := by
    have := h c hc
    show mn 72 (far c a) = far c a
    unfold mn
    split <;> omega
  rw [e]
  rfl
/-- Medians, as the places of the smallest costs. -/
theorem med_small {L : List Int} {N : List Lane} {far : Nat → Nat → Int} {next : Nat → Nat → Nat} (T : Tree L.length (Adj N) (lenK N N.length) far next) (hL : ∀ c, c < L.length → 0 ≤ gI L c ∧ gI L c ≤ 9) (h1 : 1 ≤ L.length) : medL L N next = smallF (fun c => costL L far [c]) L.length := by
  have hr : ∀ c, c < L.length → costL L far [c] = sumF (farLoad L far c) L.length := fun c hc => costL_one (fun x hx => (T.nonneg x c hx hc).2)
  obtain ⟨k, hk⟩ : ∃ k, L.length = k + 1 := ⟨L.length - 1, by omega⟩
  rw [hk, smallF_filter, ← hk]
  unfold medL
  refine List.filter_congr fun i hi => ?_
  have hi' : i < L.length := List.mem_range.1 hi
  have key : costL L far [i] = mnF (fun c => costL L far [c]) k ↔ Light L.length (Adj N) L next i := by
    obtain ⟨j, hj, ej⟩ := mnF_is (fun c => costL L far [c]) k
    have hrj := hr j (by omega)
    have hri := hr i hi'
    constructor
    · intro h
      refine Classical.byContradiction fun hn => ?_
      obtain ⟨d, hd, _, hA, hh⟩ := not_light hn
      have h2 := T.heavy_gt rfl hi' hd hA hh
      have h3 := mnF_le (fun c => costL L far [c]) k d (by omega)
      have hrd := hr d hd
      try simp only at h3 ej
      omega
    · intro h
      have h2 := T.light_le rfl (fun c hc => (hL c hc).1) hi' h _ j (by omega) (Nat.le_refl _)
      have h3 := mnF_le (fun c => costL L far [c]) k i (by omega)
      try simp only at h3 ej
      omega
  by_cases hl : Light L.length (Adj N) L next i
  · rw [decide_eq_true (key.2 hl), (light_iff i).2 hl]
  · rw [decide_eq_false (fun h => hl (key.1 h))]
    rw [← Bool.not_eq_true]
    exact fun h => hl ((light_iff i).1 h)

def SmRel (w1 : World) (xs : List Int) (iv ov : Value) (wr : World) : Prop := ∃ k : Nat, k ≤ xs.length ∧ iv = .int .i64 (k : Int) ∧ Mine wr w1.heap.size 1 ov (smallF (gI xs) k).length (vals (smallF (gI xs) k)) ∧ Below w1.heap.size w1 wr
set_option maxRecDepth 100000 in
set_option maxHeartbeats 4000000 in
theorem smallest_r (w : World) (v : Value) (xs : List Int) (hv : Ints w v xs) (h8 : xs.length ≤ 1000) : Calls Try.prog 69 #[v] w (RetL w (smallF (gI xs) xs.length)) := by
  obtain ⟨_, a, cap0, b, off, rfl, ha, hc⟩ := hv
  go_enter Try.func69, Try.ntmps69
  go_wp2
  go_loopw [4, 3] (SmRel w xs) (fun i _ _ => xs.length - (intOf i).toNat)
  case atStart => exact ⟨0, Nat.zero_le _, rfl, Mine.nil _ _ _, Below.refl _ _⟩
  case round =>
    obtain ⟨k, hk, rfl, hm, hb⟩ := hrel
    have Hb := Lib.hid hb
    have hlen := smallF_length (gI xs) k
    by_cases hlt : k < xs.length
    · have hck := Below.cellOf hb (hc k hlt)
      obtain rfl : a = some ⟨b, off, none⟩ := ha.resolve_left (by omega)
      have hsz := hb.size
      have k1 : (0 : Int) ≤ (k : Int) := by omega
      have k2 : (k : Int) < (xs.length : Int) := by omega
      rcases hsl : smallF (gI xs) k with _ | ⟨x, t⟩
      · rw [hsl] at hm
        obtain ⟨rfl, _⟩ | ⟨_, _, _, rfl, _, _, _, _⟩ := hm.2
        · skip
          have HM := Lib.hid hm
          have HS := Lib.hid hsl
          clear hm hsl hb hlen
          go_wp2
          go_quiet (fail)
          go_wp2
          go_quiet (fail)
          go_wp2_with (at_builtin; refine append_int w.heap.size rfl _ _ rfl _ _ _ rfl (Mine.nil _ _ _) wr.heap.size 0 1 rfl (k : Int) (by exact new_cell _ _ _) (by simp) (by exact Nat.le_trans Hb.out.size (new_size _ _)) ?_; intro v' w3 hm3 hg3 _)
          go_roundw
          case rel => exact ⟨k + 1, by omega, by go_num, by rw [smallF_nil HS.out]; exact hm3, ((below_drewN Hb.out _).alloc Hb.out.size _).grown hg3 (Nat.le_trans Hb.out.size (new_size _ _)) (fun k hk => (HM.out.lt hk).1)⟩
          case measure => simp [intOf]; omega
        · skip
          have HM := Lib.hid hm
          have HS := Lib.hid hsl
          clear hm hsl hb hlen
          go_wp2
          go_quiet (fail)
          go_wp2
          go_quiet (fail)
          go_wp2_with (at_builtin; refine append_int w.heap.size rfl _ _ rfl _ _ _ rfl ((HM.out.below (below_drewN (Below.refl _ _) _)).alloc _) wr.heap.size 0 1 rfl (k : Int) (by exact new_cell _ _ _) (by simp) (by exact Nat.le_trans Hb.out.size (new_size _ _)) ?_; intro v' w3 hm3 hg3 _)
          go_roundw
          case rel => exact ⟨k + 1, by omega, by go_num, by rw [smallF_nil HS.out]; exact hm3, ((below_drewN Hb.out _).alloc Hb.out.size _).grown hg3 (Nat.le_trans Hb.out.size (new_size _ _)) (fun k hk => (HM.out.lt hk).1)⟩
          case measure => simp [intOf]; omega
      · rw [hsl] at hm hlen
        obtain ⟨_, h⟩ | ⟨g, o, cap, rfl, hm1, hm2, hm3, hm4, hm5, hm6⟩ := hm.2
        · simp at h
        have hc0 := hm5 0 (by simp)
        simp [vals] at hc0
        have hx : x < k := smallF_mem (gI xs) k x (by rw [hsl]; simp)
        have hcx := Below.cellOf hb (hc x (by omega))
        have HM := Lib.hid hm
        have HS := Lib.hid hsl
        have hlen' : t.length + 1 ≤ k := by simpa using hlen
        have x1 : (0 : Int) ≤ (x : Int) := by omega
        have x2 : (x : Int) < (xs.length : Int) := by omega
        have t1 : (0 : Int) < (t.length : Int) + 1 := by omega
        have hz : ((t.length : Int) + 1 == 0) = false := by rw [beq_eq_false_iff_ne]; omega
        have hdz : decide ((0 : Int) < (t.length : Int) + 1) = true := decide_eq_true t1
        clear hm hsl hb hlen hm5 hm6 hc ha
        rcases Int.lt_trichotomy (gI xs k) (gI xs x) with h | h | h
        · have HH := Lib.hid h
          go_wp2
          go_quiet (fail)
          go_wp2
          go_quiet (fail)
          go_wp2_with (at_builtin; refine append_int w.heap.size rfl _ _ rfl _ _ _ rfl (Mine.nil _ _ _) wr.heap.size 0 1 rfl (k : Int) (by exact new_cell _ _ _) (by simp) (by exact Nat.le_trans Hb.out.size (new_size _ _)) ?_; intro v' w4 hm4 hg4 _)
          go_roundw
          case rel => exact ⟨k + 1, by omega, by go_num, by rw [smallF_lt HS.out HH.out]; exact hm4, ((below_drewN Hb.out _).alloc Hb.out.size _).grown hg4 (Nat.le_trans Hb.out.size (new_size _ _)) (fun k hk => by cases hk)⟩
          case measure => simp [intOf]; omega
        · have h' : ¬ gI xs k < gI xs x := by omega
          have hd' : decide (gI xs k < gI xs x) = false := decide_eq_false h'
          have he : (gI xs k == gI xs x) = true := by rw [h]; simp
          have HH := Lib.hid h
          clear h
          go_wp2
          go_quiet (fail)
          go_wp2
          go_quiet (fail)
          go_wp2_with (at_builtin; refine append_int w.heap.size rfl _ _ rfl _ _ _ rfl ((HM.out.below (below_drewN (Below.refl _ _) _)).alloc _) wr.heap.size 0 1 rfl (k : Int) (by exact new_cell _ _ _) (by simp; omega) (by exact Nat.le_trans Hb.out.size (new_size _ _)) ?_; intro v' w4 hm4 hg4 _)
          go_roundw
          case rel => exact ⟨k + 1, by omega, by go_num, by rw [smallF_eq HS.out HH.out, vals_snoc, List.length_append]; exact hm4, ((below_drewN Hb.out _).alloc Hb.out.size _).grown hg4 (Nat.le_trans Hb.out.size (new_size _ _)) (fun k hk => (HM.out.lt hk).1)⟩
          case measure => simp [intOf]; omega
        · have h' : ¬ gI xs k < gI xs x := by omega
          have hd' : decide (gI xs k < gI xs x) = false := decide_eq_false h'
          have he : (gI xs k == gI xs x) = false := by rw [beq_eq_false_iff_ne]; omega
          have HH := Lib.hid h
          go_wp2
          go_quiet (fail)
          go_wp2
          go_quiet (fail)
          go_wp2
          go_roundw
          case rel => exact ⟨k + 1, by omega, by go_num, by rw [smallF_gt HS.out HH.out]; exact HM.out.below (below_drewN (Below.refl _ _) _), below_drewN Hb.out _⟩
          case measure => simp [intOf]; omega
    · obtain rfl : k = xs.length := by omega
      go_wp2
      go_ret
      exact ⟨_, rfl, hm, Hb.out⟩

theorem smallF_congr {f g : Nat → Int} : ∀ k, (∀ i, i < k → f i = g i) → smallF f k = smallF g k := by
  intro k
  induction k with
  | zero => intro _; rfl
  | succ k ih =>
    intro h
    have e := ih (fun i hi => h i (by omega))
    have ek := h k (by omega)
    cases hs : smallF f k with
    | nil =>
      rw [smallF_nil hs, smallF_nil (by rw [← e, hs])]
    | cons x t =>
      have hx : x < k := smallF_mem f k x (by rw [hs]; simp)
      have ex := h x (by omega)
      have hs' : smallF g k = x :: t := by rw [← e, hs]
      rcases Int.lt_trichotomy (f k) (f x) with hc | hc | hc
      · rw [smallF_lt hs hc, smallF_lt hs' (by omega)]
      · rw [smallF_eq hs hc, smallF_eq hs' (by omega)]
      · rw [smallF_gt hs hc, smallF_gt hs' (by omega)]
def rVals (r : Nat → Int) (k : Nat) : List Value := (List.range k).map fun c => Value.int .i64 (r c)
def rList (r : Nat → Int) (k : Nat) : List Int := (List.range k).map r
theorem rVals_snoc (r : Nat → Int) (k : Nat) : rVals r (k + 1) = rVals r k ++ [.int .i64 (r k)] := by unfold rVals; rw [List.range_succ, List.map_append]; rfl
theorem rList_length (r : Nat → Int) (k : Nat) : (rList r k).length = k := by simp [rList]
theorem rList_at {r : Nat → Int} {k i : Nat} (h : i < k) : gI (rList r k) i = r i := by simp [gI, rList, h]
theorem r_ints {w : World} {base k : Nat} {v : Value} {r : Nat → Int} (h : Mine w base 1 v k (rVals r k)) (hk : k ≤ 1000) : Ints w v (rList r k) := by
  rcases h.2 with ⟨rfl, h0⟩ | ⟨g, o, cap, rfl, h1, h2, h3, h4, h5, h6⟩
  · subst h0
    exact ints_nil w 0
  · refine ⟨by rw [rList_length]; omega, some ⟨g, o, none⟩, cap, g, o, by rw [rList_length], .inr rfl, fun i hi => ?_⟩
    rw [rList_length] at hi
    rw [h5 i (by omega), rList_at hi]
    simp [rVals, hi]
def MedRelR (w1 : World) (r : Nat → Int) (n : Nat) (iv ov : Value) (wr : World) : Prop := ∃ k : Nat, k ≤ n ∧ iv = .int .i64 (k : Int) ∧ Mine wr w1.heap.size 1 ov k (rVals r k) ∧ Below w1.heap.size w1 wr
set_option maxRecDepth 100000 in
set_option maxHeartbeats 4000000 in
theorem Medians_r (w : World) (m : Value) (L : List Int) (N : List Lane) (far : Nat → Nat → Int) (next : Nat → Nat → Nat) (hm : Mkt w m L N) (h0 : checkCode L N = 0) (hR : AllRooted L.length N far next) :
    Calls Try.prog 19 #[m] w (RetList w (medL L N next) 0) := by
  have HM : Hid (∀ w', Below w.heap.size w w' → Mkt w' m L N) := Lib.hid (fun w' hb => hm.below hb)
  obtain ⟨la, lc, na, nc, rfl, hlM, hN⟩ := hm.shape
  have HV := Lib.hid (valid_of h0)
  have h8 := HV.out.le
  have HMS := Lib.hid (med_small (tree_of HV.out.lanes HV.out.good hR) HV.out.loads HV.out.pos)
  obtain ⟨r, hr⟩ : ∃ r : Nat → Int, r = fun c => costL L far [c] := ⟨_, rfl⟩
  have K48 : Hid (∀ w', Below w.heap.size w w' → Calls Try.prog 48 #[.agg #[.slice la L.length lc, .slice na N.length nc]] w' (Ret w' (.int .i64 0))) := Lib.hid (fun w' hb => by have h := Check_r w' _ L N (HM.out _ hb); rw [h0] at h; exact h)
  have K68 : Hid (∀ w' tv (k : Nat), Below w.heap.size w w' → k < L.length → Ints w' tv (upL [k]) → Calls Try.prog 68 #[.agg #[.slice la L.length lc, .slice na N.length nc], tv] w' (Ret w' (.int .i64 (r k)))) := Lib.hid (fun w' tv k hb hk hi => by rw [hr]; exact cost_r w' _ tv L N [k] far next (HM.out _ hb) h0 hR hi (by simp) (fun x hx => by simp at hx; omega))
  have HRR : Hid (medL L N next = smallF r L.length) := Lib.hid (by rw [HMS.out, hr])
  have HB := Lib.hid (Below.one w (.cells #[.slice la L.length lc, .slice na N.length nc] 28))
  clear hm hlM hN h0 hR hr
  go_enter Try.func19, Try.ntmps19
  go_wp2_with (first | (go_at_call 48; refine (K48.out _ HB.out).mono ?_; rintro e w1 ⟨rfl, hb1⟩; (have c0 := Below.cellOf hb1 (show (w.alloc (.cells #[.slice la L.length lc, .slice na N.length nc] 28)).cell? ⟨w.heap.size, 0, none⟩ = some (.slice la L.length lc) by simp)); (have c1 := Below.cellOf hb1 (show (w.alloc (.cells #[.slice la L.length lc, .slice na N.length nc] 28)).cell? ⟨w.heap.size, 1, none⟩ = some (.slice na N.length nc) by simp))))
  have HBW := Lib.hid (HB.out.trans (hb1.mono HB.out.size))
  have HC := Lib.hid (And.intro c0 c1)
  clear hb1 c0 c1
  go_loopw [6, 5] (MedRelR w1 r L.length) (fun i _ _ => L.length - (intOf i).toNat)
  case atStart => exact ⟨0, Nat.zero_le _, rfl, Mine.nil _ _ _, Below.refl _ _⟩
  case round =>
    obtain ⟨k, hk, rfl, hmi, hb⟩ := hrel
    have HMI := Lib.hid hmi
    have Hb := Lib.hid hb
    have c0 := Below.cellOf hb HC.out.1
    have c1 := Below.cellOf hb HC.out.2
    clear hmi hb
    by_cases hlt : k < L.length
    · have HBR := Lib.hid (HBW.out.trans (Hb.out.mono HBW.out.size))
      have e1 : (wr.alloc (.cells #[.int .i64 (k : Int)] 3)).heap.size = wr.heap.size + 1 := by simp
      go_wp2_with (first
        | (go_at_call 68; refine (K68.out _ _ k (HBR.out.alloc HBR.out.size _) hlt (by exact ints_new _ _ _)).mono ?_; rintro e w2 ⟨rfl, hb2⟩; (have HB2 := Lib.hid (((Below.refl wr.heap.size wr).alloc (Nat.le_refl _) (.cells #[.int .i64 (k : Int)] 3)).trans (hb2.mono (new_size _ _)))); clear hb2)
        | (at_builtin; refine append_int w1.heap.size rfl _ _ rfl _ _ _ rfl ((HMI.out.below HB2.out).alloc _) w2.heap.size 0 1 rfl (r k) (by exact new_cell _ _ _) (by omega) (by exact Nat.le_trans (Nat.le_trans Hb.out.size HB2.out.size) (new_size _ _)) ?_; intro v' w3 hm3 hg3 _))
      have hsz := Nat.le_trans Hb.out.size HB2.out.size
      go_roundw
      case rel => exact ⟨k + 1, by omega, by go_num, by rw [rVals_snoc]; exact hm3, (((Hb.out.trans (HB2.out.mono Hb.out.size)).alloc hsz _).grown hg3 (Nat.le_trans hsz (new_size _ _)) (fun k hk => (HMI.out.lt hk).1))⟩
      case measure => simp [intOf]; omega
    · obtain rfl : k = L.length := by omega
      have HBR := Lib.hid (HBW.out.trans (Hb.out.mono HBW.out.size))
      have K69 : Hid (∀ v, Ints wr v (rList r L.length) → Calls Try.prog 69 #[v] wr (RetL wr (medL L N next))) := Lib.hid (fun v hv => by
        have h := smallest_r wr v _ hv (by rw [rList_length]; omega)
        rw [rList_length, smallF_congr L.length (fun i hi => rList_at hi), ← HRR.out] at h
        exact h)
      go_wp2_with (first | (go_at_call 69; refine (K69.out _ (r_ints HMI.out (by omega))).mono ?_; rintro e w4 ⟨v4, rfl, hm4, hb4⟩))
      go_ret2
      exact ⟨v4, rfl, hm4.base HBR.out.size, HBR.out.trans (hb4.mono HBR.out.size)⟩
end Go.Proofs.Ytkhkgmelicdpkaa
