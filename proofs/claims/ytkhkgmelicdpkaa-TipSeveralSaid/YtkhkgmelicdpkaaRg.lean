/- The reference's far, cost, radius. -/
import Derived.Test.YtkhkgmelicdpkaaRf
import Derived.Test.YtkhkgmelicdpkaaPb
set_option linter.unusedVariables false
set_option linter.unusedSimpArgs false
namespace Go.Proofs.Ytkhkgmelicdpkaa
open Go.RowKit Go.BigFrame

theorem Tree.way_len {n : Nat} {A : Nat → Nat → Prop} {len far : Nat → Nat → Int} {next : Nat → Nat → Nat} (T : Tree n A len far next) {a b : Nat} (ha : a < n) (hb : b < n) {i c d : Nat} (hc : (wayL far next a b)[i]? = some c) (hd : (wayL far next a b)[i + 1]? = some d) : far a d = far a c + len c d := by
  obtain ⟨_, h2, h3⟩ := T.way_parts ha hb i c hc
  obtain ⟨_, g2, g3⟩ := T.way_parts ha hb (i + 1) d hd
  have hcn := (T.wayL_mem ha hb c (List.mem_of_getElem? hc)).1
  have hdn := (T.wayL_mem ha hb d (List.mem_of_getElem? hd)).1
  have hcb : c ≠ b := fun e => by
    subst e
    rw [wayL_self] at h2
    have := congrArg List.length h2
    have := (List.getElem?_eq_some_iff.1 hd).1
    simp only [List.length_drop, List.length_singleton] at *
    omega
  rw [T.wayL_step hcn hb hcb] at h2
  have h5 := congrArg (fun l : List Nat => l[1]?) h2
  have hq := T.step b c hb hcn hcb
  simp only [List.getElem?_drop, List.getElem?_cons_succ] at h5
  rw [T.wayL_head hq.1 hb, hd] at h5
  have e := Option.some.inj h5
  have e1 := T.symm' hcn hb
  have e2 := T.symm' hdn hb
  have e3 := hq.2.2
  rw [← e] at e3
  omega
theorem ints_get {w : World} {b o n cap : Nat} {l : List Nat} (h : Ints w (.slice (some ⟨b, o, none⟩) n cap) (upL l)) {j c : Nat} (hc : l[j]? = some c) : w.cell? ⟨b, o + j, none⟩ = some (.int .i64 (c : Int)) := by
  obtain ⟨hj, e⟩ := List.getElem?_eq_some_iff.1 hc
  obtain ⟨_, a, cap', b', o', hv, ha, hcell⟩ := h
  simp only [Value.slice.injEq] at hv
  obtain ⟨rfl, _, _⟩ := hv
  have hul := upL_length l
  have := ha.resolve_left (by rw [hul]; omega)
  simp at this
  obtain ⟨rfl, rfl⟩ := this
  rw [hcell j (by rw [hul]; exact hj), gI_upL hj, e]
def FarRelR (w1 : World) (far : Nat → Nat → Int) (a : Nat) (WL : List Nat) (iv nv : Value) (wr : World) : Prop := ∃ (j c : Nat), WL[j]? = some c ∧ iv = .int .i64 ((j : Int) + 1) ∧ nv = .int .i64 (far a c) ∧ Below w1.heap.size w1 wr
set_option maxRecDepth 100000 in
set_option maxHeartbeats 4000000 in
theorem far_r (w : World) (m : Value) (L : List Int) (N : List Lane) (a b : Nat) (far : Nat → Nat → Int) (next : Nat → Nat → Nat) (hm : Mkt w m L N) (h0 : checkCode L N = 0) (hR : AllRooted L.length N far next) (ha : a < L.length) (hb : b < L.length) :
    Calls Try.prog 82 #[m, .int .i64 (a : Int), .int .i64 (b : Int)] w (Ret w (.int .i64 (far a b))) := by
  have HM : Hid (∀ w', Below w.heap.size w w' → Mkt w' m L N) := Lib.hid (fun w' hb => hm.below hb)
  have T := tree_of (valid_of h0).lanes (valid_of h0).good hR
  obtain ⟨la, lc, na, nc, rfl, hl, hN⟩ := hm.shape
  have HT := Lib.hid T
  have HV := Lib.hid (valid_of h0)
  obtain ⟨WL, hWL⟩ : ∃ l, l = wayL far next a b := ⟨_, rfl⟩
  have hne : 1 ≤ WL.length := by rw [hWL]; exact List.length_pos_iff.2 (T.wayL_ne ha hb)
  have hlen : WL.length ≤ L.length := by rw [hWL]; exact T.way_length ha hb
  have hhead : WL[0]? = some a := by rw [hWL]; exact T.wayL_head ha hb
  have hlast : WL[WL.length - 1]? = some b := by rw [hWL]; exact T.way_last ha hb
  have K81 : Hid (∀ w' bv, Below w.heap.size w w' → Ints w' bv (upL [a]) → Calls Try.prog 81 #[.agg #[.slice la L.length lc, .slice na N.length nc], bv, .int .i64 (b : Int)] w' fun e w'' => Below w'.heap.size w' w'' ∧ ∃ g o cap k, e = .returned (.tuple #[.slice (some ⟨g, o, none⟩) (k + 1) cap, .bool true]) ∧ WL.length = k + 1 ∧ Ints w'' (.slice (some ⟨g, o, none⟩) (k + 1) cap) (upL WL)) := Lib.hid (fun w' bv hb' hi => by
    have e1 : upL [a] = upL (wayL far next a a) := by rw [wayL_self]
    rw [e1] at hi
    refine (way_r L N far next h0 hR a b ha hb L.length w' _ bv a (HM.out w' hb') ha hi (by rw [wayL_self]; simp; omega)).mono fun e w'' => ?_
    rintro ⟨h1, h2 | h2⟩
    · obtain ⟨_, r, rfl, hr⟩ := h2
      rw [← hWL] at hr
      have hr' := hr
      obtain ⟨_, ra, rc, rb, ro, rfl, hra, _⟩ := hr'
      obtain rfl := hra.resolve_left (by rw [upL_length]; omega)
      have e2 : (upL WL).length = WL.length - 1 + 1 := by rw [upL_length]; omega
      rw [e2] at hr ⊢
      exact ⟨h1, _, _, _, WL.length - 1, rfl, by omega, hr⟩
    · exact absurd (List.mem_of_getElem? (T.wayL_head ha hb)) h2.1)
  have HWL := Lib.hid hWL
  have HE := Lib.hid (And.intro hhead hlast)
  have h8 := HV.out.le
  have HL : Hid (∀ x y : Nat, laneF N (x : Int) (y : Int) = lenK N N.length x y) := Lib.hid (fun x y => laneF_len HV.out.lanes (by have := HV.out.pos; omega) HV.out.good hR x y)
  clear hm hl hN T hWL hhead hlast h0 hR
  go_enter Try.func82, Try.ntmps82
  go_wp2_with (first | (go_at_call 81; refine (K81.out _ _ (by exact Below.two _ _ _) (by exact (by
      have h := ints_new (w.alloc (.cells #[.slice la L.length lc, .slice na N.length nc] 28)) a 3
      first | exact h | (simp only [World.size_alloc] at h; exact h)))).mono ?_; rintro e w1 ⟨hb1, g, o, cap, k1, rfl, hk1, hi1⟩))
  obtain ⟨W1, hW1⟩ : ∃ W1, W1 = w.alloc (.cells #[.slice la L.length lc, .slice na N.length nc] 28) := ⟨_, rfl⟩
  have HB := Lib.hid (Below.one w (.cells #[.slice la L.length lc, .slice na N.length nc] 28))
  have hb2 : Below (w.alloc (.cells #[.slice la L.length lc, .slice na N.length nc] 28)).heap.size (w.alloc (.cells #[.slice la L.length lc, .slice na N.length nc] 28)) w1 := (Below.one _ _).trans (hb1.mono (new_size _ _))
  have c0 : w1.cell? ⟨w.heap.size, 0, none⟩ = some (.slice la L.length lc) := Below.cellOf hb2 (by simp)
  have c1 : w1.cell? ⟨w.heap.size, 1, none⟩ = some (.slice na N.length nc) := Below.cellOf hb2 (by simp)
  have HBW := Lib.hid (HB.out.trans (hb2.mono HB.out.size))
  have HC := Lib.hid (And.intro c0 c1)
  have HI := Lib.hid hi1
  clear hb1 hb2 hW1 c0 c1 hi1
  go_loopw [10, 9] (FarRelR w1 far a WL) (fun i _ _ => WL.length - (intOf i).toNat)
  case atStart => exact ⟨0, a, HE.out.1, rfl, by rw [(HT.out.self a ha).2], Below.refl _ _⟩
  case round =>
    obtain ⟨j, c, hc, rfl, rfl, hbr⟩ := hrel
    have HCC := Lib.hid hc
    have HBR := Lib.hid hbr
    have hjl := (List.getElem?_eq_some_iff.1 hc).1
    have c0 := Below.cellOf hbr HC.out.1
    have c1 := Below.cellOf hbr HC.out.2
    have HIR := Lib.hid (HI.out.below hbr)
    clear hc hbr
    by_cases hlt : j + 1 < k1 + 1
    · obtain ⟨d, hd⟩ : ∃ d, WL[j + 1]? = some d := ⟨WL[j + 1]'(by omega), List.getElem?_eq_getElem (by omega)⟩
      have hcn : c < L.length := (HT.out.wayL_mem ha hb c (by rw [← HWL.out]; exact List.mem_of_getElem? HCC.out)).1
      have hdn : d < L.length := (HT.out.wayL_mem ha hb d (by rw [← HWL.out]; exact List.mem_of_getElem? hd)).1
      obtain ⟨ln, hln⟩ : ∃ ln, ln = lenK N N.length c d := ⟨_, rfl⟩
      have hstep := HT.out.way_len ha hb (by rw [← HWL.out]; exact HCC.out) (by rw [← HWL.out]; exact hd)
      rw [← hln] at hstep
      have HST := Lib.hid hstep
      have b1 := HT.out.nonneg a c ha hcn
      have b2 := HT.out.nonneg a d ha hdn
      have b3 : -72 ≤ ln ∧ ln ≤ 72 := by omega
      have p0 := Later.cell c0
      have p1 := Later.cell c1
      have p2 := Later.cell (ints_get HIR.out HCC.out)
      have p3 := Later.cell (ints_get HIR.out hd)
      have HBW2 := Lib.hid (HBW.out.trans (HBR.out.mono HBW.out.size))
      have K75 : Hid (∀ gw : HeldW (Later wr), Calls Try.prog 75 #[.agg #[.slice la L.length lc, .slice na N.length nc], .int .i64 (c : Int), .int .i64 (d : Int)] gw.w fun e w'' => e = .returned (.int .i64 ln) ∧ ∃ g' : HeldW (Later wr), w'' = g'.w) := Lib.hid (fun gw => by
        have h := lane_any gw.w _ L N (c : Int) (d : Int) ((HM.out _ HBW2.out).below gw.h)
        rw [HL.out, ← hln] at h
        exact Calls.later gw h)
      have e1 : (j : Int) + 1 - 1 = (j : Int) := by omega
      have i1 : (0 : Int) ≤ (j : Int) := by omega
      have i2 : (j : Int) < (k1 : Int) + 1 := by omega
      have i3 : (0 : Int) ≤ (j : Int) + 1 := by omega
      have i4 : (j : Int) + 1 < (k1 : Int) + 1 := by omega
      have HD := Lib.hid hd
      clear hstep hln c0 c1 hd b2
      go_wp2
      refine wp_region_class (Later wr) (by kernel_rfl) (by kernel_rfl) (below_drewN (Below.refl _ _) 1) ?_
      repeat (go_big_quiet_step ((first | (go_at_call 75; exact K75.out _))))
      refine wpQuiet_nil ?_
      intro wq hw'
      obtain ⟨⟨_, hq⟩, rfl⟩ := hw'
      go_wp2
      go_roundw
      case rel => exact ⟨j + 1, d, HD.out, by go_num, by rw [HST.out], HBR.out.trans (hq.mono HBR.out.size)⟩
      case measure => simp [intOf]; omega
    · have e : c = b := by
        have h1 := HE.out.2
        rw [show WL.length - 1 = j by omega, HCC.out] at h1
        exact Option.some.inj h1
      subst e
      have HBW2 := Lib.hid (HBW.out.trans (HBR.out.mono HBW.out.size))
      have hd : decide ((j : Int) + 1 < (k1 : Int) + 1) = false := decide_eq_false (by omega)
      have hd2 : ¬ (j : Int) < (k1 : Int) := by omega
      go_wp2
      go_ret
      exact ⟨rfl, HBW2.out⟩

/-! ### costs -/
def nearQ (far : Nat → Nat → Int) (c : Nat) (l : List Nat) : Nat → Int
  | 0 => far c (l.getD 0 0)
  | i + 1 => mn (nearQ far c l i) (far c (l.getD i 0))
theorem nearQ_take (far : Nat → Nat → Int) (c : Nat) (l : List Nat) (h : far c (l.getD 0 0) ≤ 72) : ∀ i, i + 1 ≤ l.length → nearQ far c l (i + 1) = nearL far c (l.take (i + 1)) := by
  intro i
  induction i with
  | zero =>
    intro hl
    cases l with
    | nil => simp at hl
    | cons x l =>
      have h' : far c x ≤ 72 := h
      simp only [nearQ, nearL, List.take_succ_cons, List.take_zero, List.foldl_cons, List.foldl_nil]
      show mn (far c x) (far c x) = mn 72 (far c x)
      unfold mn
      split <;> split <;> omega
  | succ i ih =>
    intro hl
    have e := ih (by omega)
    have hg : l.getD (i + 1) 0 = l[i + 1]'(by omega) := by simp [List.getD_eq_getElem?_getD, show i + 1 < l.length by omega]
    rw [List.take_add_one, List.getElem?_eq_getElem (by omega)]
    show mn (nearQ far c l (i + 1)) (far c (l.getD (i + 1) 0)) = _
    rw [e, hg]
    unfold nearL
    rw [List.foldl_append]
    rfl
theorem nearQ_all {far : Nat → Nat → Int} {c : Nat} {l : List Nat} (h : far c (l.getD 0 0) ≤ 72) (hl : 1 ≤ l.length) : nearQ far c l l.length = nearL far c l := by
  obtain ⟨i, hi⟩ : ∃ i, l.length = i + 1 := ⟨l.length - 1, by omega⟩
  have e := nearQ_take far c l h i (by omega)
  rw [← hi, List.take_length] at e
  exact e
theorem nearQ_bound {far : Nat → Nat → Int} {c : Nat} {l : List Nat} (h : ∀ i, i < l.length → 0 ≤ far c (l.getD i 0) ∧ far c (l.getD i 0) ≤ 72) (hl : 1 ≤ l.length) : ∀ i, i ≤ l.length → 0 ≤ nearQ far c l i ∧ nearQ far c l i ≤ 72 := by
  intro i
  induction i with
  | zero => intro _; exact h 0 (by omega)
  | succ i ih =>
    intro hi
    have h1 := ih (by omega)
    have h2 := h i (by omega)
    simp only [nearQ, mn]
    split <;> omega
theorem prod_bound {x y : Int} (hx : 0 ≤ x ∧ x ≤ 9) (hy : 0 ≤ y ∧ y ≤ 72) : 0 ≤ x * y ∧ x * y ≤ 648 := by
  refine ⟨Int.mul_nonneg hx.1 hy.1, ?_⟩
  calc x * y ≤ 9 * y := Int.mul_le_mul_of_nonneg_right hx.2 hy.1
    _ ≤ 648 := by omega
def CostRelR (w1 : World) (L : List Int) (far : Nat → Nat → Int) (l : List Nat) (iv nv : Value) (wr : World) : Prop := ∃ k : Nat, k ≤ L.length ∧ iv = .int .i64 (k : Int) ∧ nv = .int .i64 (sumF (fun c => gI L c * nearL far c l) k) ∧ Below w1.heap.size w1 wr
def NearRelR (w1 : World) (far : Nat → Nat → Int) (c : Nat) (l : List Nat) (iv nv : Value) (wr : World) : Prop := ∃ i : Nat, i ≤ l.length ∧ iv = .int .i64 (i : Int) ∧ nv = .int .i64 (nearQ far c l i) ∧ Below w1.heap.size w1 wr
set_option maxRecDepth 100000 in
set_option maxHeartbeats 4000000 in
theorem cost_r (w : World) (m tv : Value) (L : List Int) (N : List Lane) (l : List Nat) (far : Nat → Nat → Int) (next : Nat → Nat → Nat) (hm : Mkt w m L N) (h0 : checkCode L N = 0) (hR : AllRooted L.length N far next) (ht : Ints w tv (upL l)) (hl1 : 1 ≤ l.length) (hl : ∀ x, x ∈ l → x < L.length) :
    Calls Try.prog 68 #[m, tv] w (Ret w (.int .i64 (costL L far l))) := by
  have HM : Hid (∀ w', Below w.heap.size w w' → Mkt w' m L N) := Lib.hid (fun w' hb => hm.below hb)
  have T := tree_of (valid_of h0).lanes (valid_of h0).good hR
  obtain ⟨la, lc, na, nc, rfl, hlM, hN⟩ := hm.shape
  obtain ⟨_, xa, xc, xb, xo, hxe, hxa, hxc⟩ := hlM
  simp only [Value.slice.injEq] at hxe
  obtain ⟨rfl, _, rfl⟩ := hxe
  have ht' := ht
  obtain ⟨hbig, ta, tc, tb, tf, rfl, hta, _⟩ := ht'
  rw [upL_length] at hta hbig
  have hbig' : (l.length : Int) ≤ 1000000000000 := by omega
  obtain rfl := hta.resolve_left (by omega)
  have HTI := Lib.hid ht
  have HV := Lib.hid (valid_of h0)
  have hp := HV.out.pos
  obtain rfl := hxa.resolve_left (by omega)
  have h8 := HV.out.le
  have HXC : Hid (∀ k, k < L.length → w.cell? ⟨xb, xo + k, none⟩ = some (.int .i64 (gI L k))) := Lib.hid hxc
  have K82 : Hid (∀ w' x y, Below w.heap.size w w' → x < L.length → y < L.length → Calls Try.prog 82 #[.agg #[.slice (some ⟨xb, xo, none⟩) L.length lc, .slice na N.length nc], .int .i64 ((x : Nat) : Int), .int .i64 ((y : Nat) : Int)] w' (Ret w' (.int .i64 (far x y)))) := Lib.hid (fun w' x y hb hx hy => far_r w' _ L N x y far next (HM.out w' hb) h0 hR hx hy)
  have hgl : ∀ i, i < l.length → l.getD i 0 < L.length := fun i hi => by
    rw [List.getD_eq_getElem?_getD, List.getElem?_eq_getElem hi]
    exact hl _ (List.getElem_mem hi)
  have HGL := Lib.hid hgl
  have HNB : Hid (∀ c, c < L.length → ∀ i, i ≤ l.length → 0 ≤ nearQ far c l i ∧ nearQ far c l i ≤ 72) := Lib.hid (fun c hc i hi => nearQ_bound (fun i hi => T.nonneg c _ hc (hgl i hi)) hl1 i hi)
  have HNA : Hid (∀ c, c < L.length → nearQ far c l l.length = nearL far c l) := Lib.hid (fun c hc => nearQ_all (T.nonneg c _ hc (hgl 0 (by omega))).2 hl1)
  have hlen : (upL l).length = l.length := upL_length l
  rw [hlen] at HTI ⊢
  clear hm hN T h0 hR ht hxa hxc hta hl hlen hgl
  go_enter Try.func68, Try.ntmps68
  go_wp2
  have HB := Lib.hid (Below.one w (.cells #[.slice (some ⟨xb, xo, none⟩) L.length lc, .slice na N.length nc] 28))
  obtain ⟨W1, hW1⟩ : ∃ W1, W1 = w.alloc (.cells #[.slice (some ⟨xb, xo, none⟩) L.length lc, .slice na N.length nc] 28) := ⟨_, rfl⟩
  have c0 : W1.cell? ⟨w.heap.size, 0, none⟩ = some (.slice (some ⟨xb, xo, none⟩) L.length lc) := by rw [hW1]; simp
  have c1 : W1.cell? ⟨w.heap.size, 1, none⟩ = some (.slice na N.length nc) := by rw [hW1]; simp
  rw [← hW1] at HB ⊢
  have HC := Lib.hid (And.intro c0 c1)
  clear hW1 c0 c1
  go_loopw [6, 5, 7, 8] (fun a b _ _ => CostRelR W1 L far l a b) (fun i _ _ _ _ => L.length - (intOf i).toNat)
  case atStart => exact ⟨0, Nat.zero_le _, rfl, rfl, Below.refl _ _⟩
  case round =>
    obtain ⟨k, hk, rfl, rfl, hb⟩ := hrel
    have Hb := Lib.hid hb
    have c0 := Below.cellOf hb HC.out.1
    have c1 := Below.cellOf hb HC.out.2
    have HBW := Lib.hid (HB.out.trans (hb.mono HB.out.size))
    clear hb
    by_cases hlt : k < L.length
    · have hd : decide ((k : Int) < (L.length : Int)) = true := decide_eq_true (by omega)
      have HSB := sumF_bound' (fun c => gI L c * nearL far c l) 648 L.length (fun c hc => prod_bound (HV.out.loads c hc) (by rw [← HNA.out c hc]; exact HNB.out c hc _ (Nat.le_refl _))) k hk
      obtain ⟨S, hS⟩ : ∃ S, S = sumF (fun c => gI L c * nearL far c l) k := ⟨_, rfl⟩
      rw [← hS] at HSB ⊢
      have HS := Lib.hid hS
      have HTR := Lib.hid (HTI.out.below HBW.out)
      have q0 : wr.cell? ⟨tb, tf, none⟩ = some (.int .i64 ((l.getD 0 0 : Nat) : Int)) := ints_get (j := 0) HTR.out (by rw [List.getD_eq_getElem?_getD, List.getElem?_eq_getElem (by omega)]; rfl)
      have p0 := Later.cell c0
      have p1 := Later.cell c1
      have p2 := Later.cell q0
      obtain ⟨l0, hl0⟩ : ∃ l0, l0 = l.getD 0 0 := ⟨_, rfl⟩
      rw [← hl0] at p2
      have K5 : Hid (∀ gw : HeldW (Later wr), Calls Try.prog 82 #[.agg #[.slice (some ⟨xb, xo, none⟩) L.length lc, .slice na N.length nc], .int .i64 (k : Int), .int .i64 (l0 : Int)] gw.w fun e w'' => e = .returned (.int .i64 (nearQ far k l 0)) ∧ ∃ g' : HeldW (Later wr), w'' = g'.w) := Lib.hid (fun gw => by
        have h := K82.out gw.w k l0 (HBW.out.trans (gw.h.mono HBW.out.size)) hlt (by rw [hl0]; exact HGL.out 0 (by omega))
        rw [hl0] at h ⊢
        exact Calls.later gw h)
      have i0 : (0 : Int) < (l.length : Int) := by omega
      clear hS q0 hl0
      go_wp2
      refine wp_region_class (Later wr) (by kernel_rfl) (by kernel_rfl) (below_drewN (Below.refl _ _) 1) ?_
      repeat (go_big_quiet_step ((first | (go_at_call 82; exact K5.out _))))
      refine wpQuiet_nil ?_
      intro wq hw'
      obtain ⟨⟨_, hq⟩, rfl⟩ := hw'
      have HQ := Lib.hid (Hb.out.trans (hq.mono Hb.out.size))
      clear hq c0 c1 p0 p1 p2
      go_wp2
      go_loopw [8, 7] (NearRelR W1 far k l) (fun i _ _ => l.length - (intOf i).toNat)
      case atStart => exact ⟨0, Nat.zero_le _, rfl, rfl, HQ.out⟩
      case round =>
        obtain ⟨i, hi, rfl, rfl, hb2⟩ := hrel
        have Hb2 := Lib.hid hb2
        have c0 := Below.cellOf hb2 HC.out.1
        have c1 := Below.cellOf hb2 HC.out.2
        have HBW2 := Lib.hid (HB.out.trans (hb2.mono HB.out.size))
        clear hb2
        have hnb := HNB.out k hlt i hi
        by_cases hlt2 : i < l.length
        · have q1 : wr.cell? ⟨tb, tf + i, none⟩ = some (.int .i64 ((l.getD i 0 : Nat) : Int)) := ints_get (HTI.out.below HBW2.out) (by rw [List.getD_eq_getElem?_getD, List.getElem?_eq_getElem hlt2]; rfl)
          have p0 := Later.cell c0
          have p1 := Later.cell c1
          have p2 := Later.cell q1
          have hln := HGL.out i hlt2
          obtain ⟨li, hli⟩ : ∃ li, li = l.getD i 0 := ⟨_, rfl⟩
          rw [← hli] at p2 hln
          have HLI := Lib.hid hli
          have K9 : Hid (∀ gw : HeldW (Later wr), Calls Try.prog 82 #[.agg #[.slice (some ⟨xb, xo, none⟩) L.length lc, .slice na N.length nc], .int .i64 (k : Int), .int .i64 (li : Int)] gw.w fun e w'' => e = .returned (.int .i64 (far k li)) ∧ ∃ g' : HeldW (Later wr), w'' = g'.w) := Lib.hid (fun gw => Calls.later gw (K82.out gw.w k li (HBW2.out.trans (gw.h.mono HBW2.out.size)) hlt hln))
          have i1 : (0 : Int) ≤ (i : Int) := by omega
          have i2 : (i : Int) < (l.length : Int) := by omega
          obtain ⟨Q, hQ⟩ : ∃ Q, Q = nearQ far k l i := ⟨_, rfl⟩
          rw [← hQ] at hnb ⊢
          have HQQ := Lib.hid hQ
          clear hli hQ c0 c1 q1
          have HLT : Hid (i + 1 ≤ l.length) := Lib.hid hlt2
          by_cases hcmp : far k li < Q
          · have HCM := Lib.hid hcmp
            go_wp2
            refine wp_region_class (Later wr) (by kernel_rfl) (by kernel_rfl) (below_drewN (Below.refl _ _) 1) ?_
            repeat (go_big_quiet_step ((first | (go_at_call 82; exact K9.out _))))
            refine wpQuiet_nil ?_
            intro wq hw'
            obtain ⟨⟨_, hq⟩, rfl⟩ := hw'
            go_wp2
            go_roundw
            case rel => exact ⟨i + 1, HLT.out, by go_num, by simp only [nearQ, mn]; rw [← HQQ.out, ← HLI.out, if_pos (by have := HCM.out; omega)], Hb2.out.trans (hq.mono Hb2.out.size)⟩
            case measure => have := HLT.out; simp [intOf]; omega
          · have HCM := Lib.hid hcmp
            go_wp2
            refine wp_region_class (Later wr) (by kernel_rfl) (by kernel_rfl) (below_drewN (Below.refl _ _) 1) ?_
            repeat (go_big_quiet_step ((first | (go_at_call 82; exact K9.out _))))
            refine wpQuiet_nil ?_
            intro wq hw'
            obtain ⟨⟨_, hq⟩, rfl⟩ := hw'
            go_wp2
            go_roundw
            case rel => exact ⟨i + 1, HLT.out, by go_num, by simp only [nearQ, mn]; rw [← HQQ.out, ← HLI.out, if_neg (by have := HCM.out; omega)], Hb2.out.trans (hq.mono Hb2.out.size)⟩
            case measure => have := HLT.out; simp [intOf]; omega
        · obtain rfl : i = l.length := by omega
          have hcell := Below.cellOf HBW2.out (HXC.out k hlt)
          rw [HNA.out k hlt] at hnb ⊢
          have hpb := prod_bound (HV.out.loads k hlt) hnb
          obtain ⟨V, hV⟩ : ∃ V, V = nearL far k l := ⟨_, rfl⟩
          rw [← hV] at hnb hpb ⊢
          have HVV := Lib.hid hV
          clear hV
          go_wp2
          go_roundw
          case rel => exact ⟨k + 1, by omega, by go_num, by simp only [sumF]; rw [HS.out, HVV.out], Hb2.out⟩
          case measure => simp [intOf]; omega
    · obtain rfl : k = L.length := by omega
      go_wp2
      go_ret
      exact ⟨rfl, HBW.out⟩
end Go.Proofs.Ytkhkgmelicdpkaa
