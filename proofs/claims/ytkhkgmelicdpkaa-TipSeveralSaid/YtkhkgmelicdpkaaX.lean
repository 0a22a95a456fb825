/- The law's own helpers: market; an append as a step of a region that draws. -/
import Derived.Test.YtkhkgmelicdpkaaW
import Derived.Deep.RegionLaw
set_option linter.unusedVariables false
set_option linter.unusedSimpArgs false
namespace Go.Proofs.Ytkhkgmelicdpkaa
open Go.RowKit

theorem step_append_mine {P : Program} {ops : Array Oper} {o : Oper} {a : Act} {w : World} {K : Act → World → Prop} {Q : Exit → Act → World → Prop} {E : Prop} (hgd : o.guard = none) (s x : Operand) (t tx : TypeId)
    (ho : o.op = .call { callee := .builtin .append, args := #[s, x], argTypes := #[t, tx] })
    (base size bytes : Nat) (e : TypeId) (i : TypeInfo) (z : Value) (ht : P.underlying t = some (.slice e)) (hi : P.info? e = some i) (hz : i.zero = some z) (hsize : i.size = size) (hby : i.bytes = bytes) (hzs : z.cells.size = size)
    (v : Value) (n : Nat) (xs : List Value) (hs : a.eval s = v) (hm : Mine w base size v n xs) (xv : Value) (hx : a.eval x = xv) (m : Nat) (news : List Value) (hsrc : Src P size tx xv m news w) (hm0 : 0 < m)
    (h63 : n + m ≤ maxLen) (hbytes : (n + m) * bytes ≤ 140737488355328) (hbase : base ≤ w.heap.size)
    (h : ∀ g off cap w', Mine w' base size (.slice (some ⟨g, off, none⟩) (n + m) cap) (n + m) (xs ++ news) → w.grownBy w' v.ownBlock → K (a.put o.dst (.slice (some ⟨g, off, none⟩) (n + m) cap)) w') :
    if Region.wanted o (yielded ops a.tmps) = true then Oper.wp P o a w K Q else E := by
  have hw : Region.wanted o (yielded ops a.tmps) = true := by simp [Region.wanted, hgd]
  rw [if_pos hw]
  refine wp_append_mine s x t tx ho base size bytes e i z ht hi hz hsize hby hzs v n xs hs hm xv hx m news hsrc h63 hbytes hbase fun v' w' h1 h2 h3 => ?_
  rcases h1.2 with ⟨_, h0⟩ | ⟨g, off, cap, rfl, _⟩
  · omega
  · exact h g off cap w' h1 h2

theorem Try.underlying23' : Try.prog.underlying 23 = some (.slice 58) := by kernel_rfl
theorem Try.info58' : (Try.prog.info? 58).map (fun i => (i.zero, i.size, i.bytes)) = some (some (.agg #[.int .i64 0, .int .i64 0, .int .i64 0]), 3, 24) := by kernel_rfl

/-- The cells of lanes. -/
def laneVals : List Lane → List Value
  | [] => []
  | l :: N => .int .i64 l.1 :: .int .i64 l.2.1 :: .int .i64 l.2.2 :: laneVals N
theorem laneVals_length : ∀ N, (laneVals N).length = N.length * 3 := by
  intro N
  induction N with
  | nil => rfl
  | cons l N ih => simp only [laneVals, List.length_cons, ih]; omega
theorem laneVals_snoc : ∀ N l, laneVals (N ++ [l]) = laneVals N ++ [.int .i64 l.1, .int .i64 l.2.1, .int .i64 l.2.2] := by
  intro N l
  induction N with
  | nil => rfl
  | cons x N ih => simp only [List.cons_append, laneVals, ih]
theorem laneVals_at : ∀ (N : List Lane) (i : Nat), i < N.length → (laneVals N)[i * 3]? = some (.int .i64 (getT N i).1) ∧ (laneVals N)[i * 3 + 1]? = some (.int .i64 (getT N i).2.1) ∧ (laneVals N)[i * 3 + 2]? = some (.int .i64 (getT N i).2.2) := by
  intro N
  induction N with
  | nil => intro i h; simp at h
  | cons l N ih =>
    intro i h
    cases i with
    | zero => simp [laneVals, getT]
    | succ i =>
      have := ih i (by simpa using h)
      rw [show (i + 1) * 3 = i * 3 + 3 by omega]
      simp only [laneVals]
      have e : getT (l :: N) (i + 1) = getT N i := by simp [getT]
      rw [e]
      exact this
theorem Mine.lanes {w : World} {base n : Nat} {v : Value} {N : List Lane} (h : Mine w base 3 v n (laneVals N)) (hl : N.length ≤ 1000000000000) : Lanes w v N := by
  have hn : N.length = n := by have := h.1; rw [laneVals_length] at this; omega
  rcases h.2 with ⟨rfl, h0⟩ | ⟨g, o, cap, rfl, h1, h2, h3, h4, h5, h6⟩
  · obtain rfl : N = [] := List.eq_nil_of_length_eq_zero (by omega)
    exact ⟨by simp, none, 0, 0, 0, rfl, .inl rfl, fun i hi => by simp at hi⟩
  · refine ⟨hl, some ⟨g, o, none⟩, cap, g, o, by rw [hn], .inr rfl, fun i hi => ?_⟩
    obtain ⟨q1, q2, q3⟩ := laneVals_at N i hi
    refine ⟨(h5 _ (by omega)).trans q1, ?_, ?_⟩
    · rw [show o + i * 3 + 1 = o + (i * 3 + 1) by omega]
      exact (h5 _ (by omega)).trans q2
    · rw [show o + i * 3 + 2 = o + (i * 3 + 2) by omega]
      exact (h5 _ (by omega)).trans q3
/-- The lanes of a list of numbers. -/
def lanesOf (l : List Int) (k : Nat) : List Lane := (List.range k).map fun i => (gI l (i * 3), gI l (i * 3 + 1), gI l (i * 3 + 2))
theorem lanesOf_length (l : List Int) (k : Nat) : (lanesOf l k).length = k := by simp [lanesOf]
theorem lanesOf_succ (l : List Int) (k : Nat) : lanesOf l (k + 1) = lanesOf l k ++ [(gI l (k * 3), gI l (k * 3 + 1), gI l (k * 3 + 2))] := by
  simp only [lanesOf, List.range_succ, List.map_append, List.map_cons, List.map_nil]

/-- append(lanes, x) as a step of a region that draws. -/
theorem step_append_lane {ops : Array Oper} {o : Oper} {a : Act} {w : World} {K : Act → World → Prop} {Q : Exit → Act → World → Prop} {E : Prop} (base : Nat) (hgd : o.guard = none) (s x : Operand)
    (ho : o.op = .call { callee := .builtin .append, args := #[s, x], argTypes := #[23, 23] })
    (v : Value) (N : List Lane) (hs : a.eval s = v) (hm : Mine w base 3 v N.length (laneVals N)) (b c : Nat) (hx : a.eval x = .slice (some ⟨b, 0, none⟩) 1 c) (q : Lane)
    (hc0 : w.cell? ⟨b, 0, none⟩ = some (.int .i64 q.1)) (hc1 : w.cell? ⟨b, 1, none⟩ = some (.int .i64 q.2.1)) (hc2 : w.cell? ⟨b, 2, none⟩ = some (.int .i64 q.2.2))
    (h63 : N.length ≤ 1000000) (hbase : base ≤ w.heap.size)
    (h : ∀ g off cap w', Mine w' base 3 (.slice (some ⟨g, off, none⟩) (N.length + 1) cap) (N.length + 1) (laneVals (N ++ [q])) → w.grownBy w' v.ownBlock → K (a.put o.dst (.slice (some ⟨g, off, none⟩) (N.length + 1) cap)) w') :
    if Region.wanted o (yielded ops a.tmps) = true then Oper.wp Try.prog o a w K Q else E := by
  obtain ⟨i0, hi, hz0, hz1, hz2⟩ := info_parts Try.info58'
  refine step_append_mine hgd s x 23 23 ho base 3 24 58 i0 _ Try.underlying23' hi hz0 hz1 hz2 rfl v N.length (laneVals N) hs hm _ hx 1 [.int .i64 q.1, .int .i64 q.2.1, .int .i64 q.2.2] ?_ (by omega) ?_ ?_ hbase ?_
  · refine Src.ofSlice w Try.underlying23' ⟨b, 0, none⟩ 1 c _ rfl (fun j u hu => ?_) (by simp [Value.oneCell'])
    have hadd : (⟨b, 0, none⟩ : Addr).add j = ⟨b, j, none⟩ := by unfold Addr.add; split <;> simp_all
    rw [hadd]
    match j, hu with
    | 0, hu => simp at hu; subst hu; exact hc0
    | 1, hu => simp at hu; subst hu; exact hc1
    | 2, hu => simp at hu; subst hu; exact hc2
    | j + 3, hu => simp at hu
  · simp only [maxLen]; omega
  · omega
  · intro g off cap w' h1 h2
    rw [← laneVals_snoc] at h1
    exact h g off cap w' h1 h2

structure MarSt (w wr : World) (v1 lv : Value) : Prop where
  c0 : wr.cell? ⟨w.heap.size + 1, 0, none⟩ = some v1
  c1 : wr.cell? ⟨w.heap.size + 1, 1, none⟩ = some lv
  f1 : wr.frozen? ⟨w.heap.size + 1, 1, none⟩ = false
  s0 : wr.cell? ⟨w.heap.size, 0, none⟩ = some (.slice none 0 0)
  s1 : wr.cell? ⟨w.heap.size, 1, none⟩ = some (.slice none 0 0)
  g0 : wr.frozen? ⟨w.heap.size, 0, none⟩ = false
  g1 : wr.frozen? ⟨w.heap.size, 1, none⟩ = false
theorem MarSt.kept {w wr w' : World} {v1 lv : Value} (h : MarSt w wr v1 lv) (hb : ∀ k, k < w.heap.size + 2 → w'.heap[k]? = wr.heap[k]?) : MarSt w w' v1 lv := by
  have e0 := hb (w.heap.size) (by omega)
  have e1 := hb (w.heap.size + 1) (by omega)
  exact ⟨(World.cell?_of_block (a := ⟨w.heap.size + 1, 0, none⟩) e1).trans h.c0, (World.cell?_of_block (a := ⟨w.heap.size + 1, 1, none⟩) e1).trans h.c1, (World.frozen?_of_block (a := ⟨w.heap.size + 1, 1, none⟩) e1).trans h.f1,
    (World.cell?_of_block (a := ⟨w.heap.size, 0, none⟩) e0).trans h.s0, (World.cell?_of_block (a := ⟨w.heap.size, 1, none⟩) e0).trans h.s1,
    (World.frozen?_of_block (a := ⟨w.heap.size, 0, none⟩) e0).trans h.g0, (World.frozen?_of_block (a := ⟨w.heap.size, 1, none⟩) e0).trans h.g1⟩
theorem MarSt.set {w wr : World} {v1 lv v : Value} (h : MarSt w wr v1 lv) : MarSt w (wr.setCell ⟨w.heap.size + 1, 1, none⟩ v) v1 v := by
  have e0 : (wr.setCell ⟨w.heap.size + 1, 1, none⟩ v).heap[w.heap.size]? = wr.heap[w.heap.size]? := Below.heap_setCell _ _ _ _ (by show w.heap.size ≠ w.heap.size + 1; omega)
  exact ⟨by rw [cell_ne (by omega)]; exact h.c0, cell_eq h.c1, by rw [World.frozen?_setCell]; exact h.f1,
    (World.cell?_of_block (a := ⟨w.heap.size, 0, none⟩) e0).trans h.s0, (World.cell?_of_block (a := ⟨w.heap.size, 1, none⟩) e0).trans h.s1,
    by rw [World.frozen?_setCell]; exact h.g0, by rw [World.frozen?_setCell]; exact h.g1⟩
theorem MarSt.size {w wr : World} {v1 lv : Value} (h : MarSt w wr v1 lv) : w.heap.size + 2 ≤ wr.heap.size := by
  have : w.heap.size + 1 < wr.heap.size := World.block_lt_of_cell? wr _ h.c1
  omega
theorem MarSt.app {w wr W2 w' : World} {v1 lv : Value} (h : MarSt w wr v1 lv) (hB : Below wr.heap.size wr W2) (hg : W2.grownBy w' lv.ownBlock) (hown : ∀ g, lv.ownBlock = some g → w.heap.size + 2 ≤ g) : MarSt w w' v1 lv := by
  have hs := h.size
  refine h.kept fun k hk => ?_
  rw [hg.block k (by have := hB.size; omega) (fun e => by have := hown k e.symm; omega)]
  exact hB.block k (by omega)
theorem new_cell3 (w : World) (a b c : Value) (t : TypeId) : (w.alloc (.cells #[a, b, c] t)).cell? ⟨w.heap.size, 0, none⟩ = some a ∧ (w.alloc (.cells #[a, b, c] t)).cell? ⟨w.heap.size, 1, none⟩ = some b ∧ (w.alloc (.cells #[a, b, c] t)).cell? ⟨w.heap.size, 2, none⟩ = some c := by
  refine ⟨?_, ?_, ?_⟩ <;> simp
theorem mar_below {w wr W2 w' : World} {v1 lv : Value} (hw : Below w.heap.size w wr) (h : MarSt w wr v1 lv) (hB : Below wr.heap.size wr W2) (hg : W2.grownBy w' lv.ownBlock) (hown : ∀ g, lv.ownBlock = some g → w.heap.size + 2 ≤ g) : Below w.heap.size w w' :=
  (hw.trans (hB.mono hw.size)).grown hg (Nat.le_trans hw.size hB.size) (fun g hg => by have := hown g hg; omega)
theorem mar_mine {w w' : World} {v u : Value} {l : List Int} {k j : Nat} (hj : j = k * 3) (h : Mine w' (w.heap.size + 2) 3 v ((lanesOf l k).length + 1) (laneVals (lanesOf l k ++ [(gI l j, gI l (j + 1), gI l (j + 2))]))) : Mine (w'.setCell ⟨w.heap.size + 1, 1, none⟩ u) (w.heap.size + 2) 3 v (k + 1) (laneVals (lanesOf l (k + 1))) := by
  subst hj
  rw [lanesOf_length, ← lanesOf_succ] at h
  refine h.setCell (fun e => ?_) u
  have := (h.lt e).1
  simp at this
theorem mar_set {w w' : World} {v1 lv u : Value} (h : MarSt w w' v1 lv) (hb : Below w.heap.size w w') : Below w.heap.size w (w'.setCell ⟨w.heap.size + 1, 1, none⟩ u) :=
  hb.trans ((Stored.mk' (Below.refl _ w') (by have := h.size; omega)).below (by omega) hb.size)
def MarRel (w : World) (v1 : Value) (l : List Int) (iv : Value) (wr : World) : Prop :=
  ∃ k j lv, j = k * 3 ∧ j ≤ l.length ∧ iv = .int .i64 (j : Int) ∧ MarSt w wr v1 lv ∧ Mine wr (w.heap.size + 2) 3 lv k (laneVals (lanesOf l k)) ∧ Below w.heap.size w wr
set_option maxRecDepth 100000 in
set_option maxHeartbeats 4000000 in
theorem market_any (w : World) (v1 v2 : Value) (L l : List Int) (h1 : Ints w v1 L) (h2 : Ints w v2 l) (hl : l.length ≤ 1000) :
    Calls Try.prog 56 #[v1, v2] w fun e w' => ∃ m, e = .returned m ∧ Mkt w' m L (lanesOf l (l.length / 3)) ∧ Below w.heap.size w w' := by
  have H1 := Lib.hid h1
  obtain ⟨hx12, xa, xc, xb, xo, rfl, hxa, hxc⟩ := h1
  obtain ⟨hy12, a, c, b, o, rfl, ha, hc⟩ := h2
  have HC := Lib.hid hc
  clear hc hxc hxa
  go_enter Try.func56, Try.ntmps56
  go_wp2
  go_loopw [6] (MarRel w (.slice xa L.length xc) l) (fun i _ => l.length - (intOf i).toNat)
  case atStart =>
    refine ⟨0, 0, .slice none 0 0, rfl, by omega, rfl, ?_, Mine.nil _ _ _, ?_⟩
    · constructor <;> simp
    · exact ((Below.refl _ w).alloc (Nat.le_refl _) _).alloc (by simp) _
  case round =>
    obtain ⟨k, j, lv, hj, hk, rfl, hst, hm, hb⟩ := hrel
    have HST := Lib.hid hst
    have HM := Lib.hid hm
    have HB := Lib.hid hb
    have hc0 := hst.c0
    have hc1 := hst.c1
    have hf1 := hst.f1
    clear hst hm hb
    by_cases hlt : j + 2 < l.length
    · obtain rfl : a = some ⟨b, o, none⟩ := ha.resolve_left (by omega)
      have hk0 := Below.cellOf HB.out (HC.out j (by omega))
      have hk1 := Below.cellOf HB.out (HC.out (j + 1) (by omega))
      have hk2 := Below.cellOf HB.out (HC.out (j + 2) (by omega))
      have i1 : (0 : Int) ≤ (j : Int) := by omega
      have i2 : (j : Int) + 2 < (l.length : Int) := by omega
      have i3 : (j : Int) + 1 < (l.length : Int) := by omega
      have i4 : (j : Int) < (l.length : Int) := by omega
      have i5 : (0 : Int) ≤ (j : Int) + 1 := by omega
      have i6 : (0 : Int) ≤ (j : Int) + 2 := by omega
      have w1 : IntKind.i64.wrap ((j : Int) + 1) = (j : Int) + 1 := by rw [IntKind.wrap_i64]; omega
      have w2 : IntKind.i64.wrap ((j : Int) + 2) = (j : Int) + 2 := by rw [IntKind.wrap_i64]; omega
      have t2 : ((j : Int) + 2).toNat = j + 2 := by omega
      have t1 : ((j : Int) + 1).toNat = j + 1 := by omega
      have hkb : k ≤ 1000000 := by omega
      have hsz1 : w.heap.size + 1 < wr.heap.size := by have := HST.out.size; omega
      have hsz2 : ¬ (w.heap.size + 1 = wr.heap.size) := by omega
      have hsz3 : ¬ (wr.heap.size = w.heap.size + 1) := by omega
      have HJ := Lib.hid hj
      clear hj
      go_wp2
      go_region_law (refine step_append_lane (w.heap.size + 2) rfl _ _ rfl lv (lanesOf l k) (by simp [Act.eval, Act.put]) (by rw [lanesOf_length]; first | exact HM.out.drew.alloc _ | exact (HM.out.alloc _).drew) wr.heap.size 1 (by simp [Act.eval, Act.put]) (gI l j, gI l (j + 1), gI l (j + 2)) (by exact (new_cell3 _ _ _ _ _).1) (by exact (new_cell3 _ _ _ _ _).2.1) (by exact (new_cell3 _ _ _ _ _).2.2) (by rw [lanesOf_length]; exact hkb) (by exact Nat.le_trans HST.out.size (new_size _ _)) ?_; intro g off cap w' hm' hg'; (have HM2 := Lib.hid hm'); (have HG2 := Lib.hid hg'); clear hm' hg'; (have HS2 := Lib.hid (HST.out.app ((Below.refl _ wr).drew.alloc (Nat.le_refl _) _) HG2.out (fun g hg => (HM.out.lt hg).1))); (have HB2 := Lib.hid (mar_below HB.out HST.out ((Below.refl _ wr).drew.alloc (Nat.le_refl _) _) HG2.out (fun g hg => (HM.out.lt hg).1))); (have q1 := HS2.out.c1); (have q2 := HS2.out.f1))
      all_goals
        clear q1 q2 HG2
        go_wp2
        go_roundw
        case rel => exact ⟨k + 1, j + 3, _, by rw [HJ.out]; omega, by omega, by go_num, HS2.out.set, mar_mine HJ.out HM2.out, mar_set HS2.out HB2.out⟩
        case measure => simp [intOf]; omega
    · have hf2 : ¬ ((j : Int) + 2 < (l.length : Int)) := by omega
      have w2 : IntKind.i64.wrap ((j : Int) + 2) = (j : Int) + 2 := by rw [IntKind.wrap_i64]; omega
      have hs0 := HST.out.s0
      have hs1 := HST.out.s1
      have hg0 := HST.out.g0
      have hg1 := HST.out.g1
      have HJ := Lib.hid hj
      clear hj
      obtain ⟨ya, yn, yc, rfl⟩ : ∃ ya yn yc, lv = .slice ya yn yc := by
        rcases HM.out.2 with ⟨rfl, _⟩ | ⟨g, o, cap, rfl, _⟩
        · exact ⟨_, _, _, rfl⟩
        · exact ⟨_, _, _, rfl⟩
      have hs2 : (wr.setCell ⟨w.heap.size, 0, none⟩ (.slice xa L.length xc)).cell? ⟨w.heap.size, 1, none⟩ = some (.slice none 0 0) := (cell_ne (by omega)).trans hs1
      have hg2 : (wr.setCell ⟨w.heap.size, 0, none⟩ (.slice xa L.length xc)).frozen? ⟨w.heap.size, 1, none⟩ = false := by rw [World.frozen?_setCell]; exact hg1
      go_wp2
      have hsz : w.heap.size < wr.heap.size := by have := HST.out.size; omega
      have B1 : Below w.heap.size w (wr.setCell ⟨w.heap.size, 0, none⟩ (.slice xa L.length xc)) := HB.out.trans ((Stored.mk' (Below.refl _ wr) hsz).below (Nat.le_refl _) HB.out.size)
      have B2 : Below w.heap.size w ((wr.setCell ⟨w.heap.size, 0, none⟩ (.slice xa L.length xc)).setCell ⟨w.heap.size, 1, none⟩ (.slice ya yn yc)) :=
        B1.trans ((Stored.mk' (Below.refl _ _) (by simp [World.setCell]; exact hsz)).below (Nat.le_refl _) B1.size)
      have e1 : ((wr.setCell ⟨w.heap.size, 0, none⟩ (.slice xa L.length xc)).setCell ⟨w.heap.size, 1, none⟩ (.slice ya yn yc)).cell? ⟨w.heap.size, 0, none⟩ = some (.slice xa L.length xc) := (cell_ne (by omega)).trans (cell_eq hs0)
      have e2 : ((wr.setCell ⟨w.heap.size, 0, none⟩ (.slice xa L.length xc)).setCell ⟨w.heap.size, 1, none⟩ (.slice ya yn yc)).cell? ⟨w.heap.size, 1, none⟩ = some (.slice ya yn yc) := cell_eq hs2
      have hne : ∀ g, Value.ownBlock (.slice ya yn yc) = some g → g ≠ w.heap.size := fun g hg => by have := (HM.out.lt hg).1; omega
      have M2 := (HM.out.setCell (a := ⟨w.heap.size, 0, none⟩) (fun e => hne _ e rfl) (.slice xa L.length xc)).setCell (a := ⟨w.heap.size, 1, none⟩) (fun e => hne _ e rfl) (.slice ya yn yc)
      have hkk : k = l.length / 3 := by have := HJ.out; omega
      have LN := M2.lanes (by rw [lanesOf_length]; omega)
      rw [hkk] at LN
      exact bodyPost_ret (v := .agg #[.slice xa L.length xc, .slice ya yn yc]) (by simp [results, Try.results56, go_sem, e1, e2]) rfl ⟨_, rfl, ⟨_, _, rfl, H1.out.below B2, LN⟩, B2⟩
end Go.Proofs.Ytkhkgmelicdpkaa
