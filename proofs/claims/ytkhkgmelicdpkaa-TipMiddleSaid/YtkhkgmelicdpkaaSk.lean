/- A sketch's market and distances, kept in variables of the law: loads and stores of whole arrays. -/
import Derived.Test.YtkhkgmelicdpkaaPl
set_option linter.unusedVariables false
set_option linter.unusedSimpArgs false
namespace Go.Proofs.Ytkhkgmelicdpkaa
open Go.RowKit

theorem Try.info52' : (Try.prog.info? 52).map (·.size) = some 25 := by kernel_rfl

/-- load of a whole block. -/
theorem list_load64 {ops : Array Oper} {rest : List Oper} {o : Oper} {a : Act} {w : World} {Q : Exit → Act → World → Prop} (hw : Region.wanted o (yielded ops a.tmps) = true) (x : Operand)
    (ho : o.op = .load 54 x) (g : Nat) (hx : a.eval x = .pointer (some ⟨g, 0, none⟩)) (fc : Array Value) (hh : w.heap[g]? = some (.cells fc 54 (0, 0))) (hs : fc.size = 64)
    (h : wpList Try.prog ops Q rest (a.put o.dst (.agg fc)) w) : wpList Try.prog ops Q (o :: rest) a w := by
  refine wpList_step fun K hK => ?_
  rw [if_pos hw]
  have hr : (Instr.loadAt 54 (.pointer (some ⟨g, 0, none⟩))).run Try.prog w = .ok (.agg fc) w := by
    simp only [Instr.loadAt, Instr.sureAddr, Sem.run_bind, Sem.run_pure, Result.andThen]
    exact run_loadVar_row _ _ 54 54 fc (0, 0) _ hh Try.underlying54' rfl (by rw [hs]; exact Try.info54')
  unfold Oper.wp execOp
  simp only [ho, hx, hr, Sem.run_bind, Sem.run_pure, Result.andThen_ok]
  exact hK _ _ h
theorem list_load25 {ops : Array Oper} {rest : List Oper} {o : Oper} {a : Act} {w : World} {Q : Exit → Act → World → Prop} (hw : Region.wanted o (yielded ops a.tmps) = true) (x : Operand)
    (ho : o.op = .load 52 x) (g : Nat) (hx : a.eval x = .pointer (some ⟨g, 0, none⟩)) (fc : Array Value) (hh : w.heap[g]? = some (.cells fc 52 (0, 0))) (hs : fc.size = 25)
    (h : wpList Try.prog ops Q rest (a.put o.dst (.agg fc)) w) : wpList Try.prog ops Q (o :: rest) a w := by
  refine wpList_step fun K hK => ?_
  rw [if_pos hw]
  have hr : (Instr.loadAt 52 (.pointer (some ⟨g, 0, none⟩))).run Try.prog w = .ok (.agg fc) w := by
    simp only [Instr.loadAt, Instr.sureAddr, Sem.run_bind, Sem.run_pure, Result.andThen]
    exact run_loadVar_row _ _ 52 52 fc (0, 0) _ hh Try.underlying52 rfl (by rw [hs]; exact Try.info52')
  unfold Oper.wp execOp
  simp only [ho, hx, hr, Sem.run_bind, Sem.run_pure, Result.andThen_ok]
  exact hK _ _ h
theorem list_store64 {ops : Array Oper} {rest : List Oper} {o : Oper} {a : Act} {w : World} {Q : Exit → Act → World → Prop} (hw : Region.wanted o (yielded ops a.tmps) = true) (x y : Operand)
    (ho : o.op = .store 54 x y) (g : Nat) (hx : a.eval x = .pointer (some ⟨g, 0, none⟩)) (zf fc : Array Value) (hy : a.eval y = .agg fc) (hh : w.heap[g]? = some (.cells zf 54 (0, 0))) (hs : fc.size = 64) (hz : zf.size = 64) (h1 : fc.all (·.oneCell') = true)
    (h : wpList Try.prog ops Q rest (a.put o.dst undef) (w.setRow g fc)) : wpList Try.prog ops Q (o :: rest) a w := by
  refine wpList_step fun K hK => ?_
  rw [if_pos hw]
  have hr : (Instr.storeAt 54 (.pointer (some ⟨g, 0, none⟩)) (.agg fc)).run Try.prog w = .ok () (w.setRow g fc) := by
    simp only [Instr.storeAt, Instr.sureAddr, Sem.run_bind, Sem.run_pure, Result.andThen]
    exact run_storeVar_row _ _ 54 54 zf fc hh (by rw [hs]; exact Try.info54') (by omega) h1
  unfold Oper.wp execOp
  simp only [ho, hx, hy, hr, Sem.run_bind, Sem.run_pure, Result.andThen_ok]
  exact hK _ _ h

/-- The law's own variables: the market at block g, the distances behind it. -/
structure SkSt (g : Nat) (lv nv : Value) (fc : Array Value) (L : List Int) (N : List Lane) (far : Nat → Nat → Int) (wr : World) : Prop where
  bm : wr.heap[g]? = some (.cells #[lv, nv] 25)
  bq : wr.heap[g + 1]? = some (.cells fc 54)
  mkt : Mkt wr (.agg #[lv, nv]) L N
  far_ : FarA fc far
theorem SkSt.below {g : Nat} {lv nv : Value} {fc : Array Value} {L : List Int} {N : List Lane} {far : Nat → Nat → Int} {wr w' : World} (h : SkSt g lv nv fc L N far wr) (hb : Below wr.heap.size wr w') : SkSt g lv nv fc L N far w' :=
  ⟨(hb.block g (Array.getElem?_eq_some_iff.1 h.bm).1).trans h.bm, (hb.block _ (Array.getElem?_eq_some_iff.1 h.bq).1).trans h.bq, h.mkt.below hb, h.far_⟩
theorem SkSt.c0 {g : Nat} {lv nv : Value} {fc : Array Value} {L : List Int} {N : List Lane} {far : Nat → Nat → Int} {wr : World} (h : SkSt g lv nv fc L N far wr) : wr.cell? ⟨g, 0, none⟩ = some lv := (cell_of h.bm 0).trans (by simp)
theorem SkSt.c1 {g : Nat} {lv nv : Value} {fc : Array Value} {L : List Int} {N : List Lane} {far : Nat → Nat → Int} {wr : World} (h : SkSt g lv nv fc L N far wr) : wr.cell? ⟨g, 1, none⟩ = some nv := (cell_of h.bm 1).trans (by simp)
theorem SkSt.fv {g : Nat} {lv nv : Value} {fc : Array Value} {L : List Int} {N : List Lane} {far : Nat → Nat → Int} {wr : World} (h : SkSt g lv nv fc L N far wr) : FarV (.agg fc) far := ⟨fc, rfl, h.far_.size, h.far_.at_⟩
/-- Behind the first statement of each law on a sketch. -/
theorem sk_stored {w1 : World} {lv nv : Value} {fc : Array Value} {L : List Int} {N : List Lane} {far : Nat → Nat → Int} (hm : Mkt w1 (.agg #[lv, nv]) L N) (hf : FarA fc far) :
    SkSt w1.heap.size lv nv fc L N far ((w1.alloc (.cells #[lv, nv] 25)).alloc (.cells fc 54)) ∧ Below w1.heap.size w1 ((w1.alloc (.cells #[lv, nv] 25)).alloc (.cells fc 54)) := by
  have hB : Below w1.heap.size w1 ((w1.alloc (.cells #[lv, nv] 25)).alloc (.cells fc 54)) := ((Below.refl w1.heap.size w1).alloc (Nat.le_refl _) _).alloc (new_size _ _) _
  refine ⟨⟨?_, ?_, hm.below hB, hf⟩, hB⟩
  · rw [Below.heap_alloc _ _ _ (by simp)]
    exact heap_alloc_new _ _
  · have := heap_alloc_new (w1.alloc (.cells #[lv, nv] 25)) (.cells fc 54)
    simpa using this
theorem list_sk {ops : Array Oper} {rest : List Oper} {o : Oper} {a : Act} {Q : Exit → Act → World → Prop} {w1 : World} {lv nv : Value} {fc zf : Array Value} {L : List Int} {N : List Lane} {far : Nat → Nat → Int} (hw : Region.wanted o (yielded ops a.tmps) = true) (x y : Operand)
    (ho : o.op = .store 54 x y) (hx : a.eval x = .pointer (some ⟨w1.heap.size + 1, 0, none⟩)) (hy : a.eval y = .agg fc) (hz : zf.size = 64) (hm : Mkt w1 (.agg #[lv, nv]) L N) (hf : FarA fc far)
    (h : ∀ W, SkSt w1.heap.size lv nv fc L N far W → Below w1.heap.size w1 W → wpList Try.prog ops Q rest (a.put o.dst undef) W) :
    wpList Try.prog ops Q (o :: rest) a ((w1.alloc (.cells #[lv, nv] 25)).alloc (.cells zf 54)) := by
  obtain ⟨h1, h2⟩ := sk_stored hm hf
  have hh : ((w1.alloc (.cells #[lv, nv] 25)).alloc (.cells zf 54)).heap[w1.heap.size + 1]? = some (.cells zf 54) := by
    have := heap_alloc_new (w1.alloc (.cells #[lv, nv] 25)) (.cells zf 54)
    simpa using this
  refine list_store64 hw x y ho (w1.heap.size + 1) hx zf fc hy hh hf.size hz hf.one ?_
  have e := World.setRow_alloc_new (w1.alloc (.cells #[lv, nv] 25)) zf fc 54
  have e1 : (w1.alloc (.cells #[lv, nv] 25)).heap.size = w1.heap.size + 1 := by simp
  rw [e1] at e
  rw [e]
  exact h _ h1 h2
/-- What a sketch makes is a tree. -/
theorem sk_tree {sa : Array Value} {co : Nat} {lo ba le : Nat → Nat} (hs : SkA sa co lo ba le) (r : Nat) (hr : r < 8) :
    checkCode (skL lo (r + 1)) (madeN (skB ba) (skD le) (r + 1)) = 0 ∧ AllRooted (skL lo (r + 1)).length (madeN (skB ba) (skD le) (r + 1)) (madeFar (skB ba) (skD le) (r + 1)) (madeNext (skB ba) (r + 1)) := by
  have h := made_code (bk := skB ba) (ln := skD le) (fun c hc => Nat.mod_lt _ hc) (fun c => by unfold skD; have := Nat.mod_lt (le c) (show 9 > 0 by omega); omega) (skL lo (r + 1)) (by rw [skL_length]; omega) (by rw [skL_length]; omega) (fun c hc => by
    rw [skL_length] at hc
    have e : gI (skL lo (r + 1)) c = ((lo c % 10 : Nat) : Int) := by simp [gI, skL, hc]
    rw [e]
    have := Nat.mod_lt (lo c) (show 10 > 0 by omega)
    omega)
  rw [skL_length] at h ⊢
  exact h
/-- The call returns a market without error, and its distances. -/
def MadeSk (w : World) (most : Nat) (e : Ending) (w' : World) : Prop :=
  ∃ a n c a' n' c' fc L N far next, e = .returned (.tuple #[.agg #[.slice a n c, .slice a' n' c'], .agg fc]) ∧ Mkt w' (.agg #[.slice a n c, .slice a' n' c']) L N ∧ FarA fc far ∧ checkCode L N = 0 ∧ AllRooted L.length N far next ∧ 1 ≤ L.length ∧ L.length ≤ most ∧ (∀ j, j < N.length → (getT N j).2.1 = ((j + 1 : Nat) : Int)) ∧ Below w.heap.size w w'
theorem made_sk (w : World) (sa : Array Value) (co : Nat) (lo ba le : Nat → Nat) (most : Nat) (hs : SkA sa co lo ba le) (h1 : 1 ≤ most) (h8 : most ≤ 8) : Calls Try.prog 37 #[.agg sa, .int .i64 (most : Int)] w (MadeSk w most) := by
  have hr : co % most < most := Nat.mod_lt co (by omega)
  refine (made_r w sa co lo ba le most (co % most) hs h1 h8 rfl).mono fun e w' => ?_
  rintro ⟨m, fv, rfl, hm, ⟨fc, rfl, hz, hf⟩, hb⟩
  obtain ⟨lv, nv, rfl, hl, hN⟩ := hm
  have hl' := hl
  have hN' := hN
  obtain ⟨_, a, c, b, o, rfl, _⟩ := hl
  obtain ⟨_, a', c', b', o', rfl, _⟩ := hN
  obtain ⟨t1, t2⟩ := sk_tree hs (co % most) (by omega)
  refine ⟨a, _, c, a', _, c', fc, _, _, _, _, rfl, ⟨_, _, rfl, hl', hN'⟩, ⟨hz, hf⟩, t1, t2, by rw [skL_length]; omega, by rw [skL_length]; omega, fun j hj => ?_, hb⟩
  rw [madeN_length] at hj
  rw [madeN_at _ j (by omega)]
end Go.Proofs.Ytkhkgmelicdpkaa
