/- The market that is made by numbers: what made returns. -/
import Derived.Test.YtkhkgmelicdpkaaX
import Derived.Test.YtkhkgmelicdpkaaL2
import Derived.Test.YtkhkgmelicdpkaaMk
import Derived.Deep.WholeRow
set_option linter.unusedVariables false
set_option linter.unusedSimpArgs false
namespace Go.Proofs.Ytkhkgmelicdpkaa
open Go.RowKit

theorem step_append_mine3 {P : Program} {ops : Array Oper} {o : Oper} {a : Act} {w : World} {K : Act → World → Prop} {Q : Exit → Act → World → Prop} {E : Prop} (hgd : o.guard = none) (s x : Operand) (t tx : TypeId)
    (ho : o.op = .call { callee := .builtin .append, args := #[s, x], argTypes := #[t, tx] })
    (base size bytes : Nat) (e : TypeId) (i : TypeInfo) (z : Value) (ht : P.underlying t = some (.slice e)) (hi : P.info? e = some i) (hz : i.zero = some z) (hsize : i.size = size) (hby : i.bytes = bytes) (hzs : z.cells.size = size)
    (v : Value) (n : Nat) (xs : List Value) (hs : a.eval s = v) (hm : Mine w base size v n xs) (xv : Value) (hx : a.eval x = xv) (m : Nat) (news : List Value) (hsrc : Src P size tx xv m news w) (hm0 : 0 < m)
    (h63 : n + m ≤ maxLen) (hbytes : (n + m) * bytes ≤ 140737488355328) (hbase : base ≤ w.heap.size)
    (h : ∀ g off cap w', Mine w' base size (.slice (some ⟨g, off, none⟩) (n + m) cap) (n + m) (xs ++ news) → w.grownBy w' v.ownBlock → (some g = v.ownBlock ∨ g = w.heap.size) → K (a.put o.dst (.slice (some ⟨g, off, none⟩) (n + m) cap)) w') :
    if Region.wanted o (yielded ops a.tmps) = true then Oper.wp P o a w K Q else E := by
  have hw : Region.wanted o (yielded ops a.tmps) = true := by simp [Region.wanted, hgd]
  rw [if_pos hw]
  refine wp_append_mine s x t tx ho base size bytes e i z ht hi hz hsize hby hzs v n xs hs hm xv hx m news hsrc h63 hbytes hbase fun v' w' h1 h2 h3 => ?_
  rcases h1.2 with ⟨_, h0⟩ | ⟨g, off, cap, rfl, _⟩
  · omega
  · exact h g off cap w' h1 h2 (h3.imp id (fun h => by simpa [Value.ownBlock] using h))
/-- append(numbers, x) as a step of a region that draws. -/
theorem step_append_int3 {ops : Array Oper} {o : Oper} {a : Act} {w : World} {K : Act → World → Prop} {Q : Exit → Act → World → Prop} {E : Prop} (base : Nat) (hgd : o.guard = none) (s x : Operand)
    (ho : o.op = .call { callee := .builtin .append, args := #[s, x], argTypes := #[22, 22] })
    (v : Value) (n : Nat) (xs : List Value) (hs : a.eval s = v) (hm : Mine w base 1 v n xs) (b c : Nat) (hx : a.eval x = .slice (some ⟨b, 0, none⟩) 1 c) (q : Int)
    (hc0 : w.cell? ⟨b, 0, none⟩ = some (.int .i64 q)) (h63 : n ≤ 1000000) (hbase : base ≤ w.heap.size)
    (h : ∀ g off cap w', Mine w' base 1 (.slice (some ⟨g, off, none⟩) (n + 1) cap) (n + 1) (xs ++ [.int .i64 q]) → w.grownBy w' v.ownBlock → (some g = v.ownBlock ∨ g = w.heap.size) → K (a.put o.dst (.slice (some ⟨g, off, none⟩) (n + 1) cap)) w') :
    if Region.wanted o (yielded ops a.tmps) = true then Oper.wp Try.prog o a w K Q else E := by
  obtain ⟨i0, hi, hz0, hz1, hz2⟩ := info_parts Try.info3'
  refine step_append_mine3 hgd s x 22 22 ho base 1 8 3 i0 _ Try.underlying22' hi hz0 hz1 hz2 rfl v n xs hs hm _ hx 1 [.int .i64 q] ?_ (by omega) ?_ ?_ hbase h
  · refine Src.ofSlice w Try.underlying22' ⟨b, 0, none⟩ 1 c _ rfl (fun j u hu => ?_) (by simp [Value.oneCell'])
    cases j with
    | zero =>
      simp at hu
      subst hu
      rw [Addr.add_lit]
      exact hc0
    | succ j => simp at hu
  · simp only [maxLen]; omega
  · omega
/-- append(lanes, x) as a step of a region that draws. -/
theorem lane_append3 {ops : Array Oper} {rest : List Oper} {o : Oper} {a : Act} {w : World} {Q : Exit → Act → World → Prop} (base : Nat) (hgd : o.guard = none) (s x : Operand)
    (ho : o.op = .call { callee := .builtin .append, args := #[s, x], argTypes := #[23, 23] })
    (v : Value) (n : Nat) (N : List Lane) (hn : N.length = n) (hs : a.eval s = v) (hm : Mine w base 3 v n (laneVals N)) (b c : Nat) (hx : a.eval x = .slice (some ⟨b, 0, none⟩) 1 c) (q : Lane)
    (hc0 : w.cell? ⟨b, 0, none⟩ = some (.int .i64 q.1)) (hc1 : w.cell? ⟨b, 1, none⟩ = some (.int .i64 q.2.1)) (hc2 : w.cell? ⟨b, 2, none⟩ = some (.int .i64 q.2.2))
    (h63 : n ≤ 1000000) (hbase : base ≤ w.heap.size)
    (h : ∀ g off cap w', Mine w' base 3 (.slice (some ⟨g, off, none⟩) (n + 1) cap) (n + 1) (laneVals (N ++ [q])) → w.grownBy w' v.ownBlock → (some g = v.ownBlock ∨ g = w.heap.size) → wpList Try.prog ops Q rest (a.put o.dst (.slice (some ⟨g, off, none⟩) (n + 1) cap)) w') : wpList Try.prog ops Q (o :: rest) a w := by
  subst hn
  obtain ⟨i0, hi, hz0, hz1, hz2⟩ := info_parts Try.info58'
  refine wpList_append_mine hgd s x 23 23 ho base 3 24 58 i0 _ Try.underlying23' hi hz0 hz1 hz2 rfl v N.length (laneVals N) hs hm _ hx 1 [.int .i64 q.1, .int .i64 q.2.1, .int .i64 q.2.2] ?_ ?_ ?_ hbase ?_
  · refine Src.ofSlice w Try.underlying23' ⟨b, 0, none⟩ 1 c _ rfl (fun j u hu => ?_) (by simp [Value.oneCell'])
    have hadd : (⟨b, 0, none⟩ : Addr).add j = ⟨b, j, none⟩ := by unfold Addr.add; split <;> simp_all
    rw [hadd]
    match j, hu with
    | 0, hu => simp at hu; subst hu; exact hc0
    | 1, hu => simp at hu; subst hu; exact hc1
    | 2, hu => simp at hu; subst hu; exact hc2
    | j + 3, hu => simp at hu
  · simp only [maxLen]; omega
  · omega
  · intro v' w' h1 h2 h3
    rw [← laneVals_snoc] at h1
    rcases h1.2 with ⟨_, h0⟩ | ⟨g, off, cap, rfl, _⟩
    · omega
    · exact h g off cap w' h1 h2 (h3.imp id (fun h => by simpa [Value.ownBlock] using h))

/-- A sketch by value. -/
structure SkA (sa : Array Value) (co : Nat) (lo ba le : Nat → Nat) : Prop where
  size : sa.size = 25
  c0 : sa[0]? = some (.int .u8 (co : Int))
  cl : ∀ i, i < 8 → sa[1 + i]? = some (.int .u8 (lo i : Int))
  cb : ∀ i, i < 8 → sa[9 + i]? = some (.int .u8 (ba i : Int))
  ce : ∀ i, i < 8 → sa[17 + i]? = some (.int .u8 (le i : Int))
  hco : co < 256
  hlo : ∀ i, lo i < 256
  hba : ∀ i, ba i < 256
  hle : ∀ i, le i < 256
def skL (lo : Nat → Nat) (n : Nat) : List Int := (List.range n).map fun c => ((lo c % 10 : Nat) : Int)
def skB (ba : Nat → Nat) (c : Nat) : Nat := ba c % c
def skD (le : Nat → Nat) (c : Nat) : Int := 1 + ((le c % 9 : Nat) : Int)
/-- Distances in a block. -/
structure FarA (fc : Array Value) (far : Nat → Nat → Int) : Prop where
  size : fc.size = 64
  at_ : ∀ x y, x < 8 → y < 8 → fc[x * 8 + y]? = some (.int .i64 (far x y))
theorem FarA.one {fc : Array Value} {far : Nat → Nat → Int} (h : FarA fc far) : fc.all (·.oneCell') = true := by
  rw [Array.all_eq_true]
  intro i hi
  have hs := h.size
  have e := h.at_ (i / 8) (i % 8) (by omega) (by omega)
  rw [show i / 8 * 8 + i % 8 = i by omega, Array.getElem?_eq_getElem hi] at e
  rw [Option.some.inj e]
  rfl
theorem FarA.set {fc : Array Value} {far : Nat → Nat → Int} (h : FarA fc far) {x y : Nat} (hx : x < 8) (hy : y < 8) (d : Int) : FarA (fc.setIfInBounds (x * 8 + y) (.int .i64 d)) (upd2 far x y d) := by
  refine ⟨by simp [h.size], fun a b ha hb => ?_⟩
  rw [Array.getElem?_setIfInBounds]
  have hs := h.size
  by_cases e : a = x ∧ b = y
  · obtain ⟨rfl, rfl⟩ := e
    rw [if_pos rfl, if_pos (by omega)]
    simp [upd2]
  · rw [if_neg (by omega), h.at_ a b ha hb]
    simp only [upd2]
    rw [if_neg e]
structure MadeSt (B : Nat) (sa zf : Array Value) (wr : World) (lv nv : Value) (fc : Array Value) : Prop where
  bs : wr.heap[B]? = some (.cells sa 52)
  br : wr.heap[B + 1]? = some (.cells #[.slice none 0 0, .slice none 0 0] 25)
  bf : wr.heap[B + 1 + 1]? = some (.cells zf 54)
  bm : wr.heap[B + 1 + 1 + 1]? = some (.cells #[lv, nv] 25)
  bq : wr.heap[B + 1 + 1 + 1 + 1]? = some (.cells fc 54)
theorem cell_of {w : World} {g : Nat} {cs : Array Value} {t : TypeId} {fr : Nat × Nat} (h : w.heap[g]? = some (.cells cs t fr)) (i : Nat) : w.cell? ⟨g, i, none⟩ = cs[i]? := by simp [World.cell?, h]
theorem free_of {w : World} {g : Nat} {cs : Array Value} {t : TypeId} (h : w.heap[g]? = some (.cells cs t (0, 0))) (i : Nat) : w.frozen? ⟨g, i, none⟩ = false := by simp [World.frozen?, h]
theorem block_set {w : World} {g i : Nat} {cs : Array Value} {t : TypeId} {fr : Nat × Nat} (h : w.heap[g]? = some (.cells cs t fr)) (v : Value) : (w.setCell ⟨g, i, none⟩ v).heap[g]? = some (.cells (cs.setIfInBounds i v) t fr) := by
  rw [setCell_eq_setRow w g i cs t fr v h]
  exact setRow_heap w g _ _ t _ h
theorem MadeSt.kept {B : Nat} {sa zf fc : Array Value} {wr w' : World} {lv nv : Value} (h : MadeSt B sa zf wr lv nv fc) (hb : ∀ k, k < B + 5 → w'.heap[k]? = wr.heap[k]?) : MadeSt B sa zf w' lv nv fc :=
  ⟨(hb _ (by omega)).trans h.bs, (hb _ (by omega)).trans h.br, (hb _ (by omega)).trans h.bf, (hb _ (by omega)).trans h.bm, (hb _ (by omega)).trans h.bq⟩
theorem MadeSt.setL {B : Nat} {sa zf fc : Array Value} {wr : World} {lv nv : Value} (h : MadeSt B sa zf wr lv nv fc) (u : Value) : MadeSt B sa zf (wr.setCell ⟨B + 1 + 1 + 1, 0, none⟩ u) u nv fc := by
  have hne : ∀ k, k ≠ B + 1 + 1 + 1 → (wr.setCell ⟨B + 1 + 1 + 1, 0, none⟩ u).heap[k]? = wr.heap[k]? := fun k hk => Below.heap_setCell _ _ _ _ (by show k ≠ B + 1 + 1 + 1; exact hk)
  exact ⟨(hne _ (by omega)).trans h.bs, (hne _ (by omega)).trans h.br, (hne _ (by omega)).trans h.bf, (block_set h.bm u).trans (by simp), (hne _ (by omega)).trans h.bq⟩
theorem MadeSt.setN {B : Nat} {sa zf fc : Array Value} {wr : World} {lv nv : Value} (h : MadeSt B sa zf wr lv nv fc) (u : Value) : MadeSt B sa zf (wr.setCell ⟨B + 1 + 1 + 1, 1, none⟩ u) lv u fc := by
  have hne : ∀ k, k ≠ B + 1 + 1 + 1 → (wr.setCell ⟨B + 1 + 1 + 1, 1, none⟩ u).heap[k]? = wr.heap[k]? := fun k hk => Below.heap_setCell _ _ _ _ (by show k ≠ B + 1 + 1 + 1; exact hk)
  exact ⟨(hne _ (by omega)).trans h.bs, (hne _ (by omega)).trans h.br, (hne _ (by omega)).trans h.bf, (block_set h.bm u).trans (by simp), (hne _ (by omega)).trans h.bq⟩
theorem MadeSt.setF {B : Nat} {sa zf fc : Array Value} {wr : World} {lv nv : Value} (h : MadeSt B sa zf wr lv nv fc) (i : Nat) (u : Value) : MadeSt B sa zf (wr.setCell ⟨B + 1 + 1 + 1 + 1, i, none⟩ u) lv nv (fc.setIfInBounds i u) := by
  have hne : ∀ k, k ≠ B + 1 + 1 + 1 + 1 → (wr.setCell ⟨B + 1 + 1 + 1 + 1, i, none⟩ u).heap[k]? = wr.heap[k]? := fun k hk => Below.heap_setCell _ _ _ _ (by show k ≠ B + 1 + 1 + 1 + 1; exact hk)
  exact ⟨(hne _ (by omega)).trans h.bs, (hne _ (by omega)).trans h.br, (hne _ (by omega)).trans h.bf, (hne _ (by omega)).trans h.bm, block_set h.bq u⟩

theorem MadeSt.app {B : Nat} {sa zf fc : Array Value} {wr W2 w' : World} {lv nv v : Value} (h : MadeSt B sa zf wr lv nv fc) (hB : Below wr.heap.size wr W2) (hg : W2.grownBy w' v.ownBlock) (hown : ∀ g, v.ownBlock = some g → B + 5 ≤ g) (hs : B + 5 ≤ wr.heap.size) : MadeSt B sa zf w' lv nv fc := by
  refine h.kept fun k hk => ?_
  rw [hg.block k (by have := hB.size; omega) (fun e => by have := hown k e.symm; omega)]
  exact hB.block k (by omega)
/-- Two owned slices in blocks of their own. -/
def Apart (lv nv : Value) : Prop := ∀ g, lv.ownBlock = some g → nv.ownBlock ≠ some g
def MadeRel (w : World) (sa : Array Value) (lo ba le : Nat → Nat) (n : Nat) (iv : Value) (wr : World) : Prop :=
  ∃ (k : Nat) (lv nv : Value) (fc zf : Array Value), k ≤ n ∧ iv = .int .i64 (k : Int) ∧ zf.size = 64 ∧ MadeSt w.heap.size sa zf wr lv nv fc ∧ FarA fc (madeFar (skB ba) (skD le) k) ∧
    Mine wr (w.heap.size + 5) 1 lv k ((skL lo k).map (Value.int .i64)) ∧ Mine wr (w.heap.size + 5) 3 nv (k - 1) (laneVals (madeN (skB ba) (skD le) k)) ∧ Apart lv nv ∧ Below w.heap.size w wr
def MadePost (w : World) (L : List Int) (N : List Lane) (far : Nat → Nat → Int) (e : Ending) (w' : World) : Prop := ∃ m fv, e = .returned (.tuple #[m, fv]) ∧ Mkt w' m L N ∧ FarV fv far ∧ Below w.heap.size w w'

theorem skL_succ (lo : Nat → Nat) (k : Nat) : skL lo (k + 1) = skL lo k ++ [((lo k % 10 : Nat) : Int)] := by
  simp only [skL, List.range_succ, List.map_append, List.map_cons, List.map_nil]
theorem skL_length (lo : Nat → Nat) (k : Nat) : (skL lo k).length = k := by simp [skL]
theorem made_start (w : World) (sa : Array Value) (lo ba le : Nat → Nat) (n : Nat) (t : Obj) (ht : t = .cells (Array.replicate 64 (.int .i64 0)) 54) :
    MadeRel w sa lo ba le n (.int .i64 0) (((((w.alloc (.cells sa 52)).alloc (.cells #[.slice none 0 0, .slice none 0 0] 25)).alloc t).alloc (.cells #[.slice none 0 0, .slice none 0 0] 25)).alloc t) := by
  subst ht
  refine ⟨0, .slice none 0 0, .slice none 0 0, Array.replicate 64 (.int .i64 0), Array.replicate 64 (.int .i64 0), Nat.zero_le _, rfl, by simp, ?_, ⟨by simp, fun x y hx hy => ?_⟩, Mine.nil _ _ _, Mine.nil _ _ _, fun g hg => by simp [Value.ownBlock] at hg, ?_⟩
  · refine ⟨?_, ?_, ?_, ?_, ?_⟩
    · rw [Below.heap_alloc _ _ _ (by simp <;> omega), Below.heap_alloc _ _ _ (by simp <;> omega), Below.heap_alloc _ _ _ (by simp <;> omega), Below.heap_alloc _ _ _ (by simp)]
      exact heap_alloc_new _ _
    · rw [Below.heap_alloc _ _ _ (by simp <;> omega), Below.heap_alloc _ _ _ (by simp <;> omega), Below.heap_alloc _ _ _ (by simp)]
      have := heap_alloc_new (w.alloc (.cells sa 52)) (.cells #[.slice none 0 0, .slice none 0 0] 25)
      simpa using this
    · rw [Below.heap_alloc _ _ _ (by simp <;> omega), Below.heap_alloc _ _ _ (by simp)]
      have := heap_alloc_new ((w.alloc (.cells sa 52)).alloc (.cells #[.slice none 0 0, .slice none 0 0] 25)) (.cells (Array.replicate 64 (.int .i64 0)) 54)
      simpa using this
    · rw [Below.heap_alloc _ _ _ (by simp)]
      have := heap_alloc_new (((w.alloc (.cells sa 52)).alloc (.cells #[.slice none 0 0, .slice none 0 0] 25)).alloc (.cells (Array.replicate 64 (.int .i64 0)) 54)) (.cells #[.slice none 0 0, .slice none 0 0] 25)
      simpa using this
    · have := heap_alloc_new ((((w.alloc (.cells sa 52)).alloc (.cells #[.slice none 0 0, .slice none 0 0] 25)).alloc (.cells (Array.replicate 64 (.int .i64 0)) 54)).alloc (.cells #[.slice none 0 0, .slice none 0 0] 25)) (.cells (Array.replicate 64 (.int .i64 0)) 54)
      simpa using this
  · rw [Array.getElem?_replicate, if_pos (by omega)]
    rfl
  · exact (((((Below.refl _ _).alloc (Nat.le_refl _) _).alloc (by simp) _).alloc (by simp <;> omega) _).alloc (by simp <;> omega) _).alloc (by simp <;> omega) _

/-- The load is appended. -/
def LDone (w : World) (sa zf fc : Array Value) (lo : Nat → Nat) (k n : Nat) (nv : Value) (M : List Lane) (wx : World) : Prop :=
  ∃ lv, MadeSt w.heap.size sa zf wx lv nv fc ∧ Mine wx (w.heap.size + 5) 1 lv k ((skL lo k).map (Value.int .i64)) ∧ Mine wx (w.heap.size + 5) 3 nv n (laneVals M) ∧ Apart lv nv ∧ Below w.heap.size w wx
theorem Mine.apart {w W2 w' : World} {base size n : Nat} {v nv : Value} {xs : List Value} (h : Mine w base size nv n xs) (hap : ∀ g, nv.ownBlock = some g → v.ownBlock ≠ some g) (hB : Below w.heap.size w W2) (hg : W2.grownBy w' v.ownBlock) : Mine w' base size nv n xs := by
  refine h.kept (Nat.le_trans hB.size hg.size) fun g e => ?_
  rw [hg.block g (Nat.lt_of_lt_of_le (h.lt e).2 hB.size) (fun e' => hap g e e'.symm)]
  exact hB.block g (h.lt e).2
theorem apart_new {w W2 : World} {base size n g off len cap : Nat} {v nv : Value} {xs : List Value} (h : Mine w base size nv n xs) (hap : ∀ g, nv.ownBlock = some g → v.ownBlock ≠ some g) (hB : Below w.heap.size w W2) (hgg : some g = v.ownBlock ∨ g = W2.heap.size) : nv.ownBlock ≠ (Value.slice (some ⟨g, off, none⟩) len cap).ownBlock := by
  intro e
  have e' : nv.ownBlock = some g := e
  rcases hgg with h1 | h1
  · exact hap g e' h1.symm
  · have := (h.lt e').2
    have := hB.size
    omega
theorem ldone {w wr W2 w' : World} {sa zf fc : Array Value} {lo : Nat → Nat} {k n g off cap d : Nat} {lv nv : Value} {M : List Lane} (hst : MadeSt w.heap.size sa zf wr lv nv fc) (hmL : Mine wr (w.heap.size + 5) 1 lv k ((skL lo k).map (Value.int .i64))) (hmN : Mine wr (w.heap.size + 5) 3 nv n (laneVals M)) (hap : Apart lv nv) (hb : Below w.heap.size w wr)
    (hsz : w.heap.size + 5 ≤ wr.heap.size) (hB : Below wr.heap.size wr W2) (hd : d = lo k % 10) (hm' : Mine w' (w.heap.size + 5) 1 (.slice (some ⟨g, off, none⟩) (k + 1) cap) (k + 1) ((skL lo k).map (Value.int .i64) ++ [.int .i64 (d : Int)])) (hg : W2.grownBy w' lv.ownBlock) (hgg : some g = lv.ownBlock ∨ g = W2.heap.size) :
    LDone w sa zf fc lo (k + 1) n nv M (w'.setCell ⟨w.heap.size + 1 + 1 + 1, 0, none⟩ (.slice (some ⟨g, off, none⟩) (k + 1) cap)) := by
  have hS := hst.app hB hg (fun g hg => (hmL.lt hg).1) hsz
  have hap' : ∀ g, nv.ownBlock = some g → lv.ownBlock ≠ some g := fun g e e' => hap g e' e
  have hmN' := hmN.apart hap' hB hg
  have hgl : w.heap.size + 5 ≤ g := (hm'.lt (g := g) rfl).1
  refine ⟨_, hS.setL _, ?_, hmN'.setCell (fun e => ?_) _, ?_, ?_⟩
  · have e : (skL lo (k + 1)).map (Value.int .i64) = (skL lo k).map (Value.int .i64) ++ [.int .i64 (d : Int)] := by rw [skL_succ, List.map_append, hd]; rfl
    rw [e]
    exact hm'.setCell (fun e => by simp [Value.ownBlock] at e; omega) _
  · have := (hmN.lt e).1
    simp at this
    omega
  · intro x e e'
    obtain rfl : g = x := by simpa [Value.ownBlock] using e
    exact apart_new (off := off) (len := k + 1) (cap := cap) hmN hap' hB hgg e'
  · have h1 : Below w.heap.size w w' := (hb.trans (hB.mono hb.size)).grown hg (Nat.le_trans hb.size hB.size) (fun g hg => by have := (hmL.lt hg).1; omega)
    exact h1.setCell (by show w.heap.size ≤ w.heap.size + 1 + 1 + 1; omega) _
theorem ndone {w wr W2 w' : World} {sa zf fc : Array Value} {lo : Nat → Nat} {k n g off cap : Nat} {lv nv : Value} {M M' : List Lane} (hst : MadeSt w.heap.size sa zf wr lv nv fc) (hmL : Mine wr (w.heap.size + 5) 1 lv k ((skL lo k).map (Value.int .i64))) (hmN : Mine wr (w.heap.size + 5) 3 nv n (laneVals M)) (hap : Apart lv nv) (hb : Below w.heap.size w wr)
    (hsz : w.heap.size + 5 ≤ wr.heap.size) (hB : Below wr.heap.size wr W2) (hm' : Mine w' (w.heap.size + 5) 3 (.slice (some ⟨g, off, none⟩) (n + 1) cap) (n + 1) (laneVals M')) (hg : W2.grownBy w' nv.ownBlock) (hgg : some g = nv.ownBlock ∨ g = W2.heap.size) :
    MadeSt w.heap.size sa zf (w'.setCell ⟨w.heap.size + 1 + 1 + 1, 1, none⟩ (.slice (some ⟨g, off, none⟩) (n + 1) cap)) lv (.slice (some ⟨g, off, none⟩) (n + 1) cap) fc ∧ Mine (w'.setCell ⟨w.heap.size + 1 + 1 + 1, 1, none⟩ (.slice (some ⟨g, off, none⟩) (n + 1) cap)) (w.heap.size + 5) 1 lv k ((skL lo k).map (Value.int .i64)) ∧
    Mine (w'.setCell ⟨w.heap.size + 1 + 1 + 1, 1, none⟩ (.slice (some ⟨g, off, none⟩) (n + 1) cap)) (w.heap.size + 5) 3 (.slice (some ⟨g, off, none⟩) (n + 1) cap) (n + 1) (laneVals M') ∧ Apart lv (.slice (some ⟨g, off, none⟩) (n + 1) cap) ∧ Below w.heap.size w (w'.setCell ⟨w.heap.size + 1 + 1 + 1, 1, none⟩ (.slice (some ⟨g, off, none⟩) (n + 1) cap)) := by
  have hS := hst.app hB hg (fun g hg => (hmN.lt hg).1) hsz
  have hmL' := hmL.apart hap hB hg
  have hgl : w.heap.size + 5 ≤ g := (hm'.lt (g := g) rfl).1
  refine ⟨hS.setN _, hmL'.setCell (fun e => ?_) _, hm'.setCell (fun e => by simp [Value.ownBlock] at e; omega) _, ?_, ?_⟩
  · have := (hmL.lt e).1
    simp at this
    omega
  · intro x e e'
    exact apart_new (off := off) (len := n + 1) (cap := cap) hmL hap hB hgg (e.trans e'.symm)
  · have h1 : Below w.heap.size w w' := (hb.trans (hB.mono hb.size)).grown hg (Nat.le_trans hb.size hB.size) (fun g hg => by have := (hmN.lt hg).1; omega)
    exact h1.setCell (by show w.heap.size ≤ w.heap.size + 1 + 1 + 1; omega) _
/-- The distances while corner c is added. -/
def farK (bk : Nat → Nat) (ln : Nat → Int) (c j : Nat) : Nat → Nat → Int := fun x y => if x = c ∧ y < j then madeFar bk ln c (bk c) y + ln c else if y = c ∧ x < j then madeFar bk ln c (bk c) x + ln c else madeFar bk ln c x y
theorem farK_zero (bk : Nat → Nat) (ln : Nat → Int) (c : Nat) : farK bk ln c 0 = madeFar bk ln c := by
  funext x y
  simp [farK]
theorem farK_full (bk : Nat → Nat) (ln : Nat → Int) (c : Nat) : farK bk ln c c = madeFar bk ln (c + 1) := by
  funext x y
  rw [madeFar_succ]
  rfl
theorem farK_step {bk : Nat → Nat} {ln : Nat → Int} {c j : Nat} (hj : j < c) : upd2 (upd2 (farK bk ln c j) c j (madeFar bk ln c (bk c) j + ln c)) j c (madeFar bk ln c (bk c) j + ln c) = farK bk ln c (j + 1) := by
  funext x y
  simp only [upd2, farK]
  by_cases h1 : x = j ∧ y = c
  · rw [if_pos h1, if_neg (by omega), if_pos (by omega), h1.1]
  · rw [if_neg h1]
    by_cases h2 : x = c ∧ y = j
    · rw [if_pos h2, if_pos (by omega), h2.2]
    · rw [if_neg h2]
      by_cases h3 : x = c ∧ y < j
      · rw [if_pos h3, if_pos (by omega)]
      · rw [if_neg h3, if_neg (show ¬ (x = c ∧ y < j + 1) by omega)]
        by_cases h4 : y = c ∧ x < j
        · rw [if_pos h4, if_pos (by omega)]
        · rw [if_neg h4, if_neg (show ¬ (y = c ∧ x < j + 1) by omega)]
theorem farK_read {bk : Nat → Nat} {ln : Nat → Int} {c j b : Nat} (hj : j < c) (hb : b < c) : farK bk ln c j b j = madeFar bk ln c b j := by
  simp only [farK]
  rw [if_neg (by omega), if_neg (by omega)]
theorem made_bound {sa : Array Value} {co : Nat} {lo ba le : Nat → Nat} (hs : SkA sa co lo ba le) (k x y : Nat) : 0 ≤ madeFar (skB ba) (skD le) (k + 1) x y ∧ madeFar (skB ba) (skD le) (k + 1) x y ≤ 9 * (k : Int) :=
  madeFar_bound (fun c hc => Nat.mod_lt _ hc) (fun c => by unfold skD; have := Nat.mod_lt (le c) (show 9 > 0 by omega); omega) k x y
def InRel (w : World) (sa zf : Array Value) (lo ba le : Nat → Nat) (k : Nat) (lv nv : Value) (M : List Lane) (iv : Value) (wr : World) : Prop :=
  ∃ (j : Nat) (fc : Array Value), j ≤ k ∧ iv = .int .i64 (j : Int) ∧ MadeSt w.heap.size sa zf wr lv nv fc ∧ FarA fc (farK (skB ba) (skD le) k j) ∧
    Mine wr (w.heap.size + 5) 1 lv (k + 1) ((skL lo (k + 1)).map (Value.int .i64)) ∧ Mine wr (w.heap.size + 5) 3 nv k (laneVals M) ∧ Below w.heap.size w wr
theorem in_step {w wr : World} {sa zf fc : Array Value} {lo ba le : Nat → Nat} {k j b d2 : Nat} {lv nv : Value} {M : List Lane} (hb : b = skB ba k) (hd : d2 = le k % 9) (hj : j < k) (hk : k < 8)
    (H : MadeSt w.heap.size sa zf wr lv nv fc ∧ FarA fc (farK (skB ba) (skD le) k j) ∧ Mine wr (w.heap.size + 5) 1 lv (k + 1) ((skL lo (k + 1)).map (Value.int .i64)) ∧ Mine wr (w.heap.size + 5) 3 nv k (laneVals M) ∧ Below w.heap.size w wr) :
    InRel w sa zf lo ba le k lv nv M (.int .i64 ((j : Int) + 1)) (((wr.setCell ⟨w.heap.size + 1 + 1 + 1 + 1, k * 8 + j, none⟩ (.int .i64 (madeFar (skB ba) (skD le) k b j + (1 + (d2 : Int))))).drew.setCell ⟨w.heap.size + 1 + 1 + 1 + 1, j * 8 + k, none⟩ (.int .i64 (madeFar (skB ba) (skD le) k b j + (1 + (d2 : Int))))).drew) := by
  obtain ⟨h1, h2, h3, h4, h5⟩ := H
  have e : madeFar (skB ba) (skD le) k b j + (1 + (d2 : Int)) = madeFar (skB ba) (skD le) k (skB ba k) j + skD le k := by rw [hb, hd]; rfl
  rw [e]
  have hL : ∀ g, lv.ownBlock = some g → w.heap.size + 5 ≤ g := fun g hg => (h3.lt hg).1
  have hN : ∀ g, nv.ownBlock = some g → w.heap.size + 5 ≤ g := fun g hg => (h4.lt hg).1
  refine ⟨j + 1, _, by omega, by rw [Int.natCast_add]; rfl, ((h1.setF (k * 8 + j) _).setF (j * 8 + k) _).kept (fun _ _ => rfl), ?_, ?_, ?_, ?_⟩
  · rw [← farK_step hj]
    exact (h2.set hk (show j < 8 by omega) _).set (show j < 8 by omega) hk _
  · exact ((h3.setCell (fun e => by have := hL _ e; simp at this; omega) _).drew.setCell (fun e => by have := hL _ e; simp at this; omega) _).drew
  · exact ((h4.setCell (fun e => by have := hN _ e; simp at this; omega) _).drew.setCell (fun e => by have := hN _ e; simp at this; omega) _).drew
  · exact ((h5.setCell (by show w.heap.size ≤ w.heap.size + 1 + 1 + 1 + 1; omega) _).drew.setCell (by show w.heap.size ≤ w.heap.size + 1 + 1 + 1 + 1; omega) _).drew
theorem Try.info54' : (Try.prog.info? 54).map (·.size) = some 64 := by kernel_rfl
theorem Try.underlying54' : Try.prog.underlying 54 = some (.array 8 53) := by kernel_rfl
theorem step_load64 {ops : Array Oper} {o : Oper} {a : Act} {w : World} {K : Act → World → Prop} {Q : Exit → Act → World → Prop} {E : Prop} (hgd : o.guard = none) (x : Operand)
    (ho : o.op = .load 54 x) (g : Nat) (hx : a.eval x = .pointer (some ⟨g, 0, none⟩)) (fc : Array Value) (hh : w.heap[g]? = some (.cells fc 54 (0, 0))) (hs : fc.size = 64)
    (h : K (a.put o.dst (.agg fc)) w) : if Region.wanted o (yielded ops a.tmps) = true then Oper.wp Try.prog o a w K Q else E := by
  have hw : Region.wanted o (yielded ops a.tmps) = true := by simp [Region.wanted, hgd]
  rw [if_pos hw]
  have hr : (Instr.loadAt 54 (.pointer (some ⟨g, 0, none⟩))).run Try.prog w = .ok (.agg fc) w := by
    simp only [Instr.loadAt, Instr.sureAddr, Sem.run_bind, Sem.run_pure, Result.andThen]
    exact run_loadVar_row _ _ 54 54 fc (0, 0) _ hh Try.underlying54' rfl (by rw [hs]; exact Try.info54')
  unfold Oper.wp execOp
  simp only [ho, hx, hr, Sem.run_bind, Sem.run_pure, Result.andThen_ok]
  exact h
theorem step_store64 {ops : Array Oper} {o : Oper} {a : Act} {w : World} {K : Act → World → Prop} {Q : Exit → Act → World → Prop} {E : Prop} (hgd : o.guard = none) (x y : Operand)
    (ho : o.op = .store 54 x y) (g : Nat) (hx : a.eval x = .pointer (some ⟨g, 0, none⟩)) (zf fc : Array Value) (hy : a.eval y = .agg fc) (hh : w.heap[g]? = some (.cells zf 54 (0, 0))) (hs : fc.size = 64) (hz : zf.size = 64) (h1 : fc.all (·.oneCell') = true)
    (h : K (a.put o.dst undef) (w.setRow g fc)) : if Region.wanted o (yielded ops a.tmps) = true then Oper.wp Try.prog o a w K Q else E := by
  have hw : Region.wanted o (yielded ops a.tmps) = true := by simp [Region.wanted, hgd]
  rw [if_pos hw]
  have hr : (Instr.storeAt 54 (.pointer (some ⟨g, 0, none⟩)) (.agg fc)).run Try.prog w = .ok () (w.setRow g fc) := by
    simp only [Instr.storeAt, Instr.sureAddr, Sem.run_bind, Sem.run_pure, Result.andThen]
    exact run_storeVar_row _ _ 54 54 zf fc hh (by rw [hs]; exact Try.info54') (by omega) h1
  unfold Oper.wp execOp
  simp only [ho, hx, hy, hr, Sem.run_bind, Sem.run_pure, Result.andThen_ok]
  exact h
theorem madeFar_one (bk : Nat → Nat) (ln : Nat → Int) : madeFar bk ln 1 = madeFar bk ln 0 := by
  funext x y
  rw [madeFar_succ, if_neg (by omega), if_neg (by omega)]
theorem made_zero {w wr : World} {sa zf fc : Array Value} {lo ba le : Nat → Nat} {k n : Nat} {lv nv : Value} (hk : k = 0) (hn : k < n) (hz : zf.size = 64) (hf : FarA fc (madeFar (skB ba) (skD le) k))
    (H : MadeSt w.heap.size sa zf wr lv nv fc ∧ Mine wr (w.heap.size + 5) 1 lv (k + 1) ((skL lo (k + 1)).map (Value.int .i64)) ∧ Mine wr (w.heap.size + 5) 3 nv (k - 1) (laneVals (madeN (skB ba) (skD le) k)) ∧ Apart lv nv ∧ Below w.heap.size w wr) :
    MadeRel w sa lo ba le n (.int .i64 ((k : Int) + 1)) wr := by
  subst hk
  obtain ⟨h1, h3, h4, h6, h5⟩ := H
  exact ⟨1, lv, nv, fc, zf, by omega, rfl, hz, h1, by rw [madeFar_one]; exact hf, h3, h4, h6, h5⟩
theorem made_next {w wr : World} {sa zf fc : Array Value} {lo ba le : Nat → Nat} {k n b d2 : Nat} {lv nv : Value} (hk0 : ¬ k = 0) (hn : k < n) (hz : zf.size = 64) (hb : b = skB ba k) (hd : d2 = le k % 9) (hap : Apart lv nv)
    (H : MadeSt w.heap.size sa zf wr lv nv fc ∧ FarA fc (farK (skB ba) (skD le) k k) ∧ Mine wr (w.heap.size + 5) 1 lv (k + 1) ((skL lo (k + 1)).map (Value.int .i64)) ∧ Mine wr (w.heap.size + 5) 3 nv k (laneVals (madeN (skB ba) (skD le) k ++ [((b : Int), (k : Int), 1 + (d2 : Int))])) ∧ Below w.heap.size w wr) :
    MadeRel w sa lo ba le n (.int .i64 ((k : Int) + 1)) wr := by
  obtain ⟨h1, h2, h3, h4, h5⟩ := H
  refine ⟨k + 1, lv, nv, fc, zf, by omega, by rw [Int.natCast_add]; rfl, hz, h1, by rw [← farK_full]; exact h2, h3, ?_, hap, h5⟩
  have e : madeN (skB ba) (skD le) (k + 1) = madeN (skB ba) (skD le) k ++ [((b : Int), (k : Int), 1 + (d2 : Int))] := by
    rw [madeN, if_neg hk0, hb, hd]
    rfl
  rw [e]
  exact h4
theorem Try.info25' : (Try.prog.info? 25).map (·.size) = some 2 := by kernel_rfl
theorem mine_ints {w : World} {base n : Nat} {v : Value} {xs : List Int} (h : Mine w base 1 v n (xs.map (Value.int .i64))) (hn : xs.length = n) (hl : n ≤ 1000000000000) : Ints w v xs := by
  rcases h.2 with ⟨rfl, h0⟩ | ⟨g, o, cap, rfl, h1, h2, h3, h4, h5, h6⟩
  · obtain rfl : xs = [] := List.eq_nil_of_length_eq_zero (by omega)
    exact ints_nil w 0
  · refine ⟨by omega, some ⟨g, o, none⟩, cap, g, o, by rw [hn], .inr rfl, fun i hi => ?_⟩
    have := h5 i (by omega)
    rw [this]
    simp [gI, hi]
theorem made_end {w wr : World} {sa zf fc : Array Value} {lo ba le : Nat → Nat} {k : Nat} {lv nv : Value} (hst : MadeSt w.heap.size sa zf wr lv nv fc) (hf : FarA fc (madeFar (skB ba) (skD le) k)) (hmL : Mine wr (w.heap.size + 5) 1 lv k ((skL lo k).map (Value.int .i64))) (hmN : Mine wr (w.heap.size + 5) 3 nv (k - 1) (laneVals (madeN (skB ba) (skD le) k))) (hb : Below w.heap.size w wr) (hz : zf.size = 64) (hk8 : k ≤ 8) :
    (loadVar 25 ⟨w.heap.size + 1, 0, none⟩).run Try.prog (((wr.setCell ⟨w.heap.size + 1, 0, none⟩ lv).setCell ⟨w.heap.size + 1, 1, none⟩ nv).drew.setRow (w.heap.size + 1 + 1) fc) = .ok (.agg #[lv, nv]) (((wr.setCell ⟨w.heap.size + 1, 0, none⟩ lv).setCell ⟨w.heap.size + 1, 1, none⟩ nv).drew.setRow (w.heap.size + 1 + 1) fc) ∧
    (loadVar 54 ⟨w.heap.size + 1 + 1, 0, none⟩).run Try.prog (((wr.setCell ⟨w.heap.size + 1, 0, none⟩ lv).setCell ⟨w.heap.size + 1, 1, none⟩ nv).drew.setRow (w.heap.size + 1 + 1) fc) = .ok (.agg fc) (((wr.setCell ⟨w.heap.size + 1, 0, none⟩ lv).setCell ⟨w.heap.size + 1, 1, none⟩ nv).drew.setRow (w.heap.size + 1 + 1) fc) ∧
    MadePost w (skL lo k) (madeN (skB ba) (skD le) k) (madeFar (skB ba) (skD le) k) (.returned (.tuple #[.agg #[lv, nv], .agg fc])) (((wr.setCell ⟨w.heap.size + 1, 0, none⟩ lv).setCell ⟨w.heap.size + 1, 1, none⟩ nv).drew.setRow (w.heap.size + 1 + 1) fc) := by
  have h1 : (((wr.setCell ⟨w.heap.size + 1, 0, none⟩ lv).setCell ⟨w.heap.size + 1, 1, none⟩ nv).drew.setRow (w.heap.size + 1 + 1) fc).heap[w.heap.size + 1]? = some (.cells #[lv, nv] 25) := by
    rw [setRow_other _ _ _ _ (by omega)]
    exact (block_set (block_set hst.br lv) nv).trans (by simp)
  have h2 : (((wr.setCell ⟨w.heap.size + 1, 0, none⟩ lv).setCell ⟨w.heap.size + 1, 1, none⟩ nv).drew.setRow (w.heap.size + 1 + 1) fc).heap[w.heap.size + 1 + 1]? = some (.cells fc 54) := by
    refine setRow_heap _ _ zf _ _ _ ?_
    show ((wr.setCell ⟨w.heap.size + 1, 0, none⟩ lv).setCell ⟨w.heap.size + 1, 1, none⟩ nv).heap[w.heap.size + 1 + 1]? = _
    rw [Below.heap_setCell _ _ _ _ (by show _ ≠ _; simp), Below.heap_setCell _ _ _ _ (by show _ ≠ _; simp)]
    exact hst.bf
  have hk : ∀ k, k ≠ w.heap.size + 1 → k ≠ w.heap.size + 1 + 1 → (((wr.setCell ⟨w.heap.size + 1, 0, none⟩ lv).setCell ⟨w.heap.size + 1, 1, none⟩ nv).drew.setRow (w.heap.size + 1 + 1) fc).heap[k]? = wr.heap[k]? := by
    intro k h1 h2
    rw [setRow_other _ _ _ _ h2]
    show ((wr.setCell ⟨w.heap.size + 1, 0, none⟩ lv).setCell ⟨w.heap.size + 1, 1, none⟩ nv).heap[k]? = _
    rw [Below.heap_setCell _ _ _ _ (by show _ ≠ _; exact h1), Below.heap_setCell _ _ _ _ (by show _ ≠ _; exact h1)]
  have hsz : (((wr.setCell ⟨w.heap.size + 1, 0, none⟩ lv).setCell ⟨w.heap.size + 1, 1, none⟩ nv).drew.setRow (w.heap.size + 1 + 1) fc).heap.size = wr.heap.size := by
    simp [World.setRow, World.setCell, World.drew]
  refine ⟨run_loadVar_row _ _ 25 25 _ (0, 0) _ h1 Try.underlying25 rfl (by rw [Try.info25']; rfl), run_loadVar_row _ _ 54 54 _ (0, 0) _ h2 Try.underlying54' rfl (by rw [hf.size]; exact Try.info54'), _, _, rfl, ⟨lv, nv, rfl, ?_, ?_⟩, ⟨fc, rfl, hf.size, hf.at_⟩, ?_⟩
  · exact mine_ints (hmL.kept (by rw [hsz]; exact Nat.le_refl _) (fun g hg => hk g (by have := (hmL.lt hg).1; omega) (by have := (hmL.lt hg).1; omega))) (skL_length lo k) (by omega)
  · exact (hmN.kept (by rw [hsz]; exact Nat.le_refl _) (fun g hg => hk g (by have := (hmN.lt hg).1; omega) (by have := (hmN.lt hg).1; omega))).lanes (by rw [madeN_length]; omega)
  · exact ⟨hb.os, hb.tape, hb.output, by rw [hsz]; exact hb.size, fun k hlt => (hk k (by omega) (by omega)).trans (hb.block k hlt)⟩
set_option maxRecDepth 100000 in
set_option maxHeartbeats 4000000 in
theorem made_r (w : World) (sa : Array Value) (co : Nat) (lo ba le : Nat → Nat) (most r : Nat) (hs : SkA sa co lo ba le) (h1 : 1 ≤ most) (h8 : most ≤ 8) (hr : r = co % most) :
    Calls Try.prog 37 #[.agg sa, .int .i64 (most : Int)] w (MadePost w (skL lo (r + 1)) (madeN (skB ba) (skD le) (r + 1)) (madeFar (skB ba) (skD le) (r + 1))) := by
  have hr8 : r < 8 := by have := Nat.mod_lt co (show most > 0 by omega); omega
  have e1 : (co : Int).tmod (most : Int) = (r : Int) := by
    rw [← Int.ofNat_tmod]; omega
  have ec := hs.c0
  have hco := hs.hco
  have HS := Lib.hid hs
  have HNN := Lib.hid hr
  clear hr hs
  have hm0 : ¬ ((most : Int) = 0) := by omega
  have hm1 : ((most : Int) == 0) = false := by simp; omega
  go_enter Try.func37, Try.ntmps37
  go_wp2
  go_loopw [20] (MadeRel w sa lo ba le (r + 1)) (fun i _ => r + 1 - (intOf i).toNat)
  case atStart => exact made_start w sa lo ba le (r + 1) _ rfl
  case round =>
    obtain ⟨k, lv, nv, fc, zf, hk, rfl, hz, hst, hfc, hmL, hmN, hap, hb⟩ := hrel
    have HST := Lib.hid hst
    have HML := Lib.hid hmL
    have HMN := Lib.hid hmN
    have HAP := Lib.hid hap
    have HB := Lib.hid hb
    have HFC := Lib.hid hfc
    have cL := (cell_of hst.bm 0).trans (show _ = some lv by simp)
    have fL := free_of hst.bm 0
    have HSZ := Lib.hid (show w.heap.size + 5 ≤ wr.heap.size by have := (Array.getElem?_eq_some_iff.1 hst.bq).1; omega)
    clear hst hmL hmN hap hb hfc
    by_cases hlt : k < r + 1
    · have cS := (cell_of HST.out.bs (1 + k)).trans (HS.out.cl k (by omega))
      have i1 : (k : Int) < 8 := by omega
      have i2 : (0 : Int) ≤ (k : Int) := by omega
      have hl256 := HS.out.hlo k
      obtain ⟨d, hd⟩ : ∃ d : Nat, d = lo k % 10 := ⟨_, rfl⟩
      have e10 : ((lo k : Int)).tmod 10 = (d : Int) := by
        rw [hd]; exact (Int.ofNat_tmod (lo k) 10).symm
      have ew : IntKind.i64.wrap (lo k : Int) = (lo k : Int) := by rw [IntKind.wrap_i64]; omega
      have HD := Lib.hid hd
      clear hd
      have b3 : w.heap.size + 1 + 1 + 1 < wr.heap.size := by have := HSZ.out; omega
      have n3 : ¬ (w.heap.size + 1 + 1 + 1 = wr.heap.size) := by omega
      have b0 : w.heap.size < wr.heap.size := by omega
      have n0 : ¬ (w.heap.size = wr.heap.size) := by omega
      go_wp2_with fail
      go_cut [] (fun wx => LDone w sa zf fc lo (k + 1) (k - 1) nv (madeN (skB ba) (skD le) k) wx)
      case first =>
        go_region_law (refine step_append_int3 (w.heap.size + 5) rfl _ _ rfl lv k ((skL lo k).map (Value.int .i64)) (by simp [Act.eval, Act.put]) (by first | exact HML.out.drew.alloc _ | exact (HML.out.alloc _).drew) wr.heap.size 1 (by simp [Act.eval, Act.put]) (d : Int) (by exact new_cell _ _ _) (by omega) (by exact Nat.le_trans HSZ.out (new_size _ _)) ?_; intro g off cap w' hm' hg' hgg; (have HM2 := Lib.hid hm'); (have HG2 := Lib.hid hg'); (have HGG := Lib.hid hgg); clear hm' hg' hgg; (have HS2 := Lib.hid (HST.out.app ((Below.refl _ wr).drew.alloc (Nat.le_refl _) _) HG2.out (fun g hg => (HML.out.lt hg).1) HSZ.out)); (have q1 := (cell_of HS2.out.bm 0).trans (show _ = some lv by simp)); (have q2 := free_of HS2.out.bm 0))
        all_goals (go_wp2_with fail; go_meet; exact ldone HST.out HML.out HMN.out HAP.out HB.out HSZ.out ((Below.refl _ wr).drew.alloc (Nat.le_refl _) _) HD.out HM2.out HG2.out HGG.out)
      case rest =>
        clear cL fL cS
        have HCUT := Lib.hid hcut
        clear hcut
        by_cases hk0 : k = 0
        · obtain ⟨lv2, hst2, hmL2, hmN2, hap2, hb2⟩ := HCUT.out
          have HE := Lib.hid hk0
          have hk0' : ((k : Int) == 0) = true := by simp [hk0]
          have H2 := Lib.hid (And.intro hst2 (And.intro hmL2 (And.intro hmN2 (And.intro hap2 hb2))))
          clear hst2 hmL2 hmN2 hap2 hb2 hk0
          go_wp2
          go_roundw
          case rel => exact made_zero HE.out hlt hz HFC.out H2.out
          case measure => simp [intOf]; omega
        · obtain ⟨lv2, hst2, hmL2, hmN2, hap2, hb2⟩ := HCUT.out
          have hk0' : ((k : Int) == 0) = false := by simp; omega
          have hk0'' : ¬ ((k : Int) = 0) := by omega
          have cB := (cell_of hst2.bs (9 + k)).trans (HS.out.cb k (by omega))
          have cE := (cell_of hst2.bs (17 + k)).trans (HS.out.ce k (by omega))
          have cN := (cell_of hst2.bm 1).trans (show _ = some nv by simp)
          have fN := free_of hst2.bm 1
          have hb256 := HS.out.hba k
          have he256 := HS.out.hle k
          obtain ⟨b, hbd⟩ : ∃ b : Nat, b = skB ba k := ⟨_, rfl⟩
          obtain ⟨d2, hdd⟩ : ∃ d2 : Nat, d2 = le k % 9 := ⟨_, rfl⟩
          have eb : (ba k : Int).tmod (k : Int) = (b : Int) := by rw [hbd]; exact (Int.ofNat_tmod (ba k) k).symm
          have ee : (le k : Int).tmod 9 = (d2 : Int) := by rw [hdd]; exact (Int.ofNat_tmod (le k) 9).symm
          have ew1 : IntKind.i64.wrap (ba k : Int) = (ba k : Int) := by rw [IntKind.wrap_i64]; omega
          have ew2 : IntKind.i64.wrap (le k : Int) = (le k : Int) := by rw [IntKind.wrap_i64]; omega
          have hbk : b < k := by rw [hbd]; exact Nat.mod_lt _ (by omega)
          have hd9 : d2 < 9 := by rw [hdd]; exact Nat.mod_lt _ (by omega)
          have H2 := Lib.hid (And.intro hst2 (And.intro hmL2 (And.intro hmN2 (And.intro hap2 hb2))))
          have HBD := Lib.hid hbd
          have HDD := Lib.hid hdd
          clear hst2 hmL2 hmN2 hap2 hb2 hbd hdd
          go_wp2
          go_quiet (fail)
          have H3 := Lib.hid (And.intro (H2.out.1.kept (w' := wc.drewN nq) (fun _ _ => rfl)) (And.intro (H2.out.2.1.below (below_drewN (Below.refl _ _) nq)) (And.intro (H2.out.2.2.1.below (below_drewN (Below.refl _ _) nq)) (And.intro H2.out.2.2.2.1 (below_drewN H2.out.2.2.2.2 nq)))))
          have HSZ3 := Lib.hid (show w.heap.size + 5 ≤ (wc.drewN nq).heap.size by have := (Array.getElem?_eq_some_iff.1 H3.out.1.bq).1; omega)
          have hkk : k - 1 + 1 = k := by omega
          go_wp2_with (at_builtin; refine lane_append3 (w.heap.size + 5) rfl _ _ rfl nv (k - 1) (madeN (skB ba) (skD le) k) (madeN_length k) (by simp [Act.eval, Act.put]) (by exact H3.out.2.2.1.alloc _) wc.heap.size 1 (by simp [Act.eval, Act.put]) ((b : Int), (k : Int), 1 + (d2 : Int)) (by exact (new_cell3 _ _ _ _ _).1) (by exact (new_cell3 _ _ _ _ _).2.1) (by exact (new_cell3 _ _ _ _ _).2.2) (by omega) (by exact Nat.le_trans HSZ3.out (new_size _ _)) ?_; intro g off cap w' hm' hg' hgg; (have HM2 := Lib.hid hm'); (have HG2 := Lib.hid hg'); (have HGG := Lib.hid hgg); clear hm' hg' hgg; (have HS2 := Lib.hid (H3.out.1.app ((Below.refl _ (wc.drewN nq)).alloc (Nat.le_refl _) _) HG2.out (fun g hg => (H3.out.2.2.1.lt hg).1) HSZ3.out)); (have q1 := (cell_of HS2.out.bm 1).trans (show _ = some nv by simp)); (have q2 := free_of HS2.out.bm 1))
          have hN0 := ndone H3.out.1 H3.out.2.1 H3.out.2.2.1 H3.out.2.2.2.1 H3.out.2.2.2.2 HSZ3.out ((Below.refl _ (wc.drewN nq)).alloc (Nat.le_refl _) _) HM2.out HG2.out HGG.out
          rw [hkk] at hN0
          have HN := Lib.hid hN0
          clear hN0
          clear q1 q2 HM2 HG2 HGG HS2 H3 H2 HSZ3 HST HML HMN HAP HB HSZ cN fN cB cE HCUT hkk
          go_loopw [60] (InRel w sa zf lo ba le k lv2 (.slice (some ⟨g, off, none⟩) k cap) (madeN (skB ba) (skD le) k ++ [((b : Int), (k : Int), 1 + (d2 : Int))])) (fun i _ => k - (intOf i).toNat)
          case atStart =>
            refine ⟨0, fc, Nat.zero_le _, rfl, HN.out.1, ?_, HN.out.2.1, HN.out.2.2.1, HN.out.2.2.2.2⟩
            rw [farK_zero]
            exact HFC.out
          case round =>
            obtain ⟨j, fc2, hj, rfl, hst3, hfa3, hmL3, hmN3, hb3⟩ := hrel
            by_cases hjk : j < k
            · have hk8 : k < 8 := by omega
              have cF := (cell_of hst3.bq (b * 8 + j)).trans (hfa3.at_ b j (by omega) (by omega))
              rw [farK_read hjk hbk] at cF
              have cF1 := (cell_of hst3.bq (k * 8 + j)).trans (hfa3.at_ k j (by omega) (by omega))
              have cF2 := (cell_of hst3.bq (j * 8 + k)).trans (hfa3.at_ j k (by omega) (by omega))
              have fF1 := free_of hst3.bq (k * 8 + j)
              have fF2 := free_of hst3.bq (j * 8 + k)
              have hfb := made_bound HS.out (k - 1) b j
              rw [show k - 1 + 1 = k by omega] at hfb
              have H3 := Lib.hid (And.intro hst3 (And.intro hfa3 (And.intro hmL3 (And.intro hmN3 hb3))))
              have j1 : (0 : Int) ≤ (j : Int) := by omega
              have j2 : (j : Int) < 8 := by omega
              have b1 : (0 : Int) ≤ (b : Int) := by omega
              have b2 : (b : Int) < 8 := by omega
              clear hst3 hfa3 hmL3 hmN3 hb3
              go_wp2
              go_region
              have v1 : ((wr.setCell ⟨w.heap.size + 1 + 1 + 1 + 1, k * 8 + j, none⟩ (.int .i64 (madeFar (skB ba) (skD le) k b j + (1 + (d2 : Int))))).drew).cell? ⟨w.heap.size + 1 + 1 + 1 + 1, k * 8 + j, none⟩ = some (.int .i64 (madeFar (skB ba) (skD le) k b j + (1 + (d2 : Int)))) := cell_eq cF1
              have v2 : ((wr.setCell ⟨w.heap.size + 1 + 1 + 1 + 1, k * 8 + j, none⟩ (.int .i64 (madeFar (skB ba) (skD le) k b j + (1 + (d2 : Int))))).drew).cell? ⟨w.heap.size + 1 + 1 + 1 + 1, j * 8 + k, none⟩ = some (.int .i64 (farK (skB ba) (skD le) k j j k)) := (cell_ne (by omega)).trans cF2
              have v3 : ((wr.setCell ⟨w.heap.size + 1 + 1 + 1 + 1, k * 8 + j, none⟩ (.int .i64 (madeFar (skB ba) (skD le) k b j + (1 + (d2 : Int))))).drew).frozen? ⟨w.heap.size + 1 + 1 + 1 + 1, j * 8 + k, none⟩ = false := (World.frozen?_setCell _ _ _ _).trans fF2
              clear cF cF1 cF2 fF1 fF2
              go_wp2
              go_region
              all_goals
                clear v1 v2 v3
                go_wp2
                go_roundw
                case rel => exact in_step HBD.out HDD.out hjk hk8 H3.out
                case measure => simp [intOf]; omega
            · obtain rfl : j = k := by omega
              have H3 := Lib.hid (And.intro hst3 (And.intro hfa3 (And.intro hmL3 (And.intro hmN3 hb3))))
              have HK0 := Lib.hid (show ¬ j = 0 by omega)
              clear hst3 hfa3 hmL3 hmN3 hb3 hk0' hk0''
              go_wp2
              go_roundw
              case rel => exact made_next HK0.out hlt hz HBD.out HDD.out HN.out.2.2.2.1 H3.out
              case measure => simp [intOf]; omega
    · obtain rfl : k = r + 1 := by omega
      have hl : ∃ ga oa ca, lv = .slice (some ⟨ga, oa, none⟩) (r + 1) ca := by
        rcases HML.out.2 with ⟨_, h0⟩ | ⟨g, o, cap, h0, _⟩
        · omega
        · exact ⟨g, o, cap, h0⟩
      have hv : ∃ gb nb cb, nv = .slice gb nb cb := by
        rcases HMN.out.2 with ⟨h0, _⟩ | ⟨g, o, cap, h0, _⟩
        · exact ⟨_, _, _, h0⟩
        · exact ⟨_, _, _, h0⟩
      obtain ⟨ga, oa, ca, rfl⟩ := hl
      obtain ⟨gb, nb, cb, rfl⟩ := hv
      have cN := (cell_of HST.out.bm 1).trans (show _ = some (.slice gb nb cb) by simp)
      have c10 := (cell_of HST.out.br 0).trans (show _ = some (.slice none 0 0) by simp)
      have c11 := (cell_of HST.out.br 1).trans (show _ = some (.slice none 0 0) by simp)
      have f10 := free_of HST.out.br 0
      have f11 := free_of HST.out.br 1
      have hs2 : (wr.setCell ⟨w.heap.size + 1, 0, none⟩ (.slice (some ⟨ga, oa, none⟩) (r + 1) ca)).cell? ⟨w.heap.size + 1, 1, none⟩ = some (.slice none 0 0) := (cell_ne (by omega)).trans c11
      have hg2 : (wr.setCell ⟨w.heap.size + 1, 0, none⟩ (.slice (some ⟨ga, oa, none⟩) (r + 1) ca)).frozen? ⟨w.heap.size + 1, 1, none⟩ = false := by rw [World.frozen?_setCell]; exact f11
      have hq2 : ((wr.setCell ⟨w.heap.size + 1, 0, none⟩ (.slice (some ⟨ga, oa, none⟩) (r + 1) ca)).setCell ⟨w.heap.size + 1, 1, none⟩ (.slice gb nb cb)).heap[w.heap.size + 1 + 1 + 1 + 1]? = some (.cells fc 54) := by
        rw [Below.heap_setCell _ _ _ _ (by show _ ≠ _; simp; omega), Below.heap_setCell _ _ _ _ (by show _ ≠ _; simp; omega)]
        exact HST.out.bq
      have hz2 : ((wr.setCell ⟨w.heap.size + 1, 0, none⟩ (.slice (some ⟨ga, oa, none⟩) (r + 1) ca)).setCell ⟨w.heap.size + 1, 1, none⟩ (.slice gb nb cb)).heap[w.heap.size + 1 + 1]? = some (.cells zf 54) := by
        rw [Below.heap_setCell _ _ _ _ (by show _ ≠ _; simp), Below.heap_setCell _ _ _ _ (by show _ ≠ _; simp)]
        exact HST.out.bf
      have HOC := Lib.hid (HFC.out.one)
      have hQ0 := made_end HST.out HFC.out HML.out HMN.out HB.out hz (by omega)
      go_wp2
      refine wp_region_any (by kernel_rfl) ?_
      change wpAny _ _ _ _ _ _ _ (World.drew _)
      refine wpAny_ready (rs := [0, 1]) (by kernel_rfl) (by simp) ?_
      refine AllReady.cons rfl (fun K hK => ?_) (AllReady.cons rfl (fun K hK => ?_) AllReady.nil)
      · (go_simp; refine hK _ _ ?_; clear hK K)
        refine wpAny_ready (rs := [1, 2]) (by kernel_rfl) (by simp) ?_
        refine AllReady.cons rfl (fun K hK => ?_) (AllReady.cons rfl (fun K hK => ?_) AllReady.nil)
        · (refine step_load64 rfl _ rfl (w.heap.size + 1 + 1 + 1 + 1) (by simp [Act.eval, Act.put]) fc (by first | exact HST.out.bq | exact hq2) HFC.out.size ?_; go_simp; refine hK _ _ ?_; clear hK K)
          (refine wpAny_ready (rs := [2]) (by kernel_rfl) (by simp) ?_; refine AllReady.cons rfl (fun K hK => ?_) AllReady.nil)
          (go_simp; refine hK _ _ ?_; clear hK K)
          (refine wpAny_ready (rs := [3]) (by kernel_rfl) (by simp) ?_; refine AllReady.cons rfl (fun K hK => ?_) AllReady.nil)
          (refine step_store64 rfl _ _ rfl (w.heap.size + 1 + 1) (by simp [Act.eval, Act.put]) zf fc (by simp [Act.eval, Act.put]) (by exact hz2) HFC.out.size hz HOC.out ?_; go_simp; refine hK _ _ ?_; clear hK K)
          refine wpAny_done (by kernel_rfl) ?_ _
          go_wp2
          obtain ⟨wF, hwF⟩ : ∃ wF : World, wF = (((wr.setCell ⟨w.heap.size + 1, 0, none⟩ (.slice (some ⟨ga, oa, none⟩) (r + 1) ca)).setCell ⟨w.heap.size + 1, 1, none⟩ (.slice gb nb cb)).drew.setRow (w.heap.size + 1 + 1) fc) := ⟨_, rfl⟩
          obtain ⟨hF1, hF2, hF3⟩ := hQ0
          rw [← hwF] at hF1 hF2 hF3 ⊢
          clear hwF
          refine bodyPost_ret (v := .tuple #[.agg #[.slice (some ⟨ga, oa, none⟩) (r + 1) ca, .slice gb nb cb], .agg fc]) ?_ rfl hF3
          simp [results, Try.results37, asAddr, hF1, hF2]
        · (go_simp; refine hK _ _ ?_; clear hK K)
          (refine wpAny_ready (rs := [1]) (by kernel_rfl) (by simp) ?_; refine AllReady.cons rfl (fun K hK => ?_) AllReady.nil)
          (refine step_load64 rfl _ rfl (w.heap.size + 1 + 1 + 1 + 1) (by simp [Act.eval, Act.put]) fc (by first | exact HST.out.bq | exact hq2) HFC.out.size ?_; go_simp; refine hK _ _ ?_; clear hK K)
          (refine wpAny_ready (rs := [3]) (by kernel_rfl) (by simp) ?_; refine AllReady.cons rfl (fun K hK => ?_) AllReady.nil)
          (refine step_store64 rfl _ _ rfl (w.heap.size + 1 + 1) (by simp [Act.eval, Act.put]) zf fc (by simp [Act.eval, Act.put]) (by exact hz2) HFC.out.size hz HOC.out ?_; go_simp; refine hK _ _ ?_; clear hK K)
          refine wpAny_done (by kernel_rfl) ?_ _
          go_wp2
          obtain ⟨wF, hwF⟩ : ∃ wF : World, wF = (((wr.setCell ⟨w.heap.size + 1, 0, none⟩ (.slice (some ⟨ga, oa, none⟩) (r + 1) ca)).setCell ⟨w.heap.size + 1, 1, none⟩ (.slice gb nb cb)).drew.setRow (w.heap.size + 1 + 1) fc) := ⟨_, rfl⟩
          obtain ⟨hF1, hF2, hF3⟩ := hQ0
          rw [← hwF] at hF1 hF2 hF3 ⊢
          clear hwF
          refine bodyPost_ret (v := .tuple #[.agg #[.slice (some ⟨ga, oa, none⟩) (r + 1) ca, .slice gb nb cb], .agg fc]) ?_ rfl hF3
          simp [results, Try.results37, asAddr, hF1, hF2]
      · (refine step_load64 rfl _ rfl (w.heap.size + 1 + 1 + 1 + 1) (by simp [Act.eval, Act.put]) fc (by first | exact HST.out.bq | exact hq2) HFC.out.size ?_; go_simp; refine hK _ _ ?_; clear hK K)
        (refine wpAny_ready (rs := [0]) (by kernel_rfl) (by simp) ?_; refine AllReady.cons rfl (fun K hK => ?_) AllReady.nil)
        (go_simp; refine hK _ _ ?_; clear hK K)
        (refine wpAny_ready (rs := [2]) (by kernel_rfl) (by simp) ?_; refine AllReady.cons rfl (fun K hK => ?_) AllReady.nil)
        (go_simp; refine hK _ _ ?_; clear hK K)
        (refine wpAny_ready (rs := [3]) (by kernel_rfl) (by simp) ?_; refine AllReady.cons rfl (fun K hK => ?_) AllReady.nil)
        (refine step_store64 rfl _ _ rfl (w.heap.size + 1 + 1) (by simp [Act.eval, Act.put]) zf fc (by simp [Act.eval, Act.put]) (by exact hz2) HFC.out.size hz HOC.out ?_; go_simp; refine hK _ _ ?_; clear hK K)
        refine wpAny_done (by kernel_rfl) ?_ _
        go_wp2
        obtain ⟨wF, hwF⟩ : ∃ wF : World, wF = (((wr.setCell ⟨w.heap.size + 1, 0, none⟩ (.slice (some ⟨ga, oa, none⟩) (r + 1) ca)).setCell ⟨w.heap.size + 1, 1, none⟩ (.slice gb nb cb)).drew.setRow (w.heap.size + 1 + 1) fc) := ⟨_, rfl⟩
        obtain ⟨hF1, hF2, hF3⟩ := hQ0
        rw [← hwF] at hF1 hF2 hF3 ⊢
        clear hwF
        refine bodyPost_ret (v := .tuple #[.agg #[.slice (some ⟨ga, oa, none⟩) (r + 1) ca, .slice gb nb cb], .agg fc]) ?_ rfl hF3
        simp [results, Try.results37, asAddr, hF1, hF2]
end Go.Proofs.Ytkhkgmelicdpkaa
