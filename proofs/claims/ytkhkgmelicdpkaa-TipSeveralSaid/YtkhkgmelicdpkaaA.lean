/- Words on memory that the walks use: slices read as lists, slices that the call owns (whatever their offset), one law of append for these. No statement of the seat is proved here. -/
import Derived.Test.YtkhkgmelicdpkaaRows
import Derived.Test.YtkhkgmelicdpkaaM
import Derived.Lib.Hide
import Derived.Deep.LoopGhost
import Derived.Deep.QuietTactic
import Derived.BigQuiet
import Derived.WalkKit
import Derived.WalkSpells
import Derived.WalkLawsBesides
import Derived.Deep.AppendSrc
set_option linter.unusedVariables false
set_option linter.unusedSimpArgs false
namespace Go.Proofs.Ytkhkgmelicdpkaa
open Go.RowKit

/-- A slice of ints reads as a list. -/
def Ints (w : World) (v : Value) (xs : List Int) : Prop :=
  xs.length ≤ 1000000000000 ∧ ∃ a cap b off, v = .slice a xs.length cap ∧ (xs.length = 0 ∨ a = some ⟨b, off, none⟩) ∧ ∀ i, i < xs.length → w.cell? ⟨b, off + i, none⟩ = some (.int .i64 (gI xs i))

theorem Below.cellOf {w w' : World} (hb : Below w.heap.size w w') {p : Addr} {v : Value} (h : w.cell? p = some v) : w'.cell? p = some v :=
  (hb.cell (World.block_lt_of_cell? w p h)).trans h

theorem Ints.below {w w' : World} {v : Value} {xs : List Int} (h : Ints w v xs) (hb : Below w.heap.size w w') : Ints w' v xs := by
  obtain ⟨hm, a, cap, b, off, hv, ha, hc⟩ := h
  exact ⟨hm, a, cap, b, off, hv, ha, fun i hi => Below.cellOf hb (hc i hi)⟩

/-- A slice of lanes. -/
def Lanes (w : World) (v : Value) (N : List Lane) : Prop :=
  N.length ≤ 1000000000000 ∧ ∃ a cap b off, v = .slice a N.length cap ∧ (N.length = 0 ∨ a = some ⟨b, off, none⟩) ∧
    ∀ i, i < N.length → w.cell? ⟨b, off + i * 3, none⟩ = some (.int .i64 (getT N i).1) ∧ w.cell? ⟨b, off + i * 3 + 1, none⟩ = some (.int .i64 (getT N i).2.1) ∧ w.cell? ⟨b, off + i * 3 + 2, none⟩ = some (.int .i64 (getT N i).2.2)

theorem Lanes.below {w w' : World} {v : Value} {N : List Lane} (h : Lanes w v N) (hb : Below w.heap.size w w') : Lanes w' v N := by
  obtain ⟨hm, a, cap, b, off, hv, ha, hc⟩ := h
  exact ⟨hm, a, cap, b, off, hv, ha, fun i hi => ⟨Below.cellOf hb (hc i hi).1, Below.cellOf hb (hc i hi).2.1, Below.cellOf hb (hc i hi).2.2⟩⟩

/-- A market. -/
def Mkt (w : World) (v : Value) (L : List Int) (N : List Lane) : Prop := ∃ lv nv, v = .agg #[lv, nv] ∧ Ints w lv L ∧ Lanes w nv N

theorem Mkt.below {w w' : World} {v : Value} {L : List Int} {N : List Lane} (h : Mkt w v L N) (hb : Below w.heap.size w w') : Mkt w' v L N := by
  obtain ⟨lv, nv, hv, hl, hn⟩ := h
  exact ⟨lv, nv, hv, hl.below hb, hn.below hb⟩

/-- A slice that the call owns: its block is from base on; all its cells up to the capacity are there, and none is frozen. -/
def Mine (w : World) (base size : Nat) (v : Value) (n : Nat) (xs : List Value) : Prop :=
  xs.length = n * size ∧ ((v = .slice none 0 0 ∧ n = 0) ∨ ∃ g o cap, v = .slice (some ⟨g, o, none⟩) n cap ∧ base ≤ g ∧ n ≤ cap ∧ cap ≤ maxLen ∧ g < w.heap.size ∧
    (∀ j, j < n * size → w.cell? ⟨g, o + j, none⟩ = xs[j]?) ∧ ∀ j, j < cap * size → (w.cell? ⟨g, o + j, none⟩).isSome = true ∧ w.frozen? ⟨g, o + j, none⟩ = false)

theorem Mine.nil (w : World) (base size : Nat) : Mine w base size (.slice none 0 0) 0 [] := ⟨by simp, .inl ⟨rfl, rfl⟩⟩

theorem Mine.kept {w w' : World} {base size : Nat} {v : Value} {n : Nat} {xs : List Value} (h : Mine w base size v n xs) (hs : w.heap.size ≤ w'.heap.size) (hb : ∀ g, v.ownBlock = some g → w'.heap[g]? = w.heap[g]?) : Mine w' base size v n xs := by
  refine ⟨h.1, h.2.imp id ?_⟩
  rintro ⟨g, o, cap, rfl, h1, h2, h3, h4, h5, h6⟩
  have hg := hb g rfl
  exact ⟨g, o, cap, rfl, h1, h2, h3, by omega, fun j hj => (World.cell?_of_block (a := ⟨g, o + j, none⟩) hg).trans (h5 j hj),
    fun j hj => ⟨by rw [World.cell?_of_block (a := ⟨g, o + j, none⟩) hg]; exact (h6 j hj).1, (World.frozen?_of_block (a := ⟨g, o + j, none⟩) hg).trans (h6 j hj).2⟩⟩

theorem Mine.lt {w : World} {base size : Nat} {v : Value} {n : Nat} {xs : List Value} (h : Mine w base size v n xs) {g : Nat} (hg : v.ownBlock = some g) : base ≤ g ∧ g < w.heap.size := by
  rcases h.2 with ⟨rfl, _⟩ | ⟨g', o, cap, rfl, h1, _, _, h4, _⟩
  · simp [Value.ownBlock] at hg
  · simp [Value.ownBlock] at hg
    subst hg
    exact ⟨h1, h4⟩

theorem Mine.alloc {w : World} {base size : Nat} {v : Value} {n : Nat} {xs : List Value} (h : Mine w base size v n xs) (o : Obj) : Mine (w.alloc o) base size v n xs :=
  h.kept (by simp) (fun g hg => Below.heap_alloc _ _ _ (h.lt hg).2)

theorem Mine.drew {w : World} {base size : Nat} {v : Value} {n : Nat} {xs : List Value} (h : Mine w base size v n xs) : Mine w.drew base size v n xs :=
  h.kept (Nat.le_refl _) (fun _ _ => rfl)

theorem Mine.below {w w' : World} {base size : Nat} {v : Value} {n : Nat} {xs : List Value} (h : Mine w base size v n xs) (hb : Below w.heap.size w w') : Mine w' base size v n xs :=
  h.kept hb.size (fun g hg => hb.block g (h.lt hg).2)

/-- A store elsewhere. -/
theorem Mine.setCell {w : World} {base size : Nat} {v : Value} {n : Nat} {xs : List Value} (h : Mine w base size v n xs) {a : Addr} (ha : v.ownBlock ≠ some a.block) (u : Value) : Mine (w.setCell a u) base size v n xs :=
  h.kept (by simp [World.setCell]) (fun g hg => Below.heap_setCell _ _ _ _ (fun e => ha (by rw [hg, e])))

/-- A literal's own block. -/
theorem Mine.made (w : World) (base size : Nat) (cells : Array Value) (e : TypeId) (n : Nat) (hb : base ≤ w.heap.size) (hn : n ≤ maxLen) (hs : cells.size = n * size) :
    Mine (w.alloc (.cells cells e)) base size (.slice (some ⟨w.heap.size, 0, none⟩) n n) n cells.toList := by
  have hh : (w.alloc (.cells cells e)).heap[w.heap.size]? = some (.cells cells e) := heap_alloc_new w _
  refine ⟨by simpa using hs, .inr ⟨w.heap.size, 0, n, rfl, hb, Nat.le_refl _, hn, by simp, fun j hj => ?_, fun j hj => ⟨?_, ?_⟩⟩⟩
  · simp only [World.cell?, hh]
    simp
  · simp only [World.cell?, hh]
    simp [hs, hj]
  · simp only [World.frozen?, hh]
    simp

theorem setCells_same (g : Nat) (vs : List Value) : ∀ (o : Nat) (w : World), (w.setCells g o vs).heap.size = w.heap.size ∧ (w.setCells g o vs).os = w.os ∧ (w.setCells g o vs).tape = w.tape ∧ (w.setCells g o vs).output = w.output := by
  induction vs with
  | nil => intro o w; exact ⟨rfl, rfl, rfl, rfl⟩
  | cons v vs ih =>
    intro o w
    obtain ⟨h1, h2, h3, h4⟩ := ih (o + 1) (w.setCell ⟨g, o, none⟩ v)
    exact ⟨h1.trans (by simp [World.setCell]), h2, h3, h4⟩

section
variable {P : Program}
/-- append to an owned slice, from whatever source. -/
theorem run_append_mine (w : World) (base : Nat) (t tx ty e : TypeId) (i : TypeInfo) (z : Value) (ht : P.underlying t = some (.slice e)) (hi : P.info? e = some i) (hz : i.zero = some z) (hzs : z.cells.size = i.size)
    (v : Value) (n : Nat) (xs : List Value) (hm : Mine w base i.size v n xs) (x : Value) (m : Nat) (news : List Value) (hs : Src P i.size tx x m news w) (h63 : n + m ≤ maxLen) (hbytes : (n + m) * i.bytes ≤ 140737488355328) (hbase : base ≤ w.heap.size) :
    ∃ v' w', (Builtin.append_ #[t, tx] ty #[v, x]).run P w = .ok v' w' ∧ Mine w' base i.size v' (n + m) (xs ++ news) ∧ w.grownBy w' v.ownBlock ∧ (v'.ownBlock = v.ownBlock ∨ v'.ownBlock = some w.heap.size) := by
  have hnl := hs.newsLen
  have hxl := hm.1
  have hsmall : n + m ≤ 9223372036854775807 := by simp only [maxLen] at h63; omega
  have hlen : (xs ++ news).length = (n + m) * i.size := by rw [List.length_append, hxl, hnl, Nat.add_mul]
  have grow : ∀ (bs : Option Addr) (sc : Nat), v = .slice bs n sc → sc < n + m → (Builtin.firstCells i.size n (.slice bs n sc)).run P w.drew = .ok xs.toArray w.drew →
      ∃ v' w', (Builtin.append_ #[t, tx] ty #[v, x]).run P w = .ok v' w' ∧ Mine w' base i.size v' (n + m) (xs ++ news) ∧ w.grownBy w' v.ownBlock ∧ (v'.ownBlock = v.ownBlock ∨ v'.ownBlock = some w.heap.size) := by
    rintro bs sc rfl hg hold
    have hrun := run_append_grow_src (P := P) w t tx ty e i z ht hi hz bs n sc xs hold x m news hs hg (by omega) (growslice_fits hg hbytes)
    have hge := grownCap_ge w (n + m) sc e
    have hcm := grownCap_le_maxLen w (n + m) sc e h63
    have hh : ∀ C, (w.drew.alloc (.cells C e)).heap[w.heap.size]? = some (.cells C e) := fun C => heap_alloc_new w.drew _
    refine ⟨_, _, hrun, ⟨hlen, .inr ⟨w.heap.size, 0, _, rfl, hbase, hge, hcm, by show _ < (w.heap.push _).size; simp, fun j hj => ?_, fun j hj => ⟨?_, ?_⟩⟩⟩, ⟨rfl, rfl, rfl, by show _ ≤ (w.heap.push _).size; simp, fun k hk _ => Below.heap_alloc w.drew _ k hk⟩, Or.inr rfl⟩
    · simp only [World.cell?, hh]
      simp only [Nat.zero_add, Option.isSome_none, Bool.false_eq_true, if_false]
      rw [Array.getElem?_append_left (by simp only [List.size_toArray]; omega), List.getElem?_toArray]
    · simp only [World.cell?, hh]
      simp only [Nat.zero_add, Option.isSome_none, Bool.false_eq_true, if_false]
      have hsz : ((xs ++ news).toArray ++ Builtin.zeroCells z.cells (grownCap w (n + m) sc e - (n + m))).size = grownCap w (n + m) sc e * i.size := by
        rw [Array.size_append, List.size_toArray, hlen, size_zeroCells, hzs, ← Nat.add_mul]
        congr 1
        omega
      rw [Array.getElem?_eq_getElem (by rw [hsz]; exact hj)]
      rfl
    · simp only [World.frozen?, hh]
      simp
  rcases hm.2 with ⟨rfl, rfl⟩ | ⟨g, o, cap, rfl, h1, h2, h3, h4, h5, h6⟩
  · obtain rfl : xs = [] := List.eq_nil_of_length_eq_zero (by simpa using hxl)
    by_cases hm0 : m = 0
    · subst hm0
      obtain rfl : news = [] := List.eq_nil_of_length_eq_zero (by simpa using hnl)
      refine ⟨.slice none 0 0, w, ?_, Mine.nil _ _ _, ⟨rfl, rfl, rfl, Nat.le_refl _, fun _ _ _ => rfl⟩, Or.inl rfl⟩
      rcases hs.kind with ⟨e', hk⟩ | hk <;> simp [Builtin.append_, run_underlying ht, run_underlying hk, sizeOf, typeInfo, hi, hs.len, hs.cells]
    · exact grow none 0 rfl (by omega) (run_firstCells_none w.drew i.size 0 0 0)
  · by_cases hfit : n + m ≤ cap
    · have hrc : (n + m) * i.size ≤ cap * i.size := Nat.mul_le_mul_right _ hfit
      rw [Nat.add_mul] at hrc
      have hsome : ∀ j, j < news.length → (w.cell? ⟨g, o + n * i.size + j, none⟩).isSome = true := fun j hj => by rw [Nat.add_assoc]; exact (h6 _ (by omega)).1
      have hrun := run_append_room_src (P := P) w t tx ty e i ht hi g o n cap x m news hs hfit hsome (fun j hj => by rw [Nat.add_assoc]; exact (h6 _ (by omega)).2)
      have hother : ∀ k, k < w.heap.size → k ≠ g → (w.setCells g (o + n * i.size) news).heap[k]? = w.heap[k]? := fun k hk hne =>
        (World.keptBut_setCells g (may := fun p => p.block = g) news _ w (fun _ _ => rfl)).block hk (fun _ hp e => hne (e.symm.trans hp))
      have hsize : (w.setCells g (o + n * i.size) news).heap.size = w.heap.size := by
        exact (setCells_same g _ _ _).1
      refine ⟨_, _, hrun, ⟨hlen, .inr ⟨g, o, cap, rfl, h1, hfit, h3, by rw [hsize]; exact h4, fun j hj => ?_, fun j hj => ⟨?_, (World.frozen?_setCells g _ _ _ _).trans (h6 j hj).2⟩⟩⟩, ⟨?_, ?_, ?_, by rw [hsize]; exact Nat.le_refl _, fun k hk hne => hother k hk (fun e => hne (by simp [Value.ownBlock, e]))⟩, Or.inl rfl⟩
      · rw [Nat.add_mul] at hj
        by_cases hjo : j < n * i.size
        · rw [World.cell?_setCells_out g _ _ _ _ (fun _ _ => Or.inl (by show o + j < o + n * i.size; omega)), List.getElem?_append_left (by omega)]
          exact h5 j hjo
        · have ht' : j - n * i.size < news.length := by omega
          have := World.cell?_setCells_in g news (o + n * i.size) w hsome (j - n * i.size) ht'
          rw [show o + n * i.size + (j - n * i.size) = o + j by omega] at this
          rw [this, List.getElem?_append_right (by omega), hxl, List.getElem?_eq_getElem ht']
      · by_cases hin : n * i.size ≤ j ∧ j < n * i.size + news.length
        · have := World.cell?_setCells_in g news (o + n * i.size) w hsome (j - n * i.size) (by omega)
          rw [show o + n * i.size + (j - n * i.size) = o + j by omega] at this
          rw [this]; rfl
        · rw [World.cell?_setCells_out g _ _ _ _ (fun _ _ => by show o + j < o + n * i.size ∨ o + n * i.size + news.length ≤ o + j; omega)]
          exact (h6 j hj).1
      · exact (setCells_same g _ _ _).2.1
      · exact (setCells_same g _ _ _).2.2.1
      · exact (setCells_same g _ _ _).2.2.2
    · refine grow (some ⟨g, o, none⟩) cap rfl (by omega) ?_
      refine run_firstCells_some w.drew i.size n ⟨g, o, none⟩ n cap xs hxl (fun j u hu => ?_)
      rw [Addr.add_lit]
      have hj : j < n * i.size := by
        have := (List.getElem?_eq_some_iff.1 hu).1
        omega
      exact (h5 j hj).trans hu

theorem wp_append_mine {o : Oper} {a : Act} {w : World} {K : Act → World → Prop} {Q : Exit → Act → World → Prop} (s x : Operand) (t tx : TypeId)
    (ho : o.op = .call { callee := .builtin .append, args := #[s, x], argTypes := #[t, tx] })
    (base size bytes : Nat) (e : TypeId) (i : TypeInfo) (z : Value) (ht : P.underlying t = some (.slice e)) (hi : P.info? e = some i) (hz : i.zero = some z) (hsize : i.size = size) (hby : i.bytes = bytes) (hzs : z.cells.size = size)
    (v : Value) (n : Nat) (xs : List Value) (hs : a.eval s = v) (hm : Mine w base size v n xs) (xv : Value) (hx : a.eval x = xv) (m : Nat) (news : List Value) (hsrc : Src P size tx xv m news w)
    (h63 : n + m ≤ maxLen) (hbytes : (n + m) * bytes ≤ 140737488355328) (hbase : base ≤ w.heap.size)
    (h : ∀ v' w', Mine w' base size v' (n + m) (xs ++ news) → w.grownBy w' v.ownBlock → (v'.ownBlock = v.ownBlock ∨ v'.ownBlock = some w.heap.size) → K (a.put o.dst v') w') : o.wp P a w K Q := by
  subst hsize; subst hby
  obtain ⟨v', w', hr, h2, h3, h4⟩ := run_append_mine (P := P) w base t tx o.type e i z ht hi hz hzs v n xs hm xv m news hsrc h63 hbytes hbase
  unfold Oper.wp execOp
  simp only [ho, resolve, invoke, builtin, Sem.run_bind, Sem.run_pure, Result.andThen_ok, List.map_toArray, List.map_cons, List.map_nil, hs, hx, hr]
  exact h v' w' h2 h3 h4

theorem wpList_append_mine {ops : Array Oper} {rest : List Oper} {o : Oper} {a : Act} {w : World} {Q : Exit → Act → World → Prop} (hgd : o.guard = none) (s x : Operand) (t tx : TypeId)
    (ho : o.op = .call { callee := .builtin .append, args := #[s, x], argTypes := #[t, tx] })
    (base size bytes : Nat) (e : TypeId) (i : TypeInfo) (z : Value) (ht : P.underlying t = some (.slice e)) (hi : P.info? e = some i) (hz : i.zero = some z) (hsize : i.size = size) (hby : i.bytes = bytes) (hzs : z.cells.size = size)
    (v : Value) (n : Nat) (xs : List Value) (hs : a.eval s = v) (hm : Mine w base size v n xs) (xv : Value) (hx : a.eval x = xv) (m : Nat) (news : List Value) (hsrc : Src P size tx xv m news w)
    (h63 : n + m ≤ maxLen) (hbytes : (n + m) * bytes ≤ 140737488355328) (hbase : base ≤ w.heap.size)
    (h : ∀ v' w', Mine w' base size v' (n + m) (xs ++ news) → w.grownBy w' v.ownBlock → (v'.ownBlock = v.ownBlock ∨ v'.ownBlock = some w.heap.size) → wpList P ops Q rest (a.put o.dst v') w') : wpList P ops Q (o :: rest) a w :=
  wpList_plain hgd fun _ hK => wp_append_mine s x t tx ho base size bytes e i z ht hi hz hsize hby hzs v n xs hs hm xv hx m news hsrc h63 hbytes hbase fun v' w' h2 h3 h4 => hK _ _ (h v' w' h2 h3 h4)
end

theorem Try.underlying22' : Try.prog.underlying 22 = some (.slice 3) := by kernel_rfl
theorem Try.info3' : (Try.prog.info? 3).map (fun i => (i.zero, i.size, i.bytes)) = some (some (.int .i64 0), 1, 8) := by kernel_rfl

/-- append(v, x) at []int, x behind a literal's own block. -/
theorem append_int {ops : Array Oper} {rest : List Oper} {o : Oper} {a : Act} {w : World} {Q : Exit → Act → World → Prop} (base : Nat) (hgd : o.guard = none) (s x : Operand)
    (ho : o.op = .call { callee := .builtin .append, args := #[s, x], argTypes := #[22, 22] })
    (v : Value) (n : Nat) (xs : List Value) (hs : a.eval s = v) (hm : Mine w base 1 v n xs) (b off c : Nat) (hx : a.eval x = .slice (some ⟨b, off, none⟩) 1 c) (q : Int) (hc : w.cell? ⟨b, off, none⟩ = some (.int .i64 q))
    (h63 : n ≤ 1000000000000) (hbase : base ≤ w.heap.size)
    (h : ∀ v' w', Mine w' base 1 v' (n + 1) (xs ++ [.int .i64 q]) → w.grownBy w' v.ownBlock → (v'.ownBlock = v.ownBlock ∨ v'.ownBlock = some w.heap.size) → wpList Try.prog ops Q rest (a.put o.dst v') w') : wpList Try.prog ops Q (o :: rest) a w := by
  obtain ⟨i0, hi, hz0, hz1, hz2⟩ := info_parts Try.info3'
  refine wpList_append_mine hgd s x 22 22 ho base 1 8 3 i0 (.int .i64 0) Try.underlying22' hi hz0 hz1 hz2 rfl v n xs hs hm _ hx 1 [.int .i64 q] ?_ ?_ ?_ hbase h
  · refine Src.ofSlice w Try.underlying22' ⟨b, off, none⟩ 1 c _ rfl (fun j u hu => ?_) (by simp [Value.oneCell'])
    cases j with
    | zero =>
      simp at hu
      subst hu
      rw [Addr.add_lit]
      exact hc
    | succ j => simp at hu
  · simp only [maxLen]; omega
  · omega

def vals (l : List Nat) : List Value := l.map fun (k : Nat) => Value.int .i64 (k : Int)
theorem vals_snoc (l : List Nat) (c : Nat) : vals (l ++ [c]) = vals l ++ [.int .i64 (c : Int)] := by simp [vals]
theorem vals_length (l : List Nat) : (vals l).length = l.length := by simp [vals]

theorem wraps_u64 (n : Int) (h₀ : 0 ≤ n) (h₁ : n < 2 ^ 8) : IntKind.u64.wrap n = n := by rw [IntKind.wrap_u64]; omega
theorem pow_lt8 {k : Nat} (hk : k < 8) : 2 ^ k < 2 ^ 8 := Nat.pow_lt_pow_right (by omega) hk
theorem and_pow (m k : Nat) : m &&& 2 ^ k = if m.testBit k then 2 ^ k else 0 := by
  apply Nat.eq_of_testBit_eq
  intro i
  rw [Nat.testBit_and, Nat.testBit_two_pow]
  split
  · rename_i h
    by_cases e : k = i
    · subst e; simp [h, Nat.testBit_two_pow]
    · simp [e, Nat.testBit_two_pow]
  · rename_i h
    by_cases e : k = i
    · subst e; simp [h]
    · simp [e]
theorem bits_and_pow (m k : Nat) (hm : m < 256) (hk : k < 8) : bits .and .u64 (m : Int) ((2 : Int) ^ k) = if m.testBit k then (2 : Int) ^ k else 0 := by
  have h := (bits_nat .u64 8 (by decide) wraps_u64 m (2 ^ k) hm (pow_lt8 hk)).1
  rw [and_pow] at h
  have e : ((2 ^ k : Nat) : Int) = (2 : Int) ^ k := by simp
  rw [e] at h
  rw [h]
  split <;> simp
theorem bits_or_pow (m k : Nat) (hm : m < 256) (hk : k < 8) : bits .or .u64 (m : Int) ((2 : Int) ^ k) = ((m ||| 2 ^ k : Nat) : Int) := by
  have h := (bits_nat .u64 8 (by decide) wraps_u64 m (2 ^ k) hm (pow_lt8 hk)).2
  have e : ((2 ^ k : Nat) : Int) = (2 : Int) ^ k := by simp
  rw [e] at h
  exact h
theorem two_pow_ne (k : Nat) : ¬ ((2 : Int) ^ k = 0) := by
  have : 0 < (2 : Int) ^ k := Int.pow_pos (by omega)
  omega

theorem ret_int {k : IntKind} {a b : Int} (h : a = b) : Ending.returned (.int k a) = .returned (.int k b) := by rw [h]
theorem ret_bool {a b : Bool} (h : a = b) : Ending.returned (.bool a) = .returned (.bool b) := by rw [h]

end Go.Proofs.Ytkhkgmelicdpkaa
