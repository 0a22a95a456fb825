/- The contract of package tip's search from one corner. -/
import Derived.Test.YtkhkgmelicdpkaaD
set_option linter.unusedVariables false
set_option linter.unusedSimpArgs false
namespace Go.Proofs.Ytkhkgmelicdpkaa
open Go.RowKit
theorem idx_sets0 (w : World) : (Instr.index 87 (.agg #[.int .u64 1, .int .u64 2, .int .u64 4, .int .u64 8, .int .u64 16, .int .u64 32, .int .u64 64, .int .u64 128]) (.int .i64 0)).run Try.prog w = .ok (.int .u64 1) w := by kernel_rfl
theorem idx_sets1 (w : World) : (Instr.index 87 (.agg #[.int .u64 1, .int .u64 2, .int .u64 4, .int .u64 8, .int .u64 16, .int .u64 32, .int .u64 64, .int .u64 128]) (.int .i64 1)).run Try.prog w = .ok (.int .u64 2) w := by kernel_rfl
theorem idx_sets2 (w : World) : (Instr.index 87 (.agg #[.int .u64 1, .int .u64 2, .int .u64 4, .int .u64 8, .int .u64 16, .int .u64 32, .int .u64 64, .int .u64 128]) (.int .i64 2)).run Try.prog w = .ok (.int .u64 4) w := by kernel_rfl
theorem idx_sets3 (w : World) : (Instr.index 87 (.agg #[.int .u64 1, .int .u64 2, .int .u64 4, .int .u64 8, .int .u64 16, .int .u64 32, .int .u64 64, .int .u64 128]) (.int .i64 3)).run Try.prog w = .ok (.int .u64 8) w := by kernel_rfl
theorem idx_sets4 (w : World) : (Instr.index 87 (.agg #[.int .u64 1, .int .u64 2, .int .u64 4, .int .u64 8, .int .u64 16, .int .u64 32, .int .u64 64, .int .u64 128]) (.int .i64 4)).run Try.prog w = .ok (.int .u64 16) w := by kernel_rfl
theorem idx_sets5 (w : World) : (Instr.index 87 (.agg #[.int .u64 1, .int .u64 2, .int .u64 4, .int .u64 8, .int .u64 16, .int .u64 32, .int .u64 64, .int .u64 128]) (.int .i64 5)).run Try.prog w = .ok (.int .u64 32) w := by kernel_rfl
theorem idx_sets6 (w : World) : (Instr.index 87 (.agg #[.int .u64 1, .int .u64 2, .int .u64 4, .int .u64 8, .int .u64 16, .int .u64 32, .int .u64 64, .int .u64 128]) (.int .i64 6)).run Try.prog w = .ok (.int .u64 64) w := by kernel_rfl
theorem idx_sets7 (w : World) : (Instr.index 87 (.agg #[.int .u64 1, .int .u64 2, .int .u64 4, .int .u64 8, .int .u64 16, .int .u64 32, .int .u64 64, .int .u64 128]) (.int .i64 7)).run Try.prog w = .ok (.int .u64 128) w := by kernel_rfl
theorem idx_sets (c : Nat) (hc : c < 8) (w : World) : (Instr.index 87 (.agg #[.int .u64 1, .int .u64 2, .int .u64 4, .int .u64 8, .int .u64 16, .int .u64 32, .int .u64 64, .int .u64 128]) (.int .i64 (c : Int))).run Try.prog w = .ok (.int .u64 ((2 : Int) ^ c)) w := by
  have h8 : c = 0 ∨ c = 1 ∨ c = 2 ∨ c = 3 ∨ c = 4 ∨ c = 5 ∨ c = 6 ∨ c = 7 := by omega
  rcases h8 with rfl | rfl | rfl | rfl | rfl | rfl | rfl | rfl
  · exact idx_sets0 w
  · exact idx_sets1 w
  · exact idx_sets2 w
  · exact idx_sets3 w
  · exact idx_sets4 w
  · exact idx_sets5 w
  · exact idx_sets6 w
  · exact idx_sets7 w

def lenV : Value → Nat
  | .slice _ n _ => n
  | _ => 0

/-- What holds while the search goes on. -/
def FromR (W : World) (b tb n c : Nat) (len : Nat → Nat → Int) (near : Nat → Nat) (far0 : Nat → Nat → Int) (next0 : Nat → Nat → Nat) (la : Option Addr) (lc : Nat) (M : Nat) (T : Nat → Prop) (X : Nat → Nat → Prop) (met todo : Value) (wr : World) : Prop :=
  ∃ (m : Nat) (Q : List Nat) (far : Nat → Nat → Int) (next : Nat → Nat → Nat), met = .int .u64 (m : Int) ∧ Making wr b (.slice la n lc) far next near ∧ Table wr tb len ∧ Mine wr W.heap.size 1 todo Q.length (vals Q) ∧ But W.heap.size b W wr ∧
    Bfs n len near c m Q X (far c) (fun k => next k c) ∧ (∀ x y, x ≠ c → far x y = far0 x y) ∧ (∀ x y, y ≠ c → next x y = next0 x y) ∧ 2 * (8 - popc m) + Q.length ≤ M ∧ T m

def InR (W : World) (g b tb n c : Nat) (len : Nat → Nat → Int) (near : Nat → Nat) (far0 : Nat → Nat → Int) (next0 : Nat → Nat → Nat) (la : Option Addr) (lc : Nat) (M q : Nat) (jv met todo : Value) (wr : World) : Prop :=
  ∃ j : Nat, j ≤ n ∧ jv = .int .i64 (j : Int) ∧ FromR W b tb n c len near far0 next0 la lc M (fun m => m.testBit q = true) (fun v k => v = q ∧ j ≤ k) met todo wr ∧ Bits8 wr g ∧ todo.ownBlock ≠ some g ∧ g < wr.heap.size

theorem cell_newAt (w : World) (v : Value) (T k : Nat) (h : k = w.heap.size) : (w.alloc (.cells #[v] T)).drew.cell? ⟨k, 0, none⟩ = some v := by
  subst h
  show (w.alloc (.cells #[v] T)).cell? ⟨w.heap.size, 0, none⟩ = some v
  simp
theorem upd2_row {α : Type} (f : Nat → Nat → α) (c k : Nat) (x : α) : upd2 f c k x c = upd (f c) k x := by
  funext j
  by_cases h : j = k <;> simp [upd2, upd, h]
theorem upd2_col {α : Type} (f : Nat → Nat → α) (c k : Nat) (x : α) : (fun j => upd2 f k c x j c) = upd (fun j => f j c) k x := by
  funext j
  by_cases h : j = k <;> simp [upd2, upd, h]

theorem from_step {W wr w5 : World} {b tb n c g : Nat} {len : Nat → Nat → Int} {near : Nat → Nat} {far0 : Nat → Nat → Int} {next0 : Nat → Nat → Nat} {la : Option Addr} {lc M q j m : Nat} {Q : List Nat} {far : Nat → Nat → Int} {next : Nat → Nat → Nat} {todo v' : Value}
    (hc8 : c < 8) (hn : n ≤ 8) (hbW : b < W.heap.size) (htW : tb < W.heap.size) (hbt : tb ≠ b) (hWg : W.heap.size ≤ g) (hlt : j < n) (hqn : q < n) (hlen : 0 ≤ len q j ∧ len q j ≤ 9) (hbit : (near q).testBit j = true) (hmet : m.testBit j = false)
    (hM : Making wr b (.slice la n lc) far next near) (hT : Table wr tb len) (hB : But W.heap.size b W wr) (hbfs : Bfs n len near c m Q (fun v k => v = q ∧ j ≤ k) (far c) (fun k => next k c)) (hf : ∀ x y, x ≠ c → far x y = far0 x y) (hx : ∀ x y, y ≠ c → next x y = next0 x y)
    (hmu : 2 * (8 - popc m) + Q.length ≤ M) (hq : m.testBit q = true) (hbits : Bits8 wr g) (hno : todo.ownBlock ≠ some g) (hg : g < wr.heap.size) (hm : Mine wr W.heap.size 1 todo Q.length (vals Q))
    (hm5 : Mine w5 W.heap.size 1 v' (Q.length + 1) (vals Q ++ [.int .i64 (j : Int)]))
    (hg5 : ((((wr.setCell ⟨b, 1 + c * 8 + j, none⟩ (.int .i64 (far c q + len q j))).setCell ⟨b, 65 + j * 8 + c, none⟩ (.int .i64 (q : Int))).alloc (.cells #[.int .i64 (j : Int)] 3)).drew).grownBy w5 todo.ownBlock)
    (hv5 : v'.ownBlock = todo.ownBlock ∨ v'.ownBlock = some ((((wr.setCell ⟨b, 1 + c * 8 + j, none⟩ (.int .i64 (far c q + len q j))).setCell ⟨b, 65 + j * 8 + c, none⟩ (.int .i64 (q : Int))).alloc (.cells #[.int .i64 (j : Int)] 3)).drew).heap.size) :
    InR W g b tb n c len near far0 next0 la lc M q (.int .i64 ((j : Int) + 1)) (.int .u64 ((m ||| 2 ^ j : Nat) : Int)) v' w5 := by
  have hM1 := hM.setFar hc8 (show j < 8 by omega) (far c q + len q j)
  have hM2 := hM1.setNext (show j < 8 by omega) hc8 q
  have hsz : ∀ o u o' u', ((wr.setCell ⟨b, o, none⟩ u).setCell ⟨b, o', none⟩ u').heap.size = wr.heap.size := fun _ _ _ _ => by simp [World.setCell]
  have hown : ∀ k, todo.ownBlock = some k → W.heap.size ≤ k := fun k hk => (hm.lt hk).1
  have key : ∀ k, k < wr.heap.size → some k ≠ todo.ownBlock → w5.heap[k]? = ((wr.setCell ⟨b, 1 + c * 8 + j, none⟩ (.int .i64 (far c q + len q j))).setCell ⟨b, 65 + j * 8 + c, none⟩ (.int .i64 (q : Int))).heap[k]? := by
    intro k hk hne
    rw [hg5.block k (by show k < (Array.push _ _).size; rw [Array.size_push]; have := hsz (1 + c * 8 + j) (.int .i64 (far c q + len q j)) (65 + j * 8 + c) (.int .i64 (q : Int)); omega) hne]
    exact Below.heap_alloc _ _ _ (by rw [hsz]; exact hk)
  have key2 : ∀ k, k < wr.heap.size → k ≠ b → some k ≠ todo.ownBlock → w5.heap[k]? = wr.heap[k]? := by
    intro k hk hb hne
    rw [key k hk hne, Below.heap_setCell _ _ _ _ hb, Below.heap_setCell _ _ _ _ hb]
  have hWr := hB.size
  have hp := popc_add m hbfs.small j (by omega) hmet
  have hpl := popc_le (m ||| 2 ^ j)
  have hwsz : wr.heap.size < w5.heap.size := by
    have := hg5.size
    have h2 : ((((wr.setCell ⟨b, 1 + c * 8 + j, none⟩ (.int .i64 (far c q + len q j))).setCell ⟨b, 65 + j * 8 + c, none⟩ (.int .i64 (q : Int))).alloc (.cells #[.int .i64 (j : Int)] 3)).drew).heap.size = wr.heap.size + 1 := by
      show (Array.push _ _).size = _
      rw [Array.size_push, hsz]
    omega
  refine ⟨j + 1, by omega, by rw [Int.natCast_add]; rfl, ⟨m ||| 2 ^ j, Q ++ [j], upd2 far c j (far c q + len q j), upd2 next j c q, rfl, ?_, ?_, ?_, ?_, ?_, ?_, ?_, ?_, ?_⟩, ?_, ?_, by omega⟩
  · exact hM2.below (key b (by omega) (fun e => by have := hown b e.symm; omega))
  · exact hT.below (key2 tb (by omega) hbt (fun e => by have := hown tb e.symm; omega))
  · rw [vals_snoc, List.length_append]
    exact hm5
  · refine hB.trans ⟨hg5.os, hg5.tape, hg5.output, by omega, fun k hk hkb => key2 k (by omega) hkb (fun e => by have := hown k e.symm; omega)⟩
  · rw [upd2_row, upd2_col]
    exact hbfs.add hlt hn hq hbit hmet hlen
  · intro x y hxc
    simp only [upd2]
    rw [if_neg (fun e => hxc e.1)]
    exact hf x y hxc
  · intro x y hyc
    simp only [upd2]
    rw [if_neg (fun e => hyc e.2)]
    exact hx x y hyc
  · rw [List.length_append, hp.1]
    simp only [List.length_cons, List.length_nil]
    omega
  · show (m ||| 2 ^ j).testBit q = true
    rw [testBit_or_pow, hq]
    rfl
  · exact hbits.kept (key2 g hg (by omega) (fun e => hno e.symm))
  · rcases hv5 with e | e
    · rw [e]; exact hno
    · rw [e]
      intro h
      injection h with h
      have h2 : ((((wr.setCell ⟨b, 1 + c * 8 + j, none⟩ (.int .i64 (far c q + len q j))).setCell ⟨b, 65 + j * 8 + c, none⟩ (.int .i64 (q : Int))).alloc (.cells #[.int .i64 (j : Int)] 3)).drew).heap.size = wr.heap.size + 1 := by
        show (Array.push _ _).size = _
        rw [Array.size_push, hsz]
      omega

def FromJ (b tb c : Nat) (R : Value → Value → World → Prop) (a : Act) (w : World) : Prop := ∃ met todo u9 u10 u11 u12 u13 u14 u15 u16 u17 u18 u19 u20 u21 u22 u23 u24 u25 u26 u27 u28 u29 u30 u31 u32 u33 u34 u35 u36 u37 u38 u39 u40 u41 u42 u43 u44 u45 u46 u47 u48 u49 u50 u51 u52 u53 u54 u55 u56 u57 u58 u59 u60 u61 u62 u63 u64 u65 u66 u67 u68 u69 u70 u71 u72 u73 u74 u75 u76 u77 u78 u79 u80 u81 u82 u83 u84 u85 u86 u87 u88 u89 u90 u91 u92 u93 u94 u95 u96 u97 u98 u99 u100 u101 u102 u103 u104 u105 u106 u107 : Value, a = ⟨#[.pointer (some ⟨b, 0, none⟩), .int .i64 (c : Int), .pointer (some ⟨tb, 0, none⟩), undef, undef, undef, .bool false, met, todo, u9, u10, u11, u12, u13, u14, u15, u16, u17, u18, u19, u20, u21, u22, u23, u24, u25, u26, u27, u28, u29, u30, u31, u32, u33, u34, u35, u36, u37, u38, u39, u40, u41, u42, u43, u44, u45, u46, u47, u48, u49, u50, u51, u52, u53, u54, u55, u56, u57, u58, u59, u60, u61, u62, u63, u64, u65, u66, u67, u68, u69, u70, u71, u72, u73, u74, u75, u76, u77, u78, u79, u80, u81, u82, u83, u84, u85, u86, u87, u88, u89, u90, u91, u92, u93, u94, u95, u96, u97, u98, u99, u100, u101, u102, u103, u104, u105, u106, u107], []⟩ ∧ R met todo w
def FromMu (a : Act) : Nat := 2 * (8 - popc (intOf (a.tmps.getD 7 undef)).toNat) + lenV (a.tmps.getD 8 undef)

def FromPost (W : World) (b n c : Nat) (len : Nat → Nat → Int) (near : Nat → Nat) (far0 : Nat → Nat → Int) (next0 : Nat → Nat → Nat) (lv : Value) (e : Ending) (w' : World) : Prop :=
  ∃ (ok : Bool) (far : Nat → Nat → Int) (next : Nat → Nat → Nat), e = .returned (.bool ok) ∧ Making w' b lv far next near ∧ But W.heap.size b W w' ∧ (∀ x y, x ≠ c → far x y = far0 x y) ∧ (∀ x y, y ≠ c → next x y = next0 x y) ∧
    (ok = true → Rooted n len near c (far c) (fun k => next k c) ∧ AllFrom n near c) ∧ (ok = false → ¬ AllFrom n near c)

def scopeBody : Code → Code
  | .scope c => c
  | .seq _ c => scopeBody c
  | c => c
def afterSkip : Code → Code
  | .seq .skip c => c
  | c => c
noncomputable def fromX : Code := afterSkip (((Try.f93.body.map scopeBody).bind (findLabel · 0)).getD .skip)


set_option maxRecDepth 1000000 in
set_option maxHeartbeats 2000000 in
theorem from_rest (W w : World) (b tb n c : Nat) (len : Nat → Nat → Int) (near : Nat → Nat) (far0 : Nat → Nat → Int) (next0 : Nat → Nat → Nat) (la : Option Addr) (lc : Nat) (hc : c < n) (hn : n ≤ 8) (hbW : b < W.heap.size) (htW : tb < W.heap.size) (hbt : tb ≠ b)
    (hlen : ∀ x y, x < n → y < n → 0 ≤ len x y ∧ len x y ≤ 9) (hnear : ∀ x, x < n → near x < 256) (M : Nat) (hM100 : M ≤ 100) (met todo u9 u10 u11 u12 u13 u14 u15 u16 u17 u18 u19 u20 u21 u22 u23 u24 u25 u26 u27 u28 u29 u30 u31 u32 u33 u34 u35 u36 u37 u38 u39 u40 u41 u42 u43 u44 u45 u46 u47 u48 u49 u50 u51 u52 u53 u54 u55 u56 u57 u58 u59 u60 u61 u62 u63 u64 u65 u66 u67 u68 u69 u70 u71 u72 u73 u74 u75 u76 u77 u78 u79 u80 u81 u82 u83 u84 u85 u86 u87 u88 u89 u90 u91 u92 u93 u94 u95 u96 u97 u98 u99 u100 u101 u102 u103 u104 u105 u106 u107 : Value)
    (Q0 : Exit → Act → World → Prop) (hQ : ∀ a w, bodyPost Try.prog Try.f93 (FromPost W b n c len near far0 next0 (.slice la n lc)) .ret a w → Q0 .ret a w)
    (h : FromR W b tb n c len near far0 next0 la lc M (fun _ => True) (fun _ _ => False) met todo w) :
    Code.wp Try.prog fromX (Exit.jump 0 (fun a' w' => FromJ b tb c (FromR W b tb n c len near far0 next0 la lc M (fun _ => True) (fun _ _ => False)) a' w' ∧ FromMu a' < FromMu ⟨#[.pointer (some ⟨b, 0, none⟩), .int .i64 (c : Int), .pointer (some ⟨tb, 0, none⟩), undef, undef, undef, .bool false, met, todo, u9, u10, u11, u12, u13, u14, u15, u16, u17, u18, u19, u20, u21, u22, u23, u24, u25, u26, u27, u28, u29, u30, u31, u32, u33, u34, u35, u36, u37, u38, u39, u40, u41, u42, u43, u44, u45, u46, u47, u48, u49, u50, u51, u52, u53, u54, u55, u56, u57, u58, u59, u60, u61, u62, u63, u64, u65, u66, u67, u68, u69, u70, u71, u72, u73, u74, u75, u76, u77, u78, u79, u80, u81, u82, u83, u84, u85, u86, u87, u88, u89, u90, u91, u92, u93, u94, u95, u96, u97, u98, u99, u100, u101, u102, u103, u104, u105, u106, u107], []⟩) Q0) ⟨#[.pointer (some ⟨b, 0, none⟩), .int .i64 (c : Int), .pointer (some ⟨tb, 0, none⟩), undef, undef, undef, .bool false, met, todo, u9, u10, u11, u12, u13, u14, u15, u16, u17, u18, u19, u20, u21, u22, u23, u24, u25, u26, u27, u28, u29, u30, u31, u32, u33, u34, u35, u36, u37, u38, u39, u40, u41, u42, u43, u44, u45, u46, u47, u48, u49, u50, u51, u52, u53, u54, u55, u56, u57, u58, u59, u60, u61, u62, u63, u64, u65, u66, u67, u68, u69, u70, u71, u72, u73, u74, u75, u76, u77, u78, u79, u80, u81, u82, u83, u84, u85, u86, u87, u88, u89, u90, u91, u92, u93, u94, u95, u96, u97, u98, u99, u100, u101, u102, u103, u104, u105, u106, u107], []⟩ w := by
  conv => arg 2; whnf
  obtain ⟨m, Q, far, next, rfl, hM, hT, hm, hB, hbfs, hf, hx, hmu, _⟩ := h
  cases Q with
  | nil =>
    obtain ⟨ta, tc, rfl⟩ : ∃ ta tc, todo = .slice ta 0 tc := by
      rcases hm.2 with ⟨rfl, _⟩ | ⟨g, o, cap, rfl, _⟩
      · exact ⟨_, _, rfl⟩
      · exact ⟨_, _, rfl⟩
    have h1 := hM.cLoads
    have hms := hbfs.small
    have i1 : (0 : Int) ≤ (n : Int) := by omega
    have HB := Lib.hid hB
    have HM := Lib.hid hM
    have HF := Lib.hid hf
    have HX := Lib.hid hx
    have HBf := Lib.hid hbfs
    clear hM hT hm hB hbfs hf hx hmu hlen hnear
    go_wp2_with fail
    go_region_held3 (fun w' => w'.cell? ⟨b, 0, none⟩ = some (.slice la n lc))
      (first | go_keep)
      (first | (go_at_call 88; refine (ones_any _ m hms).mono ?_; rintro e w1 ⟨rfl, rfl⟩))
    go_wp2
    simp only [Exit.jump]
    refine hQ _ _ ?_
    go_ret
    have hMd : Making w.drew b (.slice la n lc) far next near := HM.out.below rfl
    have hBd : But W.heap.size b W w.drew := HB.out.trans (But.ofBelow (Below.refl _ _).drew)
    refine ⟨(popc m : Int) == (n : Int), far, next, rfl, hMd, hBd, HF.out, HX.out, fun e => ?_, fun e => ?_⟩
    · have e' : popc m = n := by have := eq_of_beq e; omega
      exact HBf.out.yes hc hn e'
    · have e' : popc m ≠ n := fun h => by rw [h] at e; simp at e
      exact HBf.out.no hn e'
  | cons q Q =>
    obtain ⟨g0, o0, cap, rfl, hg0, hcap, hcm, hgl, hcl, hav⟩ := hm.2.resolve_left (by simp)
    have hq := hbfs.queue q (by simp)
    have hqn := hbfs.lt q hq
    have hq8 : q < 8 := by omega
    have hc8 : c < 8 := by omega
    have hms := hbfs.small
    have h1 := hM.cLoads
    have hfirst := hcl 0 (by simp)
    have hpop : ∃ a1, (a1 = if cap = 1 then (⟨g0, o0, none⟩ : Addr) else ⟨g0, o0 + 1, none⟩) := ⟨_, rfl⟩
    have i1 : (0 : Int) ≤ (n : Int) := by omega
    have i2 : (n : Int) ≤ 8 := by omega
    have HB := Lib.hid hB
    have HM := Lib.hid hM
    have HT := Lib.hid hT
    have Hm := Lib.hid hm
    have HF := Lib.hid hf
    have HX := Lib.hid hx
    have HBf := Lib.hid hbfs
    have HMu := Lib.hid hmu
    have hL1 : Q.length + 1 ≤ cap := hcap
    clear hM hT hm hB hbfs hf hx hmu hcl hav hpop hcap
    simp only [Nat.add_zero, vals, List.map_cons, List.length_cons] at hfirst
    obtain ⟨tv, hsl, hmt⟩ : ∃ tv, (∀ wx, (Instr.sliceAt 22 (.slice (some ⟨g0, o0, none⟩) (Q.length + 1) cap) (some (.int .i64 1)) none none).run Try.prog wx = .ok tv wx) ∧ Mine w W.heap.size 1 tv Q.length (vals Q) := by
      exact ⟨_, fun wx => slice1 g0 o0 Q.length cap hL1 wx, Hm.out.pop⟩
    have Hmt := Lib.hid hmt
    clear hmt
    go_wp2_with fail
    go_region_held3 (fun w' => w'.cell? ⟨b, 0, none⟩ = some (.slice la n lc))
      (first | go_keep | exact Below.cellOf hb1 (by assumption))
      (first | (go_at_call 94; refine (setsAll_any _).mono ?_; rintro e w1 ⟨g, rfl, hbits, hg0', hg1, hb1⟩))
    go_wp2
    have hbw1 : Below w.heap.size w w1 := (Below.refl _ w).drew.trans hb1
    have Hbits := Lib.hid hbits
    have hWw : W.heap.size ≤ w.heap.size := HB.out.size
    have hbw : b < w.heap.size := by omega
    have hgw : w.heap.size ≤ g := hg0'
    clear hsl hbits
    obtain ⟨wo, rfl⟩ : ∃ wo : World, wo = w1 := ⟨_, rfl⟩
    go_loopw [49, 7, 8] (InR W g b tb n c len near far0 next0 la lc (2 * (8 - popc m) + Q.length) q) (fun i _ _ _ => n - (intOf i).toNat)
    case atStart =>
      refine ⟨0, Nat.zero_le _, rfl, ⟨m, Q, far, next, rfl, HM.out.below (hbw1.block b hbw), HT.out.below (hbw1.block tb (by omega)), Hmt.out.below hbw1, HB.out.trans (But.ofBelow (hbw1.mono hWw)), HBf.out.pop, HF.out, HX.out, Nat.le_refl _, hq⟩, Hbits.out, ?_, hg1⟩
      intro e
      have := (Hmt.out.lt e).2
      omega
    case round =>
      obtain ⟨j, hj, rfl, ⟨m2, Q2, far2, next2, rfl, hM2, hT2, hm2, hB2, hbfs2, hf2, hx2, hmu2, hq2⟩, hbits2, hno2, hg2⟩ := hrel
      have HB2 := Lib.hid hB2
      have HM2 := Lib.hid hM2
      have HT2 := Lib.hid hT2
      have Hm2 := Lib.hid hm2
      have HF2 := Lib.hid hf2
      have HX2 := Lib.hid hx2
      have HBf2 := Lib.hid hbfs2
      have HMu2 := Lib.hid hmu2
      have HBit2 := Lib.hid hbits2
      have HNo2 := Lib.hid hno2
      have HQ2 := Lib.hid hq2
      clear hM2 hT2 hm2 hB2 hbfs2 hf2 hx2 hmu2 hbits2 hno2 hq2
      by_cases hlt : j < n
      · have hbc := HBit2.out.cell j (by omega)
        have hnc := HM2.out.cNear q hq8
        have hba := bits_and_pow (near q) j (hnear q hqn) (by omega)
        have hbm := bits_and_pow m2 j HBf2.out.small (by omega)
        have hp1 := two_pow_ne j
        have hp2 : (((2 : Int) ^ j) == 0) = false := by simpa using hp1
        have hp3 : (((2 : Int) ^ j) != 0) = true := by simpa using hp1
        by_cases hbit : (near q).testBit j = true
        · rw [if_pos hbit] at hba
          by_cases hmet : m2.testBit j = true
          · rw [if_pos hmet] at hbm
            go_wp2
            go_roundw
            case rel => exact ⟨j + 1, by omega, by go_num, ⟨m2, Q2, far2, next2, rfl, HM2.out, HT2.out, Hm2.out, HB2.out, HBf2.out.skip (.inr hmet), HF2.out, HX2.out, HMu2.out, HQ2.out⟩, HBit2.out, HNo2.out, hg2⟩
            case measure => simp [intOf]; omega
          · rw [if_neg hmet] at hbm
            have hbo := bits_or_pow m2 j HBf2.out.small (by omega)
            have hfc := HM2.out.cFar c q hc8 hq8
            have hfo := HM2.out.cFar c j hc8 (by omega)
            have hfz := HM2.out.free (1 + c * 8 + j)
            have htc := HT2.out.cell q j hq8 (by omega)
            have hbd := HBf2.out.bound q HQ2.out
            have hpc := popc_le m2
            have hld := hlen q j hqn hlt
            have hwr : IntKind.i64.wrap (far2 c q + len q j) = far2 c q + len q j := by rw [IntKind.wrap_i64]; omega
            have i3 : (0 : Int) ≤ (q : Int) := by omega
            have i4 : (q : Int) < 8 := by omega
            have i5 : (0 : Int) ≤ (c : Int) := by omega
            have i6 : (c : Int) < 8 := by omega
            have i7 : (0 : Int) ≤ (j : Int) := by omega
            have i8 : (j : Int) < 8 := by omega
            have hqj : q ≠ j := fun e => hmet (by rw [← e]; exact HQ2.out)
            have hS1 : (wr.setCell ⟨b, 1 + c * 8 + j, none⟩ (.int .i64 (far2 c q + len q j))).cell? ⟨b, 1 + c * 8 + q, none⟩ = some (.int .i64 (far2 c q)) := by rw [cell_ne (by omega)]; exact hfc
            have hS2 : (wr.setCell ⟨b, 1 + c * 8 + j, none⟩ (.int .i64 (far2 c q + len q j))).cell? ⟨tb, q * 8 + j, none⟩ = some (.int .i64 (len q j)) := by
              rw [World.cell?_setCell_far _ _ _ _ (by simpa using hbt.symm)]; exact htc
            go_wp2_with fail
            go_region_held3 (fun w' => w'.cell? ⟨b, 1 + c * 8 + q, none⟩ = some (.int .i64 (far2 c q)) ∧ w'.cell? ⟨tb, q * 8 + j, none⟩ = some (.int .i64 (len q j)))
              (first | go_keep | exact ⟨hS1, hS2⟩)
              (fail)
            have hM3 := HM2.out.setFar hc8 (show j < 8 by omega) (far2 c q + len q j)
            have hM3' : Making ((wr.setCell ⟨b, 1 + c * 8 + j, none⟩ (.int .i64 (far2 c q + len q j))).drew) b (.slice la n lc) (upd2 far2 c j (far2 c q + len q j)) next2 near := hM3.below rfl
            have hnx := hM3'.cNext j c (by omega) hc8
            have hfz2 := hM3'.free (65 + j * 8 + c)
            have hob : u8.ownBlock ≠ some b := fun e => by have := (Hm2.out.lt e).1; omega
            have hmA := ((((Hm2.out.setCell (a := ⟨b, 1 + c * 8 + j, none⟩) hob (.int .i64 (far2 c q + len q j))).setCell (a := ⟨b, 65 + j * 8 + c, none⟩) hob (.int .i64 (q : Int))).alloc (.cells #[.int .i64 (j : Int)] 3))).drew
            have HmA := Lib.hid hmA
            have hQl : Q2.length ≤ 1000000000000 := by have h1 := HMu2.out; have h2 := HMu.out; simp only [List.length_cons] at h2; omega
            have hbase : W.heap.size ≤ (((wr.setCell ⟨b, 1 + c * 8 + j, none⟩ (.int .i64 (far2 c q + len q j))).setCell ⟨b, 65 + j * 8 + c, none⟩ (.int .i64 (q : Int))).alloc (.cells #[.int .i64 (j : Int)] 3)).drew.heap.size := by
              have := HB2.out.size
              show _ ≤ (Array.push _ _).size
              rw [Array.size_push]
              simp [World.setCell]
              omega
            have Hbase := Lib.hid hbase
            have hcj := cell_newAt ((wr.setCell ⟨b, 1 + c * 8 + j, none⟩ (.int .i64 (far2 c q + len q j))).setCell ⟨b, 65 + j * 8 + c, none⟩ (.int .i64 (q : Int))) (.int .i64 (j : Int)) 3 wr.heap.size (by simp [World.setCell])
            have Hcj := Lib.hid hcj
            clear hmA hbase hcj
            go_wp2_with (at_builtin; refine append_int W.heap.size rfl _ _ rfl _ _ _ rfl HmA.out wr.heap.size 0 1 rfl (j : Int) Hcj.out hQl Hbase.out ?_; intro v' w5 hm5 hg5 hv5)
            go_roundw
            case rel => exact from_step hc8 hn hbW htW hbt (by omega) hlt hqn hld hbit (by simpa using hmet) HM2.out HT2.out HB2.out HBf2.out HF2.out HX2.out HMu2.out HQ2.out HBit2.out HNo2.out hg2 Hm2.out hm5 hg5 hv5
            case measure => simp [intOf]; omega
        · rw [if_neg hbit] at hba
          clear hbm
          go_wp2
          go_roundw
          case rel => exact ⟨j + 1, by omega, by go_num, ⟨m2, Q2, far2, next2, rfl, HM2.out, HT2.out, Hm2.out, HB2.out, HBf2.out.skip (.inl (by simpa using hbit)), HF2.out, HX2.out, HMu2.out, HQ2.out⟩, HBit2.out, HNo2.out, hg2⟩
          case measure => simp [intOf]; omega
      · obtain rfl : j = n := by omega
        go_wp2_with fail
        go_step3
        refine ⟨rfl, ⟨_, _, _, _, _, _, _, _, _, _, _, _, _, _, _, _, _, _, _, _, _, _, _, _, _, _, _, _, _, _, _, _, _, _, _, _, _, _, _, _, _, _, _, _, _, _, _, _, _, _, _, _, _, _, _, _, _, _, _, _, _, _, _, _, _, _, _, _, _, _, _, _, _, _, _, _, _, _, _, _, _, _, _, _, _, _, _, _, _, _, _, _, _, _, _, _, _, _, _, _, _, rfl, ⟨m2, Q2, far2, next2, rfl, HM2.out, HT2.out, Hm2.out, HB2.out, HBf2.out.done, HF2.out, HX2.out, ?_, trivial⟩⟩, ?_⟩
        · have h1 := HMu2.out
          have h2 := HMu.out
          simp only [List.length_cons] at h2
          omega
        · have h1 := HMu2.out
          have e2 : lenV u8 = Q2.length := by
            rcases Hm2.out.2 with ⟨rfl, h0⟩ | ⟨_, _, _, rfl, _⟩
            · exact h0.symm
            · rfl
          show 2 * (8 - popc (intOf (.int .u64 (m2 : Int))).toNat) + lenV u8 < 2 * (8 - popc (intOf (.int .u64 (m : Int))).toNat) + lenV (.slice (some ⟨g0, o0, none⟩) (Q.length + 1) cap)
          rw [e2]
          simp only [intOf, lenV, Int.toNat_natCast]
          omega

set_option maxRecDepth 1000000 in
set_option maxHeartbeats 2000000 in
theorem from_any (w : World) (b tb n c : Nat) (len : Nat → Nat → Int) (near : Nat → Nat) (far : Nat → Nat → Int) (next : Nat → Nat → Nat) (la : Option Addr) (lc : Nat) (hM : Making w b (.slice la n lc) far next near) (hT : Table w tb len) (hc : c < n) (hn : n ≤ 8) (hbt : tb ≠ b)
    (h0 : far c c = 0) (hlen : ∀ x y, x < n → y < n → 0 ≤ len x y ∧ len x y ≤ 9) (hnear : ∀ x, x < n → near x < 256) :
    Calls Try.prog 93 #[.pointer (some ⟨b, 0, none⟩), .int .i64 c, .pointer (some ⟨tb, 0, none⟩)] w (FromPost w b n c len near far next (.slice la n lc)) := by
  have hc8 : c < 8 := by omega
  have hbl := hM.lt
  have htl := World.block_lt_of_cell? w _ (hT.cell 0 0 (by omega) (by omega))
  have hix := idx_sets c hc8
  go_enter Try.func93, Try.ntmps93
  go_wp2
  refine wp_scope_jumps 0 (FromJ b tb c (FromR w b tb n c len near far next la lc 15 (fun _ => True) (fun _ _ => False))) (fun a' _ => FromMu a') rfl ?_ ?_
  · go_wp2_with (go_at_call 85; refine (sets_any _).mono ?_; rintro e w1 ⟨rfl, hb1⟩; (have hs := (hM.below (hb1.block b hbl)).cNext c c hc8 hc8); (have hfz := (hM.below (hb1.block b hbl)).free (65 + c * 8 + c)); (have hbl1 : b < w1.heap.size := Nat.lt_of_lt_of_le hbl hb1.size))
    go_step3
    have hM1 := (hM.below (hb1.block b hbl)).setNext hc8 hc8 c
    have hsz : (w1.setCell ⟨b, 65 + c * 8 + c, none⟩ (.int .i64 (c : Int))).heap.size = w1.heap.size := by simp [World.setCell]
    have hMd := Mine.made (w1.setCell ⟨b, 65 + c * 8 + c, none⟩ (.int .i64 (c : Int))) w.heap.size 1 #[.int .i64 (c : Int)] 3 1 (by rw [hsz]; exact hb1.size) (by simp [maxLen]) rfl
    rw [hsz] at hMd
    rename_i K0 hK0
    refine hK0 _ _ ?_
    show Code.wp Try.prog fromX _ _ _
    refine wp_mono (from_rest w _ b tb n c len near far next la lc hc hn hbl htl hbt hlen hnear 15 (by omega) _ _ _ _ _ _ _ _ _ _ _ _ _ _ _ _ _ _ _ _ _ _ _ _ _ _ _ _ _ _ _ _ _ _ _ _ _ _ _ _ _ _ _ _ _ _ _ _ _ _ _ _ _ _ _ _ _ _ _ _ _ _ _ _ _ _ _ _ _ _ _ _ _ _ _ _ _ _ _ _ _ _ _ _ _ _ _ _ _ _ _ _ _ _ _ _ _ _ _ _ _ (bodyPost Try.prog Try.f93 (FromPost w b n c len near far next (.slice la n lc))) ?_ ?_) ?_
    · exact fun a w h => h
    · refine ⟨2 ^ c, [c], far, upd2 next c c c, by simp, hM1.below (Below.heap_alloc _ _ _ (by rw [hsz]; exact hbl1)), ?_, hMd, ?_, Bfs.start hc hn h0 (by simp [upd2]), fun _ _ _ => rfl, fun x y hy => ?_, ?_, trivial⟩
      · refine (hT.below (hb1.block tb htl)).below ?_
        rw [Below.heap_alloc _ _ _ (by rw [hsz]; exact Nat.lt_of_lt_of_le htl hb1.size), Below.heap_setCell _ _ _ _ hbt]
      · refine (But.ofBelow hb1).trans ((But.setCell (o := 65 + c * 8 + c) w1 (.int .i64 (c : Int))).trans (But.ofBelow ?_))
        exact (Below.refl _ _).alloc (by rw [hsz]; exact hb1.size) _
      · simp only [upd2]
        rw [if_neg (fun e => hy e.2)]
      · rw [(popc_pow c hc8).1]
        simp
    · intro e a w' h
      cases e with
      | goto l => exact ⟨h.1, h.2.1⟩
      | _ => exact h
  · rintro a w2 ⟨met, todo, hJ⟩
    obtain ⟨u9, hJ⟩ := hJ
    obtain ⟨u10, hJ⟩ := hJ
    obtain ⟨u11, hJ⟩ := hJ
    obtain ⟨u12, hJ⟩ := hJ
    obtain ⟨u13, hJ⟩ := hJ
    obtain ⟨u14, hJ⟩ := hJ
    obtain ⟨u15, hJ⟩ := hJ
    obtain ⟨u16, hJ⟩ := hJ
    obtain ⟨u17, hJ⟩ := hJ
    obtain ⟨u18, hJ⟩ := hJ
    obtain ⟨u19, hJ⟩ := hJ
    obtain ⟨u20, hJ⟩ := hJ
    obtain ⟨u21, hJ⟩ := hJ
    obtain ⟨u22, hJ⟩ := hJ
    obtain ⟨u23, hJ⟩ := hJ
    obtain ⟨u24, hJ⟩ := hJ
    obtain ⟨u25, hJ⟩ := hJ
    obtain ⟨u26, hJ⟩ := hJ
    obtain ⟨u27, hJ⟩ := hJ
    obtain ⟨u28, hJ⟩ := hJ
    obtain ⟨u29, hJ⟩ := hJ
    obtain ⟨u30, hJ⟩ := hJ
    obtain ⟨u31, hJ⟩ := hJ
    obtain ⟨u32, hJ⟩ := hJ
    obtain ⟨u33, hJ⟩ := hJ
    obtain ⟨u34, hJ⟩ := hJ
    obtain ⟨u35, hJ⟩ := hJ
    obtain ⟨u36, hJ⟩ := hJ
    obtain ⟨u37, hJ⟩ := hJ
    obtain ⟨u38, hJ⟩ := hJ
    obtain ⟨u39, hJ⟩ := hJ
    obtain ⟨u40, hJ⟩ := hJ
    obtain ⟨u41, hJ⟩ := hJ
    obtain ⟨u42, hJ⟩ := hJ
    obtain ⟨u43, hJ⟩ := hJ
    obtain ⟨u44, hJ⟩ := hJ
    obtain ⟨u45, hJ⟩ := hJ
    obtain ⟨u46, hJ⟩ := hJ
    obtain ⟨u47, hJ⟩ := hJ
    obtain ⟨u48, hJ⟩ := hJ
    obtain ⟨u49, hJ⟩ := hJ
    obtain ⟨u50, hJ⟩ := hJ
    obtain ⟨u51, hJ⟩ := hJ
    obtain ⟨u52, hJ⟩ := hJ
    obtain ⟨u53, hJ⟩ := hJ
    obtain ⟨u54, hJ⟩ := hJ
    obtain ⟨u55, hJ⟩ := hJ
    obtain ⟨u56, hJ⟩ := hJ
    obtain ⟨u57, hJ⟩ := hJ
    obtain ⟨u58, hJ⟩ := hJ
    obtain ⟨u59, hJ⟩ := hJ
    obtain ⟨u60, hJ⟩ := hJ
    obtain ⟨u61, hJ⟩ := hJ
    obtain ⟨u62, hJ⟩ := hJ
    obtain ⟨u63, hJ⟩ := hJ
    obtain ⟨u64, hJ⟩ := hJ
    obtain ⟨u65, hJ⟩ := hJ
    obtain ⟨u66, hJ⟩ := hJ
    obtain ⟨u67, hJ⟩ := hJ
    obtain ⟨u68, hJ⟩ := hJ
    obtain ⟨u69, hJ⟩ := hJ
    obtain ⟨u70, hJ⟩ := hJ
    obtain ⟨u71, hJ⟩ := hJ
    obtain ⟨u72, hJ⟩ := hJ
    obtain ⟨u73, hJ⟩ := hJ
    obtain ⟨u74, hJ⟩ := hJ
    obtain ⟨u75, hJ⟩ := hJ
    obtain ⟨u76, hJ⟩ := hJ
    obtain ⟨u77, hJ⟩ := hJ
    obtain ⟨u78, hJ⟩ := hJ
    obtain ⟨u79, hJ⟩ := hJ
    obtain ⟨u80, hJ⟩ := hJ
    obtain ⟨u81, hJ⟩ := hJ
    obtain ⟨u82, hJ⟩ := hJ
    obtain ⟨u83, hJ⟩ := hJ
    obtain ⟨u84, hJ⟩ := hJ
    obtain ⟨u85, hJ⟩ := hJ
    obtain ⟨u86, hJ⟩ := hJ
    obtain ⟨u87, hJ⟩ := hJ
    obtain ⟨u88, hJ⟩ := hJ
    obtain ⟨u89, hJ⟩ := hJ
    obtain ⟨u90, hJ⟩ := hJ
    obtain ⟨u91, hJ⟩ := hJ
    obtain ⟨u92, hJ⟩ := hJ
    obtain ⟨u93, hJ⟩ := hJ
    obtain ⟨u94, hJ⟩ := hJ
    obtain ⟨u95, hJ⟩ := hJ
    obtain ⟨u96, hJ⟩ := hJ
    obtain ⟨u97, hJ⟩ := hJ
    obtain ⟨u98, hJ⟩ := hJ
    obtain ⟨u99, hJ⟩ := hJ
    obtain ⟨u100, hJ⟩ := hJ
    obtain ⟨u101, hJ⟩ := hJ
    obtain ⟨u102, hJ⟩ := hJ
    obtain ⟨u103, hJ⟩ := hJ
    obtain ⟨u104, hJ⟩ := hJ
    obtain ⟨u105, hJ⟩ := hJ
    obtain ⟨u106, hJ⟩ := hJ
    obtain ⟨u107, hJ⟩ := hJ
    obtain ⟨rfl, hR⟩ := hJ
    show Code.wp Try.prog (.seq .skip fromX) _ _ _
    refine wp_seq (wp_skip ?_)
    show Code.wp Try.prog fromX _ _ _
    refine wp_mono (from_rest w _ b tb n c len near far next la lc hc hn hbl htl hbt hlen hnear 15 (by omega) met todo u9 u10 u11 u12 u13 u14 u15 u16 u17 u18 u19 u20 u21 u22 u23 u24 u25 u26 u27 u28 u29 u30 u31 u32 u33 u34 u35 u36 u37 u38 u39 u40 u41 u42 u43 u44 u45 u46 u47 u48 u49 u50 u51 u52 u53 u54 u55 u56 u57 u58 u59 u60 u61 u62 u63 u64 u65 u66 u67 u68 u69 u70 u71 u72 u73 u74 u75 u76 u77 u78 u79 u80 u81 u82 u83 u84 u85 u86 u87 u88 u89 u90 u91 u92 u93 u94 u95 u96 u97 u98 u99 u100 u101 u102 u103 u104 u105 u106 u107 (bodyPost Try.prog Try.f93 (FromPost w b n c len near far next (.slice la n lc))) ?_ hR) ?_
    · exact fun a w h => h
    · intro e a w' h
      cases e with
      | normal => exact h
      | _ => exact h
end Go.Proofs.Ytkhkgmelicdpkaa

