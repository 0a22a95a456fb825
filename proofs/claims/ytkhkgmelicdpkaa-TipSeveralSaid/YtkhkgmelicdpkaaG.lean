/- The contract of package tip's laid: the lanes, the searches from all corners, the single corners. -/
import Derived.Test.YtkhkgmelicdpkaaF
import Derived.Test.YtkhkgmelicdpkaaN2
set_option linter.unusedVariables false
set_option linter.unusedSimpArgs false
namespace Go.Proofs.Ytkhkgmelicdpkaa
open Go.RowKit

theorem zc89 : Try.zeroCells89.toList = [.slice none 0 0] ++ List.replicate 128 (.int .i64 0) ++ List.replicate 8 (.int .u64 0) := by kernel_rfl

theorem making_start {w : World} {b : Nat} {lv : Value} {C : Array Value} {T : TypeId} (h : w.heap[b]? = some (.cells C T)) (hC : C.toList = lv :: (List.replicate 128 (.int .i64 0) ++ List.replicate 8 (.int .u64 0))) :
    Making w b lv (fun _ _ => 0) (fun _ _ => 0) (fun _ => 0) := by
  have hc : ∀ o, w.cell? ⟨b, o, none⟩ = C.toList[o]? := fun o => by simp only [World.cell?, h]; simp
  have hf : ∀ o, w.frozen? ⟨b, o, none⟩ = false := fun o => by simp only [World.frozen?, h]; simp
  refine ⟨by rw [hc, hC]; rfl, fun c k hc' hk => ?_, fun c k hc' hk => ?_, fun c hc' => ?_, hf⟩
  · rw [hc, hC, show 1 + c * 8 + k = (c * 8 + k) + 1 by omega, List.getElem?_cons_succ, List.getElem?_append_left (by rw [List.length_replicate]; omega), List.getElem?_replicate, if_pos (by omega)]
  · rw [hc, hC, show 65 + c * 8 + k = (64 + c * 8 + k) + 1 by omega, List.getElem?_cons_succ, List.getElem?_append_left (by rw [List.length_replicate]; omega), List.getElem?_replicate, if_pos (by omega)]
    rfl
  · rw [hc, hC, show 129 + c = (128 + c) + 1 by omega, List.getElem?_cons_succ, List.getElem?_append_right (by rw [List.length_replicate]; omega), List.length_replicate, List.getElem?_replicate, if_pos (by omega)]
    rfl

/-- A table that may be written. -/
structure TableW (w : World) (tb : Nat) (len : Nat → Nat → Int) : Prop where
  table : Table w tb len
  free : ∀ o, w.frozen? ⟨tb, o, none⟩ = false
theorem table_start {w : World} {b : Nat} {C : Array Value} {T : TypeId} (h : w.heap[b]? = some (.cells C T)) (hC : C.toList = List.replicate 64 (.int .i64 0)) : TableW w b (fun _ _ => 0) := by
  have hc : ∀ o, w.cell? ⟨b, o, none⟩ = C.toList[o]? := fun o => by simp only [World.cell?, h]; simp
  refine ⟨⟨fun c k hc' hk => ?_⟩, fun o => by simp only [World.frozen?, h]; simp⟩
  rw [hc, hC, List.getElem?_replicate, if_pos (by omega)]
theorem TableW.below {w w' : World} {b : Nat} {len : Nat → Nat → Int} (h : TableW w b len) (hs : w'.heap[b]? = w.heap[b]?) : TableW w' b len :=
  ⟨h.table.below hs, fun o => (World.frozen?_of_block (a := ⟨b, o, none⟩) hs).trans (h.free o)⟩
theorem TableW.set {w : World} {b : Nat} {len : Nat → Nat → Int} (h : TableW w b len) {c k : Nat} (hc : c < 8) (hk : k < 8) (x : Int) : TableW (w.setCell ⟨b, c * 8 + k, none⟩ (.int .i64 x)) b (upd2 len c k x) := by
  refine ⟨⟨fun c' k' hc' hk' => ?_⟩, fun o => by rw [World.frozen?_setCell]; exact h.free o⟩
  by_cases e : c' = c ∧ k' = k
  · obtain ⟨rfl, rfl⟩ := e
    rw [cell_eq (h.table.cell c' k' hc' hk')]
    simp [upd2]
  · rw [cell_ne (by omega), h.table.cell c' k' hc' hk']
    simp only [upd2, if_neg e]

/-- A store into block b, beside new blocks. -/
structure Stored (w w' : World) (b o : Nat) (v : Value) : Prop where
  os : w'.os = w.os
  tape : w'.tape = w.tape
  output : w'.output = w.output
  size : w.heap.size ≤ w'.heap.size
  block : ∀ k, k < w.heap.size → w'.heap[k]? = (w.setCell ⟨b, o, none⟩ v).heap[k]?
theorem Stored.mk' {w w1 : World} {b o : Nat} {v : Value} (h : Below w.heap.size w w1) (hb : b < w.heap.size) : Stored w (w1.setCell ⟨b, o, none⟩ v) b o v := by
  refine ⟨h.os, h.tape, h.output, by simp [World.setCell]; exact h.size, fun k hk => ?_⟩
  by_cases e : k = b
  · subst e
    simp only [World.setCell, Array.getElem?_modify, if_true]
    rw [h.block k hk]
  · rw [Below.heap_setCell _ _ _ _ e, Below.heap_setCell _ _ _ _ e]
    exact h.block k hk
theorem Stored.drew {w w' : World} {b o : Nat} {v : Value} (h : Stored w w' b o v) : Stored w w'.drew b o v := ⟨h.os, h.tape, h.output, h.size, h.block⟩

set_option maxHeartbeats 400000 in
theorem within_yes (a lo hi : Int) (w : World) (h1 : lo ≤ a) (h2 : a ≤ hi) : Calls Try.prog 84 #[.int .i64 a, .int .i64 lo, .int .i64 hi] w fun e w' => e = .returned (.bool true) ∧ w = w' := by
  go_enter Try.func84, Try.ntmps84
  go_wp2
  go_ret
  exact ⟨rfl, rfl⟩
set_option maxHeartbeats 400000 in
theorem within_no (a lo hi : Int) (w : World) (h : ¬ (lo ≤ a ∧ a ≤ hi)) : Calls Try.prog 84 #[.int .i64 a, .int .i64 lo, .int .i64 hi] w fun e w' => e = .returned (.bool false) ∧ w = w' := by
  by_cases h1 : lo ≤ a
  · have h2 : ¬ a ≤ hi := fun h2 => h ⟨h1, h2⟩
    clear h
    go_enter Try.func84, Try.ntmps84
    go_wp2
    go_ret
    exact ⟨rfl, rfl⟩
  · clear h
    go_enter Try.func84, Try.ntmps84
    go_wp2
    go_ret
    exact ⟨rfl, rfl⟩

def LaidPost (w : World) (L : List Int) (N : List Lane) (cs : List Int) (e : Ending) (w' : World) : Prop :=
  Below w.heap.size w w' ∧ ((laidCode L N cs ≠ 0 ∧ e = .returned (.tuple #[.pointer none, .int .i64 (laidCode L N cs)])) ∨
    (laidCode L N cs = 0 ∧ ∃ (b : Nat) (far : Nat → Nat → Int) (next : Nat → Nat → Nat), e = .returned (.tuple #[.pointer (some ⟨b, 0, none⟩), .int .i64 0]) ∧ w.heap.size ≤ b ∧ Town w' b L far next (nearK N N.length) ∧
      ∀ c, c < L.length → Rooted L.length (lenK N N.length) (nearK N N.length) c (far c) (fun k => next k c)))

theorem laidBad_post {w w' : World} {L : List Int} {N : List Lane} {cs : List Int} {e : Ending} {c : Int} (h : LaidBad w c e w') (hc : c ≠ 0) (he : laidCode L N cs = c) : LaidPost w L N cs e w' :=
  ⟨h.2, .inl ⟨by rw [he]; exact hc, by rw [he]; exact h.1⟩⟩

theorem cells3_newAt (w : World) (a b c : Value) (T k : Nat) (h : k = w.heap.size) : (w.alloc (.cells #[a, b, c] T)).drew.cell? ⟨k, 0, none⟩ = some a ∧ (w.alloc (.cells #[a, b, c] T)).drew.cell? ⟨k, 1, none⟩ = some b ∧ (w.alloc (.cells #[a, b, c] T)).drew.cell? ⟨k, 2, none⟩ = some c := by
  subst h
  refine ⟨?_, ?_, ?_⟩
  · show (w.alloc (.cells #[a, b, c] T)).cell? ⟨w.heap.size, 0, none⟩ = some a
    simp
  · show (w.alloc (.cells #[a, b, c] T)).cell? ⟨w.heap.size, 1, none⟩ = some b
    simp
  · show (w.alloc (.cells #[a, b, c] T)).cell? ⟨w.heap.size, 2, none⟩ = some c
    simp

theorem Stored.making {w w' : World} {b : Nat} {lv : Value} {far : Nat → Nat → Int} {next : Nat → Nat → Nat} {near : Nat → Nat} {c x : Nat} (h : Stored w w' b (129 + c) (.int .u64 (x : Int))) (hM : Making w b lv far next near) (hc : c < 8) : Making w' b lv far next (upd near c x) :=
  (hM.setNear hc x).below (h.block b hM.lt)
theorem Stored.other {w w' : World} {b o : Nat} {v : Value} (h : Stored w w' b o v) {k : Nat} (hk : k < w.heap.size) (hb : k ≠ b) : w'.heap[k]? = w.heap[k]? :=
  (h.block k hk).trans (Below.heap_setCell _ _ _ _ hb)
theorem Stored.below {w w' : World} {b o B : Nat} {v : Value} (h : Stored w w' b o v) (hB : B ≤ b) (hw : B ≤ w.heap.size) : Below B w w' :=
  ⟨h.os, h.tape, h.output, h.size, fun k hk => h.other (by omega) (by omega)⟩

def LaneRel (w : World) (b tb : Nat) (lv : Value) (n : Nat) (N : List Lane) (iv : Value) (wr : World) : Prop :=
  ∃ k : Nat, k ≤ N.length ∧ iv = .int .i64 (k : Int) ∧ lanesCode n N k = 0 ∧ Making wr b lv (fun _ _ => 0) (fun _ _ => 0) (nearK N k) ∧ TableW wr tb (lenK N k) ∧ Below w.heap.size w wr

theorem lane_step {w W3 w' : World} {b tb n k x y : Nat} {lv : Value} {L : List Int} {N : List Lane} (hlc : lanesCode L.length N k = 0) (hN : N.length = n) (hL : L.length = n + 1) (hlt : k < n) (hn8 : n + 1 ≤ 8) (hx : (getT N k).1 = (x : Int)) (hy : (getT N k).2.1 = (y : Int)) (hxy : x < y) (hyn : y < n + 1) (hd : 1 ≤ (getT N k).2.2 ∧ (getT N k).2.2 ≤ 9)
    (hT : TableW W3 tb (lenK N (k + 1))) (hM : Making W3 b lv (fun _ _ => 0) (fun _ _ => 0) (upd (nearK N k) x (nearK N k x ||| 2 ^ y))) (hB : Below w.heap.size w W3) (hb : w.heap.size + 1 = b ∧ tb = b + 1 ∧ tb < W3.heap.size) (hst : Stored W3 w' b (129 + y) (.int .u64 ((nearK N k y ||| 2 ^ x : Nat) : Int))) :
    LaneRel w b tb lv L.length N (.int .i64 ((k : Int) + 1)) w' := by
  refine ⟨k + 1, by omega, by rw [Int.natCast_add]; rfl, ?_, ?_, ?_, ?_⟩
  · simp only [lanesCode]
    rw [if_neg (by rw [hlc]; simp)]
    unfold laneBad
    rw [if_neg (by omega), if_neg (by omega), if_neg (by omega)]
  · have e : nearK N (k + 1) = upd (upd (nearK N k) x (nearK N k x ||| 2 ^ y)) y (nearK N k y ||| 2 ^ x) := by
      simp only [nearK, hx, hy, Int.toNat_natCast]
    rw [e]
    exact hst.making hM (by omega)
  · exact hT.below (hst.other hb.2.2 (by omega))
  · exact hB.trans (hst.below (by omega) hB.size)

def FromYes (W : World) (b n c : Nat) (len : Nat → Nat → Int) (near : Nat → Nat) (far0 : Nat → Nat → Int) (next0 : Nat → Nat → Nat) (lv : Value) (e : Ending) (w' : World) : Prop :=
  e = .returned (.bool true) ∧ ∃ (far : Nat → Nat → Int) (next : Nat → Nat → Nat), Making w' b lv far next near ∧ But W.heap.size b W w' ∧ (∀ x y, x ≠ c → far x y = far0 x y) ∧ (∀ x y, y ≠ c → next x y = next0 x y) ∧ Rooted n len near c (far c) (fun k => next k c)
theorem from_yes (w : World) (b tb n c : Nat) (len : Nat → Nat → Int) (near : Nat → Nat) (far : Nat → Nat → Int) (next : Nat → Nat → Nat) (la : Option Addr) (lc : Nat) (hM : Making w b (.slice la n lc) far next near) (hT : Table w tb len) (hc : c < n) (hn : n ≤ 8) (hbt : tb ≠ b)
    (h0 : far c c = 0) (hlen : ∀ x y, x < n → y < n → 0 ≤ len x y ∧ len x y ≤ 9) (hnear : ∀ x, x < n → near x < 256) (hA : AllFrom n near c) :
    Calls Try.prog 93 #[.pointer (some ⟨b, 0, none⟩), .int .i64 c, .pointer (some ⟨tb, 0, none⟩)] w (FromYes w b n c len near far next (.slice la n lc)) := by
  refine (from_any w b tb n c len near far next la lc hM hT hc hn hbt h0 hlen hnear).mono ?_
  rintro e w' ⟨ok, far', next', rfl, h1, h2, h3, h4, h5, h6⟩
  cases ok with
  | true => exact ⟨rfl, far', next', h1, h2, h3, h4, (h5 rfl).1⟩
  | false => exact absurd hA (h6 rfl)
def FromNo (W : World) (b : Nat) (e : Ending) (w' : World) : Prop := e = .returned (.bool false) ∧ But W.heap.size b W w'
theorem from_no (w : World) (b tb n c : Nat) (len : Nat → Nat → Int) (near : Nat → Nat) (far : Nat → Nat → Int) (next : Nat → Nat → Nat) (la : Option Addr) (lc : Nat) (hM : Making w b (.slice la n lc) far next near) (hT : Table w tb len) (hc : c < n) (hn : n ≤ 8) (hbt : tb ≠ b)
    (h0 : far c c = 0) (hlen : ∀ x y, x < n → y < n → 0 ≤ len x y ∧ len x y ≤ 9) (hnear : ∀ x, x < n → near x < 256) (hA : ¬ AllFrom n near c) :
    Calls Try.prog 93 #[.pointer (some ⟨b, 0, none⟩), .int .i64 c, .pointer (some ⟨tb, 0, none⟩)] w (FromNo w b) := by
  refine (from_any w b tb n c len near far next la lc hM hT hc hn hbt h0 hlen hnear).mono ?_
  rintro e w' ⟨ok, far', next', rfl, h1, h2, h3, h4, h5, h6⟩
  cases ok with
  | true => exact absurd (h5 rfl).2 hA
  | false => exact ⟨rfl, h2⟩

def AllRel (w : World) (b tb : Nat) (lv : Value) (n : Nat) (len : Nat → Nat → Int) (near : Nat → Nat) (iv : Value) (wr : World) : Prop :=
  ∃ (c : Nat) (far : Nat → Nat → Int) (next : Nat → Nat → Nat), c ≤ n ∧ iv = .int .i64 (c : Int) ∧ Making wr b lv far next near ∧ Table wr tb len ∧ Below w.heap.size w wr ∧ (∀ c', c' < c → Rooted n len near c' (far c') (fun k => next k c') ∧ AllFrom n near c') ∧ (∀ c', c ≤ c' → far c' c' = 0)

theorem all_step {w wr w' : World} {b tb n c : Nat} {lv : Value} {len : Nat → Nat → Int} {near : Nat → Nat} {far far' : Nat → Nat → Int} {next next' : Nat → Nat → Nat} (hc : c < n) (hM : Making w' b lv far' next' near) (hT : Table wr tb len) (hBt : But wr.heap.size b wr w') (hB : Below w.heap.size w wr) (hb : w.heap.size ≤ b ∧ tb ≠ b ∧ tb < wr.heap.size)
    (hf : ∀ x y, x ≠ c → far' x y = far x y) (hx : ∀ x y, y ≠ c → next' x y = next x y) (hr : Rooted n len near c (far' c) (fun k => next' k c)) (hA : AllFrom n near c) (ho : ∀ c', c' < c → Rooted n len near c' (far c') (fun k => next k c') ∧ AllFrom n near c') (hz : ∀ c', c ≤ c' → far c' c' = 0) :
    AllRel w b tb lv n len near (.int .i64 ((c : Int) + 1)) w' := by
  refine ⟨c + 1, far', next', by omega, by rw [Int.natCast_add]; rfl, hM, hT.below (hBt.block tb hb.2.2 hb.2.1), hB.trans (hBt.below hB.size hb.1), fun c' hc' => ?_, fun c' hc' => ?_⟩
  · by_cases e : c' = c
    · subst e; exact ⟨hr, hA⟩
    · have e1 : far' c' = far c' := by funext y; exact hf c' y e
      have e2 : (fun k => next' k c') = fun k => next k c' := by funext y; exact hx y c' e
      rw [e1, e2]
      exact ho c' (by omega)
  · rw [hf c' c' (by omega)]
    exact hz c' (by omega)

def CornerRel (n : Nat) (cs : List Int) (iv : Value) : Prop := ∃ k : Nat, k ≤ cs.length ∧ iv = .int .i64 (k : Int) ∧ ∀ i, i < k → 0 ≤ gI cs i ∧ gI cs i ≤ (n : Int) - 1

theorem corner_step {k j : Nat} {cs : List Int} (hjl : j < cs.length) (hw : 0 ≤ gI cs j ∧ gI cs j ≤ (k : Int)) (h : ∀ i, i < j → 0 ≤ gI cs i ∧ gI cs i ≤ ((k + 1 : Nat) : Int) - 1) : CornerRel (k + 1) cs (.int .i64 ((j : Int) + 1)) := by
  refine ⟨j + 1, by omega, by rw [Int.natCast_add]; rfl, fun i hi => ?_⟩
  rcases Nat.lt_or_ge i j with h' | h'
  · exact h i h'
  · obtain rfl : i = j := by omega
    omega

set_option maxRecDepth 100000 in
set_option maxHeartbeats 8000000 in
theorem laid_main (w : World) (ca : Option Addr) (cc : Nat) (L : List Int) (N : List Lane) (n : Nat) (cap lb lo : Nat) (na : Option Addr) (ncap nb no : Nat) (hn8 : n + 1 ≤ 8) (hNn : N.length = n)
    (hcl : ∀ i, i < n + 1 → w.cell? ⟨lb, lo + i, none⟩ = some (.int .i64 (gI L i))) (hna : n = 0 ∨ na = some ⟨nb, no, none⟩)
    (hcn : ∀ i, i < n → w.cell? ⟨nb, no + i * 3, none⟩ = some (.int .i64 (getT N i).1) ∧ w.cell? ⟨nb, no + i * 3 + 1, none⟩ = some (.int .i64 (getT N i).2.1) ∧ w.cell? ⟨nb, no + i * 3 + 2, none⟩ = some (.int .i64 (getT N i).2.2))
    (h1 : ¬ mnF (gI L) n < 0) (h2 : ¬ 9 < mxF (gI L) n) (hLn : L.length = n + 1) (hhead : headCode L N = 0) (cs : List Int) (cb co : Nat) (hcl12 : cs.length ≤ 1000000000000) (hca : cs.length = 0 ∨ ca = some ⟨cb, co, none⟩) (hcc : ∀ i, i < cs.length → w.cell? ⟨cb, co + i, none⟩ = some (.int .i64 (gI cs i))) :
    Calls Try.prog 66 #[.agg #[.slice (some ⟨lb, lo, none⟩) (n + 1) cap, .slice na n ncap], .slice ca cs.length cc] w (LaidPost w L N cs) := by
  have HC := Lib.hid hcl
  have hz : ((n : Int) + 1 == 0) = false := by rw [beq_eq_false_iff_ne]; omega
  have h8' : ¬ (8 : Int) < (n : Int) + 1 := by omega
  have HN := Lib.hid hNn
  have HL := Lib.hid hcn
  have HNA := Lib.hid hna
  have HCC := Lib.hid hcc
  have HCA := Lib.hid hca
  have HLn := Lib.hid hLn
  have HHd := Lib.hid hhead
  clear hNn hcl hcn hna hcc hca hLn hhead
  go_enter Try.func66, Try.ntmps66
  go_wp2_with (first | (go_at_call 90; refine (min_any _ lb lo n cap (gI L) (by omega) (by exact fun k hk => Below.cellOf ((Below.refl _ _).alloc (Nat.le_refl _) _) (HC.out k hk))).mono ?_; rintro e w1 ⟨rfl, rfl⟩) | (go_at_call 61; refine (max_any _ lb lo n cap (gI L) (by omega) (by exact fun k hk => Below.cellOf ((Below.refl _ _).alloc (Nat.le_refl _) _) (HC.out k hk))).mono ?_; rintro e w1 ⟨rfl, rfl⟩))
  go_loopw [48] (LaneRel w (w.heap.size + 1) (w.heap.size + 1 + 1) (.slice (some ⟨lb, lo, none⟩) (n + 1) cap) L.length N) (fun i _ => n - (intOf i).toNat)
  case atStart =>
    refine ⟨0, Nat.zero_le _, rfl, rfl, ?_, ?_, ?_⟩
    · refine making_start (C := Try.zeroCells89.setIfInBounds 0 (.slice (some ⟨lb, lo, none⟩) (n + 1) cap)) (T := 89) ?_ ?_
      · rw [Below.heap_alloc _ _ _ (by simp)]
        have := heap_alloc_new (w.alloc (.cells #[.slice (some ⟨lb, lo, none⟩) (n + 1) cap, .slice na n ncap] 25)) (.cells (Try.zeroCells89.setIfInBounds 0 (.slice (some ⟨lb, lo, none⟩) (n + 1) cap)) 89)
        simpa using this
      · rw [Array.toList_setIfInBounds, zc89]
        rfl
    · refine table_start (C := Array.replicate 64 (.int .i64 0)) (T := 85) ?_ (by simp)
      rw [show w.heap.size + 1 + 1 = ((w.alloc (.cells #[.slice (some ⟨lb, lo, none⟩) (n + 1) cap, .slice na n ncap] 25)).alloc (.cells (Try.zeroCells89.setIfInBounds 0 (.slice (some ⟨lb, lo, none⟩) (n + 1) cap)) 89)).heap.size by simp]
      exact heap_alloc_new _ _
    · exact (((Below.refl _ _).alloc (Nat.le_refl _) _).alloc (by simp) _).alloc (by simp; omega) _
  case round =>
    obtain ⟨k, hk, rfl, hlc, hM, hT, hB⟩ := hrel
    have HLc := Lib.hid hlc
    have HM := Lib.hid hM
    have HT := Lib.hid hT
    clear hlc hM hT
    by_cases hlt : k < n
    · obtain rfl : na = some ⟨nb, no, none⟩ := HNA.out.resolve_left (by omega)
      obtain ⟨hc0, hc1, hc2⟩ := HL.out k hlt
      have hc0' := Below.cellOf hB hc0
      have hc1' := Below.cellOf hB hc1
      have hc2' := Below.cellOf hB hc2
      clear hc0 hc1 hc2
      have herr : ∀ c : Int, laneBad L.length (getT N k) = c → c ≠ 0 → laidCode L N cs = c := fun c h1 h2 => laneErr HHd.out HLc.out (by have := HN.out; omega) h1 h2
      have hnn : (L.length : Int) - 1 = (n : Int) := by have := HLn.out; omega
      have Herr := Lib.hid herr
      have Hnn := Lib.hid hnn
      clear herr hnn
      by_cases hA : ¬ (0 ≤ (getT N k).1 ∧ (getT N k).1 ≤ (n : Int))
      · go_wp2_with (first | (go_at_call_of 84 (Value.int .i64 (getT N k).1); refine (within_no _ _ _ _ hA).mono ?_; rintro e w1 ⟨rfl, rfl⟩))
        go_ret2
        exact laidBad_post (c := 2) ⟨rfl, hB.alloc hB.size _⟩ (by omega) (Herr.out _ (by unfold laneBad; rw [Hnn.out, if_pos (.inl hA)]) (by omega))
      · have hA' : 0 ≤ (getT N k).1 ∧ (getT N k).1 ≤ (n : Int) := Decidable.not_not.1 hA
        clear hA
        by_cases hB1 : ¬ (0 ≤ (getT N k).2.1 ∧ (getT N k).2.1 ≤ (n : Int))
        · go_wp2_with (first | (go_at_call_of 84 (Value.int .i64 (getT N k).1); refine (within_yes _ _ _ _ hA'.1 hA'.2).mono ?_; rintro e w1 ⟨rfl, rfl⟩) | (go_at_call_of 84 (Value.int .i64 (getT N k).2.1); refine (within_no _ _ _ _ hB1).mono ?_; rintro e w1 ⟨rfl, rfl⟩))
          go_ret2
          exact laidBad_post (c := 2) ⟨rfl, hB.alloc hB.size _⟩ (by omega) (Herr.out _ (by unfold laneBad; rw [Hnn.out, if_pos (.inr hB1)]) (by omega))
        · have hB1' : 0 ≤ (getT N k).2.1 ∧ (getT N k).2.1 ≤ (n : Int) := Decidable.not_not.1 hB1
          clear hB1
          have hno2 : ¬ (¬ (0 ≤ (getT N k).1 ∧ (getT N k).1 ≤ (n : Int)) ∨ ¬ (0 ≤ (getT N k).2.1 ∧ (getT N k).2.1 ≤ (n : Int))) := by omega
          have Hno2 := Lib.hid hno2
          clear hno2
          by_cases hC : (getT N k).2.1 ≤ (getT N k).1
          · go_wp2_with (first | (go_at_call_of 84 (Value.int .i64 (getT N k).1); refine (within_yes _ _ _ _ hA'.1 hA'.2).mono ?_; rintro e w1 ⟨rfl, rfl⟩) | (go_at_call_of 84 (Value.int .i64 (getT N k).2.1); refine (within_yes _ _ _ _ hB1'.1 hB1'.2).mono ?_; rintro e w1 ⟨rfl, rfl⟩))
            go_ret2
            exact laidBad_post (c := 7) ⟨rfl, hB.alloc hB.size _⟩ (by omega) (Herr.out _ (by unfold laneBad; rw [Hnn.out, if_neg Hno2.out, if_pos hC]) (by omega))
          · have HC1 := Lib.hid hC
            by_cases hD : ¬ (1 ≤ (getT N k).2.2 ∧ (getT N k).2.2 ≤ 9)
            · go_wp2_with (first | (go_at_call_of 84 (Value.int .i64 (getT N k).1); refine (within_yes _ _ _ _ hA'.1 hA'.2).mono ?_; rintro e w1 ⟨rfl, rfl⟩) | (go_at_call_of 84 (Value.int .i64 (getT N k).2.1); refine (within_yes _ _ _ _ hB1'.1 hB1'.2).mono ?_; rintro e w1 ⟨rfl, rfl⟩) | (go_at_call_of 84 (Value.int .i64 (getT N k).2.2); refine (within_no _ _ _ _ hD).mono ?_; rintro e w1 ⟨rfl, rfl⟩))
              go_ret2
              exact laidBad_post (c := 1) ⟨rfl, hB.alloc hB.size _⟩ (by omega) (Herr.out _ (by unfold laneBad; rw [Hnn.out, if_neg Hno2.out, if_neg (by have := HC1.out; omega), if_pos hD]) (by omega))
            · have hD' : 1 ≤ (getT N k).2.2 ∧ (getT N k).2.2 ≤ 9 := Decidable.not_not.1 hD
              clear hD
              obtain ⟨x, hx⟩ : ∃ x : Nat, (getT N k).1 = (x : Int) := ⟨(getT N k).1.toNat, by omega⟩
              obtain ⟨y, hy⟩ : ∃ y : Nat, (getT N k).2.1 = (y : Int) := ⟨(getT N k).2.1.toNat, by omega⟩
              rw [hx] at hc0' hA' hC
              rw [hy] at hc1' hB1' hC
              have HXY := Lib.hid (And.intro hx hy)
              clear hx hy
              have hxn : x < y := by omega
              have hyn : y < n + 1 := by omega
              have i1 : (0 : Int) ≤ (x : Int) := by omega
              have i2 : (x : Int) < 8 := by omega
              have i3 : (0 : Int) ≤ (y : Int) := by omega
              have i4 : (y : Int) < 8 := by omega
              have ht1 := HT.out.table.cell x y (by omega) (by omega)
              have ht2 := HT.out.table.cell y x (by omega) (by omega)
              have hf1 := HT.out.free (x * 8 + y)
              have hf2 := HT.out.free (y * 8 + x)
              have htl : w.heap.size + 1 + 1 < wr.heap.size := World.block_lt_of_cell? wr _ ht1
              go_wp2_with (first | (go_at_call_of 84 (Value.int .i64 (x : Int)); refine (within_yes _ _ _ _ hA'.1 hA'.2).mono ?_; rintro e w1 ⟨rfl, rfl⟩) | (go_at_call_of 84 (Value.int .i64 (y : Int)); refine (within_yes _ _ _ _ hB1'.1 hB1'.2).mono ?_; rintro e w1 ⟨rfl, rfl⟩) | (go_at_call_of 84 (Value.int .i64 (getT N k).2.2); refine (within_yes _ _ _ _ hD'.1 hD'.2).mono ?_; rintro e w1 ⟨rfl, rfl⟩))
              have hne : w.heap.size + 1 + 1 ≠ wr.heap.size := by omega
              have hne2 : wr.heap.size ≠ w.heap.size + 1 + 1 := by omega
              have hK1 := cells3_newAt (wr.setCell ⟨w.heap.size + 1 + 1, x * 8 + y, none⟩ (.int .i64 (getT N k).2.2)) (.int .i64 (x : Int)) (.int .i64 (y : Int)) (.int .i64 (getT N k).2.2) 58 wr.heap.size (by simp [World.setCell])
              have hK2 := cells3_newAt ((wr.setCell ⟨w.heap.size + 1 + 1, x * 8 + y, none⟩ (.int .i64 (getT N k).2.2)).setCell ⟨w.heap.size + 1 + 1, y * 8 + x, none⟩ (.int .i64 (getT N k).2.2)) (.int .i64 (x : Int)) (.int .i64 (y : Int)) (.int .i64 (getT N k).2.2) 58 wr.heap.size (by simp [World.setCell])
              go_region_held3 (fun w' => w'.cell? ⟨wr.heap.size, 0, none⟩ = some (.int .i64 (x : Int)) ∧ w'.cell? ⟨wr.heap.size, 1, none⟩ = some (.int .i64 (y : Int)) ∧ w'.cell? ⟨wr.heap.size, 2, none⟩ = some (.int .i64 (getT N k).2.2))
                (first | go_keep | exact hK1 | exact hK2)
                (fail)
              have hT1 := (HT.out.set (show x < 8 by omega) (show y < 8 by omega) (getT N k).2.2).set (show y < 8 by omega) (show x < 8 by omega) (getT N k).2.2
              have hlen : upd2 (upd2 (lenK N k) x y (getT N k).2.2) y x (getT N k).2.2 = lenK N (k + 1) := by
                simp only [lenK, HXY.out.1, HXY.out.2, Int.toNat_natCast]
              rw [hlen] at hT1
              have hsz : ((wr.setCell ⟨w.heap.size + 1 + 1, x * 8 + y, none⟩ (.int .i64 (getT N k).2.2)).setCell ⟨w.heap.size + 1 + 1, y * 8 + x, none⟩ (.int .i64 (getT N k).2.2)).heap.size = wr.heap.size := by simp [World.setCell]
              obtain ⟨W2, hW2⟩ : ∃ W2, W2 = ((((wr.setCell ⟨w.heap.size + 1 + 1, x * 8 + y, none⟩ (.int .i64 (getT N k).2.2)).setCell ⟨w.heap.size + 1 + 1, y * 8 + x, none⟩ (.int .i64 (getT N k).2.2)).alloc (.cells #[.int .i64 (x : Int), .int .i64 (y : Int), .int .i64 (getT N k).2.2] 58)).drew) := ⟨_, rfl⟩
              have hT2 : TableW W2 (w.heap.size + 1 + 1) (lenK N (k + 1)) := by rw [hW2]; exact hT1.below (Below.heap_alloc _ _ _ (by rw [hsz]; exact htl))
              have hM2 : Making W2 (w.heap.size + 1) (.slice (some ⟨lb, lo, none⟩) (n + 1) cap) (fun _ _ => 0) (fun _ _ => 0) (nearK N k) := by
                rw [hW2]
                refine HM.out.below ?_
                show (World.alloc _ _).heap[_]? = _
                rw [Below.heap_alloc _ _ _ (by rw [hsz]; omega), Below.heap_setCell _ _ _ _ (by simp), Below.heap_setCell _ _ _ _ (by simp)]
              have hB2 : Below w.heap.size w W2 := by
                rw [hW2]
                exact (((hB.setCell (by simp; omega) _).setCell (by simp; omega) _).alloc (by rw [hsz]; exact hB.size) _).drew
              have hW2s : W2.heap.size = wr.heap.size + 1 := by
                rw [hW2]
                show (Array.push _ _).size = _
                rw [Array.size_push, hsz]
              rw [← hW2] at hK2 ⊢
              clear hW2 hK1 hT1 hlen hsz ht1 ht2 hf1 hf2 hc0' hc1' hc2'
              have hnb := nearK_lt (n := n + 1) hn8 k (fun j hj => by have := lanesGood HLc.out j hj; rw [HLn.out] at this; exact this)
              have hnc := hM2.cNear x (by omega)
              have hnf := hM2.free (129 + x)
              have hbo := bits_or_pow (nearK N k x) y (hnb x) (by omega)
              have hix := idx_sets y (by omega)
              obtain ⟨hk1, hk2, hk3⟩ := hK2
              have hbl2 : w.heap.size + 1 < W2.heap.size := by omega
              go_wp2_with fail
              go_cut [] (fun wx => Stored W2 wx (w.heap.size + 1) (129 + x) (.int .u64 ((nearK N k x ||| 2 ^ y : Nat) : Int)))
              case first =>
                go_region_with (go_at_call 85; refine (sets_any _).mono ?_; rintro e w1 ⟨rfl, hb1⟩; (have q1 := Below.cellOf hb1 hk1); (have q2 := Below.cellOf hb1 hk2); (have q4 := Below.cellOf hb1 hnc); (have q5 := (hb1.frozen (p := ⟨w.heap.size + 1, 129 + x, none⟩) hbl2).trans hnf))
                all_goals (go_wp2_with fail; go_meet; first | exact Stored.mk' ((Below.refl _ W2).drew.trans hb1) hbl2 | exact (Stored.mk' ((Below.refl _ W2).drew.trans hb1) hbl2).drew)
              case rest =>
                obtain ⟨W3, rfl⟩ : ∃ W3 : World, W3 = wc := ⟨_, rfl⟩
                have hM3 := hcut.making hM2 (show x < 8 by omega)
                have hT3 := hT2.below (hcut.other (k := w.heap.size + 1 + 1) (by omega) (by omega))
                have hB3 := hB2.trans (hcut.below (B := w.heap.size) (by omega) (by omega))
                have hl3 := hcut.other (k := wr.heap.size) (by omega) (by omega)
                have hk1' := (World.cell?_of_block (a := ⟨wr.heap.size, 0, none⟩) hl3).trans hk1
                have hk2' := (World.cell?_of_block (a := ⟨wr.heap.size, 1, none⟩) hl3).trans hk2
                have hs3 := hcut.size
                have hnc' := hM3.cNear y (by omega)
                have hyx : upd (nearK N k) x (nearK N k x ||| 2 ^ y) y = nearK N k y := by simp only [upd]; rw [if_neg (by omega)]
                rw [hyx] at hnc'
                have hnf' := hM3.free (129 + y)
                have HM3 := Lib.hid hM3
                have HT3 := Lib.hid hT3
                have hbo' := bits_or_pow (nearK N k y) x (hnb y) (by omega)
                have hix' := idx_sets x (by omega)
                have hbl3 : w.heap.size + 1 < W3.heap.size := by omega
                clear hbo hix hk1 hk2 hk3 hnc hnf hyx hl3 hcut hM3 hT3 hM2 hT2
                go_wp2_with fail
                go_region_with (go_at_call 85; refine (sets_any _).mono ?_; rintro e w1 ⟨rfl, hb1⟩; (have q1 := Below.cellOf hb1 hk1'); (have q2 := Below.cellOf hb1 hk2'); (have q4 := Below.cellOf hb1 hnc'); (have q5 := (hb1.frozen (p := ⟨w.heap.size + 1, 129 + y, none⟩) hbl3).trans hnf'))
                all_goals
                  go_wp2_with fail
                  have hst := Stored.mk' (o := 129 + y) (v := .int .u64 ((nearK N k y ||| 2 ^ x : Nat) : Int)) ((Below.refl _ W3).drew.trans hb1) hbl3
                  go_roundw
                  case rel => exact lane_step HLc.out HN.out HLn.out hlt hn8 HXY.out.1 HXY.out.2 hxn hyn hD' HT3.out HM3.out hB3 (by omega) hst
                  case measure => simp [intOf]; omega
    · obtain rfl : k = n := by have := HN.out; omega
      have hN := HN.out
      have hgood : ∀ j, j < k → laneBad ((k + 1 : Nat) : Int) (getT N j) = 0 := fun j hj => by have := lanesGood HLc.out j hj; rw [HLn.out] at this; exact this
      have hlenb := lenK_bound (n := k + 1) k hgood
      have hnb := nearK_lt (n := k + 1) hn8 k hgood
      have hsym := nearK_symm (n := k + 1) k hgood
      have Hsym := Lib.hid hsym
      have Hnb := Lib.hid hnb
      have Hlb := Lib.hid hlenb
      clear hN hgood hlenb hnb hsym
      obtain ⟨wo, rfl⟩ : ∃ wo : World, wo = wr := ⟨_, rfl⟩
      go_wp2
      go_loopw [126] (AllRel w (w.heap.size + 1) (w.heap.size + 1 + 1) (.slice (some ⟨lb, lo, none⟩) (k + 1) cap) (k + 1) (lenK N k) (nearK N k)) (fun i _ => k + 1 - (intOf i).toNat)
      case atStart => exact ⟨0, _, _, Nat.zero_le _, rfl, HM.out, HT.out.table, hB, fun c' hc' => by omega, fun _ _ => rfl⟩
      case round =>
        obtain ⟨c, far, next, hcn, rfl, hM2, hT2, hB2, hro, hze⟩ := hrel
        have HM2 := Lib.hid hM2
        have HT2 := Lib.hid hT2
        have HRo := Lib.hid hro
        have HZe := Lib.hid hze
        clear hM2 hT2 hro hze
        by_cases hclt : c < k + 1
        · by_cases hA : AllFrom (k + 1) (nearK N k) c
          · go_wp2_with (go_at_call 93; refine (from_yes wr (w.heap.size + 1) (w.heap.size + 1 + 1) (k + 1) c (lenK N k) (nearK N k) far next _ cap HM2.out HT2.out hclt hn8 (by omega) (HZe.out c (Nat.le_refl _)) (fun x y _ _ => Hlb.out x y) (fun x _ => Hnb.out x) hA).mono ?_; rintro e w1 ⟨rfl, far', next', hM3, hB3, hf3, hx3, hr3⟩)
            go_roundw
            case rel => exact all_step hclt hM3 HT2.out hB3 hB2 ⟨by omega, by omega, World.block_lt_of_cell? wr _ (HT2.out.cell 0 0 (by omega) (by omega))⟩ hf3 hx3 hr3 hA HRo.out HZe.out
            case measure => simp [intOf]; omega
          · go_wp2_with (go_at_call 93; refine (from_no wr (w.heap.size + 1) (w.heap.size + 1 + 1) (k + 1) c (lenK N k) (nearK N k) far next _ cap HM2.out HT2.out hclt hn8 (by omega) (HZe.out c (Nat.le_refl _)) (fun x y _ _ => Hlb.out x y) (fun x _ => Hnb.out x) hA).mono ?_; rintro e w1 ⟨rfl, hB3⟩)
            go_ret2
            refine laidBad_post (c := 5) ⟨rfl, hB2.trans (hB3.below hB2.size (by omega))⟩ (by omega) ?_
            have e : checkCode L N = 5 := by
              unfold checkCode
              rw [if_neg (by rw [HHd.out]; simp), HN.out, if_neg (by rw [HLc.out]; simp), if_neg (fun h => hA (by rw [HLn.out] at h; exact allFrom_of Hsym.out (by omega) hclt h))]
            unfold laidCode
            rw [e, if_pos (by omega)]
        · obtain rfl : c = k + 1 := by omega
          have hcode : checkCode L N = 0 := by
            refine checkCode_ok HHd.out (by rw [HN.out]; exact HLc.out) ?_
            rw [HN.out, HLn.out]
            exact (HRo.out 0 (by omega)).2
          have Hcode := Lib.hid hcode
          clear hcode
          go_wp2
          go_loop [136] (CornerRel (k + 1) cs) (fun i => cs.length - (intOf i).toNat)
          case atStart => exact ⟨0, Nat.zero_le _, rfl, fun i hi => by omega⟩
          case round =>
            obtain ⟨j, hj, rfl, hjs⟩ := hrel
            have HJ := Lib.hid hjs
            have HM2 := HM2
            clear hjs
            by_cases hjl : j < cs.length
            · obtain rfl : ca = some ⟨cb, co, none⟩ := HCA.out.resolve_left (by omega)
              have hcc := Below.cellOf hB2 (HCC.out j hjl)
              by_cases hw : 0 ≤ gI cs j ∧ gI cs j ≤ (k : Int)
              · go_wp2_with (go_at_call 84; refine (within_yes _ _ _ _ hw.1 hw.2).mono ?_; rintro e w1 ⟨rfl, rfl⟩)
                go_round
                case rel =>
                  refine ⟨trivial, ?_⟩
                  repeat apply Exists.intro
                  exact ⟨corner_step hjl hw HJ.out, rfl⟩
                case measure => simp [intOf]; omega
              · go_wp2_with (go_at_call 84; refine (within_no _ _ _ _ hw).mono ?_; rintro e w1 ⟨rfl, rfl⟩)
                go_ret2
                refine laidBad_post (c := 2) ⟨rfl, hB2⟩ (by omega) ?_
                rw [laidCode_ok Hcode.out]
                unfold cornersCode
                rw [HLn.out, if_neg (fun h => hw (by have := h j hjl; omega))]
            · obtain rfl : j = cs.length := by omega
              go_wp2
              go_ret2
              have hcz : laidCode L N cs = 0 := by
                rw [laidCode_ok Hcode.out]
                unfold cornersCode
                rw [HLn.out, if_pos HJ.out]
              have h1' := HM2.out
              refine ⟨hB2, .inr ⟨hcz, w.heap.size + 1, far, next, rfl, by omega, ⟨⟨_, h1'.cLoads, ?_⟩, fun c k hc hk => h1'.cFar c k (by have := HLn.out; omega) (by have := HLn.out; omega), fun c k hc hk => h1'.cNext c k (by have := HLn.out; omega) (by have := HLn.out; omega), ?_, ?_⟩, ?_⟩⟩
              · have e := HLn.out
                rw [← e]
                exact ⟨by omega, _, _, lb, lo, rfl, .inr rfl, fun i hi => Below.cellOf hB2 (HC.out i (by omega))⟩
              · rw [HN.out]; exact fun c hc => h1'.cNear c (by have := HLn.out; omega)
              · rw [HN.out]; exact fun c _ => Hnb.out c
              · rw [HN.out, HLn.out]
                exact fun c hc => (HRo.out c hc).1

/-- laid: for whatever market and corners. -/
theorem laid_any (w : World) (m cv : Value) (L : List Int) (N : List Lane) (cs : List Int) (hm : Mkt w m L N) (hc : Ints w cv cs) : Calls Try.prog 66 #[m, cv] w (LaidPost w L N cs) := by
  by_cases hh : headCode L N = 0
  · have hm' := hm
    obtain ⟨lv, nv, rfl, ⟨hl12, a, cap, lb, lo, rfl, ha, hcl⟩, hn12, na, ncap, nb, no, rfl, hna, hcn⟩ := hm'
    obtain ⟨hc12, ca, cc, cb, co, rfl, hca, hcc⟩ := hc
    have hh' := hh
    unfold headCode at hh'
    split at hh'
    · cases hh'
    · rename_i h0
      split at hh'
      · cases hh'
      · rename_i h8
        split at hh'
        · cases hh'
        · rename_i hr
          split at hh'
          · cases hh'
          · rename_i hN
            obtain ⟨n, hn⟩ : ∃ n, L.length = n + 1 := ⟨L.length - 1, by omega⟩
            have hNn : N.length = n := by omega
            obtain rfl : a = some ⟨lb, lo, none⟩ := ha.resolve_left (by omega)
            have hr' : ¬ mnF (gI L) n < 0 ∧ ¬ 9 < mxF (gI L) n := by
              rw [show L.length - 1 = n by omega] at hr
              exact ⟨fun h => hr (.inl h), fun h => hr (.inr h)⟩
            have := laid_main w ca cc L N n cap lb lo na ncap nb no (by omega) hNn (fun i hi => hcl i (by omega)) (by rw [hNn] at hna; exact hna) (fun i hi => hcn i (by omega)) hr'.1 hr'.2 hn hh cs cb co hc12 hca hcc
            rw [hn, hNn]
            exact this
  · refine (laid_head w m cv L N hm hh).mono fun e w' h => ?_
    refine laidBad_post h hh ?_
    have e1 : checkCode L N = headCode L N := by
      unfold checkCode
      rw [if_pos hh]
    unfold laidCode
    rw [e1, if_pos hh]
end Go.Proofs.Ytkhkgmelicdpkaa
