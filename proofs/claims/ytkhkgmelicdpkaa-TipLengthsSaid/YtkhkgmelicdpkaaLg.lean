/- The walk of TipLengths: for every sketch and other lengths it returns true. -/
import Derived.Test.YtkhkgmelicdpkaaCl
import Derived.Test.YtkhkgmelicdpkaaPe
import Derived.Test.YtkhkgmelicdpkaaBk
import Derived.Test.YtkhkgmelicdpkaaHf
set_option linter.unusedVariables false
set_option linter.unusedSimpArgs false
namespace Go.Proofs.Ytkhkgmelicdpkaa
open Go.RowKit Go.BigFrame

theorem lane_shape {w : World} {base n : Nat} {v : Value} {xs : List Value} (h : Mine w base 3 v n xs) : ∃ a c, v = .slice a n c := by
  rcases h.2 with ⟨rfl, rfl⟩ | ⟨g, o, cap, rfl, _⟩
  · exact ⟨_, _, rfl⟩
  · exact ⟨_, _, rfl⟩
theorem row_shape {w : World} {base n : Nat} {v : Value} {xs : List Value} (h : Mine w base 1 v n xs) : ∃ a c, v = .slice a n c := by
  rcases h.2 with ⟨rfl, rfl⟩ | ⟨g, o, cap, rfl, _⟩
  · exact ⟨_, _, rfl⟩
  · exact ⟨_, _, rfl⟩

/-- The second market of the law. -/
def OtherSt (W : World) (L : List Int) (N : List Lane) (pv : Value) (wx : World) : Prop :=
  ∃ g va vc ya yc, pv = .pointer (some ⟨g, 0, none⟩) ∧ wx.cell? ⟨g, 0, none⟩ = some (.slice va L.length vc) ∧ wx.cell? ⟨g, 1, none⟩ = some (.slice ya N.length yc) ∧ Mine wx W.heap.size 1 (.slice va L.length vc) L.length (L.map (Value.int .i64)) ∧
    Mine wx W.heap.size 3 (.slice ya N.length yc) N.length (laneVals N) ∧ (∀ b, (Value.slice ya N.length yc).ownBlock = some b → b ≠ g ∧ (Value.slice va L.length vc).ownBlock ≠ some b) ∧ W.heap.size ≤ g ∧ Below W.heap.size W wx
/-- A cell that holds a nil slice and may be written. -/
def Free (w : World) (p : Addr) : Prop := w.cell? p = some (.slice none 0 0) ∧ w.frozen? p = false
theorem Free.of {w w' : World} (hb : Below w.heap.size w w') {p : Addr} (h : Free w p) : Free w' p := ⟨Below.cellOf hb h.1, (hb.frozen (World.block_lt_of_cell? w p h.1)).trans h.2⟩
theorem new2 (w : World) : Free (w.alloc (.cells #[.slice none 0 0, .slice none 0 0] 25)) ⟨w.heap.size, 0, none⟩ ∧ Free (w.alloc (.cells #[.slice none 0 0, .slice none 0 0] 25)) ⟨w.heap.size, 1, none⟩ := by
  refine ⟨⟨?_, ?_⟩, ?_, ?_⟩ <;> simp
theorem cell_rule {w w' : World} (h : Below w.heap.size w w') : ∀ b i : Nat, b < w.heap.size → w'.cell? ⟨b, i, none⟩ = w.cell? ⟨b, i, none⟩ := fun b i hb => h.cell (p := ⟨b, i, none⟩) hb
theorem free_rule {w w' : World} (h : Below w.heap.size w w') : ∀ b i : Nat, b < w.heap.size → w'.frozen? ⟨b, i, none⟩ = w.frozen? ⟨b, i, none⟩ := fun b i hb => h.frozen (p := ⟨b, i, none⟩) hb
theorem below_then {w w' w2 : World} (h2 : Below w'.heap.size w' w2) (h : Below w.heap.size w w') : Below w.heap.size w w2 := h.trans (h2.mono h.size)
theorem other_core {W w2 w3 : World} {L : List Int} {N : List Lane} {va ya : Option Addr} {vc yc g B2 B3 : Nat} (hb3 : Below W.heap.size W w3) (hW2 : W.heap.size ≤ w2.heap.size) (hB2 : W.heap.size ≤ B2) (hB3 : w2.heap.size ≤ B3) (hv2 : Mine w2 B2 1 (.slice va L.length vc) L.length (L.map (Value.int .i64))) (hv3 : Mine w3 B3 3 (.slice ya N.length yc) N.length (laneVals N)) (h23 : Below w2.heap.size w2 w3)
    (m0 : Free w3 ⟨g, 0, none⟩) (m1 : Free w3 ⟨g, 1, none⟩) (hg : W.heap.size ≤ g) (hg2 : ∀ b, (Value.slice va L.length vc).ownBlock = some b → b ≠ g) (hg3 : g < B3) :
    OtherSt W L N (.pointer (some ⟨g, 0, none⟩)) ((w3.setCell ⟨g, 0, none⟩ (.slice va L.length vc)).setCell ⟨g, 1, none⟩ (.slice ya N.length yc)) := by
  have n2 : ∀ b, (Value.slice va L.length vc).ownBlock = some b → b < w2.heap.size := fun b e => (hv2.lt e).2
  have n3 : ∀ b, (Value.slice ya N.length yc).ownBlock = some b → B3 ≤ b := fun b e => (hv3.lt e).1
  have e1 : (w3.setCell ⟨g, 0, none⟩ (.slice va L.length vc)).cell? ⟨g, 1, none⟩ = some (.slice none 0 0) := (cell_ne (by omega)).trans m1.1
  refine ⟨g, va, vc, ya, yc, rfl, (cell_ne (by omega)).trans (cell_eq m0.1), cell_eq e1, ?_, ?_, fun b e => ⟨?_, fun e' => ?_⟩, hg, (hb3.setCell hg _).setCell hg _⟩
  · refine (((hv2.below h23).setCell (fun e => hg2 _ e rfl) _).setCell (fun e => hg2 _ e rfl) _).base hB2
  · refine ((hv3.setCell (fun e => ?_) _).setCell (fun e => ?_) _).base ?_
    · have := n3 _ e; simp at this; omega
    · have := n3 _ e; simp at this; omega
    · omega
  · have := n3 b e; omega
  · have := n3 b e; have := n2 b e'; omega
theorem other_late {W w2 w3 : World} {L : List Int} {N : List Lane} {va ya : Option Addr} {vc yc B2 B3 : Nat} (hb3 : Below W.heap.size W w3) (hW2 : W.heap.size ≤ w2.heap.size) (hB2 : W.heap.size ≤ B2) (hB3 : w2.heap.size ≤ B3) (hv2 : Mine w2 B2 1 (.slice va L.length vc) L.length (L.map (Value.int .i64))) (hv3 : Mine w3 B3 3 (.slice ya N.length yc) N.length (laneVals N)) (h23 : Below w2.heap.size w2 w3) :
    OtherSt W L N (.pointer (some ⟨w3.heap.size, 0, none⟩)) (w3.alloc (.cells #[.slice va L.length vc, .slice ya N.length yc] 25)) := by
  have n2 : ∀ b, (Value.slice va L.length vc).ownBlock = some b → b < w2.heap.size := fun b e => (hv2.lt e).2
  have n3 : ∀ b, (Value.slice ya N.length yc).ownBlock = some b → B3 ≤ b ∧ b < w3.heap.size := fun b e => hv3.lt e
  refine ⟨w3.heap.size, va, vc, ya, yc, rfl, by simp, by simp, ((hv2.below h23).alloc _).base hB2, (hv3.alloc _).base (by omega), fun b e => ⟨?_, fun e' => ?_⟩, hb3.size, hb3.alloc hb3.size _⟩
  · have := n3 b e; omega
  · have := n3 b e; have := n2 b e'; omega

def newLen (f : Nat → Nat) (i : Nat) : Int := 1 + ((f i % 9 : Nat) : Int)
def LgRel (W : World) (L : List Int) (N : List Lane) (f : Nat → Nat) (g : Nat) (va : Option Addr) (vc : Nat) (ya : Option Addr) (yc : Nat) (iv : Value) (wr : World) : Prop :=
  ∃ i : Nat, i ≤ N.length ∧ iv = .int .i64 (i : Int) ∧ wr.cell? ⟨g, 0, none⟩ = some (.slice va L.length vc) ∧ wr.cell? ⟨g, 1, none⟩ = some (.slice ya N.length yc) ∧ Mine wr W.heap.size 1 (.slice va L.length vc) L.length (L.map (Value.int .i64)) ∧
    Mine wr W.heap.size 3 (.slice ya N.length yc) N.length (laneVals (lenSet N (newLen f) i)) ∧ Below W.heap.size W wr

theorem med_ne {L : List Int} {N : List Lane} {far : Nat → Nat → Int} {next : Nat → Nat → Nat} (T : Tree L.length (Adj N) (lenK N N.length) far next) (hL : ∀ c, c < L.length → 0 ≤ gI L c ∧ gI L c ≤ 9) (h1 : 1 ≤ L.length) : 1 ≤ (medL L N next).length := by
  rw [← least_med T hL h1]
  obtain ⟨j, hj, ej⟩ := mnF_is (gI (costsL L far L.length)) (L.length - 1)
  refine List.length_pos_iff.2 (List.ne_nil_of_mem (a := j) ?_)
  unfold leastL
  rw [costsL_length, List.mem_filter]
  exact ⟨List.mem_range.2 (by omega), by rw [decide_eq_true_eq]; exact ej.symm⟩
theorem med_all {L : List Int} {N : List Lane} {next : Nat → Nat → Nat} (hpos : ∀ c, c < L.length → 0 ≤ gI L c) (h : sumF (gI L) L.length = 0) : (medL L N next).length = L.length := by
  have e : medL L N next = List.range L.length := List.filter_eq_self.2 fun c hc => (light_iff c).2 (light_zero hpos h c)
  rw [e, List.length_range]
theorem ret_way {w : World} {l : List Nat} {F : FuncId} {args : Array Value} (h : Calls Try.prog F args w (RetList w l 0)) (hl : 1 ≤ l.length) : Calls Try.prog F args w (RetWay w l) := by
  refine h.mono fun e w' => ?_
  rintro ⟨v, rfl, hv, hbw⟩
  obtain ⟨g, o, cap, rfl, hst⟩ := list_open hv hl
  have e1 : l.length = l.length - 1 + 1 := by omega
  refine ⟨g, o, cap, l.length - 1, ?_, e1, hst, hbw⟩
  rw [← e1]
def LMax (ML : List Nat) (far : Nat → Nat → Int) (i x y : Nat) : Prop := ∀ p q c d : Nat, p < i → ML[p]? = some c → ML[q]? = some d → far c d ≤ far x y
def LIn (ML : List Nat) (far : Nat → Nat → Int) (i j x y : Nat) : Prop := ∀ q c d : Nat, q < j → ML[i]? = some c → ML[q]? = some d → far c d ≤ far x y
def LoRel (W : World) (ML : List Nat) (far : Nat → Nat → Int) (k : Nat) (iv xv yv : Value) (wr : World) : Prop := ∃ i x y : Nat, i ≤ k + 1 ∧ iv = .int .i64 (i : Int) ∧ xv = .int .i64 (x : Int) ∧ yv = .int .i64 (y : Int) ∧ x ∈ ML ∧ y ∈ ML ∧ LMax ML far i x y ∧ Below W.heap.size W wr
def LiRel (W : World) (ML : List Nat) (far : Nat → Nat → Int) (k i : Nat) (iv xv yv : Value) (wr : World) : Prop := ∃ j x y : Nat, j ≤ k + 1 ∧ iv = .int .i64 (j : Int) ∧ xv = .int .i64 (x : Int) ∧ yv = .int .i64 (y : Int) ∧ x ∈ ML ∧ y ∈ ML ∧ LMax ML far i x y ∧ LIn ML far i j x y ∧ Below W.heap.size W wr
theorem lmax_up {ML : List Nat} {far : Nat → Nat → Int} {i x y c d : Nat} (h : LMax ML far i x y) (hg : far x y < far c d) : LMax ML far i c d := fun p q a b hp h1 h2 => by have := h p q a b hp h1 h2; omega
theorem lin_up {ML : List Nat} {far : Nat → Nat → Int} {i j x y c d : Nat} (h : LIn ML far i j x y) (hg : far x y < far c d) (hc : ML[i]? = some c) (hd : ML[j]? = some d) : LIn ML far i (j + 1) c d := fun q a b hq h1 h2 => by
  rcases Nat.lt_or_ge q j with h' | h'
  · have := h q a b h' h1 h2; omega
  · obtain rfl : q = j := by omega
    rw [hc] at h1; rw [hd] at h2
    cases h1; cases h2
    exact Int.le_refl _
theorem lin_same {ML : List Nat} {far : Nat → Nat → Int} {i j x y c d : Nat} (h : LIn ML far i j x y) (hg : far c d ≤ far x y) (hc : ML[i]? = some c) (hd : ML[j]? = some d) : LIn ML far i (j + 1) x y := fun q a b hq h1 h2 => by
  rcases Nat.lt_or_ge q j with h' | h'
  · exact h q a b h' h1 h2
  · obtain rfl : q = j := by omega
    rw [hc] at h1; rw [hd] at h2
    cases h1; cases h2
    exact hg
theorem lmax_next {ML : List Nat} {far : Nat → Nat → Int} {i k x y : Nat} (hk : ML.length = k + 1) (h : LMax ML far i x y) (h2 : LIn ML far i (k + 1) x y) : LMax ML far (i + 1) x y := fun p q c d hp h3 h4 => by
  rcases Nat.lt_or_ge p i with h' | h'
  · exact h p q c d h' h3 h4
  · obtain rfl : p = i := by omega
    exact h2 q c d (by rw [← hk]; exact (List.getElem?_eq_some_iff.1 h4).1) h3 h4
theorem lg_step {W wr : World} {L : List Int} {N : List Lane} {f : Nat → Nat} {g i d gy oy cy vc : Nat} {va : Option Addr} (hi : i < N.length) (hd : d = f i % 9) (d0 : wr.cell? ⟨g, 0, none⟩ = some (.slice va L.length vc)) (d1 : wr.cell? ⟨g, 1, none⟩ = some (.slice (some ⟨gy, oy, none⟩) N.length cy))
    (hmv : Mine wr W.heap.size 1 (.slice va L.length vc) L.length (L.map (Value.int .i64))) (hmn : Mine wr W.heap.size 3 (.slice (some ⟨gy, oy, none⟩) N.length cy) N.length (laneVals (lenSet N (newLen f) i)))
    (hap : ∀ b, (Value.slice (some ⟨gy, oy, none⟩) N.length cy).ownBlock = some b → b ≠ g ∧ (Value.slice va L.length vc).ownBlock ≠ some b) (hg : W.heap.size ≤ g) (hb : Below W.heap.size W wr) :
    LgRel W L N f g va vc (some ⟨gy, oy, none⟩) cy (.int .i64 ((i : Int) + 1)) (wr.setCell ⟨gy, oy + i * 3 + 2, none⟩ (.int .i64 (1 + (d : Int)))).drew := by
  obtain ⟨a1, a2⟩ := hap gy rfl
  have hgy := (hmn.lt (g := gy) rfl).1
  have hoth : ∀ k, k ≠ gy → (wr.setCell ⟨gy, oy + i * 3 + 2, none⟩ (.int .i64 (1 + (d : Int)))).heap[k]? = wr.heap[k]? := fun k hk => Below.heap_setCell _ _ _ _ (by show k ≠ gy; exact hk)
  refine ⟨i + 1, by omega, by rw [Int.natCast_add]; rfl, (World.cell?_of_block (a := ⟨g, 0, none⟩) (hoth g (Ne.symm a1))).trans d0, (World.cell?_of_block (a := ⟨g, 1, none⟩) (hoth g (Ne.symm a1))).trans d1, (hmv.setCell (fun e => a2 e) _).drew, ?_, (hb.setCell hgy _).drew⟩
  have hp := (hmn.put (j := i * 3 + 2) (by omega) (.int .i64 (1 + (d : Int)))).drew
  have e : laneVals (lenSet N (newLen f) (i + 1)) = (laneVals (lenSet N (newLen f) i)).set (i * 3 + 2) (.int .i64 (1 + (d : Int))) := by
    have h1 := laneVals_set (lenSet N (newLen f) i) i (newLen f i) (by rw [lenSet_length]; exact hi)
    rw [lenSet_at N (newLen f) i (by omega) i, if_neg (by omega)] at h1
    rw [lenSet, h1, hd]
    rfl
  rw [e]
  exact hp

set_option maxRecDepth 100000 in
set_option maxHeartbeats 8000000 in
theorem lengths_law (w : World) (sa : Array Value) (co : Nat) (lo ba le : Nat → Nat) (hs : SkA sa co lo ba le) (qa : Array Value) (f : Nat → Nat) (hqs : qa.size = 8) (hq : ∀ i, f i < 256 ∧ (i < 8 → qa[i]? = some (.int .u8 (f i : Int)))) : Calls Try.prog 15 #[.agg sa, .agg qa] w (Ret w (.bool true)) := by
  have HS := Lib.hid hs
  have HQ := Lib.hid hq
  clear hs hq
  go_enter Try.func15, Try.ntmps15
  go_wp2_with (first
    | ((with_reducible show wpList _ _ _ (⟨_, Op.load 52 _, _, _, _, _⟩ :: _) _ _); refine list_load25 rfl _ rfl w.heap.size rfl sa (by exact (Below.heap_alloc _ _ _ (by simp)).trans (heap_alloc_new _ _)) HS.out.size ?_)
    | (go_at_call 37; refine (made_sl _ sa co lo ba le 8 HS.out (by omega) (by omega)).mono ?_; rintro e w1 ⟨lb, lof, lc, na, nc, fc, L, N, far, next, rfl, hm, hf, h0, hR, hl1, hl8, hlane, hb⟩; (have HM := Lib.hid hm); (have HF := Lib.hid hf); (have H0 := Lib.hid h0); (have HR := Lib.hid hR); clear hm hf h0 hR hlane)
    | ((with_reducible show wpList _ _ _ (⟨_, Op.store 54 _ _, _, _, _, _⟩ :: _) _ _); refine list_sk (by rfl) _ _ (by rfl) (by rfl) (by rfl) (by rfl) HM.out HF.out ?_; intro W hS hBW; (have c0 := hS.c0); (have c1 := hS.c1)))
  have HSW := Lib.hid hS
  have HQ1 := Lib.hid (show (w.alloc (.cells sa 52)).alloc (.cells qa 50) = ((w.alloc (.cells sa 52)).alloc (.cells qa 50)) from rfl)
  have HB1 := Lib.hid (((((Below.refl w.heap.size w).alloc (Nat.le_refl _) (.cells sa 52)).alloc (new_size _ _) (.cells qa 50)).trans (hb.mono (Nat.le_trans (new_size _ _) (new_size _ _)))).trans (hBW.mono (Nat.le_trans (Nat.le_trans (new_size _ _) (new_size _ _)) hb.size)))
  have hqc : ∀ i, i < 8 → W.cell? ⟨w.heap.size + 1, i, none⟩ = some (.int .u8 (f i : Int)) := fun i hi => by
    have h1 : ((w.alloc (.cells sa 52)).alloc (.cells qa 50)).cell? ⟨w.heap.size + 1, i, none⟩ = some (.int .u8 (f i : Int)) := by
      refine (cell_of (cs := qa) (t := 50) (fr := (0, 0)) ?_ i).trans ((HQ.out i).2 hi)
      have := heap_alloc_new (w.alloc (.cells sa 52)) (.cells qa 50)
      simpa using this
    exact Below.cellOf hBW (Below.cellOf hb h1)
  have HQC := Lib.hid hqc
  have hg1 : w1.heap.size < W.heap.size := World.block_lt_of_cell? W _ c0
  have hN8 : N.length ≤ 1000 := by have := (valid_of H0.out).lanes; omega
  clear hqc hS hb hBW HM
  have hg2 : w1.heap.size < W.heap.size + 1 := by omega
  have hg3 : ¬ (w1.heap.size = W.heap.size) := by omega
  have K64 : Hid (∀ w', Below W.heap.size W w' → Calls Try.prog 64 #[.slice (some ⟨lb, lof, none⟩) L.length lc] w' fun e w'' => ∃ v, e = .returned v ∧ Mine w'' w'.heap.size 1 v L.length (L.map (Value.int .i64)) ∧ Below w'.heap.size w' w'') := Lib.hid (fun w' hb => clone_any w' lb lof lc L (fun j hj => (HSW.out.below hb).load hj) (by omega))
  have K65 : Hid (∀ w', Below W.heap.size W w' → Calls Try.prog 65 #[.slice na N.length nc] w' fun e w'' => ∃ v, e = .returned v ∧ Mine w'' w'.heap.size 3 v N.length (laneVals N) ∧ Below w'.heap.size w' w'') := Lib.hid (fun w' hb => clone_lanes w' na nc N (mkt_n ((HSW.out.below hb).mkt)) hN8)
  go_wp2_with fail
  go_cut [7] (fun pv wx => OtherSt W L N pv wx)
  case first =>
    go_region_with (first
      | (go_at_call 64; refine (K64.out _ (by first | exact (Below.refl _ _).drew | exact (Below.refl _ _).drew.alloc (Nat.le_refl _) _ | exact ((Below.refl _ _).alloc (Nat.le_refl _) _).drew)).mono ?_; rintro e w2 ⟨v2, rfl, hv2, hb2⟩; obtain ⟨va, vc, rfl⟩ := row_shape hv2; (have HB2 := Lib.hid (below_then (w := W) hb2 (by first | exact (Below.refl _ _).drew | exact (Below.refl _ _).drew.alloc (Nat.le_refl _) _ | exact ((Below.refl _ _).alloc (Nat.le_refl _) _).drew))); (have g4 : w1.heap.size < w2.heap.size := by have := HB2.out.size; omega); (have g5 : ¬ (w1.heap.size = w2.heap.size) := by omega); (have g8 : W.heap.size ≤ w2.heap.size := HB2.out.size); (have c0 := Below.cellOf HB2.out c0); (have c1 := Below.cellOf HB2.out c1); (try (have m0 := Free.of hb2 (new2 W).1)); (try (have m1 := Free.of hb2 (new2 W).2)); (try (have n0 := m0.1)); (try (have n1 := m1.1)); (try (have x0 := m0.2)); (try (have x1 := m1.2)))
      | (go_at_call 65; refine (K65.out _ (by first | exact HB2.out | exact HB2.out.alloc HB2.out.size _)).mono ?_; rintro e w3 ⟨v3, rfl, hv3, hb3⟩; obtain ⟨ya, yc, rfl⟩ := lane_shape hv3; (have HB3 := Lib.hid (below_then (w := W) hb3 (by first | exact HB2.out | exact HB2.out.alloc HB2.out.size _))); (have g6 : w1.heap.size < w3.heap.size := by have := HB3.out.size; omega); (have g7 : ¬ (w1.heap.size = w3.heap.size) := by omega); (try (have m2 := Free.of hb3 m0)); (try (have m3 := Free.of hb3 m1)); (try (have m2 := Free.of hb3 (new2 w2).1)); (try (have m3 := Free.of hb3 (new2 w2).2)); (try (have n2 := m2.1)); (try (have n3 := m3.1)); (try (have x2 := m2.2)); (try (have x3 := m3.2))))
    all_goals
      go_wp2_with fail
      go_meet
      have z1 : W.heap.size ≤ w2.heap.size := HB2.out.size
      have z2 : Below w2.heap.size w2 w3 := by first | exact hb3 | exact (Below.one w2 _).trans (hb3.mono (new_size _ _))
      first
        | (refine other_late HB3.out z1 ?_ ?_ hv2 hv3 z2 <;> first | exact Nat.le_refl _ | exact new_size _ _)
        | (refine other_core HB3.out z1 ?_ ?_ hv2 hv3 z2 m2 m3 ?_ ?_ ?_
           · first | exact Nat.le_refl _ | exact new_size _ _
           · first | exact Nat.le_refl _ | exact new_size _ _
           · first | exact Nat.le_refl _ | exact z1
           · first | exact (fun b e => Nat.ne_of_lt (hv2.lt e).2) | exact (fun b e => by have := (hv2.lt e).1; simp at this; omega)
           · first | exact (by have := hb2.size; simp at this; omega) | exact (by simp))
  case rest =>
    obtain ⟨g, va, vc, ya, yc, rfl, d0, d1, hmv, hmn, hap, hgW, hbo⟩ := hcut
    have HMV := Lib.hid hmv
    have HMN := Lib.hid hmn
    have HAP := Lib.hid hap
    have HBO := Lib.hid hbo
    clear hmv hmn hap hbo c0 c1 K64 K65
    go_wp2_with fail
    go_loopw [37] (LgRel W L N f g va vc ya yc) (fun i _ => N.length - (intOf i).toNat)
    case atStart => exact ⟨0, Nat.zero_le _, rfl, d0, d1, HMV.out, HMN.out, HBO.out⟩
    case round =>
      obtain ⟨i, hi, rfl, d0', d1', hmv, hmn, hbr⟩ := hrel
      have HMV2 := Lib.hid hmv
      have HMN2 := Lib.hid hmn
      have HBR := Lib.hid hbr
      clear d0 d1 hmv hmn hbr
      by_cases hlt : i < N.length
      · obtain ⟨gy, oy, cy, e1, e2, e3, e4, e5, e6, e7⟩ : ∃ gy oy cap, (Value.slice ya N.length yc) = .slice (some ⟨gy, oy, none⟩) N.length cap ∧ W.heap.size ≤ gy ∧ N.length ≤ cap ∧ cap ≤ maxLen ∧ gy < wr.heap.size ∧ (∀ j, j < N.length * 3 → wr.cell? ⟨gy, oy + j, none⟩ = (laneVals (lenSet N (newLen f) i))[j]?) ∧ ∀ j, j < cap * 3 → (wr.cell? ⟨gy, oy + j, none⟩).isSome = true ∧ wr.frozen? ⟨gy, oy + j, none⟩ = false := by
          rcases HMN2.out.2 with ⟨_, h0⟩ | h
          · omega
          · exact h
        simp only [Value.slice.injEq] at e1
        obtain ⟨rfl, _, rfl⟩ := e1
        have hN7 : N.length + 1 ≤ 8 := by have := (valid_of H0.out).lanes; omega
        have qf := Below.cellOf HBR.out (HQC.out i (by omega))
        have hf256 := (HQ.out i).1
        obtain ⟨d, hd⟩ : ∃ d : Nat, d = f i % 9 := ⟨_, rfl⟩
        have ef : (f i : Int).tmod 9 = (d : Int) := by rw [hd]; exact (Int.ofNat_tmod (f i) 9).symm
        have ew : IntKind.i64.wrap (f i : Int) = (f i : Int) := by rw [IntKind.wrap_i64]; omega
        have hd9 : d < 9 := by rw [hd]; exact Nat.mod_lt _ (by omega)
        obtain ⟨ov, hov⟩ := Option.isSome_iff_exists.1 (e7 (i * 3 + 2) (by omega)).1
        have hfr := (e7 (i * 3 + 2) (by omega)).2
        rw [← Nat.add_assoc] at hov hfr
        have i1 : (0 : Int) ≤ (i : Int) := by omega
        have i2 : (i : Int) < (N.length : Int) := by omega
        have i3 : (i : Int) < 8 := by omega
        have HD := Lib.hid hd
        have HG := Lib.hid (And.intro e2 e5)
        clear e6 e7 e2 e3 e4 e5 hd
        go_wp2
        go_region
        all_goals
          clear hov hfr qf
          go_wp2
          go_roundw
          case rel => exact lg_step hlt HD.out d0' d1' HMV2.out HMN2.out HAP.out hgW HBR.out
          case measure => simp [intOf]; omega
      · obtain rfl : i = N.length := by omega
        have hel : (lenSet N (newLen f) N.length).length = N.length := lenSet_length N (newLen f) N.length
        have hee : ∀ j, j < N.length → (getT (lenSet N (newLen f) N.length) j).1 = (getT N j).1 ∧ (getT (lenSet N (newLen f) N.length) j).2.1 = (getT N j).2.1 := fun j hj => by
          rw [lenSet_at N (newLen f) N.length (Nat.le_refl _) j, if_pos hj]
          exact ⟨rfl, rfl⟩
        have hed : ∀ j, j < N.length → 1 ≤ (getT (lenSet N (newLen f) N.length) j).2.2 ∧ (getT (lenSet N (newLen f) N.length) j).2.2 ≤ 9 := fun j hj => by
          rw [lenSet_at N (newLen f) N.length (Nat.le_refl _) j, if_pos hj]
          have := Nat.mod_lt (f j) (show 9 > 0 by omega)
          show 1 ≤ newLen f j ∧ newLen f j ≤ 9
          unfold newLen
          omega
        have hec := same_code hel hee hed H0.out
        have hmk : Mkt wr (.agg #[.slice va L.length vc, .slice ya N.length yc]) L (lenSet N (newLen f) N.length) := ⟨_, _, rfl, mine_ints HMV2.out rfl (by omega), HMN2.out.lanes (by rw [hel]; omega)⟩
        obtain ⟨far', next', hR'⟩ := tree_exists hmk hec
        have T := tree_of (valid_of H0.out).lanes (valid_of H0.out).good HR.out
        have T' := tree_of (valid_of hec).lanes (valid_of hec).good hR'
        have hsm := same_med hel hee T T'
        obtain ⟨N', hN'⟩ : ∃ M, M = lenSet N (newLen f) N.length := ⟨_, rfl⟩
        rw [← hN'] at hec hR' hsm hmk
        obtain ⟨ML, hML⟩ : ∃ l, l = medL L N next := ⟨_, rfl⟩
        have hne : 1 ≤ ML.length := by rw [hML]; exact med_ne T (valid_of H0.out).loads hl1
        obtain ⟨k, hk⟩ : ∃ k, ML.length = k + 1 := ⟨ML.length - 1, by omega⟩
        have hk8 : k + 1 ≤ L.length := by rw [← hk, hML]; exact medL_length
        have K18a : Hid (∀ w' m, Mkt w' m L N → Calls Try.prog 18 #[m] w' (RetWay w' ML)) := Lib.hid (fun w' m hm => by
          have h := Medians_ok w' m L N far next hm H0.out HR.out
          rw [show (List.range L.length).filter (lightB L next (nearK N N.length)) = ML from hML.symm] at h
          exact ret_way h hne)
        have K18b : Hid (∀ w' m, Mkt w' m L N' → Calls Try.prog 18 #[m] w' (RetWay w' ML)) := Lib.hid (fun w' m hm => by
          have h := Medians_ok w' m L N' far' next' hm hec hR'
          rw [show (List.range L.length).filter (lightB L next' (nearK N' N'.length)) = ML from (hsm.trans hML.symm)] at h
          exact ret_way h hne)
        have HMK := Lib.hid hmk
        have HT := Lib.hid T
        have HL := Lib.hid (valid_of H0.out).loads
        have HK := Lib.hid hk
        have HML := Lib.hid hML
        have HSR := Lib.hid (HSW.out.below HBR.out)
        have c0 := HSR.out.c0
        have c1 := HSR.out.c1
        have hk0 : ((k : Int) + 1 == 0) = false := by simp; omega
        obtain ⟨SS, hSS⟩ : ∃ V, V = sumF (gI L) L.length := ⟨_, rfl⟩
        have K38 : Hid (∀ w' v, Ints w' v L → Calls Try.prog 38 #[v] w' fun e w'' => e = .returned (.int .i64 SS) ∧ w' = w'') := Lib.hid (fun w' v hv => by rw [hSS]; exact sum_any w' v L hv hl8 HL.out)
        have HSS := Lib.hid hSS
        clear hel hee hed hec hR' hsm hmk hN' hML hne hk T T' hSS
        by_cases hz : SS = 0
        · have hz0 : (SS == 0) = true := by simp [hz]
          have hlen : k + 1 = L.length := by rw [← HK.out, HML.out]; exact med_all (fun c hc => (HL.out c hc).1) (by rw [← HSS.out]; exact hz)
          have hle : ((k : Int) + 1 == (L.length : Int)) = true := by simp; omega
          have HZ := Lib.hid hz
          have HLE := Lib.hid hlen
          clear hz hlen
          go_wp2_with (first
            | (go_at_call 18; (have HX := HLA); refine (K18b.out _ _ (HMK.out.below hb2)).mono ?_; rintro e w3 ⟨g2, o2, cap2, k2, rfl, hk2, hlb, hb3⟩; (obtain rfl : k = k2 := by have := HK.out; omega); (have HLB := Lib.hid hlb); (have HLA3 := Lib.hid (HLA.out.below hb3)); (have c0 := Below.cellOf hb3 c0); (have c1 := Below.cellOf hb3 c1))
            | (go_at_call 18; refine (K18a.out _ _ HSR.out.mkt).mono ?_; rintro e w2 ⟨g1, o1, cap1, k1, rfl, hk1, hla, hb2⟩; (obtain rfl : k = k1 := by have := HK.out; omega); (have HLA := Lib.hid hla); (have c0 := Below.cellOf hb2 c0); (have c1 := Below.cellOf hb2 c1); (have d0 := Below.cellOf hb2 d0'); (have d1 := Below.cellOf hb2 d1'))
            | (go_at_call 24; refine (same_yes _ _ _ (upL ML) (by exact li_ints HK.out (by omega) HLA3.out) (by exact li_ints HK.out (by omega) HLB.out)).mono ?_; rintro e w4 ⟨rfl, hb4⟩; (have c0 := Below.cellOf hb4 c0); (have c1 := Below.cellOf hb4 c1); (have HB4 := Lib.hid (let e1 := HBR.out.trans (hb2.mono HBR.out.size); let e2 := e1.trans (hb3.mono e1.size); e2.trans (hb4.mono e2.size))))
            | (go_at_call 38; refine (K38.out _ _ (mkt_l ((HSW.out.below HB4.out).mkt))).mono ?_; rintro e w5 ⟨rfl, rfl⟩)
            | (go_at_call 17; refine (works_ok _).mono ?_; rintro e w6 ⟨rfl, hb6⟩))
          go_ret
          have e5 := HB1.out.trans (HB4.out.mono HB1.out.size)
          exact ⟨rfl, e5.trans (hb6.mono e5.size)⟩
        · have hz0 : (SS == 0) = false := by simp [hz]
          have hbS := sumF_bound _ _ HL.out L.length (Nat.le_refl _)
          rw [← HSS.out] at hbS
          have HPOS := Lib.hid (show 0 < sumF (gI L) L.length by rw [← HSS.out]; omega)
          clear hz hbS
          go_wp2_with (first
            | (go_at_call 18; (have HX := HLA); refine (K18b.out _ _ (HMK.out.below hb2)).mono ?_; rintro e w3 ⟨g2, o2, cap2, k2, rfl, hk2, hlb, hb3⟩; (obtain rfl : k = k2 := by have := HK.out; omega); (have HLB := Lib.hid hlb); (have HLA3 := Lib.hid (HLA.out.below hb3)); (have c0 := Below.cellOf hb3 c0); (have c1 := Below.cellOf hb3 c1))
            | (go_at_call 18; refine (K18a.out _ _ HSR.out.mkt).mono ?_; rintro e w2 ⟨g1, o1, cap1, k1, rfl, hk1, hla, hb2⟩; (obtain rfl : k = k1 := by have := HK.out; omega); (have HLA := Lib.hid hla); (have c0 := Below.cellOf hb2 c0); (have c1 := Below.cellOf hb2 c1); (have d0 := Below.cellOf hb2 d0'); (have d1 := Below.cellOf hb2 d1'))
            | (go_at_call 24; refine (same_yes _ _ _ (upL ML) (by exact li_ints HK.out (by omega) HLA3.out) (by exact li_ints HK.out (by omega) HLB.out)).mono ?_; rintro e w4 ⟨rfl, hb4⟩; (have c0 := Below.cellOf hb4 c0); (have c1 := Below.cellOf hb4 c1); (have HB4 := Lib.hid (let e1 := HBR.out.trans (hb2.mono HBR.out.size); let e2 := e1.trans (hb3.mono e1.size); e2.trans (hb4.mono e2.size))))
            | (go_at_call 38; refine (K38.out _ _ (mkt_l ((HSW.out.below HB4.out).mkt))).mono ?_; rintro e w5 ⟨rfl, rfl⟩))
          have hmem : ∀ c, c ∈ ML → c < L.length ∧ Light L.length (Adj N) L next c := fun c hc => by
            rw [HML.out] at hc
            unfold medL at hc
            rw [List.mem_filter, List.mem_range] at hc
            exact ⟨hc.1, (light_iff c).1 hc.2⟩
          have HMEM := Lib.hid hmem
          obtain ⟨c00, hc00⟩ : ∃ c, ML[0]? = some c := ⟨ML[0]'(by have := HK.out; omega), List.getElem?_eq_getElem (by have := HK.out; omega)⟩
          have HLA5 := Lib.hid (HLA3.out.below hb4)
          have q0 : w4.cell? ⟨g1, o1, none⟩ = some (.int .i64 (c00 : Int)) := HLA5.out.at_ hc00
          have HC0 := Lib.hid hc00
          clear hmem hc00 d0 d1
          go_quiet (fail)
          go_wp2_with fail
          go_loopw [100, 13, 14] (LoRel w4 ML far k) (fun i _ _ _ => k + 1 - (intOf i).toNat)
          case atStart => exact ⟨0, c00, c00, Nat.zero_le _, rfl, rfl, rfl, List.mem_of_getElem? HC0.out, List.mem_of_getElem? HC0.out, fun p q c d hp => by omega, below_drewN (Below.refl _ _) _⟩
          case round =>
            obtain ⟨i, x, y, hi, rfl, rfl, rfl, hx, hy, hmax, hbr⟩ := hrel
            have HXY := Lib.hid (And.intro hx (And.intro hy hmax))
            have HBR5 := Lib.hid hbr
            clear hx hy hmax hbr q0
            by_cases hlt5 : i < k + 1
            · obtain ⟨c, hc⟩ : ∃ c, ML[i]? = some c := ⟨ML[i]'(by have := HK.out; omega), List.getElem?_eq_getElem (by have := HK.out; omega)⟩
              have qc := (HLA5.out.below HBR5.out).at_ hc
              have hcn := (HMEM.out c (List.mem_of_getElem? hc)).1
              have HC := Lib.hid hc
              have hd5 : decide ((i : Int) < (k : Int) + 1) = true := decide_eq_true (by omega)
              have i5 : (i : Int) < (k : Int) + 1 := by omega
              clear hc
              go_wp2
              go_loopw [106, 13, 14] (LiRel w4 ML far k i) (fun i _ _ _ => k + 1 - (intOf i).toNat)
              case atStart => exact ⟨0, x, y, Nat.zero_le _, rfl, rfl, rfl, HXY.out.1, HXY.out.2.1, HXY.out.2.2, fun q c d hq => by omega, HBR5.out⟩
              case round =>
                obtain ⟨j, x2, y2, hj, rfl, rfl, rfl, hx, hy, hmax, hin, hbr⟩ := hrel
                have HXY2 := Lib.hid (And.intro hx (And.intro hy (And.intro hmax hin)))
                have HBR6 := Lib.hid hbr
                have hxn := (HMEM.out x2 hx).1
                have hyn := (HMEM.out y2 hy).1
                clear hx hy hmax hin hbr qc
                by_cases hlt6 : j < k + 1
                · obtain ⟨d, hd⟩ : ∃ d, ML[j]? = some d := ⟨ML[j]'(by have := HK.out; omega), List.getElem?_eq_getElem (by have := HK.out; omega)⟩
                  have qd := (HLA5.out.below HBR6.out).at_ hd
                  have hdn := (HMEM.out d (List.mem_of_getElem? hd)).1
                  have HD := Lib.hid hd
                  have HS6 := Lib.hid (HSW.out.below (HB4.out.trans (HBR6.out.mono HB4.out.size)))
                  have c0 := HS6.out.c0
                  have q1 := HS6.out.dist (x := c) (y := d) (by omega) (by omega)
                  have q2 := HS6.out.dist (x := x2) (y := y2) (by omega) (by omega)
                  have b1 : c < 8 := by omega
                  have b2 : d < 8 := by omega
                  have b3 : x2 < 8 := by omega
                  have b4 : y2 < 8 := by omega
                  clear hd
                  by_cases hgt : far x2 y2 < far c d
                  · go_wp2
                    go_quiet (fail)
                    go_wp2
                    go_roundw
                    case rel => first | exact ⟨j + 1, c, d, by omega, by go_num, rfl, rfl, List.mem_of_getElem? HC.out, List.mem_of_getElem? HD.out, lmax_up HXY2.out.2.2.1 hgt, lin_up HXY2.out.2.2.2 hgt HC.out HD.out, below_drewN HBR6.out _⟩ | ((repeat apply Exists.intro); exact ⟨⟨j + 1, c, d, by omega, by go_num, rfl, rfl, List.mem_of_getElem? HC.out, List.mem_of_getElem? HD.out, lmax_up HXY2.out.2.2.1 hgt, lin_up HXY2.out.2.2.2 hgt HC.out HD.out, below_drewN HBR6.out _⟩, rfl⟩)
                    case measure => simp [intOf]; omega
                  · go_wp2
                    go_quiet (fail)
                    go_wp2
                    go_roundw
                    case rel => first | exact ⟨j + 1, x2, y2, by omega, by go_num, rfl, rfl, HXY2.out.1, HXY2.out.2.1, HXY2.out.2.2.1, lin_same HXY2.out.2.2.2 (by omega) HC.out HD.out, below_drewN HBR6.out _⟩ | ((repeat apply Exists.intro); exact ⟨⟨j + 1, x2, y2, by omega, by go_num, rfl, rfl, HXY2.out.1, HXY2.out.2.1, HXY2.out.2.2.1, lin_same HXY2.out.2.2.2 (by omega) HC.out HD.out, below_drewN HBR6.out _⟩, rfl⟩)
                    case measure => simp [intOf]; omega
                · obtain rfl : j = k + 1 := by omega
                  go_wp2
                  go_roundw
                  case rel => first | exact ⟨i + 1, x2, y2, by omega, by go_num, rfl, rfl, HXY2.out.1, HXY2.out.2.1, lmax_next HK.out HXY2.out.2.2.1 HXY2.out.2.2.2, HBR6.out⟩ | ((repeat apply Exists.intro); exact ⟨⟨i + 1, x2, y2, by omega, by go_num, rfl, rfl, HXY2.out.1, HXY2.out.2.1, lmax_next HK.out HXY2.out.2.2.1 HXY2.out.2.2.2, HBR6.out⟩, rfl⟩)
                  case measure => simp [intOf]; omega
            · obtain rfl : i = k + 1 := by omega
              obtain ⟨hx, hy, hmax⟩ := HXY.out
              obtain ⟨hxn, lx⟩ := HMEM.out x hx
              obtain ⟨hyn, ly⟩ := HMEM.out y hy
              have hix : ∀ a, a < L.length → Light L.length (Adj N) L next a → ∃ p, ML[p]? = some a := fun a ha hl => by
                have h1 : a ∈ ML := by rw [HML.out]; unfold medL; exact List.mem_filter.2 ⟨List.mem_range.2 ha, (light_iff a).2 hl⟩
                exact List.getElem?_of_mem h1
              have hall : ∀ a b, a < L.length → b < L.length → Light L.length (Adj N) L next a → Light L.length (Adj N) L next b → far a b ≤ far x y := fun a b ha hb la lb' => by
                obtain ⟨p1, h1⟩ := hix a ha la
                obtain ⟨p2, h2⟩ := hix b hb lb'
                exact hmax p1 p2 a b (by rw [← HK.out]; exact (List.getElem?_eq_some_iff.1 h1).1) h1 h2
              have hway : ∀ c, c ∈ ML → c ∈ wayL far next x y := fun c hc => HT.out.medians_way (fun c hc => (HL.out c hc).1) HPOS.out hxn hyn (HMEM.out c hc).1 lx ly (HMEM.out c hc).2 hall
              have HWAY := Lib.hid hway
              have HS7 := Lib.hid (HSW.out.below (HB4.out.trans (HBR5.out.mono HB4.out.size)))
              have c0 := HS7.out.c0
              have c1 := HS7.out.c1
              clear hx hy hmax lx ly hix hall hway
              go_wp2_with (go_at_call 43; refine (Way_li HS7.out.mkt H0.out HR.out hxn hyn).mono ?_; rintro e w7 ⟨g7, o7, cap7, k7, rfl, hk7, hlw, hb7⟩)
              have HB7 := Lib.hid (HBR5.out.trans (hb7.mono HBR5.out.size))
              have HLW := Lib.hid hlw
              have hl8' := HT.out.way_length hxn hyn
              have K59 : Hid (∀ w' c, Below w7.heap.size w7 w' → c ∈ ML → Calls Try.prog 59 #[.slice (some ⟨g7, o7, none⟩) (k7 + 1) cap7, .int .i64 (c : Int)] w' fun e w'' => e = .returned (.bool true) ∧ w' = w'') := Lib.hid (fun w' c hb hc => by
                have h := contains_any w' _ (upL (wayL far next x y)) c (li_ints hk7 (by omega) (HLW.out.below hb))
                rw [decide_eq_true (show (c : Int) ∈ upL (wayL far next x y) from List.mem_map.2 ⟨c, HWAY.out c hc, rfl⟩)] at h
                exact h)
              clear hlw hb7 c0 c1
              go_loopw [154] (BkRel w7 (k + 1)) (fun i _ => k + 1 - (intOf i).toNat)
              case atStart => exact ⟨0, Nat.zero_le _, rfl, Below.refl _ _⟩
              case round =>
                obtain ⟨j, hj, rfl, hbr⟩ := hrel
                have HBR8 := Lib.hid hbr
                clear hbr
                by_cases hlt7 : j < k + 1
                · obtain ⟨c, hc⟩ : ∃ c, ML[j]? = some c := ⟨ML[j]'(by have := HK.out; omega), List.getElem?_eq_getElem (by have := HK.out; omega)⟩
                  have qc := (HLA5.out.below (HB7.out.trans (HBR8.out.mono HB7.out.size))).at_ hc
                  have HC := Lib.hid hc
                  clear hc
                  go_wp2_with (go_at_call 59; refine (K59.out _ c HBR8.out (List.mem_of_getElem? HC.out)).mono ?_; rintro e w8 ⟨rfl, rfl⟩)
                  go_roundw
                  case rel => first | exact ⟨j + 1, by omega, by go_num, HBR8.out⟩ | ((repeat apply Exists.intro); exact ⟨⟨j + 1, by omega, by go_num, HBR8.out⟩, rfl⟩)
                  case measure => simp [intOf]; omega
                · obtain rfl : j = k + 1 := by omega
                  go_wp2_with (go_at_call 17; refine (works_ok _).mono ?_; rintro e w9 ⟨rfl, hb9⟩)
                  go_ret
                  have e5 := HB1.out.trans (HB4.out.mono HB1.out.size)
                  have e6 := e5.trans (HB7.out.mono e5.size)
                  have e7 := e6.trans (HBR8.out.mono e6.size)
                  exact ⟨rfl, e7.trans (hb9.mono e7.size)⟩
end Go.Proofs.Ytkhkgmelicdpkaa
