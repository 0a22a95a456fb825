/- The law's example markets. -/
import Derived.Test.YtkhkgmelicdpkaaX
set_option linter.unusedVariables false
set_option linter.unusedSimpArgs false
namespace Go.Proofs.Ytkhkgmelicdpkaa
open Go.RowKit

set_option maxHeartbeats 400000 in
theorem list_any (w : World) (v : Value) : Calls Try.prog 55 #[v] w fun e w' => e = .returned v ∧ w = w' := by
  go_enter Try.func55, Try.ntmps55
  go_wp2
  go_ret
  exact ⟨rfl, rfl⟩
/-- The call returns a market. -/
def RetMkt (w : World) (L : List Int) (N : List Lane) (e : Ending) (w' : World) : Prop := ∃ m, e = .returned m ∧ Mkt w' m L N ∧ Below w.heap.size w w'
def LT : List Int := [1, 0, 0, 3]
def NT : List Lane := [(0, 1, 1), (1, 2, 1), (2, 3, 1)]
def LS : List Int := [0, 1, 1, 1]
def NS : List Lane := [(0, 1, 1), (0, 2, 2), (0, 3, 3)]
def LU : List Int := [1, 1]
def NU : List Lane := [(0, 1, 5)]
theorem ints_alloc (w : World) (l : List Int) (t : TypeId) (c k n : Nat) (hk : k = w.heap.size) (hn : n = l.length) (hl : l.length ≤ 1000) (cs : Array Value) (hcs : cs = (l.map fun x => Value.int .i64 x).toArray) : Ints (w.alloc (.cells cs t)) (.slice (some ⟨k, 0, none⟩) n c) l := by
  subst hk hn hcs
  refine ⟨by omega, some ⟨w.heap.size, 0, none⟩, c, w.heap.size, 0, rfl, .inr rfl, fun i hi => ?_⟩
  simp [gI, hi]
/-- The cells of the result's own variable. -/
theorem own_cells {w w1 : World} {a b : Value} {t : TypeId} {W : World} (hW : Below (w.alloc (.cells #[a, b] t)).heap.size (w.alloc (.cells #[a, b] t)) W) (hb : Below W.heap.size W w1) :
    w1.cell? ⟨w.heap.size, 0, none⟩ = some a ∧ w1.cell? ⟨w.heap.size, 1, none⟩ = some b ∧ w1.frozen? ⟨w.heap.size, 0, none⟩ = false ∧ w1.frozen? ⟨w.heap.size, 1, none⟩ = false := by
  have hB := hW.trans (hb.mono hW.size)
  have hlt : w.heap.size < (w.alloc (.cells #[a, b] t)).heap.size := by simp
  refine ⟨(hB.cell (p := ⟨w.heap.size, 0, none⟩) hlt).trans (by simp), (hB.cell (p := ⟨w.heap.size, 1, none⟩) hlt).trans (by simp), (hB.frozen (p := ⟨w.heap.size, 0, none⟩) hlt).trans (by simp), (hB.frozen (p := ⟨w.heap.size, 1, none⟩) hlt).trans (by simp)⟩
theorem keep_int {w : World} {p q : Addr} {x : Int} {u : Value} (hp : w.cell? p = some (.int .i64 x)) (hq : w.cell? q = some (.slice none 0 0)) : (w.setCell q u).cell? p = some (.int .i64 x) := by
  refine (World.cell?_setCell_other _ _ _ _ (fun e => ?_)).trans hp
  rw [e] at hq
  rw [hp] at hq
  cases hq
theorem Mkt.set {w : World} {m : Value} {L : List Int} {N : List Lane} {q : Addr} {u : Value} (h : Mkt w m L N) (hq : w.cell? q = some (.slice none 0 0)) : Mkt (w.setCell q u) m L N := by
  obtain ⟨lv, nv, rfl, ⟨h1, a, c, b, o, rfl, h2, h3⟩, ⟨k1, a', c', b', o', rfl, k2, k3⟩⟩ := h
  exact ⟨_, _, rfl, ⟨h1, a, c, b, o, rfl, h2, fun i hi => keep_int (h3 i hi) hq⟩, ⟨k1, a', c', b', o', rfl, k2, fun i hi => ⟨keep_int (k3 i hi).1 hq, keep_int (k3 i hi).2.1 hq, keep_int (k3 i hi).2.2 hq⟩⟩⟩
/-- The market is stored into the result's own variable. -/
theorem mkt_stored {w w1 : World} {lv nv : Value} {L : List Int} {N : List Lane} (hb : Below w.heap.size w w1) (hm : Mkt w1 (.agg #[lv, nv]) L N) (hc0 : w1.cell? ⟨w.heap.size, 0, none⟩ = some (.slice none 0 0)) (hc1 : w1.cell? ⟨w.heap.size, 1, none⟩ = some (.slice none 0 0)) :
    ((w1.setCell ⟨w.heap.size, 0, none⟩ lv).setCell ⟨w.heap.size, 1, none⟩ nv).cell? ⟨w.heap.size, 0, none⟩ = some lv ∧ ((w1.setCell ⟨w.heap.size, 0, none⟩ lv).setCell ⟨w.heap.size, 1, none⟩ nv).cell? ⟨w.heap.size, 1, none⟩ = some nv ∧
    Mkt ((w1.setCell ⟨w.heap.size, 0, none⟩ lv).setCell ⟨w.heap.size, 1, none⟩ nv) (.agg #[lv, nv]) L N ∧ Below w.heap.size w ((w1.setCell ⟨w.heap.size, 0, none⟩ lv).setCell ⟨w.heap.size, 1, none⟩ nv) := by
  have hs2 : (w1.setCell ⟨w.heap.size, 0, none⟩ lv).cell? ⟨w.heap.size, 1, none⟩ = some (.slice none 0 0) := (cell_ne (by omega)).trans hc1
  have hsz : w.heap.size < w1.heap.size := World.block_lt_of_cell? w1 _ hc0
  have B1 : Below w.heap.size w (w1.setCell ⟨w.heap.size, 0, none⟩ lv) := hb.trans ((Stored.mk' (Below.refl _ w1) hsz).below (Nat.le_refl _) hb.size)
  exact ⟨(cell_ne (by omega)).trans (cell_eq hc0), cell_eq hs2, (hm.set hc0).set hs2, B1.trans ((Stored.mk' (Below.refl _ _) (by simp [World.setCell]; exact hsz)).below (Nat.le_refl _) B1.size)⟩
set_option maxRecDepth 100000 in
set_option maxHeartbeats 1000000 in
theorem T_ok (w : World) : Calls Try.prog 52 #[] w (RetMkt w LT NT) := by
  go_enter Try.func52, Try.ntmps52
  go_wp2_with (first | (go_at_call 55; refine (list_any _ _).mono ?_; rintro e w1 ⟨rfl, rfl⟩) | (go_at_call 56; refine (market_any _ _ _ LT [0, 1, 1, 1, 2, 1, 2, 3, 1] (by exact (ints_alloc _ LT 3 _ _ _ (by simp) rfl (by decide) _ rfl).below ((Below.refl _ _).alloc (Nat.le_refl _) _)) (by exact ints_alloc _ _ 3 _ _ _ (by simp) rfl (by decide) _ rfl) (by decide)).mono ?_; rintro e w1 ⟨m, rfl, hm, hb⟩; (replace hm : Mkt w1 m LT NT := hm); obtain ⟨la, lc, na, nc, rfl, hl, hn⟩ := hm.shape; obtain ⟨hc0, hc1, hf0, hf1⟩ := own_cells (((Below.refl _ _).alloc (Nat.le_refl _) _).alloc (new_size _ _) _) hb; (have hs2 : (w1.setCell ⟨w.heap.size, 0, none⟩ (.slice la (List.length LT) lc)).cell? ⟨w.heap.size, 1, none⟩ = some (.slice none 0 0) := (cell_ne (by omega)).trans hc1); (have hg2 : (w1.setCell ⟨w.heap.size, 0, none⟩ (.slice la (List.length LT) lc)).frozen? ⟨w.heap.size, 1, none⟩ = false := by rw [World.frozen?_setCell]; exact hf1)))
  have hBw := (((Below.refl w.heap.size w).alloc (Nat.le_refl _) _).alloc (new_size _ _) _).alloc (Nat.le_trans (new_size _ _) (new_size _ _)) _ |>.trans (hb.mono (by simp; omega))
  obtain ⟨e1, e2, hm2, hb2⟩ := mkt_stored hBw hm hc0 hc1
  have e0 := cell_eq (v := .slice la (List.length LT) lc) hc0
  exact bodyPost_ret (v := .agg #[.slice la _ lc, .slice na _ nc]) (by simp [results, Try.results52, go_sem, e0, e1, e2]) rfl ⟨_, rfl, hm2, hb2⟩
set_option maxRecDepth 100000 in
set_option maxHeartbeats 1000000 in
theorem S_ok (w : World) : Calls Try.prog 53 #[] w (RetMkt w LS NS) := by
  go_enter Try.func53, Try.ntmps53
  go_wp2_with (first | (go_at_call 55; refine (list_any _ _).mono ?_; rintro e w1 ⟨rfl, rfl⟩) | (go_at_call 56; refine (market_any _ _ _ LS [0, 1, 1, 0, 2, 2, 0, 3, 3] (by exact (ints_alloc _ LS 3 _ _ _ (by simp) rfl (by decide) _ rfl).below ((Below.refl _ _).alloc (Nat.le_refl _) _)) (by exact ints_alloc _ _ 3 _ _ _ (by simp) rfl (by decide) _ rfl) (by decide)).mono ?_; rintro e w1 ⟨m, rfl, hm, hb⟩; (replace hm : Mkt w1 m LS NS := hm); obtain ⟨la, lc, na, nc, rfl, hl, hn⟩ := hm.shape; obtain ⟨hc0, hc1, hf0, hf1⟩ := own_cells (((Below.refl _ _).alloc (Nat.le_refl _) _).alloc (new_size _ _) _) hb; (have hs2 : (w1.setCell ⟨w.heap.size, 0, none⟩ (.slice la (List.length LS) lc)).cell? ⟨w.heap.size, 1, none⟩ = some (.slice none 0 0) := (cell_ne (by omega)).trans hc1); (have hg2 : (w1.setCell ⟨w.heap.size, 0, none⟩ (.slice la (List.length LS) lc)).frozen? ⟨w.heap.size, 1, none⟩ = false := by rw [World.frozen?_setCell]; exact hf1)))
  have hBw := (((Below.refl w.heap.size w).alloc (Nat.le_refl _) _).alloc (new_size _ _) _).alloc (Nat.le_trans (new_size _ _) (new_size _ _)) _ |>.trans (hb.mono (by simp; omega))
  obtain ⟨e1, e2, hm2, hb2⟩ := mkt_stored hBw hm hc0 hc1
  have e0 := cell_eq (v := .slice la (List.length LS) lc) hc0
  exact bodyPost_ret (v := .agg #[.slice la _ lc, .slice na _ nc]) (by simp [results, Try.results53, go_sem, e0, e1, e2]) rfl ⟨_, rfl, hm2, hb2⟩
set_option maxRecDepth 100000 in
set_option maxHeartbeats 1000000 in
theorem U_ok (w : World) : Calls Try.prog 54 #[] w (RetMkt w LU NU) := by
  go_enter Try.func54, Try.ntmps54
  go_wp2_with (first | (go_at_call 55; refine (list_any _ _).mono ?_; rintro e w1 ⟨rfl, rfl⟩) | (go_at_call 56; refine (market_any _ _ _ LU [0, 1, 5] (by exact (ints_alloc _ LU 3 _ _ _ (by simp) rfl (by decide) _ rfl).below ((Below.refl _ _).alloc (Nat.le_refl _) _)) (by exact ints_alloc _ _ 3 _ _ _ (by simp) rfl (by decide) _ rfl) (by decide)).mono ?_; rintro e w1 ⟨m, rfl, hm, hb⟩; (replace hm : Mkt w1 m LU NU := hm); obtain ⟨la, lc, na, nc, rfl, hl, hn⟩ := hm.shape; obtain ⟨hc0, hc1, hf0, hf1⟩ := own_cells (((Below.refl _ _).alloc (Nat.le_refl _) _).alloc (new_size _ _) _) hb; (have hs2 : (w1.setCell ⟨w.heap.size, 0, none⟩ (.slice la (List.length LU) lc)).cell? ⟨w.heap.size, 1, none⟩ = some (.slice none 0 0) := (cell_ne (by omega)).trans hc1); (have hg2 : (w1.setCell ⟨w.heap.size, 0, none⟩ (.slice la (List.length LU) lc)).frozen? ⟨w.heap.size, 1, none⟩ = false := by rw [World.frozen?_setCell]; exact hf1)))
  have hBw := (((Below.refl w.heap.size w).alloc (Nat.le_refl _) _).alloc (new_size _ _) _).alloc (Nat.le_trans (new_size _ _) (new_size _ _)) _ |>.trans (hb.mono (by simp; omega))
  obtain ⟨e1, e2, hm2, hb2⟩ := mkt_stored hBw hm hc0 hc1
  have e0 := cell_eq (v := .slice la (List.length LU) lc) hc0
  exact bodyPost_ret (v := .agg #[.slice la _ lc, .slice na _ nc]) (by simp [results, Try.results54, go_sem, e0, e1, e2]) rfl ⟨_, rfl, hm2, hb2⟩
end Go.Proofs.Ytkhkgmelicdpkaa
