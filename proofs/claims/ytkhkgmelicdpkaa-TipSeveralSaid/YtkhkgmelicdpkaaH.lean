/- Contracts of package tip: laid, for markets with and without error, and what is behind it. -/
import Derived.Test.YtkhkgmelicdpkaaG
import Derived.Test.YtkhkgmelicdpkaaT2
set_option linter.unusedVariables false
set_option linter.unusedSimpArgs false
namespace Go.Proofs.Ytkhkgmelicdpkaa
open Go.RowKit

theorem checkCode_of_laid {L : List Int} {N : List Lane} {cs : List Int} (h : laidCode L N cs = 0) : checkCode L N = 0 ∧ cornersCode L.length cs = 0 := by
  unfold laidCode at h
  rcases Int.decEq (checkCode L N) 0 with h' | h'
  · rw [if_pos h'] at h; exact absurd h h'
  · rw [if_neg (by rw [h']; simp)] at h; exact ⟨h', h⟩
def LaidOk (w : World) (L : List Int) (far : Nat → Nat → Int) (next : Nat → Nat → Nat) (near : Nat → Nat) (e : Ending) (w' : World) : Prop :=
  ∃ b, e = .returned (.tuple #[.pointer (some ⟨b, 0, none⟩), .int .i64 0]) ∧ w.heap.size ≤ b ∧ Town w' b L far next near ∧ Below w.heap.size w w'

theorem laid_ok (w : World) (m cv : Value) (L : List Int) (N : List Lane) (cs : List Int) (far : Nat → Nat → Int) (next : Nat → Nat → Nat) (hm : Mkt w m L N) (hc : Ints w cv cs) (h0 : laidCode L N cs = 0) (hR : AllRooted L.length N far next) :
    Calls Try.prog 66 #[m, cv] w (LaidOk w L far next (nearK N N.length)) := by
  refine (laid_any w m cv L N cs hm hc).mono ?_
  rintro e w' ⟨hb, ⟨h1, _⟩ | ⟨_, b, far', next', rfl, hbw, hT, hR'⟩⟩
  · exact absurd h0 h1
  · have hV := valid_of (checkCode_of_laid h0).1
    have T := tree_of hV.lanes hV.good hR
    have T' := tree_of hV.lanes hV.good hR'
    exact ⟨b, rfl, hbw, hT.congr (fun c k hc hk => ⟨T'.far_unique T hc _ k hk (Nat.le_refl _), T'.next_unique T hc _ k hk (Nat.le_refl _)⟩), hb⟩
theorem laid_bad (w : World) (m cv : Value) (L : List Int) (N : List Lane) (cs : List Int) (code : Int) (hm : Mkt w m L N) (hc : Ints w cv cs) (h0 : laidCode L N cs = code) (hne : code ≠ 0) :
    Calls Try.prog 66 #[m, cv] w fun e w' => e = .returned (.tuple #[.pointer none, .int .i64 code]) ∧ Below w.heap.size w w' := by
  refine (laid_any w m cv L N cs hm hc).mono ?_
  rintro e w' ⟨hb, ⟨_, rfl⟩ | ⟨h1, _⟩⟩
  · rw [h0]; exact ⟨rfl, hb⟩
  · exact absurd (h0.symm.trans h1) hne
/-- There is a tree behind each market without error (it is found by running the search). -/
theorem tree_exists {w : World} {m : Value} {L : List Int} {N : List Lane} (hm : Mkt w m L N) (h : checkCode L N = 0) : ∃ far next, AllRooted L.length N far next := by
  have hc : Ints w (.slice none 0 0) [] := ⟨by simp, none, 0, 0, 0, rfl, .inl rfl, fun i hi => by simp at hi⟩
  obtain ⟨e, w', fr, hp, _⟩ := laid_any w m _ L N [] hm hc []
  have h0 : laidCode L N [] = 0 := by
    rw [laidCode_ok h]
    unfold cornersCode
    rw [if_pos (fun i hi => by simp at hi)]
  rcases hp.2 with ⟨h1, _⟩ | ⟨_, b, far, next, _, _, _, hR⟩
  · exact absurd h0 h1
  · exact ⟨far, next, hR⟩

theorem ints_nil (w : World) (c : Nat) : Ints w (.slice none 0 c) [] := ⟨by simp, none, c, 0, 0, rfl, .inl rfl, fun i hi => by simp at hi⟩
theorem ints_lit1 (w : World) (a : Int) (k : Nat) (h : k = w.heap.size) : Ints (w.alloc (.cells #[.int .i64 a] 3)) (.slice (some ⟨k, 0, none⟩) 1 1) [a] := by
  subst h
  refine ⟨by simp, _, 1, w.heap.size, 0, rfl, .inr rfl, fun i hi => ?_⟩
  have h1 : i = 0 := by simp at hi; omega
  subst h1
  simp [gI]
theorem ints_lit2 (w : World) (a b : Int) (k : Nat) (h : k = w.heap.size) : Ints (w.alloc (.cells #[.int .i64 a, .int .i64 b] 3)) (.slice (some ⟨k, 0, none⟩) 2 2) [a, b] := by
  subst h
  refine ⟨by simp, _, 2, w.heap.size, 0, rfl, .inr rfl, fun i hi => ?_⟩
  have h1 : i = 0 ∨ i = 1 := by simp at hi; omega
  rcases h1 with rfl | rfl <;> simp [gI]
theorem Mkt.shape {w : World} {m : Value} {L : List Int} {N : List Lane} (h : Mkt w m L N) : ∃ la lc na nc, m = .agg #[.slice la L.length lc, .slice na N.length nc] ∧ Ints w (.slice la L.length lc) L ∧ Lanes w (.slice na N.length nc) N := by
  obtain ⟨lv, nv, rfl, hl, hn⟩ := h
  have hl' := hl
  have hn' := hn
  obtain ⟨_, la, lc, _, _, rfl, _⟩ := hl'
  obtain ⟨_, na, nc, _, _, rfl, _⟩ := hn'
  exact ⟨la, lc, na, nc, rfl, hl, hn⟩
end Go.Proofs.Ytkhkgmelicdpkaa
