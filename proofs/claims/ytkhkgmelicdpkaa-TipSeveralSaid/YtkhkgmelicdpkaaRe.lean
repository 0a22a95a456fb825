/- The reference's asked and over; append of a list as a step of a region that draws. -/
import Derived.Test.YtkhkgmelicdpkaaRd
import Derived.Test.YtkhkgmelicdpkaaX
set_option linter.unusedVariables false
set_option linter.unusedSimpArgs false
namespace Go.Proofs.Ytkhkgmelicdpkaa
open Go.RowKit Go.BigFrame

theorem asked_bad {L : List Int} {N : List Lane} {cs : List Int} (h : checkCode L N ≠ 0) : laidCode L N cs = checkCode L N := by
  unfold laidCode; rw [if_pos h]
theorem asked_two {L : List Int} {N : List Lane} (h : checkCode L N = 0) (a b : Int) : laidCode L N [a, b] = if (0 ≤ a ∧ a ≤ (L.length : Int) - 1) ∧ (0 ≤ b ∧ b ≤ (L.length : Int) - 1) then 0 else 2 := by
  unfold laidCode
  rw [if_neg (by rw [h]; simp)]
  unfold cornersCode
  by_cases hc : (0 ≤ a ∧ a ≤ (L.length : Int) - 1) ∧ (0 ≤ b ∧ b ≤ (L.length : Int) - 1)
  · rw [if_pos hc, if_pos]
    intro i hi
    have h1 : i = 0 ∨ i = 1 := by simp at hi; omega
    rcases h1 with rfl | rfl
    · exact hc.1
    · exact hc.2
  · rw [if_neg hc, if_neg]
    intro h
    exact hc ⟨h 0 (by simp), h 1 (by simp)⟩
theorem asked_one {L : List Int} {N : List Lane} (a : Int) : laidCode L N [a] = laidCode L N [a, a] := by
  unfold laidCode cornersCode
  congr 1
  have e : (∀ i, i < [a].length → 0 ≤ gI [a] i ∧ gI [a] i ≤ (L.length : Int) - 1) ↔ (∀ i, i < [a, a].length → 0 ≤ gI [a, a] i ∧ gI [a, a] i ≤ (L.length : Int) - 1) := by
    constructor
    · intro h i hi
      have h1 : i = 0 ∨ i = 1 := by simp at hi; omega
      rcases h1 with rfl | rfl <;> exact h 0 (by simp)
    · intro h i hi
      have h1 : i = 0 := by simp at hi; omega
      subst h1
      exact h 0 (by simp)
  by_cases h : ∀ i, i < [a].length → 0 ≤ gI [a] i ∧ gI [a] i ≤ (L.length : Int) - 1
  · rw [if_pos h, if_pos (e.1 h)]
  · rw [if_neg h, if_neg (fun h' => h (e.2 h'))]
set_option maxRecDepth 100000 in
set_option maxHeartbeats 2000000 in
theorem asked_r (w : World) (m : Value) (L : List Int) (N : List Lane) (a b : Int) (hm : Mkt w m L N) : Calls Try.prog 74 #[m, .int .i64 a, .int .i64 b] w (Ret w (.int .i64 (laidCode L N [a, b]))) := by
  have HM : Hid (∀ w', Below w.heap.size w w' → Mkt w' m L N) := Lib.hid (fun w' hb => hm.below hb)
  obtain ⟨la, lc, na, nc, rfl, hl, hN⟩ := hm.shape
  clear hm hl hN
  obtain ⟨c, hc⟩ : ∃ c, c = checkCode L N := ⟨_, rfl⟩
  obtain ⟨d, hd⟩ : ∃ d, d = laidCode L N [a, b] := ⟨_, rfl⟩
  have K48 : Hid (∀ w', Below w.heap.size w w' → Calls Try.prog 48 #[.agg #[.slice la L.length lc, .slice na N.length nc]] w' (Ret w' (.int .i64 c))) := Lib.hid (fun w' hb => by rw [hc]; exact Check_r w' _ L N (HM.out _ hb))
  have HB := Lib.hid (Below.one w (.cells #[.slice la L.length lc, .slice na N.length nc] 28))
  rw [← hd]
  by_cases h0 : c = 0
  · have ha := asked_two (hc.symm.trans h0) a b
    have i1 : (L.length : Int) ≤ 8 := by have := (valid_of (hc.symm.trans h0)).le; omega
    have i2 : 1 ≤ (L.length : Int) := by have := (valid_of (hc.symm.trans h0)).pos; omega
    rw [← hd] at ha
    subst h0
    clear hc hd
    by_cases b0 : 0 ≤ a ∧ a ≤ (L.length : Int) - 1
    · by_cases b1 : 0 ≤ b ∧ b ≤ (L.length : Int) - 1
      · rw [if_pos ⟨b0, b1⟩] at ha
        subst ha
        go_enter Try.func74, Try.ntmps74
        go_wp2_with (first | (go_at_call 48; refine (K48.out _ HB.out).mono ?_; rintro e w1 ⟨rfl, hb1⟩; (have c0 := Below.cellOf hb1 (show (w.alloc (.cells #[.slice la L.length lc, .slice na N.length nc] 28)).cell? ⟨w.heap.size, 0, none⟩ = some (.slice la L.length lc) by simp))) | (go_at_call 87; refine (in_yes _ _ _ _ (by omega)).mono ?_; rintro e w2 ⟨rfl, rfl⟩) | (go_at_call 87; refine (in_no _ _ _ _ (by omega)).mono ?_; rintro e w2 ⟨rfl, rfl⟩))
        go_ret
        exact ⟨rfl, HB.out.trans (hb1.mono HB.out.size)⟩
      · rw [if_neg (fun h => b1 h.2)] at ha
        subst ha
        go_enter Try.func74, Try.ntmps74
        go_wp2_with (first | (go_at_call 48; refine (K48.out _ HB.out).mono ?_; rintro e w1 ⟨rfl, hb1⟩; (have c0 := Below.cellOf hb1 (show (w.alloc (.cells #[.slice la L.length lc, .slice na N.length nc] 28)).cell? ⟨w.heap.size, 0, none⟩ = some (.slice la L.length lc) by simp))) | (go_at_call 87; refine (in_yes _ _ _ _ (by omega)).mono ?_; rintro e w2 ⟨rfl, rfl⟩) | (go_at_call 87; refine (in_no _ _ _ _ (by omega)).mono ?_; rintro e w2 ⟨rfl, rfl⟩))
        go_ret
        exact ⟨rfl, HB.out.trans (hb1.mono HB.out.size)⟩
    · rw [if_neg (fun h => b0 h.1)] at ha
      subst ha
      go_enter Try.func74, Try.ntmps74
      go_wp2_with (first | (go_at_call 48; refine (K48.out _ HB.out).mono ?_; rintro e w1 ⟨rfl, hb1⟩; (have c0 := Below.cellOf hb1 (show (w.alloc (.cells #[.slice la L.length lc, .slice na N.length nc] 28)).cell? ⟨w.heap.size, 0, none⟩ = some (.slice la L.length lc) by simp))) | (go_at_call 87; refine (in_no _ _ _ _ (by omega)).mono ?_; rintro e w2 ⟨rfl, rfl⟩))
      go_ret
      exact ⟨rfl, HB.out.trans (hb1.mono HB.out.size)⟩
  · have ha : d = c := by rw [hd, asked_bad (fun h => h0 (hc.trans h)), hc]
    subst ha
    have h0' : (d == 0) = false := by rw [beq_eq_false_iff_ne]; exact h0
    clear hc hd h0
    go_enter Try.func74, Try.ntmps74
    go_wp2_with (first | (go_at_call 48; refine (K48.out _ HB.out).mono ?_; rintro e w1 ⟨rfl, hb1⟩))
    go_ret
    exact ⟨rfl, HB.out.trans (hb1.mono HB.out.size)⟩
noncomputable def overCode (L : List Int) (N : List Lane) (a b : Int) : Int := if laidCode L N [a, b] ≠ 0 then laidCode L N [a, b] else if laneF N a b = 0 then 5 else 0
set_option maxRecDepth 100000 in
set_option maxHeartbeats 2000000 in
theorem over_r (w : World) (m : Value) (L : List Int) (N : List Lane) (a b : Int) (hm : Mkt w m L N) : Calls Try.prog 71 #[m, .int .i64 a, .int .i64 b] w (Ret w (.int .i64 (overCode L N a b))) := by
  have HM : Hid (∀ w', Below w.heap.size w w' → Mkt w' m L N) := Lib.hid (fun w' hb => hm.below hb)
  obtain ⟨la, lc, na, nc, rfl, hl, hN⟩ := hm.shape
  clear hm hl hN
  obtain ⟨c, hc⟩ : ∃ c, c = laidCode L N [a, b] := ⟨_, rfl⟩
  obtain ⟨ln, hln⟩ : ∃ ln, ln = laneF N a b := ⟨_, rfl⟩
  have hd : overCode L N a b = if c ≠ 0 then c else if ln = 0 then 5 else 0 := by rw [hc, hln]; rfl
  have K74 : Hid (∀ w', Below w.heap.size w w' → Calls Try.prog 74 #[.agg #[.slice la L.length lc, .slice na N.length nc], .int .i64 a, .int .i64 b] w' (Ret w' (.int .i64 c))) := Lib.hid (fun w' hb => by rw [hc]; exact asked_r w' _ L N a b (HM.out _ hb))
  have K75 : Hid (∀ w', Below w.heap.size w w' → Calls Try.prog 75 #[.agg #[.slice la L.length lc, .slice na N.length nc], .int .i64 a, .int .i64 b] w' (Ret w' (.int .i64 ln))) := Lib.hid (fun w' hb => by rw [hln]; exact lane_any w' _ L N a b (HM.out _ hb))
  have HB := Lib.hid (Below.one w (.cells #[.slice la L.length lc, .slice na N.length nc] 28))
  rw [hd]
  clear hc hln hd
  by_cases h0 : c = 0
  · subst h0
    by_cases h1 : ln = 0
    · subst h1
      go_enter Try.func71, Try.ntmps71
      go_wp2_with (first | (go_at_call 74; refine (K74.out _ HB.out).mono ?_; rintro e w1 ⟨rfl, hb1⟩; (have c0 := Below.cellOf hb1 (show (w.alloc (.cells #[.slice la L.length lc, .slice na N.length nc] 28)).cell? ⟨w.heap.size, 0, none⟩ = some (.slice la L.length lc) by simp)); (have c1 := Below.cellOf hb1 (show (w.alloc (.cells #[.slice la L.length lc, .slice na N.length nc] 28)).cell? ⟨w.heap.size, 1, none⟩ = some (.slice na N.length nc) by simp)); (have HB2 := Lib.hid (HB.out.trans (hb1.mono HB.out.size)))) | (go_at_call 75; refine (K75.out _ HB2.out).mono ?_; rintro e w2 ⟨rfl, hb2⟩))
      go_ret
      exact ⟨rfl, HB2.out.trans (hb2.mono HB2.out.size)⟩
    · have h1' : (ln == 0) = false := by rw [beq_eq_false_iff_ne]; exact h1
      have e : (if (0 : Int) ≠ 0 then (0 : Int) else if ln = 0 then 5 else 0) = 0 := by rw [if_neg (by simp), if_neg h1]
      rw [e]
      clear h1 e
      go_enter Try.func71, Try.ntmps71
      go_wp2_with (first | (go_at_call 74; refine (K74.out _ HB.out).mono ?_; rintro e w1 ⟨rfl, hb1⟩; (have c0 := Below.cellOf hb1 (show (w.alloc (.cells #[.slice la L.length lc, .slice na N.length nc] 28)).cell? ⟨w.heap.size, 0, none⟩ = some (.slice la L.length lc) by simp)); (have c1 := Below.cellOf hb1 (show (w.alloc (.cells #[.slice la L.length lc, .slice na N.length nc] 28)).cell? ⟨w.heap.size, 1, none⟩ = some (.slice na N.length nc) by simp)); (have HB2 := Lib.hid (HB.out.trans (hb1.mono HB.out.size)))) | (go_at_call 75; refine (K75.out _ HB2.out).mono ?_; rintro e w2 ⟨rfl, hb2⟩))
      go_ret
      exact ⟨rfl, HB2.out.trans (hb2.mono HB2.out.size)⟩
  · have h0' : (c == 0) = false := by rw [beq_eq_false_iff_ne]; exact h0
    have e : (if c ≠ 0 then c else if ln = 0 then 5 else 0) = c := by rw [if_pos h0]
    rw [e]
    clear h0 e
    go_enter Try.func71, Try.ntmps71
    go_wp2_with (first | (go_at_call 74; refine (K74.out _ HB.out).mono ?_; rintro e w1 ⟨rfl, hb1⟩))
    go_ret
    exact ⟨rfl, HB.out.trans (hb1.mono HB.out.size)⟩

theorem src_list {w : World} {v : Value} {l : List Nat} (h : Ints w v (upL l)) : Src Try.prog 1 22 v l.length (vals l) w := by
  obtain ⟨_, a, cap, b, off, rfl, ha, hc⟩ := h
  rw [upL_length] at ha ⊢
  rcases Nat.eq_zero_or_pos l.length with h0 | h0
  · have : l = [] := List.eq_nil_of_length_eq_zero h0
    subst this
    cases a with
    | none => exact Src.ofNil w Try.underlying22' _
    | some ad => exact Src.ofSlice w Try.underlying22' ad 0 cap _ rfl (fun j u hu => by simp [vals] at hu) (by simp [vals])
  · obtain rfl := ha.resolve_left (by omega)
    refine Src.ofSlice w Try.underlying22' ⟨b, off, none⟩ l.length cap _ (by rw [vals_length]; simp) (fun j u hu => ?_) (by simp [vals, Value.oneCell'])
    rw [Addr.add_lit]
    have hj : j < l.length := by have := (List.getElem?_eq_some_iff.1 hu).1; rw [vals_length] at this; exact this
    rw [hc j (by rw [upL_length]; exact hj), gI_upL hj, ← hu]
    simp [vals, hj]
/-- append(v, l...) as a step of a region that draws: what is at hand, and what comes. -/
theorem step_append_list {ops : Array Oper} {o : Oper} {a : Act} {w : World} {K : Act → World → Prop} {Q : Exit → Act → World → Prop} {E : Prop} (base : Nat) (hgd : o.guard = none) (s x : Operand)
    (ho : o.op = .call { callee := .builtin .append, args := #[s, x], argTypes := #[22, 22] })
    (v : Value) (ks : List Nat) (hs : a.eval s = v) (hm : Mine w base 1 v ks.length (vals ks)) (xv : Value) (l : List Nat) (hx : a.eval x = xv) (hl : Ints w xv (upL l)) (hl1 : 1 ≤ l.length) (h63 : ks.length + l.length ≤ 1000) (hbase : base ≤ w.heap.size)
    (h : ∀ g off cap w', Mine w' base 1 (.slice (some ⟨g, off, none⟩) (ks ++ l).length cap) (ks ++ l).length (vals (ks ++ l)) → w.grownBy w' v.ownBlock → K (a.put o.dst (.slice (some ⟨g, off, none⟩) (ks ++ l).length cap)) w') :
    if Region.wanted o (yielded ops a.tmps) = true then Oper.wp Try.prog o a w K Q else E := by
  obtain ⟨i0, hi, hz0, hz1, hz2⟩ := info_parts Try.info3'
  refine step_append_mine hgd s x 22 22 ho base 1 8 3 i0 _ Try.underlying22' hi hz0 hz1 hz2 rfl v ks.length (vals ks) hs hm xv hx l.length (vals l) (src_list hl) (by omega) (by simp only [maxLen]; omega) (by omega) hbase ?_
  intro g off cap w' h1 h2
  have hh := h g off cap w'
  rw [List.length_append] at hh
  have e : vals (ks ++ l) = vals ks ++ vals l := by simp [vals]
  rw [e] at hh
  exact hh h1 h2
/-- A list that lies below what a list of the call's own grew by. -/
theorem Ints.grown {w w' : World} {v u : Value} {xs : List Int} (h : Ints w v xs) (hg : w.grownBy w' u.ownBlock) (hne : ∀ g, u.ownBlock = some g → v.ownBlock ≠ some g) : Ints w' v xs := by
  obtain ⟨hb, a, cap, b, off, rfl, ha, hc⟩ := h
  refine ⟨hb, a, cap, b, off, rfl, ha, fun i hi => ?_⟩
  obtain rfl := ha.resolve_left (by omega)
  exact hg.cell (hc i hi) (fun e => hne b e.symm (by simp [Value.ownBlock]))
theorem ints_new (w : World) (k : Nat) (T : TypeId) : Ints (w.alloc (.cells #[.int .i64 (k : Int)] T)) (.slice (some ⟨w.heap.size, 0, none⟩) 1 1) (upL [k]) :=
  ⟨by simp [upL], _, 1, w.heap.size, 0, by simp [upL], .inr rfl, fun i hi => by
    have h0 : i = 0 := by simp [upL] at hi; omega
    subst h0
    simp [gI, upL]⟩
theorem mine_none (w : World) (base : Nat) (T : TypeId) (hb : base ≤ w.heap.size) : Mine (w.alloc (.cells #[] T)) base 1 (.slice (some ⟨w.heap.size, 0, none⟩) 0 0) 0 [] :=
  Mine.made w base 1 #[] T 0 hb (by simp [maxLen]) (by simp)
end Go.Proofs.Ytkhkgmelicdpkaa
