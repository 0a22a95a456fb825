/- The reference's best: the first of the best lists that begin with some corners. -/
import Derived.Test.YtkhkgmelicdpkaaRj
set_option linter.unusedVariables false
set_option linter.unusedSimpArgs false
namespace Go.Proofs.Ytkhkgmelicdpkaa
open Go.RowKit Go.BigFrame

theorem step_append_any {ops : Array Oper} {o : Oper} {a : Act} {w : World} {K : Act → World → Prop} {Q : Exit → Act → World → Prop} {E : Prop} (base : Nat) (hgd : o.guard = none) (s x : Operand)
    (ho : o.op = .call { callee := .builtin .append, args := #[s, x], argTypes := #[22, 22] })
    (v : Value) (ks : List Nat) (hs : a.eval s = v) (hm : Mine w base 1 v ks.length (vals ks)) (xv : Value) (l : List Nat) (hx : a.eval x = xv) (hl : Ints w xv (upL l)) (h63 : ks.length + l.length ≤ 1000) (hbase : base ≤ w.heap.size)
    (h : ∀ v' w', Mine w' base 1 v' (ks ++ l).length (vals (ks ++ l)) → w.grownBy w' v.ownBlock → K (a.put o.dst v') w') :
    if Region.wanted o (yielded ops a.tmps) = true then Oper.wp Try.prog o a w K Q else E := by
  obtain ⟨i0, hi, hz0, hz1, hz2⟩ := info_parts Try.info3'
  have hw : Region.wanted o (yielded ops a.tmps) = true := by simp [Region.wanted, hgd]
  rw [if_pos hw]
  refine wp_append_mine s x 22 22 ho base 1 8 3 i0 _ Try.underlying22' hi hz0 hz1 hz2 rfl v ks.length (vals ks) hs hm xv hx l.length (vals l) (src_list hl) (by simp only [maxLen]; omega) (by omega) hbase fun v' w' h1 h2 h3 => ?_
  refine h v' w' ?_ h2
  rw [List.length_append]
  have e : vals (ks ++ l) = vals ks ++ vals l := by simp [vals]
  rw [e]
  exact h1
/-- What was tried so far. -/
def Tried (n many : Nat) (p : List Nat) (c : Nat) (l : List Nat) : Prop := ∃ k, fromOf p ≤ k ∧ k < c ∧ Ext n many (p ++ [k]) l
theorem tried_all {n many : Nat} {p : List Nat} {c : Nat} (hs : p.Pairwise (· < ·)) (hlt : p.length < many) (hc : n + p.length < c + many) (hcn : c ≤ n) (l : List Nat) : Tried n many p c l ↔ Ext n many p l := by
  rw [ext_step hs hlt]
  constructor
  · rintro ⟨k, h1, h2, h3⟩; exact ⟨k, h1, by omega, h3⟩
  · rintro ⟨k, h1, h2, h3⟩
    have := ext_room h3
    exact ⟨k, h1, by omega, h3⟩
theorem tried_step {n many : Nat} {p : List Nat} {c : Nat} (hc : fromOf p ≤ c) (l : List Nat) : Tried n many p (c + 1) l ↔ Tried n many p c l ∨ Ext n many (p ++ [c]) l := by
  constructor
  · rintro ⟨k, h1, h2, h3⟩
    rcases Nat.lt_or_ge k c with h | h
    · exact .inl ⟨k, h1, h, h3⟩
    · obtain rfl : k = c := by omega
      exact .inr h3
  · rintro (⟨k, h1, h2, h3⟩ | h)
    · exact ⟨k, h1, by omega, h3⟩
    · exact ⟨c, hc, by omega, h⟩
theorem tried_none {n many : Nat} {p : List Nat} {l : List Nat} : ¬ Tried n many p (fromOf p) l := fun ⟨k, h1, h2, _⟩ => by omega
def BestPost (w : World) (C : List Nat → Int) (V : List Nat → Prop) (many : Nat) (e : Ending) (w' : World) : Prop :=
  ∃ g o cap l, e = .returned (.slice (some ⟨g, o, none⟩) many cap) ∧ IsBest C V l ∧ Ints w' (.slice (some ⟨g, o, none⟩) many cap) (upL l) ∧ Below w.heap.size w w'
def BestOut (C : List Nat → Int) (n many : Nat) (p : List Nat) (c : Nat) (ov : Value) (w : World) : Prop :=
  (c = fromOf p ∧ ov = .slice none 0 0) ∨ (∃ g o cap l, ov = .slice (some ⟨g, o, none⟩) many cap ∧ IsBest C (Tried n many p c) l ∧ Ints w ov (upL l))
def BestTry (w1 : World) (C : List Nat → Int) (n many : Nat) (p : List Nat) (iv ov : Value) (wr : World) : Prop := ∃ c : Nat, fromOf p ≤ c ∧ c + many ≤ n + p.length + 1 ∧ iv = .int .i64 (c : Int) ∧ BestOut C n many p c ov wr ∧ Below w1.heap.size w1 wr
theorem slice_shape {w : World} {v : Value} {l : List Nat} (h : Ints w v (upL l)) (hl : 1 ≤ l.length) : ∃ g o cap, v = .slice (some ⟨g, o, none⟩) l.length cap := by
  obtain ⟨_, a, cap, b, o, rfl, ha, _⟩ := h
  rw [upL_length] at ha ⊢
  obtain rfl := ha.resolve_left (by omega)
  exact ⟨b, o, cap, rfl⟩
theorem ext_cand {n many : Nat} {p l : List Nat} (h : Ext n many p l) : l.length = many ∧ ∀ x, x ∈ l → x < n := ⟨h.1.1, h.1.2.2⟩
theorem best_join {C : List Nat → Int} {n many : Nat} {p : List Nat} {c : Nat} {l l2 : List Nat} (hc : fromOf p ≤ c) (h1 : IsBest C (Tried n many p c) l) (h2 : IsBest C (Ext n many (p ++ [c])) l2) : IsBest C (Tried n many p (c + 1)) (if C l2 < C l then l2 else l) := by
  have h := h1.join h2 (fun v e hv he => by
    obtain ⟨k, _, hk, hke⟩ := hv
    exact ext_lex hk hke he)
  exact h.congr (fun v => (tried_step hc v).symm) (fun _ _ => rfl)
theorem best_start {C : List Nat → Int} {n many : Nat} {p : List Nat} {l2 : List Nat} (h2 : IsBest C (Ext n many (p ++ [fromOf p])) l2) : IsBest C (Tried n many p (fromOf p + 1)) l2 :=
  h2.congr (fun v => by rw [tried_step (Nat.le_refl _)]; exact ⟨.inr, fun h => h.resolve_left tried_none⟩) (fun _ _ => rfl)
set_option maxRecDepth 100000 in
set_option maxHeartbeats 8000000 in
theorem best_r (L : List Int) (N : List Lane) (far : Nat → Nat → Int) (next : Nat → Nat → Nat) (h0 : checkCode L N = 0) (hR : AllRooted L.length N far next) (many : Nat) (hm1 : 1 ≤ many) (hmn : many ≤ L.length) :
    ∀ (d : Nat) (w : World) (m bv : Value) (p : List Nat), Mkt w m L N → p.Pairwise (· < ·) → (∀ x, x ∈ p → x < L.length) → p.length ≤ many → fromOf p + many ≤ L.length + p.length → Ints w bv (upL p) → many + 1 ≤ p.length + d →
      Calls Try.prog 89 #[m, bv, .int .i64 (many : Int)] w (BestPost w (costL L far) (Ext L.length many p) many) := by
  have HV := Lib.hid (valid_of h0)
  have h8 := HV.out.le
  have HCR := Lib.hid (fun w m tv l hm ht hl1 hl => cost_r w m tv L N l far next hm h0 hR ht hl1 hl)
  intro d
  induction d with
  | zero =>
    intro w m bv p hm hs hp hpl hroom hb hd
    omega
  | succ d ih =>
    intro w m bv p hm hs hp hpl hroom hb hd
    have IH := Lib.hid ih
    clear ih
    have HM : Hid (∀ w', Below w.heap.size w w' → Mkt w' m L N) := Lib.hid (fun w' hb => hm.below hb)
    have HBV : Hid (∀ w', Below w.heap.size w w' → Ints w' bv (upL p)) := Lib.hid (fun w' hb' => hb.below hb')
    obtain ⟨la, lc, na, nc, rfl, hl, hN⟩ := hm.shape
    obtain ⟨_, ba, bc, bb, bo, hbe, hba, hbc⟩ := hb
    rw [upL_length] at hbe hba hbc
    have HB := Lib.hid (Below.one w (.cells #[.slice la L.length lc, .slice na N.length nc] 28))
    have HS := Lib.hid hs
    have HP := Lib.hid hp
    by_cases hfull : p.length = many
    · have hsh := slice_shape (HBV.out w (Below.refl _ _)) (by omega)
      obtain ⟨g, o, cap, hbv⟩ := hsh
      rw [hfull] at hbv
      subst hbv
      have HX : Hid (IsBest (costL L far) (Ext L.length many p) p) := Lib.hid (by
        have hc : Cand L.length many p := ⟨hfull, hs, hp⟩
        exact ⟨(ext_full hc p).2 rfl, fun v hv => .inr ⟨by rw [(ext_full hc v).1 hv], .inl ((ext_full hc v).1 hv).symm⟩⟩)
      clear hs hp hm hl hN hbe hba hbc hfull hpl hroom hd
      go_enter Try.func89, Try.ntmps89
      go_wp2
      go_ret
      exact ⟨g, o, cap, p, rfl, HX.out, HBV.out _ HB.out, HB.out⟩
    · have hpm : p.length < many := by omega
      have hne : ((p.length : Int) == (many : Int)) = false := by rw [beq_eq_false_iff_ne]; omega
      obtain ⟨fr, hfr⟩ : ∃ fr, fr = fromOf p := ⟨_, rfl⟩
      have hfrn : fr + many ≤ L.length + p.length := by rw [hfr]; exact hroom
      have K89 : Hid (∀ c, fr ≤ c → c + many ≤ L.length + p.length → ∀ w' bv', Below w.heap.size w w' → Ints w' bv' (upL (p ++ [c])) → Calls Try.prog 89 #[.agg #[.slice la L.length lc, .slice na N.length nc], bv', .int .i64 (many : Int)] w' (BestPost w' (costL L far) (Ext L.length many (p ++ [c])) many)) := Lib.hid (fun c hc1 hc2 w' bv' hb hi =>
        IH.out w' _ bv' (p ++ [c]) (HM.out w' hb) (by
          rw [List.pairwise_append]
          refine ⟨HS.out, by simp, fun x hx y hy => ?_⟩
          simp at hy
          subst hy
          exact (from_le HS.out y).2 (by rw [← hfr]; exact hc1) x hx) (fun x hx => by
          rcases List.mem_append.1 hx with hx | hx
          · exact HP.out x hx
          · simp at hx; omega) (by simp; omega) (by rw [fromOf_snoc]; simp; omega) hi (by simp; omega))
      have HFR := Lib.hid hfr
      have m1 : (many : Int) ≤ 8 := by omega
      have m2 : (p.length : Int) ≤ 8 := by omega
      have m3 : (L.length : Int) ≤ 8 := by omega
      have hbv2 : bv = .slice ba p.length bc := hbe
      by_cases hp0 : p.length = 0
      · have hp00 : p = [] := List.eq_nil_of_length_eq_zero hp0
        have hfr0 : fr = 0 := by rw [hfr, hp00]; rfl
        have hd0 : decide ((0 : Int) < (p.length : Int)) = false := decide_eq_false (by omega)
        have hd00 : ¬ 0 < p.length := by omega
        subst hbv2
        obtain ⟨bv, hbvv⟩ : ∃ bv, bv = Value.slice ba p.length bc := ⟨_, rfl⟩
        clear hs hp hm hl hN hbe hba hbc hfull hpl hroom hd hfr hp0 hp00
        go_enter Try.func89, Try.ntmps89
        go_wp2
        have HB' := Lib.hid HB.out
        obtain ⟨W1, hW1⟩ : ∃ W1, W1 = w.alloc (.cells #[.slice la L.length lc, .slice na N.length nc] 28) := ⟨_, rfl⟩
        have c0 : W1.cell? ⟨w.heap.size, 0, none⟩ = some (.slice la L.length lc) := by rw [hW1]; simp
        have c1 : W1.cell? ⟨w.heap.size, 1, none⟩ = some (.slice na N.length nc) := by rw [hW1]; simp
        rw [← hW1] at HB' ⊢
        have HC := Lib.hid (And.intro c0 c1)
        clear hW1 c0 c1
        go_loopw [9, 8, 10] (fun a b _ => BestTry W1 (costL L far) L.length many p a b) (fun i _ _ _ => L.length + 1 - (intOf i).toNat)
        case atStart => exact ⟨fr, by rw [HFR.out]; exact Nat.le_refl _, by omega, by rw [hfr0]; rfl, .inl ⟨HFR.out, rfl⟩, Below.refl _ _⟩
        case round =>
          obtain ⟨c, hc1, hc2, rfl, hout, hbr⟩ := hrel
          rw [← HFR.out] at hc1
          have HO := Lib.hid hout
          have Hb := Lib.hid hbr
          have c0 := Below.cellOf hbr HC.out.1
          have c1 := Below.cellOf hbr HC.out.2
          have HBW := Lib.hid (HB'.out.trans (hbr.mono HB'.out.size))
          clear hout hbr
          by_cases hlt : c + many ≤ L.length + p.length
          · have hle : (c : Int) ≤ (L.length : Int) - (many : Int) + (p.length : Int) := by omega
            have hled : decide ((c : Int) ≤ (L.length : Int) - (many : Int) + (p.length : Int)) = true := decide_eq_true hle
            have HBV2 := Lib.hid (HBV.out wr HBW.out)
            have K89c := K89.out c hc1 hlt
            have K89 := Lib.hid K89c
            clear K89c
            have hn0 : ¬ ((many : Int) = 0) := by omega
            have hz : ((many : Int) == 0) = false := by rw [beq_eq_false_iff_ne]; omega
            rcases HO.out with ⟨hcf, hov⟩ | ⟨g, o, cap, l, hov, hbest, hints⟩
            · subst hov
              have HCF := Lib.hid hcf
              clear hcf
              go_wp2
              go_region_held3 (fun w' => w'.cell? ⟨w.heap.size, 0, none⟩ = some (.slice la L.length lc) ∧ w'.cell? ⟨w.heap.size, 1, none⟩ = some (.slice na N.length nc))
                (first | exact ⟨Below.cellOf (hb48) c0, Below.cellOf (hb48) c1⟩ | exact ⟨Below.cellOf (below_drewN (Below.refl _ _) 1) c0, Below.cellOf (below_drewN (Below.refl _ _) 1) c1⟩ | exact ⟨Below.cellOf ((below_drewN (Below.refl wr.heap.size wr) 1).alloc (Nat.le_refl _) _) c0, Below.cellOf ((below_drewN (Below.refl wr.heap.size wr) 1).alloc (Nat.le_refl _) _) c1⟩ | exact ⟨Below.cellOf (((below_drewN (Below.refl wr.heap.size wr) 1).alloc (Nat.le_refl _) _).alloc (new_size _ _) _) c0, Below.cellOf (((below_drewN (Below.refl wr.heap.size wr) 1).alloc (Nat.le_refl _) _).alloc (new_size _ _) _) c1⟩ | exact ⟨Below.cellOf (hb46) c0, Below.cellOf (hb46) c1⟩ | exact ⟨Below.cellOf (hb43.alloc hb43.size _) c0, Below.cellOf (hb43.alloc hb43.size _) c1⟩ | exact ⟨Below.cellOf (hb43) c0, Below.cellOf (hb43) c1⟩)
                (first | (go_at_call 89; refine (K89.out w6 _ (HBW.out.trans (hb46.mono HBW.out.size)) (hm6.ints (by simp; omega))).mono ?_; rintro e w8 ⟨g8, o8, p8, l2, rfl, hl2, hi8, hb8⟩; (have hb48 := hb46.trans (hb8.mono hb46.size))) | (refine step_append_any wr.heap.size rfl _ _ rfl (.slice (some ⟨wr.heap.size, 0, none⟩) 0 0) [] (by simp [Act.eval, Act.put]) (mine_none wr.drew wr.heap.size 3 (Nat.le_refl _)) (.slice ba p.length bc) p (by simp [Act.eval, Act.put]) (HBV2.out.below ((below_drewN (Below.refl wr.heap.size wr) 1).alloc (Nat.le_refl _) _)) (by simp; omega) ((below_drewN (Below.refl wr.heap.size wr) 1).alloc (Nat.le_refl _) _).size ?_; intro v4 w4 hm4 hg4; (have hb43 := ((below_drewN (Below.refl wr.heap.size wr) 1).alloc (Nat.le_refl _) _).grown hg4 ((below_drewN (Below.refl wr.heap.size wr) 1).alloc (Nat.le_refl _) _).size (fun b hb => by simp [Value.ownBlock] at hb; omega)); (have hm43 : Mine w4 wr.heap.size 1 v4 p.length (vals p) := hm4); skip) | (refine step_append_any wr.heap.size rfl _ _ rfl (.slice (some ⟨wr.heap.size, 0, none⟩) 0 0) [] (by simp [Act.eval, Act.put]) ((mine_none wr.drew wr.heap.size 3 (Nat.le_refl _)).alloc _) (.slice ba p.length bc) p (by simp [Act.eval, Act.put]) (HBV2.out.below (((below_drewN (Below.refl wr.heap.size wr) 1).alloc (Nat.le_refl _) _).alloc (new_size _ _) _)) (by simp; omega) (((below_drewN (Below.refl wr.heap.size wr) 1).alloc (Nat.le_refl _) _).alloc (new_size _ _) _).size ?_; intro v4 w4 hm4 hg4; (have hb43 := (((below_drewN (Below.refl wr.heap.size wr) 1).alloc (Nat.le_refl _) _).alloc (new_size _ _) _).grown hg4 (((below_drewN (Below.refl wr.heap.size wr) 1).alloc (Nat.le_refl _) _).alloc (new_size _ _) _).size (fun b hb => by simp [Value.ownBlock] at hb; omega)); (have hm43 : Mine w4 wr.heap.size 1 v4 p.length (vals p) := hm4); (have hx0 := ints_new (wr.drew.alloc (.cells #[] 3)) c 3); (rw [show (wr.drew.alloc (.cells #[] 3)).heap.size = wr.heap.size + 1 by simp] at hx0); (have hx46 := hx0.grown hg4 (fun b hb e => by simp [Value.ownBlock] at hb e; omega))) | (refine step_append_any wr.heap.size rfl _ _ rfl (.slice (some ⟨wr.heap.size + 1, 0, none⟩) 0 0) [] (by simp [Act.eval, Act.put]) (mine_nx wr (.cells #[.int .i64 (c : Int)] 3)) (.slice ba p.length bc) p (by simp [Act.eval, Act.put]) (HBV2.out.below (((below_drewN (Below.refl wr.heap.size wr) 1).alloc (Nat.le_refl _) _).alloc (new_size _ _) _)) (by simp; omega) (((below_drewN (Below.refl wr.heap.size wr) 1).alloc (Nat.le_refl _) _).alloc (new_size _ _) _).size ?_; intro v4 w4 hm4 hg4; (have hb43 := (((below_drewN (Below.refl wr.heap.size wr) 1).alloc (Nat.le_refl _) _).alloc (new_size _ _) _).grown hg4 (((below_drewN (Below.refl wr.heap.size wr) 1).alloc (Nat.le_refl _) _).alloc (new_size _ _) _).size (fun b hb => by simp [Value.ownBlock] at hb; omega)); (have hm43 : Mine w4 wr.heap.size 1 v4 p.length (vals p) := hm4); (have hx46 := ((ints_new wr.drew c 3).below (Below.one _ _)).grown hg4 (fun b hb e => by simp [Value.ownBlock] at hb e; omega))) | (refine step_append_any wr.heap.size rfl _ _ rfl v4 p (by simp [Act.eval, Act.put]) (hm43.alloc _) (.slice (some ⟨w4.heap.size, 0, none⟩) 1 1) [c] (by simp [Act.eval, Act.put]) (ints_new w4 c _) (by simp; omega) (hb43.alloc hb43.size _).size ?_; intro v6 w6 hm6 hg6; (have hb46 := (hb43.alloc hb43.size _).grown hg6 (hb43.alloc hb43.size _).size (fun b hb => (hm43.lt hb).1))) | (refine step_append_any wr.heap.size rfl _ _ rfl v4 p (by simp [Act.eval, Act.put]) (hm43) (.slice (some ⟨wr.heap.size + 1, 0, none⟩) 1 1) [c] (by simp [Act.eval, Act.put]) (hx46) (by simp; omega) (hb43).size ?_; intro v6 w6 hm6 hg6; (have hb46 := (hb43).grown hg6 (hb43).size (fun b hb => (hm43.lt hb).1))) | (refine step_append_any wr.heap.size rfl _ _ rfl v4 p (by simp [Act.eval, Act.put]) (hm43) (.slice (some ⟨wr.heap.size, 0, none⟩) 1 1) [c] (by simp [Act.eval, Act.put]) (hx46) (by simp; omega) (hb43).size ?_; intro v6 w6 hm6 hg6; (have hb46 := (hb43).grown hg6 (hb43).size (fun b hb => (hm43.lt hb).1))))
              all_goals
                have HB8 := Lib.hid hb48
                have HL8 := Lib.hid hl2
                have HI8 := Lib.hid hi8
                have HBB := Lib.hid (Hb.out.trans (hb48.mono Hb.out.size))
                go_wp2
                refine wp_region_class (Later w8) (by kernel_rfl) (by kernel_rfl) (below_drewN (Below.refl _ _) 1) ?_
                repeat (go_big_quiet_step (fail))
                refine wpQuiet_nil ?_
                intro wq hw'
                obtain ⟨⟨_, hq⟩, rfl⟩ := hw'
                go_wp2
                go_roundw
                case rel => exact ⟨c + 1, by rw [← HFR.out]; omega, by omega, by go_num, .inr ⟨g8, o8, p8, l2, rfl, by have h := HL8.out; rw [HCF.out] at h ⊢; exact best_start h, HI8.out.below hq⟩, HBB.out.trans (hq.mono HBB.out.size)⟩
                case measure => simp [intOf]; omega
            · subst hov
              have HBE := Lib.hid hbest
              have HIL := Lib.hid hints
              clear hbest hints
              go_wp2
              go_region_held3 (fun w' => w'.cell? ⟨w.heap.size, 0, none⟩ = some (.slice la L.length lc) ∧ w'.cell? ⟨w.heap.size, 1, none⟩ = some (.slice na N.length nc))
                (first | exact ⟨Below.cellOf (hb48) c0, Below.cellOf (hb48) c1⟩ | exact ⟨Below.cellOf (below_drewN (Below.refl _ _) 1) c0, Below.cellOf (below_drewN (Below.refl _ _) 1) c1⟩ | exact ⟨Below.cellOf ((below_drewN (Below.refl wr.heap.size wr) 1).alloc (Nat.le_refl _) _) c0, Below.cellOf ((below_drewN (Below.refl wr.heap.size wr) 1).alloc (Nat.le_refl _) _) c1⟩ | exact ⟨Below.cellOf (((below_drewN (Below.refl wr.heap.size wr) 1).alloc (Nat.le_refl _) _).alloc (new_size _ _) _) c0, Below.cellOf (((below_drewN (Below.refl wr.heap.size wr) 1).alloc (Nat.le_refl _) _).alloc (new_size _ _) _) c1⟩ | exact ⟨Below.cellOf (hb46) c0, Below.cellOf (hb46) c1⟩ | exact ⟨Below.cellOf (hb43.alloc hb43.size _) c0, Below.cellOf (hb43.alloc hb43.size _) c1⟩ | exact ⟨Below.cellOf (hb43) c0, Below.cellOf (hb43) c1⟩)
                (first | (go_at_call 89; refine (K89.out w6 _ (HBW.out.trans (hb46.mono HBW.out.size)) (hm6.ints (by simp; omega))).mono ?_; rintro e w8 ⟨g8, o8, p8, l2, rfl, hl2, hi8, hb8⟩; (have hb48 := hb46.trans (hb8.mono hb46.size))) | (refine step_append_any wr.heap.size rfl _ _ rfl (.slice (some ⟨wr.heap.size, 0, none⟩) 0 0) [] (by simp [Act.eval, Act.put]) (mine_none wr.drew wr.heap.size 3 (Nat.le_refl _)) (.slice ba p.length bc) p (by simp [Act.eval, Act.put]) (HBV2.out.below ((below_drewN (Below.refl wr.heap.size wr) 1).alloc (Nat.le_refl _) _)) (by simp; omega) ((below_drewN (Below.refl wr.heap.size wr) 1).alloc (Nat.le_refl _) _).size ?_; intro v4 w4 hm4 hg4; (have hb43 := ((below_drewN (Below.refl wr.heap.size wr) 1).alloc (Nat.le_refl _) _).grown hg4 ((below_drewN (Below.refl wr.heap.size wr) 1).alloc (Nat.le_refl _) _).size (fun b hb => by simp [Value.ownBlock] at hb; omega)); (have hm43 : Mine w4 wr.heap.size 1 v4 p.length (vals p) := hm4); skip) | (refine step_append_any wr.heap.size rfl _ _ rfl (.slice (some ⟨wr.heap.size, 0, none⟩) 0 0) [] (by simp [Act.eval, Act.put]) ((mine_none wr.drew wr.heap.size 3 (Nat.le_refl _)).alloc _) (.slice ba p.length bc) p (by simp [Act.eval, Act.put]) (HBV2.out.below (((below_drewN (Below.refl wr.heap.size wr) 1).alloc (Nat.le_refl _) _).alloc (new_size _ _) _)) (by simp; omega) (((below_drewN (Below.refl wr.heap.size wr) 1).alloc (Nat.le_refl _) _).alloc (new_size _ _) _).size ?_; intro v4 w4 hm4 hg4; (have hb43 := (((below_drewN (Below.refl wr.heap.size wr) 1).alloc (Nat.le_refl _) _).alloc (new_size _ _) _).grown hg4 (((below_drewN (Below.refl wr.heap.size wr) 1).alloc (Nat.le_refl _) _).alloc (new_size _ _) _).size (fun b hb => by simp [Value.ownBlock] at hb; omega)); (have hm43 : Mine w4 wr.heap.size 1 v4 p.length (vals p) := hm4); (have hx0 := ints_new (wr.drew.alloc (.cells #[] 3)) c 3); (rw [show (wr.drew.alloc (.cells #[] 3)).heap.size = wr.heap.size + 1 by simp] at hx0); (have hx46 := hx0.grown hg4 (fun b hb e => by simp [Value.ownBlock] at hb e; omega))) | (refine step_append_any wr.heap.size rfl _ _ rfl (.slice (some ⟨wr.heap.size + 1, 0, none⟩) 0 0) [] (by simp [Act.eval, Act.put]) (mine_nx wr (.cells #[.int .i64 (c : Int)] 3)) (.slice ba p.length bc) p (by simp [Act.eval, Act.put]) (HBV2.out.below (((below_drewN (Below.refl wr.heap.size wr) 1).alloc (Nat.le_refl _) _).alloc (new_size _ _) _)) (by simp; omega) (((below_drewN (Below.refl wr.heap.size wr) 1).alloc (Nat.le_refl _) _).alloc (new_size _ _) _).size ?_; intro v4 w4 hm4 hg4; (have hb43 := (((below_drewN (Below.refl wr.heap.size wr) 1).alloc (Nat.le_refl _) _).alloc (new_size _ _) _).grown hg4 (((below_drewN (Below.refl wr.heap.size wr) 1).alloc (Nat.le_refl _) _).alloc (new_size _ _) _).size (fun b hb => by simp [Value.ownBlock] at hb; omega)); (have hm43 : Mine w4 wr.heap.size 1 v4 p.length (vals p) := hm4); (have hx46 := ((ints_new wr.drew c 3).below (Below.one _ _)).grown hg4 (fun b hb e => by simp [Value.ownBlock] at hb e; omega))) | (refine step_append_any wr.heap.size rfl _ _ rfl v4 p (by simp [Act.eval, Act.put]) (hm43.alloc _) (.slice (some ⟨w4.heap.size, 0, none⟩) 1 1) [c] (by simp [Act.eval, Act.put]) (ints_new w4 c _) (by simp; omega) (hb43.alloc hb43.size _).size ?_; intro v6 w6 hm6 hg6; (have hb46 := (hb43.alloc hb43.size _).grown hg6 (hb43.alloc hb43.size _).size (fun b hb => (hm43.lt hb).1))) | (refine step_append_any wr.heap.size rfl _ _ rfl v4 p (by simp [Act.eval, Act.put]) (hm43) (.slice (some ⟨wr.heap.size + 1, 0, none⟩) 1 1) [c] (by simp [Act.eval, Act.put]) (hx46) (by simp; omega) (hb43).size ?_; intro v6 w6 hm6 hg6; (have hb46 := (hb43).grown hg6 (hb43).size (fun b hb => (hm43.lt hb).1))) | (refine step_append_any wr.heap.size rfl _ _ rfl v4 p (by simp [Act.eval, Act.put]) (hm43) (.slice (some ⟨wr.heap.size, 0, none⟩) 1 1) [c] (by simp [Act.eval, Act.put]) (hx46) (by simp; omega) (hb43).size ?_; intro v6 w6 hm6 hg6; (have hb46 := (hb43).grown hg6 (hb43).size (fun b hb => (hm43.lt hb).1))))
              all_goals
                have HB8 := Lib.hid hb48
                have HL8 := Lib.hid hl2
                have HI8 := Lib.hid hi8
                have HBB := Lib.hid (Hb.out.trans (hb48.mono Hb.out.size))
                have p0 := Later.cell (Below.cellOf hb48 c0)
                have p1 := Later.cell (Below.cellOf hb48 c1)
                obtain ⟨q1, hq1⟩ : ∃ q, q = costL L far l2 := ⟨_, rfl⟩
                obtain ⟨q2, hq2⟩ : ∃ q, q = costL L far l := ⟨_, rfl⟩
                have HBX := Lib.hid (HBW.out.trans (hb48.mono HBW.out.size))
                have S1 : Hid (∀ gw : HeldW (Later w8), Calls Try.prog 68 #[.agg #[.slice la L.length lc, .slice na N.length nc], .slice (some ⟨g8, o8, none⟩) many p8] gw.w fun e w'' => e = .returned (.int .i64 q1) ∧ ∃ g' : HeldW (Later w8), w'' = g'.w) := Lib.hid (fun gw => by
                  have hx := ext_cand HL8.out.1
                  rw [hq1]
                  exact Calls.later gw (HCR.out gw.w _ _ l2 ((HM.out _ HBX.out).below gw.h) (HI8.out.below gw.h) (by omega) hx.2))
                have S2 : Hid (∀ gw : HeldW (Later w8), Calls Try.prog 68 #[.agg #[.slice la L.length lc, .slice na N.length nc], .slice (some ⟨g, o, none⟩) many cap] gw.w fun e w'' => e = .returned (.int .i64 q2) ∧ ∃ g' : HeldW (Later w8), w'' = g'.w) := Lib.hid (fun gw => by
                  obtain ⟨k, _, _, hx⟩ := HBE.out.1
                  have hx := ext_cand hx
                  rw [hq2]
                  exact Calls.later gw (HCR.out gw.w _ _ l ((HM.out _ HBX.out).below gw.h) ((HIL.out.below hb48).below gw.h) (by omega) hx.2))
                have HJ : Hid (IsBest (costL L far) (Tried L.length many p (c + 1)) (if q1 < q2 then l2 else l)) := Lib.hid (by rw [hq1, hq2]; exact best_join (by rw [← HFR.out]; exact hc1) HBE.out HL8.out)
                clear hq1 hq2
                by_cases hcmp : q1 < q2
                · rw [if_pos hcmp] at HJ
                  have hd1 : decide (q1 < q2) = true := decide_eq_true hcmp
                  clear hcmp
                  go_wp2
                  refine wp_region_class (Later w8) (by kernel_rfl) (by kernel_rfl) (below_drewN (Below.refl _ _) 1) ?_
                  repeat (go_big_quiet_step ((first | (go_at_call_of 68 (Value.slice (some ⟨g8, o8, none⟩) many p8); exact S1.out _) | (go_at_call_of 68 (Value.slice (some ⟨g, o, none⟩) many cap); exact S2.out _))))
                  refine wpQuiet_nil ?_
                  intro wq hw'
                  obtain ⟨⟨_, hq⟩, rfl⟩ := hw'
                  go_wp2
                  go_roundw
                  case rel => exact ⟨c + 1, by rw [← HFR.out]; omega, by omega, by go_num, .inr ⟨g8, o8, p8, l2, rfl, HJ.out, HI8.out.below hq⟩, HBB.out.trans (hq.mono HBB.out.size)⟩
                  case measure => simp [intOf]; omega
                · rw [if_neg hcmp] at HJ
                  have hd1 : decide (q1 < q2) = false := decide_eq_false hcmp
                  clear hcmp
                  go_wp2
                  refine wp_region_class (Later w8) (by kernel_rfl) (by kernel_rfl) (below_drewN (Below.refl _ _) 1) ?_
                  repeat (go_big_quiet_step ((first | (go_at_call_of 68 (Value.slice (some ⟨g8, o8, none⟩) many p8); exact S1.out _) | (go_at_call_of 68 (Value.slice (some ⟨g, o, none⟩) many cap); exact S2.out _))))
                  refine wpQuiet_nil ?_
                  intro wq hw'
                  obtain ⟨⟨_, hq⟩, rfl⟩ := hw'
                  go_wp2
                  go_roundw
                  case rel => exact ⟨c + 1, by rw [← HFR.out]; omega, by omega, by go_num, .inr ⟨g, o, cap, l, rfl, HJ.out, (HIL.out.below HB8.out).below hq⟩, HBB.out.trans (hq.mono HBB.out.size)⟩
                  case measure => simp [intOf]; omega
          · have hle : ¬ (c : Int) ≤ (L.length : Int) - (many : Int) + (p.length : Int) := by omega
            have hled : decide ((c : Int) ≤ (L.length : Int) - (many : Int) + (p.length : Int)) = false := decide_eq_false hle
            rcases HO.out with ⟨hcf, hov⟩ | ⟨g, o, cap, l, hov, hbest, hints⟩
            · exfalso
              rw [← HFR.out] at hcf
              omega
            · subst hov
              have HBE := Lib.hid (hbest.congr (fun v => tried_all HS.out (by omega) (by omega) (by omega) v) (fun _ _ => rfl))
              have HIL := Lib.hid hints
              clear hbest hints
              go_wp2
              go_ret
              exact ⟨g, o, cap, l, rfl, HBE.out, HIL.out, HBW.out⟩
      · obtain ⟨q, hq⟩ : ∃ q, p.length = q + 1 := ⟨p.length - 1, by omega⟩
        have hz0 : p[q]? = some (p.getD q 0) := by rw [List.getD_eq_getElem?_getD, List.getElem?_eq_getElem (by omega)]; rfl
        have hfr1 : fr = p.getD q 0 + 1 := by rw [hfr]; unfold fromOf; rw [if_neg hp0, hq]; rfl
        obtain ⟨z, hzz⟩ : ∃ z, z = p.getD q 0 := ⟨_, rfl⟩
        rw [← hzz] at hz0 hfr1
        have hzn : z < L.length := HP.out z (List.mem_of_getElem? hz0)
        obtain rfl := hba.resolve_left hp0
        rw [hq] at hbv2
        subst hbv2
        have qz : w.cell? ⟨bb, bo + q, none⟩ = some (.int .i64 (z : Int)) := ints_get (HBV.out w (Below.refl _ _)) hz0
        have qz1 := Below.cellOf HB.out qz
        have e1 : (q : Int) + 1 - 1 = (q : Int) := by omega
        have g1 : (0 : Int) ≤ (q : Int) := by omega
        have g2 : (q : Int) < (q : Int) + 1 := by omega
        have hd0 : decide ((0 : Int) < (q : Int) + 1) = true := decide_eq_true (by omega)
        have g3 : (0 : Int) < (q : Int) + 1 := by omega
        have hneq : ((q : Int) + 1 == (many : Int)) = false := by rw [beq_eq_false_iff_ne]; omega
        have HQ := Lib.hid hq
        have m2q : (q : Int) + 1 ≤ 8 := by omega
        clear hs hp hm hl hN hbe hba hbc hfull hpl hroom hd hfr hp0 hzz hz0 qz hne m2
        go_enter Try.func89, Try.ntmps89
        go_wp2
        clear hq
        have hq := HQ.out
        have HB' := Lib.hid HB.out
        obtain ⟨W1, hW1⟩ : ∃ W1, W1 = w.alloc (.cells #[.slice la L.length lc, .slice na N.length nc] 28) := ⟨_, rfl⟩
        have c0 : W1.cell? ⟨w.heap.size, 0, none⟩ = some (.slice la L.length lc) := by rw [hW1]; simp
        have c1 : W1.cell? ⟨w.heap.size, 1, none⟩ = some (.slice na N.length nc) := by rw [hW1]; simp
        rw [← hW1] at HB' ⊢
        have HC := Lib.hid (And.intro c0 c1)
        clear hW1 c0 c1
        go_loopw [9, 8, 10] (fun a b _ => BestTry W1 (costL L far) L.length many p a b) (fun i _ _ _ => L.length + 1 - (intOf i).toNat)
        case atStart => exact ⟨fr, by rw [HFR.out]; exact Nat.le_refl _, by omega, by rw [hfr1]; rfl, .inl ⟨HFR.out, rfl⟩, Below.refl _ _⟩
        case round =>
          obtain ⟨c, hc1, hc2, rfl, hout, hbr⟩ := hrel
          rw [← HFR.out] at hc1
          have HO := Lib.hid hout
          have Hb := Lib.hid hbr
          have c0 := Below.cellOf hbr HC.out.1
          have c1 := Below.cellOf hbr HC.out.2
          have HBW := Lib.hid (HB'.out.trans (hbr.mono HB'.out.size))
          clear hout hbr
          by_cases hlt : c + many ≤ L.length + p.length
          · have hle : (c : Int) ≤ (L.length : Int) - (many : Int) + ((q : Int) + 1) := by omega
            have hled : decide ((c : Int) ≤ (L.length : Int) - (many : Int) + ((q : Int) + 1)) = true := decide_eq_true hle
            have HBV2 := Lib.hid (HBV.out wr HBW.out)
            have K89c := K89.out c hc1 hlt
            have K89 := Lib.hid K89c
            clear K89c
            have hn0 : ¬ ((many : Int) = 0) := by omega
            have hz : ((many : Int) == 0) = false := by rw [beq_eq_false_iff_ne]; omega
            rcases HO.out with ⟨hcf, hov⟩ | ⟨g, o, cap, l, hov, hbest, hints⟩
            · subst hov
              have HCF := Lib.hid hcf
              clear hcf
              go_wp2
              go_region_held3 (fun w' => w'.cell? ⟨w.heap.size, 0, none⟩ = some (.slice la L.length lc) ∧ w'.cell? ⟨w.heap.size, 1, none⟩ = some (.slice na N.length nc))
                (first | exact ⟨Below.cellOf (hb48) c0, Below.cellOf (hb48) c1⟩ | exact ⟨Below.cellOf (below_drewN (Below.refl _ _) 1) c0, Below.cellOf (below_drewN (Below.refl _ _) 1) c1⟩ | exact ⟨Below.cellOf ((below_drewN (Below.refl wr.heap.size wr) 1).alloc (Nat.le_refl _) _) c0, Below.cellOf ((below_drewN (Below.refl wr.heap.size wr) 1).alloc (Nat.le_refl _) _) c1⟩ | exact ⟨Below.cellOf (((below_drewN (Below.refl wr.heap.size wr) 1).alloc (Nat.le_refl _) _).alloc (new_size _ _) _) c0, Below.cellOf (((below_drewN (Below.refl wr.heap.size wr) 1).alloc (Nat.le_refl _) _).alloc (new_size _ _) _) c1⟩ | exact ⟨Below.cellOf (hb46) c0, Below.cellOf (hb46) c1⟩ | exact ⟨Below.cellOf (hb43.alloc hb43.size _) c0, Below.cellOf (hb43.alloc hb43.size _) c1⟩ | exact ⟨Below.cellOf (hb43) c0, Below.cellOf (hb43) c1⟩)
                (first | (go_at_call 89; refine (K89.out w6 _ (HBW.out.trans (hb46.mono HBW.out.size)) (hm6.ints (by simp; omega))).mono ?_; rintro e w8 ⟨g8, o8, p8, l2, rfl, hl2, hi8, hb8⟩; (have hb48 := hb46.trans (hb8.mono hb46.size))) | (refine step_append_any wr.heap.size rfl _ _ rfl (.slice (some ⟨wr.heap.size, 0, none⟩) 0 0) [] (by simp [Act.eval, Act.put]) (mine_none wr.drew wr.heap.size 3 (Nat.le_refl _)) (.slice (some ⟨bb, bo, none⟩) (q + 1) bc) p (by simp [Act.eval, Act.put]) (HBV2.out.below ((below_drewN (Below.refl wr.heap.size wr) 1).alloc (Nat.le_refl _) _)) (by simp; omega) ((below_drewN (Below.refl wr.heap.size wr) 1).alloc (Nat.le_refl _) _).size ?_; intro v4 w4 hm4 hg4; (have hb43 := ((below_drewN (Below.refl wr.heap.size wr) 1).alloc (Nat.le_refl _) _).grown hg4 ((below_drewN (Below.refl wr.heap.size wr) 1).alloc (Nat.le_refl _) _).size (fun b hb => by simp [Value.ownBlock] at hb; omega)); (have hm43 : Mine w4 wr.heap.size 1 v4 p.length (vals p) := hm4); skip) | (refine step_append_any wr.heap.size rfl _ _ rfl (.slice (some ⟨wr.heap.size, 0, none⟩) 0 0) [] (by simp [Act.eval, Act.put]) ((mine_none wr.drew wr.heap.size 3 (Nat.le_refl _)).alloc _) (.slice (some ⟨bb, bo, none⟩) (q + 1) bc) p (by simp [Act.eval, Act.put]) (HBV2.out.below (((below_drewN (Below.refl wr.heap.size wr) 1).alloc (Nat.le_refl _) _).alloc (new_size _ _) _)) (by simp; omega) (((below_drewN (Below.refl wr.heap.size wr) 1).alloc (Nat.le_refl _) _).alloc (new_size _ _) _).size ?_; intro v4 w4 hm4 hg4; (have hb43 := (((below_drewN (Below.refl wr.heap.size wr) 1).alloc (Nat.le_refl _) _).alloc (new_size _ _) _).grown hg4 (((below_drewN (Below.refl wr.heap.size wr) 1).alloc (Nat.le_refl _) _).alloc (new_size _ _) _).size (fun b hb => by simp [Value.ownBlock] at hb; omega)); (have hm43 : Mine w4 wr.heap.size 1 v4 p.length (vals p) := hm4); (have hx0 := ints_new (wr.drew.alloc (.cells #[] 3)) c 3); (rw [show (wr.drew.alloc (.cells #[] 3)).heap.size = wr.heap.size + 1 by simp] at hx0); (have hx46 := hx0.grown hg4 (fun b hb e => by simp [Value.ownBlock] at hb e; omega))) | (refine step_append_any wr.heap.size rfl _ _ rfl (.slice (some ⟨wr.heap.size + 1, 0, none⟩) 0 0) [] (by simp [Act.eval, Act.put]) (mine_nx wr (.cells #[.int .i64 (c : Int)] 3)) (.slice (some ⟨bb, bo, none⟩) (q + 1) bc) p (by simp [Act.eval, Act.put]) (HBV2.out.below (((below_drewN (Below.refl wr.heap.size wr) 1).alloc (Nat.le_refl _) _).alloc (new_size _ _) _)) (by simp; omega) (((below_drewN (Below.refl wr.heap.size wr) 1).alloc (Nat.le_refl _) _).alloc (new_size _ _) _).size ?_; intro v4 w4 hm4 hg4; (have hb43 := (((below_drewN (Below.refl wr.heap.size wr) 1).alloc (Nat.le_refl _) _).alloc (new_size _ _) _).grown hg4 (((below_drewN (Below.refl wr.heap.size wr) 1).alloc (Nat.le_refl _) _).alloc (new_size _ _) _).size (fun b hb => by simp [Value.ownBlock] at hb; omega)); (have hm43 : Mine w4 wr.heap.size 1 v4 p.length (vals p) := hm4); (have hx46 := ((ints_new wr.drew c 3).below (Below.one _ _)).grown hg4 (fun b hb e => by simp [Value.ownBlock] at hb e; omega))) | (refine step_append_any wr.heap.size rfl _ _ rfl v4 p (by simp [Act.eval, Act.put]) (hm43.alloc _) (.slice (some ⟨w4.heap.size, 0, none⟩) 1 1) [c] (by simp [Act.eval, Act.put]) (ints_new w4 c _) (by simp; omega) (hb43.alloc hb43.size _).size ?_; intro v6 w6 hm6 hg6; (have hb46 := (hb43.alloc hb43.size _).grown hg6 (hb43.alloc hb43.size _).size (fun b hb => (hm43.lt hb).1))) | (refine step_append_any wr.heap.size rfl _ _ rfl v4 p (by simp [Act.eval, Act.put]) (hm43) (.slice (some ⟨wr.heap.size + 1, 0, none⟩) 1 1) [c] (by simp [Act.eval, Act.put]) (hx46) (by simp; omega) (hb43).size ?_; intro v6 w6 hm6 hg6; (have hb46 := (hb43).grown hg6 (hb43).size (fun b hb => (hm43.lt hb).1))) | (refine step_append_any wr.heap.size rfl _ _ rfl v4 p (by simp [Act.eval, Act.put]) (hm43) (.slice (some ⟨wr.heap.size, 0, none⟩) 1 1) [c] (by simp [Act.eval, Act.put]) (hx46) (by simp; omega) (hb43).size ?_; intro v6 w6 hm6 hg6; (have hb46 := (hb43).grown hg6 (hb43).size (fun b hb => (hm43.lt hb).1))))
              all_goals
                have HB8 := Lib.hid hb48
                have HL8 := Lib.hid hl2
                have HI8 := Lib.hid hi8
                have HBB := Lib.hid (Hb.out.trans (hb48.mono Hb.out.size))
                go_wp2
                refine wp_region_class (Later w8) (by kernel_rfl) (by kernel_rfl) (below_drewN (Below.refl _ _) 1) ?_
                repeat (go_big_quiet_step (fail))
                refine wpQuiet_nil ?_
                intro wq hw'
                obtain ⟨⟨_, hq⟩, rfl⟩ := hw'
                go_wp2
                go_roundw
                case rel => exact ⟨c + 1, by rw [← HFR.out]; omega, by omega, by go_num, .inr ⟨g8, o8, p8, l2, rfl, by have h := HL8.out; rw [HCF.out] at h ⊢; exact best_start h, HI8.out.below hq⟩, HBB.out.trans (hq.mono HBB.out.size)⟩
                case measure => simp [intOf]; omega
            · subst hov
              have HBE := Lib.hid hbest
              have HIL := Lib.hid hints
              clear hbest hints
              go_wp2
              go_region_held3 (fun w' => w'.cell? ⟨w.heap.size, 0, none⟩ = some (.slice la L.length lc) ∧ w'.cell? ⟨w.heap.size, 1, none⟩ = some (.slice na N.length nc))
                (first | exact ⟨Below.cellOf (hb48) c0, Below.cellOf (hb48) c1⟩ | exact ⟨Below.cellOf (below_drewN (Below.refl _ _) 1) c0, Below.cellOf (below_drewN (Below.refl _ _) 1) c1⟩ | exact ⟨Below.cellOf ((below_drewN (Below.refl wr.heap.size wr) 1).alloc (Nat.le_refl _) _) c0, Below.cellOf ((below_drewN (Below.refl wr.heap.size wr) 1).alloc (Nat.le_refl _) _) c1⟩ | exact ⟨Below.cellOf (((below_drewN (Below.refl wr.heap.size wr) 1).alloc (Nat.le_refl _) _).alloc (new_size _ _) _) c0, Below.cellOf (((below_drewN (Below.refl wr.heap.size wr) 1).alloc (Nat.le_refl _) _).alloc (new_size _ _) _) c1⟩ | exact ⟨Below.cellOf (hb46) c0, Below.cellOf (hb46) c1⟩ | exact ⟨Below.cellOf (hb43.alloc hb43.size _) c0, Below.cellOf (hb43.alloc hb43.size _) c1⟩ | exact ⟨Below.cellOf (hb43) c0, Below.cellOf (hb43) c1⟩)
                (first | (go_at_call 89; refine (K89.out w6 _ (HBW.out.trans (hb46.mono HBW.out.size)) (hm6.ints (by simp; omega))).mono ?_; rintro e w8 ⟨g8, o8, p8, l2, rfl, hl2, hi8, hb8⟩; (have hb48 := hb46.trans (hb8.mono hb46.size))) | (refine step_append_any wr.heap.size rfl _ _ rfl (.slice (some ⟨wr.heap.size, 0, none⟩) 0 0) [] (by simp [Act.eval, Act.put]) (mine_none wr.drew wr.heap.size 3 (Nat.le_refl _)) (.slice (some ⟨bb, bo, none⟩) (q + 1) bc) p (by simp [Act.eval, Act.put]) (HBV2.out.below ((below_drewN (Below.refl wr.heap.size wr) 1).alloc (Nat.le_refl _) _)) (by simp; omega) ((below_drewN (Below.refl wr.heap.size wr) 1).alloc (Nat.le_refl _) _).size ?_; intro v4 w4 hm4 hg4; (have hb43 := ((below_drewN (Below.refl wr.heap.size wr) 1).alloc (Nat.le_refl _) _).grown hg4 ((below_drewN (Below.refl wr.heap.size wr) 1).alloc (Nat.le_refl _) _).size (fun b hb => by simp [Value.ownBlock] at hb; omega)); (have hm43 : Mine w4 wr.heap.size 1 v4 p.length (vals p) := hm4); skip) | (refine step_append_any wr.heap.size rfl _ _ rfl (.slice (some ⟨wr.heap.size, 0, none⟩) 0 0) [] (by simp [Act.eval, Act.put]) ((mine_none wr.drew wr.heap.size 3 (Nat.le_refl _)).alloc _) (.slice (some ⟨bb, bo, none⟩) (q + 1) bc) p (by simp [Act.eval, Act.put]) (HBV2.out.below (((below_drewN (Below.refl wr.heap.size wr) 1).alloc (Nat.le_refl _) _).alloc (new_size _ _) _)) (by simp; omega) (((below_drewN (Below.refl wr.heap.size wr) 1).alloc (Nat.le_refl _) _).alloc (new_size _ _) _).size ?_; intro v4 w4 hm4 hg4; (have hb43 := (((below_drewN (Below.refl wr.heap.size wr) 1).alloc (Nat.le_refl _) _).alloc (new_size _ _) _).grown hg4 (((below_drewN (Below.refl wr.heap.size wr) 1).alloc (Nat.le_refl _) _).alloc (new_size _ _) _).size (fun b hb => by simp [Value.ownBlock] at hb; omega)); (have hm43 : Mine w4 wr.heap.size 1 v4 p.length (vals p) := hm4); (have hx0 := ints_new (wr.drew.alloc (.cells #[] 3)) c 3); (rw [show (wr.drew.alloc (.cells #[] 3)).heap.size = wr.heap.size + 1 by simp] at hx0); (have hx46 := hx0.grown hg4 (fun b hb e => by simp [Value.ownBlock] at hb e; omega))) | (refine step_append_any wr.heap.size rfl _ _ rfl (.slice (some ⟨wr.heap.size + 1, 0, none⟩) 0 0) [] (by simp [Act.eval, Act.put]) (mine_nx wr (.cells #[.int .i64 (c : Int)] 3)) (.slice (some ⟨bb, bo, none⟩) (q + 1) bc) p (by simp [Act.eval, Act.put]) (HBV2.out.below (((below_drewN (Below.refl wr.heap.size wr) 1).alloc (Nat.le_refl _) _).alloc (new_size _ _) _)) (by simp; omega) (((below_drewN (Below.refl wr.heap.size wr) 1).alloc (Nat.le_refl _) _).alloc (new_size _ _) _).size ?_; intro v4 w4 hm4 hg4; (have hb43 := (((below_drewN (Below.refl wr.heap.size wr) 1).alloc (Nat.le_refl _) _).alloc (new_size _ _) _).grown hg4 (((below_drewN (Below.refl wr.heap.size wr) 1).alloc (Nat.le_refl _) _).alloc (new_size _ _) _).size (fun b hb => by simp [Value.ownBlock] at hb; omega)); (have hm43 : Mine w4 wr.heap.size 1 v4 p.length (vals p) := hm4); (have hx46 := ((ints_new wr.drew c 3).below (Below.one _ _)).grown hg4 (fun b hb e => by simp [Value.ownBlock] at hb e; omega))) | (refine step_append_any wr.heap.size rfl _ _ rfl v4 p (by simp [Act.eval, Act.put]) (hm43.alloc _) (.slice (some ⟨w4.heap.size, 0, none⟩) 1 1) [c] (by simp [Act.eval, Act.put]) (ints_new w4 c _) (by simp; omega) (hb43.alloc hb43.size _).size ?_; intro v6 w6 hm6 hg6; (have hb46 := (hb43.alloc hb43.size _).grown hg6 (hb43.alloc hb43.size _).size (fun b hb => (hm43.lt hb).1))) | (refine step_append_any wr.heap.size rfl _ _ rfl v4 p (by simp [Act.eval, Act.put]) (hm43) (.slice (some ⟨wr.heap.size + 1, 0, none⟩) 1 1) [c] (by simp [Act.eval, Act.put]) (hx46) (by simp; omega) (hb43).size ?_; intro v6 w6 hm6 hg6; (have hb46 := (hb43).grown hg6 (hb43).size (fun b hb => (hm43.lt hb).1))) | (refine step_append_any wr.heap.size rfl _ _ rfl v4 p (by simp [Act.eval, Act.put]) (hm43) (.slice (some ⟨wr.heap.size, 0, none⟩) 1 1) [c] (by simp [Act.eval, Act.put]) (hx46) (by simp; omega) (hb43).size ?_; intro v6 w6 hm6 hg6; (have hb46 := (hb43).grown hg6 (hb43).size (fun b hb => (hm43.lt hb).1))))
              all_goals
                have HB8 := Lib.hid hb48
                have HL8 := Lib.hid hl2
                have HI8 := Lib.hid hi8
                have HBB := Lib.hid (Hb.out.trans (hb48.mono Hb.out.size))
                have p0 := Later.cell (Below.cellOf hb48 c0)
                have p1 := Later.cell (Below.cellOf hb48 c1)
                obtain ⟨q1, hq1⟩ : ∃ q, q = costL L far l2 := ⟨_, rfl⟩
                obtain ⟨q2, hq2⟩ : ∃ q, q = costL L far l := ⟨_, rfl⟩
                have HBX := Lib.hid (HBW.out.trans (hb48.mono HBW.out.size))
                have S1 : Hid (∀ gw : HeldW (Later w8), Calls Try.prog 68 #[.agg #[.slice la L.length lc, .slice na N.length nc], .slice (some ⟨g8, o8, none⟩) many p8] gw.w fun e w'' => e = .returned (.int .i64 q1) ∧ ∃ g' : HeldW (Later w8), w'' = g'.w) := Lib.hid (fun gw => by
                  have hx := ext_cand HL8.out.1
                  rw [hq1]
                  exact Calls.later gw (HCR.out gw.w _ _ l2 ((HM.out _ HBX.out).below gw.h) (HI8.out.below gw.h) (by omega) hx.2))
                have S2 : Hid (∀ gw : HeldW (Later w8), Calls Try.prog 68 #[.agg #[.slice la L.length lc, .slice na N.length nc], .slice (some ⟨g, o, none⟩) many cap] gw.w fun e w'' => e = .returned (.int .i64 q2) ∧ ∃ g' : HeldW (Later w8), w'' = g'.w) := Lib.hid (fun gw => by
                  obtain ⟨k, _, _, hx⟩ := HBE.out.1
                  have hx := ext_cand hx
                  rw [hq2]
                  exact Calls.later gw (HCR.out gw.w _ _ l ((HM.out _ HBX.out).below gw.h) ((HIL.out.below hb48).below gw.h) (by omega) hx.2))
                have HJ : Hid (IsBest (costL L far) (Tried L.length many p (c + 1)) (if q1 < q2 then l2 else l)) := Lib.hid (by rw [hq1, hq2]; exact best_join (by rw [← HFR.out]; exact hc1) HBE.out HL8.out)
                clear hq1 hq2
                by_cases hcmp : q1 < q2
                · rw [if_pos hcmp] at HJ
                  have hd1 : decide (q1 < q2) = true := decide_eq_true hcmp
                  clear hcmp
                  go_wp2
                  refine wp_region_class (Later w8) (by kernel_rfl) (by kernel_rfl) (below_drewN (Below.refl _ _) 1) ?_
                  repeat (go_big_quiet_step ((first | (go_at_call_of 68 (Value.slice (some ⟨g8, o8, none⟩) many p8); exact S1.out _) | (go_at_call_of 68 (Value.slice (some ⟨g, o, none⟩) many cap); exact S2.out _))))
                  refine wpQuiet_nil ?_
                  intro wq hw'
                  obtain ⟨⟨_, hq⟩, rfl⟩ := hw'
                  go_wp2
                  go_roundw
                  case rel => exact ⟨c + 1, by rw [← HFR.out]; omega, by omega, by go_num, .inr ⟨g8, o8, p8, l2, rfl, HJ.out, HI8.out.below hq⟩, HBB.out.trans (hq.mono HBB.out.size)⟩
                  case measure => simp [intOf]; omega
                · rw [if_neg hcmp] at HJ
                  have hd1 : decide (q1 < q2) = false := decide_eq_false hcmp
                  clear hcmp
                  go_wp2
                  refine wp_region_class (Later w8) (by kernel_rfl) (by kernel_rfl) (below_drewN (Below.refl _ _) 1) ?_
                  repeat (go_big_quiet_step ((first | (go_at_call_of 68 (Value.slice (some ⟨g8, o8, none⟩) many p8); exact S1.out _) | (go_at_call_of 68 (Value.slice (some ⟨g, o, none⟩) many cap); exact S2.out _))))
                  refine wpQuiet_nil ?_
                  intro wq hw'
                  obtain ⟨⟨_, hq⟩, rfl⟩ := hw'
                  go_wp2
                  go_roundw
                  case rel => exact ⟨c + 1, by rw [← HFR.out]; omega, by omega, by go_num, .inr ⟨g, o, cap, l, rfl, HJ.out, (HIL.out.below HB8.out).below hq⟩, HBB.out.trans (hq.mono HBB.out.size)⟩
                  case measure => simp [intOf]; omega
          · have hle : ¬ (c : Int) ≤ (L.length : Int) - (many : Int) + ((q : Int) + 1) := by omega
            have hled : decide ((c : Int) ≤ (L.length : Int) - (many : Int) + ((q : Int) + 1)) = false := decide_eq_false hle
            rcases HO.out with ⟨hcf, hov⟩ | ⟨g, o, cap, l, hov, hbest, hints⟩
            · exfalso
              rw [← HFR.out] at hcf
              omega
            · subst hov
              have HBE := Lib.hid (hbest.congr (fun v => tried_all HS.out (by omega) (by omega) (by omega) v) (fun _ _ => rfl))
              have HIL := Lib.hid hints
              clear hbest hints
              go_wp2
              go_ret
              exact ⟨g, o, cap, l, rfl, HBE.out, HIL.out, HBW.out⟩
end Go.Proofs.Ytkhkgmelicdpkaa
