/- The reference's reached: the corners that can be reached from one without some others. -/
import Derived.Test.YtkhkgmelicdpkaaRq
set_option linter.unusedVariables false
set_option linter.unusedSimpArgs false
namespace Go.Proofs.Ytkhkgmelicdpkaa
open Go.RowKit Go.BigFrame

def ReOut (w1 : World) (N : List Lane) (ws : List Nat) (n r : Nat) (iv ov : Value) (wr : World) : Prop :=
  ∃ (i : Nat) (l : List Nat), Meet n (Adj N) (fun y => y ∈ ws) r l i 0 ∧ i ≤ l.length ∧ iv = .int .i64 (i : Int) ∧ Mine wr w1.heap.size 1 ov l.length (vals l) ∧ Below w1.heap.size w1 wr
def ReIn (w1 : World) (N : List Lane) (ws : List Nat) (n r i : Nat) (kv ov : Value) (wr : World) : Prop :=
  ∃ (k : Nat) (l : List Nat), k ≤ n ∧ Meet n (Adj N) (fun y => y ∈ ws) r l i k ∧ i < l.length ∧ kv = .int .i64 (k : Int) ∧ Mine wr w1.heap.size 1 ov l.length (vals l) ∧ Below w1.heap.size w1 wr
theorem mem_upL {l : List Nat} {x : Nat} : (x : Int) ∈ upL l ↔ x ∈ l := by
  unfold upL
  rw [List.mem_map]
  constructor
  · rintro ⟨y, hy, e⟩
    rw [show x = y by omega]; exact hy
  · intro h
    exact ⟨x, h, rfl⟩
/-- An owned list that is not empty. -/
theorem mine_list {w : World} {base : Nat} {v : Value} {l : List Nat} (h : Mine w base 1 v l.length (vals l)) (hl : 1 ≤ l.length) : ∃ g o cap, v = .slice (some ⟨g, o, none⟩) l.length cap ∧ ∀ (j x : Nat), l[j]? = some x → w.cell? ⟨g, o + j, none⟩ = some (.int .i64 (x : Int)) := by
  rcases h.2 with ⟨_, h0⟩ | ⟨g, o, cap, rfl, h1, h2, h3, h4, h5, h6⟩
  · omega
  · refine ⟨g, o, cap, rfl, fun j x hx => ?_⟩
    obtain ⟨hj, e⟩ := List.getElem?_eq_some_iff.1 hx
    rw [h5 j (by omega)]
    simp [vals, hx]
def MetPost (w : World) (N : List Lane) (ws : List Nat) (n r : Nat) (e : Ending) (w' : World) : Prop :=
  ∃ v l, e = .returned v ∧ Met n (Adj N) (fun y => y ∈ ws) r l ∧ Mine w' w.heap.size 1 v l.length (vals l) ∧ Below w.heap.size w w'
set_option maxRecDepth 100000 in
set_option maxHeartbeats 4000000 in
theorem reached_any (w : World) (m wv : Value) (L : List Int) (N : List Lane) (ws : List Nat) (r : Nat) (hm : Mkt w m L N) (hw : Ints w wv (upL ws)) (hG : Good L.length N N.length) (hn : L.length ≤ 8) (hr : r < L.length) :
    Calls Try.prog 72 #[m, .int .i64 (r : Int), wv] w (MetPost w N ws L.length r) := by
  have HM : Hid (∀ w', Below w.heap.size w w' → Mkt w' m L N) := Lib.hid (fun w' hb => hm.below hb)
  have HWS : Hid (∀ w', Below w.heap.size w w' → Ints w' wv (upL ws)) := Lib.hid (fun w' hb => hw.below hb)
  obtain ⟨la, lc, na, nc, rfl, hl, hN⟩ := hm.shape
  have HG := Lib.hid hG
  clear hm hw hl hN hG
  go_enter Try.func72, Try.ntmps72
  go_wp2
  obtain ⟨W1, hW1⟩ : ∃ W1, W1 = w.alloc (.cells #[.slice la L.length lc, .slice na N.length nc] 28) := ⟨_, rfl⟩
  have HB := Lib.hid (by rw [hW1]; exact Below.one (w := w) (.cells #[.slice la L.length lc, .slice na N.length nc] 28) : Below w.heap.size w W1)
  have hs1 : w.heap.size + 1 = W1.heap.size := by rw [hW1]; simp
  have c0 : W1.cell? ⟨w.heap.size, 0, none⟩ = some (.slice la L.length lc) := by rw [hW1]; simp
  have c1 : W1.cell? ⟨w.heap.size, 1, none⟩ = some (.slice na N.length nc) := by rw [hW1]; simp
  rw [← hW1]
  have HC := Lib.hid (And.intro c0 c1)
  have HS1 := Lib.hid hs1
  clear hW1 c0 c1 hs1
  go_loopw [8, 7, 9] (fun a b _ => ReOut W1 N ws L.length r a b) (fun i _ _ _ => L.length - (intOf i).toNat)
  case atStart => exact ⟨0, [r], Meet.start hr, by simp, rfl, by
    have h := Mine.made W1 W1.heap.size 1 #[.int .i64 (r : Int)] 3 1 (Nat.le_refl _) (by decide) (by simp)
    have e := HS1.out
    first | exact h | (rw [e]; exact h) | (rw [← e] at h; exact h), Below.one W1 _⟩
  case round =>
    obtain ⟨i, l, hM, hil, rfl, hmine, hb⟩ := hrel
    have HMT := Lib.hid hM
    have HMI := Lib.hid hmine
    have Hb := Lib.hid hb
    have hlen := hM.length
    have hpos : 1 ≤ l.length := List.length_pos_of_mem hM.root
    obtain ⟨g0, o0, cap0, hov, _⟩ := mine_list hmine hpos
    subst hov
    clear hM hmine hb
    by_cases hlt : i < l.length
    · have hd : decide ((i : Int) < (l.length : Int)) = true := decide_eq_true (by omega)
      go_wp2
      go_loopw [9, 7] (ReIn W1 N ws L.length r i) (fun k _ _ => L.length - (intOf k).toNat)
      case atStart => exact ⟨0, l, Nat.zero_le _, HMT.out, hlt, rfl, HMI.out, Hb.out⟩
      case round =>
        obtain ⟨k, l2, hk, hM2, hil2, rfl, hmine2, hb2⟩ := hrel
        have HMT2 := Lib.hid hM2
        have HMI2 := Lib.hid hmine2
        have Hb2 := Lib.hid hb2
        have hlen2 := hM2.length
        obtain ⟨g, o, cap, hov2, hcell⟩ := mine_list hmine2 (by omega)
        subst hov2
        obtain ⟨x, hx⟩ : ∃ x, l2[i]? = some x := ⟨l2[i], List.getElem?_eq_getElem hil2⟩
        have qx := hcell i x hx
        have c0 := Below.cellOf hb2 HC.out.1
        have c1 := Below.cellOf hb2 HC.out.2
        have HX := Lib.hid hx
        have HL2 := Lib.hid (hmine2.ints (by omega))
        clear hM2 hmine2 hb2 hcell hx
        by_cases hlt2 : k < L.length
        · have p0 := Later.cell c0
          have p1 := Later.cell c1
          have p2 := Later.cell qx
          have HBW := Lib.hid (HB.out.trans (Hb2.out.mono HB.out.size))
          obtain ⟨ln, hln⟩ : ∃ ln, ln = laneF N (x : Int) (k : Int) := ⟨_, rfl⟩
          have K75 : Hid (∀ g : HeldW (Later wr), Calls Try.prog 75 #[.agg #[.slice la L.length lc, .slice na N.length nc], .int .i64 (x : Int), .int .i64 (k : Int)] g.w fun e w'' => e = .returned (.int .i64 ln) ∧ ∃ g' : HeldW (Later wr), w'' = g'.w) := Lib.hid (fun g => by rw [hln]; exact Calls.later g (lane_any g.w _ L N x k ((HM.out _ HBW.out).below g.h)))
          have hp := laneF_pos HG.out x k
          rw [← hln] at hp
          have i1 : (0 : Int) ≤ (i : Int) := by omega
          have i2 : (i : Int) < (l2.length : Int) := by omega
          clear hln
          by_cases hA : Adj N x k
          · have hl0 : 0 < ln := hp.2 hA
            have hd1 : decide (0 < ln) = true := decide_eq_true hl0
            have HA := Lib.hid hA
            clear hp hA hl0
            by_cases hin : k ∈ l2
            · have K73a : Hid (∀ gw : HeldW (Later wr), Calls Try.prog 73 #[.slice (some ⟨g, o, none⟩) l2.length cap, .int .i64 (k : Int)] gw.w fun e w'' => e = .returned (.bool true) ∧ ∃ g' : HeldW (Later wr), w'' = g'.w) := Lib.hid (fun gw => by
                have h := has_any gw.w _ (upL l2) (k : Int) (HL2.out.below gw.h)
                rw [decide_eq_true (mem_upL.2 hin)] at h
                exact Calls.later_same gw h)
              have HIN := Lib.hid hin
              clear hin
              go_wp2
              refine wp_region_class (Later wr) (by kernel_rfl) (by kernel_rfl) (below_drewN (Below.refl _ _) 1) ?_
              repeat (go_big_quiet_step ((first | (go_at_call 75; exact K75.out _) | (go_at_call 73; exact K73a.out _))))
              refine wpQuiet_nil ?_
              intro wq hw'
              obtain ⟨⟨_, hq⟩, rfl⟩ := hw'
              go_wp2
              go_roundw
              case rel => exact ⟨k + 1, l2, by omega, HMT2.out.skip HX.out (.inr (.inl HIN.out)), hil2, by go_num, HMI2.out.below hq, Hb2.out.trans (hq.mono Hb2.out.size)⟩
              case measure => simp [intOf]; omega
            · by_cases hws : k ∈ ws
              · have K73a : Hid (∀ gw : HeldW (Later wr), Calls Try.prog 73 #[.slice (some ⟨g, o, none⟩) l2.length cap, .int .i64 (k : Int)] gw.w fun e w'' => e = .returned (.bool false) ∧ ∃ g' : HeldW (Later wr), w'' = g'.w) := Lib.hid (fun gw => by
                  have h := has_any gw.w _ (upL l2) (k : Int) (HL2.out.below gw.h)
                  rw [decide_eq_false (fun h => hin (mem_upL.1 h))] at h
                  exact Calls.later_same gw h)
                have K73b : Hid (∀ gw : HeldW (Later wr), Calls Try.prog 73 #[wv, .int .i64 (k : Int)] gw.w fun e w'' => e = .returned (.bool true) ∧ ∃ g' : HeldW (Later wr), w'' = g'.w) := Lib.hid (fun gw => by
                  have h := has_any gw.w _ (upL ws) (k : Int) ((HWS.out _ HBW.out).below gw.h)
                  rw [decide_eq_true (mem_upL.2 hws)] at h
                  exact Calls.later_same gw h)
                have HIN := Lib.hid hws
                clear hin hws
                go_wp2
                refine wp_region_class (Later wr) (by kernel_rfl) (by kernel_rfl) (below_drewN (Below.refl _ _) 1) ?_
                repeat (go_big_quiet_step ((first | (go_at_call 75; exact K75.out _) | (go_at_call_of 73 (Value.slice (some ⟨g, o, none⟩) l2.length cap); exact K73a.out _) | (go_at_call_of 73 wv; exact K73b.out _))))
                refine wpQuiet_nil ?_
                intro wq hw'
                obtain ⟨⟨_, hq⟩, rfl⟩ := hw'
                go_wp2
                go_roundw
                case rel => exact ⟨k + 1, l2, by omega, HMT2.out.skip HX.out (.inr (.inr HIN.out)), hil2, by go_num, HMI2.out.below hq, Hb2.out.trans (hq.mono Hb2.out.size)⟩
                case measure => simp [intOf]; omega
              · have K73a : Hid (∀ gw : HeldW (Later wr), Calls Try.prog 73 #[.slice (some ⟨g, o, none⟩) l2.length cap, .int .i64 (k : Int)] gw.w fun e w'' => e = .returned (.bool false) ∧ ∃ g' : HeldW (Later wr), w'' = g'.w) := Lib.hid (fun gw => by
                  have h := has_any gw.w _ (upL l2) (k : Int) (HL2.out.below gw.h)
                  rw [decide_eq_false (fun h => hin (mem_upL.1 h))] at h
                  exact Calls.later_same gw h)
                have K73b : Hid (∀ gw : HeldW (Later wr), Calls Try.prog 73 #[wv, .int .i64 (k : Int)] gw.w fun e w'' => e = .returned (.bool false) ∧ ∃ g' : HeldW (Later wr), w'' = g'.w) := Lib.hid (fun gw => by
                  have h := has_any gw.w _ (upL ws) (k : Int) ((HWS.out _ HBW.out).below gw.h)
                  rw [decide_eq_false (fun h => hws (mem_upL.1 h))] at h
                  exact Calls.later_same gw h)
                have HIN := Lib.hid (And.intro hin hws)
                clear hin hws
                go_wp2
                refine wp_region_class (Later wr) (by kernel_rfl) (by kernel_rfl) (below_drewN (Below.refl _ _) 1) ?_
                repeat (go_big_quiet_step ((first | (go_at_call 75; exact K75.out _) | (go_at_call_of 73 (Value.slice (some ⟨g, o, none⟩) l2.length cap); exact K73a.out _) | (go_at_call_of 73 wv; exact K73b.out _))))
                refine wpQuiet_nil ?_
                intro wq hw'
                obtain ⟨⟨_, hq⟩, rfl⟩ := hw'
                have HQ := Lib.hid (Hb2.out.trans (hq.mono Hb2.out.size))
                have hsz := HQ.out.size
                have HMQ := Lib.hid (HMI2.out.below hq)
                clear hq
                go_wp2_with (at_builtin; refine append_int W1.heap.size rfl _ _ rfl _ _ _ rfl (HMQ.out.alloc _) wq.heap.size 0 1 rfl (k : Int) (by exact new_cell _ _ _) (by omega) (by exact Nat.le_trans hsz (new_size _ _)) ?_; intro v' w7 hm7 hg7 _)
                go_roundw
                case rel => exact ⟨k + 1, l2 ++ [k], by omega, HMT2.out.add HX.out hlt2 HA.out HIN.out.1 HIN.out.2, by simp; omega, by go_num, by rw [vals_snoc, List.length_append]; exact hm7, ((HQ.out.alloc hsz _).grown hg7 (Nat.le_trans hsz (new_size _ _)) (fun k hk => (HMQ.out.lt hk).1))⟩
                case measure => simp [intOf]; omega
          · have hl0 : ¬ 0 < ln := fun h => hA (hp.1 h)
            have hd1 : decide (0 < ln) = false := decide_eq_false hl0
            have HA := Lib.hid hA
            clear hp hA hl0
            go_wp2
            refine wp_region_class (Later wr) (by kernel_rfl) (by kernel_rfl) (below_drewN (Below.refl _ _) 1) ?_
            go_big_quiet_step ((first | (go_at_call 75; exact K75.out _)))
            repeat (go_big_quiet_step ((first | (go_at_call 75; exact K75.out _))))
            refine wpQuiet_nil ?_
            intro wq hw'
            obtain ⟨⟨_, hq⟩, rfl⟩ := hw'
            go_wp2
            go_roundw
            case rel => exact ⟨k + 1, l2, by omega, HMT2.out.skip HX.out (.inl HA.out), hil2, by go_num, HMI2.out.below hq, Hb2.out.trans (hq.mono Hb2.out.size)⟩
            case measure => simp [intOf]; omega
        · obtain rfl : k = L.length := by omega
          go_wp2
          go_roundw
          case rel => exact ⟨i + 1, l2, HMT2.out.next, by omega, by go_num, HMI2.out, Hb2.out⟩
          case measure => simp [intOf]; omega
    · obtain rfl : i = l.length := by omega
      go_wp2
      go_ret
      exact ⟨_, l, rfl, HMT.out.done (Nat.le_refl _), HMI.out.base HB.out.size, HB.out.trans (Hb.out.mono HB.out.size)⟩
end Go.Proofs.Ytkhkgmelicdpkaa
