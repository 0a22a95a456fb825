/- The walk of TipVotes: for every sketch it returns true. -/
import Derived.Test.YtkhkgmelicdpkaaSm
set_option linter.unusedVariables false
set_option linter.unusedSimpArgs false
namespace Go.Proofs.Ytkhkgmelicdpkaa
open Go.RowKit

def OutRel (W : World) (n : Nat) (iv : Value) (wr : World) : Prop := ∃ k : Nat, k ≤ n ∧ iv = .int .i64 (k : Int) ∧ Below W.heap.size W wr
/-- Is corner a beaten by one of the first j? -/
def beatB (L : List Int) (N : List Lane) (far : Nat → Nat → Int) (a j : Nat) : Bool := (List.range j).any fun b => decide (b ≠ a) && (decide (sumF (voteA L far a b) L.length < sumF (voteB L far a b) L.length) && decide (0 < lenK N N.length a b))
theorem beatB_succ (L : List Int) (N : List Lane) (far : Nat → Nat → Int) (a j : Nat) : beatB L N far a (j + 1) = (beatB L N far a j || (decide (j ≠ a) && (decide (sumF (voteA L far a j) L.length < sumF (voteB L far a j) L.length) && decide (0 < lenK N N.length a j)))) := by
  unfold beatB
  rw [List.range_succ, List.any_append]
  simp
def VInRel (W : World) (L : List Int) (N : List Lane) (far : Nat → Nat → Int) (a : Nat) (iv bv : Value) (wr : World) : Prop := ∃ k : Nat, k ≤ L.length ∧ iv = .int .i64 (k : Int) ∧ bv = .bool (beatB L N far a k) ∧ Below W.heap.size W wr
def VSumRel (W : World) (L : List Int) (far : Nat → Nat → Int) (a b : Nat) (iv av bv : Value) (wr : World) : Prop := ∃ k : Nat, k ≤ L.length ∧ iv = .int .i64 (k : Int) ∧ av = .int .i64 (sumF (voteA L far a b) k) ∧ bv = .int .i64 (sumF (voteB L far a b) k) ∧ Below W.heap.size W wr
theorem vote_bound {L : List Int} {far : Nat → Nat → Int} {a b : Nat} (hL : ∀ c, c < L.length → 0 ≤ gI L c ∧ gI L c ≤ 9) : ∀ k, k ≤ L.length → (0 ≤ sumF (voteA L far a b) k ∧ sumF (voteA L far a b) k ≤ 9 * k) ∧ (0 ≤ sumF (voteB L far a b) k ∧ sumF (voteB L far a b) k ≤ 9 * k) := by
  intro k hk
  refine ⟨sumF_bound _ L.length (fun c hc => ?_) k hk, sumF_bound _ L.length (fun c hc => ?_) k hk⟩
  · unfold voteA; have := hL c hc; split <;> omega
  · unfold voteB; have := hL c hc; split <;> omega

theorem beaten_all {L : List Int} {N : List Lane} {far : Nat → Nat → Int} {next : Nat → Nat → Nat} {a : Nat} (T : Tree L.length (Adj N) (lenK N N.length) far next) (hG : Good L.length N N.length) (ha : a < L.length) (h : ¬ Light L.length (Adj N) L next a) : beatB L N far a L.length = true := by
  obtain ⟨d, hd, _, hA, hh⟩ := not_light h
  unfold beatB
  rw [List.any_eq_true]
  refine ⟨d, List.mem_range.2 hd, ?_⟩
  have h1 := T.votes_gt ha hd hA hh
  have h2 := (adj_pos hG hA).1
  have h3 : d ≠ a := Ne.symm (T.irr _ _ hA)
  simp only [Bool.and_eq_true, decide_eq_true_eq]
  exact ⟨h3, h1, by omega⟩
set_option maxRecDepth 100000 in
set_option maxHeartbeats 8000000 in
theorem votes_law (w : World) (sa : Array Value) (co : Nat) (lo ba le : Nat → Nat) (hs : SkA sa co lo ba le) : Calls Try.prog 12 #[.agg sa] w (Ret w (.bool true)) := by
  have HS := Lib.hid hs
  clear hs
  go_enter Try.func12, Try.ntmps12
  go_wp2_with (first
    | ((with_reducible show wpList _ _ _ (⟨_, Op.load 52 _, _, _, _, _⟩ :: _) _ _); refine list_load25 rfl _ rfl w.heap.size rfl sa (by exact heap_alloc_new _ _) HS.out.size ?_)
    | (go_at_call 37; refine (made_sl _ sa co lo ba le 8 HS.out (by omega) (by omega)).mono ?_; rintro e w1 ⟨lb, lof, lc, na, nc, fc, L, N, far, next, rfl, hm, hf, h0, hR, hl1, hl8, hlane, hb⟩; (have HM := Lib.hid hm); (have HF := Lib.hid hf); (have H0 := Lib.hid h0); (have HR := Lib.hid hR); (have HLN := Lib.hid hlane); clear hm hf h0 hR hlane)
    | ((with_reducible show wpList _ _ _ (⟨_, Op.store 54 _ _, _, _, _, _⟩ :: _) _ _); refine list_sk (by rfl) _ _ (by rfl) (by rfl) (by rfl) (by rfl) HM.out HF.out ?_; intro W hS hBW; (have c0 := hS.c0); (have c1 := hS.c1))
    | (go_at_call 18; refine (Medians_ok _ _ L N far next (by exact hS.mkt) H0.out HR.out).mono ?_; rintro e w2 ⟨vm, rfl, hvm, hb2⟩; (replace hS := hS.below hb2); (have c0 := hS.c0); (have c1 := hS.c1)))
  have HSW := Lib.hid hS
  have HB1 := Lib.hid ((((Below.refl w.heap.size w).alloc (Nat.le_refl _) (.cells sa 52)).trans (hb.mono (by simp))).trans (hBW.mono (Nat.le_trans (by simp) hb.size)))
  have HB2 := Lib.hid (HB1.out.trans (hb2.mono HB1.out.size))
  have HVM := Lib.hid ((hvm.ints (by have := medL_length (L := L) (N := N) (next := next); unfold medL at this; omega) : Ints w2 vm (upL (medL L N next))))
  have hg1 : w1.heap.size < w2.heap.size := World.block_lt_of_cell? w2 _ c0
  have hL := (valid_of H0.out).loads
  have HL := Lib.hid hL
  have T := tree_of (valid_of H0.out).lanes (valid_of H0.out).good HR.out
  have HT := Lib.hid T
  clear hvm hS c0 c1 hb hBW hb2 HB1 hL T HM
  go_loopw [34] (OutRel w2 L.length) (fun i _ => L.length - (intOf i).toNat)
  case atStart => exact ⟨0, Nat.zero_le _, rfl, Below.refl _ _⟩
  case round =>
    obtain ⟨a, hk, rfl, hbr⟩ := hrel
    have HBR := Lib.hid hbr
    clear hbr
    by_cases hlt : a < L.length
    · go_wp2
      go_loopw [38, 9] (VInRel w2 L N far a) (fun i _ _ => L.length - (intOf i).toNat)
      case atStart => exact ⟨0, Nat.zero_le _, rfl, rfl, HBR.out⟩
      case round =>
        obtain ⟨b, hj, rfl, rfl, hbr2⟩ := hrel
        have HBR2 := Lib.hid hbr2
        clear hbr2
        have HS2 := Lib.hid (HSW.out.below HBR2.out)
        have c0 := HS2.out.c0
        have c1 := HS2.out.c1
        by_cases hltb : b < L.length
        · by_cases hab : a = b
          · subst hab
            go_wp2_with (go_at_call 31; refine (Votes_same _ _ L N a far next HS2.out.mkt H0.out HR.out hlt).mono ?_; rintro e w3 ⟨rfl, hb3⟩)
            go_roundw
            case rel => exact ⟨a + 1, by omega, by go_num, by rw [beatB_succ]; simp, HBR2.out.trans (hb3.mono HBR2.out.size)⟩
            case measure => simp [intOf]; omega
          · have hab' : ((a : Int) == (b : Int)) = false := by simp; omega
            go_wp2_with (go_at_call 31; refine (Votes_ok _ _ L N a b far next HS2.out.mkt H0.out HR.out hlt hltb hab).mono ?_; rintro e w3 ⟨rfl, hb3⟩; (have c0 := Below.cellOf hb3 c0); (have c1 := Below.cellOf hb3 c1))
            have hvb := vote_bound (far := far) (a := a) (b := b) HL.out
            have HVB := Lib.hid hvb
            have HBW3 := Lib.hid (HBR2.out.trans (hb3.mono HBR2.out.size))
            clear hvb hb3 c0 c1
            go_loopw [57, 14, 15] (VSumRel w2 L far a b) (fun i _ _ _ => L.length - (intOf i).toNat)
            case atStart => exact ⟨0, Nat.zero_le _, rfl, rfl, rfl, HBW3.out⟩
            case round =>
              obtain ⟨c, hc, rfl, rfl, rfl, hbr3⟩ := hrel
              have HBR3 := Lib.hid hbr3
              clear hbr3
              have HS3 := Lib.hid (HSW.out.below HBR3.out)
              by_cases hltc : c < L.length
              · have q0 := HS3.out.load hltc
                have q1 := HS3.out.dist (x := c) (y := a) (by omega) (by omega)
                have q2 := HS3.out.dist (x := c) (y := b) (by omega) (by omega)
                have hb1 := HVB.out c hc
                have hb2 := HL.out c hltc
                have hc8 : c < 8 := by omega
                have ha8 : a < 8 := by omega
                have hb8 : b < 8 := by omega
                by_cases e1 : far c a < far c b
                · go_wp2
                  go_quiet (fail)
                  go_wp2
                  go_roundw
                  case rel => exact ⟨c + 1, by omega, by go_num, by simp [sumF, voteA]; omega, by simp [sumF, voteB]; omega, below_drewN HBR3.out _⟩
                  case measure => simp [intOf]; omega
                · by_cases e2 : far c b < far c a
                  · go_wp2
                    go_quiet (fail)
                    go_wp2
                    go_quiet (fail)
                    go_wp2
                    go_roundw
                    case rel => exact ⟨c + 1, by omega, by go_num, by simp [sumF, voteA]; omega, by simp [sumF, voteB]; omega, below_drewN HBR3.out _⟩
                    case measure => simp [intOf]; omega
                  · go_wp2
                    go_quiet (fail)
                    go_wp2
                    go_quiet (fail)
                    go_wp2
                    go_roundw
                    case rel => exact ⟨c + 1, by omega, by go_num, by simp [sumF, voteA]; omega, by simp [sumF, voteB]; omega, below_drewN HBR3.out _⟩
                    case measure => simp [intOf]; omega
              · obtain rfl : c = L.length := by omega
                have c0 := HS3.out.c0
                have c1 := HS3.out.c1
                have hne : b ≠ a := Ne.symm hab
                obtain ⟨VA, hVA⟩ : ∃ V, V = sumF (voteA L far a b) L.length := ⟨_, rfl⟩
                obtain ⟨VB, hVB⟩ : ∃ V, V = sumF (voteB L far a b) L.length := ⟨_, rfl⟩
                rw [← hVA, ← hVB]
                have HVV := Lib.hid (And.intro hVA hVB)
                clear hVA hVB
                by_cases hl : Light L.length (Adj N) L next a
                · have hle : VB ≤ VA := by rw [HVV.out.1, HVV.out.2]; exact HT.out.votes_le (fun c hc => (HL.out c hc).1) hlt hltb hne hl
                  have K59 : Hid (∀ w', Below w2.heap.size w2 w' → Calls Try.prog 59 #[vm, .int .i64 (a : Int)] w' fun e w'' => e = .returned (.bool true) ∧ w' = w'') := Lib.hid (fun w' hb => by have h := contains_any w' vm (upL (medL L N next)) a (HVM.out.below hb); rw [decide_eq_true ((medL_mem hlt).2 hl)] at h; exact h)
                  clear hl
                  have HNL := Lib.hid (show ¬ (sumF (voteA L far a b) L.length < sumF (voteB L far a b) L.length) by rw [← HVV.out.1, ← HVV.out.2]; omega)
                  by_cases hbb : beatB L N far a b = true
                  · go_wp2_with ((go_at_call 59; refine (K59.out _ HBR3.out).mono ?_; rintro e w5 ⟨rfl, rfl⟩))
                    go_roundw
                    case rel => exact ⟨b + 1, by omega, by go_num, by rw [beatB_succ]; simp [hbb], HBR3.out⟩
                    case measure => simp [intOf]; omega
                  · rw [Bool.not_eq_true] at hbb
                    go_wp2_with ((go_at_call 59; refine (K59.out _ HBR3.out).mono ?_; rintro e w5 ⟨rfl, rfl⟩))
                    go_roundw
                    case rel => exact ⟨b + 1, by omega, by go_num, by rw [beatB_succ, show decide (sumF (voteA L far a b) L.length < sumF (voteB L far a b) L.length) = false from decide_eq_false (by have := HNL.out; omega)]; simp [hbb], HBR3.out⟩
                    case measure => simp [intOf]; omega
                · have K59 : Hid (∀ w', Below w2.heap.size w2 w' → Calls Try.prog 59 #[vm, .int .i64 (a : Int)] w' fun e w'' => e = .returned (.bool false) ∧ w' = w'') := Lib.hid (fun w' hb => by have h := contains_any w' vm (upL (medL L N next)) a (HVM.out.below hb); rw [decide_eq_false (fun h => hl ((medL_mem hlt).1 h))] at h; exact h)
                  clear hl
                  by_cases hbb : beatB L N far a b = true
                  · go_wp2_with ((go_at_call 59; refine (K59.out _ HBR3.out).mono ?_; rintro e w5 ⟨rfl, rfl⟩))
                    go_roundw
                    case rel => exact ⟨b + 1, by omega, by go_num, by rw [beatB_succ]; simp [hbb], HBR3.out⟩
                    case measure => simp [intOf]; omega
                  · rw [Bool.not_eq_true] at hbb
                    by_cases hv : VA < VB
                    · have HNL := Lib.hid (show (sumF (voteA L far a b) L.length < sumF (voteB L far a b) L.length) by rw [← HVV.out.1, ← HVV.out.2]; exact hv)
                      obtain ⟨len, hlen⟩ : ∃ len, len = lenK N N.length a b := ⟨_, rfl⟩
                      have K58 : Hid (∀ w' m, Mkt w' m L N → Calls Try.prog 58 #[m, .int .i64 (a : Int), .int .i64 (b : Int)] w' (Ret w' (.int .i64 len))) := Lib.hid (fun w' m hm => by rw [hlen]; exact length_ok _ _ L N far next a b hm H0.out HR.out)
                      have HLE := Lib.hid hlen
                      clear hlen
                      by_cases hp : 0 < len
                      · have HP := Lib.hid (show 0 < lenK N N.length a b by rw [← HLE.out]; exact hp)
                        go_wp2_with (first | (go_at_call 59; refine (K59.out _ HBR3.out).mono ?_; rintro e w5 ⟨rfl, rfl⟩) | (go_at_call 58; refine (K58.out _ _ (by exact HS3.out.mkt)).mono ?_; rintro e w6 ⟨rfl, hb6⟩))
                        go_roundw
                        case rel => exact ⟨b + 1, by omega, by go_num, by rw [beatB_succ, decide_eq_true HNL.out, ← HLE.out]; simp [hbb, hne, hp], HBR3.out.trans (hb6.mono HBR3.out.size)⟩
                        case measure => simp [intOf]; omega
                      · have HP := Lib.hid (show ¬ 0 < lenK N N.length a b by rw [← HLE.out]; exact hp)
                        go_wp2_with (first | (go_at_call 59; refine (K59.out _ HBR3.out).mono ?_; rintro e w5 ⟨rfl, rfl⟩) | (go_at_call 58; refine (K58.out _ _ (by exact HS3.out.mkt)).mono ?_; rintro e w6 ⟨rfl, hb6⟩))
                        go_roundw
                        case rel => exact ⟨b + 1, by omega, by go_num, by rw [beatB_succ, decide_eq_true HNL.out, ← HLE.out]; simp [hbb, hne, hp], HBR3.out.trans (hb6.mono HBR3.out.size)⟩
                        case measure => simp [intOf]; omega
                    · have HNL := Lib.hid (show ¬ (sumF (voteA L far a b) L.length < sumF (voteB L far a b) L.length) by rw [← HVV.out.1, ← HVV.out.2]; exact hv)
                      go_wp2_with ((go_at_call 59; refine (K59.out _ HBR3.out).mono ?_; rintro e w5 ⟨rfl, rfl⟩))
                      go_roundw
                      case rel => exact ⟨b + 1, by omega, by go_num, by rw [beatB_succ, show decide (sumF (voteA L far a b) L.length < sumF (voteB L far a b) L.length) = false from decide_eq_false (by have := HNL.out; omega)]; simp [hbb], HBR3.out⟩
                      case measure => simp [intOf]; omega
        · obtain rfl : b = L.length := by omega
          by_cases hl : Light L.length (Adj N) L next a
          · have K59 : Hid (∀ w', Below w2.heap.size w2 w' → Calls Try.prog 59 #[vm, .int .i64 (a : Int)] w' fun e w'' => e = .returned (.bool true) ∧ w' = w'') := Lib.hid (fun w' hb => by have h := contains_any w' vm (upL (medL L N next)) a (HVM.out.below hb); rw [decide_eq_true ((medL_mem hlt).2 hl)] at h; exact h)
            clear hl
            go_wp2_with ((go_at_call 59; refine (K59.out _ HBR2.out).mono ?_; rintro e w5 ⟨rfl, rfl⟩))
            go_roundw
            case rel => exact ⟨a + 1, by omega, by go_num, HBR2.out⟩
            case measure => simp [intOf]; omega
          · have K59 : Hid (∀ w', Below w2.heap.size w2 w' → Calls Try.prog 59 #[vm, .int .i64 (a : Int)] w' fun e w'' => e = .returned (.bool false) ∧ w' = w'') := Lib.hid (fun w' hb => by have h := contains_any w' vm (upL (medL L N next)) a (HVM.out.below hb); rw [decide_eq_false (fun h => hl ((medL_mem hlt).1 h))] at h; exact h)
            have hbt := beaten_all HT.out (valid_of H0.out).good hlt hl
            clear hl
            go_wp2_with ((go_at_call 59; refine (K59.out _ HBR2.out).mono ?_; rintro e w5 ⟨rfl, rfl⟩))
            go_roundw
            case rel => exact ⟨a + 1, by omega, by go_num, HBR2.out⟩
            case measure => simp [intOf]; omega
    · obtain rfl : a = L.length := by omega
      go_wp2_with (go_at_call 17; refine (works_ok _).mono ?_; rintro e w3 ⟨rfl, hb3⟩)
      go_ret
      exact ⟨rfl, HB2.out.trans ((HBR.out.trans (hb3.mono HBR.out.size)).mono HB2.out.size)⟩
end Go.Proofs.Ytkhkgmelicdpkaa
