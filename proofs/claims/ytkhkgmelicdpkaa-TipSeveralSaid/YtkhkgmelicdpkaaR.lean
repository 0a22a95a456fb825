/- Contracts of package tip's exported functions: the best tips. -/
import Derived.Test.YtkhkgmelicdpkaaQ
import Derived.Lib.SliceRun
set_option linter.unusedVariables false
set_option linter.unusedSimpArgs false
namespace Go.Proofs.Ytkhkgmelicdpkaa
open Go.RowKit

/-- The corners of a set of bits. -/
def listOf (m : Nat) : List Nat := (List.range 8).filter (fun k => m.testBit k)
theorem listOf_length : ∀ m, m < 256 → (listOf m).length = popc m := by decide +kernel
def upL (l : List Nat) : List Int := l.map fun (k : Nat) => (k : Int)
def bestStep (L : List Int) (far : Nat → Nat → Int) (many : Nat) (st : Option (List Nat × Int)) (m : Nat) : Option (List Nat × Int) :=
  if popc m ≠ many then st else match st with
    | none => some (listOf m, costF L far m)
    | some (b, c) => if costF L far m < c ∨ (costF L far m = c ∧ cmpL (upL (listOf m)) (upL b) < 0) then some (listOf m, costF L far m) else some (b, c)
def bestN (L : List Int) (far : Nat → Nat → Int) (many : Nat) : Nat → Option (List Nat × Int)
  | 0 => none
  | k + 1 => bestStep L far many (bestN L far many k) k

theorem upL_length (l : List Nat) : (upL l).length = l.length := by simp [upL]
theorem gI_upL {l : List Nat} {i : Nat} (h : i < l.length) : gI (upL l) i = ((l[i] : Nat) : Int) := by
  simp [gI, upL, h]
theorem Mine.ints {w : World} {base n : Nat} {v : Value} {l : List Nat} (h : Mine w base 1 v n (vals l)) (hl : l.length ≤ 1000000000000) : Ints w v (upL l) := by
  have hn : l.length = n := by have := h.1; rw [vals_length] at this; omega
  rcases h.2 with ⟨rfl, h0⟩ | ⟨g, o, cap, rfl, h1, h2, h3, h4, h5, h6⟩
  · obtain rfl : l = [] := List.eq_nil_of_length_eq_zero (by omega)
    exact ints_nil w 0
  · refine ⟨by rw [upL_length]; exact hl, some ⟨g, o, none⟩, cap, g, o, by rw [upL_length, hn], .inr rfl, fun i hi => ?_⟩
    rw [upL_length] at hi
    rw [h5 i (by omega), gI_upL hi]
    simp [vals, hi]

def BestSt (st : Option (List Nat × Int)) (bv lv : Value) (w : World) : Prop :=
  (st = none ∧ bv = .slice none 0 0 ∧ lv = .int .i64 0) ∨ (∃ b c ad n cap, st = some (b, c) ∧ lv = .int .i64 c ∧ bv = .slice (some ad) n cap ∧ Ints w bv (upL b))
theorem BestSt.below {st : Option (List Nat × Int)} {bv lv : Value} {w w' : World} (h : BestSt st bv lv w) (hb : Below w.heap.size w w') : BestSt st bv lv w' := by
  rcases h with h | ⟨b, c, ad, n, cap, h1, h2, h3, h4⟩
  · exact .inl h
  · exact .inr ⟨b, c, ad, n, cap, h1, h2, h3, h4.below hb⟩
def BestRel (w1 : World) (L : List Int) (far : Nat → Nat → Int) (many P : Nat) (iv bv lv : Value) (wr : World) : Prop :=
  ∃ k : Nat, k ≤ P ∧ iv = .int .u64 (k : Int) ∧ BestSt (bestN L far many k) bv lv wr ∧ Below w1.heap.size w1 wr
def RetInts (w : World) (l : List Int) (c : Int) (e : Ending) (w' : World) : Prop := ∃ v, e = .returned (.tuple #[v, .int .i64 c]) ∧ Ints w' v l ∧ Below w.heap.size w w'
def bestList (st : Option (List Nat × Int)) : List Int := match st with | none => [] | some (b, _) => upL b

theorem best_skip {L : List Int} {far : Nat → Nat → Int} {many k : Nat} (h : popc k ≠ many) : bestN L far many (k + 1) = bestN L far many k := by
  simp only [bestN, bestStep]
  rw [if_pos h]
theorem best_first {L : List Int} {far : Nat → Nat → Int} {many k : Nat} (h : popc k = many) (hs : bestN L far many k = none) : bestN L far many (k + 1) = some (listOf k, costF L far k) := by
  simp only [bestN, bestStep]
  rw [if_neg (fun e => e h), hs]
theorem best_new {L : List Int} {far : Nat → Nat → Int} {many k : Nat} {b : List Nat} {c : Int} (h : popc k = many) (hs : bestN L far many k = some (b, c)) (hc : costF L far k < c ∨ (costF L far k = c ∧ cmpL (upL (listOf k)) (upL b) < 0)) : bestN L far many (k + 1) = some (listOf k, costF L far k) := by
  simp only [bestN, bestStep]
  rw [if_neg (fun e => e h), hs]
  simp only
  rw [if_pos hc]
theorem best_old {L : List Int} {far : Nat → Nat → Int} {many k : Nat} {b : List Nat} {c : Int} (h : popc k = many) (hs : bestN L far many k = some (b, c)) (hc : ¬ (costF L far k < c ∨ (costF L far k = c ∧ cmpL (upL (listOf k)) (upL b) < 0))) : bestN L far many (k + 1) = some (b, c) := by
  simp only [bestN, bestStep]
  rw [if_neg (fun e => e h), hs]
  simp only
  rw [if_neg hc]

set_option maxRecDepth 100000 in
set_option maxHeartbeats 4000000 in
theorem Best_ok (w : World) (m : Value) (L : List Int) (N : List Lane) (many : Nat) (far : Nat → Nat → Int) (next : Nat → Nat → Nat) (hm : Mkt w m L N) (h0 : checkCode L N = 0) (hR : AllRooted L.length N far next) (h1 : 1 ≤ many) (h2 : many ≤ L.length) :
    Calls Try.prog 35 #[m, .int .i64 many] w (RetInts w (bestList (bestN L far many (2 ^ L.length))) 0) := by
  have hM : ∀ w', Below w.heap.size w w' → Mkt w' m L N := fun w' hb => hm.below hb
  obtain ⟨la, lc, na, nc, rfl, hl, hn⟩ := hm.shape
  have hV := valid_of h0
  have T := tree_of hV.lanes hV.good hR
  have i1 : (L.length : Int) ≤ 8 := by have := hV.le; omega
  have i2 : (1 : Int) ≤ (many : Int) := by omega
  have i3 : (many : Int) ≤ (L.length : Int) := by omega
  have i4 : (0 : Int) ≤ (L.length : Int) := by omega
  obtain ⟨P, hP⟩ : ∃ P, P = 2 ^ L.length := ⟨_, rfl⟩
  have hP8 : P ≤ 256 := by rw [hP]; exact Nat.pow_le_pow_right (n := 2) (by omega) hV.le
  have hw34 : IntKind.u64.wrap ((2 : Int) ^ L.length) = (P : Int) := by
    have e : ((2 ^ L.length : Nat) : Int) = (2 : Int) ^ L.length := by simp
    rw [← e, ← hP, IntKind.wrap_u64]
    omega
  rw [← hP]
  have H1 := Lib.hid (corners_ok0 h0)
  have HV := Lib.hid hV
  have HF := Lib.hid (fun c k hc hk => (T.nonneg c k hc hk).1)
  clear h0 hm hV T hP
  go_enter Try.func35, Try.ntmps35
  go_wp2_with (first | (go_at_call 66; refine (laid_ok _ _ _ L N [] far next (by exact hM _ (Below.one _ _)) (by exact ints_nil _ _) H1.out hR).mono ?_; rintro e w1 ⟨bt, rfl, hbt, hT, hb1⟩; (have hmb := box_cell hb1)) | (go_at_call 84; refine (within_yes _ _ _ _ i2 i3).mono ?_; rintro e w2 ⟨rfl, rfl⟩))
  have HB := Lib.hid ((Below.one w (.cells #[.slice la L.length lc, .slice na N.length nc] 25)).trans (hb1.mono (by simp)))
  have HT := Lib.hid hT
  clear hT hb1 hw34
  go_loopw [35, 8, 9] (BestRel w1 L far many P) (fun i _ _ _ => P - (intOf i).toNat)
  case atStart => exact ⟨0, Nat.zero_le _, rfl, .inl ⟨rfl, rfl, rfl⟩, Below.refl _ _⟩
  case round =>
    obtain ⟨k, hk, rfl, hst, hb⟩ := hrel
    have Hb := Lib.hid hb
    have HS := Lib.hid hst
    clear hb hst
    by_cases hlt : k < P
    · have hk8 : k < 256 := by omega
      by_cases hpc : popc k = many
      · have HPC := Lib.hid hpc
        have hq : ((popc k : Int) != (many : Int)) = false := by simp; omega
        obtain ⟨wo, rfl⟩ : ∃ wo : World, wo = wr := ⟨_, rfl⟩
        clear hpc
        go_wp2_with (first | (go_at_call 88; refine (ones_any _ k hk8).mono ?_; rintro e w2 ⟨rfl, rfl⟩) | (go_at_call 85; refine (sets_any _).mono ?_; rintro e w2 ⟨rfl, hb2⟩))
        have HB2 := Lib.hid hb2
        clear hb2
        go_loopw [43, 11] (FiltRel w2 (fun j => k.testBit j) 8) (fun i _ _ => 8 - (intOf i).toNat)
        case atStart => exact ⟨0, Nat.zero_le _, rfl, Mine.nil _ _ _, Below.refl _ _⟩
        case round =>
          obtain ⟨j, hj, rfl, hmm, hbb⟩ := hrel
          have Hmm := Lib.hid hmm
          have Hbb := Lib.hid hbb
          clear hmm hbb
          by_cases hj8 : j < 8
          · have hfl := filt_len (fun j => k.testBit j) j
            have hix := idx_sets j hj8
            have hba := bits_and_pow k j hk8 hj8
            by_cases hbit : k.testBit j = true
            · have hne : ((2 : Int) ^ j != 0) = true := by simp [two_pow_ne j]
              rw [if_pos hbit] at hba
              go_wp2_with (at_builtin; refine append_int w2.heap.size rfl _ _ rfl _ _ _ rfl (Hmm.out.alloc _) wr.heap.size 0 1 rfl (j : Int) (by simp) (by omega) (by have := Hbb.out.size; simp; omega) ?_; intro v' w3 hm3 hg3 _)
              go_roundw
              case rel => exact filt_yes hj8 hbit Hmm.out Hbb.out ((Below.refl _ wr).alloc (Nat.le_refl _) _) hm3 hg3
              case measure => simp [intOf]; omega
            · have hbf : k.testBit j = false := by simpa using hbit
              rw [if_neg hbit] at hba
              go_wp2
              go_roundw
              case rel => exact filt_no hj8 hbf Hmm.out Hbb.out (Below.refl _ _)
              case measure => simp [intOf]; omega
          · obtain rfl : j = 8 := by omega
            have hBo : Below w1.heap.size w1 wo := Hb.out
            have hB2 : Below w1.heap.size w1 wr := (Hb.out.trans (HB2.out.mono Hb.out.size)).trans (Hbb.out.mono (Hb.out.trans (HB2.out.mono Hb.out.size)).size)
            have HB3 := Lib.hid hB2
            clear hBo hB2
            have hli : Ints wr u11 (upL (listOf k)) := Hmm.out.ints (by have := filt_len (fun j => k.testBit j) 8; omega)
            obtain ⟨_, la2, lc2, lb2, lo2, rfl, hla2, hlc2⟩ := hli
            have hpos : (upL (listOf k)).length ≠ 0 := by rw [upL_length, listOf_length k hk8, HPC.out]; omega
            obtain rfl : la2 = some ⟨lb2, lo2, none⟩ := hla2.resolve_left hpos
            have hli : Ints wr (.slice (some ⟨lb2, lo2, none⟩) (upL (listOf k)).length lc2) (upL (listOf k)) := Hmm.out.ints (by have := filt_len (fun j => k.testBit j) 8; omega)
            have HLI := Lib.hid hli
            clear hli hlc2 hla2
            rcases HS.out with ⟨hs1, hs2, hs3⟩ | ⟨b, c, ad, n, cap, hs1, hs2, hs3, hs4⟩
            · subst hs2 hs3
              have hnil := fun wx => Lib.run_eql_slice_nil wx 22 3 none 0 0 0 0 Try.underlying22'
              have HS1 := Lib.hid hs1
              clear hs1
              go_wp2_with (go_at_call 86; refine (cost_any wr bt L far next (nearK N N.length) (HT.out.below HB3.out) HV.out.le HV.out.loads HF.out k hk8).mono ?_; rintro e w3 ⟨rfl, hb3⟩)
              go_roundw
              case rel => exact ⟨k + 1, by omega, by go_num, by rw [best_first HPC.out HS1.out]; exact .inr ⟨_, _, _, _, _, rfl, rfl, rfl, HLI.out.below hb3⟩, HB3.out.trans (hb3.mono HB3.out.size)⟩
              case measure => simp [intOf]; omega
            · subst hs2 hs3
              have hnil := fun wx => Lib.run_eql_slice_nil wx 22 3 (some ad) n cap 0 0 Try.underlying22'
              have HS1 := Lib.hid hs1
              have HS4 := Lib.hid (hs4.below (HB2.out.trans (Hbb.out.mono HB2.out.size)))
              clear hs1 hs4
              obtain ⟨q, hq'⟩ : ∃ q, q = costF L far k := ⟨_, rfl⟩
              obtain ⟨z, hz'⟩ : ∃ z, z = cmpL (upL (listOf k)) (upL b) := ⟨_, rfl⟩
              by_cases hc1 : q < c
              · have HC := Lib.hid (best_new HPC.out HS1.out (.inl (by rw [← hq']; exact hc1)))
                go_wp2_with (go_at_call 86; refine (cost_any wr bt L far next (nearK N N.length) (HT.out.below HB3.out) HV.out.le HV.out.loads HF.out k hk8).mono ?_; rintro e w3 ⟨rfl, hb3⟩; rw [← hq'])
                go_roundw
                case rel => exact ⟨k + 1, by omega, by go_num, by rw [HC.out, ← hq']; exact .inr ⟨_, _, _, _, _, rfl, rfl, rfl, HLI.out.below hb3⟩, HB3.out.trans (hb3.mono HB3.out.size)⟩
                case measure => simp [intOf]; omega
              · by_cases hc2 : q = c
                · by_cases hc3 : z < 0
                  · have HC := Lib.hid (best_new HPC.out HS1.out (.inr ⟨by rw [← hq']; exact hc2, by rw [← hz']; exact hc3⟩))
                    subst hc2
                    go_wp2_with (first | (go_at_call 86; refine (cost_any wr bt L far next (nearK N N.length) (HT.out.below HB3.out) HV.out.le HV.out.loads HF.out k hk8).mono ?_; rintro e w3 ⟨rfl, hb3⟩; rw [← hq']) | (go_at_call 60; refine (compare_any _ _ _ _ _ (HLI.out.below hb3) (HS4.out.below hb3)).mono ?_; rintro e w4 ⟨rfl, rfl⟩; rw [← hz']))
                    go_roundw
                    case rel => exact ⟨k + 1, by omega, by go_num, by rw [HC.out, ← hq']; exact .inr ⟨_, _, _, _, _, rfl, rfl, rfl, HLI.out.below hb3⟩, HB3.out.trans (hb3.mono HB3.out.size)⟩
                    case measure => simp [intOf]; omega
                  · have HC := Lib.hid (best_old HPC.out HS1.out (by rw [← hq', ← hz']; omega))
                    subst hc2
                    go_wp2_with (first | (go_at_call 86; refine (cost_any wr bt L far next (nearK N N.length) (HT.out.below HB3.out) HV.out.le HV.out.loads HF.out k hk8).mono ?_; rintro e w3 ⟨rfl, hb3⟩; rw [← hq']) | (go_at_call 60; refine (compare_any _ _ _ _ _ (HLI.out.below hb3) (HS4.out.below hb3)).mono ?_; rintro e w4 ⟨rfl, rfl⟩; rw [← hz']))
                    go_roundw
                    case rel => exact ⟨k + 1, by omega, by go_num, by rw [HC.out]; exact .inr ⟨_, _, _, _, _, rfl, by rw [hq'], rfl, HS4.out.below hb3⟩, HB3.out.trans (hb3.mono HB3.out.size)⟩
                    case measure => simp [intOf]; omega
                · have hc4 : (q == c) = false := by simp; exact hc2
                  have HC := Lib.hid (best_old HPC.out HS1.out (by rw [← hq', ← hz']; omega))
                  go_wp2_with (go_at_call 86; refine (cost_any wr bt L far next (nearK N N.length) (HT.out.below HB3.out) HV.out.le HV.out.loads HF.out k hk8).mono ?_; rintro e w3 ⟨rfl, hb3⟩; rw [← hq'])
                  go_roundw
                  case rel => exact ⟨k + 1, by omega, by go_num, by rw [HC.out]; exact .inr ⟨_, _, _, _, _, rfl, rfl, rfl, HS4.out.below hb3⟩, HB3.out.trans (hb3.mono HB3.out.size)⟩
                  case measure => simp [intOf]; omega
      · have hq : ((popc k : Int) != (many : Int)) = true := by simp; omega
        go_wp2_with (go_at_call 88; refine (ones_any _ k hk8).mono ?_; rintro e w2 ⟨rfl, rfl⟩)
        go_roundw
        case rel => exact ⟨k + 1, by omega, by go_num, by rw [best_skip hpc]; exact HS.out, Hb.out⟩
        case measure => simp [intOf]; omega
    · obtain rfl : k = P := by omega
      go_wp2
      go_ret2
      rcases HS.out with ⟨hs1, rfl, hs3⟩ | ⟨b, c, ad, n, cap, hs1, hs2, rfl, hs4⟩
      · exact ⟨_, rfl, by rw [hs1]; exact ints_nil _ _, HB.out.trans (Hb.out.mono HB.out.size)⟩
      · exact ⟨_, rfl, by rw [hs1]; exact hs4, HB.out.trans (Hb.out.mono HB.out.size)⟩
end Go.Proofs.Ytkhkgmelicdpkaa
