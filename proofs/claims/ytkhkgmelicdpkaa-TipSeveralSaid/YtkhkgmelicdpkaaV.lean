/- Contracts of package tip's exported functions: the longest way. -/
import Derived.Test.YtkhkgmelicdpkaaS
set_option linter.unusedVariables false
set_option linter.unusedSimpArgs false
namespace Go.Proofs.Ytkhkgmelicdpkaa
open Go.RowKit

/-- The first place of the greatest value. -/
def begF (r : Nat → Int) : Nat → Nat
  | 0 => 0
  | k + 1 => if r (begF r k) < r k then k else begF r k
theorem begF_lt (r : Nat → Int) (n : Nat) (hn : 1 ≤ n) : ∀ k, k ≤ n → begF r k < n := by
  intro k
  induction k with
  | zero => intro _; simp [begF]; omega
  | succ k ih =>
    intro hk
    simp only [begF]
    split
    · omega
    · exact ih (by omega)
/-- The way between two corners. -/
def wayF (next : Nat → Nat → Nat) (far : Nat → Nat → Int) (u v : Nat) : List Nat := wayD next (fun x => (far v x).toNat) v u
def longStep (far : Nat → Nat → Int) (next : Nat → Nat → Nat) (n b : Nat) (st : Option (List Nat)) (c : Nat) : Option (List Nat) :=
  if far b c = radF far n b then match st with
    | none => some (wayF next far b c)
    | some l => if cmpL (upL (wayF next far b c)) (upL l) < 0 then some (wayF next far b c) else some l
  else st
def longN (far : Nat → Nat → Int) (next : Nat → Nat → Nat) (n b : Nat) : Nat → Option (List Nat)
  | 0 => none
  | k + 1 => longStep far next n b (longN far next n b k) k
theorem long_skip {far : Nat → Nat → Int} {next : Nat → Nat → Nat} {n b k : Nat} (h : ¬ far b k = radF far n b) : longN far next n b (k + 1) = longN far next n b k := by
  simp only [longN, longStep]
  rw [if_neg h]
theorem long_first {far : Nat → Nat → Int} {next : Nat → Nat → Nat} {n b k : Nat} (h : far b k = radF far n b) (hs : longN far next n b k = none) : longN far next n b (k + 1) = some (wayF next far b k) := by
  simp only [longN, longStep]
  rw [if_pos h, hs]
theorem long_new {far : Nat → Nat → Int} {next : Nat → Nat → Nat} {n b k : Nat} {l : List Nat} (h : far b k = radF far n b) (hs : longN far next n b k = some l) (hc : cmpL (upL (wayF next far b k)) (upL l) < 0) : longN far next n b (k + 1) = some (wayF next far b k) := by
  simp only [longN, longStep]
  rw [if_pos h, hs]
  simp only
  rw [if_pos hc]
theorem long_old {far : Nat → Nat → Int} {next : Nat → Nat → Nat} {n b k : Nat} {l : List Nat} (h : far b k = radF far n b) (hs : longN far next n b k = some l) (hc : ¬ cmpL (upL (wayF next far b k)) (upL l) < 0) : longN far next n b (k + 1) = some l := by
  simp only [longN, longStep]
  rw [if_pos h, hs]
  simp only
  rw [if_neg hc]
def BegRel (w1 : World) (r : Nat → Int) (n : Nat) (iv bv : Value) (wr : World) : Prop :=
  ∃ k : Nat, k ≤ n ∧ iv = .int .i64 (k : Int) ∧ bv = .int .i64 (begF r k : Int) ∧ Below w1.heap.size w1 wr
def LongSt (st : Option (List Nat)) (bv : Value) (w : World) : Prop :=
  (st = none ∧ bv = .slice none 0 0) ∨ (∃ l ad n cap, st = some l ∧ bv = .slice (some ad) n cap ∧ Ints w bv (upL l))
theorem LongSt.below {st : Option (List Nat)} {bv : Value} {w w' : World} (h : LongSt st bv w) (hb : Below w.heap.size w w') : LongSt st bv w' := by
  rcases h with h | ⟨l, ad, n, cap, h1, h2, h3⟩
  · exact .inl h
  · exact .inr ⟨l, ad, n, cap, h1, h2, h3.below hb⟩
def LongRel (w1 : World) (far : Nat → Nat → Int) (next : Nat → Nat → Nat) (n b : Nat) (iv bv : Value) (wr : World) : Prop :=
  ∃ k : Nat, k ≤ n ∧ iv = .int .i64 (k : Int) ∧ LongSt (longN far next n b k) bv wr ∧ Below w1.heap.size w1 wr
def longList (st : Option (List Nat)) : List Int := match st with | none => [] | some l => upL l
theorem wayF_length {n : Nat} {far : Nat → Nat → Int} {next : Nat → Nat → Nat} (hbd : ∀ c k, c < n → k < n → 0 ≤ far c k ∧ far c k ≤ 1000) (u v : Nat) (hu : u < n) (hv : v < n) : (wayF next far u v).length ≤ 1001 ∧ (wayF next far u v).length ≠ 0 := by
  have hb := hbd v u hv hu
  refine ⟨Nat.le_trans (wayN_length _ _ _ _) (by show (far v u).toNat + 1 ≤ 1001; omega), ?_⟩
  show (wayN next v (far v u).toNat u).length ≠ 0
  generalize (far v u).toNat = f
  cases f with
  | zero => simp [wayN]
  | succ f => simp only [wayN]; split <;> simp
theorem way_at {w0 w : World} {b : Nat} {L : List Int} {far : Nat → Nat → Int} {next : Nat → Nat → Nat} {near : Nat → Nat} (hT : Town w0 b L far next near) (hb : Below w0.heap.size w0 w) (hle : L.length ≤ 8) (hbd : ∀ c k, c < L.length → k < L.length → 0 ≤ far c k ∧ far c k ≤ 1000)
    (hms : ∀ v, v < L.length → ∀ c, c < L.length → c ≠ v → next c v < L.length ∧ (far v (next c v)).toNat < (far v c).toNat) (u v : Nat) (hu : u < L.length) (hv : v < L.length) :
    Calls Try.prog 80 #[.pointer (some ⟨b, 0, none⟩), .int .i64 u, .int .i64 v] w (NewList w (wayF next far u v)) :=
  townWay w b u v L.length hu hv hle next (fun x => (far v x).toNat) (by have := hbd v u hv hu; show (far v u).toNat ≤ 1000; omega) (hT.below hb).cNext (hms v hv)

theorem eql_no {x y : Int} (wx : World) (h : ¬ x = y) : (binOp .eql 3 (.int .i64 x) (.int .i64 y)).run Try.prog wx = .ok (.bool false) wx := by
  have e : (x == y) = false := by simp; exact h
  simp [go_sem, e]
set_option maxRecDepth 100000 in
set_option maxHeartbeats 800000 in
theorem radius_q (w : World) (b : Nat) (L : List Int) (far : Nat → Nat → Int) (next : Nat → Nat → Nat) (near : Nat → Nat) (hT : Town w b L far next near) (n : Nat) (hLn : L.length = n + 1) (hn : n + 1 ≤ 8) (corner : Nat) (hcor : corner < n + 1) :
    Calls Try.prog 78 #[.pointer (some ⟨b, 0, none⟩), .int .i64 corner] w fun e w' => e = .returned (.int .i64 (mxF (far corner) n)) ∧ ∃ m, w' = w.drewN m := by
  obtain ⟨⟨lv, h1, _, a, cap, lb, lo, rfl, ha, hcl⟩, h3, h4, h5, h6⟩ := hT
  rw [hLn] at h1
  have hF : ∀ k, k < n + 1 → w.cell? ⟨b, 1 + corner * 8 + k, none⟩ = some (.int .i64 (far corner k)) := fun k hk => h3 corner k (by omega) (by omega)
  have HF := Lib.hid hF
  have hc8 : corner < 8 := by omega
  have HLn := Lib.hid hLn
  have i1 : (0 : Int) ≤ (corner : Int) := by omega
  have i2 : (corner : Int) < 8 := by omega
  have i3 : (0 : Int) ≤ (n : Int) + 1 := by omega
  have i4 : (n : Int) + 1 ≤ 8 := by omega
  clear hLn hF h3 h4 h5 h6 ha hcl
  go_enter Try.func78, Try.ntmps78
  go_wp2
  go_region_held3 (fun w' => w'.cell? ⟨b, 0, none⟩ = some (.slice a (n + 1) cap))
    (first | go_keep)
    (first | (go_at_call 61; refine (max_any _ b (1 + corner * 8) n 8 (far corner) (by omega) (by exact fun k hk => HF.out k hk)).mono ?_; rintro e w1 ⟨rfl, rfl⟩))
  go_wp2
  go_ret
  exact ⟨rfl, 1, rfl⟩
theorem radius_qat {w0 w : World} {b : Nat} {L : List Int} {far : Nat → Nat → Int} {next : Nat → Nat → Nat} {near : Nat → Nat} (hT : Town w0 b L far next near) (hb : Below w0.heap.size w0 w) (hpos : 1 ≤ L.length) (hle : L.length ≤ 8) (c : Nat) (hc : c < L.length) :
    Calls Try.prog 78 #[.pointer (some ⟨b, 0, none⟩), .int .i64 c] w fun e w' => e = .returned (.int .i64 (radF far L.length c)) ∧ ∃ m, w' = w.drewN m :=
  radius_q w b L far next near (hT.below hb) (L.length - 1) (by omega) (by omega) c (by omega)
theorem compare_q (w : World) (v1 v2 : Value) (xs ys : List Int) (h1 : Ints w v1 xs) (h2 : Ints w v2 ys) : Calls Try.prog 60 #[v1, v2] w fun e w' => e = .returned (.int .i64 (cmpL xs ys)) ∧ ∃ m, w' = w.drewN m :=
  (compare_any w v1 v2 xs ys h1 h2).mono fun _ _ ⟨he, hw⟩ => ⟨he, 0, by rw [← hw]; rfl⟩
set_option maxRecDepth 100000 in
set_option maxHeartbeats 4000000 in
theorem Longest_ok (w : World) (m : Value) (L : List Int) (N : List Lane) (far : Nat → Nat → Int) (next : Nat → Nat → Nat) (hm : Mkt w m L N) (h0 : checkCode L N = 0) (hR : AllRooted L.length N far next) :
    Calls Try.prog 29 #[m] w (RetInts w (longList (longN far next L.length (begF (radF far L.length) L.length) L.length)) 0) := by
  have hM : ∀ w', Below w.heap.size w w' → Mkt w' m L N := fun w' hb => hm.below hb
  obtain ⟨la, lc, na, nc, rfl, hl, hn⟩ := hm.shape
  have h1 := corners_ok0 h0
  have hV := valid_of h0
  have T := tree_of hV.lanes hV.good hR
  have i1 : (L.length : Int) ≤ 8 := by have := hV.le; omega
  have HBD : Hid (∀ c k, c < L.length → k < L.length → 0 ≤ far c k ∧ far c k ≤ 1000) := Lib.hid (fun c k hc hk => by have := T.nonneg c k hc hk; omega)
  have HMS := Lib.hid (fun v (hv : v < L.length) => T.measure hv)
  have H1 := Lib.hid h1
  have HV := Lib.hid hV
  have HN := Lib.hid (begF_lt (radF far L.length) L.length hV.pos)
  clear h0 hm h1 hV T
  go_enter Try.func29, Try.ntmps29
  go_wp2_with (go_at_call 66; refine (laid_ok _ _ _ L N [] far next (by exact hM _ (Below.one _ _)) (by exact ints_nil _ _) H1.out hR).mono ?_; rintro e w1 ⟨bt, rfl, hbt, hT, hb1⟩; (have hmb := box_cell hb1))
  have HB := Lib.hid ((Below.one w _).trans (hb1.mono (by simp)))
  have HT := Lib.hid hT
  clear hT hb1
  go_loopw [22, 6, 7] (fun a b _ => BegRel w1 (radF far L.length) L.length a b) (fun i _ _ _ => L.length - (intOf i).toNat)
  case atStart => exact ⟨0, Nat.zero_le _, rfl, rfl, Below.refl _ _⟩
  case round =>
    obtain ⟨k, hk, rfl, rfl, hb⟩ := hrel
    have Hb := Lib.hid hb
    have HTr := Lib.hid (HT.out.below hb)
    clear hb
    by_cases hlt : k < L.length
    · have hbl := HN.out k hk
      by_cases hr : radF far L.length (begF (radF far L.length) k) < radF far L.length k
      · go_wp2_with (first | (go_at_call_of 78 (Value.int .i64 (k : Int)); refine (radius_at HTr.out (Below.refl _ _) HV.out.pos HV.out.le k (by omega)).mono ?_; rintro e w2 ⟨rfl, hb2⟩) | (go_at_call_of 78 (Value.int .i64 ((begF (radF far L.length) k : Nat) : Int)); refine (radius_at HTr.out hb2 HV.out.pos HV.out.le _ hbl).mono ?_; rintro e w3 ⟨rfl, hb3⟩))
        go_roundw
        case rel => exact ⟨k + 1, by omega, by go_num, by simp only [begF]; rw [if_pos hr], Hb.out.trans ((hb2.trans (hb3.mono hb2.size)).mono Hb.out.size)⟩
        case measure => simp [intOf]; omega
      · go_wp2_with (first | (go_at_call_of 78 (Value.int .i64 (k : Int)); refine (radius_at HTr.out (Below.refl _ _) HV.out.pos HV.out.le k (by omega)).mono ?_; rintro e w2 ⟨rfl, hb2⟩) | (go_at_call_of 78 (Value.int .i64 ((begF (radF far L.length) k : Nat) : Int)); refine (radius_at HTr.out hb2 HV.out.pos HV.out.le _ hbl).mono ?_; rintro e w3 ⟨rfl, hb3⟩))
        go_roundw
        case rel => exact ⟨k + 1, by omega, by go_num, by simp only [begF]; rw [if_neg (by omega)], Hb.out.trans ((hb2.trans (hb3.mono hb2.size)).mono Hb.out.size)⟩
        case measure => simp [intOf]; omega
    · obtain rfl : k = L.length := by omega
      have hwb := HN.out L.length (Nat.le_refl _)
      obtain ⟨b, hbe⟩ : ∃ b, b = begF (radF far L.length) L.length := ⟨_, rfl⟩
      rw [← hbe] at hwb ⊢
      have HBE := Lib.hid hbe
      have HB2 := Lib.hid (HB.out.trans (Hb.out.mono HB.out.size))
      have HMb := Lib.hid (Below.cellOf Hb.out hmb)
      clear hbe Hb HT HB hmb HN hlt hk i1
      obtain ⟨w0, rfl⟩ : ∃ w0 : World, w0 = wr := ⟨_, rfl⟩
      have hmb := HMb.out
      clear HMb
      go_wp2
      go_loopw [37, 8, 9, 10] (fun x y _ _ => LongRel w0 far next L.length b x y) (fun i _ _ _ _ => L.length - (intOf i).toNat)
      case atStart => exact ⟨0, Nat.zero_le _, rfl, .inl ⟨rfl, rfl⟩, Below.refl _ _⟩
      case round =>
        obtain ⟨k, hk, rfl, hst, hb⟩ := hrel
        have Hb := Lib.hid hb
        have HTr := Lib.hid (HTr.out.below hb)
        have HS := Lib.hid hst
        clear hb hst
        by_cases hlt : k < L.length
        · have hln := Lib.hid (wayF_length (next := next) HBD.out b k hwb hlt)
          have i5 : (0 : Int) ≤ (b : Int) := by omega
          have i6 : (b : Int) < 8 := by have := HV.out.le; omega
          have i7 : (0 : Int) ≤ (k : Int) := by omega
          have i8 : (k : Int) < 8 := by have := HV.out.le; omega
          go_wp2_with (go_at_call 80; refine (way_at HTr.out (Below.refl _ _) HV.out.le HBD.out HMS.out b k hwb hlt).mono ?_; rintro e w2 ⟨r, rfl, hmr, hb2⟩)
          have HT2 := HTr.out.below hb2
          have hcf := HT2.cFar b k hwb hlt
          have HT2 := Lib.hid HT2
          have HI := Lib.hid (hmr.ints (by have := hln.out.1; omega))
          rcases hmr.2 with ⟨_, h⟩ | ⟨rg, ro, rc, rfl, _⟩
          · exact absurd h hln.out.2
          clear hmr
          have HB3 := Lib.hid (Hb.out.trans (hb2.mono Hb.out.size))
          have Hb2 := Lib.hid hb2
          clear hb2
          by_cases hf : far b k = radF far L.length b
          · rcases HS.out with ⟨hs1, hs2⟩ | ⟨l, ad, n, cap, hs1, hs2, hs3⟩
            · subst hs2
              have hnil := fun wx => Lib.run_eql_slice_nil wx 22 3 none 0 0 0 0 Try.underlying22'
              simp only [Option.isNone_none] at hnil
              have HS1 := Lib.hid hs1
              clear hs1
              have HF := Lib.hid hf
              rw [hf] at hcf
              clear hf
              go_quiet (first | (go_at_call 78; refine Calls.quiet_of (radius_qat HT2.out (below_drewN (Below.refl _ _) _) HV.out.pos HV.out.le b hwb)))
              go_wp2
              go_roundw
              case rel => exact ⟨k + 1, by omega, by go_num, by rw [long_first HF.out HS1.out]; exact .inr ⟨_, _, _, _, rfl, rfl, HI.out.below (below_drewN (Below.refl _ _) _)⟩, below_drewN HB3.out _⟩
              case measure => simp [intOf]; omega
            · subst hs2
              have hnil := fun wx => Lib.run_eql_slice_nil wx 22 3 (some ad) n cap 0 0 Try.underlying22'
              simp only [Option.isNone_some] at hnil
              have HS1 := Lib.hid hs1
              have HS3 := Lib.hid (hs3.below Hb2.out)
              clear hs1 hs3
              have HF := Lib.hid hf
              rw [hf] at hcf
              clear hf
              go_quiet (first | (go_at_call 78; refine Calls.quiet_of (radius_qat HT2.out (below_drewN (Below.refl _ _) _) HV.out.pos HV.out.le b hwb)) | (go_at_call 60; refine Calls.quiet_of (compare_q _ _ _ _ _ (HI.out.below (below_drewN (Below.refl _ _) _)) (HS3.out.below (below_drewN (Below.refl _ _) _)))))
              by_cases hz : cmpL (upL (wayF next far b k)) (upL l) < 0
              · go_wp2
                go_roundw
                case rel => exact ⟨k + 1, by omega, by go_num, by rw [long_new HF.out HS1.out hz]; exact .inr ⟨_, _, _, _, rfl, rfl, HI.out.below (below_drewN (Below.refl _ _) _)⟩, below_drewN HB3.out _⟩
                case measure => simp [intOf]; omega
              · go_wp2
                go_roundw
                case rel => exact ⟨k + 1, by omega, by go_num, by rw [long_old HF.out HS1.out (by omega)]; exact .inr ⟨_, _, _, _, rfl, rfl, HS3.out.below (below_drewN (Below.refl _ _) _)⟩, below_drewN HB3.out _⟩
                case measure => simp [intOf]; omega
          · have HF := Lib.hid hf
            have hund : undef = Value.tuple #[] := rfl
            go_quiet (first | (go_at_call 78; refine Calls.quiet_of (radius_qat HT2.out (below_drewN (Below.refl _ _) _) HV.out.pos HV.out.le b hwb)))
            clear hund
            try rw [show Value.tuple #[] = undef from rfl]
            go_wp2
            go_roundw
            case rel => exact ⟨k + 1, by omega, by go_num, by rw [long_skip HF.out]; exact HS.out.below (below_drewN Hb2.out _), below_drewN HB3.out _⟩
            case measure => simp [intOf]; omega
        · obtain rfl : k = L.length := by omega
          go_wp2
          go_ret2
          rcases HS.out with ⟨hs1, rfl⟩ | ⟨l, ad, n, cap, hs1, rfl, hs3⟩
          · exact ⟨_, rfl, by rw [← HBE.out, hs1]; exact ints_nil _ _, HB2.out.trans (Hb.out.mono HB2.out.size)⟩
          · exact ⟨_, rfl, by rw [← HBE.out, hs1]; exact hs3, HB2.out.trans (Hb.out.mono HB2.out.size)⟩
end Go.Proofs.Ytkhkgmelicdpkaa
