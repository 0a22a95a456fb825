/- The reference's Longest: among all pairs, the longest way, and the first in the order of lists. -/
import Derived.Test.YtkhkgmelicdpkaaRn
import Derived.Test.YtkhkgmelicdpkaaPq
set_option linter.unusedVariables false
set_option linter.unusedSimpArgs false
namespace Go.Proofs.Ytkhkgmelicdpkaa
open Go.RowKit Go.BigFrame

/-! ### plain -/
def seenP (n i j a b : Nat) : Prop := a < n ∧ b < n ∧ (a < i ∨ (a = i ∧ b < j))
section
variable (far : Nat → Nat → Int) (next : Nat → Nat → Nat) (D : Int)
/-- The program's: among the pairs that are D apart. -/
def ProgB (P : Nat → Nat → Prop) : Option (List Nat) → Prop
  | none => ∀ a b, P a b → ¬ far a b = D
  | some l => (∃ a b, P a b ∧ far a b = D ∧ l = wayL far next a b) ∧ ∀ a b, P a b → far a b = D → l = wayL far next a b ∨ lexLt l (wayL far next a b)
/-- The reference's: the farthest pair so far. -/
def RefB (P : Nat → Nat → Prop) : Option (Nat × Nat) → Prop
  | none => ∀ a b, ¬ P a b
  | some (x, y) => P x y ∧ ∀ a b, P a b → far a b < far x y ∨ (far a b = far x y ∧ (wayL far next x y = wayL far next a b ∨ lexLt (wayL far next x y) (wayL far next a b)))
end
section
variable {far : Nat → Nat → Int} {next : Nat → Nat → Nat} {D : Int} {n : Nat}
theorem ProgB.congr {P P' : Nat → Nat → Prop} {st : Option (List Nat)} (h : ProgB far next D P st) (hP : ∀ a b, P a b ↔ P' a b) : ProgB far next D P' st := by
  cases st with
  | none => exact fun a b hab => h a b ((hP a b).2 hab)
  | some l =>
    obtain ⟨⟨a, b, h1, h2, h3⟩, h4⟩ := h
    exact ⟨⟨a, b, (hP a b).1 h1, h2, h3⟩, fun c d hcd => h4 c d ((hP c d).2 hcd)⟩
theorem RefB.congr {P P' : Nat → Nat → Prop} {st : Option (Nat × Nat)} (h : RefB far next P st) (hP : ∀ a b, P a b ↔ P' a b) : RefB far next P' st := by
  cases st with
  | none => exact fun a b hab => h a b ((hP a b).2 hab)
  | some p =>
    obtain ⟨x, y⟩ := p
    exact ⟨(hP x y).1 h.1, fun c d hcd => h.2 c d ((hP c d).2 hcd)⟩
theorem ProgB.step {P P' : Nat → Nat → Prop} {st : Option (List Nat)} {i j : Nat} (h : ProgB far next D P st) (hP : ∀ a b, P' a b ↔ P a b ∨ (a = i ∧ b = j)) : ProgB far next D P' (pairStep far next D i j st) := by
  unfold pairStep
  split
  · rename_i hf
    cases st with
    | none =>
      refine ⟨⟨i, j, (hP i j).2 (.inr ⟨rfl, rfl⟩), hf, rfl⟩, fun a b hab he => ?_⟩
      rcases (hP a b).1 hab with h1 | ⟨rfl, rfl⟩
      · exact absurd he (h a b h1)
      · exact .inl rfl
    | some l =>
      obtain ⟨⟨x, y, hx, hxy, hl⟩, hall⟩ := h
      simp only
      split
      · rename_i hc
        refine ⟨⟨i, j, (hP i j).2 (.inr ⟨rfl, rfl⟩), hf, rfl⟩, fun a b hab he => ?_⟩
        rcases (hP a b).1 hab with h1 | ⟨rfl, rfl⟩
        · rcases hall a b h1 he with h2 | h2
          · rw [← h2]; exact .inr hc
          · exact .inr (lexLt_trans hc h2)
        · exact .inl rfl
      · rename_i hc
        refine ⟨⟨x, y, (hP x y).2 (.inl hx), hxy, hl⟩, fun a b hab he => ?_⟩
        rcases (hP a b).1 hab with h1 | ⟨rfl, rfl⟩
        · exact hall a b h1 he
        · rcases lexLt_not hc with h2 | h2
          · exact .inl h2.symm
          · exact .inr h2
  · rename_i hf
    cases st with
    | none =>
      intro a b hab
      rcases (hP a b).1 hab with h1 | ⟨rfl, rfl⟩
      · exact h a b h1
      · exact hf
    | some l =>
      obtain ⟨⟨x, y, hx, hxy, hl⟩, hall⟩ := h
      refine ⟨⟨x, y, (hP x y).2 (.inl hx), hxy, hl⟩, fun a b hab he => ?_⟩
      rcases (hP a b).1 hab with h1 | ⟨rfl, rfl⟩
      · exact hall a b h1 he
      · exact absurd he hf
theorem seen_step {i j : Nat} (hi : i < n) (hj : j < n) (a b : Nat) : seenP n i (j + 1) a b ↔ seenP n i j a b ∨ (a = i ∧ b = j) := by
  unfold seenP; omega
theorem seen_row {i : Nat} (a b : Nat) : seenP n (i + 1) 0 a b ↔ seenP n i n a b := by
  unfold seenP; omega
theorem rowK_best {i : Nat} (hi : i < n) {st : Option (List Nat)} (h : ProgB far next D (seenP n i 0) st) : ∀ j, j ≤ n → ProgB far next D (seenP n i j) (rowK far next D i st j) := by
  intro j
  induction j with
  | zero => intro _; exact h
  | succ j ih =>
    intro hj
    exact (ih (by omega)).step (seen_step hi (by omega))
theorem allK_best : ∀ i, i ≤ n → ProgB far next D (seenP n i 0) (allK far next D n i) := by
  intro i
  induction i with
  | zero => intro _ a b hab; unfold seenP at hab; omega
  | succ i ih =>
    intro hi
    exact (rowK_best (by omega) (ih (by omega)) n (Nat.le_refl _)).congr (fun a b => (seen_row a b).symm)
theorem RefB.first {P P' : Nat → Nat → Prop} {i j : Nat} (h : RefB far next P none) (hP : ∀ a b, P' a b ↔ P a b ∨ (a = i ∧ b = j)) : RefB far next P' (some (i, j)) := by
  refine ⟨(hP i j).2 (.inr ⟨rfl, rfl⟩), fun a b hab => ?_⟩
  rcases (hP a b).1 hab with h1 | ⟨rfl, rfl⟩
  · exact absurd h1 (h a b)
  · exact .inr ⟨rfl, .inl rfl⟩
theorem RefB.better {P P' : Nat → Nat → Prop} {i j x y : Nat} (h : RefB far next P (some (x, y))) (hP : ∀ a b, P' a b ↔ P a b ∨ (a = i ∧ b = j)) (hb : far x y < far i j ∨ (far i j = far x y ∧ lexLt (wayL far next i j) (wayL far next x y))) : RefB far next P' (some (i, j)) := by
  refine ⟨(hP i j).2 (.inr ⟨rfl, rfl⟩), fun a b hab => ?_⟩
  rcases (hP a b).1 hab with h1 | ⟨rfl, rfl⟩
  · rcases h.2 a b h1 with h2 | ⟨h2, h3⟩
    · exact .inl (by omega)
    · rcases hb with hb | ⟨hb1, hb2⟩
      · exact .inl (by omega)
      · refine .inr ⟨by omega, .inr ?_⟩
        rcases h3 with h3 | h3
        · rw [← h3]; exact hb2
        · exact lexLt_trans hb2 h3
  · exact .inr ⟨rfl, .inl rfl⟩
theorem RefB.keep {P P' : Nat → Nat → Prop} {i j x y : Nat} (h : RefB far next P (some (x, y))) (hP : ∀ a b, P' a b ↔ P a b ∨ (a = i ∧ b = j)) (hb : far i j < far x y ∨ (far i j = far x y ∧ ¬ lexLt (wayL far next i j) (wayL far next x y))) : RefB far next P' (some (x, y)) := by
  refine ⟨(hP x y).2 (.inl h.1), fun a b hab => ?_⟩
  rcases (hP a b).1 hab with h1 | ⟨rfl, rfl⟩
  · exact h.2 a b h1
  · rcases hb with hb | ⟨hb1, hb2⟩
    · exact .inl hb
    · refine .inr ⟨hb1, ?_⟩
      rcases lexLt_not hb2 with h2 | h2
      · exact .inl h2.symm
      · exact .inr h2
/-- Both find the same way. -/
theorem Tree.both_long {A : Nat → Nat → Prop} {len : Nat → Nat → Int} (T : Tree n A len far next) (hn : 1 ≤ n) {st : Option (Nat × Nat)} (h : RefB far next (seenP n n 0) st) : ∃ x y, st = some (x, y) ∧ x < n ∧ y < n ∧ longN far next n (begF (radF far n) n) n = some (wayL far next x y) := by
  cases st with
  | none => exact absurd (show seenP n n 0 0 0 from ⟨by omega, by omega, .inl (by omega)⟩) (h 0 0)
  | some p =>
    obtain ⟨x, y⟩ := p
    have hall := T.all_long hn (D := radF far n (begF (radF far n) n)) rfl
    have hP := allK_best (far := far) (next := next) (D := radF far n (begF (radF far n) n)) (n := n) n (Nat.le_refl _)
    obtain ⟨l, hl⟩ := long_some (far := far) (next := next) (b := begF (radF far n) n) hn
    rw [hall, hl] at hP
    obtain ⟨⟨a, b, hab, hD, rfl⟩, hmin⟩ := hP
    have hx := h.1
    have hbn := begF_lt (radF far n) n hn n (Nat.le_refl _)
    have hle : far x y ≤ radF far n (begF (radF far n) n) := by
      have g1 := mxF_ge (far x) (n - 1) y (by have := hx.2.1; omega)
      have g2 := begF_max (radF far n) n x hx.1
      have g3 : radF far n x = mxF (far x) (n - 1) := rfl
      omega
    refine ⟨x, y, rfl, hx.1, hx.2.1, ?_⟩
    rw [hl]
    have hxy : far x y = radF far n (begF (radF far n) n) := by
      rcases h.2 a b hab with h1 | ⟨h1, _⟩ <;> omega
    rcases hmin x y hx hxy with e | e
    · rw [e]
    · rcases h.2 a b hab with h1 | ⟨_, h2⟩
      · omega
      · rcases h2 with h2 | h2
        · rw [h2]
        · exact absurd (lexLt_trans e h2) lexLt_irr
end

/-! ### the walk -/
def LongV (far : Nat → Nat → Int) (next : Nat → Nat → Nat) (n : Nat) (st : Option (Nat × Nat)) (bv : Value) (w : World) : Prop :=
  (st = none ∧ bv = .slice none 0 0) ∨ (∃ x y g o k cap, st = some (x, y) ∧ x < n ∧ y < n ∧ bv = .slice (some ⟨g, o, none⟩) (k + 1) cap ∧ (wayL far next x y).length = k + 1 ∧ Ints w bv (upL (wayL far next x y)))
theorem LongV.below {far : Nat → Nat → Int} {next : Nat → Nat → Nat} {n : Nat} {st : Option (Nat × Nat)} {bv : Value} {w w' : World} (h : LongV far next n st bv w) (hb : Below w.heap.size w w') : LongV far next n st bv w' := by
  rcases h with h | ⟨x, y, g, o, k, cap, h1, h2, h3, h4, h5, h6⟩
  · exact .inl h
  · exact .inr ⟨x, y, g, o, k, cap, h1, h2, h3, h4, h5, h6.below hb⟩
def LgOut (w1 : World) (far : Nat → Nat → Int) (next : Nat → Nat → Nat) (n : Nat) (iv bv : Value) (wr : World) : Prop := ∃ (i : Nat) (st : Option (Nat × Nat)), i ≤ n ∧ iv = .int .i64 (i : Int) ∧ RefB far next (seenP n i 0) st ∧ LongV far next n st bv wr ∧ Below w1.heap.size w1 wr
def LgIn (w1 : World) (far : Nat → Nat → Int) (next : Nat → Nat → Nat) (n i : Nat) (iv bv : Value) (wr : World) : Prop := ∃ (j : Nat) (st : Option (Nat × Nat)), j ≤ n ∧ iv = .int .i64 (j : Int) ∧ RefB far next (seenP n i j) st ∧ LongV far next n st bv wr ∧ Below w1.heap.size w1 wr
set_option maxRecDepth 100000 in
set_option maxHeartbeats 8000000 in
theorem Longest_r (w : World) (m : Value) (L : List Int) (N : List Lane) (far : Nat → Nat → Int) (next : Nat → Nat → Nat) (hm : Mkt w m L N) (h0 : checkCode L N = 0) (hR : AllRooted L.length N far next) :
    Calls Try.prog 30 #[m] w (RetInts w (longList (longN far next L.length (begF (radF far L.length) L.length) L.length)) 0) := by
  have HM : Hid (∀ w', Below w.heap.size w w' → Mkt w' m L N) := Lib.hid (fun w' hb => hm.below hb)
  obtain ⟨la, lc, na, nc, rfl, hlM, hN⟩ := hm.shape
  have HV := Lib.hid (valid_of h0)
  have h8 := HV.out.le
  have hp := HV.out.pos
  have HT := Lib.hid (tree_of HV.out.lanes HV.out.good hR)
  have K48 : Hid (∀ w', Below w.heap.size w w' → Calls Try.prog 48 #[.agg #[.slice la L.length lc, .slice na N.length nc]] w' (Ret w' (.int .i64 0))) := Lib.hid (fun w' hb => by have h := Check_r w' _ L N (HM.out _ hb); rw [h0] at h; exact h)
  have K82 : Hid (∀ (w' : World) (x y : Nat), Below w.heap.size w w' → x < L.length → y < L.length → Calls Try.prog 82 #[.agg #[.slice la L.length lc, .slice na N.length nc], .int .i64 (x : Int), .int .i64 (y : Int)] w' (Ret w' (.int .i64 (far x y)))) := Lib.hid (fun w' x y hbw hx hy => far_r w' _ L N x y far next (HM.out _ hbw) h0 hR hx hy)
  have K81 : Hid (∀ (w' : World) (bv : Value) (a b : Nat), Below w.heap.size w w' → a < L.length → b < L.length → Ints w' bv (upL [a]) → Calls Try.prog 81 #[.agg #[.slice la L.length lc, .slice na N.length nc], bv, .int .i64 (b : Int)] w' fun e w'' => Below w'.heap.size w' w'' ∧ ∃ g o cap k, e = .returned (.tuple #[.slice (some ⟨g, o, none⟩) (k + 1) cap, .bool true]) ∧ (wayL far next a b).length = k + 1 ∧ Ints w'' (.slice (some ⟨g, o, none⟩) (k + 1) cap) (upL (wayL far next a b))) := Lib.hid (fun w' bv a b hb' ha hb hi => by
    have e1 : upL [a] = upL (wayL far next a a) := by rw [wayL_self]
    rw [e1] at hi
    refine (way_r L N far next h0 hR a b ha hb L.length w' _ bv a (HM.out w' hb') ha hi (by rw [wayL_self]; simp; omega)).mono fun e w'' => ?_
    rintro ⟨h1, h2 | h2⟩
    · obtain ⟨_, r, rfl, hr⟩ := h2
      have hne : 1 ≤ (wayL far next a b).length := List.length_pos_iff.2 (HT.out.wayL_ne ha hb)
      have hr' := hr
      obtain ⟨_, ra, rc, rb, ro, rfl, hra, _⟩ := hr'
      obtain rfl := hra.resolve_left (by rw [upL_length]; omega)
      have e2 : (upL (wayL far next a b)).length = (wayL far next a b).length - 1 + 1 := by rw [upL_length]; omega
      rw [e2] at hr ⊢
      exact ⟨h1, _, _, _, (wayL far next a b).length - 1, rfl, by omega, hr⟩
    · exact absurd (List.mem_of_getElem? (HT.out.wayL_head ha hb)) h2.1)
  have HB := Lib.hid (Below.one w (.cells #[.slice la L.length lc, .slice na N.length nc] 28))
  clear hm hlM hN h0 hR
  go_enter Try.func30, Try.ntmps30
  go_wp2_with (first | (go_at_call 48; refine (K48.out _ HB.out).mono ?_; rintro e w1 ⟨rfl, hb1⟩; (have c0 := Below.cellOf hb1 (show (w.alloc (.cells #[.slice la L.length lc, .slice na N.length nc] 28)).cell? ⟨w.heap.size, 0, none⟩ = some (.slice la L.length lc) by simp)); (have c1 := Below.cellOf hb1 (show (w.alloc (.cells #[.slice la L.length lc, .slice na N.length nc] 28)).cell? ⟨w.heap.size, 1, none⟩ = some (.slice na N.length nc) by simp))))
  have HBW := Lib.hid (HB.out.trans (hb1.mono HB.out.size))
  have HC := Lib.hid (And.intro c0 c1)
  clear hb1 c0 c1
  go_loopw [6, 5, 7, 8, 9] (fun a b _ _ _ => LgOut w1 far next L.length a b) (fun i _ _ _ _ _ => L.length - (intOf i).toNat)
  case atStart => exact ⟨0, none, Nat.zero_le _, rfl, fun a b hab => by unfold seenP at hab; omega, .inl ⟨rfl, rfl⟩, Below.refl _ _⟩
  case round =>
    obtain ⟨i, st, hi, rfl, hst, hlv, hb⟩ := hrel
    have HST := Lib.hid hst
    have HLV := Lib.hid hlv
    have Hb := Lib.hid hb
    have c0 := Below.cellOf hb HC.out.1
    have c1 := Below.cellOf hb HC.out.2
    clear hst hlv hb
    by_cases hlt : i < L.length
    · have hd5 : decide ((i : Int) < (L.length : Int)) = true := decide_eq_true (by omega)
      go_wp2
      go_loopw [7, 5, 8, 9] (fun a b _ _ => LgIn w1 far next L.length i a b) (fun i _ _ _ _ => L.length - (intOf i).toNat)
      case atStart => exact ⟨0, st, Nat.zero_le _, rfl, HST.out, HLV.out, Hb.out⟩
      case round =>
        clear c0 c1
        obtain ⟨j, st2, hj, rfl, hst, hlv, hb⟩ := hrel
        have HS2 := Lib.hid hst
        have HL2 := Lib.hid hlv
        have Hb2 := Lib.hid hb
        have c0 := Below.cellOf hb HC.out.1
        have c1 := Below.cellOf hb HC.out.2
        have HBR := Lib.hid (HBW.out.trans (hb.mono HBW.out.size))
        clear hst hlv hb
        by_cases hlt2 : j < L.length
        · have HPS : Hid (∀ a b, seenP L.length i (j + 1) a b ↔ seenP L.length i j a b ∨ (a = i ∧ b = j)) := Lib.hid (seen_step hlt hlt2)
          rcases HL2.out with ⟨hn, hbv⟩ | ⟨x, y, g, o, k, cap, hs, hx, hy, hbv, hk, hints⟩
          · subst hbv
            subst hn
            go_wp2_with (first | (go_at_call 81; refine (K81.out _ _ i j (HBR.out.alloc HBR.out.size _) hlt hlt2 (by exact ints_new _ _ _)).mono ?_; rintro e w2 ⟨hb2, g2, o2, cap2, k2, rfl, hk2, hi2⟩))
            have HB2 := Lib.hid ((Below.one wr (.cells #[.int .i64 (i : Int)] 3)).trans (hb2.mono (new_size _ _)))
            have HI2 := Lib.hid hi2
            have HK2 := Lib.hid hk2
            have HBB := Lib.hid (Hb2.out.trans (HB2.out.mono Hb2.out.size))
            have HBR2 := Lib.hid (HBR.out.trans (HB2.out.mono HBR.out.size))
            replace c0 := Below.cellOf HB2.out c0
            replace c1 := Below.cellOf HB2.out c1
            clear hb2 hi2 hk2
            go_wp2
            refine wp_region_class (Later w2) (by kernel_rfl) (by kernel_rfl) (below_drewN (Below.refl _ _) 1) ?_
            repeat (go_big_quiet_step (fail))
            refine wpQuiet_nil ?_
            intro wq hw'
            obtain ⟨⟨_, hq⟩, rfl⟩ := hw'
            go_wp2
            go_roundw
            case rel => exact ⟨j + 1, some (i, j), by omega, by go_num, HS2.out.first HPS.out, .inr ⟨i, j, _, _, _, _, rfl, hlt, hlt2, rfl, HK2.out, HI2.out.below hq⟩, HBB.out.trans (hq.mono HBB.out.size)⟩
            case measure => simp [intOf]; omega
          · subst hbv
            subst hs
            have HIN := Lib.hid hints
            have HKK := Lib.hid hk
            clear hints hk
            go_wp2_with (first | (go_at_call 81; refine (K81.out _ _ i j (HBR.out.alloc HBR.out.size _) hlt hlt2 (by exact ints_new _ _ _)).mono ?_; rintro e w2 ⟨hb2, g2, o2, cap2, k2, rfl, hk2, hi2⟩))
            have HB2 := Lib.hid ((Below.one wr (.cells #[.int .i64 (i : Int)] 3)).trans (hb2.mono (new_size _ _)))
            have HI2 := Lib.hid hi2
            have HK2 := Lib.hid hk2
            have HBB := Lib.hid (Hb2.out.trans (HB2.out.mono Hb2.out.size))
            have HBR2 := Lib.hid (HBR.out.trans (HB2.out.mono HBR.out.size))
            replace c0 := Below.cellOf HB2.out c0
            replace c1 := Below.cellOf HB2.out c1
            clear hb2 hi2 hk2
            have hq0 : (wayL far next x y)[0]? = some x := HT.out.wayL_head hx hy
            have hq1 : (wayL far next x y)[k]? = some y := by
              have h := HT.out.way_last hx hy
              rw [HKK.out] at h
              exact h
            have q0 : w2.cell? ⟨g, o, none⟩ = some (.int .i64 (x : Int)) := ints_get (j := 0) (HIN.out.below HB2.out) hq0
            have q1 : w2.cell? ⟨g, o + k, none⟩ = some (.int .i64 (y : Int)) := ints_get (HIN.out.below HB2.out) hq1
            have p0 := Later.cell c0
            have p1 := Later.cell c1
            have p2 := Later.cell q0
            have p3 := Later.cell q1
            have e1 : (k : Int) + 1 - 1 = (k : Int) := by omega
            have i1 : (0 : Int) ≤ (k : Int) := by omega
            have i2 : (0 : Int) < (k : Int) + 1 := by omega
            have i3 : (k : Int) < (k : Int) + 1 := by omega
            have hk8 : (k : Int) + 1 ≤ 8 := by have := HT.out.way_length hx hy; rw [HKK.out] at this; omega
            have hz : ((k : Int) + 1 == 0) = false := by rw [beq_eq_false_iff_ne]; omega
            obtain ⟨fij, hfij⟩ : ∃ f, f = far i j := ⟨_, rfl⟩
            obtain ⟨fxy, hfxy⟩ : ∃ f, f = far x y := ⟨_, rfl⟩
            have S1 : Hid (∀ gw : HeldW (Later w2), Calls Try.prog 82 #[.agg #[.slice la L.length lc, .slice na N.length nc], .int .i64 (i : Int), .int .i64 (j : Int)] gw.w fun e w'' => e = .returned (.int .i64 fij) ∧ ∃ g' : HeldW (Later w2), w'' = g'.w) := Lib.hid (fun gw => by rw [hfij]; exact Calls.later gw (K82.out gw.w i j (HBR2.out.trans (gw.h.mono HBR2.out.size)) hlt hlt2))
            have S2 : Hid (∀ gw : HeldW (Later w2), Calls Try.prog 82 #[.agg #[.slice la L.length lc, .slice na N.length nc], .int .i64 (x : Int), .int .i64 (y : Int)] gw.w fun e w'' => e = .returned (.int .i64 fxy) ∧ ∃ g' : HeldW (Later w2), w'' = g'.w) := Lib.hid (fun gw => by rw [hfxy]; exact Calls.later gw (K82.out gw.w x y (HBR2.out.trans (gw.h.mono HBR2.out.size)) hx hy))
            have HFF := Lib.hid (And.intro hfij hfxy)
            clear hfij hfxy q0 q1 hq0 hq1 c0 c1
            by_cases hgt : fxy < fij
            · have hd1 : decide (fxy < fij) = true := decide_eq_true hgt
              have HG := Lib.hid hgt
              clear hgt
              go_wp2
              refine wp_region_class (Later w2) (by kernel_rfl) (by kernel_rfl) (below_drewN (Below.refl _ _) 1) ?_
              repeat (go_big_quiet_step ((first | (go_at_call_of 82 (Value.int .i64 (i : Int)); exact S1.out _) | (go_at_call_of 82 (Value.int .i64 (x : Int)); exact S2.out _))))
              refine wpQuiet_nil ?_
              intro wq hw'
              obtain ⟨⟨_, hq⟩, rfl⟩ := hw'
              go_wp2
              go_roundw
              case rel => exact ⟨j + 1, some (i, j), by omega, by go_num, HS2.out.better HPS.out (.inl (by rw [← HFF.out.1, ← HFF.out.2]; exact HG.out)), .inr ⟨i, j, _, _, _, _, rfl, hlt, hlt2, rfl, HK2.out, HI2.out.below hq⟩, HBB.out.trans (hq.mono HBB.out.size)⟩
              case measure => simp [intOf]; omega
            · have hd1 : decide (fxy < fij) = false := decide_eq_false hgt
              by_cases heq : fij = fxy
              · have he1 : (fij == fxy) = true := by simp [heq]
                have HE := Lib.hid heq
                clear hgt heq
                by_cases hlex : cmpL (upL (wayL far next i j)) (upL (wayL far next x y)) < 0
                · have S3 : Hid (∀ gw : HeldW (Later w2), Calls Try.prog 83 #[.slice (some ⟨g2, o2, none⟩) (k2 + 1) cap2, .slice (some ⟨g, o, none⟩) (k + 1) cap] gw.w fun e w'' => e = .returned (.bool true) ∧ ∃ g' : HeldW (Later w2), w'' = g'.w) := Lib.hid (fun gw => by
                    have h := before_r gw.w _ _ _ _ (HI2.out.below gw.h) ((HIN.out.below HB2.out).below gw.h)
                    rw [decide_eq_true hlex] at h
                    exact Calls.later gw h)
                  have HX := Lib.hid hlex
                  clear hlex
                  go_wp2
                  refine wp_region_class (Later w2) (by kernel_rfl) (by kernel_rfl) (below_drewN (Below.refl _ _) 1) ?_
                  repeat (go_big_quiet_step ((first | (go_at_call_of 82 (Value.int .i64 (i : Int)); exact S1.out _) | (go_at_call_of 82 (Value.int .i64 (x : Int)); exact S2.out _) | (go_at_call 83; exact S3.out _))))
                  refine wpQuiet_nil ?_
                  intro wq hw'
                  obtain ⟨⟨_, hq⟩, rfl⟩ := hw'
                  go_wp2
                  go_roundw
                  case rel => exact ⟨j + 1, some (i, j), by omega, by go_num, HS2.out.better HPS.out (.inr ⟨by rw [← HFF.out.1, ← HFF.out.2]; exact HE.out, HX.out⟩), .inr ⟨i, j, _, _, _, _, rfl, hlt, hlt2, rfl, HK2.out, HI2.out.below hq⟩, HBB.out.trans (hq.mono HBB.out.size)⟩
                  case measure => simp [intOf]; omega
                · have S3 : Hid (∀ gw : HeldW (Later w2), Calls Try.prog 83 #[.slice (some ⟨g2, o2, none⟩) (k2 + 1) cap2, .slice (some ⟨g, o, none⟩) (k + 1) cap] gw.w fun e w'' => e = .returned (.bool false) ∧ ∃ g' : HeldW (Later w2), w'' = g'.w) := Lib.hid (fun gw => by
                    have h := before_r gw.w _ _ _ _ (HI2.out.below gw.h) ((HIN.out.below HB2.out).below gw.h)
                    rw [decide_eq_false hlex] at h
                    exact Calls.later gw h)
                  have HX := Lib.hid hlex
                  clear hlex
                  go_wp2
                  refine wp_region_class (Later w2) (by kernel_rfl) (by kernel_rfl) (below_drewN (Below.refl _ _) 1) ?_
                  repeat (go_big_quiet_step ((first | (go_at_call_of 82 (Value.int .i64 (i : Int)); exact S1.out _) | (go_at_call_of 82 (Value.int .i64 (x : Int)); exact S2.out _) | (go_at_call 83; exact S3.out _))))
                  refine wpQuiet_nil ?_
                  intro wq hw'
                  obtain ⟨⟨_, hq⟩, rfl⟩ := hw'
                  go_wp2
                  go_roundw
                  case rel => exact ⟨j + 1, some (x, y), by omega, by go_num, HS2.out.keep HPS.out (.inr ⟨by rw [← HFF.out.1, ← HFF.out.2]; exact HE.out, by have := HX.out; unfold lexLt; omega⟩), .inr ⟨x, y, _, _, _, _, rfl, hx, hy, rfl, HKK.out, (HIN.out.below HB2.out).below hq⟩, HBB.out.trans (hq.mono HBB.out.size)⟩
                  case measure => simp [intOf]; omega
              · have he1 : (fij == fxy) = false := by simp; exact heq
                have HE : Hid (fij < fxy) := Lib.hid (by omega)
                clear hgt heq
                go_wp2
                refine wp_region_class (Later w2) (by kernel_rfl) (by kernel_rfl) (below_drewN (Below.refl _ _) 1) ?_
                repeat (go_big_quiet_step ((first | (go_at_call_of 82 (Value.int .i64 (i : Int)); exact S1.out _) | (go_at_call_of 82 (Value.int .i64 (x : Int)); exact S2.out _))))
                refine wpQuiet_nil ?_
                intro wq hw'
                obtain ⟨⟨_, hq⟩, rfl⟩ := hw'
                go_wp2
                go_roundw
                case rel => exact ⟨j + 1, some (x, y), by omega, by go_num, HS2.out.keep HPS.out (.inl (by rw [← HFF.out.1, ← HFF.out.2]; exact HE.out)), .inr ⟨x, y, _, _, _, _, rfl, hx, hy, rfl, HKK.out, (HIN.out.below HB2.out).below hq⟩, HBB.out.trans (hq.mono HBB.out.size)⟩
                case measure => simp [intOf]; omega
        · obtain rfl : j = L.length := by omega
          go_wp2
          go_roundw
          case rel => exact ⟨i + 1, st2, by omega, by go_num, HS2.out.congr (fun a b => (seen_row a b).symm), HL2.out, Hb2.out⟩
          case measure => simp [intOf]; omega
    · obtain rfl : i = L.length := by omega
      obtain ⟨x, y, hs, hx, hy, hl⟩ := HT.out.both_long hp HST.out
      subst hs
      rcases HLV.out with ⟨h, _⟩ | ⟨x', y', g, o, k, cap, hs, _, _, hbv, hk, hints⟩
      · cases h
      cases hs
      subst hbv
      have HIN := Lib.hid hints
      have HLL := Lib.hid hl
      clear hints hl
      go_wp2
      go_ret2
      exact ⟨_, rfl, by rw [HLL.out]; exact HIN.out, HBW.out.trans (Hb.out.mono HBW.out.size)⟩
end Go.Proofs.Ytkhkgmelicdpkaa
