/- The walk of TipBack: for every sketch and two corners it returns true. -/
import Derived.Test.YtkhkgmelicdpkaaRv
set_option linter.unusedVariables false
set_option linter.unusedSimpArgs false
namespace Go.Proofs.Ytkhkgmelicdpkaa
open Go.RowKit Go.BigFrame

theorem mine_shape {w : World} {base n : Nat} {v : Value} {xs : List Value} (h : Mine w base 1 v n xs) (hn : 1 ≤ n) : ∃ g o cap, v = .slice (some ⟨g, o, none⟩) n cap ∧ base ≤ g ∧ n ≤ cap ∧ cap ≤ maxLen ∧ (∀ j, j < n → w.cell? ⟨g, o + j, none⟩ = xs[j]?) ∧ ∀ j, j < n → w.frozen? ⟨g, o + j, none⟩ = false := by
  rcases h.2 with ⟨_, h0⟩ | ⟨g, o, cap, rfl, h1, h2, h3, h4, h5, h6⟩
  · omega
  · exact ⟨g, o, cap, rfl, h1, h2, h3, fun j hj => h5 j (by omega), fun j hj => (h6 j (by omega)).2⟩
/-- A list that a call returned, not empty. -/
structure LiSt (base g o cap : Nat) (l : List Nat) (wr : World) : Prop where
  hg : base ≤ g
  hc : l.length ≤ cap
  cell : ∀ j, j < (upL l).length → wr.cell? ⟨g, o + j, none⟩ = some (.int .i64 (gI (upL l) j))
  free : ∀ j, j < (upL l).length → wr.frozen? ⟨g, o + j, none⟩ = false
theorem list_open {w : World} {base : Nat} {v : Value} {l : List Nat} (h : Mine w base 1 v l.length (vals l)) (hl : 1 ≤ l.length) : ∃ g o cap, v = .slice (some ⟨g, o, none⟩) l.length cap ∧ LiSt base g o cap l w := by
  obtain ⟨g, o, cap, rfl, h1, h2, h3, h4, h5⟩ := mine_shape h hl
  refine ⟨g, o, cap, rfl, h1, h2, fun j hj => ?_, fun j hj => h5 j (by rw [upL_length] at hj; exact hj)⟩
  rw [upL_length] at hj
  rw [h4 j hj, gI_upL hj]
  simp [vals, hj]
theorem LiSt.below {base g o cap : Nat} {l : List Nat} {w w' : World} (h : LiSt base g o cap l w) (hb : Below w.heap.size w w') : LiSt base g o cap l w' := by
  refine ⟨h.hg, h.hc, fun j hj => Below.cellOf hb (h.cell j hj), fun j hj => ?_⟩
  have := World.block_lt_of_cell? w _ (h.cell j hj)
  exact (hb.frozen this).trans (h.free j hj)
theorem LiSt.ints {base g o cap : Nat} {l : List Nat} {w : World} (h : LiSt base g o cap l w) (hl : l.length ≤ 1000) : Ints w (.slice (some ⟨g, o, none⟩) l.length cap) (upL l) :=
  ⟨by rw [upL_length]; omega, _, cap, g, o, by rw [upL_length], .inr rfl, h.cell⟩
theorem LiSt.at_ {base g o cap : Nat} {l : List Nat} {w : World} (h : LiSt base g o cap l w) {j c : Nat} (hc : l[j]? = some c) : w.cell? ⟨g, o + j, none⟩ = some (.int .i64 (c : Int)) := by
  obtain ⟨hj, e⟩ := List.getElem?_eq_some_iff.1 hc
  rw [h.cell j (by rw [upL_length]; exact hj), gI_upL hj, e]
theorem mem_take_up {l : List Nat} {k c : Nat} (h : (c : Int) ∈ (upL l).take k) : c ∈ l.take k := by
  unfold upL at h
  rw [← List.map_take, List.mem_map] at h
  obtain ⟨a, ha, e⟩ := h
  obtain rfl : a = c := by omega
  exact ha
/-- The call returns a way. -/
def RetWay (w : World) (l : List Nat) (e : Ending) (w' : World) : Prop := ∃ g o cap k, e = .returned (.tuple #[.slice (some ⟨g, o, none⟩) (k + 1) cap, .int .i64 0]) ∧ l.length = k + 1 ∧ LiSt w.heap.size g o cap l w' ∧ Below w.heap.size w w'
theorem Way_li {w : World} {m : Value} {L : List Int} {N : List Lane} {a b : Nat} {far : Nat → Nat → Int} {next : Nat → Nat → Nat} (hm : Mkt w m L N) (h0 : checkCode L N = 0) (hR : AllRooted L.length N far next) (ha : a < L.length) (hb : b < L.length) :
    Calls Try.prog 43 #[m, .int .i64 a, .int .i64 b] w (RetWay w (wayL far next a b)) := by
  refine (Way_ok w m L N a b far next hm h0 hR ha hb).mono fun e w' => ?_
  rintro ⟨v, rfl, hv, hbw⟩
  have T := tree_of (valid_of h0).lanes (valid_of h0).good hR
  have hl := List.length_pos_iff.2 (T.wayL_ne ha hb)
  obtain ⟨g, o, cap, rfl, hst⟩ := list_open (l := wayL far next a b) hv hl
  have e1 : (wayL far next a b).length = (wayL far next a b).length - 1 + 1 := by omega
  refine ⟨g, o, cap, (wayL far next a b).length - 1, ?_, e1, hst, hbw⟩
  rw [← e1]
theorem rv_ints {w w' : World} {g o k1 k2 cap : Nat} {WL : List Nat} {F : Nat → Int} (hk : WL.length = k1 + 1) (h12 : k2 = k1) (hF : ∀ t, t < k1 + 1 → F (k2 + 1 - 1 - t) = gI (upL WL) t) (h : RvSt g o (k2 + 1) (fun t => F (k2 + 1 - 1 - t)) w) (hb : Below w.heap.size w w') : Ints w' (.slice (some ⟨g, o, none⟩) (k2 + 1) cap) (upL WL) ∨ 1000 < k1 := by
  rcases Nat.lt_or_ge 1000 k1 with h1 | h1
  · exact .inr h1
  · refine .inl ⟨by rw [upL_length]; omega, _, cap, g, o, by rw [upL_length, hk, h12], .inr rfl, fun i hi => ?_⟩
    rw [upL_length] at hi
    rw [← hF i (by omega)]
    exact Below.cellOf hb (h.cell i (by omega))
theorem li_ints {base g o cap k1 : Nat} {l : List Nat} {w : World} (hk : l.length = k1 + 1) (h8 : k1 + 1 ≤ 8) (h : LiSt base g o cap l w) : Ints w (.slice (some ⟨g, o, none⟩) (k1 + 1) cap) (upL l) := by
  have := h.ints (by omega)
  rw [hk] at this
  exact this
def BkRel (W : World) (n : Nat) (iv : Value) (wr : World) : Prop := ∃ k : Nat, k ≤ n ∧ iv = .int .i64 (k : Int) ∧ Below W.heap.size W wr

set_option maxRecDepth 100000 in
set_option maxHeartbeats 8000000 in
theorem back_law (w : World) (sa : Array Value) (co : Nat) (lo ba le : Nat → Nat) (hs : SkA sa co lo ba le) (p q : Nat) (hp : p < 256) (hq : q < 256) : Calls Try.prog 13 #[.agg sa, .int .u8 (p : Int), .int .u8 (q : Int)] w (Ret w (.bool true)) := by
  have HS := Lib.hid hs
  clear hs
  have ew1 : IntKind.i64.wrap (p : Int) = (p : Int) := by rw [IntKind.wrap_i64]; omega
  have ew2 : IntKind.i64.wrap (q : Int) = (q : Int) := by rw [IntKind.wrap_i64]; omega
  go_enter Try.func13, Try.ntmps13
  go_wp2_with (first
    | ((with_reducible show wpList _ _ _ (⟨_, Op.load 52 _, _, _, _, _⟩ :: _) _ _); refine list_load25 rfl _ rfl w.heap.size rfl sa (by exact heap_alloc_new _ _) HS.out.size ?_)
    | (go_at_call 37; refine (made_sl _ sa co lo ba le 8 HS.out (by omega) (by omega)).mono ?_; rintro e w1 ⟨lb, lof, lc, na, nc, fc, L, N, far, next, rfl, hm, hf, h0, hR, hl1, hl8, hlane, hb⟩; (have HM := Lib.hid hm); (have HF := Lib.hid hf); (have H0 := Lib.hid h0); (have HR := Lib.hid hR); clear hm hf h0 hR hlane)
    | ((with_reducible show wpList _ _ _ (⟨_, Op.store 54 _ _, _, _, _, _⟩ :: _) _ _); refine list_sk (by rfl) _ _ (by rfl) (by rfl) (by rfl) (by rfl) HM.out HF.out ?_; intro W hS hBW; (have c0 := hS.c0); (have c1 := hS.c1)))
  have hn0 : ¬ ((L.length : Int) = 0) := by omega
  obtain ⟨a, ha⟩ : ∃ a : Nat, a = p % L.length := ⟨_, rfl⟩
  obtain ⟨b, hb'⟩ : ∃ b : Nat, b = q % L.length := ⟨_, rfl⟩
  have ea : (p : Int).tmod (L.length : Int) = (a : Int) := by rw [ha]; exact (Int.ofNat_tmod p L.length).symm
  have eb : (q : Int).tmod (L.length : Int) = (b : Int) := by rw [hb']; exact (Int.ofNat_tmod q L.length).symm
  have han : a < L.length := by rw [ha]; exact Nat.mod_lt _ (by omega)
  have hbn : b < L.length := by rw [hb']; exact Nat.mod_lt _ (by omega)
  clear ha hb'
  go_quiet (fail)
  have HB1 := Lib.hid ((((Below.refl w.heap.size w).alloc (Nat.le_refl _) (.cells sa 52)).trans (hb.mono (by simp))).trans (hBW.mono (Nat.le_trans (by simp) hb.size)))
  have HS0 := Lib.hid (hS.below (below_drewN (Below.refl W.heap.size W) nq))
  have HB2 := Lib.hid (below_drewN HB1.out nq)
  have c0 := HS0.out.c0
  have c1 := HS0.out.c1
  have HT := Lib.hid (tree_of (valid_of H0.out).lanes (valid_of H0.out).good HR.out)
  have K43 : Hid (∀ w' m x y, Mkt w' m L N → x < L.length → y < L.length → Calls Try.prog 43 #[m, .int .i64 (x : Int), .int .i64 (y : Int)] w' (RetWay w' (wayL far next x y))) := Lib.hid (fun w' m x y hm hx hy => Way_li hm H0.out HR.out hx hy)
  have ha8 : a < 8 := by omega
  have hb8 : b < 8 := by omega
  obtain ⟨WL, hWL⟩ : ∃ l, l = wayL far next a b := ⟨_, rfl⟩
  have HWL := Lib.hid hWL
  have hh := HT.out.wayL_head han hbn
  have hla := HT.out.way_last han hbn
  have hlen := HT.out.way_length han hbn
  rw [← hWL] at hh hla hlen
  have HH := Lib.hid (And.intro hh hla)
  clear hWL hh hla hS hBW hb HB1 HM hn0 ea eb ew1 ew2
  go_wp2_with (first
    | (go_at_call 43; (have HX := HLV); fail)
    | (go_at_call 43; (have HX := HLW); refine (K43.out _ _ _ _ HS1.out.mkt hbn han).mono ?_; rintro e w3 ⟨g2, o2, cap2, k2, rfl, hk2, hlv, hb3⟩; (have HLV := Lib.hid hlv); (have HS2 := Lib.hid (HS1.out.below hb3)); (have c0 := HS2.out.c0); (have c1 := HS2.out.c1))
    | (go_at_call 43; refine (K43.out _ _ _ _ HS0.out.mkt han hbn).mono ?_; rintro e w2 ⟨g1, o1, cap1, k1, rfl, hk1, hlw, hb2⟩; rw [← HWL.out] at hk1 hlw; (have HLW := Lib.hid hlw); (have HS1 := Lib.hid (HS0.out.below hb2)); (have c0 := HS1.out.c0); (have c1 := HS1.out.c1))
    | (go_at_call 45; refine (Far_ok _ _ L N a b far next HS2.out.mkt H0.out HR.out han hbn).mono ?_; rintro e w4 ⟨rfl, hb4⟩; (have HS3 := Lib.hid (HS2.out.below hb4)); (have c0 := HS3.out.c0); (have c1 := HS3.out.c1); (have q0 := HS3.out.dist ha8 hb8); (have HL4 := Lib.hid (HLW.out.below (hb3.trans (hb4.mono hb3.size)))); (have qa : w4.cell? ⟨g1, o1, none⟩ = some (.int .i64 (a : Int)) := HL4.out.at_ HH.out.1); (have qb : w4.cell? ⟨g1, o1 + k1, none⟩ = some (.int .i64 (b : Int)) := HL4.out.at_ (by have := HH.out.2; rw [hk1] at this; exact this))))
  have HB4 := Lib.hid (let e1 := HB2.out.trans (hb2.mono HB2.out.size); let e2 := e1.trans (hb3.mono e1.size); e2.trans (hb4.mono e2.size))
  have HLV4 := Lib.hid (HLV.out.below hb4)
  have HB24 := Lib.hid (hb3.trans (hb4.mono hb3.size))
  have HW2 := Lib.hid (HB2.out.trans (hb2.mono HB2.out.size))
  have hk8 : k1 + 1 ≤ 8 := by omega
  have hcap := HL4.out.hc
  rw [hk1] at hcap
  clear c0 c1 q0 qa qb hb2 hb3 hb4 HLV HS0 HS2 HB2
  go_loopw [104] (BkRel w4 (k1 + 1)) (fun i _ => k1 + 1 - (intOf i).toNat)
  case atStart => exact ⟨0, Nat.zero_le _, rfl, Below.refl _ _⟩
  case round =>
    obtain ⟨k, hk, rfl, hbr⟩ := hrel
    have HBR := Lib.hid hbr
    clear hbr
    have HSR := Lib.hid (HS3.out.below HBR.out)
    have c0 := HSR.out.c0
    have c1 := HSR.out.c1
    by_cases hlt : k < k1 + 1
    · obtain ⟨c, hc⟩ : ∃ c, WL[k]? = some c := ⟨WL[k]'(by omega), List.getElem?_eq_getElem (by omega)⟩
      have HC := Lib.hid hc
      have qc := (HL4.out.below HBR.out).at_ hc
      have hcn : c < L.length := by have := HT.out.wayL_mem han hbn c; rw [← HWL.out] at this; exact (this (List.mem_of_getElem? hc)).1
      have hparts := HT.out.way_parts han hbn k c (by rw [← HWL.out]; exact hc)
      rw [← HWL.out] at hparts
      have hnew := HT.out.way_new han hbn k c (by rw [← HWL.out]; exact hc)
      rw [← HWL.out] at hnew
      have HP := Lib.hid hparts
      have HNW := Lib.hid hnew
      have K59 : Hid (∀ w', Below w4.heap.size w4 w' → Calls Try.prog 59 #[.slice (some ⟨g1, o1, none⟩) k cap1, .int .i64 (c : Int)] w' fun e w'' => e = .returned (.bool false) ∧ w' = w'') := Lib.hid (fun w' hb => by
        have h := contains_any w' _ ((upL WL).take k) c (ints_take (c := 0) (c' := cap1) (HL4.out.below hb).cell (by rw [upL_length]; omega) (by rw [upL_length]; omega))
        rw [decide_eq_false (fun hm => HNW.out (mem_take_up hm))] at h
        exact h)
      have K59q : Hid (∀ w', Below w4.heap.size w4 w' → Calls Try.prog 59 #[.slice (some ⟨g1, o1, none⟩) k cap1, .int .i64 (c : Int)] w' fun e w'' => e = .returned (.bool false) ∧ ∃ m, w'' = w'.drewN m) := Lib.hid (fun w' hb => (K59.out w' hb).mono (fun e w'' ⟨h1, h2⟩ => ⟨h1, 0, h2.symm⟩))
      clear hc hparts hnew
      have hkc : (k : Int) ≤ (cap1 : Int) := by omega
      have hd1 : decide ((c : Int) < 0) = false := decide_eq_false (by omega)
      have hd2 : decide ((L.length : Int) ≤ (c : Int)) = false := decide_eq_false (by omega)
      have hd3 : decide (L.length ≤ c) = false := decide_eq_false (by omega)
      have hi1 : (0 : Int) ≤ (k : Int) := by omega
      have hi2 : (k : Int) < (k1 : Int) + 1 := by omega
      have hi1 : (0 : Int) ≤ (k : Int) := by omega
      have hi2 : (k : Int) < (k1 : Int) + 1 := by omega
      go_wp2_with fail
      go_cut [137] (fun v wx => v = .bool false ∧ Below w4.heap.size w4 wx)
      case first =>
        by_cases hk0 : k = 0
        · have hd6 : decide ((0 : Int) < (k : Int)) = false := decide_eq_false (by omega)
          have hd7 : decide (0 < k) = false := decide_eq_false (by omega)
          clear hk0
          go_big_quiet (first | (go_at_call 59; refine Calls.quiet_of (K59q.out _ (below_drewN HBR.out _))))
          go_wp2_with fail
          go_meet
          exact ⟨rfl, below_drewN HBR.out _⟩
        · obtain ⟨j, hkj⟩ : ∃ j, k = j + 1 := ⟨k - 1, by omega⟩
          obtain ⟨d, hd⟩ : ∃ d, WL[j]? = some d := ⟨WL[j]'(by omega), List.getElem?_eq_getElem (by omega)⟩
          have qd := (HL4.out.below HBR.out).at_ hd
          have hA : Adj N d c := HT.out.way_adj han hbn j d c (by rw [← HWL.out]; exact hd) (by rw [← HWL.out, ← hkj]; exact HC.out)
          obtain ⟨len, hlen⟩ : ∃ len, len = lenK N N.length d c := ⟨_, rfl⟩
          have K58 : Hid (∀ w' m, Mkt w' m L N → Calls Try.prog 58 #[m, .int .i64 (d : Int), .int .i64 (c : Int)] w' (Ret w' (.int .i64 len))) := Lib.hid (fun w' m hm => by rw [hlen]; exact length_ok _ _ L N far next d c hm H0.out HR.out)
          have hlp := adj_pos (valid_of H0.out).good hA
          rw [← hlen] at hlp
          have hle0 : (len == 0) = false := by simp; omega
          subst hkj
          have hd4 : decide ((0 : Int) < (j : Int) + 1) = true := decide_eq_true (by omega)
          have hd5 : (0 : Int) < (j : Int) + 1 := by omega
          have hj0 : (0 : Int) ≤ (j : Int) := by omega
          have hj1 : (j : Int) < (k1 : Int) + 1 := by omega
          have hj2 : IntKind.i64.wrap (j : Int) = (j : Int) := by rw [IntKind.wrap_i64]; omega
          have hj3 : IntKind.i64.wrap ((j : Int) + 1 - 1) = (j : Int) := by rw [IntKind.wrap_i64]; omega
          have hj5 : (0 : Int) ≤ (j : Int) + 1 := by omega
          have hj6 : (j : Int) + 1 ≤ (cap1 : Int) := by omega
          clear hlen hA hd hk0
          go_region_held3 (fun w' => w'.cell? ⟨w1.heap.size, 0, none⟩ = some (.slice (some ⟨lb, lof, none⟩) L.length lc) ∧ w'.cell? ⟨w1.heap.size, 1, none⟩ = some (.slice na N.length nc) ∧ w'.cell? ⟨g1, o1 + j, none⟩ = some (.int .i64 (d : Int)))
            (first | go_keep | (refine ⟨Below.cellOf hb5 ?_, Below.cellOf hb5 ?_, Below.cellOf hb5 ?_⟩ <;> first | assumption | exact And.left (by assumption) | exact And.left (And.right (by assumption)) | exact And.right (And.right (by assumption))))
            (first | (go_at_call 58; refine (K58.out _ _ (HSR.out.mkt.below (Below.refl _ _).drew)).mono ?_; rintro e w5 ⟨rfl, hb5⟩) | (go_at_call 59; refine (K59.out _ (HBR.out.trans (((Below.refl _ _).drew.trans hb5).mono HBR.out.size))).mono ?_; rintro e w6 ⟨rfl, rfl⟩))
          go_wp2_with fail
          go_meet
          exact ⟨rfl, HBR.out.trans (((Below.refl _ _).drew.trans hb5).mono HBR.out.size)⟩
      case rest =>
        obtain ⟨rfl, hcut⟩ := hcut
        have HCUT := Lib.hid hcut
        have HSC := Lib.hid (HS3.out.below hcut)
        have c0 := HSC.out.c0
        have c1 := HSC.out.c1
        clear hcut qc hd2 
        go_wp2_with (first
          | (go_at_call 43; (have HX := HLX); refine (K43.out _ _ _ _ HS5.out.mkt hcn hbn).mono ?_; rintro e w7 ⟨g4, o4, cap4, k4, rfl, hk4, hly, hb7⟩; (have HLY := Lib.hid hly))
          | (go_at_call 43; refine (K43.out _ _ _ _ HSC.out.mkt han hcn).mono ?_; rintro e w6 ⟨g3, o3, cap3, k3, rfl, hk3, hlx, hb6⟩; (have HLX := Lib.hid hlx); (have HS5 := Lib.hid (HSC.out.below hb6)); (have c0 := HS5.out.c0); (have c1 := HS5.out.c1)))
        have HB7 := Lib.hid (HCUT.out.trans ((hb6.trans (hb7.mono hb6.size)).mono HCUT.out.size))
        have HX7 := Lib.hid (HLX.out.below hb7)
        have q1 := (HS5.out.below hb7).dist (x := a) (y := c) (by omega) (by omega)
        have q2 := (HS5.out.below hb7).dist (x := c) (y := b) (by omega) (by omega)
        have hc8 : c < 8 := by omega
        have f1 := HT.out.nonneg a c han hcn
        have f2 := HT.out.nonneg c b hcn hbn
        have fs : far a c + far c b = far a b := HP.out.2.2
        have fw : IntKind.i64.wrap (far a c + far c b) = far a c + far c b := by rw [IntKind.wrap_i64]; omega
        have fe : ((far a c + far c b) != far a b) = false := by simp; omega
        have FS := Lib.hid fs
        have t1 : upL (wayL far next a c) = (upL WL).take (k + 1) := by rw [← HP.out.1]; unfold upL; rw [List.map_take]
        have t2 : upL (wayL far next c b) = (upL WL).drop k := by rw [← HP.out.2.1]; unfold upL; rw [List.map_drop]
        have I1 : Hid (∀ w', Below w7.heap.size w7 w' → Calls Try.prog 24 #[.slice (some ⟨g3, o3, none⟩) (k3 + 1) cap3, .slice (some ⟨g1, o1, none⟩) (k + 1) cap1] w' (Ret w' (.bool true))) := Lib.hid (fun w' hb => by
          have i1 := (HX7.out.below hb).ints (by rw [hk3]; have := HT.out.way_length han hcn; omega)
          rw [hk3] at i1
          refine same_yes _ _ _ (upL (wayL far next a c)) i1 ?_
          rw [t1]
          exact ints_take (c := 0) ((HL4.out.below HB7.out).below hb).cell (by rw [upL_length]; omega) (by rw [upL_length]; omega))
        have I2 : Hid (∀ w', Below w7.heap.size w7 w' → Calls Try.prog 24 #[.slice (some ⟨g4, o4, none⟩) (k4 + 1) cap4, .slice (some ⟨g1, o1 + k, none⟩) (k1 + 1 - k) (cap1 - k)] w' (Ret w' (.bool true))) := Lib.hid (fun w' hb => by
          have i1 := (HLY.out.below hb).ints (by rw [hk4]; have := HT.out.way_length hcn hbn; omega)
          rw [hk4] at i1
          refine same_yes _ _ _ (upL (wayL far next c b)) i1 ?_
          rw [t2]
          have h := ints_drop (i := k) (c' := cap1 - k) ((HL4.out.below HB7.out).below hb).cell (by rw [upL_length]; omega) (by rw [upL_length]; omega)
          rw [upL_length, hk1] at h
          exact h)
        have hs1 : IntKind.i64.wrap ((k : Int) + 1) = (k : Int) + 1 := by rw [IntKind.wrap_i64]; omega
        have hs2 : (0 : Int) ≤ (k : Int) + 1 := by omega
        have hs3 : (k : Int) + 1 ≤ (cap1 : Int) := by omega
        have hs5 : (k : Int) ≤ (k1 : Int) + 1 := by omega
        have hs6 : ¬ (cap1 = k) := by omega
        have hs7 : ¬ (cap1 - k = 0) := by omega
        have hs8 : ((k : Int) + 1).toNat = k + 1 := by omega
        have a1 : (0 : Int) ≤ (a : Int) := by omega
        have a2 : (a : Int) < 8 := by omega
        have a3 : (b : Int) < 8 := by omega
        have a4 : (0 : Int) ≤ (b : Int) := by omega
        have a5 : (c : Int) < 8 := by omega
        have a6 : (0 : Int) ≤ (c : Int) := by omega
        clear c0 c1 t1 t2 fs hlx hly
        go_wp2_with fail
        go_region_held3 (fun w' => w'.cell? ⟨w1.heap.size + 1, a * 8 + c, none⟩ = some (.int .i64 (far a c)) ∧ w'.cell? ⟨w1.heap.size + 1, c * 8 + b, none⟩ = some (.int .i64 (far c b)))
          (first | go_keep | (refine ⟨Below.cellOf hb8 ?_, Below.cellOf hb8 ?_⟩ <;> first | assumption | exact And.left (by assumption) | exact And.right (by assumption)) | (refine ⟨Below.cellOf hb9 ?_, Below.cellOf hb9 ?_⟩ <;> first | assumption | exact And.left (by assumption) | exact And.right (by assumption)))
          (first | (go_at_call 24; (have HX := hb8); refine (I2.out _ ((Below.refl _ _).drew.trans hb8)).mono ?_; rintro e w9 ⟨rfl, hb9⟩) | (go_at_call 24; refine (I1.out _ (Below.refl _ _).drew).mono ?_; rintro e w8 ⟨rfl, hb8⟩))
        go_wp2
        go_roundw
        case rel =>
          have e1 : Below w7.heap.size w7 w8 := (Below.refl w7.heap.size w7).drew.trans hb8
          have e2 : Below w7.heap.size w7 w9 := e1.trans (hb9.mono e1.size)
          (repeat apply Exists.intro)
          exact ⟨⟨k + 1, by omega, by go_num, HB7.out.trans (e2.mono HB7.out.size)⟩, rfl⟩
        case measure => simp [intOf]; omega
    · obtain rfl : k = k1 + 1 := by omega
      have HW7 := Lib.hid (HB24.out.trans (HBR.out.mono HB24.out.size))
      obtain ⟨VL, hVL⟩ : ∃ l, l = wayL far next b a := ⟨_, rfl⟩
      have hrev : VL = WL.reverse := by rw [hVL, HWL.out]; exact (HT.out.way_back han hbn).symm
      rw [← hVL] at hk2
      have hlv := HLV4.out.below HBR.out
      rw [← hVL] at hlv
      have hk12 : k2 = k1 := by rw [hrev, List.length_reverse] at hk2; omega
      have hrv : RvSt g2 o2 (k2 + 1) (gI (upL VL)) wr := ⟨fun t ht => hlv.cell t (by rw [upL_length, hk2]; exact ht), fun t ht => hlv.free t (by rw [upL_length, hk2]; exact ht)⟩
      have hrg : ∀ t, t < k1 + 1 → gI (upL VL) (k2 + 1 - 1 - t) = gI (upL WL) t := fun t ht => by
        rw [gI_upL (show k2 + 1 - 1 - t < VL.length by omega), gI_upL (show t < WL.length by omega)]
        congr 1
        have h1 : VL[k2 + 1 - 1 - t]? = WL[t]? := by
          rw [hrev, List.getElem?_reverse (by omega)]
          congr 1
          omega
        rw [List.getElem?_eq_getElem (show k2 + 1 - 1 - t < VL.length by omega), List.getElem?_eq_getElem (show t < WL.length by omega)] at h1
        exact Option.some.inj h1
      have K62 : Hid (Calls Try.prog 62 #[.slice (some ⟨g2, o2, none⟩) (k2 + 1) cap2] wr fun e w' => e = .returned (.tuple #[]) ∧ RvSt g2 o2 (k2 + 1) (fun t => gI (upL VL) (k2 + 1 - 1 - t)) w' ∧ Below w2.heap.size wr w') := Lib.hid (reverse_any wr w2.heap.size g2 o2 (k2 + 1) cap2 (gI (upL VL)) hlv.hg (by omega) (by omega) hrv HW7.out.size)
      have HRG := Lib.hid hrg
      have hcode : laidCode L N [(a : Int), (L.length : Int)] = 2 := by
        rw [laidCode_ok H0.out]
        unfold cornersCode
        rw [if_neg]
        intro h
        have h2 := (h 1 (by simp)).2
        have e : gI [(a : Int), (L.length : Int)] 1 = (L.length : Int) := rfl
        rw [e] at h2
        omega
      have HCD := Lib.hid hcode
      have HK12 := Lib.hid hk12
      have HK2 := Lib.hid hk2
      have HK1 := Lib.hid hk1
      clear hk12 hk2 hk1 hcode hrg hrv hrev hVL hlv
      go_wp2_with (first
        | (go_at_call 62; refine K62.out.mono ?_; rintro e w7 ⟨rfl, hrv2, hb7⟩; (have HB7 := Lib.hid (HW7.out.trans hb7)); (have HRV := Lib.hid hrv2); (have HS7 := Lib.hid (HS1.out.below HB7.out)); (have c0 := HS7.out.c0); (have c1 := HS7.out.c1))
        | (go_at_call 43; refine (Way_bad _ _ L N (a : Int) (L.length : Int) 2 HS7.out.mkt HCD.out (by decide)).mono ?_; rintro e w8 ⟨rfl, hb8⟩)
        | (go_at_call 24; refine (same_yes _ _ _ (upL WL) (by exact (rv_ints (F := gI (upL VL)) HK1.out HK12.out HRG.out HRV.out hb8).resolve_right (by omega)) (by exact li_ints HK1.out hk8 ((HLW.out.below HB7.out).below hb8))).mono ?_; rintro e w9 ⟨rfl, hb9⟩)
        | (go_at_call 17; refine (works_ok _).mono ?_; rintro e w10 ⟨rfl, hb10⟩))
      go_ret
      have e1 := HW2.out.trans (HB7.out.mono HW2.out.size)
      have e2 := e1.trans (hb8.mono e1.size)
      have e3 := e2.trans (hb9.mono e2.size)
      exact ⟨rfl, e3.trans (hb10.mono e3.size)⟩
end Go.Proofs.Ytkhkgmelicdpkaa
