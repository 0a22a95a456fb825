/- The law's example markets: their ways, and how far. -/
import Derived.Test.YtkhkgmelicdpkaaY
set_option linter.unusedVariables false
set_option linter.unusedSimpArgs false
namespace Go.Proofs.Ytkhkgmelicdpkaa
open Go.RowKit

def farT (c k : Nat) : Int := if c < k then (k : Int) - c else (c : Int) - k
def nextT (v c : Nat) : Nat := if v < c then v + 1 else if c < v then v - 1 else c
def farS (c k : Nat) : Int := if c = k then 0 else (c : Int) + k
def nextS (v c : Nat) : Nat := if v = c then c else if v = 0 then c else 0
def farU (c k : Nat) : Int := if c = k then 0 else 5
def nextU (v c : Nat) : Nat := c

theorem all_rooted_of {n : Nat} {N : List Lane} {far : Nat → Nat → Int} {next : Nat → Nat → Nat} (h : ∀ c, c < n → (next c c = c ∧ far c c = 0) ∧ (∀ k, k < n → 0 ≤ far c k ∧ far c k ≤ 72) ∧ (∀ k, k < n → k ≠ c → next k c < n ∧ (nearK N N.length (next k c)).testBit k = true ∧ far c k = far c (next k c) + lenK N N.length (next k c) k)) : AllRooted n N far next :=
  fun c hc => ⟨(h c hc).1, (h c hc).2.1, (h c hc).2.2⟩
theorem rootT : AllRooted LT.length NT farT nextT := all_rooted_of (by decide +kernel)
theorem rootS : AllRooted LS.length NS farS nextS := all_rooted_of (by decide +kernel)
theorem rootU : AllRooted LU.length NU farU nextU := all_rooted_of (by decide +kernel)
/-- A market whose corners all have ways to corner 0 has no error. -/
theorem code_zero {L : List Int} {N : List Lane} {far : Nat → Nat → Int} {next : Nat → Nat → Nat} (h1 : headCode L N = 0) (h2 : lanesCode L.length N N.length = 0) (hp : 0 < L.length) (hR : AllRooted L.length N far next) (hd : ∀ j, j < L.length → j ≠ 0 → (far 0 (next j 0)).toNat < (far 0 j).toNat) : checkCode L N = 0 := by
  have H := hR 0 hp
  have hA : AllFrom L.length (nearK N N.length) 0 := by
    intro S hS hst
    have key : ∀ m : Nat, ∀ k, k < L.length → (far 0 k).toNat ≤ m → S k := by
      intro m
      induction m with
      | zero =>
        intro k hk hm
        by_cases hk0 : k = 0
        · rw [hk0]; exact hS
        · have := hd k hk hk0; omega
      | succ m ih =>
        intro k hk hm
        by_cases hk0 : k = 0
        · rw [hk0]; exact hS
        · have h3 := H.tree k hk hk0
          exact hst _ _ h3.1 hk (ih _ h3.1 (by have := hd k hk hk0; omega)) h3.2.1
    exact fun k hk => key _ k hk (Nat.le_refl _)
  unfold checkCode
  rw [if_neg (by rw [h1]; simp), if_neg (by rw [h2]; simp), if_pos hA]
theorem codeT : checkCode LT NT = 0 := code_zero (by decide) (by decide) (by decide) rootT (by decide +kernel)
theorem codeS : checkCode LS NS = 0 := code_zero (by decide) (by decide) (by decide) rootS (by decide +kernel)
theorem codeU : checkCode LU NU = 0 := code_zero (by decide) (by decide) (by decide) rootU (by decide +kernel)
theorem evals : wayD nextS (fun v => (farS 3 v).toNat) 3 2 = [2, 0, 3] ∧ costF LT farT (2 ^ 0) = 9 ∧ smallF (radF farT LT.length) LT.length = [1, 2] ∧ longList (longN farS nextS LS.length (begF (radF farS LS.length) LS.length) LS.length) = [2, 0, 3] ∧ bestList (bestN LS farS 2 (2 ^ LS.length)) = [0, 3] ∧ mxF (farT 1) (LT.length - 1) = 2 ∧ (List.range LT.length).filter (lightB LT nextT (nearK NT NT.length)) = [3] := by decide +kernel
end Go.Proofs.Ytkhkgmelicdpkaa
