/- Plain facts on the search from one corner: what holds while corners are met, and at its end. No program, no memory. -/
import Derived.Test.YtkhkgmelicdpkaaM
set_option linter.unusedVariables false
set_option linter.unusedSimpArgs false
namespace Go.Proofs.Ytkhkgmelicdpkaa

/-- How many of the first eight bits are set. -/
def popc (m : Nat) : Nat := (if m.testBit 0 then 1 else 0) + (if m.testBit 1 then 1 else 0) + (if m.testBit 2 then 1 else 0) + (if m.testBit 3 then 1 else 0) + (if m.testBit 4 then 1 else 0) + (if m.testBit 5 then 1 else 0) + (if m.testBit 6 then 1 else 0) + (if m.testBit 7 then 1 else 0)
theorem popc_le (m : Nat) : popc m ≤ 8 := by unfold popc; repeat' split
                                             all_goals omega
theorem popc_add : ∀ m, m < 256 → ∀ k, k < 8 → m.testBit k = false → popc (m ||| 2 ^ k) = popc m + 1 ∧ m ||| 2 ^ k < 256 := by decide +kernel
theorem popc_full : ∀ n, n ≤ 8 → ∀ m, m < 256 → (∀ k, k < 8 → m.testBit k = true → k < n) → (popc m = n ↔ ∀ k, k < n → m.testBit k = true) := by decide +kernel
theorem popc_pow : ∀ k, k < 8 → popc (2 ^ k) = 1 ∧ 2 ^ k < 256 := by decide +kernel
theorem testBit_or_pow (m k j : Nat) : (m ||| 2 ^ k).testBit j = (m.testBit j || decide (k = j)) := by
  rw [Nat.testBit_or, Nat.testBit_two_pow]
theorem testBit_lt8 {m k : Nat} (hm : m < 256) (h : m.testBit k = true) : k < 8 := by
  rcases Nat.lt_or_ge k 8 with h8 | h8
  · exact h8
  · have : m < 2 ^ k := Nat.lt_of_lt_of_le hm (Nat.pow_le_pow_right (by omega) h8 : 2 ^ 8 ≤ 2 ^ k)
    rw [Nat.testBit_lt_two_pow this] at h
    cases h


/-- While the corners are met that can be reached from c. X: what is still to be looked at of the corner at hand. -/
structure Bfs (n : Nat) (len : Nat → Nat → Int) (near : Nat → Nat) (c m : Nat) (Q : List Nat) (X : Nat → Nat → Prop) (fr : Nat → Int) (nx : Nat → Nat) : Prop where
  small : m < 256
  lt : ∀ k, m.testBit k = true → k < n
  root : m.testBit c = true
  queue : ∀ q, q ∈ Q → m.testBit q = true
  closed : ∀ v, m.testBit v = true → v ∉ Q → ∀ k, k < n → (near v).testBit k = true → X v k ∨ m.testBit k = true
  tree : ∀ k, m.testBit k = true → (k = c ∧ nx k = c ∧ fr k = 0) ∨ (k ≠ c ∧ m.testBit (nx k) = true ∧ (near (nx k)).testBit k = true ∧ fr k = fr (nx k) + len (nx k) k)
  bound : ∀ k, m.testBit k = true → 0 ≤ fr k ∧ fr k ≤ 9 * (popc m : Int)
  reach : ∀ S : Nat → Prop, S c → (∀ x y, x < n → y < n → S x → (near x).testBit y = true → S y) → ∀ k, m.testBit k = true → S k

section
variable {n : Nat} {len : Nat → Nat → Int} {near : Nat → Nat} {c m : Nat} {Q : List Nat} {X : Nat → Nat → Prop} {fr : Nat → Int} {nx : Nat → Nat}

theorem Bfs.start (hc : c < n) (hn : n ≤ 8) (h0 : fr c = 0) (hx : nx c = c) : Bfs n len near c (2 ^ c) [c] (fun _ _ => False) fr nx := by
  have tb : ∀ k, (2 ^ c).testBit k = true → k = c := fun k hk => by
    rw [Nat.testBit_two_pow] at hk
    simpa using (of_decide_eq_true hk).symm
  have hp := popc_pow c (by omega)
  refine ⟨hp.2, fun k hk => by rw [tb k hk]; exact hc, by rw [Nat.testBit_two_pow]; simp, ?_, ?_, ?_, ?_, ?_⟩
  · intro q hq
    simp at hq
    rw [hq, Nat.testBit_two_pow]
    simp
  · intro v hv hq
    rw [tb v hv] at hq
    simp at hq
  · intro k hk
    rw [tb k hk]
    exact .inl ⟨rfl, hx, h0⟩
  · intro k hk
    rw [tb k hk, h0, hp.1]
    omega
  · intro S hS _ k hk
    rw [tb k hk]
    exact hS

theorem Bfs.pop {q : Nat} (h : Bfs n len near c m (q :: Q) (fun _ _ => False) fr nx) : Bfs n len near c m Q (fun v k => v = q ∧ 0 ≤ k) fr nx := by
  refine ⟨h.small, h.lt, h.root, fun x hx => h.queue x (by simp [hx]), ?_, h.tree, h.bound, h.reach⟩
  intro v hv hq k hk hn
  by_cases e : v = q
  · exact .inl ⟨e, Nat.zero_le _⟩
  · rcases h.closed v hv (by simp [hq, e]) k hk hn with hf | hm
    · exact hf.elim
    · exact .inr hm

theorem Bfs.skip {q j : Nat} (h : Bfs n len near c m Q (fun v k => v = q ∧ j ≤ k) fr nx) (hs : (near q).testBit j = false ∨ m.testBit j = true) : Bfs n len near c m Q (fun v k => v = q ∧ j + 1 ≤ k) fr nx := by
  refine ⟨h.small, h.lt, h.root, h.queue, ?_, h.tree, h.bound, h.reach⟩
  intro v hv hq k hk hn
  rcases h.closed v hv hq k hk hn with ⟨rfl, hjk⟩ | hm
  · by_cases e : j = k
    · subst e
      rcases hs with hs | hs
      · rw [hs] at hn; cases hn
      · exact .inr hs
    · exact .inl ⟨rfl, by omega⟩
  · exact .inr hm

theorem Bfs.add {q j : Nat} (h : Bfs n len near c m Q (fun v k => v = q ∧ j ≤ k) fr nx) (hj : j < n) (hn : n ≤ 8) (hq : m.testBit q = true) (hnear : (near q).testBit j = true) (hmet : m.testBit j = false) (hlen : 0 ≤ len q j ∧ len q j ≤ 9) :
    Bfs n len near c (m ||| 2 ^ j) (Q ++ [j]) (fun v k => v = q ∧ j + 1 ≤ k) (upd fr j (fr q + len q j)) (upd nx j q) := by
  have hp := popc_add m h.small j (by omega) hmet
  have tb : ∀ k, (m ||| 2 ^ j).testBit k = true ↔ m.testBit k = true ∨ j = k := fun k => by rw [testBit_or_pow]; simp
  have nej : ∀ k, m.testBit k = true → k ≠ j := fun k hk e => by rw [e, hmet] at hk; cases hk
  refine ⟨hp.2, ?_, (tb c).2 (.inl h.root), ?_, ?_, ?_, ?_, ?_⟩
  · intro k hk
    rcases (tb k).1 hk with hk | rfl
    · exact h.lt k hk
    · exact hj
  · intro x hx
    rcases List.mem_append.1 hx with hx | hx
    · exact (tb x).2 (.inl (h.queue x hx))
    · simp at hx
      exact (tb x).2 (.inr hx.symm)
  · intro v hv hvq k hk hnk
    have hvq' : v ∉ Q := fun hx => hvq (List.mem_append.2 (.inl hx))
    have hvj : v ≠ j := fun e => hvq (by simp [e])
    rcases (tb v).1 hv with hv | e
    · rcases h.closed v hv hvq' k hk hnk with ⟨rfl, hjk⟩ | hm
      · by_cases e : j = k
        · exact .inr ((tb k).2 (.inr e))
        · exact .inl ⟨rfl, by omega⟩
      · exact .inr ((tb k).2 (.inl hm))
    · exact absurd e.symm hvj
  · intro k hk
    rcases (tb k).1 hk with hk | rfl
    · have hkj := nej k hk
      simp only [upd, if_neg hkj]
      rcases h.tree k hk with h1 | ⟨h1, h2, h3, h4⟩
      · exact .inl h1
      · rw [if_neg (nej _ h2)]
        exact .inr ⟨h1, (tb _).2 (.inl h2), h3, h4⟩
    · refine .inr ⟨fun e => ?_, ?_, ?_, ?_⟩
      · rw [e] at hmet
        rw [h.root] at hmet
        cases hmet
      · simp only [upd, if_true]
        exact (tb q).2 (.inl hq)
      · simp only [upd, if_true]
        exact hnear
      · simp only [upd, if_true, if_neg (nej q hq)]
  · intro k hk
    have hb := h.bound q hq
    rw [hp.1]
    rcases (tb k).1 hk with hk | rfl
    · have := h.bound k hk
      simp only [upd, if_neg (nej k hk)]
      omega
    · simp only [upd, if_true]
      omega
  · intro S hS hcl k hk
    rcases (tb k).1 hk with hk | rfl
    · exact h.reach S hS hcl k hk
    · exact hcl q j (h.lt q hq) hj (h.reach S hS hcl q hq) hnear

theorem Bfs.done {q : Nat} (h : Bfs n len near c m Q (fun v k => v = q ∧ n ≤ k) fr nx) : Bfs n len near c m Q (fun _ _ => False) fr nx := by
  refine ⟨h.small, h.lt, h.root, h.queue, ?_, h.tree, h.bound, h.reach⟩
  intro v hv hq k hk hn
  rcases h.closed v hv hq k hk hn with ⟨_, hjk⟩ | hm
  · omega
  · exact .inr hm

/-- What a search from c that meets all corners leaves. -/
structure Rooted (n : Nat) (len : Nat → Nat → Int) (near : Nat → Nat) (c : Nat) (fr : Nat → Int) (nx : Nat → Nat) : Prop where
  root : nx c = c ∧ fr c = 0
  bound : ∀ k, k < n → 0 ≤ fr k ∧ fr k ≤ 72
  tree : ∀ k, k < n → k ≠ c → nx k < n ∧ (near (nx k)).testBit k = true ∧ fr k = fr (nx k) + len (nx k) k

/-- All corners can be reached from c. -/
def AllFrom (n : Nat) (near : Nat → Nat) (c : Nat) : Prop := ∀ S : Nat → Prop, S c → (∀ x y, x < n → y < n → S x → (near x).testBit y = true → S y) → ∀ k, k < n → S k

theorem Bfs.yes (h : Bfs n len near c m [] (fun _ _ => False) fr nx) (hc : c < n) (hn : n ≤ 8) (hp : popc m = n) : Rooted n len near c fr nx ∧ AllFrom n near c := by
  have hall := (popc_full n hn m h.small (fun k _ hk => h.lt k hk)).1 hp
  refine ⟨⟨?_, ?_, ?_⟩, fun S hS hcl k hk => h.reach S hS hcl k (hall k hk)⟩
  · rcases h.tree c (hall c hc) with ⟨_, h1, h2⟩ | ⟨h1, _⟩
    · exact ⟨h1, h2⟩
    · exact absurd rfl h1
  · intro k hk
    have := h.bound k (hall k hk)
    have := popc_le m
    omega
  · intro k hk hkc
    rcases h.tree k (hall k hk) with ⟨h1, _⟩ | ⟨_, h2, h3, h4⟩
    · exact absurd h1 hkc
    · exact ⟨h.lt _ h2, h3, h4⟩

theorem Bfs.no (h : Bfs n len near c m [] (fun _ _ => False) fr nx) (hn : n ≤ 8) (hp : popc m ≠ n) : ¬ AllFrom n near c := by
  intro hA
  refine hp ((popc_full n hn m h.small (fun k _ hk => h.lt k hk)).2 (fun k hk => ?_))
  refine hA (fun x => m.testBit x = true) h.root (fun x y hx hy hsx hxy => ?_) k hk
  rcases h.closed x hsx (by simp) y hy hxy with hf | hm
  · exact hf.elim
  · exact hm
end
end Go.Proofs.Ytkhkgmelicdpkaa
