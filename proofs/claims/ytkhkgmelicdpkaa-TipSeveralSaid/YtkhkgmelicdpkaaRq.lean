/- A region that draws its order, whose operations and callees yield one value in every world of a class: the class 'S'. No statement of the seat is proved here. -/
import Derived.Test.YtkhkgmelicdpkaaRb
import Derived.BigQuiet
set_option linter.unusedVariables false
set_option linter.unusedSimpArgs false
namespace Go.Proofs.Ytkhkgmelicdpkaa
open Go.RowKit

/-- A world that meets S. -/
structure HeldW (S : World → Prop) where
  w : World
  h : S w
/-- The lexical walk serves every order, if each operation yields one value in every world that meets S, and each callee too, leaving S. -/
theorem wp_region_class {P : Program} {id : Nat} {Q : Exit → Act → World → Prop} {a : Act} {w : World} {l : List Oper} (S : World → Prop) (hm : P.follows .mixedOrders = true) (hB : Region.lexB .any l.toArray = true) (hS : S { w with drawn := w.drawn + 1 })
    (h : wpQuiet P l.toArray (fun w' => ∃ g : HeldW S, w' = g.w) (fun a' => ∀ w', (∃ g : HeldW S, w' = g.w) → Q .normal a' w') l a) : (Code.region id l.toArray true).wp P Q a w :=
  wp_region_quiet (C := fun w' => ∃ g : HeldW S, w' = g.w) hm hB ⟨⟨_, hS⟩, rfl⟩ (by simpa using h)
/-- The rest of a region, in the same way. -/
theorem wpAny_class {P : Program} {md : Region.Mode} {Q : Exit → Act → World → Prop} {a : Act} {w : World} {l rest : List Oper} {k fuel : Nat} {listed : Array Bool} (S : World → Prop) (hs : Region.noSelect l.toArray = true) (hd : l.drop k = rest) (hf : fuel = rest.length) (hB : Region.lexFrom md l.toArray rest.length k listed = true) (hS : S w)
    (h : wpQuiet P l.toArray (fun w' => ∃ g : HeldW S, w' = g.w) (fun a' => ∀ w', (∃ g : HeldW S, w' = g.w) → Q .normal a' w') rest a) : wpAny P md l.toArray Q fuel listed a w := by
  subst hf
  exact wpAny_of_quiet (C := fun w' => ∃ g : HeldW S, w' = g.w) (Q := fun a' => ∀ w', (∃ g : HeldW S, w' = g.w) → Q .normal a' w') (fun _ w' hw' h => h w' hw') _ _ _ _ ⟨⟨_, hS⟩, rfl⟩
    (wpAnyQ_lex hs rest k listed a (fun j => by rw [← hd]; simp) hB h)
/-- A callee's contract, met in a world that meets S. -/
theorem Calls.class_of {P : Program} {f : FuncId} {args : Array Value} {w : World} {S : World → Prop} {v : Value}
    (h : Calls P f args w fun e w' => e = .returned v ∧ S w') : Calls P f args w fun e w'' => e = .returned v ∧ ∃ g : HeldW S, w'' = g.w :=
  h.mono fun _ w' ⟨he, hw⟩ => ⟨he, ⟨w', hw⟩, rfl⟩
/-- The class of all worlds in which the old blocks are as in w. -/
abbrev Later (w : World) : World → Prop := Below w.heap.size w
instance (w : World) : Nonempty (HeldW (Later w)) := ⟨⟨w, Below.refl _ _⟩⟩
theorem Later.cell {w : World} {p : Addr} {v : Value} (h : w.cell? p = some v) (g : HeldW (Later w)) : g.w.cell? p = some v := Below.cellOf g.h h
theorem Later.mkt {w : World} {m : Value} {L : List Int} {N : List Lane} (h : Mkt w m L N) (g : HeldW (Later w)) : Mkt g.w m L N := h.below g.h
theorem Later.ints {w : World} {v : Value} {xs : List Int} (h : Ints w v xs) (g : HeldW (Later w)) : Ints g.w v xs := h.below g.h
theorem Calls.later {P : Program} {f : FuncId} {args : Array Value} {w : World} {v : Value} (g : HeldW (Later w))
    (h : Calls P f args g.w fun e w' => e = .returned v ∧ Below g.w.heap.size g.w w') : Calls P f args g.w fun e w'' => e = .returned v ∧ ∃ g' : HeldW (Later w), w'' = g'.w :=
  Calls.class_of (h.mono fun _ w' ⟨he, hw⟩ => ⟨he, Below.trans g.h (hw.mono g.h.size)⟩)
theorem Calls.later_same {P : Program} {f : FuncId} {args : Array Value} {w : World} {v : Value} (g : HeldW (Later w))
    (h : Calls P f args g.w fun e w' => e = .returned v ∧ g.w = w') : Calls P f args g.w fun e w'' => e = .returned v ∧ ∃ g' : HeldW (Later w), w'' = g'.w :=
  h.mono fun _ w' ⟨he, hw⟩ => ⟨he, g, hw.symm⟩
end Go.Proofs.Ytkhkgmelicdpkaa
