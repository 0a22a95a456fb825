/-
  No cell of these rows narrows 'for every input' (looked for: loops, veiled, ifaces, maps, wideKeys, modest, calm, conditions, laid).
  DERIVED. THE GIVEN ROWS OF THIS SEAT. 13 by the template 'for every input the law returns true; each argument reads behind the call as it read before'; 0 by the template 'total and deterministic' (their statements: YtkhkgmelicdpkaaTotals.lean).
  GIVEN WITH THE SEED: the statements are not yours to turn. If you find one false, say at which input.
  Laid BY PROGRAM, IN A SANDBOX (cutbox-rows.mjs): the forced cells as the released guide's own fill.sh prints them over the translation 5d9b38f2207247fb… (all of the seat's roots in one cut). By AI agents, Wed Nov 11 2026. No macro, syntax, notation, axiom, sorry.
-/
import Derived.Test.YtkhkgmelicdpkaaChecked
import GoSem.Claim
import GoSem.ClaimJoined
import GoSem.ClaimMapViews
import Derived.JoinedTies
import Derived.KernelRfl
namespace Go.Proofs.Ytkhkgmelicdpkaa
/- THE CELL 'sum', in the pinned program and in every row, IS THE sha256 OF THE DUMP (.gsa) THAT YtkhkgmelicdpkaaProg.lean LOADS. Nothing in Lean hashes anything: it is a label: what it is worth is what the hold of that sum in a sandbox is worth. -/
noncomputable def Try.pinned : Pinned := { name := "ytkhkgmelicdpkaa", sum := "5d9b38f2207247fb947ba3c127ead18e065a0d5198563a6748d784287618f514", checked := Try.checked }
namespace Rows
def none {H : Type} : Left H := { results := [], args := [] }

/-- 'breezelaw09.TipBranches': WHATEVER THE INPUT: true; the input reads as it did. -/
def tipBranchesSpec : ChangeSpec := { name := "tipBranches", fn := fun _ => fun
  | [d1, d2, d3] => { results := [.lit (.bool true)], args := [d1, d2, d3] }
  | _ => none }
def tipBranchesRow : OpenClaim := { program := "ytkhkgmelicdpkaa", sum := "5d9b38f2207247fb947ba3c127ead18e065a0d5198563a6748d784287618f514", func := "breeze/breezelaw09.TipBranches", spec := "tipBranches", recurses := true, apart := false }
def TipBranchesSaid : Prop := tipBranchesRow.holds Try.pinned (OpenSpec.ofChange tipBranchesSpec)

/-- ITS FALSE NEIGHBOUR: 'it returns false'. Refute it at one input. -/
def tipBranchesWrong : ChangeSpec := { name := "tipBranches", fn := fun _ => fun
  | [d1, d2, d3] => { results := [.lit (.bool false)], args := [d1, d2, d3] }
  | _ => none }
def TipBranchesWrongFalsely : Prop := tipBranchesRow.holds Try.pinned (OpenSpec.ofChange tipBranchesWrong)

/-- 'breezelaw09.TipCentres': WHATEVER THE INPUT: true; the input reads as it did. -/
def tipCentresSpec : ChangeSpec := { name := "tipCentres", fn := fun _ => fun
  | [d1, d2, d3] => { results := [.lit (.bool true)], args := [d1, d2, d3] }
  | _ => none }
def tipCentresRow : OpenClaim := { program := "ytkhkgmelicdpkaa", sum := "5d9b38f2207247fb947ba3c127ead18e065a0d5198563a6748d784287618f514", func := "breeze/breezelaw09.TipCentres", spec := "tipCentres", recurses := true, apart := false }
def TipCentresSaid : Prop := tipCentresRow.holds Try.pinned (OpenSpec.ofChange tipCentresSpec)

/-- ITS FALSE NEIGHBOUR: 'it returns false'. Refute it at one input. -/
def tipCentresWrong : ChangeSpec := { name := "tipCentres", fn := fun _ => fun
  | [d1, d2, d3] => { results := [.lit (.bool false)], args := [d1, d2, d3] }
  | _ => none }
def TipCentresWrongFalsely : Prop := tipCentresRow.holds Try.pinned (OpenSpec.ofChange tipCentresWrong)

/-- 'breezelaw09.TipSeveral': WHATEVER THE INPUT: true; the input reads as it did. -/
def tipSeveralSpec : ChangeSpec := { name := "tipSeveral", fn := fun _ => fun
  | [d1, d2, d3] => { results := [.lit (.bool true)], args := [d1, d2, d3] }
  | _ => none }
def tipSeveralRow : OpenClaim := { program := "ytkhkgmelicdpkaa", sum := "5d9b38f2207247fb947ba3c127ead18e065a0d5198563a6748d784287618f514", func := "breeze/breezelaw09.TipSeveral", spec := "tipSeveral", recurses := true, apart := false }
def TipSeveralSaid : Prop := tipSeveralRow.holds Try.pinned (OpenSpec.ofChange tipSeveralSpec)

/-- ITS FALSE NEIGHBOUR: 'it returns false'. Refute it at one input. -/
def tipSeveralWrong : ChangeSpec := { name := "tipSeveral", fn := fun _ => fun
  | [d1, d2, d3] => { results := [.lit (.bool false)], args := [d1, d2, d3] }
  | _ => none }
def TipSeveralWrongFalsely : Prop := tipSeveralRow.holds Try.pinned (OpenSpec.ofChange tipSeveralWrong)

/-- 'breezelaw09.TipSteps': WHATEVER THE INPUT: true; the input reads as it did. -/
def tipStepsSpec : ChangeSpec := { name := "tipSteps", fn := fun _ => fun
  | [d] => { results := [.lit (.bool true)], args := [d] }
  | _ => none }
def tipStepsRow : OpenClaim := { program := "ytkhkgmelicdpkaa", sum := "5d9b38f2207247fb947ba3c127ead18e065a0d5198563a6748d784287618f514", func := "breeze/breezelaw09.TipSteps", spec := "tipSteps", apart := false }
def TipStepsSaid : Prop := tipStepsRow.holds Try.pinned (OpenSpec.ofChange tipStepsSpec)

/-- ITS FALSE NEIGHBOUR: 'it returns false'. Refute it at one input. -/
def tipStepsWrong : ChangeSpec := { name := "tipSteps", fn := fun _ => fun
  | [d] => { results := [.lit (.bool false)], args := [d] }
  | _ => none }
def TipStepsWrongFalsely : Prop := tipStepsRow.holds Try.pinned (OpenSpec.ofChange tipStepsWrong)

/-- 'breezelaw09.TipBest': WHATEVER THE INPUT: true; the input reads as it did. -/
def tipBestSpec : ChangeSpec := { name := "tipBest", fn := fun _ => fun
  | [d] => { results := [.lit (.bool true)], args := [d] }
  | _ => none }
def tipBestRow : OpenClaim := { program := "ytkhkgmelicdpkaa", sum := "5d9b38f2207247fb947ba3c127ead18e065a0d5198563a6748d784287618f514", func := "breeze/breezelaw09.TipBest", spec := "tipBest", unfollowed := true, recurses := true, apart := false }
def TipBestSaid : Prop := tipBestRow.holds Try.pinned (OpenSpec.ofChange tipBestSpec)

/-- ITS FALSE NEIGHBOUR: 'it returns false'. Refute it at one input. -/
def tipBestWrong : ChangeSpec := { name := "tipBest", fn := fun _ => fun
  | [d] => { results := [.lit (.bool false)], args := [d] }
  | _ => none }
def TipBestWrongFalsely : Prop := tipBestRow.holds Try.pinned (OpenSpec.ofChange tipBestWrong)

/-- 'breezelaw09.TipWays': WHATEVER THE INPUT: true; the input reads as it did. -/
def tipWaysSpec : ChangeSpec := { name := "tipWays", fn := fun _ => fun
  | [d1, d2, d3] => { results := [.lit (.bool true)], args := [d1, d2, d3] }
  | _ => none }
def tipWaysRow : OpenClaim := { program := "ytkhkgmelicdpkaa", sum := "5d9b38f2207247fb947ba3c127ead18e065a0d5198563a6748d784287618f514", func := "breeze/breezelaw09.TipWays", spec := "tipWays", recurses := true, apart := false }
def TipWaysSaid : Prop := tipWaysRow.holds Try.pinned (OpenSpec.ofChange tipWaysSpec)

/-- ITS FALSE NEIGHBOUR: 'it returns false'. Refute it at one input. -/
def tipWaysWrong : ChangeSpec := { name := "tipWays", fn := fun _ => fun
  | [d1, d2, d3] => { results := [.lit (.bool false)], args := [d1, d2, d3] }
  | _ => none }
def TipWaysWrongFalsely : Prop := tipWaysRow.holds Try.pinned (OpenSpec.ofChange tipWaysWrong)

/-- 'breezelaw09.TipKnown': WHATEVER THE INPUT: true; the input reads as it did. -/
def tipKnownSpec : ChangeSpec := { name := "tipKnown", fn := fun _ => fun
  | [] => { results := [.lit (.bool true)], args := [] }
  | _ => none }
def tipKnownRow : OpenClaim := { program := "ytkhkgmelicdpkaa", sum := "5d9b38f2207247fb947ba3c127ead18e065a0d5198563a6748d784287618f514", func := "breeze/breezelaw09.TipKnown", spec := "tipKnown", apart := false }
def TipKnownSaid : Prop := tipKnownRow.holds Try.pinned (OpenSpec.ofChange tipKnownSpec)

/-- ITS FALSE NEIGHBOUR: 'it returns false'. Refute it at one input. -/
def tipKnownWrong : ChangeSpec := { name := "tipKnown", fn := fun _ => fun
  | [] => { results := [.lit (.bool false)], args := [] }
  | _ => none }
def TipKnownWrongFalsely : Prop := tipKnownRow.holds Try.pinned (OpenSpec.ofChange tipKnownWrong)

/-- 'breezelaw09.TipHalf': WHATEVER THE INPUT: true; the input reads as it did. -/
def tipHalfSpec : ChangeSpec := { name := "tipHalf", fn := fun _ => fun
  | [d] => { results := [.lit (.bool true)], args := [d] }
  | _ => none }
def tipHalfRow : OpenClaim := { program := "ytkhkgmelicdpkaa", sum := "5d9b38f2207247fb947ba3c127ead18e065a0d5198563a6748d784287618f514", func := "breeze/breezelaw09.TipHalf", spec := "tipHalf", apart := false }
def TipHalfSaid : Prop := tipHalfRow.holds Try.pinned (OpenSpec.ofChange tipHalfSpec)

/-- ITS FALSE NEIGHBOUR: 'it returns false'. Refute it at one input. -/
def tipHalfWrong : ChangeSpec := { name := "tipHalf", fn := fun _ => fun
  | [d] => { results := [.lit (.bool false)], args := [d] }
  | _ => none }
def TipHalfWrongFalsely : Prop := tipHalfRow.holds Try.pinned (OpenSpec.ofChange tipHalfWrong)

/-- 'breezelaw09.TipMiddle': WHATEVER THE INPUT: true; the input reads as it did. -/
def tipMiddleSpec : ChangeSpec := { name := "tipMiddle", fn := fun _ => fun
  | [d] => { results := [.lit (.bool true)], args := [d] }
  | _ => none }
def tipMiddleRow : OpenClaim := { program := "ytkhkgmelicdpkaa", sum := "5d9b38f2207247fb947ba3c127ead18e065a0d5198563a6748d784287618f514", func := "breeze/breezelaw09.TipMiddle", spec := "tipMiddle", apart := false }
def TipMiddleSaid : Prop := tipMiddleRow.holds Try.pinned (OpenSpec.ofChange tipMiddleSpec)

/-- ITS FALSE NEIGHBOUR: 'it returns false'. Refute it at one input. -/
def tipMiddleWrong : ChangeSpec := { name := "tipMiddle", fn := fun _ => fun
  | [d] => { results := [.lit (.bool false)], args := [d] }
  | _ => none }
def TipMiddleWrongFalsely : Prop := tipMiddleRow.holds Try.pinned (OpenSpec.ofChange tipMiddleWrong)

/-- 'breezelaw09.TipVotes': WHATEVER THE INPUT: true; the input reads as it did. -/
def tipVotesSpec : ChangeSpec := { name := "tipVotes", fn := fun _ => fun
  | [d] => { results := [.lit (.bool true)], args := [d] }
  | _ => none }
def tipVotesRow : OpenClaim := { program := "ytkhkgmelicdpkaa", sum := "5d9b38f2207247fb947ba3c127ead18e065a0d5198563a6748d784287618f514", func := "breeze/breezelaw09.TipVotes", spec := "tipVotes", apart := false }
def TipVotesSaid : Prop := tipVotesRow.holds Try.pinned (OpenSpec.ofChange tipVotesSpec)

/-- ITS FALSE NEIGHBOUR: 'it returns false'. Refute it at one input. -/
def tipVotesWrong : ChangeSpec := { name := "tipVotes", fn := fun _ => fun
  | [d] => { results := [.lit (.bool false)], args := [d] }
  | _ => none }
def TipVotesWrongFalsely : Prop := tipVotesRow.holds Try.pinned (OpenSpec.ofChange tipVotesWrong)

/-- 'breezelaw09.TipBack': WHATEVER THE INPUT: true; the input reads as it did. -/
def tipBackSpec : ChangeSpec := { name := "tipBack", fn := fun _ => fun
  | [d1, d2, d3] => { results := [.lit (.bool true)], args := [d1, d2, d3] }
  | _ => none }
def tipBackRow : OpenClaim := { program := "ytkhkgmelicdpkaa", sum := "5d9b38f2207247fb947ba3c127ead18e065a0d5198563a6748d784287618f514", func := "breeze/breezelaw09.TipBack", spec := "tipBack", apart := false }
def TipBackSaid : Prop := tipBackRow.holds Try.pinned (OpenSpec.ofChange tipBackSpec)

/-- ITS FALSE NEIGHBOUR: 'it returns false'. Refute it at one input. -/
def tipBackWrong : ChangeSpec := { name := "tipBack", fn := fun _ => fun
  | [d1, d2, d3] => { results := [.lit (.bool false)], args := [d1, d2, d3] }
  | _ => none }
def TipBackWrongFalsely : Prop := tipBackRow.holds Try.pinned (OpenSpec.ofChange tipBackWrong)

/-- 'breezelaw09.TipNamed': WHATEVER THE INPUT: true; the input reads as it did. -/
def tipNamedSpec : ChangeSpec := { name := "tipNamed", fn := fun _ => fun
  | [d1, d2] => { results := [.lit (.bool true)], args := [d1, d2] }
  | _ => none }
def tipNamedRow : OpenClaim := { program := "ytkhkgmelicdpkaa", sum := "5d9b38f2207247fb947ba3c127ead18e065a0d5198563a6748d784287618f514", func := "breeze/breezelaw09.TipNamed", spec := "tipNamed", apart := false }
def TipNamedSaid : Prop := tipNamedRow.holds Try.pinned (OpenSpec.ofChange tipNamedSpec)

/-- ITS FALSE NEIGHBOUR: 'it returns false'. Refute it at one input. -/
def tipNamedWrong : ChangeSpec := { name := "tipNamed", fn := fun _ => fun
  | [d1, d2] => { results := [.lit (.bool false)], args := [d1, d2] }
  | _ => none }
def TipNamedWrongFalsely : Prop := tipNamedRow.holds Try.pinned (OpenSpec.ofChange tipNamedWrong)

/-- 'breezelaw09.TipLengths': WHATEVER THE INPUT: true; the input reads as it did. -/
def tipLengthsSpec : ChangeSpec := { name := "tipLengths", fn := fun _ => fun
  | [d1, d2] => { results := [.lit (.bool true)], args := [d1, d2] }
  | _ => none }
def tipLengthsRow : OpenClaim := { program := "ytkhkgmelicdpkaa", sum := "5d9b38f2207247fb947ba3c127ead18e065a0d5198563a6748d784287618f514", func := "breeze/breezelaw09.TipLengths", spec := "tipLengths", apart := false }
def TipLengthsSaid : Prop := tipLengthsRow.holds Try.pinned (OpenSpec.ofChange tipLengthsSpec)

/-- ITS FALSE NEIGHBOUR: 'it returns false'. Refute it at one input. -/
def tipLengthsWrong : ChangeSpec := { name := "tipLengths", fn := fun _ => fun
  | [d1, d2] => { results := [.lit (.bool false)], args := [d1, d2] }
  | _ => none }
def TipLengthsWrongFalsely : Prop := tipLengthsRow.holds Try.pinned (OpenSpec.ofChange tipLengthsWrong)

/- THE SECOND FORM. 'bulk': how many values and letters a reading holds, each counted each time it is reached (what is shared counts as often as it is met; a slice's spare places count too). A statement '..UptoSaid' is the law's where the arguments, and the package variables that the reading takes, are together of bulk at most 1048576: NARROWER than '..Said'. Prove '..Said' where nothing that the law and all that it calls make is longer than what came in: it says more and counts as full. Else prove '..UptoSaid'. A law counts once. -/
mutual
def uptoBulk {H : Type} : DataW H → Nat
  | .lit (.string bytes) => bytes.length + 1
  | .lit _ => 1
  | .nil => 1
  | .ptr d => uptoBulk d + 1
  | .slice elems spare => uptoBulkAll elems + uptoBulkAll spare + 1
  | .agg parts => uptoBulkAll parts + 1
  | .iface _ d => uptoBulk d + 1
  | .map entries => uptoBulkEntries entries + 1
  | .held _ => 1
def uptoBulkAll {H : Type} : List (DataW H) → Nat
  | [] => 0
  | d :: r => uptoBulk d + uptoBulkAll r
def uptoBulkEntries {H : Type} : List (Lit × DataW H) → Nat
  | [] => 0
  | x :: r => uptoBulkEntry x + uptoBulkEntries r
def uptoBulkEntry {H : Type} : Lit × DataW H → Nat
  | (.string bytes, d) => bytes.length + uptoBulk d + 1
  | (_, d) => uptoBulk d + 1
 end
def uptoSmall : (H : Type) → List (DataW H) → Bool := fun _ ds => decide (uptoBulkAll ds ≤ 1048576)
def OpenSpec.upto (s : _root_.Go.ChangeSpec) : _root_.Go.OpenSpec := { _root_.Go.OpenSpec.ofChange s with cond := some uptoSmall }

/-- 'breezelaw09.TipBranches', WHERE WHAT IT READS IS OF BULK AT MOST 1048576: true; the input reads as it did. -/
def tipBranchesUptoRow : OpenClaim := { program := "ytkhkgmelicdpkaa", sum := "5d9b38f2207247fb947ba3c127ead18e065a0d5198563a6748d784287618f514", func := "breeze/breezelaw09.TipBranches", spec := "tipBranches", recurses := true, apart := false, narrowed := true }
def TipBranchesUptoSaid : Prop := tipBranchesUptoRow.holds Try.pinned (OpenSpec.upto tipBranchesSpec)

/-- 'breezelaw09.TipCentres', WHERE WHAT IT READS IS OF BULK AT MOST 1048576: true; the input reads as it did. -/
def tipCentresUptoRow : OpenClaim := { program := "ytkhkgmelicdpkaa", sum := "5d9b38f2207247fb947ba3c127ead18e065a0d5198563a6748d784287618f514", func := "breeze/breezelaw09.TipCentres", spec := "tipCentres", recurses := true, apart := false, narrowed := true }
def TipCentresUptoSaid : Prop := tipCentresUptoRow.holds Try.pinned (OpenSpec.upto tipCentresSpec)

/-- 'breezelaw09.TipSeveral', WHERE WHAT IT READS IS OF BULK AT MOST 1048576: true; the input reads as it did. -/
def tipSeveralUptoRow : OpenClaim := { program := "ytkhkgmelicdpkaa", sum := "5d9b38f2207247fb947ba3c127ead18e065a0d5198563a6748d784287618f514", func := "breeze/breezelaw09.TipSeveral", spec := "tipSeveral", recurses := true, apart := false, narrowed := true }
def TipSeveralUptoSaid : Prop := tipSeveralUptoRow.holds Try.pinned (OpenSpec.upto tipSeveralSpec)

/-- 'breezelaw09.TipSteps', WHERE WHAT IT READS IS OF BULK AT MOST 1048576: true; the input reads as it did. -/
def tipStepsUptoRow : OpenClaim := { program := "ytkhkgmelicdpkaa", sum := "5d9b38f2207247fb947ba3c127ead18e065a0d5198563a6748d784287618f514", func := "breeze/breezelaw09.TipSteps", spec := "tipSteps", apart := false, narrowed := true }
def TipStepsUptoSaid : Prop := tipStepsUptoRow.holds Try.pinned (OpenSpec.upto tipStepsSpec)

/-- 'breezelaw09.TipBest', WHERE WHAT IT READS IS OF BULK AT MOST 1048576: true; the input reads as it did. -/
def tipBestUptoRow : OpenClaim := { program := "ytkhkgmelicdpkaa", sum := "5d9b38f2207247fb947ba3c127ead18e065a0d5198563a6748d784287618f514", func := "breeze/breezelaw09.TipBest", spec := "tipBest", unfollowed := true, recurses := true, apart := false, narrowed := true }
def TipBestUptoSaid : Prop := tipBestUptoRow.holds Try.pinned (OpenSpec.upto tipBestSpec)

/-- 'breezelaw09.TipWays', WHERE WHAT IT READS IS OF BULK AT MOST 1048576: true; the input reads as it did. -/
def tipWaysUptoRow : OpenClaim := { program := "ytkhkgmelicdpkaa", sum := "5d9b38f2207247fb947ba3c127ead18e065a0d5198563a6748d784287618f514", func := "breeze/breezelaw09.TipWays", spec := "tipWays", recurses := true, apart := false, narrowed := true }
def TipWaysUptoSaid : Prop := tipWaysUptoRow.holds Try.pinned (OpenSpec.upto tipWaysSpec)

/-- 'breezelaw09.TipKnown', WHERE WHAT IT READS IS OF BULK AT MOST 1048576: true; the input reads as it did. -/
def tipKnownUptoRow : OpenClaim := { program := "ytkhkgmelicdpkaa", sum := "5d9b38f2207247fb947ba3c127ead18e065a0d5198563a6748d784287618f514", func := "breeze/breezelaw09.TipKnown", spec := "tipKnown", apart := false, narrowed := true }
def TipKnownUptoSaid : Prop := tipKnownUptoRow.holds Try.pinned (OpenSpec.upto tipKnownSpec)

/-- 'breezelaw09.TipHalf', WHERE WHAT IT READS IS OF BULK AT MOST 1048576: true; the input reads as it did. -/
def tipHalfUptoRow : OpenClaim := { program := "ytkhkgmelicdpkaa", sum := "5d9b38f2207247fb947ba3c127ead18e065a0d5198563a6748d784287618f514", func := "breeze/breezelaw09.TipHalf", spec := "tipHalf", apart := false, narrowed := true }
def TipHalfUptoSaid : Prop := tipHalfUptoRow.holds Try.pinned (OpenSpec.upto tipHalfSpec)

/-- 'breezelaw09.TipMiddle', WHERE WHAT IT READS IS OF BULK AT MOST 1048576: true; the input reads as it did. -/
def tipMiddleUptoRow : OpenClaim := { program := "ytkhkgmelicdpkaa", sum := "5d9b38f2207247fb947ba3c127ead18e065a0d5198563a6748d784287618f514", func := "breeze/breezelaw09.TipMiddle", spec := "tipMiddle", apart := false, narrowed := true }
def TipMiddleUptoSaid : Prop := tipMiddleUptoRow.holds Try.pinned (OpenSpec.upto tipMiddleSpec)

/-- 'breezelaw09.TipVotes', WHERE WHAT IT READS IS OF BULK AT MOST 1048576: true; the input reads as it did. -/
def tipVotesUptoRow : OpenClaim := { program := "ytkhkgmelicdpkaa", sum := "5d9b38f2207247fb947ba3c127ead18e065a0d5198563a6748d784287618f514", func := "breeze/breezelaw09.TipVotes", spec := "tipVotes", apart := false, narrowed := true }
def TipVotesUptoSaid : Prop := tipVotesUptoRow.holds Try.pinned (OpenSpec.upto tipVotesSpec)

/-- 'breezelaw09.TipBack', WHERE WHAT IT READS IS OF BULK AT MOST 1048576: true; the input reads as it did. -/
def tipBackUptoRow : OpenClaim := { program := "ytkhkgmelicdpkaa", sum := "5d9b38f2207247fb947ba3c127ead18e065a0d5198563a6748d784287618f514", func := "breeze/breezelaw09.TipBack", spec := "tipBack", apart := false, narrowed := true }
def TipBackUptoSaid : Prop := tipBackUptoRow.holds Try.pinned (OpenSpec.upto tipBackSpec)

/-- 'breezelaw09.TipNamed', WHERE WHAT IT READS IS OF BULK AT MOST 1048576: true; the input reads as it did. -/
def tipNamedUptoRow : OpenClaim := { program := "ytkhkgmelicdpkaa", sum := "5d9b38f2207247fb947ba3c127ead18e065a0d5198563a6748d784287618f514", func := "breeze/breezelaw09.TipNamed", spec := "tipNamed", apart := false, narrowed := true }
def TipNamedUptoSaid : Prop := tipNamedUptoRow.holds Try.pinned (OpenSpec.upto tipNamedSpec)

/-- 'breezelaw09.TipLengths', WHERE WHAT IT READS IS OF BULK AT MOST 1048576: true; the input reads as it did. -/
def tipLengthsUptoRow : OpenClaim := { program := "ytkhkgmelicdpkaa", sum := "5d9b38f2207247fb947ba3c127ead18e065a0d5198563a6748d784287618f514", func := "breeze/breezelaw09.TipLengths", spec := "tipLengths", apart := false, narrowed := true }
def TipLengthsUptoSaid : Prop := tipLengthsUptoRow.holds Try.pinned (OpenSpec.upto tipLengthsSpec)

end Rows
end Go.Proofs.Ytkhkgmelicdpkaa
