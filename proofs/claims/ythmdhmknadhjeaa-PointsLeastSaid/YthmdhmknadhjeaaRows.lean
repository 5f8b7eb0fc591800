/-
  No cell of these rows narrows 'for every input' (looked for: loops, veiled, ifaces, maps, wideKeys, modest, calm, conditions, laid).
  DERIVED. THE GIVEN ROWS OF THIS SEAT. 9 by the template 'for every input the law returns true; each argument reads behind the call as it read before'; 0 by the template 'total and deterministic' (their statements: YthmdhmknadhjeaaTotals.lean).
  GIVEN WITH THE SEED: the statements are not yours to turn. If you find one false, say at which input.
  Laid BY PROGRAM, IN A SANDBOX (cutbox-rows.mjs): the forced cells as the released guide's own fill.sh prints them over the translation 9d3c251c4f57af26… (all of the seat's roots in one cut). By AI agents, Wed Nov 11 2026. No macro, syntax, notation, axiom, sorry.
-/
import Derived.Test.YthmdhmknadhjeaaChecked
import GoSem.Claim
import GoSem.ClaimJoined
import GoSem.ClaimMapViews
import Derived.JoinedTies
import Derived.KernelRfl
namespace Go.Proofs.Ythmdhmknadhjeaa
/- THE CELL 'sum', in the pinned program and in every row, IS THE sha256 OF THE DUMP (.gsa) THAT YthmdhmknadhjeaaProg.lean LOADS. Nothing in Lean hashes anything: it is a label: what it is worth is what the hold of that sum in a sandbox is worth. -/
noncomputable def Try.pinned : Pinned := { name := "ythmdhmknadhjeaa", sum := "9d3c251c4f57af26886b5bf1e650c6a5e1c9b17f918d2ba803b3be474485b1d2", checked := Try.checked }
namespace Rows
def none {H : Type} : Left H := { results := [], args := [] }

/-- 'reveillelaw28.PointsVotes': WHATEVER THE INPUT: true; the input reads as it did. -/
def pointsVotesSpec : ChangeSpec := { name := "pointsVotes", fn := fun _ => fun
  | [d1, d2] => { results := [.lit (.bool true)], args := [d1, d2] }
  | _ => none }
def pointsVotesRow : OpenClaim := { program := "ythmdhmknadhjeaa", sum := "9d3c251c4f57af26886b5bf1e650c6a5e1c9b17f918d2ba803b3be474485b1d2", func := "reveille/reveillelaw28.PointsVotes", spec := "pointsVotes", unfollowed := true, recurses := true, apart := false }
def PointsVotesSaid : Prop := pointsVotesRow.holds Try.pinned (OpenSpec.ofChange pointsVotesSpec)

/-- ITS FALSE NEIGHBOUR: 'it returns false'. Refute it at one input. -/
def pointsVotesWrong : ChangeSpec := { name := "pointsVotes", fn := fun _ => fun
  | [d1, d2] => { results := [.lit (.bool false)], args := [d1, d2] }
  | _ => none }
def PointsVotesWrongFalsely : Prop := pointsVotesRow.holds Try.pinned (OpenSpec.ofChange pointsVotesWrong)

/-- 'reveillelaw28.PointsChanges': WHATEVER THE INPUT: true; the input reads as it did. -/
def pointsChangesSpec : ChangeSpec := { name := "pointsChanges", fn := fun _ => fun
  | [d1, d2, d3, d4] => { results := [.lit (.bool true)], args := [d1, d2, d3, d4] }
  | _ => none }
def pointsChangesRow : OpenClaim := { program := "ythmdhmknadhjeaa", sum := "9d3c251c4f57af26886b5bf1e650c6a5e1c9b17f918d2ba803b3be474485b1d2", func := "reveille/reveillelaw28.PointsChanges", spec := "pointsChanges", unfollowed := true, recurses := true, apart := false }
def PointsChangesSaid : Prop := pointsChangesRow.holds Try.pinned (OpenSpec.ofChange pointsChangesSpec)

/-- ITS FALSE NEIGHBOUR: 'it returns false'. Refute it at one input. -/
def pointsChangesWrong : ChangeSpec := { name := "pointsChanges", fn := fun _ => fun
  | [d1, d2, d3, d4] => { results := [.lit (.bool false)], args := [d1, d2, d3, d4] }
  | _ => none }
def PointsChangesWrongFalsely : Prop := pointsChangesRow.holds Try.pinned (OpenSpec.ofChange pointsChangesWrong)

/-- 'reveillelaw28.PointsAsks': WHATEVER THE INPUT: true; the input reads as it did. -/
def pointsAsksSpec : ChangeSpec := { name := "pointsAsks", fn := fun _ => fun
  | [d1, d2, d3] => { results := [.lit (.bool true)], args := [d1, d2, d3] }
  | _ => none }
def pointsAsksRow : OpenClaim := { program := "ythmdhmknadhjeaa", sum := "9d3c251c4f57af26886b5bf1e650c6a5e1c9b17f918d2ba803b3be474485b1d2", func := "reveille/reveillelaw28.PointsAsks", spec := "pointsAsks", inPlace := ["math/bits.Add64"], unfollowed := true, recurses := true, named := ["math/bits.divideError", "math/bits.overflowError"], apart := false }
def PointsAsksSaid : Prop := pointsAsksRow.holds Try.pinned (OpenSpec.ofChange pointsAsksSpec)

/-- ITS FALSE NEIGHBOUR: 'it returns false'. Refute it at one input. -/
def pointsAsksWrong : ChangeSpec := { name := "pointsAsks", fn := fun _ => fun
  | [d1, d2, d3] => { results := [.lit (.bool false)], args := [d1, d2, d3] }
  | _ => none }
def PointsAsksWrongFalsely : Prop := pointsAsksRow.holds Try.pinned (OpenSpec.ofChange pointsAsksWrong)

/-- 'reveillelaw28.PointsSides': WHATEVER THE INPUT: true; the input reads as it did. -/
def pointsSidesSpec : ChangeSpec := { name := "pointsSides", fn := fun _ => fun
  | [d1, d2, d3] => { results := [.lit (.bool true)], args := [d1, d2, d3] }
  | _ => none }
def pointsSidesRow : OpenClaim := { program := "ythmdhmknadhjeaa", sum := "9d3c251c4f57af26886b5bf1e650c6a5e1c9b17f918d2ba803b3be474485b1d2", func := "reveille/reveillelaw28.PointsSides", spec := "pointsSides", inPlace := ["math/bits.Add64"], unfollowed := true, recurses := true, named := ["math/bits.divideError", "math/bits.overflowError"], apart := false }
def PointsSidesSaid : Prop := pointsSidesRow.holds Try.pinned (OpenSpec.ofChange pointsSidesSpec)

/-- ITS FALSE NEIGHBOUR: 'it returns false'. Refute it at one input. -/
def pointsSidesWrong : ChangeSpec := { name := "pointsSides", fn := fun _ => fun
  | [d1, d2, d3] => { results := [.lit (.bool false)], args := [d1, d2, d3] }
  | _ => none }
def PointsSidesWrongFalsely : Prop := pointsSidesRow.holds Try.pinned (OpenSpec.ofChange pointsSidesWrong)

/-- 'reveillelaw28.PointsNever': WHATEVER THE INPUT: true; the input reads as it did. -/
def pointsNeverSpec : ChangeSpec := { name := "pointsNever", fn := fun _ => fun
  | [d1, d2, d3, d4] => { results := [.lit (.bool true)], args := [d1, d2, d3, d4] }
  | _ => none }
def pointsNeverRow : OpenClaim := { program := "ythmdhmknadhjeaa", sum := "9d3c251c4f57af26886b5bf1e650c6a5e1c9b17f918d2ba803b3be474485b1d2", func := "reveille/reveillelaw28.PointsNever", spec := "pointsNever", inPlace := ["math/bits.Add64"], unfollowed := true, recurses := true, named := ["math/bits.divideError", "math/bits.overflowError"], apart := false }
def PointsNeverSaid : Prop := pointsNeverRow.holds Try.pinned (OpenSpec.ofChange pointsNeverSpec)

/-- ITS FALSE NEIGHBOUR: 'it returns false'. Refute it at one input. -/
def pointsNeverWrong : ChangeSpec := { name := "pointsNever", fn := fun _ => fun
  | [d1, d2, d3, d4] => { results := [.lit (.bool false)], args := [d1, d2, d3, d4] }
  | _ => none }
def PointsNeverWrongFalsely : Prop := pointsNeverRow.holds Try.pinned (OpenSpec.ofChange pointsNeverWrong)

/-- 'reveillelaw28.PointsShared': WHATEVER THE INPUT: true; the input reads as it did. -/
def pointsSharedSpec : ChangeSpec := { name := "pointsShared", fn := fun _ => fun
  | [d1, d2] => { results := [.lit (.bool true)], args := [d1, d2] }
  | _ => none }
def pointsSharedRow : OpenClaim := { program := "ythmdhmknadhjeaa", sum := "9d3c251c4f57af26886b5bf1e650c6a5e1c9b17f918d2ba803b3be474485b1d2", func := "reveille/reveillelaw28.PointsShared", spec := "pointsShared", inPlace := ["math/bits.Add64"], unfollowed := true, recurses := true, named := ["math/bits.divideError", "math/bits.overflowError"], apart := false }
def PointsSharedSaid : Prop := pointsSharedRow.holds Try.pinned (OpenSpec.ofChange pointsSharedSpec)

/-- ITS FALSE NEIGHBOUR: 'it returns false'. Refute it at one input. -/
def pointsSharedWrong : ChangeSpec := { name := "pointsShared", fn := fun _ => fun
  | [d1, d2] => { results := [.lit (.bool false)], args := [d1, d2] }
  | _ => none }
def PointsSharedWrongFalsely : Prop := pointsSharedRow.holds Try.pinned (OpenSpec.ofChange pointsSharedWrong)

/-- 'reveillelaw28.PointsNames': WHATEVER THE INPUT: true; the input reads as it did. -/
def pointsNamesSpec : ChangeSpec := { name := "pointsNames", fn := fun _ => fun
  | [] => { results := [.lit (.bool true)], args := [] }
  | _ => none }
def pointsNamesRow : OpenClaim := { program := "ythmdhmknadhjeaa", sum := "9d3c251c4f57af26886b5bf1e650c6a5e1c9b17f918d2ba803b3be474485b1d2", func := "reveille/reveillelaw28.PointsNames", spec := "pointsNames", inPlace := ["math.Float64frombits", "math.Float64bits", "math/bits.Add64"], unfollowed := true, recurses := true, named := ["math/bits.divideError", "math/bits.overflowError"], apart := false }
def PointsNamesSaid : Prop := pointsNamesRow.holds Try.pinned (OpenSpec.ofChange pointsNamesSpec)

/-- ITS FALSE NEIGHBOUR: 'it returns false'. Refute it at one input. -/
def pointsNamesWrong : ChangeSpec := { name := "pointsNames", fn := fun _ => fun
  | [] => { results := [.lit (.bool false)], args := [] }
  | _ => none }
def PointsNamesWrongFalsely : Prop := pointsNamesRow.holds Try.pinned (OpenSpec.ofChange pointsNamesWrong)

/-- 'reveillelaw28.PointsFloats': WHATEVER THE INPUT: true; the input reads as it did. -/
def pointsFloatsSpec : ChangeSpec := { name := "pointsFloats", fn := fun _ => fun
  | [d1, d2, d3, d4, d5, d6, d7, d8] => { results := [.lit (.bool true)], args := [d1, d2, d3, d4, d5, d6, d7, d8] }
  | _ => none }
def pointsFloatsRow : OpenClaim := { program := "ythmdhmknadhjeaa", sum := "9d3c251c4f57af26886b5bf1e650c6a5e1c9b17f918d2ba803b3be474485b1d2", func := "reveille/reveillelaw28.PointsFloats", spec := "pointsFloats", inPlace := ["math.Float64bits", "math.Float64frombits", "math/bits.Add64"], unfollowed := true, recurses := true, named := ["math/bits.divideError", "math/bits.overflowError"], apart := false }
def PointsFloatsSaid : Prop := pointsFloatsRow.holds Try.pinned (OpenSpec.ofChange pointsFloatsSpec)

/-- ITS FALSE NEIGHBOUR: 'it returns false'. Refute it at one input. -/
def pointsFloatsWrong : ChangeSpec := { name := "pointsFloats", fn := fun _ => fun
  | [d1, d2, d3, d4, d5, d6, d7, d8] => { results := [.lit (.bool false)], args := [d1, d2, d3, d4, d5, d6, d7, d8] }
  | _ => none }
def PointsFloatsWrongFalsely : Prop := pointsFloatsRow.holds Try.pinned (OpenSpec.ofChange pointsFloatsWrong)

/-- 'reveillelaw28.PointsLeast': WHATEVER THE INPUT: true; the input reads as it did. -/
def pointsLeastSpec : ChangeSpec := { name := "pointsLeast", fn := fun _ => fun
  | [d1, d2, d3, d4, d5, d6, d7] => { results := [.lit (.bool true)], args := [d1, d2, d3, d4, d5, d6, d7] }
  | _ => none }
def pointsLeastRow : OpenClaim := { program := "ythmdhmknadhjeaa", sum := "9d3c251c4f57af26886b5bf1e650c6a5e1c9b17f918d2ba803b3be474485b1d2", func := "reveille/reveillelaw28.PointsLeast", spec := "pointsLeast", inPlace := ["math/bits.Add64", "math.Float64bits", "math.Float64frombits"], unfollowed := true, recurses := true, named := ["math/bits.divideError", "math/bits.overflowError"], apart := false }
def PointsLeastSaid : Prop := pointsLeastRow.holds Try.pinned (OpenSpec.ofChange pointsLeastSpec)

/-- ITS FALSE NEIGHBOUR: 'it returns false'. Refute it at one input. -/
def pointsLeastWrong : ChangeSpec := { name := "pointsLeast", fn := fun _ => fun
  | [d1, d2, d3, d4, d5, d6, d7] => { results := [.lit (.bool false)], args := [d1, d2, d3, d4, d5, d6, d7] }
  | _ => none }
def PointsLeastWrongFalsely : Prop := pointsLeastRow.holds Try.pinned (OpenSpec.ofChange pointsLeastWrong)

/- THE SECOND FORM. 'bulk': how many values and letters a reading holds, each counted each time it is reached (what is shared counts as often as it is met; a slice's spare places count too). A statement '..UptoSaid' is the law's where the arguments, and the package variables that the reading takes, are together of bulk at most 1048576: NARROWER than '..Said'. Prove '..Said' where nothing that the law and all that it calls make is longer than what came in: it says more and counts as full. Else prove '..UptoSaid'. A law counts once. -/
mutual
def uptoBulk {H : Type} : DataW H → Nat
  | .lit (.string bytes) => bytes.length + 1
  | .lit _ => 1
  | .nil => 1
  | .ptr d => uptoBulk d + 1
  | .slice elems spare => uptoBulkAll elems + uptoBulkAll spare + 1
  | .agg parts => uptoBulkAll parts + 1
  | .iface _ d => uptoBulk d + 1
  | .map entries => uptoBulkEntries entries + 1
  | .held _ => 1
def uptoBulkAll {H : Type} : List (DataW H) → Nat
  | [] => 0
  | d :: r => uptoBulk d + uptoBulkAll r
def uptoBulkEntries {H : Type} : List (Lit × DataW H) → Nat
  | [] => 0
  | x :: r => uptoBulkEntry x + uptoBulkEntries r
def uptoBulkEntry {H : Type} : Lit × DataW H → Nat
  | (.string bytes, d) => bytes.length + uptoBulk d + 1
  | (_, d) => uptoBulk d + 1
 end
def uptoSmall : (H : Type) → List (DataW H) → Bool := fun _ ds => decide (uptoBulkAll ds ≤ 1048576)
def OpenSpec.upto (s : _root_.Go.ChangeSpec) : _root_.Go.OpenSpec := { _root_.Go.OpenSpec.ofChange s with cond := some uptoSmall }

/-- 'reveillelaw28.PointsVotes', WHERE WHAT IT READS IS OF BULK AT MOST 1048576: true; the input reads as it did. -/
def pointsVotesUptoRow : OpenClaim := { program := "ythmdhmknadhjeaa", sum := "9d3c251c4f57af26886b5bf1e650c6a5e1c9b17f918d2ba803b3be474485b1d2", func := "reveille/reveillelaw28.PointsVotes", spec := "pointsVotes", unfollowed := true, recurses := true, apart := false, narrowed := true }
def PointsVotesUptoSaid : Prop := pointsVotesUptoRow.holds Try.pinned (OpenSpec.upto pointsVotesSpec)

/-- 'reveillelaw28.PointsChanges', WHERE WHAT IT READS IS OF BULK AT MOST 1048576: true; the input reads as it did. -/
def pointsChangesUptoRow : OpenClaim := { program := "ythmdhmknadhjeaa", sum := "9d3c251c4f57af26886b5bf1e650c6a5e1c9b17f918d2ba803b3be474485b1d2", func := "reveille/reveillelaw28.PointsChanges", spec := "pointsChanges", unfollowed := true, recurses := true, apart := false, narrowed := true }
def PointsChangesUptoSaid : Prop := pointsChangesUptoRow.holds Try.pinned (OpenSpec.upto pointsChangesSpec)

/-- 'reveillelaw28.PointsAsks', WHERE WHAT IT READS IS OF BULK AT MOST 1048576: true; the input reads as it did. -/
def pointsAsksUptoRow : OpenClaim := { program := "ythmdhmknadhjeaa", sum := "9d3c251c4f57af26886b5bf1e650c6a5e1c9b17f918d2ba803b3be474485b1d2", func := "reveille/reveillelaw28.PointsAsks", spec := "pointsAsks", inPlace := ["math/bits.Add64"], unfollowed := true, recurses := true, named := ["math/bits.divideError", "math/bits.overflowError"], apart := false, narrowed := true }
def PointsAsksUptoSaid : Prop := pointsAsksUptoRow.holds Try.pinned (OpenSpec.upto pointsAsksSpec)

/-- 'reveillelaw28.PointsSides', WHERE WHAT IT READS IS OF BULK AT MOST 1048576: true; the input reads as it did. -/
def pointsSidesUptoRow : OpenClaim := { program := "ythmdhmknadhjeaa", sum := "9d3c251c4f57af26886b5bf1e650c6a5e1c9b17f918d2ba803b3be474485b1d2", func := "reveille/reveillelaw28.PointsSides", spec := "pointsSides", inPlace := ["math/bits.Add64"], unfollowed := true, recurses := true, named := ["math/bits.divideError", "math/bits.overflowError"], apart := false, narrowed := true }
def PointsSidesUptoSaid : Prop := pointsSidesUptoRow.holds Try.pinned (OpenSpec.upto pointsSidesSpec)

/-- 'reveillelaw28.PointsNever', WHERE WHAT IT READS IS OF BULK AT MOST 1048576: true; the input reads as it did. -/
def pointsNeverUptoRow : OpenClaim := { program := "ythmdhmknadhjeaa", sum := "9d3c251c4f57af26886b5bf1e650c6a5e1c9b17f918d2ba803b3be474485b1d2", func := "reveille/reveillelaw28.PointsNever", spec := "pointsNever", inPlace := ["math/bits.Add64"], unfollowed := true, recurses := true, named := ["math/bits.divideError", "math/bits.overflowError"], apart := false, narrowed := true }
def PointsNeverUptoSaid : Prop := pointsNeverUptoRow.holds Try.pinned (OpenSpec.upto pointsNeverSpec)

/-- 'reveillelaw28.PointsShared', WHERE WHAT IT READS IS OF BULK AT MOST 1048576: true; the input reads as it did. -/
def pointsSharedUptoRow : OpenClaim := { program := "ythmdhmknadhjeaa", sum := "9d3c251c4f57af26886b5bf1e650c6a5e1c9b17f918d2ba803b3be474485b1d2", func := "reveille/reveillelaw28.PointsShared", spec := "pointsShared", inPlace := ["math/bits.Add64"], unfollowed := true, recurses := true, named := ["math/bits.divideError", "math/bits.overflowError"], apart := false, narrowed := true }
def PointsSharedUptoSaid : Prop := pointsSharedUptoRow.holds Try.pinned (OpenSpec.upto pointsSharedSpec)

/-- 'reveillelaw28.PointsNames', WHERE WHAT IT READS IS OF BULK AT MOST 1048576: true; the input reads as it did. -/
def pointsNamesUptoRow : OpenClaim := { program := "ythmdhmknadhjeaa", sum := "9d3c251c4f57af26886b5bf1e650c6a5e1c9b17f918d2ba803b3be474485b1d2", func := "reveille/reveillelaw28.PointsNames", spec := "pointsNames", inPlace := ["math.Float64frombits", "math.Float64bits", "math/bits.Add64"], unfollowed := true, recurses := true, named := ["math/bits.divideError", "math/bits.overflowError"], apart := false, narrowed := true }
def PointsNamesUptoSaid : Prop := pointsNamesUptoRow.holds Try.pinned (OpenSpec.upto pointsNamesSpec)

/-- 'reveillelaw28.PointsFloats', WHERE WHAT IT READS IS OF BULK AT MOST 1048576: true; the input reads as it did. -/
def pointsFloatsUptoRow : OpenClaim := { program := "ythmdhmknadhjeaa", sum := "9d3c251c4f57af26886b5bf1e650c6a5e1c9b17f918d2ba803b3be474485b1d2", func := "reveille/reveillelaw28.PointsFloats", spec := "pointsFloats", inPlace := ["math.Float64bits", "math.Float64frombits", "math/bits.Add64"], unfollowed := true, recurses := true, named := ["math/bits.divideError", "math/bits.overflowError"], apart := false, narrowed := true }
def PointsFloatsUptoSaid : Prop := pointsFloatsUptoRow.holds Try.pinned (OpenSpec.upto pointsFloatsSpec)

/-- 'reveillelaw28.PointsLeast', WHERE WHAT IT READS IS OF BULK AT MOST 1048576: true; the input reads as it did. -/
def pointsLeastUptoRow : OpenClaim := { program := "ythmdhmknadhjeaa", sum := "9d3c251c4f57af26886b5bf1e650c6a5e1c9b17f918d2ba803b3be474485b1d2", func := "reveille/reveillelaw28.PointsLeast", spec := "pointsLeast", inPlace := ["math/bits.Add64", "math.Float64bits", "math.Float64frombits"], unfollowed := true, recurses := true, named := ["math/bits.divideError", "math/bits.overflowError"], apart := false, narrowed := true }
def PointsLeastUptoSaid : Prop := pointsLeastUptoRow.holds Try.pinned (OpenSpec.upto pointsLeastSpec)

end Rows
end Go.Proofs.Ythmdhmknadhjeaa
