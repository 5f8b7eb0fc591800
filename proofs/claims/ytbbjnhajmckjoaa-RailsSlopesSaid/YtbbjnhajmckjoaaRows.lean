/-
  No cell of these rows narrows 'for every input' (looked for: loops, veiled, ifaces, maps, wideKeys, modest, calm, conditions, laid).
  DERIVED. THE GIVEN ROWS OF THIS SEAT. 8 by the template 'for every input the law returns true; each argument reads behind the call as it read before'; 0 by the template 'total and deterministic' (their statements: YtbbjnhajmckjoaaTotals.lean).
  GIVEN WITH THE SEED: the statements are not yours to turn. If you find one false, say at which input.
  Laid BY PROGRAM, IN A SANDBOX (cutbox-rows.mjs): the forced cells as the released guide's own fill.sh prints them over the translation d7edca1e1faf3d20… (all of the seat's roots in one cut). By AI agents, Wed Nov 11 2026. No macro, syntax, notation, axiom, sorry.
-/
import Derived.Test.YtbbjnhajmckjoaaChecked
import GoSem.Claim
import GoSem.ClaimJoined
import GoSem.ClaimMapViews
import Derived.JoinedTies
import Derived.KernelRfl
namespace Go.Proofs.Ytbbjnhajmckjoaa
/- THE CELL 'sum', in the pinned program and in every row, IS THE sha256 OF THE DUMP (.gsa) THAT YtbbjnhajmckjoaaProg.lean LOADS. Nothing in Lean hashes anything: it is a label: what it is worth is what the hold of that sum in a sandbox is worth. -/
noncomputable def Try.pinned : Pinned := { name := "ytbbjnhajmckjoaa", sum := "d7edca1e1faf3d206fc2a3261e92332fa2df0a5a98a4fa7fbba4c2169132225a", checked := Try.checked }
namespace Rows
def none {H : Type} : Left H := { results := [], args := [] }

/-- 'reveillelaw19.RailsMoves': WHATEVER THE INPUT: true; the input reads as it did. -/
def railsMovesSpec : ChangeSpec := { name := "railsMoves", fn := fun _ => fun
  | [d1, d2, d3] => { results := [.lit (.bool true)], args := [d1, d2, d3] }
  | _ => none }
def railsMovesRow : OpenClaim := { program := "ytbbjnhajmckjoaa", sum := "d7edca1e1faf3d206fc2a3261e92332fa2df0a5a98a4fa7fbba4c2169132225a", func := "reveille/reveillelaw19.RailsMoves", spec := "railsMoves", apart := false }
def RailsMovesSaid : Prop := railsMovesRow.holds Try.pinned (OpenSpec.ofChange railsMovesSpec)

/-- ITS FALSE NEIGHBOUR: 'it returns false'. Refute it at one input. -/
def railsMovesWrong : ChangeSpec := { name := "railsMoves", fn := fun _ => fun
  | [d1, d2, d3] => { results := [.lit (.bool false)], args := [d1, d2, d3] }
  | _ => none }
def RailsMovesWrongFalsely : Prop := railsMovesRow.holds Try.pinned (OpenSpec.ofChange railsMovesWrong)

/-- 'reveillelaw19.RailsMeet': WHATEVER THE INPUT: true; the input reads as it did. -/
def railsMeetSpec : ChangeSpec := { name := "railsMeet", fn := fun _ => fun
  | [d1, d2] => { results := [.lit (.bool true)], args := [d1, d2] }
  | _ => none }
def railsMeetRow : OpenClaim := { program := "ytbbjnhajmckjoaa", sum := "d7edca1e1faf3d206fc2a3261e92332fa2df0a5a98a4fa7fbba4c2169132225a", func := "reveille/reveillelaw19.RailsMeet", spec := "railsMeet", apart := false }
def RailsMeetSaid : Prop := railsMeetRow.holds Try.pinned (OpenSpec.ofChange railsMeetSpec)

/-- ITS FALSE NEIGHBOUR: 'it returns false'. Refute it at one input. -/
def railsMeetWrong : ChangeSpec := { name := "railsMeet", fn := fun _ => fun
  | [d1, d2] => { results := [.lit (.bool false)], args := [d1, d2] }
  | _ => none }
def RailsMeetWrongFalsely : Prop := railsMeetRow.holds Try.pinned (OpenSpec.ofChange railsMeetWrong)

/-- 'reveillelaw19.RailsSets': WHATEVER THE INPUT: true; the input reads as it did. -/
def railsSetsSpec : ChangeSpec := { name := "railsSets", fn := fun _ => fun
  | [d1, d2] => { results := [.lit (.bool true)], args := [d1, d2] }
  | _ => none }
def railsSetsRow : OpenClaim := { program := "ytbbjnhajmckjoaa", sum := "d7edca1e1faf3d206fc2a3261e92332fa2df0a5a98a4fa7fbba4c2169132225a", func := "reveille/reveillelaw19.RailsSets", spec := "railsSets", inPlace := ["maps.clone", "math.Float64bits", "math.Float64frombits"], unfollowed := true, recurses := true, apart := false }
def RailsSetsSaid : Prop := railsSetsRow.holds Try.pinned (OpenSpec.ofChange railsSetsSpec)

/-- ITS FALSE NEIGHBOUR: 'it returns false'. Refute it at one input. -/
def railsSetsWrong : ChangeSpec := { name := "railsSets", fn := fun _ => fun
  | [d1, d2] => { results := [.lit (.bool false)], args := [d1, d2] }
  | _ => none }
def RailsSetsWrongFalsely : Prop := railsSetsRow.holds Try.pinned (OpenSpec.ofChange railsSetsWrong)

/-- 'reveillelaw19.RailsWindows': WHATEVER THE INPUT: true; the input reads as it did. -/
def railsWindowsSpec : ChangeSpec := { name := "railsWindows", fn := fun _ => fun
  | [d1, d2] => { results := [.lit (.bool true)], args := [d1, d2] }
  | _ => none }
def railsWindowsRow : OpenClaim := { program := "ytbbjnhajmckjoaa", sum := "d7edca1e1faf3d206fc2a3261e92332fa2df0a5a98a4fa7fbba4c2169132225a", func := "reveille/reveillelaw19.RailsWindows", spec := "railsWindows", inPlace := ["maps.clone", "math.Float64bits", "math.Float64frombits"], unfollowed := true, recurses := true, apart := false }
def RailsWindowsSaid : Prop := railsWindowsRow.holds Try.pinned (OpenSpec.ofChange railsWindowsSpec)

/-- ITS FALSE NEIGHBOUR: 'it returns false'. Refute it at one input. -/
def railsWindowsWrong : ChangeSpec := { name := "railsWindows", fn := fun _ => fun
  | [d1, d2] => { results := [.lit (.bool false)], args := [d1, d2] }
  | _ => none }
def RailsWindowsWrongFalsely : Prop := railsWindowsRow.holds Try.pinned (OpenSpec.ofChange railsWindowsWrong)

/-- 'reveillelaw19.RailsWays': WHATEVER THE INPUT: true; the input reads as it did. -/
def railsWaysSpec : ChangeSpec := { name := "railsWays", fn := fun _ => fun
  | [d1, d2, d3] => { results := [.lit (.bool true)], args := [d1, d2, d3] }
  | _ => none }
def railsWaysRow : OpenClaim := { program := "ytbbjnhajmckjoaa", sum := "d7edca1e1faf3d206fc2a3261e92332fa2df0a5a98a4fa7fbba4c2169132225a", func := "reveille/reveillelaw19.RailsWays", spec := "railsWays", inPlace := ["maps.clone", "math.Float64bits", "math.Float64frombits"], unfollowed := true, recurses := true, apart := false }
def RailsWaysSaid : Prop := railsWaysRow.holds Try.pinned (OpenSpec.ofChange railsWaysSpec)

/-- ITS FALSE NEIGHBOUR: 'it returns false'. Refute it at one input. -/
def railsWaysWrong : ChangeSpec := { name := "railsWays", fn := fun _ => fun
  | [d1, d2, d3] => { results := [.lit (.bool false)], args := [d1, d2, d3] }
  | _ => none }
def RailsWaysWrongFalsely : Prop := railsWaysRow.holds Try.pinned (OpenSpec.ofChange railsWaysWrong)

/-- 'reveillelaw19.RailsRamps': WHATEVER THE INPUT: true; the input reads as it did. -/
def railsRampsSpec : ChangeSpec := { name := "railsRamps", fn := fun _ => fun
  | [d1, d2, d3, d4, d5, d6] => { results := [.lit (.bool true)], args := [d1, d2, d3, d4, d5, d6] }
  | _ => none }
def railsRampsRow : OpenClaim := { program := "ytbbjnhajmckjoaa", sum := "d7edca1e1faf3d206fc2a3261e92332fa2df0a5a98a4fa7fbba4c2169132225a", func := "reveille/reveillelaw19.RailsRamps", spec := "railsRamps", inPlace := ["math.Float64bits", "math.Float64frombits", "maps.clone"], unfollowed := true, recurses := true, apart := false }
def RailsRampsSaid : Prop := railsRampsRow.holds Try.pinned (OpenSpec.ofChange railsRampsSpec)

/-- ITS FALSE NEIGHBOUR: 'it returns false'. Refute it at one input. -/
def railsRampsWrong : ChangeSpec := { name := "railsRamps", fn := fun _ => fun
  | [d1, d2, d3, d4, d5, d6] => { results := [.lit (.bool false)], args := [d1, d2, d3, d4, d5, d6] }
  | _ => none }
def RailsRampsWrongFalsely : Prop := railsRampsRow.holds Try.pinned (OpenSpec.ofChange railsRampsWrong)

/-- 'reveillelaw19.RailsNames': WHATEVER THE INPUT: true; the input reads as it did. -/
def railsNamesSpec : ChangeSpec := { name := "railsNames", fn := fun _ => fun
  | [] => { results := [.lit (.bool true)], args := [] }
  | _ => none }
def railsNamesRow : OpenClaim := { program := "ytbbjnhajmckjoaa", sum := "d7edca1e1faf3d206fc2a3261e92332fa2df0a5a98a4fa7fbba4c2169132225a", func := "reveille/reveillelaw19.RailsNames", spec := "railsNames", inPlace := ["math.Float64frombits", "math.Float64bits", "maps.clone"], unfollowed := true, recurses := true, apart := false }
def RailsNamesSaid : Prop := railsNamesRow.holds Try.pinned (OpenSpec.ofChange railsNamesSpec)

/-- ITS FALSE NEIGHBOUR: 'it returns false'. Refute it at one input. -/
def railsNamesWrong : ChangeSpec := { name := "railsNames", fn := fun _ => fun
  | [] => { results := [.lit (.bool false)], args := [] }
  | _ => none }
def RailsNamesWrongFalsely : Prop := railsNamesRow.holds Try.pinned (OpenSpec.ofChange railsNamesWrong)

/-- 'reveillelaw19.RailsSlopes': WHATEVER THE INPUT: true; the input reads as it did. -/
def railsSlopesSpec : ChangeSpec := { name := "railsSlopes", fn := fun _ => fun
  | [d1, d2, d3, d4, d5, d6, d7] => { results := [.lit (.bool true)], args := [d1, d2, d3, d4, d5, d6, d7] }
  | _ => none }
def railsSlopesRow : OpenClaim := { program := "ytbbjnhajmckjoaa", sum := "d7edca1e1faf3d206fc2a3261e92332fa2df0a5a98a4fa7fbba4c2169132225a", func := "reveille/reveillelaw19.RailsSlopes", spec := "railsSlopes", inPlace := ["maps.clone", "math.Float64bits", "math.Float64frombits", "math.archMin", "math.archMax"], unfollowed := true, recurses := true, apart := false }
def RailsSlopesSaid : Prop := railsSlopesRow.holds Try.pinned (OpenSpec.ofChange railsSlopesSpec)

/-- ITS FALSE NEIGHBOUR: 'it returns false'. Refute it at one input. -/
def railsSlopesWrong : ChangeSpec := { name := "railsSlopes", fn := fun _ => fun
  | [d1, d2, d3, d4, d5, d6, d7] => { results := [.lit (.bool false)], args := [d1, d2, d3, d4, d5, d6, d7] }
  | _ => none }
def RailsSlopesWrongFalsely : Prop := railsSlopesRow.holds Try.pinned (OpenSpec.ofChange railsSlopesWrong)

/- THE SECOND FORM. 'bulk': how many values and letters a reading holds, each counted each time it is reached (what is shared counts as often as it is met; a slice's spare places count too). A statement '..UptoSaid' is the law's where the arguments, and the package variables that the reading takes, are together of bulk at most 1048576: NARROWER than '..Said'. Prove '..Said' where nothing that the law and all that it calls make is longer than what came in: it says more and counts as full. Else prove '..UptoSaid'. A law counts once. -/
mutual
def uptoBulk {H : Type} : DataW H → Nat
  | .lit (.string bytes) => bytes.length + 1
  | .lit _ => 1
  | .nil => 1
  | .ptr d => uptoBulk d + 1
  | .slice elems spare => uptoBulkAll elems + uptoBulkAll spare + 1
  | .agg parts => uptoBulkAll parts + 1
  | .iface _ d => uptoBulk d + 1
  | .map entries => uptoBulkEntries entries + 1
  | .held _ => 1
def uptoBulkAll {H : Type} : List (DataW H) → Nat
  | [] => 0
  | d :: r => uptoBulk d + uptoBulkAll r
def uptoBulkEntries {H : Type} : List (Lit × DataW H) → Nat
  | [] => 0
  | x :: r => uptoBulkEntry x + uptoBulkEntries r
def uptoBulkEntry {H : Type} : Lit × DataW H → Nat
  | (.string bytes, d) => bytes.length + uptoBulk d + 1
  | (_, d) => uptoBulk d + 1
 end
def uptoSmall : (H : Type) → List (DataW H) → Bool := fun _ ds => decide (uptoBulkAll ds ≤ 1048576)
def OpenSpec.upto (s : _root_.Go.ChangeSpec) : _root_.Go.OpenSpec := { _root_.Go.OpenSpec.ofChange s with cond := some uptoSmall }

/-- 'reveillelaw19.RailsMoves', WHERE WHAT IT READS IS OF BULK AT MOST 1048576: true; the input reads as it did. -/
def railsMovesUptoRow : OpenClaim := { program := "ytbbjnhajmckjoaa", sum := "d7edca1e1faf3d206fc2a3261e92332fa2df0a5a98a4fa7fbba4c2169132225a", func := "reveille/reveillelaw19.RailsMoves", spec := "railsMoves", apart := false, narrowed := true }
def RailsMovesUptoSaid : Prop := railsMovesUptoRow.holds Try.pinned (OpenSpec.upto railsMovesSpec)

/-- 'reveillelaw19.RailsMeet', WHERE WHAT IT READS IS OF BULK AT MOST 1048576: true; the input reads as it did. -/
def railsMeetUptoRow : OpenClaim := { program := "ytbbjnhajmckjoaa", sum := "d7edca1e1faf3d206fc2a3261e92332fa2df0a5a98a4fa7fbba4c2169132225a", func := "reveille/reveillelaw19.RailsMeet", spec := "railsMeet", apart := false, narrowed := true }
def RailsMeetUptoSaid : Prop := railsMeetUptoRow.holds Try.pinned (OpenSpec.upto railsMeetSpec)

/-- 'reveillelaw19.RailsSets', WHERE WHAT IT READS IS OF BULK AT MOST 1048576: true; the input reads as it did. -/
def railsSetsUptoRow : OpenClaim := { program := "ytbbjnhajmckjoaa", sum := "d7edca1e1faf3d206fc2a3261e92332fa2df0a5a98a4fa7fbba4c2169132225a", func := "reveille/reveillelaw19.RailsSets", spec := "railsSets", inPlace := ["maps.clone", "math.Float64bits", "math.Float64frombits"], unfollowed := true, recurses := true, apart := false, narrowed := true }
def RailsSetsUptoSaid : Prop := railsSetsUptoRow.holds Try.pinned (OpenSpec.upto railsSetsSpec)

/-- 'reveillelaw19.RailsWindows', WHERE WHAT IT READS IS OF BULK AT MOST 1048576: true; the input reads as it did. -/
def railsWindowsUptoRow : OpenClaim := { program := "ytbbjnhajmckjoaa", sum := "d7edca1e1faf3d206fc2a3261e92332fa2df0a5a98a4fa7fbba4c2169132225a", func := "reveille/reveillelaw19.RailsWindows", spec := "railsWindows", inPlace := ["maps.clone", "math.Float64bits", "math.Float64frombits"], unfollowed := true, recurses := true, apart := false, narrowed := true }
def RailsWindowsUptoSaid : Prop := railsWindowsUptoRow.holds Try.pinned (OpenSpec.upto railsWindowsSpec)

/-- 'reveillelaw19.RailsWays', WHERE WHAT IT READS IS OF BULK AT MOST 1048576: true; the input reads as it did. -/
def railsWaysUptoRow : OpenClaim := { program := "ytbbjnhajmckjoaa", sum := "d7edca1e1faf3d206fc2a3261e92332fa2df0a5a98a4fa7fbba4c2169132225a", func := "reveille/reveillelaw19.RailsWays", spec := "railsWays", inPlace := ["maps.clone", "math.Float64bits", "math.Float64frombits"], unfollowed := true, recurses := true, apart := false, narrowed := true }
def RailsWaysUptoSaid : Prop := railsWaysUptoRow.holds Try.pinned (OpenSpec.upto railsWaysSpec)

/-- 'reveillelaw19.RailsRamps', WHERE WHAT IT READS IS OF BULK AT MOST 1048576: true; the input reads as it did. -/
def railsRampsUptoRow : OpenClaim := { program := "ytbbjnhajmckjoaa", sum := "d7edca1e1faf3d206fc2a3261e92332fa2df0a5a98a4fa7fbba4c2169132225a", func := "reveille/reveillelaw19.RailsRamps", spec := "railsRamps", inPlace := ["math.Float64bits", "math.Float64frombits", "maps.clone"], unfollowed := true, recurses := true, apart := false, narrowed := true }
def RailsRampsUptoSaid : Prop := railsRampsUptoRow.holds Try.pinned (OpenSpec.upto railsRampsSpec)

/-- 'reveillelaw19.RailsNames', WHERE WHAT IT READS IS OF BULK AT MOST 1048576: true; the input reads as it did. -/
def railsNamesUptoRow : OpenClaim := { program := "ytbbjnhajmckjoaa", sum := "d7edca1e1faf3d206fc2a3261e92332fa2df0a5a98a4fa7fbba4c2169132225a", func := "reveille/reveillelaw19.RailsNames", spec := "railsNames", inPlace := ["math.Float64frombits", "math.Float64bits", "maps.clone"], unfollowed := true, recurses := true, apart := false, narrowed := true }
def RailsNamesUptoSaid : Prop := railsNamesUptoRow.holds Try.pinned (OpenSpec.upto railsNamesSpec)

/-- 'reveillelaw19.RailsSlopes', WHERE WHAT IT READS IS OF BULK AT MOST 1048576: true; the input reads as it did. -/
def railsSlopesUptoRow : OpenClaim := { program := "ytbbjnhajmckjoaa", sum := "d7edca1e1faf3d206fc2a3261e92332fa2df0a5a98a4fa7fbba4c2169132225a", func := "reveille/reveillelaw19.RailsSlopes", spec := "railsSlopes", inPlace := ["maps.clone", "math.Float64bits", "math.Float64frombits", "math.archMin", "math.archMax"], unfollowed := true, recurses := true, apart := false, narrowed := true }
def RailsSlopesUptoSaid : Prop := railsSlopesUptoRow.holds Try.pinned (OpenSpec.upto railsSlopesSpec)

end Rows
end Go.Proofs.Ytbbjnhajmckjoaa
