/-
  No cell of these rows narrows 'for every input' (looked for: loops, veiled, ifaces, maps, wideKeys, modest, calm, conditions, laid).
  DERIVED. THE GIVEN ROWS OF THIS SEAT. 7 by the template 'for every input the law returns true; each argument reads behind the call as it read before'; 0 by the template 'total and deterministic' (their statements: YtfmjmjppkdaanaaTotals.lean).
  GIVEN WITH THE SEED: the statements are not yours to turn. If you find one false, say at which input.
  Laid BY PROGRAM, IN A SANDBOX (cutbox-rows.mjs): the forced cells as the released guide's own fill.sh prints them over the translation e491b61d8ecee028… (all of the seat's roots in one cut). By AI agents, Wed Nov 11 2026. No macro, syntax, notation, axiom, sorry.
-/
import Derived.Test.YtfmjmjppkdaanaaChecked
import GoSem.Claim
import GoSem.ClaimJoined
import GoSem.ClaimMapViews
import Derived.JoinedTies
import Derived.KernelRfl
namespace Go.Proofs.Ytfmjmjppkdaanaa
/- THE CELL 'sum', in the pinned program and in every row, IS THE sha256 OF THE DUMP (.gsa) THAT YtfmjmjppkdaanaaProg.lean LOADS. Nothing in Lean hashes anything: it is a label: what it is worth is what the hold of that sum in a sandbox is worth. -/
noncomputable def Try.pinned : Pinned := { name := "ytfmjmjppkdaanaa", sum := "e491b61d8ecee028680e6c132b7c0389fca3629739320f3dcd189d305999fb0c", checked := Try.checked }
namespace Rows
def none {H : Type} : Left H := { results := [], args := [] }

/-- 'reveillelaw29.NetTurns': WHATEVER THE INPUT: true; the input reads as it did. -/
def netTurnsSpec : ChangeSpec := { name := "netTurns", fn := fun _ => fun
  | [d1, d2] => { results := [.lit (.bool true)], args := [d1, d2] }
  | _ => none }
def netTurnsRow : OpenClaim := { program := "ytfmjmjppkdaanaa", sum := "e491b61d8ecee028680e6c132b7c0389fca3629739320f3dcd189d305999fb0c", func := "reveille/reveillelaw29.NetTurns", spec := "netTurns", inPlace := ["math.Float64frombits", "math.Float64bits", "math.sqrt"], apart := false }
def NetTurnsSaid : Prop := netTurnsRow.holds Try.pinned (OpenSpec.ofChange netTurnsSpec)

/-- ITS FALSE NEIGHBOUR: 'it returns false'. Refute it at one input. -/
def netTurnsWrong : ChangeSpec := { name := "netTurns", fn := fun _ => fun
  | [d1, d2] => { results := [.lit (.bool false)], args := [d1, d2] }
  | _ => none }
def NetTurnsWrongFalsely : Prop := netTurnsRow.holds Try.pinned (OpenSpec.ofChange netTurnsWrong)

/-- 'reveillelaw29.NetAsks': WHATEVER THE INPUT: true; the input reads as it did. -/
def netAsksSpec : ChangeSpec := { name := "netAsks", fn := fun _ => fun
  | [d1, d2] => { results := [.lit (.bool true)], args := [d1, d2] }
  | _ => none }
def netAsksRow : OpenClaim := { program := "ytfmjmjppkdaanaa", sum := "e491b61d8ecee028680e6c132b7c0389fca3629739320f3dcd189d305999fb0c", func := "reveille/reveillelaw29.NetAsks", spec := "netAsks", inPlace := ["math.Float64frombits", "math.Float64bits"], unfollowed := true, recurses := true, apart := false }
def NetAsksSaid : Prop := netAsksRow.holds Try.pinned (OpenSpec.ofChange netAsksSpec)

/-- ITS FALSE NEIGHBOUR: 'it returns false'. Refute it at one input. -/
def netAsksWrong : ChangeSpec := { name := "netAsks", fn := fun _ => fun
  | [d1, d2] => { results := [.lit (.bool false)], args := [d1, d2] }
  | _ => none }
def NetAsksWrongFalsely : Prop := netAsksRow.holds Try.pinned (OpenSpec.ofChange netAsksWrong)

/-- 'reveillelaw29.NetPassive': WHATEVER THE INPUT: true; the input reads as it did. -/
def netPassiveSpec : ChangeSpec := { name := "netPassive", fn := fun _ => fun
  | [d1, d2] => { results := [.lit (.bool true)], args := [d1, d2] }
  | _ => none }
def netPassiveRow : OpenClaim := { program := "ytfmjmjppkdaanaa", sum := "e491b61d8ecee028680e6c132b7c0389fca3629739320f3dcd189d305999fb0c", func := "reveille/reveillelaw29.NetPassive", spec := "netPassive", inPlace := ["math.Float64bits", "math.Float64frombits"], unfollowed := true, recurses := true, apart := false }
def NetPassiveSaid : Prop := netPassiveRow.holds Try.pinned (OpenSpec.ofChange netPassiveSpec)

/-- ITS FALSE NEIGHBOUR: 'it returns false'. Refute it at one input. -/
def netPassiveWrong : ChangeSpec := { name := "netPassive", fn := fun _ => fun
  | [d1, d2] => { results := [.lit (.bool false)], args := [d1, d2] }
  | _ => none }
def NetPassiveWrongFalsely : Prop := netPassiveRow.holds Try.pinned (OpenSpec.ofChange netPassiveWrong)

/-- 'reveillelaw29.NetTurned': WHATEVER THE INPUT: true; the input reads as it did. -/
def netTurnedSpec : ChangeSpec := { name := "netTurned", fn := fun _ => fun
  | [d1, d2, d3, d4] => { results := [.lit (.bool true)], args := [d1, d2, d3, d4] }
  | _ => none }
def netTurnedRow : OpenClaim := { program := "ytfmjmjppkdaanaa", sum := "e491b61d8ecee028680e6c132b7c0389fca3629739320f3dcd189d305999fb0c", func := "reveille/reveillelaw29.NetTurned", spec := "netTurned", inPlace := ["math.Float64bits", "math.Float64frombits"], unfollowed := true, recurses := true, apart := false }
def NetTurnedSaid : Prop := netTurnedRow.holds Try.pinned (OpenSpec.ofChange netTurnedSpec)

/-- ITS FALSE NEIGHBOUR: 'it returns false'. Refute it at one input. -/
def netTurnedWrong : ChangeSpec := { name := "netTurned", fn := fun _ => fun
  | [d1, d2, d3, d4] => { results := [.lit (.bool false)], args := [d1, d2, d3, d4] }
  | _ => none }
def NetTurnedWrongFalsely : Prop := netTurnedRow.holds Try.pinned (OpenSpec.ofChange netTurnedWrong)

/-- 'reveillelaw29.NetNames': WHATEVER THE INPUT: true; the input reads as it did. -/
def netNamesSpec : ChangeSpec := { name := "netNames", fn := fun _ => fun
  | [] => { results := [.lit (.bool true)], args := [] }
  | _ => none }
def netNamesRow : OpenClaim := { program := "ytfmjmjppkdaanaa", sum := "e491b61d8ecee028680e6c132b7c0389fca3629739320f3dcd189d305999fb0c", func := "reveille/reveillelaw29.NetNames", spec := "netNames", inPlace := ["math.Float64bits", "math.Float64frombits"], unfollowed := true, recurses := true, apart := false }
def NetNamesSaid : Prop := netNamesRow.holds Try.pinned (OpenSpec.ofChange netNamesSpec)

/-- ITS FALSE NEIGHBOUR: 'it returns false'. Refute it at one input. -/
def netNamesWrong : ChangeSpec := { name := "netNames", fn := fun _ => fun
  | [] => { results := [.lit (.bool false)], args := [] }
  | _ => none }
def NetNamesWrongFalsely : Prop := netNamesRow.holds Try.pinned (OpenSpec.ofChange netNamesWrong)

/-- 'reveillelaw29.NetSweeps': WHATEVER THE INPUT: true; the input reads as it did. -/
def netSweepsSpec : ChangeSpec := { name := "netSweeps", fn := fun _ => fun
  | [d1, d2] => { results := [.lit (.bool true)], args := [d1, d2] }
  | _ => none }
def netSweepsRow : OpenClaim := { program := "ytfmjmjppkdaanaa", sum := "e491b61d8ecee028680e6c132b7c0389fca3629739320f3dcd189d305999fb0c", func := "reveille/reveillelaw29.NetSweeps", spec := "netSweeps", inPlace := ["math.Float64frombits", "math.Float64bits"], unfollowed := true, recurses := true, apart := false }
def NetSweepsSaid : Prop := netSweepsRow.holds Try.pinned (OpenSpec.ofChange netSweepsSpec)

/-- ITS FALSE NEIGHBOUR: 'it returns false'. Refute it at one input. -/
def netSweepsWrong : ChangeSpec := { name := "netSweeps", fn := fun _ => fun
  | [d1, d2] => { results := [.lit (.bool false)], args := [d1, d2] }
  | _ => none }
def NetSweepsWrongFalsely : Prop := netSweepsRow.holds Try.pinned (OpenSpec.ofChange netSweepsWrong)

/-- 'reveillelaw29.NetLonger': WHATEVER THE INPUT: true; the input reads as it did. -/
def netLongerSpec : ChangeSpec := { name := "netLonger", fn := fun _ => fun
  | [d1, d2, d3] => { results := [.lit (.bool true)], args := [d1, d2, d3] }
  | _ => none }
def netLongerRow : OpenClaim := { program := "ytfmjmjppkdaanaa", sum := "e491b61d8ecee028680e6c132b7c0389fca3629739320f3dcd189d305999fb0c", func := "reveille/reveillelaw29.NetLonger", spec := "netLonger", inPlace := ["math.Float64bits", "math.Float64frombits"], unfollowed := true, recurses := true, apart := false }
def NetLongerSaid : Prop := netLongerRow.holds Try.pinned (OpenSpec.ofChange netLongerSpec)

/-- ITS FALSE NEIGHBOUR: 'it returns false'. Refute it at one input. -/
def netLongerWrong : ChangeSpec := { name := "netLonger", fn := fun _ => fun
  | [d1, d2, d3] => { results := [.lit (.bool false)], args := [d1, d2, d3] }
  | _ => none }
def NetLongerWrongFalsely : Prop := netLongerRow.holds Try.pinned (OpenSpec.ofChange netLongerWrong)

/- THE SECOND FORM. 'bulk': how many values and letters a reading holds, each counted each time it is reached (what is shared counts as often as it is met; a slice's spare places count too). A statement '..UptoSaid' is the law's where the arguments, and the package variables that the reading takes, are together of bulk at most 1048576: NARROWER than '..Said'. Prove '..Said' where nothing that the law and all that it calls make is longer than what came in: it says more and counts as full. Else prove '..UptoSaid'. A law counts once. -/
mutual
def uptoBulk {H : Type} : DataW H → Nat
  | .lit (.string bytes) => bytes.length + 1
  | .lit _ => 1
  | .nil => 1
  | .ptr d => uptoBulk d + 1
  | .slice elems spare => uptoBulkAll elems + uptoBulkAll spare + 1
  | .agg parts => uptoBulkAll parts + 1
  | .iface _ d => uptoBulk d + 1
  | .map entries => uptoBulkEntries entries + 1
  | .held _ => 1
def uptoBulkAll {H : Type} : List (DataW H) → Nat
  | [] => 0
  | d :: r => uptoBulk d + uptoBulkAll r
def uptoBulkEntries {H : Type} : List (Lit × DataW H) → Nat
  | [] => 0
  | x :: r => uptoBulkEntry x + uptoBulkEntries r
def uptoBulkEntry {H : Type} : Lit × DataW H → Nat
  | (.string bytes, d) => bytes.length + uptoBulk d + 1
  | (_, d) => uptoBulk d + 1
 end
def uptoSmall : (H : Type) → List (DataW H) → Bool := fun _ ds => decide (uptoBulkAll ds ≤ 1048576)
def OpenSpec.upto (s : _root_.Go.ChangeSpec) : _root_.Go.OpenSpec := { _root_.Go.OpenSpec.ofChange s with cond := some uptoSmall }

/-- 'reveillelaw29.NetTurns', WHERE WHAT IT READS IS OF BULK AT MOST 1048576: true; the input reads as it did. -/
def netTurnsUptoRow : OpenClaim := { program := "ytfmjmjppkdaanaa", sum := "e491b61d8ecee028680e6c132b7c0389fca3629739320f3dcd189d305999fb0c", func := "reveille/reveillelaw29.NetTurns", spec := "netTurns", inPlace := ["math.Float64frombits", "math.Float64bits", "math.sqrt"], apart := false, narrowed := true }
def NetTurnsUptoSaid : Prop := netTurnsUptoRow.holds Try.pinned (OpenSpec.upto netTurnsSpec)

/-- 'reveillelaw29.NetAsks', WHERE WHAT IT READS IS OF BULK AT MOST 1048576: true; the input reads as it did. -/
def netAsksUptoRow : OpenClaim := { program := "ytfmjmjppkdaanaa", sum := "e491b61d8ecee028680e6c132b7c0389fca3629739320f3dcd189d305999fb0c", func := "reveille/reveillelaw29.NetAsks", spec := "netAsks", inPlace := ["math.Float64frombits", "math.Float64bits"], unfollowed := true, recurses := true, apart := false, narrowed := true }
def NetAsksUptoSaid : Prop := netAsksUptoRow.holds Try.pinned (OpenSpec.upto netAsksSpec)

/-- 'reveillelaw29.NetPassive', WHERE WHAT IT READS IS OF BULK AT MOST 1048576: true; the input reads as it did. -/
def netPassiveUptoRow : OpenClaim := { program := "ytfmjmjppkdaanaa", sum := "e491b61d8ecee028680e6c132b7c0389fca3629739320f3dcd189d305999fb0c", func := "reveille/reveillelaw29.NetPassive", spec := "netPassive", inPlace := ["math.Float64bits", "math.Float64frombits"], unfollowed := true, recurses := true, apart := false, narrowed := true }
def NetPassiveUptoSaid : Prop := netPassiveUptoRow.holds Try.pinned (OpenSpec.upto netPassiveSpec)

/-- 'reveillelaw29.NetTurned', WHERE WHAT IT READS IS OF BULK AT MOST 1048576: true; the input reads as it did. -/
def netTurnedUptoRow : OpenClaim := { program := "ytfmjmjppkdaanaa", sum := "e491b61d8ecee028680e6c132b7c0389fca3629739320f3dcd189d305999fb0c", func := "reveille/reveillelaw29.NetTurned", spec := "netTurned", inPlace := ["math.Float64bits", "math.Float64frombits"], unfollowed := true, recurses := true, apart := false, narrowed := true }
def NetTurnedUptoSaid : Prop := netTurnedUptoRow.holds Try.pinned (OpenSpec.upto netTurnedSpec)

/-- 'reveillelaw29.NetNames', WHERE WHAT IT READS IS OF BULK AT MOST 1048576: true; the input reads as it did. -/
def netNamesUptoRow : OpenClaim := { program := "ytfmjmjppkdaanaa", sum := "e491b61d8ecee028680e6c132b7c0389fca3629739320f3dcd189d305999fb0c", func := "reveille/reveillelaw29.NetNames", spec := "netNames", inPlace := ["math.Float64bits", "math.Float64frombits"], unfollowed := true, recurses := true, apart := false, narrowed := true }
def NetNamesUptoSaid : Prop := netNamesUptoRow.holds Try.pinned (OpenSpec.upto netNamesSpec)

/-- 'reveillelaw29.NetSweeps', WHERE WHAT IT READS IS OF BULK AT MOST 1048576: true; the input reads as it did. -/
def netSweepsUptoRow : OpenClaim := { program := "ytfmjmjppkdaanaa", sum := "e491b61d8ecee028680e6c132b7c0389fca3629739320f3dcd189d305999fb0c", func := "reveille/reveillelaw29.NetSweeps", spec := "netSweeps", inPlace := ["math.Float64frombits", "math.Float64bits"], unfollowed := true, recurses := true, apart := false, narrowed := true }
def NetSweepsUptoSaid : Prop := netSweepsUptoRow.holds Try.pinned (OpenSpec.upto netSweepsSpec)

/-- 'reveillelaw29.NetLonger', WHERE WHAT IT READS IS OF BULK AT MOST 1048576: true; the input reads as it did. -/
def netLongerUptoRow : OpenClaim := { program := "ytfmjmjppkdaanaa", sum := "e491b61d8ecee028680e6c132b7c0389fca3629739320f3dcd189d305999fb0c", func := "reveille/reveillelaw29.NetLonger", spec := "netLonger", inPlace := ["math.Float64bits", "math.Float64frombits"], unfollowed := true, recurses := true, apart := false, narrowed := true }
def NetLongerUptoSaid : Prop := netLongerUptoRow.holds Try.pinned (OpenSpec.upto netLongerSpec)

end Rows
end Go.Proofs.Ytfmjmjppkdaanaa
