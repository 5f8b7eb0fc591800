/-
  No cell of these rows narrows 'for every input' (looked for: loops, veiled, ifaces, maps, wideKeys, modest, calm, conditions, laid).
  DERIVED. THE GIVEN ROWS OF THIS SEAT. 4 by the template 'for every input the law returns true; each argument reads behind the call as it read before'; 0 by the template 'total and deterministic' (their statements: YtdjdkhbagoideaaTotals.lean).
  GIVEN WITH THE SEED: the statements are not yours to turn. If you find one false, say at which input.
  Laid BY PROGRAM, IN A SANDBOX (cutbox-rows.mjs): the forced cells as the released guide's own fill.sh prints them over the translation f43472ad7c2a5587… (all of the seat's roots in one cut). By AI agents, Wed Nov 11 2026. No macro, syntax, notation, axiom, sorry.
-/
import Derived.Test.YtdjdkhbagoideaaChecked
import GoSem.Claim
import GoSem.ClaimJoined
import GoSem.ClaimMapViews
import Derived.JoinedTies
import Derived.KernelRfl
namespace Go.Proofs.Ytdjdkhbagoideaa
/- THE CELL 'sum', in the pinned program and in every row, IS THE sha256 OF THE DUMP (.gsa) THAT YtdjdkhbagoideaaProg.lean LOADS. Nothing in Lean hashes anything: it is a label: what it is worth is what the hold of that sum in a sandbox is worth. -/
noncomputable def Try.pinned : Pinned := { name := "ytdjdkhbagoideaa", sum := "f43472ad7c2a5587262d5c6fdfb1f2974ac6d1235018fbaef0aa755d26981499", checked := Try.checked }
namespace Rows
def none {H : Type} : Left H := { results := [], args := [] }

/-- 'reveillelaw27.HeatSettles': WHATEVER THE INPUT: true; the input reads as it did. -/
def heatSettlesSpec : ChangeSpec := { name := "heatSettles", fn := fun _ => fun
  | [d] => { results := [.lit (.bool true)], args := [d] }
  | _ => none }
def heatSettlesRow : OpenClaim := { program := "ytdjdkhbagoideaa", sum := "f43472ad7c2a5587262d5c6fdfb1f2974ac6d1235018fbaef0aa755d26981499", func := "reveille/reveillelaw27.HeatSettles", spec := "heatSettles", inPlace := ["math.Float64frombits", "math.archCeil", "math.archFloor", "math.Float64bits", "math.archTrunc"], unfollowed := true, recurses := true, apart := false }
def HeatSettlesSaid : Prop := heatSettlesRow.holds Try.pinned (OpenSpec.ofChange heatSettlesSpec)

/-- ITS FALSE NEIGHBOUR: 'it returns false'. Refute it at one input. -/
def heatSettlesWrong : ChangeSpec := { name := "heatSettles", fn := fun _ => fun
  | [d] => { results := [.lit (.bool false)], args := [d] }
  | _ => none }
def HeatSettlesWrongFalsely : Prop := heatSettlesRow.holds Try.pinned (OpenSpec.ofChange heatSettlesWrong)

/-- 'reveillelaw27.HeatSteps': WHATEVER THE INPUT: true; the input reads as it did. -/
def heatStepsSpec : ChangeSpec := { name := "heatSteps", fn := fun _ => fun
  | [d1, d2] => { results := [.lit (.bool true)], args := [d1, d2] }
  | _ => none }
def heatStepsRow : OpenClaim := { program := "ytdjdkhbagoideaa", sum := "f43472ad7c2a5587262d5c6fdfb1f2974ac6d1235018fbaef0aa755d26981499", func := "reveille/reveillelaw27.HeatSteps", spec := "heatSteps", inPlace := ["math.Float64frombits", "math.Float64bits", "math.archCeil", "math.archFloor", "math.archTrunc"], unfollowed := true, recurses := true, apart := false }
def HeatStepsSaid : Prop := heatStepsRow.holds Try.pinned (OpenSpec.ofChange heatStepsSpec)

/-- ITS FALSE NEIGHBOUR: 'it returns false'. Refute it at one input. -/
def heatStepsWrong : ChangeSpec := { name := "heatSteps", fn := fun _ => fun
  | [d1, d2] => { results := [.lit (.bool false)], args := [d1, d2] }
  | _ => none }
def HeatStepsWrongFalsely : Prop := heatStepsRow.holds Try.pinned (OpenSpec.ofChange heatStepsWrong)

/-- 'reveillelaw27.HeatCalm': WHATEVER THE INPUT: true; the input reads as it did. -/
def heatCalmSpec : ChangeSpec := { name := "heatCalm", fn := fun _ => fun
  | [d1, d2] => { results := [.lit (.bool true)], args := [d1, d2] }
  | _ => none }
def heatCalmRow : OpenClaim := { program := "ytdjdkhbagoideaa", sum := "f43472ad7c2a5587262d5c6fdfb1f2974ac6d1235018fbaef0aa755d26981499", func := "reveille/reveillelaw27.HeatCalm", spec := "heatCalm", inPlace := ["math.Float64frombits", "math.archCeil", "math.archFloor", "math.Float64bits", "math.archTrunc"], unfollowed := true, recurses := true, apart := false }
def HeatCalmSaid : Prop := heatCalmRow.holds Try.pinned (OpenSpec.ofChange heatCalmSpec)

/-- ITS FALSE NEIGHBOUR: 'it returns false'. Refute it at one input. -/
def heatCalmWrong : ChangeSpec := { name := "heatCalm", fn := fun _ => fun
  | [d1, d2] => { results := [.lit (.bool false)], args := [d1, d2] }
  | _ => none }
def HeatCalmWrongFalsely : Prop := heatCalmRow.holds Try.pinned (OpenSpec.ofChange heatCalmWrong)

/-- 'reveillelaw27.HeatBroken': WHATEVER THE INPUT: true; the input reads as it did. -/
def heatBrokenSpec : ChangeSpec := { name := "heatBroken", fn := fun _ => fun
  | [d1, d2, d3] => { results := [.lit (.bool true)], args := [d1, d2, d3] }
  | _ => none }
def heatBrokenRow : OpenClaim := { program := "ytdjdkhbagoideaa", sum := "f43472ad7c2a5587262d5c6fdfb1f2974ac6d1235018fbaef0aa755d26981499", func := "reveille/reveillelaw27.HeatBroken", spec := "heatBroken", inPlace := ["math.Float64frombits", "math.archCeil", "math.archFloor", "math.Float64bits", "math.archTrunc"], unfollowed := true, recurses := true, apart := false }
def HeatBrokenSaid : Prop := heatBrokenRow.holds Try.pinned (OpenSpec.ofChange heatBrokenSpec)

/-- ITS FALSE NEIGHBOUR: 'it returns false'. Refute it at one input. -/
def heatBrokenWrong : ChangeSpec := { name := "heatBroken", fn := fun _ => fun
  | [d1, d2, d3] => { results := [.lit (.bool false)], args := [d1, d2, d3] }
  | _ => none }
def HeatBrokenWrongFalsely : Prop := heatBrokenRow.holds Try.pinned (OpenSpec.ofChange heatBrokenWrong)

/- THE SECOND FORM. 'bulk': how many values and letters a reading holds, each counted each time it is reached (what is shared counts as often as it is met; a slice's spare places count too). A statement '..UptoSaid' is the law's where the arguments, and the package variables that the reading takes, are together of bulk at most 1048576: NARROWER than '..Said'. Prove '..Said' where nothing that the law and all that it calls make is longer than what came in: it says more and counts as full. Else prove '..UptoSaid'. A law counts once. -/
mutual
def uptoBulk {H : Type} : DataW H → Nat
  | .lit (.string bytes) => bytes.length + 1
  | .lit _ => 1
  | .nil => 1
  | .ptr d => uptoBulk d + 1
  | .slice elems spare => uptoBulkAll elems + uptoBulkAll spare + 1
  | .agg parts => uptoBulkAll parts + 1
  | .iface _ d => uptoBulk d + 1
  | .map entries => uptoBulkEntries entries + 1
  | .held _ => 1
def uptoBulkAll {H : Type} : List (DataW H) → Nat
  | [] => 0
  | d :: r => uptoBulk d + uptoBulkAll r
def uptoBulkEntries {H : Type} : List (Lit × DataW H) → Nat
  | [] => 0
  | x :: r => uptoBulkEntry x + uptoBulkEntries r
def uptoBulkEntry {H : Type} : Lit × DataW H → Nat
  | (.string bytes, d) => bytes.length + uptoBulk d + 1
  | (_, d) => uptoBulk d + 1
 end
def uptoSmall : (H : Type) → List (DataW H) → Bool := fun _ ds => decide (uptoBulkAll ds ≤ 1048576)
def OpenSpec.upto (s : _root_.Go.ChangeSpec) : _root_.Go.OpenSpec := { _root_.Go.OpenSpec.ofChange s with cond := some uptoSmall }

/-- 'reveillelaw27.HeatSettles', WHERE WHAT IT READS IS OF BULK AT MOST 1048576: true; the input reads as it did. -/
def heatSettlesUptoRow : OpenClaim := { program := "ytdjdkhbagoideaa", sum := "f43472ad7c2a5587262d5c6fdfb1f2974ac6d1235018fbaef0aa755d26981499", func := "reveille/reveillelaw27.HeatSettles", spec := "heatSettles", inPlace := ["math.Float64frombits", "math.archCeil", "math.archFloor", "math.Float64bits", "math.archTrunc"], unfollowed := true, recurses := true, apart := false, narrowed := true }
def HeatSettlesUptoSaid : Prop := heatSettlesUptoRow.holds Try.pinned (OpenSpec.upto heatSettlesSpec)

/-- 'reveillelaw27.HeatSteps', WHERE WHAT IT READS IS OF BULK AT MOST 1048576: true; the input reads as it did. -/
def heatStepsUptoRow : OpenClaim := { program := "ytdjdkhbagoideaa", sum := "f43472ad7c2a5587262d5c6fdfb1f2974ac6d1235018fbaef0aa755d26981499", func := "reveille/reveillelaw27.HeatSteps", spec := "heatSteps", inPlace := ["math.Float64frombits", "math.Float64bits", "math.archCeil", "math.archFloor", "math.archTrunc"], unfollowed := true, recurses := true, apart := false, narrowed := true }
def HeatStepsUptoSaid : Prop := heatStepsUptoRow.holds Try.pinned (OpenSpec.upto heatStepsSpec)

/-- 'reveillelaw27.HeatCalm', WHERE WHAT IT READS IS OF BULK AT MOST 1048576: true; the input reads as it did. -/
def heatCalmUptoRow : OpenClaim := { program := "ytdjdkhbagoideaa", sum := "f43472ad7c2a5587262d5c6fdfb1f2974ac6d1235018fbaef0aa755d26981499", func := "reveille/reveillelaw27.HeatCalm", spec := "heatCalm", inPlace := ["math.Float64frombits", "math.archCeil", "math.archFloor", "math.Float64bits", "math.archTrunc"], unfollowed := true, recurses := true, apart := false, narrowed := true }
def HeatCalmUptoSaid : Prop := heatCalmUptoRow.holds Try.pinned (OpenSpec.upto heatCalmSpec)

/-- 'reveillelaw27.HeatBroken', WHERE WHAT IT READS IS OF BULK AT MOST 1048576: true; the input reads as it did. -/
def heatBrokenUptoRow : OpenClaim := { program := "ytdjdkhbagoideaa", sum := "f43472ad7c2a5587262d5c6fdfb1f2974ac6d1235018fbaef0aa755d26981499", func := "reveille/reveillelaw27.HeatBroken", spec := "heatBroken", inPlace := ["math.Float64frombits", "math.archCeil", "math.archFloor", "math.Float64bits", "math.archTrunc"], unfollowed := true, recurses := true, apart := false, narrowed := true }
def HeatBrokenUptoSaid : Prop := heatBrokenUptoRow.holds Try.pinned (OpenSpec.upto heatBrokenSpec)

end Rows
end Go.Proofs.Ytdjdkhbagoideaa
