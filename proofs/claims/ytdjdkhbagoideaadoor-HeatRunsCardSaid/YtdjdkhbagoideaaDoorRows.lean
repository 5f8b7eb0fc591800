/-
  NARROWER THAN 'FOR EVERY INPUT', by the rows' own cells (each row's printed sentence says how): HeatNone: laid · HeatRuns: laid.
  DERIVED. THE GIVEN ROWS OF THIS SEAT. 2 by the template 'for every input the law returns true; each argument reads behind the call as it read before'; 0 by the template 'total and deterministic' (their statements: YtdjdkhbagoideaaDoorTotals.lean).
  GIVEN WITH THE SEED: the statements are not yours to turn. If you find one false, say at which input.
  Laid BY PROGRAM, IN A SANDBOX (cutbox-rows.mjs): the forced cells as the released guide's own fill.sh prints them over the translation 43a94d2a69f2b42a… (all of the seat's roots in one cut). By AI agents, Wed Nov 11 2026. No macro, syntax, notation, axiom, sorry.
-/
import Derived.Test.YtdjdkhbagoideaaDoorChecked
import GoSem.Claim
import GoSem.ClaimJoined
import GoSem.ClaimMapViews
import Derived.JoinedTies
import Derived.KernelRfl
namespace Go.Proofs.YtdjdkhbagoideaaDoor
/- THE CELL 'sum', in the pinned program and in every row, IS THE sha256 OF THE DUMP (.gsa) THAT YtdjdkhbagoideaaDoorProg.lean LOADS. Nothing in Lean hashes anything: it is a label: what it is worth is what the hold of that sum in a sandbox is worth. -/
noncomputable def Tryd.pinned : Pinned := { name := "ytdjdkhbagoideaadoor", sum := "43a94d2a69f2b42aa1aa4640042d363c7b9903b7c5e23b5c5d244a081cd20119", checked := Tryd.checked }
namespace Rows
def none {H : Type} : Left H := { results := [], args := [] }

/- WHAT THE LISTED PACKAGE-LEVEL VARIABLES READ AS WHEN THE CALL BEGINS. Each datum BY PROGRAM (the guide's laid-datum.mjs) off the statement by which the dump's own 'gosem.cut.vars' lays the variable. In a bare row this is a premise. The card (YtdjdkhbagoideaaDoorCards.lean) ties it to the program's text. -/
def laid_reveille_sensor_table {H : Type} : DataW H := .agg [.lit (.int .i64 625000), .lit (.int .i64 2122500), .lit (.int .i64 3145000), .lit (.int .i64 4167500), .lit (.int .i64 5190000), .lit (.int .i64 6212500), .lit (.int .i64 7235000), .lit (.int .i64 8257500), .lit (.int .i64 9280000), .lit (.int .i64 10302500), .lit (.int .i64 11325000), .lit (.int .i64 12347500), .lit (.int .i64 13370000), .lit (.int .i64 14392500), .lit (.int .i64 15415000), .lit (.int .i64 16937500)]

/-- 'reveillelaw27.HeatNone': WHATEVER THE INPUT: true; the input reads as it did. -/
def heatNoneSpec : ChangeSpec := { name := "heatNone", fn := fun _ => fun
  | [] => { results := [.lit (.bool true)], args := [] }
  | _ => none }
def heatNoneRow : OpenClaim := { program := "ytdjdkhbagoideaadoor", sum := "43a94d2a69f2b42aa1aa4640042d363c7b9903b7c5e23b5c5d244a081cd20119", func := "reveille/reveillelaw27.HeatNone", spec := "heatNone", inPlace := ["math.archCeil", "math.archFloor", "math.Float64bits", "math.Float64frombits", "math.archTrunc"], unfollowed := true, recurses := true, named := ["reveille/sensor.table"], apart := false, laid := [("reveille/sensor.table", laid_reveille_sensor_table)] }
def HeatNoneSaid : Prop := heatNoneRow.holds Tryd.pinned (OpenSpec.ofChange heatNoneSpec)

/-- ITS FALSE NEIGHBOUR: 'it returns false'. Refute it at one input. -/
def heatNoneWrong : ChangeSpec := { name := "heatNone", fn := fun _ => fun
  | [] => { results := [.lit (.bool false)], args := [] }
  | _ => none }
def HeatNoneWrongFalsely : Prop := heatNoneRow.holds Tryd.pinned (OpenSpec.ofChange heatNoneWrong)

/-- 'reveillelaw27.HeatRuns': WHATEVER THE INPUT: true; the input reads as it did. -/
def heatRunsSpec : ChangeSpec := { name := "heatRuns", fn := fun _ => fun
  | [d1, d2] => { results := [.lit (.bool true)], args := [d1, d2] }
  | _ => none }
def heatRunsRow : OpenClaim := { program := "ytdjdkhbagoideaadoor", sum := "43a94d2a69f2b42aa1aa4640042d363c7b9903b7c5e23b5c5d244a081cd20119", func := "reveille/reveillelaw27.HeatRuns", spec := "heatRuns", inPlace := ["math.Float64frombits", "math.Float64bits", "math.archCeil", "math.archFloor", "math.archTrunc"], unfollowed := true, recurses := true, named := ["reveille/sensor.table"], apart := false, laid := [("reveille/sensor.table", laid_reveille_sensor_table)] }
def HeatRunsSaid : Prop := heatRunsRow.holds Tryd.pinned (OpenSpec.ofChange heatRunsSpec)

/-- ITS FALSE NEIGHBOUR: 'it returns false'. Refute it at one input. -/
def heatRunsWrong : ChangeSpec := { name := "heatRuns", fn := fun _ => fun
  | [d1, d2] => { results := [.lit (.bool false)], args := [d1, d2] }
  | _ => none }
def HeatRunsWrongFalsely : Prop := heatRunsRow.holds Tryd.pinned (OpenSpec.ofChange heatRunsWrong)

/- THE SECOND FORM. 'bulk': how many values and letters a reading holds, each counted each time it is reached (what is shared counts as often as it is met; a slice's spare places count too). A statement '..UptoSaid' is the law's where the arguments, and the package variables that the reading takes, are together of bulk at most 1048576: NARROWER than '..Said'. Prove '..Said' where nothing that the law and all that it calls make is longer than what came in: it says more and counts as full. Else prove '..UptoSaid'. A law counts once. -/
mutual
def uptoBulk {H : Type} : DataW H → Nat
  | .lit (.string bytes) => bytes.length + 1
  | .lit _ => 1
  | .nil => 1
  | .ptr d => uptoBulk d + 1
  | .slice elems spare => uptoBulkAll elems + uptoBulkAll spare + 1
  | .agg parts => uptoBulkAll parts + 1
  | .iface _ d => uptoBulk d + 1
  | .map entries => uptoBulkEntries entries + 1
  | .held _ => 1
def uptoBulkAll {H : Type} : List (DataW H) → Nat
  | [] => 0
  | d :: r => uptoBulk d + uptoBulkAll r
def uptoBulkEntries {H : Type} : List (Lit × DataW H) → Nat
  | [] => 0
  | x :: r => uptoBulkEntry x + uptoBulkEntries r
def uptoBulkEntry {H : Type} : Lit × DataW H → Nat
  | (.string bytes, d) => bytes.length + uptoBulk d + 1
  | (_, d) => uptoBulk d + 1
 end
def uptoSmall : (H : Type) → List (DataW H) → Bool := fun _ ds => decide (uptoBulkAll ds ≤ 1048576)
def OpenSpec.upto (s : _root_.Go.ChangeSpec) : _root_.Go.OpenSpec := { _root_.Go.OpenSpec.ofChange s with cond := some uptoSmall }

/-- 'reveillelaw27.HeatNone', WHERE WHAT IT READS IS OF BULK AT MOST 1048576: true; the input reads as it did. -/
def heatNoneUptoRow : OpenClaim := { program := "ytdjdkhbagoideaadoor", sum := "43a94d2a69f2b42aa1aa4640042d363c7b9903b7c5e23b5c5d244a081cd20119", func := "reveille/reveillelaw27.HeatNone", spec := "heatNone", inPlace := ["math.archCeil", "math.archFloor", "math.Float64bits", "math.Float64frombits", "math.archTrunc"], unfollowed := true, recurses := true, named := ["reveille/sensor.table"], apart := false, laid := [("reveille/sensor.table", laid_reveille_sensor_table)], narrowed := true }
def HeatNoneUptoSaid : Prop := heatNoneUptoRow.holds Tryd.pinned (OpenSpec.upto heatNoneSpec)

/-- 'reveillelaw27.HeatRuns', WHERE WHAT IT READS IS OF BULK AT MOST 1048576: true; the input reads as it did. -/
def heatRunsUptoRow : OpenClaim := { program := "ytdjdkhbagoideaadoor", sum := "43a94d2a69f2b42aa1aa4640042d363c7b9903b7c5e23b5c5d244a081cd20119", func := "reveille/reveillelaw27.HeatRuns", spec := "heatRuns", inPlace := ["math.Float64frombits", "math.Float64bits", "math.archCeil", "math.archFloor", "math.archTrunc"], unfollowed := true, recurses := true, named := ["reveille/sensor.table"], apart := false, laid := [("reveille/sensor.table", laid_reveille_sensor_table)], narrowed := true }
def HeatRunsUptoSaid : Prop := heatRunsUptoRow.holds Tryd.pinned (OpenSpec.upto heatRunsSpec)

end Rows
end Go.Proofs.YtdjdkhbagoideaaDoor
