/-
  NARROWER THAN 'FOR EVERY INPUT', by the rows' own cells (each row's printed sentence says how): SensorStands: laid · SensorMade: laid · SensorRises: laid · SensorReads: laid · SensorParts: laid · SensorNames: laid.
  DERIVED. THE GIVEN ROWS OF THIS SEAT. 6 by the template 'for every input the law returns true; each argument reads behind the call as it read before'; 0 by the template 'total and deterministic' (their statements: YtgpapbpkcggolaaDoorTotals.lean).
  GIVEN WITH THE SEED: the statements are not yours to turn. If you find one false, say at which input.
  Laid BY PROGRAM, IN A SANDBOX (cutbox-rows.mjs): the forced cells as the released guide's own fill.sh prints them over the translation 392dd0b4e3fb0e7e… (all of the seat's roots in one cut). By AI agents, Wed Nov 11 2026. No macro, syntax, notation, axiom, sorry.
-/
import Derived.Test.YtgpapbpkcggolaaDoorChecked
import GoSem.Claim
import GoSem.ClaimJoined
import GoSem.ClaimMapViews
import Derived.JoinedTies
import Derived.KernelRfl
namespace Go.Proofs.YtgpapbpkcggolaaDoor
/- THE CELL 'sum', in the pinned program and in every row, IS THE sha256 OF THE DUMP (.gsa) THAT YtgpapbpkcggolaaDoorProg.lean LOADS. Nothing in Lean hashes anything: it is a label: what it is worth is what the hold of that sum in a sandbox is worth. -/
noncomputable def Tryd.pinned : Pinned := { name := "ytgpapbpkcggolaadoor", sum := "392dd0b4e3fb0e7e3c63c86ae6990f820c1648463891194b1f055bac68960b41", checked := Tryd.checked }
namespace Rows
def none {H : Type} : Left H := { results := [], args := [] }

/- WHAT THE LISTED PACKAGE-LEVEL VARIABLES READ AS WHEN THE CALL BEGINS. Each datum BY PROGRAM (the guide's laid-datum.mjs) off the statement by which the dump's own 'gosem.cut.vars' lays the variable. In a bare row this is a premise. The card (YtgpapbpkcggolaaDoorCards.lean) ties it to the program's text. -/
def laid_reveille_sensor_table {H : Type} : DataW H := .agg [.lit (.int .i64 625000), .lit (.int .i64 2122500), .lit (.int .i64 3145000), .lit (.int .i64 4167500), .lit (.int .i64 5190000), .lit (.int .i64 6212500), .lit (.int .i64 7235000), .lit (.int .i64 8257500), .lit (.int .i64 9280000), .lit (.int .i64 10302500), .lit (.int .i64 11325000), .lit (.int .i64 12347500), .lit (.int .i64 13370000), .lit (.int .i64 14392500), .lit (.int .i64 15415000), .lit (.int .i64 16937500)]
def laid_reveille_crystal_table {H : Type} : DataW H := .agg [.lit (.int .i64 32768), .lit (.int .i64 2000000), .lit (.int .i64 3000000), .lit (.int .i64 4000000), .lit (.int .i64 5000000), .lit (.int .i64 6000000), .lit (.int .i64 7000000), .lit (.int .i64 8000000), .lit (.int .i64 9000000), .lit (.int .i64 10000000), .lit (.int .i64 11000000), .lit (.int .i64 12000000), .lit (.int .i64 13000000), .lit (.int .i64 14000000), .lit (.int .i64 15000000), .lit (.int .i64 16000000), .lit (.int .i64 17000000), .lit (.int .i64 18000000), .lit (.int .i64 19000000), .lit (.int .i64 20000000), .lit (.int .i64 21000000), .lit (.int .i64 22000000), .lit (.int .i64 23000000), .lit (.int .i64 24000000), .lit (.int .i64 25000000), .lit (.int .i64 26000000), .lit (.int .i64 27000000), .lit (.int .i64 28000000), .lit (.int .i64 29000000), .lit (.int .i64 30000000), .lit (.int .i64 31000000), .lit (.int .i64 100000000)]
def laid_reveille_supply_table {H : Type} : DataW H := .agg [.lit (.int .i64 800000), .lit (.int .i64 2312500), .lit (.int .i64 3325000), .lit (.int .i64 4337500), .lit (.int .i64 5350000), .lit (.int .i64 6362500), .lit (.int .i64 7375000), .lit (.int .i64 8387500), .lit (.int .i64 9400000), .lit (.int .i64 10412500), .lit (.int .i64 11425000), .lit (.int .i64 12437500), .lit (.int .i64 13450000), .lit (.int .i64 14462500), .lit (.int .i64 15475000), .lit (.int .i64 16487500), .lit (.int .i64 17500000), .lit (.int .i64 18512500), .lit (.int .i64 19525000), .lit (.int .i64 20537500), .lit (.int .i64 21550000), .lit (.int .i64 22562500), .lit (.int .i64 23575000), .lit (.int .i64 25000000)]

/-- 'reveillelaw11.SensorStands': WHATEVER THE INPUT: true; the input reads as it did. -/
def sensorStandsSpec : ChangeSpec := { name := "sensorStands", fn := fun _ => fun
  | [] => { results := [.lit (.bool true)], args := [] }
  | _ => none }
def sensorStandsRow : OpenClaim := { program := "ytgpapbpkcggolaadoor", sum := "392dd0b4e3fb0e7e3c63c86ae6990f820c1648463891194b1f055bac68960b41", func := "reveille/reveillelaw11.SensorStands", spec := "sensorStands", named := ["reveille/sensor.table"], apart := false, laid := [("reveille/sensor.table", laid_reveille_sensor_table)] }
def SensorStandsSaid : Prop := sensorStandsRow.holds Tryd.pinned (OpenSpec.ofChange sensorStandsSpec)

/-- ITS FALSE NEIGHBOUR: 'it returns false'. Refute it at one input. -/
def sensorStandsWrong : ChangeSpec := { name := "sensorStands", fn := fun _ => fun
  | [] => { results := [.lit (.bool false)], args := [] }
  | _ => none }
def SensorStandsWrongFalsely : Prop := sensorStandsRow.holds Tryd.pinned (OpenSpec.ofChange sensorStandsWrong)

/-- 'reveillelaw11.SensorMade': WHATEVER THE INPUT: true; the input reads as it did. -/
def sensorMadeSpec : ChangeSpec := { name := "sensorMade", fn := fun _ => fun
  | [] => { results := [.lit (.bool true)], args := [] }
  | _ => none }
def sensorMadeRow : OpenClaim := { program := "ytgpapbpkcggolaadoor", sum := "392dd0b4e3fb0e7e3c63c86ae6990f820c1648463891194b1f055bac68960b41", func := "reveille/reveillelaw11.SensorMade", spec := "sensorMade", named := ["reveille/sensor.table", "reveille/crystal.table", "reveille/supply.table"], apart := false, laid := [("reveille/crystal.table", laid_reveille_crystal_table), ("reveille/sensor.table", laid_reveille_sensor_table), ("reveille/supply.table", laid_reveille_supply_table)] }
def SensorMadeSaid : Prop := sensorMadeRow.holds Tryd.pinned (OpenSpec.ofChange sensorMadeSpec)

/-- ITS FALSE NEIGHBOUR: 'it returns false'. Refute it at one input. -/
def sensorMadeWrong : ChangeSpec := { name := "sensorMade", fn := fun _ => fun
  | [] => { results := [.lit (.bool false)], args := [] }
  | _ => none }
def SensorMadeWrongFalsely : Prop := sensorMadeRow.holds Tryd.pinned (OpenSpec.ofChange sensorMadeWrong)

/-- 'reveillelaw11.SensorRises': WHATEVER THE INPUT: true; the input reads as it did. -/
def sensorRisesSpec : ChangeSpec := { name := "sensorRises", fn := fun _ => fun
  | [d1, d2] => { results := [.lit (.bool true)], args := [d1, d2] }
  | _ => none }
def sensorRisesRow : OpenClaim := { program := "ytgpapbpkcggolaadoor", sum := "392dd0b4e3fb0e7e3c63c86ae6990f820c1648463891194b1f055bac68960b41", func := "reveille/reveillelaw11.SensorRises", spec := "sensorRises", named := ["reveille/sensor.table"], apart := false, laid := [("reveille/sensor.table", laid_reveille_sensor_table)] }
def SensorRisesSaid : Prop := sensorRisesRow.holds Tryd.pinned (OpenSpec.ofChange sensorRisesSpec)

/-- ITS FALSE NEIGHBOUR: 'it returns false'. Refute it at one input. -/
def sensorRisesWrong : ChangeSpec := { name := "sensorRises", fn := fun _ => fun
  | [d1, d2] => { results := [.lit (.bool false)], args := [d1, d2] }
  | _ => none }
def SensorRisesWrongFalsely : Prop := sensorRisesRow.holds Tryd.pinned (OpenSpec.ofChange sensorRisesWrong)

/-- 'reveillelaw11.SensorReads': WHATEVER THE INPUT: true; the input reads as it did. -/
def sensorReadsSpec : ChangeSpec := { name := "sensorReads", fn := fun _ => fun
  | [d1, d2] => { results := [.lit (.bool true)], args := [d1, d2] }
  | _ => none }
def sensorReadsRow : OpenClaim := { program := "ytgpapbpkcggolaadoor", sum := "392dd0b4e3fb0e7e3c63c86ae6990f820c1648463891194b1f055bac68960b41", func := "reveille/reveillelaw11.SensorReads", spec := "sensorReads", inPlace := ["math.Float64bits"], named := ["reveille/sensor.table"], apart := false, laid := [("reveille/sensor.table", laid_reveille_sensor_table)] }
def SensorReadsSaid : Prop := sensorReadsRow.holds Tryd.pinned (OpenSpec.ofChange sensorReadsSpec)

/-- ITS FALSE NEIGHBOUR: 'it returns false'. Refute it at one input. -/
def sensorReadsWrong : ChangeSpec := { name := "sensorReads", fn := fun _ => fun
  | [d1, d2] => { results := [.lit (.bool false)], args := [d1, d2] }
  | _ => none }
def SensorReadsWrongFalsely : Prop := sensorReadsRow.holds Tryd.pinned (OpenSpec.ofChange sensorReadsWrong)

/-- 'reveillelaw11.SensorParts': WHATEVER THE INPUT: true; the input reads as it did. -/
def sensorPartsSpec : ChangeSpec := { name := "sensorParts", fn := fun _ => fun
  | [d1, d2, d3] => { results := [.lit (.bool true)], args := [d1, d2, d3] }
  | _ => none }
def sensorPartsRow : OpenClaim := { program := "ytgpapbpkcggolaadoor", sum := "392dd0b4e3fb0e7e3c63c86ae6990f820c1648463891194b1f055bac68960b41", func := "reveille/reveillelaw11.SensorParts", spec := "sensorParts", unfollowed := true, recurses := true, named := ["reveille/sensor.table"], apart := false, laid := [("reveille/sensor.table", laid_reveille_sensor_table)] }
def SensorPartsSaid : Prop := sensorPartsRow.holds Tryd.pinned (OpenSpec.ofChange sensorPartsSpec)

/-- ITS FALSE NEIGHBOUR: 'it returns false'. Refute it at one input. -/
def sensorPartsWrong : ChangeSpec := { name := "sensorParts", fn := fun _ => fun
  | [d1, d2, d3] => { results := [.lit (.bool false)], args := [d1, d2, d3] }
  | _ => none }
def SensorPartsWrongFalsely : Prop := sensorPartsRow.holds Tryd.pinned (OpenSpec.ofChange sensorPartsWrong)

/-- 'reveillelaw11.SensorNames': WHATEVER THE INPUT: true; the input reads as it did. -/
def sensorNamesSpec : ChangeSpec := { name := "sensorNames", fn := fun _ => fun
  | [] => { results := [.lit (.bool true)], args := [] }
  | _ => none }
def sensorNamesRow : OpenClaim := { program := "ytgpapbpkcggolaadoor", sum := "392dd0b4e3fb0e7e3c63c86ae6990f820c1648463891194b1f055bac68960b41", func := "reveille/reveillelaw11.SensorNames", spec := "sensorNames", unfollowed := true, recurses := true, named := ["reveille/sensor.table"], apart := false, laid := [("reveille/sensor.table", laid_reveille_sensor_table)] }
def SensorNamesSaid : Prop := sensorNamesRow.holds Tryd.pinned (OpenSpec.ofChange sensorNamesSpec)

/-- ITS FALSE NEIGHBOUR: 'it returns false'. Refute it at one input. -/
def sensorNamesWrong : ChangeSpec := { name := "sensorNames", fn := fun _ => fun
  | [] => { results := [.lit (.bool false)], args := [] }
  | _ => none }
def SensorNamesWrongFalsely : Prop := sensorNamesRow.holds Tryd.pinned (OpenSpec.ofChange sensorNamesWrong)

/- THE SECOND FORM. 'bulk': how many values and letters a reading holds, each counted each time it is reached (what is shared counts as often as it is met; a slice's spare places count too). A statement '..UptoSaid' is the law's where the arguments, and the package variables that the reading takes, are together of bulk at most 1048576: NARROWER than '..Said'. Prove '..Said' where nothing that the law and all that it calls make is longer than what came in: it says more and counts as full. Else prove '..UptoSaid'. A law counts once. -/
mutual
def uptoBulk {H : Type} : DataW H → Nat
  | .lit (.string bytes) => bytes.length + 1
  | .lit _ => 1
  | .nil => 1
  | .ptr d => uptoBulk d + 1
  | .slice elems spare => uptoBulkAll elems + uptoBulkAll spare + 1
  | .agg parts => uptoBulkAll parts + 1
  | .iface _ d => uptoBulk d + 1
  | .map entries => uptoBulkEntries entries + 1
  | .held _ => 1
def uptoBulkAll {H : Type} : List (DataW H) → Nat
  | [] => 0
  | d :: r => uptoBulk d + uptoBulkAll r
def uptoBulkEntries {H : Type} : List (Lit × DataW H) → Nat
  | [] => 0
  | x :: r => uptoBulkEntry x + uptoBulkEntries r
def uptoBulkEntry {H : Type} : Lit × DataW H → Nat
  | (.string bytes, d) => bytes.length + uptoBulk d + 1
  | (_, d) => uptoBulk d + 1
 end
def uptoSmall : (H : Type) → List (DataW H) → Bool := fun _ ds => decide (uptoBulkAll ds ≤ 1048576)
def OpenSpec.upto (s : _root_.Go.ChangeSpec) : _root_.Go.OpenSpec := { _root_.Go.OpenSpec.ofChange s with cond := some uptoSmall }

/-- 'reveillelaw11.SensorStands', WHERE WHAT IT READS IS OF BULK AT MOST 1048576: true; the input reads as it did. -/
def sensorStandsUptoRow : OpenClaim := { program := "ytgpapbpkcggolaadoor", sum := "392dd0b4e3fb0e7e3c63c86ae6990f820c1648463891194b1f055bac68960b41", func := "reveille/reveillelaw11.SensorStands", spec := "sensorStands", named := ["reveille/sensor.table"], apart := false, laid := [("reveille/sensor.table", laid_reveille_sensor_table)], narrowed := true }
def SensorStandsUptoSaid : Prop := sensorStandsUptoRow.holds Tryd.pinned (OpenSpec.upto sensorStandsSpec)

/-- 'reveillelaw11.SensorMade', WHERE WHAT IT READS IS OF BULK AT MOST 1048576: true; the input reads as it did. -/
def sensorMadeUptoRow : OpenClaim := { program := "ytgpapbpkcggolaadoor", sum := "392dd0b4e3fb0e7e3c63c86ae6990f820c1648463891194b1f055bac68960b41", func := "reveille/reveillelaw11.SensorMade", spec := "sensorMade", named := ["reveille/sensor.table", "reveille/crystal.table", "reveille/supply.table"], apart := false, laid := [("reveille/crystal.table", laid_reveille_crystal_table), ("reveille/sensor.table", laid_reveille_sensor_table), ("reveille/supply.table", laid_reveille_supply_table)], narrowed := true }
def SensorMadeUptoSaid : Prop := sensorMadeUptoRow.holds Tryd.pinned (OpenSpec.upto sensorMadeSpec)

/-- 'reveillelaw11.SensorRises', WHERE WHAT IT READS IS OF BULK AT MOST 1048576: true; the input reads as it did. -/
def sensorRisesUptoRow : OpenClaim := { program := "ytgpapbpkcggolaadoor", sum := "392dd0b4e3fb0e7e3c63c86ae6990f820c1648463891194b1f055bac68960b41", func := "reveille/reveillelaw11.SensorRises", spec := "sensorRises", named := ["reveille/sensor.table"], apart := false, laid := [("reveille/sensor.table", laid_reveille_sensor_table)], narrowed := true }
def SensorRisesUptoSaid : Prop := sensorRisesUptoRow.holds Tryd.pinned (OpenSpec.upto sensorRisesSpec)

/-- 'reveillelaw11.SensorReads', WHERE WHAT IT READS IS OF BULK AT MOST 1048576: true; the input reads as it did. -/
def sensorReadsUptoRow : OpenClaim := { program := "ytgpapbpkcggolaadoor", sum := "392dd0b4e3fb0e7e3c63c86ae6990f820c1648463891194b1f055bac68960b41", func := "reveille/reveillelaw11.SensorReads", spec := "sensorReads", inPlace := ["math.Float64bits"], named := ["reveille/sensor.table"], apart := false, laid := [("reveille/sensor.table", laid_reveille_sensor_table)], narrowed := true }
def SensorReadsUptoSaid : Prop := sensorReadsUptoRow.holds Tryd.pinned (OpenSpec.upto sensorReadsSpec)

/-- 'reveillelaw11.SensorParts', WHERE WHAT IT READS IS OF BULK AT MOST 1048576: true; the input reads as it did. -/
def sensorPartsUptoRow : OpenClaim := { program := "ytgpapbpkcggolaadoor", sum := "392dd0b4e3fb0e7e3c63c86ae6990f820c1648463891194b1f055bac68960b41", func := "reveille/reveillelaw11.SensorParts", spec := "sensorParts", unfollowed := true, recurses := true, named := ["reveille/sensor.table"], apart := false, laid := [("reveille/sensor.table", laid_reveille_sensor_table)], narrowed := true }
def SensorPartsUptoSaid : Prop := sensorPartsUptoRow.holds Tryd.pinned (OpenSpec.upto sensorPartsSpec)

/-- 'reveillelaw11.SensorNames', WHERE WHAT IT READS IS OF BULK AT MOST 1048576: true; the input reads as it did. -/
def sensorNamesUptoRow : OpenClaim := { program := "ytgpapbpkcggolaadoor", sum := "392dd0b4e3fb0e7e3c63c86ae6990f820c1648463891194b1f055bac68960b41", func := "reveille/reveillelaw11.SensorNames", spec := "sensorNames", unfollowed := true, recurses := true, named := ["reveille/sensor.table"], apart := false, laid := [("reveille/sensor.table", laid_reveille_sensor_table)], narrowed := true }
def SensorNamesUptoSaid : Prop := sensorNamesUptoRow.holds Tryd.pinned (OpenSpec.upto sensorNamesSpec)

end Rows
end Go.Proofs.YtgpapbpkcggolaaDoor
