/-
  No cell of these rows narrows 'for every input' (looked for: loops, veiled, ifaces, maps, wideKeys, modest, calm, conditions, laid).
  DERIVED. THE GIVEN ROWS OF THIS SEAT. 2 by the template 'for every input the law returns true; each argument reads behind the call as it read before'; 0 by the template 'total and deterministic' (their statements: YtgpapbpkcggolaaTotals.lean).
  GIVEN WITH THE SEED: the statements are not yours to turn. If you find one false, say at which input.
  Laid BY PROGRAM, IN A SANDBOX (cutbox-rows.mjs): the forced cells as the released guide's own fill.sh prints them over the translation 9fec3dd45e81a690… (all of the seat's roots in one cut). By AI agents, Wed Nov 11 2026. No macro, syntax, notation, axiom, sorry.
-/
import Derived.Test.YtgpapbpkcggolaaChecked
import GoSem.Claim
import GoSem.ClaimJoined
import GoSem.ClaimMapViews
import Derived.JoinedTies
import Derived.KernelRfl
namespace Go.Proofs.Ytgpapbpkcggolaa
/- THE CELL 'sum', in the pinned program and in every row, IS THE sha256 OF THE DUMP (.gsa) THAT YtgpapbpkcggolaaProg.lean LOADS. Nothing in Lean hashes anything: it is a label: what it is worth is what the hold of that sum in a sandbox is worth. -/
noncomputable def Try.pinned : Pinned := { name := "ytgpapbpkcggolaa", sum := "9fec3dd45e81a69075e2944ba2ee49c3e6b0d0fe36094d4ef24b722ebe14e979", checked := Try.checked }
namespace Rows
def none {H : Type} : Left H := { results := [], args := [] }

/-- 'reveillelaw11.SensorCards': WHATEVER THE INPUT: true; the input reads as it did. -/
def sensorCardsSpec : ChangeSpec := { name := "sensorCards", fn := fun _ => fun
  | [] => { results := [.lit (.bool true)], args := [] }
  | _ => none }
def sensorCardsRow : OpenClaim := { program := "ytgpapbpkcggolaa", sum := "9fec3dd45e81a69075e2944ba2ee49c3e6b0d0fe36094d4ef24b722ebe14e979", func := "reveille/reveillelaw11.SensorCards", spec := "sensorCards", apart := false }
def SensorCardsSaid : Prop := sensorCardsRow.holds Try.pinned (OpenSpec.ofChange sensorCardsSpec)

/-- ITS FALSE NEIGHBOUR: 'it returns false'. Refute it at one input. -/
def sensorCardsWrong : ChangeSpec := { name := "sensorCards", fn := fun _ => fun
  | [] => { results := [.lit (.bool false)], args := [] }
  | _ => none }
def SensorCardsWrongFalsely : Prop := sensorCardsRow.holds Try.pinned (OpenSpec.ofChange sensorCardsWrong)

/-- 'reveillelaw11.SensorZones': WHATEVER THE INPUT: true; the input reads as it did. -/
def sensorZonesSpec : ChangeSpec := { name := "sensorZones", fn := fun _ => fun
  | [d1, d2, d3] => { results := [.lit (.bool true)], args := [d1, d2, d3] }
  | _ => none }
def sensorZonesRow : OpenClaim := { program := "ytgpapbpkcggolaa", sum := "9fec3dd45e81a69075e2944ba2ee49c3e6b0d0fe36094d4ef24b722ebe14e979", func := "reveille/reveillelaw11.SensorZones", spec := "sensorZones", unfollowed := true, recurses := true, apart := false }
def SensorZonesSaid : Prop := sensorZonesRow.holds Try.pinned (OpenSpec.ofChange sensorZonesSpec)

/-- ITS FALSE NEIGHBOUR: 'it returns false'. Refute it at one input. -/
def sensorZonesWrong : ChangeSpec := { name := "sensorZones", fn := fun _ => fun
  | [d1, d2, d3] => { results := [.lit (.bool false)], args := [d1, d2, d3] }
  | _ => none }
def SensorZonesWrongFalsely : Prop := sensorZonesRow.holds Try.pinned (OpenSpec.ofChange sensorZonesWrong)

/- THE SECOND FORM. 'bulk': how many values and letters a reading holds, each counted each time it is reached (what is shared counts as often as it is met; a slice's spare places count too). A statement '..UptoSaid' is the law's where the arguments, and the package variables that the reading takes, are together of bulk at most 1048576: NARROWER than '..Said'. Prove '..Said' where nothing that the law and all that it calls make is longer than what came in: it says more and counts as full. Else prove '..UptoSaid'. A law counts once. -/
mutual
def uptoBulk {H : Type} : DataW H → Nat
  | .lit (.string bytes) => bytes.length + 1
  | .lit _ => 1
  | .nil => 1
  | .ptr d => uptoBulk d + 1
  | .slice elems spare => uptoBulkAll elems + uptoBulkAll spare + 1
  | .agg parts => uptoBulkAll parts + 1
  | .iface _ d => uptoBulk d + 1
  | .map entries => uptoBulkEntries entries + 1
  | .held _ => 1
def uptoBulkAll {H : Type} : List (DataW H) → Nat
  | [] => 0
  | d :: r => uptoBulk d + uptoBulkAll r
def uptoBulkEntries {H : Type} : List (Lit × DataW H) → Nat
  | [] => 0
  | x :: r => uptoBulkEntry x + uptoBulkEntries r
def uptoBulkEntry {H : Type} : Lit × DataW H → Nat
  | (.string bytes, d) => bytes.length + uptoBulk d + 1
  | (_, d) => uptoBulk d + 1
 end
def uptoSmall : (H : Type) → List (DataW H) → Bool := fun _ ds => decide (uptoBulkAll ds ≤ 1048576)
def OpenSpec.upto (s : _root_.Go.ChangeSpec) : _root_.Go.OpenSpec := { _root_.Go.OpenSpec.ofChange s with cond := some uptoSmall }

/-- 'reveillelaw11.SensorCards', WHERE WHAT IT READS IS OF BULK AT MOST 1048576: true; the input reads as it did. -/
def sensorCardsUptoRow : OpenClaim := { program := "ytgpapbpkcggolaa", sum := "9fec3dd45e81a69075e2944ba2ee49c3e6b0d0fe36094d4ef24b722ebe14e979", func := "reveille/reveillelaw11.SensorCards", spec := "sensorCards", apart := false, narrowed := true }
def SensorCardsUptoSaid : Prop := sensorCardsUptoRow.holds Try.pinned (OpenSpec.upto sensorCardsSpec)

/-- 'reveillelaw11.SensorZones', WHERE WHAT IT READS IS OF BULK AT MOST 1048576: true; the input reads as it did. -/
def sensorZonesUptoRow : OpenClaim := { program := "ytgpapbpkcggolaa", sum := "9fec3dd45e81a69075e2944ba2ee49c3e6b0d0fe36094d4ef24b722ebe14e979", func := "reveille/reveillelaw11.SensorZones", spec := "sensorZones", unfollowed := true, recurses := true, apart := false, narrowed := true }
def SensorZonesUptoSaid : Prop := sensorZonesUptoRow.holds Try.pinned (OpenSpec.upto sensorZonesSpec)

end Rows
end Go.Proofs.Ytgpapbpkcggolaa
