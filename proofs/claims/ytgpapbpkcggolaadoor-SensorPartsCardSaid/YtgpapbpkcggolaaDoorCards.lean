/-
  DERIVED. GIVEN WITH THE SEED: THE CARDS: each row of YtgpapbpkcggolaaDoorRows.lean that lists a variable, with what it lists TIED to the program's text (the seventh form; the later family's looks); each row that meets fmt, with fmt's text TOLD by the authors' own Lean function (tested against real Go, not proved from fmt's source: count such statements apart). THE CARD IS WHAT COUNTS. Prove the row's statement (the work); the ties are given (YtgpapbpkcggolaaDoorTie.lean); close each card by the builder's one call (the guide's Derived/Test/ToyasCard.lean, 'card_holds'). Laid BY PROGRAM, IN A SANDBOX (cutbox-door.mjs). By AI agents, Wed Nov 11 2026. No macro, syntax, notation, axiom, sorry.
-/
import Derived.Test.YtgpapbpkcggolaaDoorRows
import GoSem.ClaimSeven
namespace Go.Proofs.YtgpapbpkcggolaaDoor
namespace Rows

/-- THE TIED CARD OF 'reveillelaw11.SensorStands'. -/
def sensorStandsCard : Claim7 := { stood := { row := sensorStandsRow, standIns := [], harness := (true, "44e1e97ab08fbf840e22b1444a4aec632918f2d570d1e8604907ff1a9c6f1e3b"), looks := false }, kinds := [], alts := [], laidByText := true, laidKinds := [.data], laidTests := true, laidLooks := .later }
def SensorStandsCardSaid : Prop := Claim7.holds Tryd.pinned (.plain (OpenSpec.ofChange sensorStandsSpec)) sensorStandsCard

/-- THE TIED CARD OF 'reveillelaw11.SensorMade'. -/
def sensorMadeCard : Claim7 := { stood := { row := sensorMadeRow, standIns := [], harness := (true, "44e1e97ab08fbf840e22b1444a4aec632918f2d570d1e8604907ff1a9c6f1e3b"), looks := false }, kinds := [], alts := [], laidByText := true, laidKinds := [.data, .data, .data], laidTests := true, laidLooks := .later }
def SensorMadeCardSaid : Prop := Claim7.holds Tryd.pinned (.plain (OpenSpec.ofChange sensorMadeSpec)) sensorMadeCard

/-- THE TIED CARD OF 'reveillelaw11.SensorRises'. -/
def sensorRisesCard : Claim7 := { stood := { row := sensorRisesRow, standIns := [], harness := (true, "44e1e97ab08fbf840e22b1444a4aec632918f2d570d1e8604907ff1a9c6f1e3b"), looks := false }, kinds := [], alts := [], laidByText := true, laidKinds := [.data], laidTests := true, laidLooks := .later }
def SensorRisesCardSaid : Prop := Claim7.holds Tryd.pinned (.plain (OpenSpec.ofChange sensorRisesSpec)) sensorRisesCard

/-- THE TIED CARD OF 'reveillelaw11.SensorReads'. -/
def sensorReadsCard : Claim7 := { stood := { row := sensorReadsRow, standIns := [], harness := (true, "44e1e97ab08fbf840e22b1444a4aec632918f2d570d1e8604907ff1a9c6f1e3b"), looks := false }, kinds := [], alts := [], laidByText := true, laidKinds := [.data], laidTests := true, laidLooks := .later }
def SensorReadsCardSaid : Prop := Claim7.holds Tryd.pinned (.plain (OpenSpec.ofChange sensorReadsSpec)) sensorReadsCard

/-- THE TIED CARD OF 'reveillelaw11.SensorParts'. -/
def sensorPartsCard : Claim7 := { stood := { row := sensorPartsRow, standIns := [], harness := (true, "44e1e97ab08fbf840e22b1444a4aec632918f2d570d1e8604907ff1a9c6f1e3b"), looks := false }, kinds := [], alts := [], laidByText := true, laidKinds := [.data], laidTests := true, laidLooks := .later }
def SensorPartsCardSaid : Prop := Claim7.holds Tryd.pinned (.plain (OpenSpec.ofChange sensorPartsSpec)) sensorPartsCard

/-- THE TIED CARD OF 'reveillelaw11.SensorNames'. -/
def sensorNamesCard : Claim7 := { stood := { row := sensorNamesRow, standIns := [], harness := (true, "44e1e97ab08fbf840e22b1444a4aec632918f2d570d1e8604907ff1a9c6f1e3b"), looks := false }, kinds := [], alts := [], laidByText := true, laidKinds := [.data], laidTests := true, laidLooks := .later }
def SensorNamesCardSaid : Prop := Claim7.holds Tryd.pinned (.plain (OpenSpec.ofChange sensorNamesSpec)) sensorNamesCard

/-- THE SECOND FORM's CARD OF 'reveillelaw11.SensorStands'. -/
def sensorStandsUptoCard : Claim7 := { stood := { row := sensorStandsUptoRow, standIns := [], harness := (true, "44e1e97ab08fbf840e22b1444a4aec632918f2d570d1e8604907ff1a9c6f1e3b"), looks := false }, kinds := [], alts := [], laidByText := true, laidKinds := [.data], laidTests := true, laidLooks := .later }
def SensorStandsUptoCardSaid : Prop := Claim7.holds Tryd.pinned (.plain (OpenSpec.upto sensorStandsSpec)) sensorStandsUptoCard

/-- THE SECOND FORM's CARD OF 'reveillelaw11.SensorMade'. -/
def sensorMadeUptoCard : Claim7 := { stood := { row := sensorMadeUptoRow, standIns := [], harness := (true, "44e1e97ab08fbf840e22b1444a4aec632918f2d570d1e8604907ff1a9c6f1e3b"), looks := false }, kinds := [], alts := [], laidByText := true, laidKinds := [.data, .data, .data], laidTests := true, laidLooks := .later }
def SensorMadeUptoCardSaid : Prop := Claim7.holds Tryd.pinned (.plain (OpenSpec.upto sensorMadeSpec)) sensorMadeUptoCard

/-- THE SECOND FORM's CARD OF 'reveillelaw11.SensorRises'. -/
def sensorRisesUptoCard : Claim7 := { stood := { row := sensorRisesUptoRow, standIns := [], harness := (true, "44e1e97ab08fbf840e22b1444a4aec632918f2d570d1e8604907ff1a9c6f1e3b"), looks := false }, kinds := [], alts := [], laidByText := true, laidKinds := [.data], laidTests := true, laidLooks := .later }
def SensorRisesUptoCardSaid : Prop := Claim7.holds Tryd.pinned (.plain (OpenSpec.upto sensorRisesSpec)) sensorRisesUptoCard

/-- THE SECOND FORM's CARD OF 'reveillelaw11.SensorReads'. -/
def sensorReadsUptoCard : Claim7 := { stood := { row := sensorReadsUptoRow, standIns := [], harness := (true, "44e1e97ab08fbf840e22b1444a4aec632918f2d570d1e8604907ff1a9c6f1e3b"), looks := false }, kinds := [], alts := [], laidByText := true, laidKinds := [.data], laidTests := true, laidLooks := .later }
def SensorReadsUptoCardSaid : Prop := Claim7.holds Tryd.pinned (.plain (OpenSpec.upto sensorReadsSpec)) sensorReadsUptoCard

/-- THE SECOND FORM's CARD OF 'reveillelaw11.SensorParts'. -/
def sensorPartsUptoCard : Claim7 := { stood := { row := sensorPartsUptoRow, standIns := [], harness := (true, "44e1e97ab08fbf840e22b1444a4aec632918f2d570d1e8604907ff1a9c6f1e3b"), looks := false }, kinds := [], alts := [], laidByText := true, laidKinds := [.data], laidTests := true, laidLooks := .later }
def SensorPartsUptoCardSaid : Prop := Claim7.holds Tryd.pinned (.plain (OpenSpec.upto sensorPartsSpec)) sensorPartsUptoCard

/-- THE SECOND FORM's CARD OF 'reveillelaw11.SensorNames'. -/
def sensorNamesUptoCard : Claim7 := { stood := { row := sensorNamesUptoRow, standIns := [], harness := (true, "44e1e97ab08fbf840e22b1444a4aec632918f2d570d1e8604907ff1a9c6f1e3b"), looks := false }, kinds := [], alts := [], laidByText := true, laidKinds := [.data], laidTests := true, laidLooks := .later }
def SensorNamesUptoCardSaid : Prop := Claim7.holds Tryd.pinned (.plain (OpenSpec.upto sensorNamesSpec)) sensorNamesUptoCard
end Rows
end Go.Proofs.YtgpapbpkcggolaaDoor
