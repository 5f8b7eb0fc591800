/-
  DERIVED. GIVEN WITH THE SEED: THE CARDS: each row of YtdjdkhbagoideaaDoorRows.lean that lists a variable, with what it lists TIED to the program's text (the seventh form; the later family's looks); each row that meets fmt, with fmt's text TOLD by the authors' own Lean function (tested against real Go, not proved from fmt's source: count such statements apart). THE CARD IS WHAT COUNTS. Prove the row's statement (the work); the ties are given (YtdjdkhbagoideaaDoorTie.lean); close each card by the builder's one call (the guide's Derived/Test/ToyasCard.lean, 'card_holds'). Laid BY PROGRAM, IN A SANDBOX (cutbox-door.mjs). By AI agents, Wed Nov 11 2026. No macro, syntax, notation, axiom, sorry.
-/
import Derived.Test.YtdjdkhbagoideaaDoorRows
import GoSem.ClaimSeven
namespace Go.Proofs.YtdjdkhbagoideaaDoor
namespace Rows

/-- THE TIED CARD OF 'reveillelaw27.HeatNone'. -/
def heatNoneCard : Claim7 := { stood := { row := heatNoneRow, standIns := [], harness := (true, "0e78f622eb502376de378979e75242b0c7d9362b3a8a93e058e072846f48be13"), looks := false }, kinds := [], alts := [], laidByText := true, laidKinds := [.data], laidTests := true, laidLooks := .later }
def HeatNoneCardSaid : Prop := Claim7.holds Tryd.pinned (.plain (OpenSpec.ofChange heatNoneSpec)) heatNoneCard

/-- THE TIED CARD OF 'reveillelaw27.HeatRuns'. -/
def heatRunsCard : Claim7 := { stood := { row := heatRunsRow, standIns := [], harness := (true, "0e78f622eb502376de378979e75242b0c7d9362b3a8a93e058e072846f48be13"), looks := false }, kinds := [], alts := [], laidByText := true, laidKinds := [.data], laidTests := true, laidLooks := .later }
def HeatRunsCardSaid : Prop := Claim7.holds Tryd.pinned (.plain (OpenSpec.ofChange heatRunsSpec)) heatRunsCard

/-- THE SECOND FORM's CARD OF 'reveillelaw27.HeatNone'. -/
def heatNoneUptoCard : Claim7 := { stood := { row := heatNoneUptoRow, standIns := [], harness := (true, "0e78f622eb502376de378979e75242b0c7d9362b3a8a93e058e072846f48be13"), looks := false }, kinds := [], alts := [], laidByText := true, laidKinds := [.data], laidTests := true, laidLooks := .later }
def HeatNoneUptoCardSaid : Prop := Claim7.holds Tryd.pinned (.plain (OpenSpec.upto heatNoneSpec)) heatNoneUptoCard

/-- THE SECOND FORM's CARD OF 'reveillelaw27.HeatRuns'. -/
def heatRunsUptoCard : Claim7 := { stood := { row := heatRunsUptoRow, standIns := [], harness := (true, "0e78f622eb502376de378979e75242b0c7d9362b3a8a93e058e072846f48be13"), looks := false }, kinds := [], alts := [], laidByText := true, laidKinds := [.data], laidTests := true, laidLooks := .later }
def HeatRunsUptoCardSaid : Prop := Claim7.holds Tryd.pinned (.plain (OpenSpec.upto heatRunsSpec)) heatRunsUptoCard
end Rows
end Go.Proofs.YtdjdkhbagoideaaDoor
