/- What the rows' condition gives: the curve in memory; and the witness's world. -/
import Derived.Test.YtgpapbpkcggolaaDoorCards
import Derived.Test.YtgpapbpkcggolaaDoorTie
import Derived.Test.YtgpapbpkcggolaaDoorBase
import Derived.ProofKit
import Derived.OpenShut
import Derived.Deep.DeepHandedRow
import Derived.Lib.LaidTab
namespace Go.Proofs.YtgpapbpkcggolaaDoor
open Go.ChangeShapes Go.WideShapes Go.ChangeAt Go.RowKit

theorem own : ownKnob Tryd.prog.godebug = none := by kernel_rfl
theorem gTab : Tryd.prog.globalNamed "reveille/sensor.table" = some 0 := by kernel_rfl
theorem gTabType : (Tryd.prog.globals[0]?).map (·.type) = some 22 := by kernel_rfl
theorem cells22 : Tryd.prog.cellsOf 22 = 16 := by kernel_rfl
theorem cells2 : Tryd.prog.cellsOf 2 = 1 := by kernel_rfl

theorem has_of_tab {W : World} (h : Lib.TabIs Tryd.prog W "reveille/sensor.table" .i64 curve) : Has W := by
  unfold Lib.TabIs World.var? at h
  rw [gTab] at h
  simp only [Option.bind_some] at h
  split at h
  · rename_i cs t fr hh
    simp only [Option.some.injEq] at h
    subst h
    exact ⟨t, fr, hh⟩
  · cases h
/-- WHAT THE ROW's LIST GIVES, where the curve is the one variable on it. -/
theorem has_of_laid {W : World} (h : laidMetH Tryd.prog [("reveille/sensor.table", Rows.laid_reveille_sensor_table)] W) : Has W :=
  has_of_tab (Lib.tabIs_of_head (rest := []) gTab gTabType Tryd.underlying22 Tryd.underlying2 cells2 cells22 h)

/-- A WORLD FOR THE WITNESS: the settled one, the tables holding what their initialisers lay. -/
noncomputable def laidWorld (os : Os) : World :=
  { World.holding Tryd.prog os ⟨#[], #[], []⟩ with heap := (World.holding Tryd.prog os ⟨#[], #[], []⟩).heap.modify 0 fun
      | .cells _ t frozen => .cells row t frozen
      | o => o }
end Go.Proofs.YtgpapbpkcggolaaDoor
