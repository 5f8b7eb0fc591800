/- What the row of SensorMade gives: the three arrays in memory; and its witness's world. -/
import Derived.Test.YtgpapbpkcggolaaDoorFrame
import Derived.Test.YtgpapbpkcggolaaDoorMade
import Derived.Stop.LaidErr
namespace Go.Proofs.YtgpapbpkcggolaaDoor.made
open Go.ChangeShapes Go.WideShapes Go.ChangeAt Go.RowKit

theorem gC : Tryd.prog.globalNamed "reveille/crystal.table" = some 1 := by kernel_rfl
theorem gCT : (Tryd.prog.globals[1]?).map (·.type) = some 31 := by kernel_rfl
theorem gS : Tryd.prog.globalNamed "reveille/supply.table" = some 2 := by kernel_rfl
theorem gST : (Tryd.prog.globals[2]?).map (·.type) = some 33 := by kernel_rfl
theorem cells31 : Tryd.prog.cellsOf 31 = 32 := by kernel_rfl
theorem cells33 : Tryd.prog.cellsOf 33 = 24 := by kernel_rfl
def listC : List Int := [32768, 2000000, 3000000, 4000000, 5000000, 6000000, 7000000, 8000000, 9000000, 10000000, 11000000, 12000000, 13000000, 14000000, 15000000, 16000000, 17000000, 18000000, 19000000, 20000000, 21000000, 22000000, 23000000, 24000000, 25000000, 26000000, 27000000, 28000000, 29000000, 30000000, 31000000, 100000000]
def listS : List Int := [800000, 2312500, 3325000, 4337500, 5350000, 6362500, 7375000, 8387500, 9400000, 10412500, 11425000, 12437500, 13450000, 14462500, 15475000, 16487500, 17500000, 18512500, 19525000, 20537500, 21550000, 22562500, 23575000, 25000000]
theorem block_of_tab {W : World} {n : String} {g : Nat} {zs : List Int} (hg : Tryd.prog.globalNamed n = some g) (h : Lib.TabIs Tryd.prog W n .i64 zs) : ∃ t fr, W.heap[g]? = some (.cells (zs.map fun z => Value.int .i64 z).toArray t fr) := by
  unfold Lib.TabIs World.var? at h
  rw [hg] at h
  simp only [Option.bind_some] at h
  split at h
  · rename_i cs t fr hh
    simp only [Option.some.injEq] at h
    subst h
    exact ⟨t, fr, hh⟩
  · cases h
theorem has_of_laid3 {W : World} (h : laidMetH Tryd.prog Rows.sensorMadeRow.laid W) : Has W ∧ HasC W ∧ HasS W := by
  have h0 : laidMet Tryd.prog Rows.sensorMadeRow.laid W := h
  refine ⟨?_, ?_, ?_⟩
  · exact has_of_tab (Lib.tabIs_of_head gTab gTabType Tryd.underlying22 Tryd.underlying2 cells2 cells22 (laidMet.tail h0))
  · exact block_of_tab gC (Lib.tabIs_of_head (zs := listC) gC gCT Tryd.underlying31 Tryd.underlying2 cells2 cells31 h0)
  · exact block_of_tab gS (Lib.tabIs_of_head (zs := listS) gS gST Tryd.underlying33 Tryd.underlying2 cells2 cells33 (laidMet.tail (laidMet.tail h0)))

def putRow (cs : Array Value) : Obj → Obj
  | .cells _ t frozen => .cells cs t frozen
  | o => o
noncomputable def laidWorld3 (os : Os) : World :=
  { World.holding Tryd.prog os ⟨#[], #[], []⟩ with heap := (((World.holding Tryd.prog os ⟨#[], #[], []⟩).heap.modify 0 (putRow row)).modify 1 (putRow rowC)).modify 2 (putRow rowS) }
end Go.Proofs.YtgpapbpkcggolaaDoor.made
