/- SensorStands: the array as it stands. -/
import Derived.Test.YtgpapbpkcggolaaDoorBase
import Derived.Deep.RegionHeld3
import Derived.Deep.MidRow
namespace Go.Proofs.YtgpapbpkcggolaaDoor.stands
open Go.RowKit

theorem milli_T : ∀ k, k < 16 → milli (T k) = (-40000 + 10000 * (k : Int), true) := by decide
/-- what holds while u is written -/
def InU (w : World) (n : Nat) (wx : World) : Prop := Has wx ∧ Grown w wx ∧ wx.heap[w.heap.size + 1]? = some (.cells row 22) ∧ ∃ cs : Array Value, cs.size = 16 ∧ wx.heap[n + 1]? = some (.cells cs 22)
set_option maxHeartbeats 1000000 in
theorem walk (w : World) (h : Has w) : Calls Tryd.prog 3 #[] w fun e w' => e = .returned (.bool true) ∧ Grown w w' := by
  go_enter Tryd.func3, Tryd.ntmps3
  go_wp2_with fail
  refine (table_any _ h).mono ?_
  rintro e w' ⟨rfl, rfl⟩
  have hG : Grown w ((w.alloc (.cells row 22)).alloc (.cells row 22)) := ((Grown.refl w).alloc _ _).alloc _ _
  have hH : Has ((w.alloc (.cells row 22)).alloc (.cells row 22)) := (h.alloc _).alloc _
  have hS : ((w.alloc (.cells row 22)).alloc (.cells row 22)).heap.size = w.heap.size + 2 := by simp
  have hB : ((w.alloc (.cells row 22)).alloc (.cells row 22)).heap[w.heap.size + 1]? = some (.cells row 22) := heap_alloc_at' _ _ _ (by simp)
  go_wp2
  generalize World.alloc (World.alloc w (Obj.cells row 22)) (Obj.cells row 22) = W1 at *
  have hT : ∀ k, k < 16 → W1.cell? ⟨w.heap.size + 1, k, none⟩ = some (.int .i64 (T k)) := fun k hk => by
    rw [cell_of_row W1 _ k row 22 (0, 0) hB]; exact rowT k hk
  have HT := Lib.hid hT
  have HB := Lib.hid hB
  have HS := Lib.hid hS
  clear hT hB hS
  go_loopw [2] (fun v wr => ∃ k : Nat, k ≤ 16 ∧ v = .int .i64 k ∧ Drawn W1 wr) (fun v _ => 16 - (intOf v).toNat)
  case atStart => exact ⟨0, by omega, rfl, Drawn.refl _⟩
  case round =>
    obtain ⟨k, hk, rfl, hd⟩ := hrel
    by_cases hlt : k < 16
    · have hc : wr.cell? ⟨w.heap.size + 1, k, none⟩ = some (.int .i64 (T k)) := by rw [hd.cell]; exact HT.out k hlt
      have hm := Lib.hid (milli_T k hlt)
      have h16 := (hH.drawn hd).cell k hlt
      go_wp2_with fail
      refine (micro_yes k _ hlt (T k) h16).mono ?_
      rintro e w' ⟨rfl, rfl⟩
      go_wp2_with fail
      refine (milli_any (T k) _ (hH.drawn hd)).mono ?_
      rintro e w2 ⟨rfl, hd2⟩
      rw [hm.out]
      have hc2 : w2.cell? ⟨w.heap.size + 1, k, none⟩ = some (.int .i64 (T k)) := by rw [hd2.cell]; exact hc
      clear hc h16
      go_wp2
      go_quiet ((go_at_call 12; exact quiet_same (entry_any k _ hlt)))
      go_wp2
      go_roundw
      case rel => exact ⟨k + 1, by omega, by go_num, (hd.trans hd2).drewN _⟩
      case measure => simp [intOf]; omega
    · obtain rfl : k = 16 := by omega
      obtain ⟨wo, rfl⟩ : ∃ wo : World, wo = wr := ⟨_, rfl⟩
      go_wp2_with fail
      refine (table_any _ (hH.drawn hd)).mono ?_
      rintro e w' ⟨rfl, rfl⟩
      have kH : Has ((wo.alloc (.cells row 22)).alloc (.cells row 22)) := ((hH.drawn hd).alloc _).alloc _
      have kG : Grown w ((wo.alloc (.cells row 22)).alloc (.cells row 22)) := ((hd.grown hG).alloc _ _).alloc _ _
      have kB : ((wo.alloc (.cells row 22)).alloc (.cells row 22)).heap[wo.heap.size + 1]? = some (.cells row 22) := heap_alloc_at' _ _ _ (by simp)
      have kS : wo.heap.size = w.heap.size + 2 := by rw [hd.heap]; exact HS.out
      have KS := Lib.hid kS
      clear kS
      have kT : ((wo.alloc (.cells row 22)).alloc (.cells row 22)).heap[w.heap.size + 1]? = some (.cells row 22) := heap_alloc (heap_alloc (by rw [hd.heap]; exact HB.out))
      go_wp2
      generalize World.alloc (World.alloc wo (Obj.cells row 22)) (Obj.cells row 22) = W2 at *
      have KB := Lib.hid kB
      have KT := Lib.hid kT
      clear kB kT hd
      go_loopw [8] (fun v wr => ∃ k : Nat, k ≤ 16 ∧ v = .int .i64 k ∧ InU w wo.heap.size wr) (fun v _ => 16 - (intOf v).toNat)
      case atStart => exact ⟨0, by omega, rfl, kH, kG, KT.out, ⟨row, by decide, KB.out⟩⟩
      case round =>
        obtain ⟨k, hk, rfl, h1, h2, h3, cs, hcs, h4⟩ := hrel
        by_cases hlt : k < 16
        · obtain ⟨v, hc⟩ : ∃ v, wr.cell? ⟨wo.heap.size + 1, k, none⟩ = some v := ⟨cs[k], by
            rw [cell_of_row wr _ k cs 22 (0, 0) h4]; exact Array.getElem?_eq_getElem (by omega)⟩
          have hf : wr.frozen? ⟨wo.heap.size + 1, k, none⟩ = false := by simp [World.frozen?, h4]
          have H3 := Lib.hid h3
          have H4 := Lib.hid h4
          have HC := Lib.hid hcs
          clear h3 h4 hcs
          go_wp2
          go_roundw
          case rel => 
            have hs := KS.out
            refine ⟨k + 1, by omega, by go_num, h1.set (by simp) _, h2.setCell (by simp; omega) _, ?_, _, ?_, heap_setCell_same _ _ _ _ _ _ H4.out⟩
            · rw [heap_setCell_other _ _ _ _ (by simp; omega)]; exact H3.out
            · simp [HC.out]
          case measure => simp [intOf]; omega
        · obtain rfl : k = 16 := by omega
          have hR : wr.rangeAt (w.heap.size + 1) 0 row.toList := fun j v hv => by
            rw [cell_of_row wr _ _ row 22 (0, 0) h3, Nat.zero_add]; simpa using hv
          have hS : w.heap.size + 1 < wr.heap.size := by
            rcases Nat.lt_or_ge (w.heap.size + 1) wr.heap.size with e | e
            · exact e
            · rw [Array.getElem?_eq_none e] at h3; cases h3
          have hR2 : (wr.drew.alloc (.cells row 22)).rangeAt (w.heap.size + 1) 0 row.toList := fun j v hv => by
            rw [World.cell?_alloc_past _ _ _ (by simpa using hS)]; exact hR j v hv
          have hH1 : Has wr.drew := h1
          have hH2 : Has (wr.drew.alloc (.cells row 22)) := hH1.alloc _
          have hS1 : w.heap.size + 1 < wr.drew.heap.size := hS
          have hS2 : w.heap.size + 1 < (wr.drew.alloc (.cells row 22)).heap.size := by simp; omega
          have heq : ∀ W, (Op.equalIn 10000 22 (.agg row) (.agg row)).run Tryd.prog W = .ok true W := fun _ => by kernel_rfl
          have hu := Tryd.underlying22
          have hi : (Tryd.prog.info? 22).map (·.size) = some row.toList.length := by kernel_rfl
          clear h3 h4 hcs
          go_wp2
          go_region_held3 (fun W => W.rangeAt (w.heap.size + 1) 0 row.toList ∧ Has W ∧ w.heap.size + 1 < W.heap.size) (first | exact ⟨hR, hH1, hS1⟩ | exact ⟨hR2, hH2, hS2⟩) (first | (go_at_call 9; refine (table_any _ hH1).mono ?_; rintro e w' ⟨rfl, rfl⟩))
          go_wp2
          go_ret
          exact ⟨rfl, (h2.alloc _ _).drew⟩
end Go.Proofs.YtgpapbpkcggolaaDoor.stands
