/- SensorMade: the curve is what the arrays ahead make of it. -/
import Derived.Test.YtgpapbpkcggolaaDoorBase
namespace Go.Proofs.YtgpapbpkcggolaaDoor
open Go.RowKit

theorem awake_any (w : World) (h : Has w) : Calls Tryd.prog 13 #[] w fun e w' => e = .returned (.bool true) ∧ Drawn w w' := by
  have c0 := h.cell 0 (by decide)
  have hm : Hid (milli 1373750 = (-35000, true)) := Lib.hid (by decide)
  go_enter Tryd.func13, Tryd.ntmps13
  go_wp2_with fail
  refine (micro_yes 0 _ (by decide) (T 0) c0).mono ?_
  rintro e w' ⟨rfl, rfl⟩
  rw [show T 0 = 625000 from rfl]
  go_wp2_with fail
  refine (milli_any 1373750 _ h).mono ?_
  rintro e w' ⟨rfl, hd⟩
  rw [hm.out]
  go_wp2
  go_ret
  exact ⟨rfl, hd⟩
end Go.Proofs.YtgpapbpkcggolaaDoor
namespace Go.Proofs.YtgpapbpkcggolaaDoor.made
open Go.RowKit

abbrev rowC : Array Value := #[.int .i64 32768, .int .i64 2000000, .int .i64 3000000, .int .i64 4000000, .int .i64 5000000, .int .i64 6000000, .int .i64 7000000, .int .i64 8000000, .int .i64 9000000, .int .i64 10000000, .int .i64 11000000, .int .i64 12000000, .int .i64 13000000, .int .i64 14000000, .int .i64 15000000, .int .i64 16000000, .int .i64 17000000, .int .i64 18000000, .int .i64 19000000, .int .i64 20000000, .int .i64 21000000, .int .i64 22000000, .int .i64 23000000, .int .i64 24000000, .int .i64 25000000, .int .i64 26000000, .int .i64 27000000, .int .i64 28000000, .int .i64 29000000, .int .i64 30000000, .int .i64 31000000, .int .i64 100000000]
abbrev rowS : Array Value := #[.int .i64 800000, .int .i64 2312500, .int .i64 3325000, .int .i64 4337500, .int .i64 5350000, .int .i64 6362500, .int .i64 7375000, .int .i64 8387500, .int .i64 9400000, .int .i64 10412500, .int .i64 11425000, .int .i64 12437500, .int .i64 13450000, .int .i64 14462500, .int .i64 15475000, .int .i64 16487500, .int .i64 17500000, .int .i64 18512500, .int .i64 19525000, .int .i64 20537500, .int .i64 21550000, .int .i64 22562500, .int .i64 23575000, .int .i64 25000000]
/-- the arrays of the families ahead -/
def HasC (w : World) : Prop := ∃ t fr, w.heap[1]? = some (.cells rowC t fr)
def HasS (w : World) : Prop := ∃ t fr, w.heap[2]? = some (.cells rowS t fr)
theorem HasC.alloc {w : World} (h : HasC w) (o : Obj) : HasC (w.alloc o) := by
  obtain ⟨t, fr, h⟩ := h; exact ⟨t, fr, heap_alloc h⟩
theorem HasS.alloc {w : World} (h : HasS w) (o : Obj) : HasS (w.alloc o) := by
  obtain ⟨t, fr, h⟩ := h; exact ⟨t, fr, heap_alloc h⟩
theorem HasC.drawn {w w' : World} (h : HasC w) (d : Drawn w w') : HasC w' := by obtain ⟨n, rfl⟩ := d; exact h
theorem HasS.drawn {w w' : World} (h : HasS w) (d : Drawn w w') : HasS w' := by obtain ⟨n, rfl⟩ := d; exact h

set_option maxHeartbeats 1000000 in
theorem crystal_any (w : World) (h : HasC w) : Calls Tryd.prog 14 #[] w fun e w' => e = .returned (.agg rowC) ∧ w.alloc (.cells rowC 31) = w' := by
  obtain ⟨t, fr, h⟩ := h
  have h1 := fun o => heap_alloc (o := o) h
  go_enter Tryd.func14, Tryd.ntmps14
  go_wp2_with (first | (refine wpList_load_row rfl 31 _ rfl 1 rfl t _ fr _ (h1 _) Tryd.underlying31 rfl (by kernel_rfl) ?_) | (refine wpList_store_row rfl 31 _ _ rfl w.heap.size rowC rfl rfl 31 _ (heap_alloc_at _ _) (by kernel_rfl) (by kernel_rfl) (by kernel_rfl) ?_))
  rw [setRow_alloc _ _ _ _ _ rfl]
  exact bodyPost_ret (v := .agg rowC) (results_cell_row rfl _ _ w.heap.size 31 rowC (0, 0) _ rfl (heap_alloc_at _ _) Tryd.underlying31 rfl (by kernel_rfl)) rfl ⟨rfl, rfl⟩
set_option maxHeartbeats 1000000 in
theorem supply_any (w : World) (h : HasS w) : Calls Tryd.prog 15 #[] w fun e w' => e = .returned (.agg rowS) ∧ w.alloc (.cells rowS 33) = w' := by
  obtain ⟨t, fr, h⟩ := h
  have h1 := fun o => heap_alloc (o := o) h
  go_enter Tryd.func15, Tryd.ntmps15
  go_wp2_with (first | (refine wpList_load_row rfl 33 _ rfl 2 rfl t _ fr _ (h1 _) Tryd.underlying33 rfl (by kernel_rfl) ?_) | (refine wpList_store_row rfl 33 _ _ rfl w.heap.size rowS rfl rfl 33 _ (heap_alloc_at _ _) (by kernel_rfl) (by kernel_rfl) (by kernel_rfl) ?_))
  rw [setRow_alloc _ _ _ _ _ rfl]
  exact bodyPost_ret (v := .agg rowS) (results_cell_row rfl _ _ w.heap.size 33 rowS (0, 0) _ rfl (heap_alloc_at _ _) Tryd.underlying33 rfl (by kernel_rfl)) rfl ⟨rfl, rfl⟩

theorem rowC_mid (k : Nat) (h0 : 0 < k) (h : k < 31) : rowC[k]? = some (.int .i64 (1000000 + 1000000 * k)) := by
  match k, h0, h with
  | 1, _, _ | 2, _, _ | 3, _, _ | 4, _, _ | 5, _, _ | 6, _, _ | 7, _, _ | 8, _, _ | 9, _, _ | 10, _, _ | 11, _, _ | 12, _, _ | 13, _, _ | 14, _, _ | 15, _, _ | 16, _, _ | 17, _, _ | 18, _, _ | 19, _, _ | 20, _, _ | 21, _, _ | 22, _, _ | 23, _, _ | 24, _, _ | 25, _, _ | 26, _, _ | 27, _, _ | 28, _, _ | 29, _, _ | 30, _, _ => rfl
  | i + 31, _, hi => exact absurd hi (by omega)
theorem rowS_mid (k : Nat) (h0 : 0 < k) (h : k < 23) : rowS[k]? = some (.int .i64 (1300000 + 1012500 * k)) := by
  match k, h0, h with
  | 1, _, _ | 2, _, _ | 3, _, _ | 4, _, _ | 5, _, _ | 6, _, _ | 7, _, _ | 8, _, _ | 9, _, _ | 10, _, _ | 11, _, _ | 12, _, _ | 13, _, _ | 14, _, _ | 15, _, _ | 16, _, _ | 17, _, _ | 18, _, _ | 19, _, _ | 20, _, _ | 21, _, _ | 22, _, _ => rfl
  | i + 23, _, hi => exact absurd hi (by omega)
theorem row_mid (k : Nat) (h0 : 0 < k) (h : k < 15) : row[k]? = some (.int .i64 (1100000 + 1022500 * k)) := by
  match k, h0, h with
  | 1, _, _ | 2, _, _ | 3, _, _ | 4, _, _ | 5, _, _ | 6, _, _ | 7, _, _ | 8, _, _ | 9, _, _ | 10, _, _ | 11, _, _ | 12, _, _ | 13, _, _ | 14, _, _ => rfl
  | i + 15, _, hi => exact absurd hi (by omega)


/-- behind the calls of the three arrays: where the copies lie -/
structure Laid3 (w : World) (B : Nat) (W : World) : Prop where
  g : Below w.heap.size w W
  c : W.heap[B + 1]? = some (.cells rowC 31)
  s : W.heap[B + 3]? = some (.cells rowS 33)
  t : W.heap[B + 5]? = some (.cells row 22)
theorem Laid3.drawn {w W W' : World} {B : Nat} (h : Laid3 w B W) (d : Drawn W W') : Laid3 w B W' :=
  ⟨d.after h.g, by rw [d.heap]; exact h.c, by rw [d.heap]; exact h.s, by rw [d.heap]; exact h.t⟩

set_option maxHeartbeats 2000000 in
set_option maxRecDepth 100000 in
theorem walk (w : World) (h : Has w) (hc : HasC w) (hs : HasS w) : Calls Tryd.prog 4 #[] w fun e w' => e = .returned (.bool true) ∧ Below w.heap.size w w' := by
  go_enter Tryd.func4, Tryd.ntmps4
  go_wp2_with fail
  refine (awake_any _ h).mono ?_
  rintro e w1 ⟨rfl, hd⟩
  have h1 := h.drawn hd
  have hc1 := hc.drawn hd
  have hs1 := hs.drawn hd
  have hg1 : Below w.heap.size w w1 := hd.below _
  clear h hc hs hd
  go_wp2_with fail
  refine (crystal_any _ hc1).mono ?_
  rintro e w2 ⟨rfl, rfl⟩
  go_wp2_with (refine wpList_store_row rfl 31 _ _ rfl (w1.heap.size + 1) rowC rfl rfl 31 _ (heap_alloc_at' _ _ _ (by simp)) (by kernel_rfl) (by kernel_rfl) (by kernel_rfl) ?_)
  rw [setRow_alloc _ _ _ _ _ (by simp)]
  refine (supply_any _ ((hs1.alloc _).alloc _)).mono ?_
  rintro e w2 ⟨rfl, rfl⟩
  go_wp2_with (refine wpList_store_row rfl 33 _ _ rfl (w1.heap.size + 3) rowS rfl rfl 33 _ (heap_alloc_at' _ _ _ (by simp)) (by kernel_rfl) (by kernel_rfl) (by kernel_rfl) ?_)
  rw [setRow_alloc _ _ _ _ _ (by simp)]
  refine (table_any _ ((((h1.alloc _).alloc _).alloc _).alloc _)).mono ?_
  rintro e w2 ⟨rfl, rfl⟩
  go_wp2_with (refine wpList_store_row rfl 22 _ _ rfl (w1.heap.size + 5) row rfl rfl 22 _ (heap_alloc_at' _ _ _ (by simp)) (by kernel_rfl) (by kernel_rfl) (by kernel_rfl) ?_)
  rw [setRow_alloc _ _ _ _ _ (by simp)]
  have hL : Laid3 w w1.heap.size ((((((w1.alloc (.cells rowC 31)).alloc (.cells rowC 31)).alloc (.cells rowS 33)).alloc (.cells rowS 33)).alloc (.cells row 22)).alloc (.cells row 22)) :=
    ⟨below_al (below_al (below_al (below_al (below_al (below_al hg1 _) _) _) _) _) _,
      heap_alloc (heap_alloc (heap_alloc (heap_alloc (heap_alloc_at' _ _ _ (by simp))))), heap_alloc (heap_alloc (heap_alloc_at' _ _ _ (by simp))), heap_alloc_at' _ _ _ (by simp)⟩
  clear h1 hc1 hs1 hg1
  generalize ((((((w1.alloc (.cells rowC 31)).alloc (.cells rowC 31)).alloc (.cells rowS 33)).alloc (.cells rowS 33)).alloc (.cells row 22)).alloc (.cells row 22)) = W at *
  generalize w1.heap.size = B at *
  go_wp2
  have cS : ∀ k : Nat, W.cell? ⟨B + 1 + 1 + 1, k, none⟩ = rowS[k]? := fun k => cell_of_row W _ k rowS 33 (0, 0) hL.s
  have cC : ∀ k : Nat, W.cell? ⟨B + 1, k, none⟩ = rowC[k]? := fun k => cell_of_row W _ k rowC 31 (0, 0) hL.c
  have cT : ∀ k : Nat, W.cell? ⟨B + 1 + 1 + 1 + 1 + 1, k, none⟩ = row[k]? := fun k => cell_of_row W _ k row 22 (0, 0) hL.t
  have CS := Lib.hid cS
  have CC := Lib.hid cC
  have CT := Lib.hid cT
  clear cS cC cT
  go_loop [4] (fun v => ∃ k : Nat, k ≤ 24 ∧ v = .int .i64 k) (fun v => 24 - (intOf v).toNat)
  case atStart => exact ⟨0, by omega, rfl⟩
  case round =>
    obtain ⟨k, hk, rfl⟩ := hrel
    by_cases h24 : k = 24
    · subst h24
      go_wp2
      go_loopw [6] (fun v wr => ∃ k : Nat, k ≤ 16 ∧ v = .int .i64 k ∧ Drawn W wr) (fun v _ => 16 - (intOf v).toNat)
      case atStart => exact ⟨0, by omega, rfl, Drawn.refl _⟩
      case round =>
        obtain ⟨k, hk, rfl, hd⟩ := hrel
        by_cases h16 : k = 16
        · subst h16
          go_wp2
          go_ret
          exact ⟨rfl, (hL.drawn hd).g⟩
        by_cases h0 : k = 0
        · subst h0
          have c1 : wr.cell? ⟨B + 1 + 1 + 1, 0, none⟩ = some (.int .i64 800000) := by rw [hd.cell]; exact CS.out 0
          have c2 : wr.cell? ⟨B + 1 + 1 + 1 + 1 + 1, 0, none⟩ = some (.int .i64 625000) := by rw [hd.cell]; exact CT.out 0
          go_wp2
          go_quiet (fail)
          go_wp2
          go_roundw
          case rel => exact ⟨1, by omega, rfl, hd.drewN _⟩
          case measure => simp [intOf]
        by_cases h15 : k = 15
        · subst h15
          have c1 : wr.cell? ⟨B + 1 + 1 + 1, 15, none⟩ = some (.int .i64 16487500) := by rw [hd.cell]; exact CS.out 15
          have c2 : wr.cell? ⟨B + 1 + 1 + 1 + 1 + 1, 15, none⟩ = some (.int .i64 16937500) := by rw [hd.cell]; exact CT.out 15
          have c3 : wr.cell? ⟨B + 1 + 1 + 1 + 1 + 1, 14, none⟩ = some (.int .i64 15415000) := by rw [hd.cell]; exact CT.out 14
          go_wp2
          go_quiet (fail)
          go_wp2
          go_roundw
          case rel => exact ⟨16, by omega, rfl, hd.drewN _⟩
          case measure => simp [intOf]
        by_cases h1 : k = 1
        · subst h1
          have c1 : wr.cell? ⟨B + 1 + 1 + 1, 1, none⟩ = some (.int .i64 2312500) := by rw [hd.cell]; exact CS.out 1
          have c2 : wr.cell? ⟨B + 1 + 1 + 1 + 1 + 1, 1, none⟩ = some (.int .i64 2122500) := by rw [hd.cell]; exact CT.out 1
          have c3 : wr.cell? ⟨B + 1 + 1 + 1 + 1 + 1, 0, none⟩ = some (.int .i64 625000) := by rw [hd.cell]; exact CT.out 0
          go_wp2
          go_quiet (fail)
          go_wp2
          go_roundw
          case rel => exact ⟨2, by omega, rfl, hd.drewN _⟩
          case measure => simp [intOf]
        have hj : 2 ≤ k ∧ k < 15 := by omega
        have h0k : 0 < k := by omega
        have h1k : (1 : Int) ≤ (k : Int) := by omega
        have c1 : wr.cell? ⟨B + 1 + 1 + 1, k, none⟩ = some (.int .i64 (1300000 + 1012500 * (k : Int))) := by rw [hd.cell, CS.out]; exact rowS_mid k (by omega) (by omega)
        have c2 : wr.cell? ⟨B + 1 + 1 + 1 + 1 + 1, k, none⟩ = some (.int .i64 (-200000 + 10000 * (k : Int) + (1300000 + 1012500 * (k : Int)))) := by
          rw [hd.cell, CT.out, row_mid k (by omega) (by omega), show 1100000 + 1022500 * (k : Int) = -200000 + 10000 * (k : Int) + (1300000 + 1012500 * (k : Int)) by omega]
        obtain ⟨a, ha, c3⟩ : ∃ a : Int, a < -200000 + 10000 * (k : Int) + (1300000 + 1012500 * (k : Int)) ∧ wr.cell? ⟨B + 1 + 1 + 1 + 1 + 1, k - 1, none⟩ = some (.int .i64 a) :=
          ⟨1100000 + 1022500 * ((k - 1 : Nat) : Int), by omega, by rw [hd.cell, CT.out]; exact row_mid (k - 1) (by omega) (by omega)⟩
        have hm : (k : Int) % 24 = k := by omega
        clear h16 h0 h15 h1 hk
        go_wp2
        go_quiet (fail)
        go_wp2
        go_roundw
        case rel => exact ⟨k + 1, by omega, by go_num, hd.drewN _⟩
        case measure => simp [intOf]; omega
    by_cases h0 : k = 0
    · subst h0
      have c1 : W.cell? ⟨B + 1, 0, none⟩ = some (.int .i64 32768) := CC.out 0
      have c2 : W.cell? ⟨B + 1 + 1 + 1, 0, none⟩ = some (.int .i64 800000) := CS.out 0
      go_wp2
      go_round
      case rel => exact ⟨1, by omega, rfl⟩
      case measure => simp [intOf]
    by_cases h23 : k = 23
    · subst h23
      have c1 : W.cell? ⟨B + 1, 23, none⟩ = some (.int .i64 24000000) := CC.out 23
      have c2 : W.cell? ⟨B + 1 + 1 + 1, 23, none⟩ = some (.int .i64 25000000) := CS.out 23
      go_wp2
      go_round
      case rel => exact ⟨24, by omega, rfl⟩
      case measure => simp [intOf]
    have hk2 : 0 < k ∧ k < 23 := by omega
    have c1 : W.cell? ⟨B + 1, k, none⟩ = some (.int .i64 (1000000 + 1000000 * (k : Int))) := by rw [CC.out]; exact rowC_mid k (by omega) (by omega)
    have c2 : W.cell? ⟨B + 1 + 1 + 1, k, none⟩ = some (.int .i64 (1300000 + 1012500 * (k : Int))) := by rw [CS.out]; exact rowS_mid k (by omega) (by omega)
    have hm : (k : Int) % 32 = k := by omega
    clear h24 h0 h23 hk
    go_wp2
    go_round
    case rel => exact ⟨k + 1, by omega, by go_num⟩
    case measure => simp [intOf]; omega
end Go.Proofs.YtgpapbpkcggolaaDoor.made
