/- Contracts of the sensor family's functions. -/
import Derived.Test.YtgpapbpkcggolaaDoorProg
import Derived.WalkKit
import Derived.WalkLawsBesides
import Derived.WalkSpells
import Derived.Lib.Hide
import Derived.Handy
import Derived.Deep.QuietTactic
import Derived.BigQuiet
import Derived.Test.YtgpapbpkcggolaaDoorLaw
namespace Go.Proofs.YtgpapbpkcggolaaDoor
open Go.RowKit

/-- the curve -/
def curve : List Int := [625000, 2122500, 3145000, 4167500, 5190000, 6212500, 7235000, 8257500, 9280000, 10302500, 11325000, 12347500, 13370000, 14392500, 15415000, 16937500]
def T (i : Nat) : Int := curve.getD i 0

set_option maxHeartbeats 400000 in
theorem micro_no (i : Int) (w : World) (h : i < 0 ∨ 16 ≤ i) : Calls Tryd.prog 10 #[.int .i64 i] w fun e w' => e = .returned (.tuple #[.int .i64 0, .int .i64 1]) ∧ w = w' := by
  by_cases h0 : i < 0
  · go_enter Tryd.func10, Tryd.ntmps10
    go_wp2
    go_ret2
    exact ⟨rfl, rfl⟩
  · have h1 : 16 ≤ i := by omega
    clear h
    go_enter Tryd.func10, Tryd.ntmps10
    go_wp2
    go_ret2
    exact ⟨rfl, rfl⟩
set_option maxHeartbeats 400000 in
theorem micro_yes (i : Nat) (w : World) (h : i < 16) (v : Int) (hc : w.cell? ⟨0, i, none⟩ = some (.int .i64 v)) : Calls Tryd.prog 10 #[.int .i64 i] w fun e w' => e = .returned (.tuple #[.int .i64 v, .int .i64 0]) ∧ w = w' := by
  go_enter Tryd.func10, Tryd.ntmps10
  go_wp2
  go_ret2
  exact ⟨rfl, rfl⟩


abbrev row : Array Value := #[.int .i64 625000, .int .i64 2122500, .int .i64 3145000, .int .i64 4167500, .int .i64 5190000, .int .i64 6212500, .int .i64 7235000, .int .i64 8257500, .int .i64 9280000, .int .i64 10302500, .int .i64 11325000, .int .i64 12347500, .int .i64 13370000, .int .i64 14392500, .int .i64 15415000, .int .i64 16937500]
/-- the table in memory -/
def Has (w : World) : Prop := ∃ t fr, w.heap[0]? = some (.cells row t fr)
theorem Has.alloc {w : World} (h : Has w) (o : Obj) : Has (w.alloc o) := by
  obtain ⟨t, fr, h⟩ := h
  exact ⟨t, fr, heap_alloc h⟩
theorem Has.set {w : World} (h : Has w) {a : Addr} (ha : 0 ≠ a.block) (v : Value) : Has (w.setCell a v) := by
  obtain ⟨t, fr, h⟩ := h
  exact ⟨t, fr, by rw [heap_setCell_other _ _ _ _ ha]; exact h⟩
theorem Has.drewN {w : World} (h : Has w) (n : Nat) : Has (w.drewN n) := h
theorem Has.drawn {w w' : World} (h : Has w) (d : Drawn w w') : Has w' := by obtain ⟨n, rfl⟩ := d; exact h

set_option maxHeartbeats 400000 in
theorem table_any (w : World) (h : Has w) : Calls Tryd.prog 9 #[] w fun e w' => e = .returned (.agg row) ∧ w.alloc (.cells row 22) = w' := by
  obtain ⟨t, fr, h⟩ := h
  have h1 := fun o => heap_alloc (o := o) h
  go_enter Tryd.func9, Tryd.ntmps9
  go_wp2_with (refine wpList_load_row rfl 22 _ rfl 0 rfl t _ fr _ (h1 _) Tryd.underlying22 rfl (by kernel_rfl) ?_)
  go_wp2
  exact bodyPost_ret (v := .agg row) (results_cell_row rfl _ _ w.heap.size 22 row (0, 0) _ rfl (by show (w.heap.push _)[w.heap.size]? = _; simp) Tryd.underlying22 rfl (by kernel_rfl)) rfl ⟨rfl, rfl⟩

theorem rowT (i : Nat) (hi : i < 16) : row[i]? = some (.int .i64 (T i)) := by
  match i, hi with
  | 0, _ | 1, _ | 2, _ | 3, _ | 4, _ | 5, _ | 6, _ | 7, _ | 8, _ | 9, _ | 10, _ | 11, _ | 12, _ | 13, _ | 14, _ | 15, _ => rfl
  | i + 16, hi => exact absurd hi (by omega)
theorem Has.cell {w : World} (h : Has w) (i : Nat) (hi : i < 16) : w.cell? ⟨0, i, none⟩ = some (.int .i64 (T i)) := by
  obtain ⟨t, fr, h⟩ := h
  rw [cell_of_row w 0 i row t fr h]; exact rowT i hi

/-- where a voltage lies on the curve, at or below a place -/
def idx (m : Int) : Nat → Nat
  | 0 => 0
  | k + 1 => if m < T (k + 1) then idx m k else k + 1
def milliN (m : Int) (i : Nat) : Int := -40000 + 10000 * i + (if i < 15 then 10000 * (m - T i) / (T (i + 1) - T i) else 0)
def milli (m : Int) : Int × Bool := if m < 625000 then (-40000, false) else if m > 16937500 then (110000, false) else (milliN m (idx m 15), true)

theorem T_range : ∀ i : Nat, i < 16 → 625000 ≤ T i ∧ T i ≤ 16937500 := by decide
theorem T_step : ∀ i : Nat, i < 15 → 1000000 ≤ T (i + 1) - T i ∧ T (i + 1) - T i ≤ 2000000 := by decide
set_option maxHeartbeats 400000 in
theorem milli_any (m : Int) (w : World) (h : Has w) : Calls Tryd.prog 11 #[.int .i64 m] w fun e w' => e = .returned (.tuple #[.int .i32 (milli m).1, .bool (milli m).2]) ∧ Drawn w w' := by
  have c0 : w.cell? ⟨0, 0, none⟩ = some (.int .i64 625000) := h.cell 0 (by decide)
  have c15 : w.cell? ⟨0, 15, none⟩ = some (.int .i64 16937500) := h.cell 15 (by decide)
  by_cases h0 : m < 625000
  · have e : milli m = (-40000, false) := by unfold milli; rw [if_pos h0]
    rw [e]
    go_enter Tryd.func11, Tryd.ntmps11
    go_wp2
    go_ret2
    exact ⟨rfl, 0, rfl⟩
  by_cases h1 : 16937500 < m
  · have e : milli m = (110000, false) := by unfold milli; rw [if_neg h0, if_pos h1]
    rw [e]
    go_enter Tryd.func11, Tryd.ntmps11
    go_wp2
    go_ret2
    exact ⟨rfl, 0, rfl⟩
  go_enter Tryd.func11, Tryd.ntmps11
  go_wp2
  go_loop [4] (fun v => ∃ k : Nat, k ≤ 15 ∧ v = .int .i64 k ∧ idx m 15 = idx m k) (fun v => (intOf v).toNat)
  case atStart => exact ⟨15, by omega, rfl, rfl⟩
  case round =>
    obtain ⟨k, hk, rfl, hidx⟩ := hrel
    have HI := Lib.hid hidx
    clear hidx
    have hc := h.cell k (by omega)
    by_cases hlt : m < T k
    · have hk0 : 0 < k := by
        rcases Nat.eq_zero_or_pos k with e | e
        · subst e; exact absurd hlt (by show ¬ m < 625000; omega)
        · exact e
      go_wp2
      go_round
      case rel => 
        obtain ⟨j, rfl⟩ : ∃ j, k = j + 1 := ⟨k - 1, by omega⟩
        exact ⟨j, by omega, by go_num, by rw [HI.out]; show (if m < T (j + 1) then _ else _) = _; rw [if_pos hlt]⟩
      case measure => simp [intOf]; omega
    · have hix : idx m k = k := by
        cases k with
        | zero => rfl
        | succ j => show (if m < T (j + 1) then _ else _) = _; rw [if_neg hlt]
      have em : milli m = (milliN m k, true) := by unfold milli; rw [if_neg (by omega), if_neg (by omega), HI.out, hix]
      by_cases hk15 : k < 15
      · have hr := T_range k (by omega)
        have hs := T_step k hk15
        have hc1 := h.cell (k + 1) (by omega)
        have en : milli m = (-40000 + 10000 * (k : Int) + 10000 * (m - T k) / (T (k + 1) - T k), true) := by rw [em]; unfold milliN; rw [if_pos hk15]
        clear em hix HI c0 c15
        generalize T k = a at *
        generalize T (k + 1) = b at *
        have EN := Lib.hid en
        clear en
        have hq0 : 0 ≤ 10000 * (m - a) / (b - a) := Int.ediv_nonneg (by omega) (by omega)
        have hq2 : 10000 * (m - a) / (b - a) ≤ 200000 := by
          apply Int.ediv_le_of_le_mul (by omega)
          have : 200000 * 1000000 ≤ 200000 * (b - a) := Int.mul_le_mul_of_nonneg_left (by omega) (by omega)
          omega
        go_wp2
        go_quiet (fail)
        go_wp2
        go_ret2
        exact ⟨by rw [EN.out]; rfl, _, rfl⟩
      · obtain rfl : k = 15 := by omega
        have en : milli m = (-40000 + 10000 * ((15 : Nat) : Int), true) := em
        have EN := Lib.hid en
        clear en em hix HI
        go_wp2
        go_ret2
        exact ⟨by rw [EN.out]; rfl, 0, rfl⟩
theorem crystal_mid (k : Nat) (w : World) (h0 : 0 < k) (h1 : k < 31) : Calls Tryd.prog 31 #[.int .i64 k] w fun e w' => e = .returned (.int .i64 (1000000 + 1000000 * k)) ∧ w = w' := by
  go_enter Tryd.func31, Tryd.ntmps31
  go_wp2
  go_ret
  exact ⟨rfl, rfl⟩
theorem supply_mid (k : Nat) (w : World) (h0 : 0 < k) (h1 : k < 16) : Calls Tryd.prog 26 #[.int .i64 k] w fun e w' => e = .returned (.int .i64 (1300000 + 1012500 * k)) ∧ w = w' := by
  go_enter Tryd.func26, Tryd.ntmps26
  go_wp2_with fail
  refine (crystal_mid _ _ h0 (by omega)).mono ?_
  rintro e w' ⟨rfl, rfl⟩
  go_wp2
  go_ret
  exact ⟨ret_i64 (by omega), rfl⟩
theorem supply_0 (w : World) : Calls Tryd.prog 26 #[.int .i64 0] w fun e w' => e = .returned (.int .i64 800000) ∧ w = w' := by
  go_enter Tryd.func26, Tryd.ntmps26
  go_wp2
  go_ret
  exact ⟨rfl, rfl⟩
theorem T_mid : ∀ k, k < 15 → 0 < k → (T k : Int) = 1100000 + 1022500 * k := by decide
theorem entry_any (k : Nat) (w : World) (h : k < 16) : Calls Tryd.prog 12 #[.int .i64 k] w fun e w' => e = .returned (.int .i64 (T k)) ∧ w = w' := by
  by_cases h0 : k = 0
  · subst h0
    go_enter Tryd.func12, Tryd.ntmps12
    go_wp2_with fail
    refine (supply_0 _).mono ?_
    rintro e w' ⟨rfl, rfl⟩
    go_wp2
    go_ret
    exact ⟨rfl, rfl⟩
  by_cases h1 : k = 15
  · subst h1
    go_enter Tryd.func12, Tryd.ntmps12
    go_wp2_with fail
    refine (supply_mid 15 _ (by omega) (by omega)).mono ?_
    rintro e w' ⟨rfl, rfl⟩
    go_wp2
    go_ret
    exact ⟨rfl, rfl⟩
  have ht := Lib.hid (T_mid k (by omega) (by omega))
  go_enter Tryd.func12, Tryd.ntmps12
  go_wp2_with fail
  refine (supply_mid k _ (by omega) (by omega)).mono ?_
  rintro e w' ⟨rfl, rfl⟩
  go_wp2
  go_ret
  exact ⟨ret_i64 (by rw [ht.out]; omega), rfl⟩
end Go.Proofs.YtgpapbpkcggolaaDoor
