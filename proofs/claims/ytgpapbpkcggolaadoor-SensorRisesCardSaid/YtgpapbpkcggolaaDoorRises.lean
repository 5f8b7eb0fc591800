/- SensorRises: a higher voltage tells no lower heat. -/
import Derived.Test.YtgpapbpkcggolaaDoorRead
import Derived.Test.YtgpapbpkcggolaaDoorMade
import Derived.Test.YtgpapbpkcggolaaDoorFltOps
namespace Go.Proofs.YtgpapbpkcggolaaDoor.rises
open Go.RowKit

/-! ### the plain law -/
theorem idx_mono {a b : Int} (h0 : 625000 ≤ a) (h : a ≤ b) : idx a 15 ≤ idx b 15 := by
  obtain ⟨a1, a2, _⟩ := idx_spec a h0 15 (Nat.le_refl _)
  obtain ⟨b1, _, b3⟩ := idx_spec b (by omega) 15 (Nat.le_refl _)
  rcases Nat.lt_or_ge (idx b 15) (idx a 15) with e | e
  · exfalso
    have := b3 (by omega)
    rcases Nat.lt_or_ge (idx b 15 + 1) (idx a 15) with e2 | e2
    · have := T_mono (idx b 15 + 1) (by omega) (idx a 15) (by omega) e2; omega
    · obtain e3 : idx b 15 + 1 = idx a 15 := by omega
      rw [e3] at this; omega
  · exact e
theorem milliN_mono {a b : Int} (h0 : 625000 ≤ a) (h : a ≤ b) : milliN a (idx a 15) ≤ milliN b (idx b 15) := by
  have hi := idx_mono h0 h
  have ra := milliN_range a h0
  have rb := milliN_range b (by omega)
  obtain ⟨b1, _, _⟩ := idx_spec b (by omega) 15 (Nat.le_refl _)
  rcases Nat.eq_or_lt_of_le hi with e | e
  · rw [← e]
    unfold milliN
    by_cases h15 : idx a 15 < 15
    · rw [if_pos h15, if_pos h15]
      have hs := T_step (idx a 15) h15
      have : 10000 * (a - T (idx a 15)) / (T (idx a 15 + 1) - T (idx a 15)) ≤ 10000 * (b - T (idx a 15)) / (T (idx a 15 + 1) - T (idx a 15)) :=
        Int.ediv_le_ediv (by omega) (Int.mul_le_mul_of_nonneg_left (by omega) (by omega))
      omega
    · rw [if_neg h15, if_neg h15]; omega
  · have := ra.2.2 (by omega)
    omega
/-- what a voltage tells, by where it lies -/
theorem milli_cases (m : Int) : ∃ x p, milli m = (x, p) ∧ -40000 ≤ x ∧ x ≤ 110000 ∧ ((m < 625000 ∧ p = false) ∨ (16937500 < m ∧ p = false) ∨ (625000 ≤ m ∧ m ≤ 16937500 ∧ p = true)) := by
  have hr := milli_range m
  refine ⟨(milli m).1, (milli m).2, rfl, hr.1, hr.2, ?_⟩
  unfold milli
  by_cases h0 : m < 625000
  · left; rw [if_pos h0]; exact ⟨h0, rfl⟩
  · by_cases h1 : m > 16937500
    · right; left; rw [if_neg h0, if_pos h1]; exact ⟨h1, rfl⟩
    · right; right; rw [if_neg h0, if_neg h1]; exact ⟨by omega, by omega, rfl⟩
theorem milli_mono {a b : Int} (h : a ≤ b) : (milli a).1 ≤ (milli b).1 := by
  have ra := milli_range a
  have rb := milli_range b
  by_cases h0 : a < 625000
  · have : milli a = (-40000, false) := by unfold milli; rw [if_pos h0]
    rw [this]; exact rb.1
  by_cases h1 : b > 16937500
  · have : milli b = (110000, false) := by unfold milli; rw [if_neg (by omega), if_pos h1]
    rw [this]; exact ra.2
  have ea : milli a = (milliN a (idx a 15), true) := by unfold milli; rw [if_neg h0, if_neg (by omega)]
  have eb : milli b = (milliN b (idx b 15), true) := by unfold milli; rw [if_neg (by omega), if_neg (by omega)]
  rw [ea, eb]
  exact milliN_mono (by omega) h

/-! ### kelvins rise -/
open flt in
theorem kelv_mono {a b : Int} (h0 : -40000 ≤ a) (h : a ≤ b) (h1 : b ≤ 110000) : key (kelv a) ≤ key (kelv b) := by
  have lo : rung (floatOfInt .f64 (-40000)) < Ieee.double.infRung := by decide +kernel
  have hi : rung (floatOfInt .f64 110000) < Ieee.double.infRung := by decide +kernel
  have fin : ∀ n, -40000 ≤ n → n ≤ 110000 → rung (floatOfInt .f64 n) < Ieee.double.infRung := fun n u v => fin_between lo hi (ofInt_mono u) (ofInt_mono v)
  have lo2 : rung (fdiv (floatOfInt .f64 (-40000)) 4652007308841189376) < Ieee.double.infRung := by decide +kernel
  have hi2 : rung (fdiv (floatOfInt .f64 110000) 4652007308841189376) < Ieee.double.infRung := by decide +kernel
  have dm : ∀ x y, -40000 ≤ x → x ≤ y → y ≤ 110000 → key (fdiv (floatOfInt .f64 x) 4652007308841189376) ≤ key (fdiv (floatOfInt .f64 y) 4652007308841189376) :=
    fun x y u v t => fdiv_mono (fin x u (by omega)) (fin y (by omega) t) read_1000 (by decide) (ofInt_mono v)
  have fin2 : ∀ n, -40000 ≤ n → n ≤ 110000 → rung (fdiv (floatOfInt .f64 n) 4652007308841189376) < Ieee.double.infRung := fun n u v => fin_between lo2 hi2 (dm _ _ (by omega) u v) (dm _ _ u v (by omega))
  have f3 : rung 4643512921809643110 < Ieee.double.infRung := by decide +kernel
  exact fadd_mono (fin2 a h0 (by omega)) (fin2 b (by omega) h1) f3 (dm a b h0 h h1)
theorem kelv_nn (n : Int) : flt.nn (kelv n) := (flt.add_some (flt.div_some (flt.nn_ofInt n) read_1000 (by decide)).2 fin_273).2
theorem leq_of_key {x y : Nat} (hx : flt.nn x) (hy : flt.nn y) (h : flt.key x ≤ flt.key y) : (FloatKind.f64.format.order x y == some .lt || FloatKind.f64.format.order x y == some .eq) = true := by
  have := flt.order_key hx hy
  show (Ieee.double.order x y == some .lt || Ieee.double.order x y == some .eq) = true
  rw [this]
  show (some (compareOfLessAndEq _ _) == some .lt || some (compareOfLessAndEq _ _) == some .eq) = true
  unfold compareOfLessAndEq
  by_cases e : flt.key x < flt.key y
  · rw [if_pos e]; rfl
  · rw [if_neg e, if_pos (by omega)]; rfl

/-! ### the walk -/
theorem milli_lit {m x : Int} {p : Bool} (hm : milli m = (x, p)) (w : World) (h : Has w) : Calls Tryd.prog 11 #[.int .i64 m] w fun e w' => e = .returned (.tuple #[.int .i32 x, .bool p]) ∧ Drawn w w' := by
  have := milli_any m w h; rw [hm] at this; exact this
theorem degrees_lit {m x : Int} {p : Bool} (hm : milli m = (x, p)) (w : World) (h : Has w) : Calls Tryd.prog 16 #[.int .i64 m] w fun e w' => e = .returned (.tuple #[.int .i8 ((x + 500) / 1000), .bool p]) ∧ Drawn w w' := by
  have := degrees_any m w h; rw [hm] at this; exact this
theorem kelvin_lit {m x : Int} {p : Bool} (hm : milli m = (x, p)) (w : World) (h : Has w) : Calls Tryd.prog 17 #[.int .i64 m] w fun e w' => e = .returned (.float .f64 (kelv x)) ∧ Drawn w w' := by
  have := kelvin_any m w h; rw [hm] at this; exact this

set_option maxHeartbeats 2000000 in
set_option maxRecDepth 100000 in
theorem walk_le (a b : Int) (w : World) (hab : a ≤ b) (h : Has w) : Calls Tryd.prog 5 #[.int .i64 a, .int .i64 b] w fun e w' => e = .returned (.bool true) ∧ Below w.heap.size w w' := by
  obtain ⟨x, p, ma, xa, xb, ca⟩ := milli_cases a
  obtain ⟨y, q, mb, ya, yb, cb⟩ := milli_cases b
  have hxy : x ≤ y := by have := milli_mono hab; rw [ma, mb] at this; exact this
  have hk := Lib.hid (leq_of_key (kelv_nn x) (kelv_nn y) (kelv_mono xa hxy yb))
  have MA := Lib.hid ma
  have MB := Lib.hid mb
  clear ma mb
  go_enter Tryd.func5, Tryd.ntmps5
  go_wp2_with fail
  refine (awake_any _ h).mono ?_
  rintro e w1 ⟨rfl, hd1⟩
  go_wp2_with fail
  refine (milli_lit MA.out _ (h.drawn hd1)).mono ?_
  rintro e w2 ⟨rfl, hd2⟩
  replace hd2 := hd1.trans hd2
  clear hd1
  go_wp2_with fail
  refine (milli_lit MB.out _ (h.drawn hd2)).mono ?_
  rintro e w3 ⟨rfl, hd3⟩
  replace hd3 := hd2.trans hd3
  clear hd2
  go_wp2_with fail
  refine (degrees_lit MA.out _ (h.drawn hd3)).mono ?_
  rintro e w4 ⟨rfl, hd4⟩
  replace hd4 := hd3.trans hd4
  clear hd3
  have hdg : -40 ≤ (x + 500) / 1000 ∧ (x + 500) / 1000 ≤ 110 ∧ 1000 * ((x + 500) / 1000) - x ≤ 500 ∧ -500 < 1000 * ((x + 500) / 1000) - x := by omega
  generalize (x + 500) / 1000 = d at *
  go_wp2_with fail
  refine (table_any _ (h.drawn hd4)).mono ?_
  rintro e w5 ⟨rfl, rfl⟩
  have kH : Has ((w4.alloc (.cells row 22)).alloc (.cells row 22)) := ((h.drawn hd4).alloc _).alloc _
  have kB : Below w.heap.size w ((w4.alloc (.cells row 22)).alloc (.cells row 22)) := below_al (below_al (hd4.below _) _) _
  have hset := fun old : Array Value => setRow_alloc (w4.alloc (.cells row 22)) old row 22 (w4.heap.size + 1) (by simp)
  have hn1 : ∀ (h1 : 16937500 < a), ¬ a < 625000 := fun _ => by omega
  have hd5 := h.drawn hd4
  clear hd4 h
  rcases ca with ⟨a1, rfl⟩ | ⟨a1, rfl⟩ | ⟨a1, a2, rfl⟩ <;> rcases cb with ⟨b1, rfl⟩ | ⟨b1, rfl⟩ | ⟨b1, b2, rfl⟩
  all_goals first | (exfalso; omega) | skip
  all_goals
    go_wp2_with (refine wpList_store_row rfl 22 _ _ rfl (w4.heap.size + 1) row rfl rfl 22 _ (heap_alloc_at' _ _ _ (by simp)) (by kernel_rfl) (by kernel_rfl) (by kernel_rfl) ?_)
    refine (kelvin_lit MA.out _ kH).mono ?_
    rintro e w6 ⟨rfl, hd6⟩
    go_wp2_with fail
    refine (kelvin_lit MB.out _ (kH.drawn hd6)).mono ?_
    rintro e w7 ⟨rfl, hd7⟩
    have hkk := hk.out
    go_wp2
    go_ret
    exact ⟨rfl, hd7.after (hd6.after kB)⟩

set_option maxHeartbeats 2000000 in
set_option maxRecDepth 100000 in
/-- the other way round: the two are turned first -/
theorem walk_gt (b a : Int) (w : World) (hab : a < b) (h : Has w) : Calls Tryd.prog 5 #[.int .i64 b, .int .i64 a] w fun e w' => e = .returned (.bool true) ∧ Below w.heap.size w w' := by
  obtain ⟨x, p, ma, xa, xb, ca⟩ := milli_cases a
  obtain ⟨y, q, mb, ya, yb, cb⟩ := milli_cases b
  have hxy : x ≤ y := by have := milli_mono (Int.le_of_lt hab); rw [ma, mb] at this; exact this
  have hk := Lib.hid (leq_of_key (kelv_nn x) (kelv_nn y) (kelv_mono xa hxy yb))
  have MA := Lib.hid ma
  have MB := Lib.hid mb
  clear ma mb
  go_enter Tryd.func5, Tryd.ntmps5
  go_wp2_with fail
  refine (awake_any _ h).mono ?_
  rintro e w1 ⟨rfl, hd1⟩
  go_wp2_with fail
  refine (milli_lit MA.out _ (h.drawn hd1)).mono ?_
  rintro e w2 ⟨rfl, hd2⟩
  replace hd2 := hd1.trans hd2
  clear hd1
  go_wp2_with fail
  refine (milli_lit MB.out _ (h.drawn hd2)).mono ?_
  rintro e w3 ⟨rfl, hd3⟩
  replace hd3 := hd2.trans hd3
  clear hd2
  go_wp2_with fail
  refine (degrees_lit MA.out _ (h.drawn hd3)).mono ?_
  rintro e w4 ⟨rfl, hd4⟩
  replace hd4 := hd3.trans hd4
  clear hd3
  have hdg : -40 ≤ (x + 500) / 1000 ∧ (x + 500) / 1000 ≤ 110 ∧ 1000 * ((x + 500) / 1000) - x ≤ 500 ∧ -500 < 1000 * ((x + 500) / 1000) - x := by omega
  generalize (x + 500) / 1000 = d at *
  go_wp2_with fail
  refine (table_any _ (h.drawn hd4)).mono ?_
  rintro e w5 ⟨rfl, rfl⟩
  have kH : Has ((w4.alloc (.cells row 22)).alloc (.cells row 22)) := ((h.drawn hd4).alloc _).alloc _
  have kB : Below w.heap.size w ((w4.alloc (.cells row 22)).alloc (.cells row 22)) := below_al (below_al (hd4.below _) _) _
  have hset := fun old : Array Value => setRow_alloc (w4.alloc (.cells row 22)) old row 22 (w4.heap.size + 1) (by simp)
  have hn1 : ∀ (h1 : 16937500 < a), ¬ a < 625000 := fun _ => by omega
  have hd5 := h.drawn hd4
  clear hd4 h
  rcases ca with ⟨a1, rfl⟩ | ⟨a1, rfl⟩ | ⟨a1, a2, rfl⟩ <;> rcases cb with ⟨b1, rfl⟩ | ⟨b1, rfl⟩ | ⟨b1, b2, rfl⟩
  all_goals first | (exfalso; omega) | skip
  all_goals
    go_wp2_with (refine wpList_store_row rfl 22 _ _ rfl (w4.heap.size + 1) row rfl rfl 22 _ (heap_alloc_at' _ _ _ (by simp)) (by kernel_rfl) (by kernel_rfl) (by kernel_rfl) ?_)
    refine (kelvin_lit MA.out _ kH).mono ?_
    rintro e w6 ⟨rfl, hd6⟩
    go_wp2_with fail
    refine (kelvin_lit MB.out _ (kH.drawn hd6)).mono ?_
    rintro e w7 ⟨rfl, hd7⟩
    have hkk := hk.out
    go_wp2
    go_ret
    exact ⟨rfl, hd7.after (hd6.after kB)⟩

theorem walk (a b : Int) (w : World) (h : Has w) : Calls Tryd.prog 5 #[.int .i64 a, .int .i64 b] w fun e w' => e = .returned (.bool true) ∧ Below w.heap.size w w' := by
  rcases Int.lt_or_le b a with e | e
  · exact walk_gt a b w e h
  · exact walk_le a b w e h
end Go.Proofs.YtgpapbpkcggolaaDoor.rises
