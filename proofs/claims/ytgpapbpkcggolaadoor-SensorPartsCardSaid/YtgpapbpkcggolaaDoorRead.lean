/- Contracts: below, Degrees, Kelvin, Raw, and the reference's. -/
import Derived.Test.YtgpapbpkcggolaaDoorBase
import Derived.IntWalk
import Derived.Test.YtgpapbpkcggolaaDoorFlt
namespace Go.Proofs.YtgpapbpkcggolaaDoor
open Go.RowKit

theorem tdiv_of_nonneg {a b : Int} (h : 0 ≤ a) : a.tdiv b = a / b := by
  rw [Int.tdiv_eq_ediv, if_pos (Or.inl h)]; simp
theorem div_range {a b : Int} (hb : 0 < b) (h0 : -9223372036854775808 ≤ a) (h1 : a ≤ 9223372036854775807) : -9223372036854775808 ≤ a / b ∧ a / b ≤ 9223372036854775807 := by
  refine ⟨?_, ?_⟩
  · apply Int.le_ediv_of_mul_le hb
    have : -9223372036854775808 * b ≤ -9223372036854775808 * 1 := by
      apply Int.mul_le_mul_of_nonpos_left (by omega) (by omega)
    omega
  · rcases Int.lt_or_le a 0 with h | h
    · have := Int.ediv_neg_of_neg_of_pos h hb; omega
    · have := Int.ediv_le_self b h; omega

/-- Go's quotient and rest, below 0 -/
theorem below_neg {a b : Int} (hb : 0 < b) (h : a < 0) : (a.tmod b < 0 ∧ a.tdiv b = a / b + 1) ∨ (a.tmod b = 0 ∧ a.tdiv b = a / b) := by
  have h1 := Int.tdiv_eq_ediv (a := a) (b := b)
  have h2 := Int.tmod_eq_emod (a := a) (b := b)
  by_cases hd : b ∣ a
  · right
    rw [if_pos (Or.inr hd)] at h1 h2
    have := Int.emod_eq_zero_of_dvd hd
    omega
  · left
    have hn : ¬ (0 ≤ a ∨ b ∣ a) := fun e => e.elim (fun e => by omega) hd
    rw [if_neg hn] at h1 h2
    have hs : b.sign = 1 := Int.sign_eq_one_of_pos hb
    have hm := Int.emod_lt_of_pos a hb
    have : (b.natAbs : Int) = b := Int.natAbs_of_nonneg (by omega)
    exact ⟨by omega, by omega⟩
set_option maxHeartbeats 400000 in
theorem below_any (a b : Int) (w : World) (h0 : -9223372036854775808 ≤ a) (h1 : a ≤ 9223372036854775807) (hb : 0 < b) (hb1 : b ≤ 9223372036854775807) :
    Calls Tryd.prog 27 #[.int .i64 a, .int .i64 b] w fun e w' => e = .returned (.int .i64 (a / b)) ∧ w = w' := by
  have hr := div_range hb h0 h1
  have hz : (b == 0) = false := by simp; omega
  rcases Int.lt_or_le a 0 with h | h
  · have hm := Int.lt_tmod_of_pos a hb
    have hq : a / b + 1 ≤ 0 := by have := Int.ediv_neg_of_neg_of_pos h hb; omega
    rcases below_neg hb h with ⟨h2, h3⟩ | ⟨h2, h3⟩
    · go_enter Tryd.func27, Tryd.ntmps27
      go_wp2
      go_ret
      exact ⟨ret_i64 (by omega), rfl⟩
    · go_enter Tryd.func27, Tryd.ntmps27
      go_wp2
      go_ret
      exact ⟨rfl, rfl⟩
  · have hm : 0 ≤ a % b := Int.emod_nonneg a (by omega)
    go_enter Tryd.func27, Tryd.ntmps27
    go_wp2
    go_ret
    exact ⟨rfl, rfl⟩
set_option maxHeartbeats 400000 in
theorem rbelow_any (a b : Int) (w : World) (h0 : -9223372036854775808 ≤ a) (h1 : a ≤ 9223372036854775807) (hb : 0 < b) (hb1 : b ≤ 9223372036854775807) :
    Calls Tryd.prog 28 #[.int .i64 a, .int .i64 b] w fun e w' => e = .returned (.int .i64 (a / b)) ∧ w = w' := by
  have hr := div_range hb h0 h1
  have hz : (b == 0) = false := by simp; omega
  have hm1 : a / b * b ≤ a := Int.ediv_mul_le a (by omega)
  have hm2 : a < (a / b + 1) * b := Int.lt_ediv_add_one_mul_self a hb
  rcases Int.lt_or_le a 0 with h | h
  · have hq : a / b + 1 ≤ 0 := by have := Int.ediv_neg_of_neg_of_pos h hb; omega
    have hle : (a / b + 1) * b ≤ 0 := Int.mul_nonpos_of_nonpos_of_nonneg hq (by omega)
    rcases below_neg hb h with ⟨h2, h3⟩ | ⟨h2, h3⟩
    · clear h2 hm1
      go_enter Tryd.func28, Tryd.ntmps28
      go_wp2
      go_ret
      exact ⟨ret_i64 (by omega), rfl⟩
    · have hle2 : -9223372036854775808 ≤ a / b * b := by
        have h4 : a.tdiv b * b + a.tmod b = a := Int.tdiv_mul_add_tmod a b
        rw [h2, h3] at h4
        omega
      clear h2 hm2 hle
      go_enter Tryd.func28, Tryd.ntmps28
      go_wp2
      go_ret
      exact ⟨rfl, rfl⟩
  · have hle : 0 ≤ a / b * b := Int.mul_nonneg (Int.ediv_nonneg h (by omega)) (by omega)
    clear hm2
    go_enter Tryd.func28, Tryd.ntmps28
    go_wp2
    go_ret
    exact ⟨rfl, rfl⟩

/-- where a voltage lies -/
theorem idx_spec (m : Int) (h : 625000 ≤ m) : ∀ k, k ≤ 15 → idx m k ≤ k ∧ T (idx m k) ≤ m ∧ (idx m k < k → m < T (idx m k + 1)) := by
  intro k
  induction k with
  | zero => exact fun _ => ⟨Nat.le_refl _, h, fun e => absurd e (Nat.lt_irrefl _)⟩
  | succ k ih =>
    intro hk
    have ih := ih (by omega)
    unfold idx
    by_cases hm : m < T (k + 1)
    · rw [if_pos hm]
      refine ⟨by omega, ih.2.1, fun e => ?_⟩
      rcases Nat.lt_or_ge (idx m k) k with e' | e'
      · exact ih.2.2 e'
      · obtain e2 : idx m k = k := by omega
        rw [e2]; exact hm
    · rw [if_neg hm]
      exact ⟨Nat.le_refl _, by omega, fun e => absurd e (Nat.lt_irrefl _)⟩
theorem T_mono : ∀ i, i < 16 → ∀ j, j < 16 → i < j → T i < T j := by decide
theorem idx_eq (m : Int) (h : 625000 ≤ m) (k : Nat) (hk : k ≤ 15) (h1 : T k ≤ m) (h2 : k < 15 → m < T (k + 1)) : idx m 15 = k := by
  obtain ⟨a, b, c⟩ := idx_spec m h 15 (Nat.le_refl _)
  rcases Nat.lt_trichotomy (idx m 15) k with e | e | e
  · have := c (by omega)
    rcases Nat.lt_or_ge (idx m 15 + 1) k with e2 | e2
    · have := T_mono (idx m 15 + 1) (by omega) k (by omega) e2; omega
    · obtain e3 : idx m 15 + 1 = k := by omega
      rw [e3] at this; omega
  · exact e
  · have := h2 (by omega)
    rcases Nat.lt_or_ge (k + 1) (idx m 15) with e2 | e2
    · have := T_mono (k + 1) (by omega) (idx m 15) (by omega) e2; omega
    · obtain e3 : k + 1 = idx m 15 := by omega
      rw [e3] at this; omega
theorem quot_range (m : Int) (i : Nat) (hi : i < 15) (h0 : T i ≤ m) (h1 : m < T (i + 1)) : 0 ≤ 10000 * (m - T i) / (T (i + 1) - T i) ∧ 10000 * (m - T i) / (T (i + 1) - T i) < 10000 := by
  have hs := T_step i hi
  refine ⟨Int.ediv_nonneg (by omega) (by omega), Int.ediv_lt_of_lt_mul (by omega) ?_⟩
  have : 10000 * (m - T i) < 10000 * (T (i + 1) - T i) := Int.mul_lt_mul_of_pos_left (by omega) (by omega)
  exact this
theorem milliN_range (m : Int) (h0 : 625000 ≤ m) : -40000 + 10000 * (idx m 15 : Int) ≤ milliN m (idx m 15) ∧ milliN m (idx m 15) ≤ 110000 ∧ (idx m 15 < 15 → milliN m (idx m 15) < -40000 + 10000 * (idx m 15 : Int) + 10000) := by
  obtain ⟨a, b, c⟩ := idx_spec m h0 15 (Nat.le_refl _)
  unfold milliN
  by_cases e : idx m 15 < 15
  · have := quot_range m _ e b (c e)
    rw [if_pos e]
    omega
  · rw [if_neg e]
    omega
theorem milli_range (m : Int) : -40000 ≤ (milli m).1 ∧ (milli m).1 ≤ 110000 := by
  unfold milli
  split
  · exact ⟨by decide, by decide⟩
  · split
    · exact ⟨by decide, by decide⟩
    · have := milliN_range m (by omega)
      exact ⟨by show _ ≤ milliN m (idx m 15); omega, this.2.1⟩

theorem degrees_any (m : Int) (w : World) (h : Has w) : Calls Tryd.prog 16 #[.int .i64 m] w fun e w' => e = .returned (.tuple #[.int .i8 (((milli m).1 + 500) / 1000), .bool (milli m).2]) ∧ Drawn w w' := by
  have hr := milli_range m
  go_enter Tryd.func16, Tryd.ntmps16
  go_wp2_with fail
  refine (milli_any m _ h).mono ?_
  rintro e w' ⟨rfl, hd⟩
  generalize hn : (milli m).1 = n at *
  generalize hb : (milli m).2 = b at *
  have HN := Lib.hid hn
  have HB := Lib.hid hb
  clear hn hb
  have hq : -40 ≤ (n + 500) / 1000 ∧ (n + 500) / 1000 ≤ 110 := by omega
  go_wp2_with fail
  refine (below_any (n + 500) 1000 _ (by omega) (by omega) (by omega) (by omega)).mono ?_
  rintro e w2 ⟨rfl, rfl⟩
  generalize hx : (n + 500) / 1000 = q at *
  have HX := Lib.hid hx
  clear hx
  go_wp2
  go_ret2
  exact ⟨by rw [HN.out, HB.out, HX.out]; rfl, hd⟩

set_option maxHeartbeats 1000000 in
theorem rmilli_any (m : Int) (w : World) : Calls Tryd.prog 18 #[.int .i64 m] w fun e w' => e = .returned (.tuple #[.int .i32 (milli m).1, .bool (milli m).2]) ∧ Drawn w w' := by
  by_cases h0 : m < 625000
  · have e : milli m = (-40000, false) := by unfold milli; rw [if_pos h0]
    rw [e]
    go_enter Tryd.func18, Tryd.ntmps18
    go_wp2_with fail
    refine (entry_any 0 _ (by omega)).mono ?_
    rintro e w' ⟨rfl, rfl⟩
    rw [show T 0 = 625000 from rfl]
    go_wp2
    go_ret2
    exact ⟨rfl, Drawn.refl _⟩
  by_cases h1 : 16937500 < m
  · have e : milli m = (110000, false) := by unfold milli; rw [if_neg h0, if_pos h1]
    rw [e]
    go_enter Tryd.func18, Tryd.ntmps18
    go_wp2_with fail
    refine (entry_any 0 _ (by omega)).mono ?_
    rintro e w' ⟨rfl, rfl⟩
    rw [show T 0 = 625000 from rfl]
    go_wp2_with fail
    refine (entry_any 15 _ (by omega)).mono ?_
    rintro e w' ⟨rfl, rfl⟩
    rw [show T 15 = 16937500 from rfl]
    go_wp2
    go_ret2
    exact ⟨rfl, Drawn.refl _⟩
  go_enter Tryd.func18, Tryd.ntmps18
  go_wp2_with fail
  refine (entry_any 0 _ (by omega)).mono ?_
  rintro e w' ⟨rfl, rfl⟩
  rw [show T 0 = 625000 from rfl]
  go_wp2_with fail
  refine (entry_any 15 _ (by omega)).mono ?_
  rintro e w' ⟨rfl, rfl⟩
  rw [show T 15 = 16937500 from rfl]
  go_wp2
  go_loop [4] (fun v => ∃ k : Nat, k ≤ 15 ∧ v = .int .i64 k ∧ T k ≤ m) (fun v => 15 - (intOf v).toNat)
  case atStart => exact ⟨0, by omega, rfl, by show 625000 ≤ m; omega⟩
  case round =>
    obtain ⟨k, hk, rfl, hkm⟩ := hrel
    by_cases hlt : k < 15
    · by_cases hm : T (k + 1) ≤ m
      · go_wp2_with fail
        refine (entry_any (k + 1) _ (by omega)).mono ?_
        rintro e w' ⟨rfl, rfl⟩
        go_wp2
        go_round
        case rel => exact ⟨k + 1, by omega, by go_num, hm⟩
        case measure => simp [intOf]; omega
      · have em : milli m = (-40000 + 10000 * (k : Int) + 10000 * (m - T k) / (T (k + 1) - T k), true) := by
          unfold milli
          rw [if_neg (by omega), if_neg (by omega), idx_eq m (by omega) k (by omega) hkm (fun _ => by omega)]
          unfold milliN
          rw [if_pos hlt]
        have EM := Lib.hid em
        have hr := T_range k (by omega)
        have hs := T_step k hlt
        have hq := quot_range m k hlt hkm (by omega)
        have hb2 : 0 ≤ 10000 * (m - T k) ∧ 10000 * (m - T k) ≤ 200000000000 := by omega
        clear em
        go_wp2_with fail
        refine (entry_any (k + 1) _ (by omega)).mono ?_
        rintro e w' ⟨rfl, rfl⟩
        go_wp2_with fail
        refine (entry_any k _ (by omega)).mono ?_
        rintro e w' ⟨rfl, rfl⟩
        go_wp2_with fail
        refine (entry_any (k + 1) _ (by omega)).mono ?_
        rintro e w' ⟨rfl, rfl⟩
        go_wp2_with fail
        refine (entry_any k _ (by omega)).mono ?_
        rintro e w' ⟨rfl, rfl⟩
        generalize T k = a at *
        generalize T (k + 1) = b at *
        go_wp2_with fail
        refine (rbelow_any (10000 * (m - a)) (b - a) _ (by omega) (by omega) (by omega) (by omega)).mono ?_
        rintro e w' ⟨rfl, rfl⟩
        go_wp2
        go_ret2
        exact ⟨by rw [EM.out]; rfl, Drawn.refl _⟩
    · obtain rfl : k = 15 := by omega
      have em : milli m = (110000, true) := by
        unfold milli
        rw [if_neg (by omega), if_neg (by omega), idx_eq m (by omega) 15 (by omega) hkm (fun h => absurd h (by omega))]
        rfl
      have EM := Lib.hid em
      clear em
      go_wp2
      go_ret2
      exact ⟨by rw [EM.out]; rfl, Drawn.refl _⟩

theorem rdegrees_any (m : Int) (w : World) : Calls Tryd.prog 19 #[.int .i64 m] w fun e w' => e = .returned (.tuple #[.int .i8 (((milli m).1 + 500) / 1000), .bool (milli m).2]) ∧ Drawn w w' := by
  have hr := milli_range m
  go_enter Tryd.func19, Tryd.ntmps19
  go_wp2_with fail
  refine (rmilli_any m _).mono ?_
  rintro e w' ⟨rfl, hd⟩
  generalize hn : (milli m).1 = n at *
  generalize hb : (milli m).2 = b at *
  have HN := Lib.hid hn
  have HB := Lib.hid hb
  clear hn hb
  have hq : -40 ≤ (n + 500) / 1000 ∧ (n + 500) / 1000 ≤ 110 := by omega
  go_wp2_with fail
  refine (rbelow_any (n + 500) 1000 _ (by omega) (by omega) (by omega) (by omega)).mono ?_
  rintro e w2 ⟨rfl, rfl⟩
  generalize hx : (n + 500) / 1000 = q at *
  have HX := Lib.hid hx
  clear hx
  go_wp2
  go_ret2
  exact ⟨by rw [HN.out, HB.out, HX.out]; rfl, hd⟩

/-- kelvins, as the model reckons them -/
def kelv (n : Int) : Nat := flt.fadd (flt.fdiv (floatOfInt .f64 n) 4652007308841189376) 4643512921809643110
theorem read_1000 : Ieee.double.read 4652007308841189376 = .number false 8796093022208000 (-43) := by decide +kernel
theorem fin_273 : flt.fin 4643512921809643110 := ⟨false, 4805305618032230, -44, by decide +kernel⟩
set_option maxHeartbeats 400000 in
theorem kelvin_any (m : Int) (w : World) (h : Has w) : Calls Tryd.prog 17 #[.int .i64 m] w fun e w' => e = .returned (.float .f64 (kelv (milli m).1)) ∧ Drawn w w' := by
  go_enter Tryd.func17, Tryd.ntmps17
  go_wp2_with fail
  refine (milli_any m _ h).mono ?_
  rintro e w' ⟨rfl, hd⟩
  generalize hn : (milli m).1 = n at *
  generalize hb : (milli m).2 = b at *
  have HN := Lib.hid hn
  have HB := Lib.hid hb
  clear hn hb
  have h1 := flt.div_some (flt.nn_ofInt n) read_1000 (by decide)
  have h2 := flt.add_some h1.2 fin_273
  have HK : Hid (kelv n = flt.fadd (flt.fdiv (floatOfInt .f64 n) 4652007308841189376) 4643512921809643110) := Lib.hid rfl
  have r1 := fun w : World => run_float_arith (P := Tryd.prog) w .quo 38 .f64 _ _ _ h1.1
  have r2 := fun w : World => run_float_arith (P := Tryd.prog) w .add 38 .f64 _ _ _ h2.1
  clear h1 h2
  go_wp2
  go_ret
  exact ⟨by rw [HN.out, HK.out]; rfl, hd⟩
set_option maxHeartbeats 400000 in
theorem rkelvin_any (m : Int) (w : World) : Calls Tryd.prog 23 #[.int .i64 m] w fun e w' => e = .returned (.float .f64 (kelv (milli m).1)) ∧ Drawn w w' := by
  go_enter Tryd.func23, Tryd.ntmps23
  go_wp2_with fail
  refine (rmilli_any m _).mono ?_
  rintro e w' ⟨rfl, hd⟩
  generalize hn : (milli m).1 = n at *
  generalize hb : (milli m).2 = b at *
  have HN := Lib.hid hn
  have HB := Lib.hid hb
  clear hn hb
  have h1 := flt.div_some (flt.nn_ofInt n) read_1000 (by decide)
  have h2 := flt.add_some h1.2 fin_273
  have HK : Hid (kelv n = flt.fadd (flt.fdiv (floatOfInt .f64 n) 4652007308841189376) 4643512921809643110) := Lib.hid rfl
  have r1 := fun w : World => run_float_arith (P := Tryd.prog) w .quo 38 .f64 _ _ _ h1.1
  have r2 := fun w : World => run_float_arith (P := Tryd.prog) w .add 38 .f64 _ _ _ h2.1
  clear h1 h2
  go_wp2
  go_ret
  exact ⟨by rw [HN.out, HK.out]; rfl, hd⟩

/-- a number modulo 2^16, from -32768 on; and the nearest one -/
def wrap16 (n : Int) : Int := IntKind.i16.wrap n
def clip16 (n : Int) : Int := if n > 32767 then 32767 else if n < -32768 then -32768 else n
theorem wrap16_low (n : Int) (h : n - 65536 * (n / 65536) < 32768) : n - 65536 * (n / 65536) = wrap16 n := by
  unfold wrap16; simp [IntKind.wrap, IntKind.bits, IntKind.signed]; omega
theorem wrap16_high (n : Int) (h : 32768 ≤ n - 65536 * (n / 65536)) : n - 65536 * (n / 65536) - 65536 = wrap16 n := by
  unfold wrap16; simp [IntKind.wrap, IntKind.bits, IntKind.signed]; omega
theorem wrap16_mid {n : Int} (h : n ≤ 32767) (k : -32768 ≤ n) : n = wrap16 n := by
  unfold wrap16; simp [IntKind.wrap, IntKind.bits, IntKind.signed]; omega
theorem ret_16 {a b c d : Int} (h : a = b) (k : c = d) : Ending.returned (.tuple #[.int .i16 a, .int .i16 c]) = .returned (.tuple #[.int .i16 b, .int .i16 d]) := by rw [h, k]
theorem clip_hi {n : Int} (h : 32767 < n) : (32767 : Int) = clip16 n := by unfold clip16; rw [if_pos h]
theorem clip_lo {n : Int} (h : n < -32768) : (-32768 : Int) = clip16 n := by unfold clip16; rw [if_neg (by omega), if_pos h]
theorem clip_mid {n : Int} (h : n ≤ 32767) (k : -32768 ≤ n) : n = clip16 n := by unfold clip16; rw [if_neg (by omega), if_neg (by omega)]
set_option maxHeartbeats 400000 in
theorem raw_any (m : Int) (w : World) (h0 : -9223372036854775808 ≤ m) (h1 : m ≤ 9223372036854775807) : Calls Tryd.prog 21 #[.int .i64 m] w fun e w' => e = .returned (.tuple #[.int .i16 (wrap16 (m / 1000)), .int .i16 (clip16 (m / 1000))]) ∧ w = w' := by
  have hr := div_range (b := 1000) (by omega) h0 h1
  go_enter Tryd.func21, Tryd.ntmps21
  go_wp2_with fail
  refine (below_any m 1000 _ (by omega) (by omega) (by omega) (by omega)).mono ?_
  rintro e w' ⟨rfl, rfl⟩
  generalize hn : m / 1000 = n at *
  have HN := Lib.hid hn
  clear hn
  by_cases ha : 32767 < n
  · go_wp2
    go_ret2
    exact ⟨by rw [HN.out]; exact ret_16 rfl (clip_hi ha), rfl⟩
  by_cases hb : n < -32768
  · go_wp2
    go_ret2
    exact ⟨by rw [HN.out]; exact ret_16 rfl (clip_lo hb), rfl⟩
  by_cases hx : n = -32768
  · subst hx
    go_wp2
    go_ret2
    exact ⟨by rw [HN.out]; exact ret_16 (by decide) (by decide), rfl⟩
  have hy : -32768 < n := by omega
  go_wp2
  go_ret2
  exact ⟨by rw [HN.out]; exact ret_16 (wrap16_mid (by omega) (by omega)) (clip_mid (by omega) (by omega)), rfl⟩
set_option maxHeartbeats 800000 in
theorem rraw_any (m : Int) (w : World) (h0 : -9223372036854775808 ≤ m) (h1 : m ≤ 9223372036854775807) : Calls Tryd.prog 20 #[.int .i64 m] w fun e w' => e = .returned (.tuple #[.int .i16 (wrap16 (m / 1000)), .int .i16 (clip16 (m / 1000))]) ∧ w = w' := by
  have hr := div_range (b := 1000) (by omega) h0 h1
  go_enter Tryd.func20, Tryd.ntmps20
  go_wp2_with fail
  refine (rbelow_any m 1000 _ (by omega) (by omega) (by omega) (by omega)).mono ?_
  rintro e w' ⟨rfl, rfl⟩
  generalize hn : m / 1000 = n at *
  have HN := Lib.hid hn
  clear hn
  go_wp2_with fail
  refine (rbelow_any n 65536 _ (by omega) (by omega) (by omega) (by omega)).mono ?_
  rintro e w' ⟨rfl, rfl⟩
  have hq : 0 ≤ n - 65536 * (n / 65536) ∧ n - 65536 * (n / 65536) < 65536 := by omega
  have hq2 : -9223372036854775808 ≤ 65536 * (n / 65536) ∧ 65536 * (n / 65536) ≤ 9223372036854775807 := by omega
  by_cases hc : n - 65536 * (n / 65536) < 32768
  · by_cases ha : 32767 < n
    · go_wp2
      go_ret2
      exact ⟨by rw [HN.out]; exact ret_16 (wrap16_low n hc) (clip_hi ha), rfl⟩
    by_cases hb : n < -32768
    · go_wp2
      go_ret2
      exact ⟨by rw [HN.out]; exact ret_16 (wrap16_low n hc) (clip_lo hb), rfl⟩
    go_wp2
    go_ret2
    exact ⟨by rw [HN.out]; exact ret_16 (wrap16_low n hc) (clip_mid (by omega) (by omega)), rfl⟩
  · by_cases ha : 32767 < n
    · go_wp2
      go_ret2
      exact ⟨by rw [HN.out]; exact ret_16 (wrap16_high n (by omega)) (clip_hi ha), rfl⟩
    by_cases hb : n < -32768
    · go_wp2
      go_ret2
      exact ⟨by rw [HN.out]; exact ret_16 (wrap16_high n (by omega)) (clip_lo hb), rfl⟩
    go_wp2
    go_ret2
    exact ⟨by rw [HN.out]; exact ret_16 (wrap16_high n (by omega)) (clip_mid (by omega) (by omega)), rfl⟩

theorem micro_none (i : Int) (w : World) (h : i < 0 ∨ 16 ≤ i) : Calls Tryd.prog 10 #[.int .i64 i] w fun e w' => e = .returned (.tuple #[.int .i64 0, .int .i64 1]) ∧ w = w' := micro_no i w h
theorem bits_run (b : Nat) (w : World) : (callFunc 22 #[.float .f64 b]).run Tryd.prog w = .ok (.value (.int .u64 b)) w := by kernel_rfl
set_option maxHeartbeats 800000 in
/-- SensorReads, behind its first seven calls -/
theorem reads_walk (m i : Int) (w : World) (hm : -9223372036854775808 ≤ m ∧ m ≤ 9223372036854775807) (h : Has w) : Calls Tryd.prog 6 #[.int .i64 m, .int .i64 i] w fun e w' => e = .returned (.bool true) ∧ Drawn w w' := by
  have hrg := milli_range m
  have hbits := bits_run
  go_enter Tryd.func6, Tryd.ntmps6
  go_wp2_with fail
  refine (rmilli_any m _).mono ?_
  rintro e w1 ⟨rfl, hd1⟩
  go_wp2_with fail
  refine (milli_any m _ (h.drawn hd1)).mono ?_
  rintro e w2 ⟨rfl, hd2⟩
  go_wp2_with fail
  refine (rdegrees_any m _).mono ?_
  rintro e w3 ⟨rfl, hd3⟩
  have hd := (hd1.trans hd2).trans hd3
  go_wp2_with fail
  refine (degrees_any m _ (h.drawn hd)).mono ?_
  rintro e w4 ⟨rfl, hd4⟩
  replace hd := hd.trans hd4
  clear hd1 hd2 hd3 hd4
  go_wp2_with fail
  refine (rraw_any m _ hm.1 hm.2).mono ?_
  rintro e w5 ⟨rfl, rfl⟩
  go_wp2_with fail
  refine (raw_any m _ hm.1 hm.2).mono ?_
  rintro e w5 ⟨rfl, rfl⟩
  generalize (milli m).1 = n at *
  generalize (milli m).2 = b at *
  generalize (n + 500) / 1000 = d at *
  generalize wrap16 (m / 1000) = x at *
  generalize clip16 (m / 1000) = y at *
  by_cases hi : 0 ≤ i ∧ i < 16
  · obtain ⟨k, rfl⟩ := Int.eq_ofNat_of_zero_le hi.1
    have hk : k < 16 := by omega
    clear hi
    have hc := (h.drawn hd).cell k hk
    go_wp2_with fail
    refine (micro_yes k _ hk _ hc).mono ?_
    rintro e w6 ⟨rfl, rfl⟩
    go_wp2_with fail
    refine (entry_any k _ hk).mono ?_
    rintro e w6 ⟨rfl, rfl⟩
    go_wp2_with fail
    refine (kelvin_any m _ (h.drawn hd)).mono ?_
    rintro e w7 ⟨rfl, hd7⟩
    replace hd := hd.trans hd7
    clear hd7 hc
    go_wp2_with fail
    refine (rkelvin_any m _).mono ?_
    rintro e w8 ⟨rfl, hd8⟩
    replace hd := hd.trans hd8
    clear hd8
    generalize kelv (milli m).1 = kk at *
    go_wp2
    go_ret
    exact ⟨rfl, hd⟩
  · by_cases h0 : i < 0
    · clear hi
      go_wp2_with fail
      refine (micro_no i _ (by omega)).mono ?_
      rintro e w6 ⟨rfl, rfl⟩
      go_wp2_with fail
      refine (kelvin_any m _ (h.drawn hd)).mono ?_
      rintro e w7 ⟨rfl, hd7⟩
      replace hd := hd.trans hd7
      clear hd7
      go_wp2_with fail
      refine (rkelvin_any m _).mono ?_
      rintro e w8 ⟨rfl, hd8⟩
      replace hd := hd.trans hd8
      clear hd8
      generalize kelv (milli m).1 = kk at *
      go_wp2
      go_ret
      exact ⟨rfl, hd⟩
    · have h1 : 16 ≤ i := by omega
      clear hi
      go_wp2_with fail
      refine (micro_no i _ (by omega)).mono ?_
      rintro e w6 ⟨rfl, rfl⟩
      go_wp2_with fail
      refine (kelvin_any m _ (h.drawn hd)).mono ?_
      rintro e w7 ⟨rfl, hd7⟩
      replace hd := hd.trans hd7
      clear hd7
      go_wp2_with fail
      refine (rkelvin_any m _).mono ?_
      rintro e w8 ⟨rfl, hd8⟩
      replace hd := hd.trans hd8
      clear hd8
      generalize kelv (milli m).1 = kk at *
      go_wp2
      go_ret
      exact ⟨rfl, hd⟩
end Go.Proofs.YtgpapbpkcggolaaDoor
