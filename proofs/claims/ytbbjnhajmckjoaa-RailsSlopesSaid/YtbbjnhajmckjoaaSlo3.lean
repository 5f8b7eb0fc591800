/- Rails: math.Min, math.Max, walked. -/
import Derived.Test.YtbbjnhajmckjoaaSlo2
import Derived.Laws.Externs
namespace Go.Proofs.Ytbbjnhajmckjoaa
open flt Ieee Go.RowKit Go.BigFrame

theorem write_inf (s : Bool) : nn (double.write (.infinity s)) ∧ key (double.write (.infinity s)) = if s then -(double.infRung : Int) else double.infRung := by
  cases s <;> (unfold nn; decide +kernel)
theorem zero_key {x : Nat} (hx : rung x < double.infRung) (h : (double.read x).isZero = true) : key x = 0 := by
  obtain ⟨m, e, hm, -, hv⟩ := read_fin hx
  rw [hm] at h
  have hm0 : m = 0 := by
    unfold Datum.isZero at h
    cases m with
    | zero => rfl
    | succ n => simp at h
  rw [hm0, Nat.zero_mul] at hv
  have hr : rung x = 0 := by
    rcases Nat.eq_zero_or_pos (rung x) with q | q
    · exact q
    · have := V_pos q; omega
  have := rung_key x
  omega
theorem pick_run (nm : String) (ng : Bool) (win : Ordering) (x y : Nat) (w : World) : ∃ z, (Go.Extern.MathDim.pick nm ng win #[.float .f64 x, .float .f64 y]).run Try.prog w = .ok (.float .f64 z) w ∧
    (rung x < double.infRung → (cls y = none → cls z = none) ∧ (nn y → (ng = true → win = .lt → nn z ∧ key z = min (key x) (key y)) ∧ (ng = false → win = .gt → nn z ∧ key z = max (key x) (key y))) ∧ (rung y < double.infRung → z = x ∨ z = y)) := by
  unfold Go.Extern.MathDim.pick
  refine ⟨_, rfl, fun hx => ?_⟩
  obtain ⟨m, e, hm, -, -⟩ := read_fin hx
  have hm' : FloatKind.f64.decode x = .number (neg x) m e := hm
  have hna : (Datum.number (neg x) m e == Datum.infinity ng) = false := rfl
  have hord : (Datum.number (neg x) m e).order (FloatKind.f64.decode y) = double.order x y := by
    show _ = (double.read x).order (double.read y)
    rw [hm]; rfl
  simp only [hm', hna, Bool.false_or, hord]
  have nx := nn_fin hx
  cases hy : double.read y with
  | number t n j =>
    have hy' : FloatKind.f64.decode y = .number t n j := hy
    have hnb : (Datum.number t n j == Datum.infinity ng) = false := rfl
    have ny : nn y := by unfold nn; rw [hy]; rfl
    have fy : rung y < double.infRung := by
      rcases Nat.lt_or_ge (rung y) double.infRung with q | q
      · exact q
      · have := rung_le ny
        rw [read_inf (by omega)] at hy
        cases hy
    have hzx := zero_key hx
    have hzy := zero_key fy
    rw [hm] at hzx
    rw [hy] at hzy
    simp only [hy', hnb, Bool.false_eq_true, if_false, show (Datum.number (neg x) m e).isNaN = false from rfl, show (Datum.number t n j).isNaN = false from rfl, Bool.or_self]
    rw [order_key nx ny]
    refine ⟨fun h => absurd h (by rw [cls_nn ny]; simp), fun _ => ⟨fun h1 h2 => ?_, fun h1 h2 => ?_⟩, fun _ => ?_⟩
    · subst h2
      split
      · rename_i q
        rw [Bool.and_eq_true] at q
        have k1 := hzx q.1
        have k2 := hzy q.2
        split
        · exact ⟨nx, by omega⟩
        · exact ⟨ny, by omega⟩
      · split
        · rename_i q
          have : key x < key y := by rw [← Int.compare_eq_lt]; simpa using q
          exact ⟨nx, by omega⟩
        · rename_i q
          have : ¬ key x < key y := by rw [← Int.compare_eq_lt]; simpa using q
          exact ⟨ny, by omega⟩
    · subst h2
      split
      · rename_i q
        rw [Bool.and_eq_true] at q
        have k1 := hzx q.1
        have k2 := hzy q.2
        split
        · exact ⟨nx, by omega⟩
        · exact ⟨ny, by omega⟩
      · split
        · rename_i q
          have : key y < key x := by rw [← Int.compare_eq_gt]; simpa using q
          exact ⟨nx, by omega⟩
        · rename_i q
          have : ¬ key y < key x := by rw [← Int.compare_eq_gt]; simpa using q
          exact ⟨ny, by omega⟩
    · split
      · split
        · exact Or.inl rfl
        · exact Or.inr rfl
      · split
        · exact Or.inl rfl
        · exact Or.inr rfl
  | infinity t =>
    have hy' : FloatKind.f64.decode y = .infinity t := hy
    have ny : nn y := by unfold nn; rw [hy]; rfl
    have hy1 : rung y = double.infRung := by
      rcases Nat.lt_or_ge (rung y) double.infRung with q | q
      · obtain ⟨_, _, h, -⟩ := read_fin q
        rw [hy] at h
        cases h
      · have := rung_le ny; omega
    have hyt : neg y = t := by
      have := read_inf hy1
      rw [hy] at this
      cases this
      rfl
    have hky : key y = if t then -(double.infRung : Int) else double.infRung := by unfold key; rw [hyt, hy1]
    have hkx := rung_key x
    have hkx2 : -(double.infRung : Int) < key x ∧ key x < double.infRung := by omega
    simp only [hy', show (Datum.number (neg x) m e).isNaN = false from rfl, show (Datum.infinity t).isNaN = false from rfl, Bool.or_self, Bool.false_eq_true, if_false, show (Datum.infinity t).isZero = false from rfl, Bool.and_false]
    rw [order_key nx ny]
    refine ⟨fun h => absurd h (by rw [cls_nn ny]; simp), fun _ => ⟨fun h1 h2 => ?_, fun h1 h2 => ?_⟩, fun q => by omega⟩
    · subst h1 h2
      have hw := write_inf true
      simp only [if_true] at hw
      cases t with
      | true =>
        simp only [if_true] at hky
        rw [if_pos (show (Datum.infinity true == Datum.infinity true) = true by decide)]
        exact ⟨hw.1, by show key (double.write (.infinity true)) = _; rw [hw.2, hky]; omega⟩
      | false =>
        simp only [Bool.false_eq_true, if_false] at hky
        rw [if_neg (show ¬ (Datum.infinity false == Datum.infinity true) = true by decide), if_pos (by rw [show compare (key x) (key y) = .lt by rw [Int.compare_eq_lt]; omega]; rfl)]
        exact ⟨nx, by omega⟩
    · subst h1 h2
      have hw := write_inf false
      simp only [Bool.false_eq_true, if_false] at hw
      cases t with
      | false =>
        simp only [Bool.false_eq_true, if_false] at hky
        rw [if_pos (show (Datum.infinity false == Datum.infinity false) = true by decide)]
        exact ⟨hw.1, by show key (double.write (.infinity false)) = _; rw [hw.2, hky]; omega⟩
      | true =>
        simp only [if_true] at hky
        rw [if_neg (show ¬ (Datum.infinity true == Datum.infinity false) = true by decide), if_pos (by rw [show compare (key x) (key y) = .gt by rw [Int.compare_eq_gt]; omega]; rfl)]
        exact ⟨nx, by omega⟩
  | nan t n =>
    have hy' : FloatKind.f64.decode y = .nan t n := hy
    have hnb : (Datum.nan t n == Datum.infinity ng) = false := rfl
    have ny : ¬ nn y := by unfold nn; rw [hy]; simp [Datum.isNaN]
    simp only [hy', hnb, Bool.false_eq_true, if_false, show (Datum.nan t n).isNaN = true from rfl, Bool.or_true, if_true]
    exact ⟨fun _ => cls_nan, fun h => absurd h ny, fun h => absurd (nn_fin h) ny⟩
theorem amin_run (x y : Nat) (w : World) : (callFunc 62 #[.float .f64 x, .float .f64 y]).run Try.prog w = ((Go.Extern.MathDim.pick "math.archMin" true .lt #[.float .f64 x, .float .f64 y]).run Try.prog w).andThen fun v w => .ok (.value v) w := by kernel_rfl
theorem amax_run (x y : Nat) (w : World) : (callFunc 64 #[.float .f64 x, .float .f64 y]).run Try.prog w = ((Go.Extern.MathDim.pick "math.archMax" false .gt #[.float .f64 x, .float .f64 y]).run Try.prog w).andThen fun v w => .ok (.value v) w := by kernel_rfl
/-- what the lesser of two is, the first one finite -/
structure Lsr (x y z : Nat) : Prop where
  none_ : cls y = none → cls z = none
  n : nn y → nn z
  k : nn y → key z = min (key x) (key y)
  e : rung y < double.infRung → z = x ∨ z = y
structure Gtr (x y z : Nat) : Prop where
  none_ : cls y = none → cls z = none
  n : nn y → nn z
  k : nn y → key z = max (key x) (key y)
  e : rung y < double.infRung → z = x ∨ z = y
set_option maxHeartbeats 1000000 in
set_option maxRecDepth 100000 in
theorem min_any (x y : Nat) (hx : rung x < double.infRung) (w : World) : Calls Try.prog 44 #[.float .f64 x, .float .f64 y] w fun e w' => ∃ z, e = .returned (.float .f64 z) ∧ w' = w ∧ Lsr x y z := by
  obtain ⟨z, hz, hq⟩ := pick_run "math.archMin" true .lt x y w
  obtain ⟨q1, q2, q3⟩ := hq hx
  have hL : Hid (Lsr x y z) := Lib.hid ⟨q1, fun h => ((q2 h).1 rfl rfl).1, fun h => ((q2 h).1 rfl rfl).2, q3⟩
  have hr : (callFunc 62 #[.float .f64 x, .float .f64 y]).run Try.prog w = .ok (.value (.float .f64 z)) w := by rw [amin_run, hz]; rfl
  clear hz hq q1 q2 q3 hx
  go_enter Try.func44, Try.ntmps44
  go_wp2
  go_ret
  exact ⟨z, rfl, rfl, hL.out⟩
set_option maxHeartbeats 1000000 in
set_option maxRecDepth 100000 in
theorem max_any (x y : Nat) (hx : rung x < double.infRung) (w : World) : Calls Try.prog 45 #[.float .f64 x, .float .f64 y] w fun e w' => ∃ z, e = .returned (.float .f64 z) ∧ w' = w ∧ Gtr x y z := by
  obtain ⟨z, hz, hq⟩ := pick_run "math.archMax" false .gt x y w
  obtain ⟨q1, q2, q3⟩ := hq hx
  have hL : Hid (Gtr x y z) := Lib.hid ⟨q1, fun h => ((q2 h).2 rfl rfl).1, fun h => ((q2 h).2 rfl rfl).2, q3⟩
  have hr : (callFunc 64 #[.float .f64 x, .float .f64 y]).run Try.prog w = .ok (.value (.float .f64 z)) w := by rw [amax_run, hz]; rfl
  clear hz hq q1 q2 q3 hx
  go_enter Try.func45, Try.ntmps45
  go_wp2
  go_ret
  exact ⟨z, rfl, rfl, hL.out⟩
theorem one_tests : isInf (cls 4607182418800017408) = false ∧ (FloatKind.f64.format.order 4607182418800017408 4607182418800017408 != some .eq) = false ∧ rung 4607182418800017408 = 4607182418800017408 ∧ (FloatKind.f64.format.order 4607182418800017408 4503599627370496 == some .lt) = false ∧ floatBits .mul .f64 4607182418800017408 m1 = some m1 := by
  refine ⟨?_, ?_, ?_, ?_, ?_⟩ <;> decide +kernel
set_option maxHeartbeats 4000000 in
set_option maxRecDepth 100000 in
theorem ldexp_any (w : World) : Calls Try.prog 46 #[.float .f64 4607182418800017408, .int .i64 500] w fun e w' => e = .returned (.float .f64 m1) ∧ w' = w := by
  obtain ⟨t1, t2, t3, t4, t5⟩ := one_tests
  have KI := fun X => isInf_any 4607182418800017408 X
  rw [t1] at KI
  have KA := fun X => abs_any 4607182418800017408 X
  rw [t3] at KA
  have hb := fun X => bits_run 4607182418800017408 X
  have hfr := fun X => from_run (m1 : Int) X
  rw [show (m1 : Int).toNat = m1 from rfl] at hfr
  have hm := fun X => run_float_arith (P := Try.prog) X .mul 86 .f64 4607182418800017408 m1 m1 t5
  have hm1 : (m1 : Int) = 6858982232485265408 := rfl
  have b1 : bits .and .i64 1023 2047 = 1023 := by decide +kernel
  have b2 : bits .andNot .u64 4607182418800017408 9218868437227405312 = 0 := by decide +kernel
  have b3 : bits .or .u64 0 6858982232485265408 = 6858982232485265408 := by decide +kernel
  rw [hm1] at hfr
  clear t1 t3 t5 hm1
  go_enter Try.func46, Try.ntmps46
  go_wp2_with (first
    | (go_at_call 76; (with_reducible refine (KI _).mono ?_); rintro e w1 ⟨rfl, rfl⟩)
    | (go_at_call 43; (with_reducible refine (KA _).mono ?_); rintro e w1 ⟨rfl, rfl⟩)
    | go_in)
  go_ret
  exact ⟨rfl, rfl⟩
end Go.Proofs.Ytbbjnhajmckjoaa
