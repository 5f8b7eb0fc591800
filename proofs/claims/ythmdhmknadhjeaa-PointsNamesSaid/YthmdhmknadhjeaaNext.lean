/- Points: Next, at the loads that are no number. -/
import Derived.Test.YthmdhmknadhjeaaWorks
namespace Go.Proofs.Ythmdhmknadhjeaa
open Go.RowKit Go.BigFrame

theorem nan_any (w : World) : Calls Try.prog 32 #[] w fun e w' => e = .returned (.float .f64 9221120237041090561) ∧ w = w' := by
  have h1 := fun w : World => (show (callFunc 57 #[.int .u64 9221120237041090561]).run Try.prog w = .ok (.value (.float .f64 9221120237041090561)) w by kernel_rfl)
  go_enter Try.func32, Try.ntmps32
  go_wp2
  go_ret
  exact ⟨rfl, rfl⟩
theorem inf_up (w : World) : Calls Try.prog 33 #[.int .i64 1] w fun e w' => e = .returned (.float .f64 9218868437227405312) ∧ w = w' := by
  have h1 := fun w : World => (show (callFunc 57 #[.int .u64 9218868437227405312]).run Try.prog w = .ok (.value (.float .f64 9218868437227405312)) w by kernel_rfl)
  go_enter Try.func33, Try.ntmps33
  go_wp2
  go_ret
  exact ⟨rfl, rfl⟩
theorem inf_down (w : World) : Calls Try.prog 33 #[.int .i64 (-1)] w fun e w' => e = .returned (.float .f64 18442240474082181120) ∧ w = w' := by
  have h1 := fun w : World => (show (callFunc 57 #[.int .u64 18442240474082181120]).run Try.prog w = .ok (.value (.float .f64 18442240474082181120)) w by kernel_rfl)
  go_enter Try.func33, Try.ntmps33
  go_wp2
  go_ret
  exact ⟨rfl, rfl⟩
theorem abs_lit (n m : Nat) (hn : (callFunc 60 #[.float .f64 n]).run Try.prog = fun w => .ok (.value (.int .u64 n)) w) (hb : bits .andNot .u64 (n : Int) 9223372036854775808 = (m : Int)) (hm : (callFunc 57 #[.int .u64 m]).run Try.prog = fun w => .ok (.value (.float .f64 m)) w) (w : World) :
    Calls Try.prog 65 #[.float .f64 n] w fun e w' => e = .returned (.float .f64 m) ∧ w = w' := by
  have h1 := fun w => congrFun hn w
  have h2 := fun w => congrFun hm w
  go_enter Try.func65, Try.ntmps65
  go_wp2
  go_ret
  exact ⟨rfl, rfl⟩
theorem isinf_lit (n m : Nat) (b : Bool) (ha : ∀ w, Calls Try.prog 65 #[.float .f64 n] w fun e w' => e = .returned (.float .f64 m) ∧ w = w') (hb : (FloatKind.f64.format.order m 9218868437227405311 == some .gt) = b) (w : World) :
    Calls Try.prog 55 #[.float .f64 n, .int .i64 0] w fun e w' => e = .returned (.bool b) ∧ w = w' := by
  go_enter Try.func55, Try.ntmps55
  go_wp2_with (go_at_call 65; refine (ha _).mono ?_; rintro e w1 ⟨rfl, rfl⟩)
  go_ret
  exact ⟨rfl, rfl⟩
theorem isnan_lit (n : Nat) (b : Bool) (hb : (FloatKind.f64.format.order n n != some .eq) = b) (w : World) :
    Calls Try.prog 56 #[.float .f64 n] w fun e w' => e = .returned (.bool b) ∧ w = w' := by
  go_enter Try.func56, Try.ntmps56
  go_wp2
  go_ret
  exact ⟨rfl, rfl⟩
theorem bits_lit (n : Nat) (h : ∀ w, (callFunc 60 #[.float .f64 n]).run Try.prog w = .ok (.value (.int .u64 n)) w) : (callFunc 60 #[.float .f64 n]).run Try.prog = fun w => .ok (.value (.int .u64 n)) w := funext h
theorem up_fin (w : World) : Calls Try.prog 55 #[.float .f64 4605380978949069210, .int .i64 0] w fun e w' => e = .returned (.bool false) ∧ w = w' :=
  isinf_lit _ 4605380978949069210 false (abs_lit _ _ (funext fun w => by kernel_rfl) (by decide) (funext fun w => by kernel_rfl)) (by decide) w
theorem down_fin (w : World) : Calls Try.prog 55 #[.float .f64 4599075939470750515, .int .i64 0] w fun e w' => e = .returned (.bool false) ∧ w = w' :=
  isinf_lit _ 4599075939470750515 false (abs_lit _ _ (funext fun w => by kernel_rfl) (by decide) (funext fun w => by kernel_rfl)) (by decide) w
theorem down_num (w : World) : Calls Try.prog 56 #[.float .f64 4599075939470750515] w fun e w' => e = .returned (.bool false) ∧ w = w' := isnan_lit _ _ (by decide) w
theorem nan_not (w : World) : Calls Try.prog 56 #[.float .f64 9221120237041090561] w fun e w' => e = .returned (.bool true) ∧ w = w' := isnan_lit _ _ (by decide) w
theorem inf_num (w : World) : Calls Try.prog 56 #[.float .f64 9218868437227405312] w fun e w' => e = .returned (.bool false) ∧ w = w' := isnan_lit _ _ (by decide) w
theorem ninf_num (w : World) : Calls Try.prog 56 #[.float .f64 18442240474082181120] w fun e w' => e = .returned (.bool false) ∧ w = w' := isnan_lit _ _ (by decide) w

set_option maxHeartbeats 2000000 in
theorem next_nan (A : Option Addr) (c : Nat) (w : World) (h : Pts w A smallL) :
    Calls Try.prog 30 #[.slice A 3 c, .int .i64 1, .float .f64 9221120237041090561, .float .f64 4605380978949069210, .float .f64 4599075939470750515] w fun e w' => e = .returned (.tuple #[.int .i64 1, .int .i64 0]) ∧ Below w.heap.size w w' := by
  have B : Calls Try.prog 41 #[.slice A 3 c] w _ := bad_any smallL A c w h
  rw [show (check smallL).2 = 0 by decide] at B
  have hz : FloatKind.f64.format.order 4605380978949069210 0 = some .gt := by decide
  go_enter Try.func30, Try.ntmps30
  go_wp2_with (first
    | (go_at_call 41; refine B.mono ?_; rintro e w1 ⟨rfl, hb⟩)
    | (go_at_call 55; (with_reducible refine (up_fin _).mono ?_); rintro e w2 ⟨rfl, rfl⟩)
    | (go_at_call 55; (with_reducible refine (down_fin _).mono ?_); rintro e w2 ⟨rfl, rfl⟩)
    | (go_at_call 56; (with_reducible refine (down_num _).mono ?_); rintro e w2 ⟨rfl, rfl⟩)
    | (go_at_call 56; (with_reducible refine (nan_not _).mono ?_); rintro e w2 ⟨rfl, rfl⟩))
  go_ret2
  exact ⟨rfl, hb⟩
set_option maxHeartbeats 2000000 in
theorem next_up (A : Option Addr) (c : Nat) (w : World) (h : Pts w A smallL) :
    Calls Try.prog 30 #[.slice A 3 c, .int .i64 1, .float .f64 9218868437227405312, .float .f64 4605380978949069210, .float .f64 4599075939470750515] w fun e w' => e = .returned (.tuple #[.int .i64 2, .int .i64 0]) ∧ Below w.heap.size w w' := by
  have B : Calls Try.prog 41 #[.slice A 3 c] w _ := bad_any smallL A c w h
  rw [show (check smallL).2 = 0 by decide] at B
  have hz : FloatKind.f64.format.order 4605380978949069210 0 = some .gt := by decide
  have hl : FloatKind.f64.format.order 9218868437227405312 4605380978949069210 = some .gt := by decide
  go_enter Try.func30, Try.ntmps30
  go_wp2_with (first
    | (go_at_call 41; refine B.mono ?_; rintro e w1 ⟨rfl, hb⟩)
    | (go_at_call 55; (with_reducible refine (up_fin _).mono ?_); rintro e w2 ⟨rfl, rfl⟩)
    | (go_at_call 55; (with_reducible refine (down_fin _).mono ?_); rintro e w2 ⟨rfl, rfl⟩)
    | (go_at_call 56; (with_reducible refine (down_num _).mono ?_); rintro e w2 ⟨rfl, rfl⟩)
    | (go_at_call 56; (with_reducible refine (inf_num _).mono ?_); rintro e w2 ⟨rfl, rfl⟩))
  go_ret2
  exact ⟨rfl, hb⟩
set_option maxHeartbeats 2000000 in
theorem next_down (A : Option Addr) (w : World) (h : Pts w A smallL) :
    Calls Try.prog 30 #[.slice A 3 3, .int .i64 2, .float .f64 18442240474082181120, .float .f64 4605380978949069210, .float .f64 4599075939470750515] w fun e w' => e = .returned (.tuple #[.int .i64 0, .int .i64 0]) ∧ Below w.heap.size w w' := by
  have B : Calls Try.prog 41 #[.slice A 3 3] w _ := bad_any smallL A 3 w h
  rw [show (check smallL).2 = 0 by decide] at B
  have hz : FloatKind.f64.format.order 4605380978949069210 0 = some .gt := by decide
  have hl : FloatKind.f64.format.order 18442240474082181120 4605380978949069210 = some .lt := by decide
  have hl2 : FloatKind.f64.format.order 18442240474082181120 4599075939470750515 = some .lt := by decide
  have r1 := fun w : World => run_float_arith (P := Try.prog) w .mul 62 .f64 (floatOfInt .f64 400) 18442240474082181120 18442240474082181120 (by kernel_rfl)
  have r2 := fun w : World => run_float_arith (P := Try.prog) w .quo 62 .f64 18442240474082181120 4605380978949069210 18442240474082181120 (by kernel_rfl)
  have hl3 : FloatKind.f64.format.order (floatOfInt .f64 100) 18442240474082181120 = some .gt := by kernel_rfl
  go_enter Try.func30, Try.ntmps30
  go_wp2_with (first
    | (go_at_call 41; refine B.mono ?_; rintro e w1 ⟨rfl, hb⟩; obtain ⟨b2, o2, e2, _, d1, d2⟩ := (h.below hb).at_ (k := 2) (by decide); cases e2; obtain ⟨b3, o3, e3, _, d3, d4⟩ := (h.below hb).at_ (k := 0) (by decide); cases e3; simp only [List.getElem_cons_zero, List.getElem_cons_succ, Nat.zero_mul, Nat.add_zero, Nat.reduceMul] at d1 d2 d3 d4)
    | (go_at_call 55; (with_reducible refine (up_fin _).mono ?_); rintro e w2 ⟨rfl, rfl⟩)
    | (go_at_call 55; (with_reducible refine (down_fin _).mono ?_); rintro e w2 ⟨rfl, rfl⟩)
    | (go_at_call 56; (with_reducible refine (down_num _).mono ?_); rintro e w2 ⟨rfl, rfl⟩)
    | (go_at_call 56; (with_reducible refine (ninf_num _).mono ?_); rintro e w2 ⟨rfl, rfl⟩))
  go_loop [76] (fun v => v = .int .i64 0) (fun _ => 0)
  case atStart => rfl
  case round =>
    obtain rfl := hrel
    go_wp2
    go_ret2
    exact ⟨rfl, below_al hb _⟩
theorem small3 (w : World) : Calls Try.prog 31 #[] w fun e w' => ∃ A, e = .returned (.slice A 3 3) ∧ Pts w' A smallL ∧ Below w.heap.size w w' := by
  go_enter Try.func31, Try.ntmps31
  go_wp2
  go_ret
  have ho := Own.lit (w := w) (base := w.heap.size) (e := 36) (size := 2) (xs := smallL.map prow) #[.int .i64 100, .int .i64 800, .int .i64 200, .int .i64 900, .int .i64 400, .int .i64 1000] 3 rfl rfl (by decide) (Nat.le_refl _) (by decide)
  obtain ⟨A', c', e', hp⟩ := Own.pts (l := smallL) ho
  simp only [Value.slice.injEq] at e'
  obtain ⟨rfl, _, _⟩ := e'
  exact ⟨_, rfl, hp, below_al (Below.refl _ _) _⟩
end Go.Proofs.Ythmdhmknadhjeaa
