/- Points: floats' bits, tests on floats, what a point draws; walked. -/
import Derived.Test.YthmdhmknadhjeaaBase3
import Derived.Test.YthmdhmknadhjeaaPwr
import Derived.Laws.BitsAllLaws
import Derived.Laws.FloatArith
namespace Go.Proofs.Ythmdhmknadhjeaa
open Go.RowKit Go.BigFrame flt Ieee

theorem drawn_N {w : World} (n : Nat) : Drawn w (w.drewN n) := (Drawn.refl w).drewN n
/-- an operation, veiled: what it gives, how often it asks -/
theorem veil {op : BinOp} (ho : Ar op) (t : TypeId) : ∃ (F : Nat → Nat → World → Nat) (G : Nat → Nat → Nat), (∀ x y w, (binOp op t (.float .f64 x) (.float .f64 y)).run Try.prog w = .ok (.float .f64 (F x y w)) (w.drewN (G x y))) ∧ ∀ x y w, cls (F x y w) = op2 op (cls x) (cls y) :=
  ⟨fv op, fd op, fun x y w => run_arith ho t x y w, fun x y w => cls_op2 op x y w⟩
theorem from_run (n : Int) (w : World) : (callFunc 57 #[.int .u64 n]).run Try.prog w = .ok (.value (.float .f64 n.toNat)) w := by kernel_rfl
theorem bits_run (b : Nat) (w : World) : (callFunc 60 #[.float .f64 b]).run Try.prog w = .ok (.value (.int .u64 b)) w := by kernel_rfl
theorem clear_sign (x : Nat) : bits BinOp.andNot IntKind.u64 (x : Int) 9223372036854775808 = (rung x : Int) := by
  have e : bits BinOp.andNot IntKind.u64 (x : Int) 9223372036854775808 = bits BinOp.andNot IntKind.u64 ((x % 18446744073709551616 : Nat) : Int) ((9223372036854775808 : Nat) : Int) := by
    have q : BitVec.ofInt 64 (x : Int) = BitVec.ofInt 64 ((x % 18446744073709551616 : Nat) : Int) := by
      apply BitVec.eq_of_toNat_eq
      simp only [BitVec.toNat_ofInt]
      omega
    show IntKind.u64.wrap ((BitVec.ofInt 64 (x : Int) &&& ~~~ BitVec.ofInt 64 9223372036854775808).toNat : Int) = IntKind.u64.wrap ((BitVec.ofInt 64 ((x % 18446744073709551616 : Nat) : Int) &&& ~~~ BitVec.ofInt 64 9223372036854775808).toNat : Int)
    rw [q]
  rw [e, u64_andNot_nat _ _ (Nat.mod_lt _ (by decide)) (by decide)]
  have h : (x % 18446744073709551616) &&& (18446744073709551615 - 9223372036854775808) = (x % 18446744073709551616) % 2 ^ 63 := Nat.and_two_pow_sub_one_eq_mod _ 63
  rw [h]
  unfold rung
  rw [signWeight_eq]
  omega
set_option maxHeartbeats 1000000 in
theorem isNaN_any (x : Nat) (w : World) : Calls Try.prog 56 #[.float .f64 x] w fun e w' => e = .returned (.bool (cls x).isNone) ∧ w' = w := by
  have H : (FloatKind.f64.format.order x x != some .eq) = (cls x).isNone := nan_test x
  generalize (cls x).isNone = b at *
  replace H := Lib.hid H
  go_enter Try.func56, Try.ntmps56
  go_wp2
  go_ret
  exact ⟨ret_bool H.out, rfl⟩
set_option maxHeartbeats 1000000 in
theorem abs_any (x : Nat) (w : World) : Calls Try.prog 65 #[.float .f64 x] w fun e w' => e = .returned (.float .f64 (rung x)) ∧ w' = w := by
  have h1 := bits_run x
  have h2 := from_run (rung x)
  have h3 := clear_sign x
  simp only [Int.toNat_natCast] at h2
  go_enter Try.func65, Try.ntmps65
  go_wp2
  go_ret
  exact ⟨rfl, rfl⟩
set_option maxHeartbeats 1000000 in
theorem isInf_any (x : Nat) (w : World) : Calls Try.prog 55 #[.float .f64 x, .int .i64 0] w fun e w' => e = .returned (.bool (isInf (cls x))) ∧ w' = w := by
  have H : Hid ((FloatKind.f64.format.order (rung x) 9218868437227405311 == some .gt) = isInf (cls x)) := Lib.hid (abs_test x)
  generalize isInf (cls x) = b at *
  go_enter Try.func55, Try.ntmps55
  go_wp2_with (go_at_call 65; (with_reducible refine (abs_any _ _).mono ?_); rintro e w1 ⟨rfl, rfl⟩)
  go_ret
  exact ⟨ret_bool H.out, rfl⟩
set_option maxHeartbeats 1000000 in
theorem sameFloat_any (x y : Nat) (h : cls x = cls y) (w : World) : Calls Try.prog 39 #[.float .f64 x, .float .f64 y] w fun e w' => e = .returned (.bool true) ∧ w' = w := by
  have n1 : (FloatKind.f64.format.order x x != some .eq) = (cls x).isNone := nan_test x
  have n2 : (FloatKind.f64.format.order y y != some .eq) = (cls y).isNone := nan_test y
  have b1 := bits_run x
  cases hx : cls x with
  | none =>
    rw [← h] at n2
    rw [hx] at n1 n2
    simp only [Option.isNone_none] at n1 n2
    clear h hx
    go_enter Try.func39, Try.ntmps39
    go_wp2
    go_ret
    exact ⟨rfl, rfl⟩
  | some a =>
    rw [hx] at h
    obtain ⟨rfl, _⟩ := cls_some hx
    obtain ⟨rfl, _⟩ := cls_some h.symm
    rw [hx] at n1
    simp only [Option.isNone_some] at n1
    clear n2 h hx
    go_enter Try.func39, Try.ntmps39
    go_wp2
    go_ret
    exact ⟨rfl, rfl⟩
/-- how a float stands to another one, by class -/
theorem order_run (x y : Nat) : FloatKind.f64.format.order x y = ord (cls x) (cls y) := order_cls x y
theorem order_z (x : Nat) : FloatKind.f64.format.order x 0 = ord (cls x) (some 0) := by
  have e := order_cls x 0
  rw [cls_nn nn_zero] at e
  exact e
theorem order_m (x : Nat) : FloatKind.f64.format.order x 9218868437227405311 = ord (cls x) (some 9218868437227405311) := by
  have e := order_cls x 9218868437227405311
  rw [cls_nn nn_max] at e
  exact e
set_option maxHeartbeats 1000000 in
theorem rplain_any (x : Nat) (w : World) : Calls Try.prog 59 #[.float .f64 x] w fun e w' => e = .returned (.bool (pl (cls x))) ∧ w' = w := by
  have H := Lib.hid (rpl_eq x)
  have h1 : (FloatKind.f64.format.order x 0 == some .gt || FloatKind.f64.format.order x 0 == some .eq) = ge (cls x) (some 0) := by rw [order_z]; rfl
  have h2 : (FloatKind.f64.format.order x 9218868437227405311 == some .lt || FloatKind.f64.format.order x 9218868437227405311 == some .eq) = le (cls x) (some 9218868437227405311) := by rw [order_m]; rfl
  generalize pl (cls x) = p at *
  generalize ge (cls x) (some 0) = a at *
  generalize le (cls x) (some 9218868437227405311) = b at *
  cases a
  · go_enter Try.func59, Try.ntmps59
    go_wp2
    go_ret
    exact ⟨ret_bool H.out, rfl⟩
  · go_enter Try.func59, Try.ntmps59
    go_wp2
    go_ret
    exact ⟨ret_bool (by rw [← H.out]; cases b <;> rfl), rfl⟩
set_option maxHeartbeats 1000000 in
theorem bad1_any (x : Nat) (w : World) : Calls Try.prog 67 #[.float .f64 x] w fun e w' => e = .returned (.bool (!pl (cls x))) ∧ w' = w := by
  have h1 : (FloatKind.f64.format.order x 0 == some .gt || FloatKind.f64.format.order x 0 == some .eq) = ge (cls x) (some 0) := by rw [order_z]; rfl
  have h2 := isInf_any x
  unfold pl
  generalize ge (cls x) (some 0) = a at *
  generalize isInf (cls x) = b at *
  cases a
  · go_enter Try.func67, Try.ntmps67
    go_wp2_with (go_at_call 55; (with_reducible refine (h2 _).mono ?_); rintro e w1 ⟨rfl, rfl⟩)
    go_ret
    exact ⟨rfl, rfl⟩
  · go_enter Try.func67, Try.ntmps67
    go_wp2_with (go_at_call 55; (with_reducible refine (h2 _).mono ?_); rintro e w1 ⟨rfl, rfl⟩)
    go_ret
    exact ⟨ret_bool (by cases b <;> rfl), rfl⟩
set_option maxHeartbeats 1000000 in
theorem pw_any (x y : Int) (f k : Nat) (w : World) : Calls Try.prog 37 #[.agg #[.int .i64 x, .int .i64 y], .float .f64 f, .float .f64 k] w fun e w' => ∃ r, e = .returned (.float .f64 r) ∧ cls r = pw x y (cls f) (cls k) ∧ Below w.heap.size w w' := by
  obtain ⟨FM, GM, hm, cm⟩ := veil (op := .mul) (Or.inr (Or.inr (Or.inl rfl))) 62
  obtain ⟨FQ, GQ, hq, cq⟩ := veil (op := .quo) (Or.inr (Or.inr (Or.inr rfl))) 62
  obtain ⟨FA, GA, ha, ca⟩ := veil (op := .add) (Or.inl rfl) 62
  replace cm := Lib.hid cm
  replace cq := Lib.hid cq
  replace ca := Lib.hid ca
  have cx := Lib.hid (cls_fi x)
  have cy := Lib.hid (cls_fi y)
  have c6 := Lib.hid cls_million
  unfold pw
  go_enter Try.func37, Try.ntmps37
  go_wp2
  go_ret
  exact ⟨_, rfl, by simp only [cm.out, cq.out, ca.out, cx.out, cy.out, c6.out], below_drewN' (below_al (Below.refl _ _) _) _⟩
set_option maxHeartbeats 1000000 in
theorem rpw_any (x y : Int) (f k : Nat) (w : World) : Calls Try.prog 38 #[.agg #[.int .i64 x, .int .i64 y], .float .f64 f, .float .f64 k] w fun e w' => ∃ r, e = .returned (.float .f64 r) ∧ cls r = pw x y (cls f) (cls k) ∧ Below w.heap.size w w' := by
  obtain ⟨FM, GM, hm, cm⟩ := veil (op := .mul) (Or.inr (Or.inr (Or.inl rfl))) 62
  obtain ⟨FQ, GQ, hq, cq⟩ := veil (op := .quo) (Or.inr (Or.inr (Or.inr rfl))) 62
  obtain ⟨FA, GA, ha, ca⟩ := veil (op := .add) (Or.inl rfl) 62
  replace cm := Lib.hid cm
  replace cq := Lib.hid cq
  replace ca := Lib.hid ca
  have cx := Lib.hid (cls_fi x)
  have cy := Lib.hid (cls_fi y)
  have c6 := Lib.hid cls_million
  unfold pw
  go_enter Try.func38, Try.ntmps38
  go_wp2
  go_ret
  exact ⟨_, rfl, by simp only [cm.out, cq.out, ca.out, cx.out, cy.out, c6.out], below_drewN' (below_al (Below.refl _ _) _) _⟩
end Go.Proofs.Ythmdhmknadhjeaa
