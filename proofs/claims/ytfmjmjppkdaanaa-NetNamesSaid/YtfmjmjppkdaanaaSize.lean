/- Net: a complex number's size, turned; the same float; walked, program and reference. -/
import Derived.Test.YtfmjmjppkdaanaaScal
import Derived.Laws.ResultCell
import Derived.Laws.CopyOwn
import Derived.Laws.Tables
namespace Go.Proofs.Ytfmjmjppkdaanaa
open Go.RowKit Go.BigFrame flt Ieee

theorem cls_sqrt (x : Nat) (w : World) : cls (sv x w) = (cls x).bind double.sqrt := by
  unfold sv
  cases h : double.sqrt x with
  | some r =>
    simp only
    have hr : nn r := by
      unfold Format.sqrt at h
      cases hd : (double.read x).root (double.fractionBits + 2) with
      | none => rw [hd] at h; cases h
      | some e =>
        rw [hd] at h
        obtain rfl := Option.some.inj h
        refine nn_write ?_
        unfold Datum.root at hd
        split at hd
        · cases hd
        · split at hd <;> cases hd; rfl
        · split at hd
          · cases hd; rfl
          · split at hd <;> cases hd; rfl
    rw [cls_nn hr]
    cases hx : cls x with
    | none =>
      obtain ⟨s, t, e⟩ := read_nan hx
      unfold Format.sqrt at h
      rw [e] at h
      cases h
    | some a =>
      obtain ⟨rfl, _⟩ := cls_some hx
      exact h.symm
  | none =>
    rw [cls_ask]
    cases hx : cls x with
    | none => rfl
    | some a =>
      obtain ⟨rfl, _⟩ := cls_some hx
      exact h.symm
def size (A B : Option Nat) : Option Nat := op2 .add (op2 .mul A A) (op2 .mul B B)
/-- one divided by a complex number -/
def turn (A B : Option Nat) : Option Nat × Option Nat :=
  if isInf A || isInf B then (some 0, some 0)
  else if ord A (some 0) == some .eq && ord B (some 0) == some .eq then (some inf, some 0)
  else (op2 .quo A (size A B), op2 .sub (some 0) (op2 .quo B (size A B)))
theorem drawn_N {w : World} (n : Nat) : Drawn w (w.drewN n) := (Drawn.refl w).drewN n
theorem rmul {t : TypeId} : ∀ x y w, (binOp .mul t (.float .f64 x) (.float .f64 y)).run Try.prog w = .ok (.float .f64 (fv .mul x y w)) (w.drewN (fd .mul x y)) := fun x y w => run_arith (Or.inr (Or.inr (Or.inl rfl))) t x y w
theorem radd {t : TypeId} : ∀ x y w, (binOp .add t (.float .f64 x) (.float .f64 y)).run Try.prog w = .ok (.float .f64 (fv .add x y w)) (w.drewN (fd .add x y)) := fun x y w => run_arith (Or.inl rfl) t x y w
theorem rsub {t : TypeId} : ∀ x y w, (binOp .sub t (.float .f64 x) (.float .f64 y)).run Try.prog w = .ok (.float .f64 (fv .sub x y w)) (w.drewN (fd .sub x y)) := fun x y w => run_arith (Or.inr (Or.inl rfl)) t x y w
theorem rquo {t : TypeId} : ∀ x y w, (binOp .quo t (.float .f64 x) (.float .f64 y)).run Try.prog w = .ok (.float .f64 (fv .quo x y w)) (w.drewN (fd .quo x y)) := fun x y w => run_arith (Or.inr (Or.inr (Or.inr rfl))) t x y w
set_option maxHeartbeats 1000000 in
theorem size_any (a b : Nat) (w : World) : Calls Try.prog 18 #[.complex .f64 a b] w fun e w' => ∃ r, e = .returned (.float .f64 r) ∧ cls r = size (cls a) (cls b) ∧ Drawn w w' := by
  have hm := rmul (t := 23)
  have ha := radd (t := 23)
  go_enter Try.func18, Try.ntmps18
  go_wp2
  go_ret
  exact ⟨_, rfl, by simp only [cls_op2]; rfl, drawn_N _⟩
set_option maxHeartbeats 1000000 in
theorem rsize_any (a b : Nat) (w : World) : Calls Try.prog 19 #[.agg #[.float .f64 a, .float .f64 b]] w fun e w' => ∃ r, e = .returned (.float .f64 r) ∧ cls r = size (cls a) (cls b) ∧ Below w.heap.size w w' := by
  have hm := rmul (t := 23)
  have ha := radd (t := 23)
  go_enter Try.func19, Try.ntmps19
  go_wp2
  go_ret
  exact ⟨_, rfl, by simp only [cls_op2]; rfl, below_drewN' (below_al (Below.refl _ _) _) _⟩
theorem eq_zero (x : Nat) : (FloatKind.f64.format.order x 0 == some .eq) = (ord (cls x) (some 0) == some .eq) := by
  have e := order_cls x 0
  rw [cls_nn nn_zero] at e
  rw [← e]
  rfl
set_option maxHeartbeats 1000000 in
theorem inf_any (w : World) : Calls Try.prog 39 #[.int .i64 1] w fun e w' => e = .returned (.float .f64 inf) ∧ w' = w := by
  have h := from_run 9218868437227405312
  have e : (9218868437227405312 : Int).toNat = inf := rfl
  rw [e] at h
  generalize inf = i at *
  clear e
  go_enter Try.func39, Try.ntmps39
  go_wp2
  go_ret
  exact ⟨rfl, rfl⟩
set_option maxHeartbeats 1000000 in
theorem turn_any (a b : Nat) (w : World) : Calls Try.prog 16 #[.complex .f64 a b] w fun e w' => ∃ r s, e = .returned (.complex .f64 r s) ∧ (cls r, cls s) = turn (cls a) (cls b) ∧ Drawn w w' := by
  have h1 := isInf_any a
  have h2 := isInf_any b
  have h3 := size_any a b
  have h4 := inf_any
  have z1 := eq_zero a
  have z2 := eq_zero b
  have hq := rquo (t := 23)
  have hs := rsub (t := 23)
  have c0 := Lib.hid (cls_nn nn_zero)
  have ci : Hid (cls inf = some inf) := Lib.hid (cls_nn (by unfold inf nn; decide))
  unfold turn
  generalize hA : cls a = A at *
  generalize hB : cls b = B at *
  replace hA := Lib.hid hA
  replace hB := Lib.hid hB
  generalize isInf A = iA at *
  generalize isInf B = iB at *
  generalize (ord A (some 0) == some Ordering.eq) = zA at *
  generalize (ord B (some 0) == some Ordering.eq) = zB at *
  generalize hS : size A B = S at *
  generalize inf = i at *
  clear hS
  cases iA
  · cases iB
    · cases zA
      · go_enter Try.func16, Try.ntmps16
        go_wp2_with (first | (go_at_call 38; (with_reducible refine (h1 _).mono ?_); rintro e w1 ⟨rfl, rfl⟩) | (go_at_call 38; (with_reducible refine (h2 _).mono ?_); rintro e w1 ⟨rfl, rfl⟩) | (go_at_call 18; (with_reducible refine (h3 _).mono ?_); rintro e w1 ⟨r, rfl, hr, hd⟩; replace hr := Lib.hid hr))
        go_ret
        exact ⟨_, _, rfl, ⟨by simp only [cls_op2, hr.out, hA.out], by simp only [cls_op2, hr.out, hB.out, c0.out]⟩, hd.drewN _⟩
      · cases zB
        · go_enter Try.func16, Try.ntmps16
          go_wp2_with (first | (go_at_call 38; (with_reducible refine (h1 _).mono ?_); rintro e w1 ⟨rfl, rfl⟩) | (go_at_call 38; (with_reducible refine (h2 _).mono ?_); rintro e w1 ⟨rfl, rfl⟩) | (go_at_call 18; (with_reducible refine (h3 _).mono ?_); rintro e w1 ⟨r, rfl, hr, hd⟩; replace hr := Lib.hid hr))
          go_ret
          exact ⟨_, _, rfl, ⟨by simp only [cls_op2, hr.out, hA.out], by simp only [cls_op2, hr.out, hB.out, c0.out]⟩, hd.drewN _⟩
        · go_enter Try.func16, Try.ntmps16
          go_wp2_with (first | (go_at_call 38; (with_reducible refine (h1 _).mono ?_); rintro e w1 ⟨rfl, rfl⟩) | (go_at_call 38; (with_reducible refine (h2 _).mono ?_); rintro e w1 ⟨rfl, rfl⟩) | (go_at_call 39; (with_reducible refine (h4 _).mono ?_); rintro e w1 ⟨rfl, rfl⟩))
          go_ret
          exact ⟨_, _, rfl, ⟨ci.out, c0.out⟩, Drawn.refl _⟩
    · go_enter Try.func16, Try.ntmps16
      go_wp2_with (first | (go_at_call 38; (with_reducible refine (h1 _).mono ?_); rintro e w1 ⟨rfl, rfl⟩) | (go_at_call 38; (with_reducible refine (h2 _).mono ?_); rintro e w1 ⟨rfl, rfl⟩))
      go_ret
      exact ⟨_, _, rfl, ⟨c0.out, c0.out⟩, Drawn.refl _⟩
  · go_enter Try.func16, Try.ntmps16
    go_wp2_with (first | (go_at_call 38; (with_reducible refine (h1 _).mono ?_); rintro e w1 ⟨rfl, rfl⟩) | (go_at_call 38; (with_reducible refine (h2 _).mono ?_); rintro e w1 ⟨rfl, rfl⟩))
    go_ret
    exact ⟨_, _, rfl, ⟨c0.out, c0.out⟩, Drawn.refl _⟩
end Go.Proofs.Ytfmjmjppkdaanaa
