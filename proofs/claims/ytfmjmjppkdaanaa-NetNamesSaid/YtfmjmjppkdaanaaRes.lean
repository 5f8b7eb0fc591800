/- Net: the same float, the same number; Resonant; walked. -/
import Derived.Test.YtfmjmjppkdaanaaTurn
namespace Go.Proofs.Ytfmjmjppkdaanaa
open Go.RowKit Go.BigFrame flt Ieee

set_option maxHeartbeats 1000000 in
theorem same_any (x y : Nat) (h : cls x = cls y) (w : World) : Calls Try.prog 13 #[.float .f64 x, .float .f64 y] w fun e w' => e = .returned (.bool true) ∧ w' = w := by
  have n1 : (FloatKind.f64.format.order x x != some .eq) = (cls x).isNone := nan_test x
  have n2 : (FloatKind.f64.format.order y y != some .eq) = (cls y).isNone := nan_test y
  have b1 := bits_run x
  cases hx : cls x with
  | none =>
    rw [← h] at n2
    rw [hx] at n1 n2
    simp only [Option.isNone_none] at n1 n2
    clear h hx
    go_enter Try.func13, Try.ntmps13
    go_wp2
    go_ret
    exact ⟨rfl, rfl⟩
  | some a =>
    rw [hx] at h
    obtain ⟨rfl, _⟩ := cls_some hx
    obtain ⟨rfl, _⟩ := cls_some h.symm
    rw [hx] at n1
    simp only [Option.isNone_some] at n1
    clear n2 h hx
    go_enter Try.func13, Try.ntmps13
    go_wp2
    go_ret
    exact ⟨rfl, rfl⟩
set_option maxHeartbeats 1000000 in
theorem samec_any (a b c d : Nat) (h1 : cls a = cls c) (h2 : cls b = cls d) (w : World) : Calls Try.prog 15 #[.complex .f64 a b, .agg #[.float .f64 c, .float .f64 d]] w fun e w' => e = .returned (.bool true) ∧ Below w.heap.size w w' := by
  have K1 := same_any a c h1
  have K2 := same_any b d h2
  clear h1 h2
  go_enter Try.func15, Try.ntmps15
  go_upto_region 1 with fail
  generalize hw0 : w.alloc _ = w0
  have rb : w0.heap[w.heap.size]? = some (.cells #[.float .f64 c, .float .f64 d] 26) := by rw [← hw0]; exact heap_alloc_at _ _
  have g0 : Below w.heap.size w w0 := by rw [← hw0]; exact below_al (Below.refl _ _) _
  have p0 : w0.cell? ⟨w.heap.size, 0, none⟩ = some (.float .f64 c) := cell_of_row _ _ 0 _ 26 (0, 0) rb
  have p1 : w0.cell? ⟨w.heap.size, 1, none⟩ = some (.float .f64 d) := cell_of_row _ _ 1 _ 26 (0, 0) rb
  clear hw0 rb
  go_wp2_with (first | (go_at_call 13; (with_reducible refine (K1 _).mono ?_); rintro e w1 ⟨rfl, rfl⟩) | (go_at_call 13; (with_reducible refine (K2 _).mono ?_); rintro e w1 ⟨rfl, rfl⟩))
  go_ret
  exact ⟨rfl, g0⟩
/-- '1 / Sqrt(a * b)' -/
def res (A B : Option Nat) : Option Nat := op2 .quo (some 4607182418800017408) ((op2 .mul A B).bind double.sqrt)
theorem cls_one : cls 4607182418800017408 = some 4607182418800017408 := cls_nn (by unfold nn; decide)
set_option maxHeartbeats 1000000 in
theorem sqrt_any : ∃ (F : Nat → World → Nat) (G : Nat → Nat), (∀ x w, cls (F x w) = (cls x).bind double.sqrt) ∧ ∀ x w, Calls Try.prog 14 #[.float .f64 x] w fun e w' => e = .returned (.float .f64 (F x w)) ∧ w' = w.drewN (G x) := by
  refine ⟨sv, sd, fun x w => cls_sqrt x w, fun x w => ?_⟩
  have h := sqrt_run x
  generalize hF : sv = F at *
  generalize hG : sd = G at *
  clear hF hG
  go_enter Try.func14, Try.ntmps14
  go_wp2
  go_ret
  exact ⟨rfl, rfl⟩
set_option maxHeartbeats 1000000 in
theorem resonant_bad (a b : Nat) (hr : (isRate (cls a) && isRate (cls b)) = false) (w : World) : Calls Try.prog 11 #[.float .f64 a, .float .f64 b] w fun e w' => e = .returned (.tuple #[.float .f64 0, .int .i64 1]) ∧ w' = w := by
  have h1 := rate_any a
  have h2 := rate_any b
  generalize isRate (cls a) = ra at *
  generalize isRate (cls b) = rb at *
  cases ra
  · clear hr
    go_enter Try.func11, Try.ntmps11
    go_wp2_with (go_at_call 36; (with_reducible refine (h1 _).mono ?_); rintro e w1 ⟨rfl, rfl⟩)
    go_ret2
    exact ⟨rfl, rfl⟩
  · cases rb
    · clear hr
      go_enter Try.func11, Try.ntmps11
      go_wp2_with (first | (go_at_call 36; (with_reducible refine (h1 _).mono ?_); rintro e w1 ⟨rfl, rfl⟩) | (go_at_call 36; (with_reducible refine (h2 _).mono ?_); rintro e w1 ⟨rfl, rfl⟩))
      go_ret2
      exact ⟨rfl, rfl⟩
    · cases hr
set_option maxHeartbeats 1000000 in
theorem resonant_good (a b : Nat) (ha : isRate (cls a) = true) (hb : isRate (cls b) = true) (w : World) : Calls Try.prog 11 #[.float .f64 a, .float .f64 b] w fun e w' => ∃ r, e = .returned (.tuple #[.float .f64 r, .int .i64 0]) ∧ cls r = res (cls a) (cls b) ∧ Drawn w w' := by
  have h1 := rate_any a
  have h2 := rate_any b
  rw [ha] at h1
  rw [hb] at h2
  obtain ⟨FM, GM, hm, cm⟩ := veil (op := .mul) (Or.inr (Or.inr (Or.inl rfl))) 23
  obtain ⟨FQ, GQ, hq, cq⟩ := veil (op := .quo) (Or.inr (Or.inr (Or.inr rfl))) 23
  obtain ⟨FR, GR, cr, hr⟩ := sqrt_any
  replace cm := Lib.hid cm
  replace cq := Lib.hid cq
  replace cr := Lib.hid cr
  unfold res
  have c1 := Lib.hid cls_one
  generalize hA : cls a = A at *
  generalize hB : cls b = B at *
  replace hA := Lib.hid hA
  replace hB := Lib.hid hB
  clear ha hb
  go_enter Try.func11, Try.ntmps11
  go_wp2_with (first | (go_at_call 36; (with_reducible refine (h1 _).mono ?_); rintro e w1 ⟨rfl, rfl⟩) | (go_at_call 36; (with_reducible refine (h2 _).mono ?_); rintro e w1 ⟨rfl, rfl⟩) | (go_at_call 14; (with_reducible refine (hr _ _).mono ?_); rintro e w3 ⟨rfl, hw3⟩; subst hw3))
  go_ret2
  exact ⟨_, rfl, by simp only [cq.out, cr.out, cm.out, c1.out, hA.out, hB.out], drawn_N _⟩
end Go.Proofs.Ytfmjmjppkdaanaa
