/- Points: the numbers of PointsLeast lie in bounds; twice the time is not less. No program here. -/
import Derived.Test.YthmdhmknadhjeaaRng
import Derived.Test.YthmdhmknadhjeaaTame
import Derived.KernelRfl
namespace Go.Proofs.Ythmdhmknadhjeaa
open flt Ieee

theorem V_two : 2 ^ 1074 ≤ V (rung 4611686018427387904) := of_decide_eq_true (by kernel_rfl)
theorem two_ok : Cst 4611686018427387904 := ⟨of_decide_eq_true (by kernel_rfl), by kernel_rfl⟩
theorem mul_up (a b v : Nat) (h : a ≤ b) : v * a ≤ b * v := by rw [Nat.mul_comm]; exact Nat.mul_le_mul_right _ h
theorem dbl_le {m : Nat} (fm : rung m < double.infRung) (gm : neg m = false) : key m ≤ key (fmul 4611686018427387904 m) := by
  obtain ⟨_, M, e, h3, he, hv⟩ := fmul_spec two_ok.f fm
  rw [two_ok.n, gm] at h3
  rw [h3]
  show key m ≤ key (double.nearest false M e)
  rw [key_nearest, key_pos gm, if_neg (by decide)]
  refine Int.ofNat_le.mpr ?_
  unfold N
  by_cases hM : M = 0
  · subst hM
    rw [Nat.zero_mul] at hv
    have hz : V (rung m) = 0 := by
      rcases Nat.mul_eq_zero.mp hv.symm with q | q
      · have := V_two; rw [q] at this; exact absurd (Nat.lt_of_lt_of_le (Nat.two_pow_pos 1074) this) (Nat.lt_irrefl 0)
      · exact q
    have h0 : V (rung m) ≤ V 0 := by rw [hz]; exact Nat.zero_le _
    have := V_le h0
    omega
  · rw [if_neg hM]
    have h1 := rungOf_rd M e hM 2148 (by decide) (by omega)
    have h2 := rd_V 1074 (rung m)
    have c1 : ((2148 : Nat) : Int) + e = e + 2148 := by omega
    rw [c1, hv] at h1
    have hle := mul_up _ _ (V (rung m)) V_two
    have h3 := rd_mono (by decide) (by decide) (by rw [Nat.mul_one, Nat.mul_one]; exact hle) h2 h1
    exact Nat.le_min.mpr ⟨h3, Nat.le_of_lt fm⟩
abbrev one : Nat := 4607182418800017408
abbrev half : Nat := 4602678819172646912
def W0 : Nat := fadd (floatOfInt .f64 0) one
def W1 : Nat := fadd (floatOfInt .f64 65535) one
def M0 : Nat := fadd (fdiv (floatOfInt .f64 0) 4634204016564240384) half
def M1 : Nat := fadd (fdiv (floatOfInt .f64 65535) 4634204016564240384) half
def F0 : Nat := fdiv (floatOfInt .f64 0) 4679240012837945344
def F1 : Nat := fdiv (floatOfInt .f64 65535) 4679240012837945344
def K0 : Nat := fdiv (floatOfInt .f64 0) 4643211215818981376
def K1 : Nat := fdiv (floatOfInt .f64 65535) 4643211215818981376
def V0 : Nat := fdiv (floatOfInt .f64 11) 4696837146684686336
def V1 : Nat := fdiv (floatOfInt .f64 40931) 4696837146684686336
def R0 : Nat := floatOfInt .f64 7
def R1 : Nat := floatOfInt .f64 163847
def P0 : Nat := fadd (fmul (fmul (fmul F0 V0) V0) R0) (fmul K0 V0)
def P1 : Nat := fadd (fmul (fmul (fmul F1 V1) V1) R1) (fmul K1 V1)
theorem cst {a : Nat} (h : (decide (rung a < double.infRung) && !neg a) = true) : Cst a := by
  simp only [Bool.and_eq_true, decide_eq_true_eq, Bool.not_eq_true'] at h
  exact ⟨h.1, h.2⟩
theorem one_ok : Cst one := cst (by kernel_rfl)
theorem half_ok : Cst half := cst (by kernel_rfl)
theorem c0 : Cst (floatOfInt .f64 0) := cst (by kernel_rfl)
theorem c65535 : Cst (floatOfInt .f64 65535) := cst (by kernel_rfl)
theorem c11 : Cst (floatOfInt .f64 11) := cst (by kernel_rfl)
theorem c40931 : Cst (floatOfInt .f64 40931) := cst (by kernel_rfl)
theorem cW0 : Cst W0 := cst (by kernel_rfl)
theorem cW1 : Cst W1 := cst (by kernel_rfl)
theorem cq0 : Cst (fdiv (floatOfInt .f64 0) 4634204016564240384) := cst (by kernel_rfl)
theorem cq1 : Cst (fdiv (floatOfInt .f64 65535) 4634204016564240384) := cst (by kernel_rfl)
theorem cM0 : Cst M0 := cst (by kernel_rfl)
theorem cM1 : Cst M1 := cst (by kernel_rfl)
theorem cF0 : Cst F0 := cst (by kernel_rfl)
theorem cF1 : Cst F1 := cst (by kernel_rfl)
theorem cK0 : Cst K0 := cst (by kernel_rfl)
theorem cK1 : Cst K1 := cst (by kernel_rfl)
theorem cV0 : Cst V0 := cst (by kernel_rfl)
theorem cV1 : Cst V1 := cst (by kernel_rfl)
theorem cR0 : Cst R0 := cst (by kernel_rfl)
theorem cR1 : Cst R1 := cst (by kernel_rfl)
theorem cP : (Cst P0 ∧ Cst P1) ∧ (Cst (fmul F0 V0) ∧ Cst (fmul F1 V1)) ∧ (Cst (fmul (fmul F0 V0) V0) ∧ Cst (fmul (fmul F1 V1) V1)) ∧ (Cst (fmul (fmul (fmul F0 V0) V0) R0) ∧ Cst (fmul (fmul (fmul F1 V1) V1) R1)) ∧ Cst (fmul K0 V0) ∧ Cst (fmul K1 V1) :=
  ⟨⟨cst (by kernel_rfl), cst (by kernel_rfl)⟩, ⟨cst (by kernel_rfl), cst (by kernel_rfl)⟩, ⟨cst (by kernel_rfl), cst (by kernel_rfl)⟩, ⟨cst (by kernel_rfl), cst (by kernel_rfl)⟩, cst (by kernel_rfl), cst (by kernel_rfl)⟩
theorem c2M : Cst (fmul 4611686018427387904 M0) ∧ Cst (fmul 4611686018427387904 M1) := ⟨cst (by kernel_rfl), cst (by kernel_rfl)⟩
theorem read_lit {y : Nat} (h : (match double.read y with | .number false n _ => decide (n ≠ 0) | _ => false) = true) : ∃ n j, double.read y = .number false n j ∧ n ≠ 0 := by
  split at h
  · rename_i n j e
    exact ⟨n, j, e, by simpa using h⟩
  · cases h
theorem In.quoL {a b y : Nat} {X : Option Nat} (ha : Cst a) (hb : Cst b) (hy : (match double.read y with | .number false n _ => decide (n ≠ 0) | _ => false) = true) (h : In a b X) : In (fdiv a y) (fdiv b y) (op2 .quo X (some y)) := by
  obtain ⟨n, j, e, hn⟩ := read_lit hy
  exact In.quo ha hb e hn h
theorem In.fi {lo hi n : Int} (h0 : 0 ≤ n) (h1 : lo ≤ n) (h2 : n ≤ hi) : In (floatOfInt .f64 lo) (floatOfInt .f64 hi) (fi n) := In.ofInt h0 h1 h2
theorem nn_one : nn one := by unfold nn; decide
theorem nn_half : nn half := by unfold nn; decide
theorem nn_two : nn 4611686018427387904 := by unfold nn; decide
theorem w_in {n : Int} (h0 : 0 ≤ n) (h1 : n ≤ 65535) : In W0 W1 (op2 .add (fi n) (some one)) := In.add c0 c65535 one_ok one_ok (In.fi h0 h0 h1) (In.lit nn_one one_ok.n)
theorem m_in {n : Int} (h0 : 0 ≤ n) (h1 : n ≤ 65535) : In M0 M1 (op2 .add (op2 .quo (fi n) (some 4634204016564240384)) (some half)) :=
  In.add cq0 cq1 half_ok half_ok (In.quoL c0 c65535 (by kernel_rfl) (In.fi h0 h0 h1)) (In.lit nn_half half_ok.n)
theorem f_in {n : Int} (h0 : 0 ≤ n) (h1 : n ≤ 65535) : In F0 F1 (op2 .quo (fi n) (some 4679240012837945344)) := In.quoL c0 c65535 (by kernel_rfl) (In.fi h0 h0 h1)
theorem k_in {n : Int} (h0 : 0 ≤ n) (h1 : n ≤ 65535) : In K0 K1 (op2 .quo (fi n) (some 4643211215818981376)) := In.quoL c0 c65535 (by kernel_rfl) (In.fi h0 h0 h1)
theorem pw_in {x y : Int} {F K : Option Nat} (hF : In F0 F1 F) (hK : In K0 K1 K) (x0 : 7 ≤ x) (x1 : x ≤ 163847) (y0 : 11 ≤ y) (y1 : y ≤ 40931) : In P0 P1 (pw x y F K) := by
  have hv : In V0 V1 (op2 .quo (fi y) (some 4696837146684686336)) := In.quoL c11 c40931 (by kernel_rfl) (In.fi (by omega) y0 y1)
  obtain ⟨_, ⟨a1, a2⟩, ⟨b1, b2⟩, ⟨d1, d2⟩, e1, e2⟩ := cP
  exact In.add d1 d2 e1 e2 (In.mul b1 b2 cR0 cR1 (In.mul a1 a2 cV0 cV1 (In.mul cF0 cF1 cV0 cV1 hF hv) hv) (In.fi (by omega) x0 x1)) (In.mul cK0 cK1 cV0 cV1 hK hv)
theorem m2_in {M : Option Nat} (h : In M0 M1 M) : In (fmul 4611686018427387904 M0) (fmul 4611686018427387904 M1) (op2 .mul (some 4611686018427387904) M) := In.mul two_ok two_ok cM0 cM1 (In.lit nn_two two_ok.n) h
theorem In.pl {a b : Nat} {c : Option Nat} (ha : Cst a) (hb : Cst b) (h : In a b c) : Ythmdhmknadhjeaa.pl c = true := by
  obtain ⟨z, rfl, nz, gz, z1, z2⟩ := h
  have fz := In.fin ha hb z1 z2
  unfold Ythmdhmknadhjeaa.pl ge
  rw [ord_some nz nn_zero, key_zero, key_pos gz]
  have h1 : flt.isInf (some z) = false := decide_eq_false (by omega)
  rw [h1]
  rcases Nat.eq_zero_or_pos (rung z) with q | q
  · rw [q]; rfl
  · have e : compare ((rung z : Nat) : Int) 0 = .gt := by rw [Int.compare_eq_gt]; omega
    rw [e]; rfl
theorem R0_pos : 0 < rung R0 := of_decide_eq_true (by kernel_rfl)
/-- how long a point takes: a number not below nought -/
theorem tk_some {x : Int} {W : Option Nat} (hW : In W0 W1 W) (x0 : 7 ≤ x) (x1 : x ≤ 163847) : ∃ q, op2 .quo W (fi x) = some q ∧ nn q ∧ neg q = false := by
  obtain ⟨w, rfl, nw, gw, w1, w2⟩ := hW
  have fw := In.fin cW0 cW1 w1 w2
  obtain ⟨r, hr, nr, gr, r1, r2⟩ := In.fi (n := x) (by omega) x0 x1
  have fr := In.fin cR0 cR1 r1 r2
  rw [hr]
  obtain ⟨n, j, hy, hj, hn⟩ := read_fin fr
  have hn0 : n ≠ 0 := by
    rintro rfl
    rw [Nat.zero_mul] at hn
    have h0 : V (rung r) ≤ V 0 := by rw [← hn]; exact Nat.zero_le _
    have h1 := V_le h0
    have h2 : (rung R0 : Int) ≤ rung r := by rw [← key_pos cR0.n, ← key_pos gr]; exact r1
    have h3 := R0_pos
    omega
  obtain ⟨e1, e2⟩ := div_some (x := w) nw hy hn0
  refine ⟨fdiv w r, e1, e2, ?_⟩
  obtain ⟨m, i, hx, _, _⟩ := read_fin fw
  rw [fdiv_eq hx hy hn0, gw, gr]
  have hr : quoN m i n j < double.signWeight := Nat.lt_of_le_of_lt (N_le _ _) (Format.infRung_lt double)
  unfold neg
  rw [show (false ^^ false) = false from rfl, word_div double false hr]
/-- what a point in time draws is a number -/
theorem dr_some {PW T : Option Nat} {q : Nat} (hP : In P0 P1 PW) {a b : Nat} (hT : In a b T) (ha : Cst a) (hb : Cst b) (nq : nn q) (gq : neg q = false) (h : gt (some q) T = false) : ∃ z, op2 .mul PW (some q) = some z ∧ nn z := by
  obtain ⟨p, rfl, np, gp, p1, p2⟩ := hP
  obtain ⟨t, rfl, nt, gt_, t1, t2⟩ := hT
  have fp := In.fin cP.1.1 cP.1.2 p1 p2
  rw [gt_key nq nt] at h
  have hle : key q ≤ key t := by have := of_decide_eq_false h; omega
  have hq0 : key a ≤ key q ∨ key q < key a := by omega
  have fq : rung q < double.infRung := by
    have ft := In.fin ha hb t1 t2
    rw [key_pos gq, key_pos gt_] at hle
    omega
  obtain ⟨e, _⟩ := fmul_spec fp fq
  exact ⟨_, e, bits_nn e⟩
end Go.Proofs.Ythmdhmknadhjeaa
