/- Floats: classes that lie between two numbers not below nought; products are monotone. No program here. -/
import Derived.Test.YthmdhmknadhjeaaFltOps
import Derived.Test.YthmdhmknadhjeaaArgm
namespace Go.Proofs.Ythmdhmknadhjeaa.flt
open Ieee

theorem key_pos {x : Nat} (h : neg x = false) : key x = rung x := by unfold key; rw [h]; rfl
theorem fmul_spec {x y : Nat} (hx : rung x < double.infRung) (hy : rung y < double.infRung) : floatBits .mul .f64 x y = some (fmul x y) ∧
    ∃ m e, fmul x y = double.nearest (neg x ^^ neg y) m e ∧ -2148 ≤ e ∧ m * 2 ^ (e + 2148).toNat = V (rung x) * V (rung y) := by
  obtain ⟨m, i, h1, hi, hm⟩ := read_fin hx
  obtain ⟨n, j, h2, hj, hn⟩ := read_fin hy
  have e : double.mul x y = some (double.nearest (neg x ^^ neg y) (m * n) (i + j)) := by
    unfold Format.mul
    rw [h1, h2]
    rfl
  refine ⟨by show double.mul x y = some ((double.mul x y).getD 0); rw [e]; rfl, m * n, i + j, by unfold fmul; rw [e]; rfl, by omega, ?_⟩
  rw [← hm, ← hn, show (i + j + 2148).toNat = (i + 1074).toNat + (j + 1074).toNat by omega, Nat.pow_add]
  rw [Nat.mul_assoc, Nat.mul_assoc, Nat.mul_left_comm n]
theorem fmul_mono {x1 x2 y : Nat} (h1 : rung x1 < double.infRung) (h2 : rung x2 < double.infRung) (hy : rung y < double.infRung) (n1 : neg x1 = false) (n2 : neg x2 = false) (ny : neg y = false) (h : key x1 ≤ key x2) : 0 ≤ key (fmul x1 y) ∧ key (fmul x1 y) ≤ key (fmul x2 y) := by
  obtain ⟨_, m, e, h3, he, hv⟩ := fmul_spec h1 hy
  obtain ⟨_, n, f, h4, hf, hw⟩ := fmul_spec h2 hy
  rw [n1, ny] at h3
  rw [n2, ny] at h4
  rw [key_pos n1, key_pos n2] at h
  have hV : V (rung x1) ≤ V (rung x2) := by
    rcases Nat.lt_or_ge (rung x1) (rung x2) with q | q
    · exact Nat.le_of_lt (V_lt q)
    · have : rung x1 = rung x2 := by omega
      rw [this]; exact Nat.le_refl _
  have hle : V (rung x1) * V (rung y) ≤ V (rung x2) * V (rung y) := Nat.mul_le_mul_right _ hV
  rw [← hv, ← hw] at hle
  rw [h3, h4]
  constructor
  · rw [key_nearest]; simp
  · refine near_mono (K := 2148) (by decide) (by omega) (by omega) ?_
    have c1 : ((2148 : Nat) : Int) + e = e + 2148 := by omega
    have c2 : ((2148 : Nat) : Int) + f = f + 2148 := by omega
    rw [c1, c2, signed_eq, signed_eq]
    exact Int.ofNat_le.mpr hle
theorem fmul_comm (x y : Nat) : fmul x y = fmul y x := by
  have h : double.mul x y = double.mul y x := by
    unfold Format.mul
    cases a : double.read x <;> cases b : double.read y <;> simp only [Datum.product] <;> first | done | (rename_i s m i t n j; rw [Bool.xor_comm, Nat.mul_comm, Int.add_comm]; done) | (rw [Bool.xor_comm])
  unfold fmul
  rw [h]
theorem fadd_comm (x y : Nat) : fadd x y = fadd y x := by
  have h : double.add x y = double.add y x := by
    unfold Format.add
    cases a : double.read x <;> cases b : double.read y <;> simp only [Datum.sum]
    · rw [Int.min_comm, Int.add_comm, Bool.and_comm]
    · rename_i s t
      cases s <;> cases t <;> rfl
  unfold fadd
  rw [h]
theorem neg_nearest (m : Nat) (e : Int) : neg (double.nearest false m e) = false := by
  rw [nearest_N]
  have hr : N m e < double.signWeight := Nat.lt_of_le_of_lt (N_le m e) (Format.infRung_lt double)
  unfold neg
  rw [word_div double false hr]
/-- a finite number with no sign -/
structure Cst (a : Nat) : Prop where
  f : rung a < double.infRung
  n : neg a = false
/-- a class between a and b -/
def In (a b : Nat) (c : Option Nat) : Prop := ∃ z, c = some z ∧ nn z ∧ neg z = false ∧ key a ≤ key z ∧ key z ≤ key b
theorem In.fin {a b z : Nat} (ha : Cst a) (hb : Cst b) (h1 : key a ≤ key z) (h2 : key z ≤ key b) : rung z < double.infRung := fin_between ha.f hb.f h1 h2
theorem In.mul {a b c d : Nat} {X Y : Option Nat} (ha : Cst a) (hb : Cst b) (hc : Cst c) (hd : Cst d) (h : In a b X) (k : In c d Y) : In (fmul a c) (fmul b d) (op2 .mul X Y) := by
  obtain ⟨x, rfl, nx, gx, x1, x2⟩ := h
  obtain ⟨y, rfl, ny, gy, y1, y2⟩ := k
  have fx := In.fin ha hb x1 x2
  have fy := In.fin hc hd y1 y2
  obtain ⟨e, m, i, hs, _, _⟩ := fmul_spec fx fy
  refine ⟨fmul x y, e, bits_nn e, by rw [hs, gx, gy]; exact neg_nearest _ _, ?_, ?_⟩
  · refine Int.le_trans (fmul_mono hc.f fy ha.f hc.n gy ha.n y1 |>.2 |> fun q => by rw [fmul_comm a c, fmul_comm a y]; exact q) (fmul_mono ha.f fx fy ha.n gx gy x1).2
  · refine Int.le_trans (fmul_mono fx hb.f fy gx hb.n gy x2).2 ?_
    rw [fmul_comm b y, fmul_comm b d]
    exact (fmul_mono fy hd.f hb.f gy hd.n hb.n y2).2
theorem fadd_neg {x y : Nat} (fx : rung x < double.infRung) (fy : rung y < double.infRung) (gx : neg x = false) (gy : neg y = false) : neg (fadd x y) = false := by
  obtain ⟨m, i, h1, hi, hm⟩ := read_fin fx
  obtain ⟨n, j, h2, hj, hn⟩ := read_fin fy
  rw [gx] at h1
  rw [gy] at h2
  unfold fadd Format.add
  rw [h1, h2]
  simp only [Datum.sum]
  have hn : ¬ signed false m (i - min i j).toNat + signed false n (j - min i j).toNat < 0 := by
    have q : ∀ (m u : Nat), 0 ≤ signed false m u := fun m u => by unfold signed; rw [if_neg (by decide)]; exact Int.natCast_nonneg _
    have q1 := q m (i - min i j).toNat
    have q2 := q n (j - min i j).toNat
    omega
  have e : (if signed false m (i - min i j).toNat + signed false n (j - min i j).toNat = 0 then false && false else decide (signed false m (i - min i j).toNat + signed false n (j - min i j).toNat < 0)) = false := by
    rw [decide_eq_false hn]
    split <;> rfl
  rw [e]
  exact neg_nearest _ _
theorem In.add {a b c d : Nat} {X Y : Option Nat} (ha : Cst a) (hb : Cst b) (hc : Cst c) (hd : Cst d) (h : In a b X) (k : In c d Y) : In (fadd a c) (fadd b d) (op2 .add X Y) := by
  obtain ⟨x, rfl, nx, gx, x1, x2⟩ := h
  obtain ⟨y, rfl, ny, gy, y1, y2⟩ := k
  have fx := In.fin ha hb x1 x2
  have fy := In.fin hc hd y1 y2
  obtain ⟨q1, q2⟩ := read_fin fy
  obtain ⟨e, he, _⟩ := q2
  obtain ⟨e1, e2⟩ := add_some (x := x) (y := y) nx ⟨_, _, _, he⟩
  refine ⟨fadd x y, e1, e2, fadd_neg fx fy gx gy, ?_, ?_⟩
  · refine Int.le_trans ?_ (fadd_mono ha.f fx fy x1)
    rw [fadd_comm a c, fadd_comm a y]
    exact fadd_mono hc.f fy ha.f y1
  · refine Int.le_trans (fadd_mono fx hb.f fy x2) ?_
    rw [fadd_comm b y, fadd_comm b d]
    exact fadd_mono fy hd.f hb.f y2
theorem In.quo {a b y : Nat} {X : Option Nat} (ha : Cst a) (hb : Cst b) {n : Nat} {j : Int} (hy : double.read y = .number false n j) (hn : n ≠ 0) (h : In a b X) : In (fdiv a y) (fdiv b y) (op2 .quo X (some y)) := by
  obtain ⟨x, rfl, nx, gx, x1, x2⟩ := h
  have fx := In.fin ha hb x1 x2
  obtain ⟨e1, e2⟩ := div_some (x := x) nx hy hn
  refine ⟨fdiv x y, e1, e2, ?_, fdiv_mono ha.f fx hy hn x1, fdiv_mono fx hb.f hy hn x2⟩
  obtain ⟨m, i, r, _, _⟩ := read_fin fx
  rw [fdiv_eq r hy hn, gx]
  have hr : quoN m i n j < double.signWeight := Nat.lt_of_le_of_lt (N_le _ _) (Format.infRung_lt double)
  unfold neg
  rw [Bool.xor_false, word_div double false hr]
theorem In.ofInt {lo hi n : Int} (h0 : 0 ≤ n) (h1 : lo ≤ n) (h2 : n ≤ hi) : In (floatOfInt .f64 lo) (floatOfInt .f64 hi) (some (floatOfInt .f64 n)) := by
  refine ⟨_, rfl, nn_ofInt n, ?_, ofInt_mono h1, ofInt_mono h2⟩
  show neg (double.nearest (decide (n < 0)) n.natAbs 0) = false
  rw [decide_eq_false (by omega)]
  exact neg_nearest _ _
theorem In.lit {a : Nat} (h : nn a) (hn : neg a = false) : In a a (some a) := ⟨a, rfl, h, hn, Int.le_refl _, Int.le_refl _⟩
end Go.Proofs.Ythmdhmknadhjeaa.flt
