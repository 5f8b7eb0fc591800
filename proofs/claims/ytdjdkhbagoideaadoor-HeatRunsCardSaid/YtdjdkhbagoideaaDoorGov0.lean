/- Heat: the greater and the less of two floats; what govern reckons stays between whole numbers. -/
import Derived.Test.YtdjdkhbagoideaaDoorAny
namespace Go.Proofs.YtdjdkhbagoideaaDoor
open Go.RowKit Go.BigFrame flt Ieee

theorem datum_neg {x : Nat} (h : rung x < double.infRung) : (double.read x).neg = neg x := by
  obtain ⟨m, e, hr, _⟩ := read_fin h
  rw [hr]; rfl
theorem order_three {x y : Nat} (hx : nn x) (hy : nn y) : (double.order x y = some .lt ∧ lt x y = true ∧ gt x y = false) ∨ (double.order x y = some .gt ∧ lt x y = false ∧ gt x y = true) ∨ (double.order x y = some .eq ∧ lt x y = false ∧ gt x y = false) := by
  unfold lt gt
  rw [order_key hx hy]
  rcases cmp_cases (key x) (key y) with ⟨_, e⟩ | ⟨_, e⟩ | ⟨_, e⟩ <;> rw [e] <;> simp
theorem run_fmax (P : Program) (W : World) (ts : Array TypeId) (t : TypeId) {x y : Nat} (hx : rung x < double.infRung) (nx : nn x) (hy : nn y) : (Builtin.max_ ts t #[.float .f64 x, .float .f64 y]).run P W = .ok (.float .f64 (fmax2 x y)) W := by
  have hd := datum_neg hx
  have e0 : (Builtin.max_ ts t #[.float .f64 x, .float .f64 y]) = (Builtin.max2 (.float .f64 x) (.float .f64 y) >>= pure) := rfl
  have hf : FloatKind.f64.format.order x y = double.order x y := rfl
  have hg : FloatKind.f64.decode x = double.read x := rfl
  unfold fmax2
  rw [e0]
  unfold Builtin.max2
  simp only [hf, hg]
  rcases order_three nx hy with ⟨e, h1, h2⟩ | ⟨e, h1, h2⟩ | ⟨e, h1, h2⟩
  · rw [e, h1]; rfl
  · rw [e, h1, h2]; rfl
  · rw [e, h1, h2, hd]; rfl
theorem run_fmin (P : Program) (W : World) (ts : Array TypeId) (t : TypeId) {x y : Nat} (hx : rung x < double.infRung) (nx : nn x) (hy : nn y) : (Builtin.min_ ts t #[.float .f64 x, .float .f64 y]).run P W = .ok (.float .f64 (fmin2 x y)) W := by
  have hd := datum_neg hx
  have e0 : (Builtin.min_ ts t #[.float .f64 x, .float .f64 y]) = (Builtin.min2 (.float .f64 x) (.float .f64 y) >>= pure) := rfl
  have hf : FloatKind.f64.format.order x y = double.order x y := rfl
  have hg : FloatKind.f64.decode x = double.read x := rfl
  unfold fmin2
  rw [e0]
  unfold Builtin.min2
  simp only [hf, hg]
  rcases order_three nx hy with ⟨e, h1, h2⟩ | ⟨e, h1, h2⟩ | ⟨e, h1, h2⟩
  · rw [e, h1]; rfl
  · rw [e, h1, h2]; rfl
  · rw [e, h1, h2, hd]; rfl
theorem zero_bt : Bt 0 0 0 := ⟨rung_zero, by rw [far_val.2.2.2.2]; omega, by rw [far_val.2.2.2.2]; omega⟩
theorem fmax_bt {a b : Int} {x : Nat} (h : Bt a b x) (hb : 0 ≤ b) : Bt 0 b (fmax2 x 0) := by
  have hz := zero_bt.mono (Int.le_refl 0) hb
  have z0 := far_val.2.2.2.2
  unfold fmax2
  have k1 := gt_val h.nn zero_bt.nn
  have k2 := lt_val h.nn zero_bt.nn
  cases h1 : lt x 0
  · have v : val 0 ≤ val x := by
      rw [h1] at k2
      have : ¬ key x < key 0 := by simpa using k2.symm
      exact val_le.2 (by omega)
    rw [z0] at v
    have hx : Bt 0 b x := ⟨h.f, by omega, h.h⟩
    simp only [Bool.false_eq_true, if_false]
    split
    · exact hx
    · split
      · exact hz
      · exact hx
  · simp only [if_true]; exact hz
theorem fmin_bt {b c : Int} {x y : Nat} (h : Bt 0 b x) (hy : Bt 0 c y) : Bt 0 c (fmin2 x y) := by
  unfold fmin2
  have k1 := gt_val h.nn hy.nn
  have k2 := lt_val h.nn hy.nn
  cases h1 : lt x y
  · simp only [Bool.false_eq_true, if_false]
    cases h2 : gt x y
    · simp only [Bool.false_eq_true, if_false]
      rw [h1] at k2
      rw [h2] at k1
      have q1 : ¬ key x < key y := by simpa using k2.symm
      have q2 : ¬ key y < key x := by simpa using k1.symm
      have v : val x ≤ val y := val_le.2 (by omega)
      have hx : Bt 0 c x := ⟨h.f, h.l, Int.le_trans v hy.h⟩
      split
      · exact hx
      · exact hy
    · simp only [if_true]; exact hy
  · simp only [if_true]
    rw [h1] at k2
    have q1 : key x < key y := by simpa using k2.symm
    have v : val x ≤ val y := val_le.2 (by omega)
    exact ⟨h.f, h.l, Int.le_trans v hy.h⟩
/-- what govern reckons -/
structure Rek (Z : Zn) (s : Hs) (secs : Nat) : Prop where
  over : floatBits .sub .f64 s.h Z.tg = some (overh Z s.h)
  m1 : floatBits .mul .f64 (overh Z s.h) secs = some (fmul (overh Z s.h) secs)
  a1 : floatBits .add .f64 s.sum (fmul (overh Z s.h) secs) = some (sum1 Z s s.h secs)
  b1 : Bt (-3000000000000) 3000000000000 (sum1 Z s s.h secs)
  b2 : Bt 0 3000000000000 (fmax2 (sum1 Z s s.h secs) 0)
  b3 : Bt 0 1000000 (sum2 Z s s.h secs)
  m2 : floatBits .mul .f64 Z.kp (overh Z s.h) = some (fmul Z.kp (overh Z s.h))
  m3 : floatBits .mul .f64 Z.ki (sum2 Z s s.h secs) = some (fmul Z.ki (sum2 Z s s.h secs))
  a2 : floatBits .add .f64 (fmul Z.kp (overh Z s.h)) (fmul Z.ki (sum2 Z s s.h secs)) = some (wish Z s s.h secs)
  b4 : Bt (-9000000000000) 9000000000000 (wish Z s s.h secs)
theorem rek_of {Z : Zn} {s : Hs} {secs : Nat} (hZ : Zok Z) (hh : Bt (-1048576) 1048576 s.h) (hs : Bt 0 1000000 s.sum) (hc : Bt 0 1000000 secs) : Rek Z s secs := by
  obtain ⟨o1, o2⟩ := hh.sub hZ.tg (by unfold In53; omega)
  have o3 : Bt (-((2048576 : Nat) : Int)) ((2048576 : Nat) : Int) (overh Z s.h) := o2.mono (by omega) (by omega)
  have c3 : Bt (-((1000000 : Nat) : Int)) ((1000000 : Nat) : Int) secs := hc.mono (by omega) (by omega)
  obtain ⟨p1, p2⟩ := o3.mul c3 (by decide)
  obtain ⟨q1, q2⟩ := hs.add p2 (by unfold In53; omega)
  have q3 : Bt (-3000000000000) 3000000000000 (sum1 Z s s.h secs) := q2.mono (by omega) (by omega)
  have q4 := fmax_bt q3 (by omega)
  have q5 : Bt 0 1000000 (sum2 Z s s.h secs) := fmin_bt q4 hZ.cap
  have k3 : Bt (-((1000000 : Nat) : Int)) ((1000000 : Nat) : Int) Z.kp := hZ.kp.mono (by omega) (by omega)
  have k4 : Bt (-((1000000 : Nat) : Int)) ((1000000 : Nat) : Int) Z.ki := hZ.ki.mono (by omega) (by omega)
  have k5 : Bt (-((1000000 : Nat) : Int)) ((1000000 : Nat) : Int) (sum2 Z s s.h secs) := q5.mono (by omega) (by omega)
  obtain ⟨r1, r2⟩ := k3.mul o3 (by decide)
  obtain ⟨t1, t2⟩ := k4.mul k5 (by decide)
  obtain ⟨u1, u2⟩ := r2.add t2 (by unfold In53; omega)
  exact ⟨o1, p1, q1, q3, q4, q5, r1, t1, u1, u2.mono (by omega) (by omega)⟩
theorem lvl_ceil {n : Nat} {mo : Int} (hn : nn n) (hm : 0 ≤ mo ∧ mo ≤ 100) (h1 : gt n 0 = true) (h2 : ge n (floatOfInt .f64 mo) = false) : ∃ c : Nat, 1 ≤ c ∧ (c : Int) ≤ mo ∧ nn (ceilB n) ∧ floatToIntVal .f64 (ceilB n) .i64 = some (c : Int) ∧ ceilI n = c := by
  obtain ⟨m, rfl⟩ : ∃ m : Nat, mo = (m : Int) := ⟨mo.toNat, by omega⟩
  have hm2 := small_val ⟨m, by omega⟩
  have nm : nn (floatOfInt .f64 (m : Int)) := nn_ofInt _
  have z0 := far_val.2.2.2.2
  rw [gt_val hn zero_bt.nn, decide_eq_true_eq] at h1
  rw [ge_val hn nm, decide_eq_false_iff_not] at h2
  have hk0 : key 0 = 0 := key_zero
  rw [hk0] at h1
  obtain ⟨c, c1, c2, c3, c4⟩ := ceil_small (x := n) (m := m) h1 (by omega) (by omega)
  refine ⟨c, c1, by omega, ?_, c4, by unfold ceilI; rw [c4]; rfl⟩
  rw [c3]
  exact nn_write rfl
theorem lvl_bt {n : Nat} {mo : Int} (hn : nn n) (hm : 0 ≤ mo ∧ mo ≤ 100) : 0 ≤ lvl n mo ∧ lvl n mo ≤ mo := by
  unfold lvl
  cases h1 : gt n 0
  · simp only [Bool.false_eq_true, if_false]; omega
  · cases h2 : ge n (floatOfInt .f64 mo)
    · obtain ⟨c, c1, c2, _, _, c5⟩ := lvl_ceil hn hm h1 h2
      simp only [if_true, Bool.false_eq_true, if_false]
      rw [c5]; omega
    · simp only [if_true]; omega
end Go.Proofs.YtdjdkhbagoideaaDoor
