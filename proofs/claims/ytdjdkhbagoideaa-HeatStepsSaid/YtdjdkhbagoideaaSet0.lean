/- Heat, plain: a zone of one trip, whole readings: the heat is the reading; half the way each time. No program here. -/
import Derived.Test.YtdjdkhbagoideaaEx
import Derived.Test.YtdjdkhbagoideaaStep4
namespace Go.Proofs.Ytdjdkhbagoideaa
open flt Ieee

def fifty : Nat := 4632233691727265792
def zset (b : Nat) : Zn := ⟨half, 0, 4607182418800017408, 0, 0, 5, [⟨fifty, b, 1⟩]⟩
theorem fifty_bt : Bt 50 50 fifty := by
  have h : rung fifty < double.infRung ∧ val fifty = 50 * (U : Int) := by decide +kernel
  exact ⟨h.1, by rw [h.2]; exact Int.le_refl _, by rw [h.2]; exact Int.le_refl _⟩
theorem part_of_bt {x : Nat} (h : Bt 0 1000000 x) : part x = true := by
  obtain ⟨_, ⟨b1, b2⟩, _, _, z0⟩ := far_val
  have nb : nn 4696837146684686336 := (Bt.nn (a := 0) (b := 1000000) ⟨b2, by rw [b1]; have := U_pos; omega, by rw [b1]; exact Int.le_refl _⟩)
  unfold part
  rw [ge_val h.nn zero_bt.nn, le_val h.nn nb, Bool.and_eq_true, decide_eq_true_eq, decide_eq_true_eq]
  exact ⟨val_le.1 (by rw [z0]; have := h.l; omega), val_le.1 (by rw [b1]; exact h.h)⟩
theorem zset_ok {b : Nat} (h : Bt 0 1000000 b) : okZ (zset b) = true := by
  have h1 : headOk (zset b) = headOk (zset 0) := rfl
  have h2 : headOk (zset 0) = true := by decide +kernel
  have h3 : (near fifty && !le fifty minusInf) = true := by decide +kernel
  unfold okZ
  rw [h1, h2, Bool.true_and]
  show (tripOk minusInf ⟨fifty, b, 1⟩ && true) = true
  unfold tripOk
  simp only
  rw [h3, part_of_bt h]
  rfl
/-- behind a step: the heat, which are on -/
structure Sp (b : Nat) (s : Hs) (N : Int) (on : Bool) : Prop where
  f : s.felt = true
  r : rung s.h < double.infRung
  v : val s.h = N * (G : Int)
  o : s.on = [on]
  sh : s.sh = false
theorem shut_no (b : Nat) (s : Hs) (x secs : Nat) (o : Bool) (h : s.on = [o]) : (stepd (zset b) s x secs).sh = false := by
  show anyk 3 (zset b).tr (ons (feelh (zset b) s x) (zset b).tr s.on) = false
  rw [h]
  show (isOn (feelh (zset b) s x) ⟨fifty, b, 1⟩ o && (1 : Int) == 3 || false) = false
  simp
theorem on_step (b : Nat) (s : Hs) (x secs : Nat) (o : Bool) (h : s.on = [o]) : (stepd (zset b) s x secs).on = [isOn (feelh (zset b) s x) ⟨fifty, b, 1⟩ o] := by
  show ons (feelh (zset b) s x) (zset b).tr s.on = _
  rw [h]; rfl
theorem nn_of_rung {x : Nat} (h : rung x < double.infRung) : nn x := by
  obtain ⟨m, e, hr, _⟩ := read_fin h
  unfold nn; rw [hr]; rfl
theorem ge_fifty {x : Nat} (h : rung x < double.infRung) : ge x fifty = decide (50 * (U : Int) ≤ val x) := by
  have h5 := fifty_bt
  rw [ge_val (nn_of_rung h) h5.nn]
  have e : val fifty = 50 * (U : Int) := Int.le_antisymm h5.h h5.l
  rw [← e]
  by_cases q : val fifty ≤ val x
  · rw [decide_eq_true (val_le.1 q), decide_eq_true q]
  · rw [decide_eq_false (fun k => q (val_le.2 k)), decide_eq_false q]
theorem fifty_iff (n : Int) : decide (50 * (U : Int) ≤ n * (U : Int)) = decide (50 ≤ n) := by
  have hU : (0 : Int) < (U : Int) := Int.ofNat_lt.2 U_pos
  by_cases q : 50 ≤ n
  · rw [decide_eq_true q, decide_eq_true (Int.mul_le_mul_of_nonneg_right q (Int.le_of_lt hU))]
  · rw [decide_eq_false q, decide_eq_false (fun k => q (Int.le_of_mul_le_mul_right k hU))]
theorem grid_of {n : Int} : n * (U : Int) = (n * 1048576) * (G : Int) := by rw [U_G, ← Int.mul_assoc]
theorem stepd_h (Z : Zn) (s : Hs) (x secs : Nat) : (stepd Z s x secs).h = feelh Z s x := rfl
theorem stepd_f (Z : Zn) (s : Hs) (x secs : Nat) : (stepd Z s x secs).felt = true := rfl
theorem feel_first (Z : Zn) (s : Hs) (x : Nat) (h : s.felt = false) : feelh Z s x = x := by unfold feelh; rw [h]; rfl
theorem isOn_off (h : Nat) (t : Tp) : isOn h t false = ge h t.a := rfl
/-- the first reading -/
theorem sp_first (b : Nat) (n : Int) (hn : -32768 ≤ n ∧ n ≤ 32767) (secs : Nat) : Sp b (stepd (zset b) (hs0 1) (floatOfInt .f64 n) secs) (n * 1048576) (decide (50 ≤ n)) := by
  obtain ⟨h1, h2⟩ := int_val n (by omega)
  have e : feelh (zset b) (hs0 1) (floatOfInt .f64 n) = floatOfInt .f64 n := feel_first _ _ _ rfl
  have eh : (stepd (zset b) (hs0 1) (floatOfInt .f64 n) secs).h = floatOfInt .f64 n := (stepd_h _ _ _ _).trans e
  have hon : (hs0 1).on = [false] := rfl
  refine ⟨stepd_f _ _ _ _, by rw [eh]; exact h1, by rw [eh, ← grid_of]; exact h2, ?_, shut_no b _ _ _ false hon⟩
  rw [on_step b _ _ _ false hon, e, isOn_off, ge_fifty h1, h2, fifty_iff]
/-- a reading more: c of the way -/
theorem sp_feel {b : Nat} {s : Hs} {N : Int} {on : Bool} (h : Sp b s N on) {x : Nat} {c : Int} (hx : rung x < double.infRung) (ex : val x = (N + 2 * c) * (G : Int)) (bN : -4503599627370496 < N ∧ N < 4503599627370496) (bc : -1125899906842624 < c ∧ c < 1125899906842624) :
    rung (feelh (zset b) s x) < double.infRung ∧ val (feelh (zset b) s x) = (N + c) * (G : Int) := by
  unfold feelh
  rw [h.f]
  exact feel_exact h.r hx h.v ex bN bc
theorem sp_next {b : Nat} {s : Hs} {N : Int} {on : Bool} (h : Sp b s N on) {x : Nat} {c : Int} (secs : Nat) (hx : rung x < double.infRung) (ex : val x = (N + 2 * c) * (G : Int)) (bN : -4503599627370496 < N ∧ N < 4503599627370496) (bc : -1125899906842624 < c ∧ c < 1125899906842624) :
    Sp b (stepd (zset b) s x secs) (N + c) (isOn (feelh (zset b) s x) ⟨fifty, b, 1⟩ on) := by
  obtain ⟨h1, h2⟩ := sp_feel h hx ex bN bc
  exact ⟨stepd_f _ _ _ _, by rw [stepd_h]; exact h1, by rw [stepd_h]; exact h2, on_step b s x secs on h.o, shut_no b s x secs on h.o⟩
/-- the same reading again: nothing is turned -/
theorem sp_same {b : Nat} {s : Hs} {n : Int} (hb : Bt 0 1000000 b) (hn : -32768 ≤ n ∧ n ≤ 32767) (h : Sp b s (n * 1048576) (decide (50 ≤ n))) (secs : Nat) :
    Sp b (stepd (zset b) s (floatOfInt .f64 n) secs) (n * 1048576) (decide (50 ≤ n)) := by
  obtain ⟨h1, h2⟩ := int_val n (by omega)
  have ex : val (floatOfInt .f64 n) = (n * 1048576 + 2 * 0) * (G : Int) := by rw [h2, grid_of, Int.mul_zero, Int.add_zero]
  have q := sp_next h secs h1 ex (by omega) (by omega)
  obtain ⟨f1, f2⟩ := sp_feel h h1 ex (by omega) (by omega)
  rw [Int.add_zero] at q f2
  have e : isOn (feelh (zset b) s (floatOfInt .f64 n)) ⟨fifty, b, 1⟩ (decide (50 ≤ n)) = decide (50 ≤ n) := by
    have hg := ge_fifty f1
    rw [f2, ← grid_of, fifty_iff] at hg
    unfold isOn
    by_cases k : 50 ≤ n
    · rw [decide_eq_true k, if_pos rfl]
      obtain ⟨s1, s2⟩ := fifty_bt.sub hb (by unfold In53; omega)
      have hl := lt_val (nn_of_rung f1) s2.nn
      rw [hl]
      have hv : val (fsub fifty b) ≤ val (feelh (zset b) s (floatOfInt .f64 n)) := by
        rw [f2, ← grid_of]
        have e1 := s2.h
        have e2 : (50 : Int) * (U : Int) ≤ n * (U : Int) := Int.mul_le_mul_of_nonneg_right k (Int.natCast_nonneg _)
        have e3 : (50 - 0 : Int) * (U : Int) = 50 * (U : Int) := rfl
        omega
      have hk := val_le.1 hv
      rw [decide_eq_false (by omega)]
      rfl
    · rw [decide_eq_false k]
      simp only [Bool.false_eq_true, if_false]
      rw [hg, decide_eq_false k]
  rw [e] at q
  exact q
theorem one_good {n : Int} (hn : -32768 ≤ n ∧ n ≤ 32767) : near (floatOfInt .f64 n) = true ∧ isNaN (floatOfInt .f64 n) = false ∧ badArg (floatOfInt .f64 n) 4607182418800017408 = false := by
  have h := near_of_bt ((int_bt n (by omega)).mono (c := -1000000) (d := 1000000) (by omega) (by omega))
  have hs : seconds 4607182418800017408 = true := by decide +kernel
  refine ⟨h, near_nan h, ?_⟩
  unfold badArg
  rw [h, hs]; rfl
theorem told_good {Z : Zn} {s : Hs} {n : Int} (hn : -32768 ≤ n ∧ n ≤ 32767) (hs : s.sh = false) : code s (floatOfInt .f64 n) 4607182418800017408 = 0 ∧ nxt Z s (floatOfInt .f64 n) 4607182418800017408 = stepd Z s (floatOfInt .f64 n) 4607182418800017408 ∧
    told Z s (floatOfInt .f64 n) 4607182418800017408 = ⟨(stepd Z s (floatOfInt .f64 n) 4607182418800017408).h, false, (stepd Z s (floatOfInt .f64 n) 4607182418800017408).lv, (stepd Z s (floatOfInt .f64 n) 4607182418800017408).sh, evs 0 s.on (stepd Z s (floatOfInt .f64 n) 4607182418800017408).on⟩ := by
  obtain ⟨_, h2, h3⟩ := one_good hn
  refine ⟨?_, ?_, ?_⟩
  · unfold code; rw [hs, h3]; rfl
  · unfold nxt; rw [hs, h3, h2]; rfl
  · unfold told; rw [hs, h3, h2]; rfl
theorem eq_of_val {x y : Nat} (hx : rung x < double.infRung) (hy : rung y < double.infRung) (h : val x = val y) : (FloatKind.f64.format.order x y != some .eq) = false := by
  have hf : FloatKind.f64.format.order x y = double.order x y := rfl
  rw [hf, order_key (nn_of_rung hx) (nn_of_rung hy)]
  have := (val_key (x := x) (y := y)).2.1 h
  rcases cmp_cases (key x) (key y) with ⟨q, _⟩ | ⟨_, e⟩ | ⟨q, _⟩
  · omega
  · rw [e]; rfl
  · omega
end Go.Proofs.Ytdjdkhbagoideaa
