/- Floats: infinite, finite, nought, the size without the sign, told by the class. No program here. -/
import Derived.Test.YtdjdkhbagoideaaDoorFnan
import Derived.Test.YtdjdkhbagoideaaDoorFltMono
namespace Go.Proofs.YtdjdkhbagoideaaDoor.flt
open Ieee

def maxf : Nat := 9218868437227405311
def inf : Nat := 9218868437227405312
theorem infRung_eq : double.infRung = 9218868437227405312 := by decide
theorem signWeight_eq : double.signWeight = 9223372036854775808 := by decide
/-- infinite; finite -/
def isInf (a : Option Nat) : Bool := match a with | some x => decide (rung x = double.infRung) | none => false
def isFin (a : Option Nat) : Bool := match a with | some x => decide (rung x < double.infRung) | none => false
theorem nn_max : nn 9218868437227405311 := by
  unfold nn
  decide
theorem key_max : key 9218868437227405311 = 9218868437227405311 := by unfold key neg rung; rw [signWeight_eq]; rfl
theorem key_min : key 18442240474082181119 = -9218868437227405311 := by unfold key neg rung; rw [signWeight_eq]; rfl
theorem nn_min : nn 18442240474082181119 := by unfold nn; decide
theorem nn_zero : nn 0 := by unfold nn; decide
theorem key_zero : key 0 = 0 := by decide
theorem ord_some {x y : Nat} (hx : nn x) (hy : nn y) : ord (some x) (some y) = some (compare (key x) (key y)) := order_key hx hy
theorem ord_none (b : Option Nat) : ord none b = none := by cases b <;> rfl
theorem ord_none' (b : Option Nat) : ord b none = none := by cases b <;> rfl
theorem inf_key (r I : Nat) (M : Int) (hI : (I : Int) = M + 1) (hM : 0 ≤ M) (hr : r ≤ I) (s : Bool) :
    (some (compare (if s = true then -(r : Int) else r) M) == some Ordering.gt || some (compare (if s = true then -(r : Int) else r) (-M)) == some Ordering.lt) = decide (r = I) := by
  by_cases e : r = I
  · rw [decide_eq_true e]
    cases s
    · have h1 : compare (r : Int) M = .gt := by rw [Int.compare_eq_gt]; omega
      simp [h1]
    · have h1 : compare (-(r : Int)) (-M) = .lt := by rw [Int.compare_eq_lt]; omega
      simp [h1]
  · rw [decide_eq_false e]
    cases s
    · have h1 : ¬ compare (r : Int) M = .gt := by rw [Int.compare_eq_gt]; omega
      have h2 : ¬ compare (r : Int) (-M) = .lt := by rw [Int.compare_eq_lt]; omega
      simp [h1, h2]
    · have h1 : ¬ compare (-(r : Int)) M = .gt := by rw [Int.compare_eq_gt]; omega
      have h2 : ¬ compare (-(r : Int)) (-M) = .lt := by rw [Int.compare_eq_lt]; omega
      simp [h1, h2]
theorem infRung_max : ((double.infRung : Nat) : Int) = 9218868437227405311 + 1 := by rw [infRung_eq]; rfl
/-- 'x > MaxFloat64 || x < -MaxFloat64' -/
theorem inf_test (x : Nat) : (double.order x 9218868437227405311 == some .gt || double.order x 18442240474082181119 == some .lt) = isInf (cls x) := by
  cases hx : cls x with
  | none =>
    rw [order_cls x, order_cls x, hx, ord_none, ord_none]
    rfl
  | some a =>
    obtain ⟨rfl, hn⟩ := cls_some hx
    rw [order_key hn nn_max, order_key hn nn_min, key_max, key_min]
    exact inf_key (rung x) _ _ infRung_max (by decide) (rung_le hn) (neg x)
theorem nan_test (x : Nat) : (double.order x x != some .eq) = (cls x).isNone := by
  rw [order_cls]
  cases hx : cls x with
  | none => rfl
  | some a =>
    obtain ⟨rfl, hn⟩ := cls_some hx
    rw [ord_some hn hn]
    have : compare (key x) (key x) = .eq := by rw [Int.compare_eq_eq]
    rw [this]
    rfl
theorem read_small {y : Nat} (h : y < double.signWeight) : rung y = y ∧ neg y = false := by
  unfold rung neg
  rw [Nat.mod_eq_of_lt h, Nat.div_eq_of_lt h]
  exact ⟨rfl, rfl⟩
theorem cls_rung (x : Nat) : (cls (rung x)).isNone = (cls x).isNone ∧ rung (rung x) = rung x := by
  have hlt : rung x < double.signWeight := Nat.mod_lt _ (sw_pos double)
  refine ⟨?_, (read_small hlt).1⟩
  have e : ∀ z, (double.read z).isNaN = decide (double.infRung < rung z) := fun z => by
    unfold Format.read
    have hq : z % double.signWeight = rung z := rfl
    simp only [hq]
    have h1 : double.binade ≤ double.infRung := by decide
    split
    · rename_i h2; exact (decide_eq_false (by omega)).symm
    · split
      · rename_i h2; exact (decide_eq_false (by omega)).symm
      · split
        · rename_i h2; exact (decide_eq_false (by omega)).symm
        · exact (decide_eq_true (by omega)).symm
  unfold cls
  rw [e, e, (read_small hlt).1]
  split <;> rfl
theorem abs_key (r I : Nat) (M : Int) (hI : (I : Int) = M + 1) (hr : r ≤ I) : (some (compare (r : Int) M) == some Ordering.gt) = decide (r = I) := by
  by_cases e : r = I
  · rw [decide_eq_true e]
    have h1 : compare (r : Int) M = .gt := by rw [Int.compare_eq_gt]; omega
    simp [h1]
  · rw [decide_eq_false e]
    have h1 : ¬ compare (r : Int) M = .gt := by rw [Int.compare_eq_gt]; omega
    simp [h1]
theorem key_rung (x : Nat) : key (rung x) = rung x := by
  have hlt : rung x < double.signWeight := Nat.mod_lt _ (sw_pos double)
  unfold key
  rw [(read_small hlt).1, (read_small hlt).2]
  rfl
theorem nn_rung {x : Nat} (h : nn x) : nn (rung x) := by
  cases h2 : cls (rung x) with
  | none => have := (cls_rung x).1; rw [h2, cls_nn h] at this; cases this
  | some b => exact (cls_some h2).2
/-- 'Abs(x) > MaxFloat64' -/
theorem abs_test (x : Nat) : (double.order (rung x) 9218868437227405311 == some .gt) = isInf (cls x) := by
  cases hx : cls x with
  | none =>
    have hc := (cls_rung x).1
    rw [hx] at hc
    rw [order_cls, Option.isNone_iff_eq_none.1 hc, ord_none]
    rfl
  | some a =>
    obtain ⟨rfl, hn⟩ := cls_some hx
    rw [order_key (nn_rung hn) nn_max, key_max, key_rung]
    exact abs_key (rung x) _ _ infRung_max (rung_le hn)
theorem op2_none (op : BinOp) (b : Option Nat) : op2 op none b = none := by cases b <;> rfl
/-- 'x - x == 0' -/
theorem fin_test (a : Option Nat) (h : ∀ x, a = some x → nn x) : (ord (op2 .sub a a) (some 0) == some .eq) = isFin a := by
  cases a with
  | none => rfl
  | some x =>
    have hn := h x rfl
    show (ord (floatBits .sub .f64 x x) (some 0) == some .eq) = decide (rung x < double.infRung)
    rcases nn_cases hn with ⟨s, m, i, e⟩ | ⟨s, e⟩
    · have e1 : floatBits .sub .f64 x x = some 0 := by
        have e : FloatKind.f64.format.read x = .number s m i := e
        simp only [floatBits, Format.sub, e, Datum.opposite, Datum.sum]
        have ht : signed s m (i - min i i).toNat + signed (!s) m (i - min i i).toNat = 0 := by
          unfold signed
          cases s <;> simp <;> omega
        simp only [ht]
        cases s <;> rfl
      have hlt : rung x < double.infRung := by
        rcases Nat.lt_or_ge (rung x) double.infRung with q | q
        · exact q
        · exfalso
          have hq : rung x = double.infRung := Nat.le_antisymm (rung_le hn) q
          unfold Format.read at e
          have hz : x % double.signWeight = double.infRung := hq
          simp only [hz] at e
          rw [if_neg (by decide), if_neg (by omega)] at e
          simp at e
      rw [e1, decide_eq_true hlt]
      decide
    · have e1 : floatBits .sub .f64 x x = none := by
        have e : FloatKind.f64.format.read x = .infinity s := e
        simp only [floatBits, Format.sub, e, Datum.opposite, Datum.sum]
        cases s <;> rfl
      have hlt : ¬ rung x < double.infRung := by
        intro q
        unfold Format.read at e
        have hq : x % double.signWeight = rung x := rfl
        simp only [hq] at e
        split at e
        · cases e
        · first | (cases e; done) | (split at e; cases e)
      rw [e1, decide_eq_false hlt]
      rfl
end Go.Proofs.YtdjdkhbagoideaaDoor.flt
