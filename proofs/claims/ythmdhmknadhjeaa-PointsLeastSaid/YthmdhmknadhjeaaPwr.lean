/- Points: what a point draws, the best one, the next one: on floats' classes. No program here. -/
import Derived.Test.YthmdhmknadhjeaaCls
namespace Go.Proofs.Ythmdhmknadhjeaa
open flt Ieee

/-- an integer as a float, by class -/
def fi (n : Int) : Option Nat := some (floatOfInt .f64 n)
theorem cls_fi (n : Int) : cls (floatOfInt .f64 n) = fi n := cls_nn (nn_ofInt n)
/-- what a point (x: rate, y: volts) draws -/
def pw (x y : Int) (F K : Option Nat) : Option Nat :=
  op2 .add (op2 .mul (op2 .mul (op2 .mul F (op2 .quo (fi y) (some 4696837146684686336))) (op2 .quo (fi y) (some 4696837146684686336))) (fi x)) (op2 .mul K (op2 .quo (fi y) (some 4696837146684686336)))
theorem cls_million : cls 4696837146684686336 = some 4696837146684686336 := cls_nn (by unfold nn; decide)
def lt (a b : Option Nat) : Bool := ord a b == some .lt
def gt (a b : Option Nat) : Bool := ord a b == some .gt
def ge (a b : Option Nat) : Bool := ord a b == some .gt || ord a b == some .eq
def le (a b : Option Nat) : Bool := ord a b == some .lt || ord a b == some .eq
/-- finite, not below nought -/
def pl (a : Option Nat) : Bool := ge a (some 0) && !isInf a
theorem rpl_eq (x : Nat) : (ge (cls x) (some 0) && le (cls x) (some 9218868437227405311)) = pl (cls x) := by
  unfold pl ge le
  cases hx : cls x with
  | none => rfl
  | some a =>
    obtain ⟨rfl, hn⟩ := cls_some hx
    rw [ord_some hn nn_zero, ord_some hn nn_max, key_max, key_zero]
    have hr := rung_le hn
    have hm := infRung_max
    have h1 : isInf (some x) = decide (rung x = double.infRung) := rfl
    rw [h1]
    have hk : key x = rung x ∨ key x = -(rung x : Int) := by unfold key; split <;> simp
    generalize double.infRung = I at *
    generalize rung x = r at *
    generalize key x = k at *
    generalize (9218868437227405311 : Int) = M at *
    have key1 : ∀ (k M : Int) (r I : Nat), (I : Int) = M + 1 → r ≤ I → (k = r ∨ k = -(r : Int)) → ((some (compare k 0) == some Ordering.gt || some (compare k 0) == some Ordering.eq) && (some (compare k M) == some Ordering.lt || some (compare k M) == some Ordering.eq)) = ((some (compare k 0) == some Ordering.gt || some (compare k 0) == some Ordering.eq) && !decide (r = I)) := by
      intro k M r I hI hr hk
      rcases Int.lt_trichotomy k 0 with q | q | q
      · have e : compare k 0 = .lt := by rw [Int.compare_eq_lt]; exact q
        simp [e]
      · have e : compare k 0 = .eq := by rw [Int.compare_eq_eq]; exact q
        rcases Int.lt_trichotomy k M with p | p | p
        · have e2 : compare k M = .lt := by rw [Int.compare_eq_lt]; exact p
          have e3 : ¬ r = I := by omega
          simp [e, e2, e3]
        · have e2 : compare k M = .eq := by rw [Int.compare_eq_eq]; exact p
          have e3 : ¬ r = I := by omega
          simp [e, e2, e3]
        · have e2 : compare k M = .gt := by rw [Int.compare_eq_gt]; exact p
          have e3 : r = I := by omega
          simp [e, e2, e3]
      · have e : compare k 0 = .gt := by rw [Int.compare_eq_gt]; exact q
        rcases Int.lt_trichotomy k M with p | p | p
        · have e2 : compare k M = .lt := by rw [Int.compare_eq_lt]; exact p
          have e3 : ¬ r = I := by omega
          simp [e, e2, e3]
        · have e2 : compare k M = .eq := by rw [Int.compare_eq_eq]; exact p
          have e3 : ¬ r = I := by omega
          simp [e, e2, e3]
        · have e2 : compare k M = .gt := by rw [Int.compare_eq_gt]; exact p
          have e3 : r = I := by omega
          simp [e, e2, e3]
    exact key1 k M r I hm hr hk
/-- the best of the first k points: its place (-1: none), what it draws -/
def bst (l : List (Int × Int)) (W T F K : Option Nat) : Nat → Int × Option Nat
  | 0 => (-1, none)
  | k + 1 =>
    let s := bst l W T F K k
    let p := l.getD k (0, 0)
    let t := op2 .quo W (fi p.1)
    if gt t T then s
    else
      let x := op2 .mul (pw p.1 p.2 F K) t
      if decide (s.1 < 0) || lt x s.2 || (s.2.isNone && !x.isNone) then ((k : Int), x) else s
/-- the first of the points from k on (n of them left) that is fast enough -/
def nxt (l : List (Int × Int)) (w : Option Nat) (at_ : Int) : Nat → Nat → Int
  | 0, _ => at_
  | n + 1, k => if ge (fi (l.getD k (0, 0)).1) w then k else nxt l w at_ n (k + 1)
end Go.Proofs.Ythmdhmknadhjeaa
