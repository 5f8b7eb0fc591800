/- Floats that may be a NaN: a float's class ('none': a NaN), the operations on classes; the model's operations give a float of just that class. No program here. -/
import Derived.Test.YtdjdkhbagoideaaDoorFlt
import Derived.Deep.Draws
import Derived.Laws.NewFold
namespace Go.Proofs.YtdjdkhbagoideaaDoor.flt
open Ieee

/-- a float's class: its bits, or 'none': a NaN -/
def cls (x : Nat) : Option Nat := if (double.read x).isNaN then none else some x
theorem cls_nn {x : Nat} (h : nn x) : cls x = some x := by unfold cls; rw [show (double.read x).isNaN = false from h]; rfl
theorem cls_some {x y : Nat} (h : cls x = some y) : x = y ∧ nn x := by
  unfold cls at h
  split at h
  · cases h
  · rename_i q
    exact ⟨Option.some.inj h, by unfold nn; cases e : (double.read x).isNaN <;> simp_all⟩
theorem cls_none {x : Nat} (h : cls x = none) : (double.read x).isNaN = true := by
  unfold cls at h
  split at h
  · assumption
  · cases h
theorem read_nan {x : Nat} (h : cls x = none) : ∃ s t, double.read x = .nan s t := by
  have h := cls_none h
  cases e : double.read x with
  | number s m i => rw [e] at h; cases h
  | infinity s => rw [e] at h; cases h
  | nan s t => exact ⟨s, t, rfl⟩
/-- the NaN that the tape gives -/
def ask (w : World) (x y : Nat) : Nat := (Question.nanBits .f64 x y).cut (w.tape w.drawn (.nanBits .f64 x y))
theorem cls_nanword (s : Bool) (t : Nat) (ht : t < 2 ^ 52 - 1) : cls (s.toNat * 2 ^ 63 + 0x7ff0000000000000 + 1 + t) = none := by
  have e : s.toNat * 2 ^ 63 + 0x7ff0000000000000 + 1 + t = double.word s (double.infRung + (1 + t)) := by
    have h1 : double.infRung = 0x7ff0000000000000 := by decide
    have h2 : double.signWeight = 2 ^ 63 := by decide
    unfold Format.word
    rw [h1, h2]
    cases s <;> simp <;> omega
  have h1 : double.infRung = 0x7ff0000000000000 := by decide
  have h2 : double.signWeight = 2 ^ 63 := by decide
  have h3 : double.binade = 2 ^ 52 := by decide
  have hr : double.read (double.word s (double.infRung + (1 + t))) = .nan s (double.infRung + (1 + t) - double.infRung) := by
    rw [read_word double s (by rw [h1, h2]; omega), if_neg (by rw [h1, h3]; omega), if_neg (by omega), if_neg (by omega)]
  unfold cls
  rw [e, hr]
  rfl
theorem cls_ask (w : World) (x y : Nat) : cls (ask w x y) = none := by
  unfold ask
  simp only [Question.cut]
  generalize w.tape w.drawn _ = t
  have h := cls_nanword (t % 2 == 1) (t / 2 % (2 ^ 52 - 1)) (Nat.mod_lt _ (by decide))
  have e : (t % 2 == 1).toNat = t % 2 := by
    rcases Nat.mod_two_eq_zero_or_one t with q | q <;> rw [q] <;> rfl
  rw [e] at h
  exact h
/-- what an operation gives, and how often it asks -/
def fv (op : BinOp) (x y : Nat) (w : World) : Nat := match floatBits op .f64 x y with | some r => r | none => ask w x y
def fd (op : BinOp) (x y : Nat) : Nat := match floatBits op .f64 x y with | some _ => 0 | none => 1
def Ar (op : BinOp) : Prop := op = .add ∨ op = .sub ∨ op = .mul ∨ op = .quo
theorem run_arith {P : Program} {op : BinOp} (ho : Ar op) (t : TypeId) (x y : Nat) (w : World) : (binOp op t (.float .f64 x) (.float .f64 y)).run P w = .ok (.float .f64 (fv op x y w)) (w.drewN (fd op x y)) := by
  unfold fv fd
  cases h : floatBits op .f64 x y with
  | some r => exact run_float_arith w op t .f64 x y r h
  | none =>
    unfold ask
    rcases ho with rfl | rfl | rfl | rfl
    all_goals (simp only [floatBits] at h; simp [binOp, Op.floatArith, h, Question.forced]; rfl)
theorem bits_nn {op : BinOp} {x y r : Nat} (h : floatBits op .f64 x y = some r) : nn r := by
  have hw : ∀ {d : Option Datum}, (∀ e, d = some e → e.isNaN = false) → d.map double.write = some r → nn r := by
    intro d hd h
    cases d with
    | none => cases h
    | some e =>
      obtain rfl := Option.some.inj h
      exact nn_write (hd e rfl)
  unfold floatBits at h
  split at h
  · refine hw (fun e he => ?_) h
    cases a : FloatKind.f64.format.read x <;> cases b : FloatKind.f64.format.read y <;> rw [a, b] at he <;> simp [Datum.sum] at he <;> (try split at he) <;> (first | (cases he; done) | (cases he; rfl) | (obtain ⟨_, rfl⟩ := he; rfl) | (subst he; rfl))
  · refine hw (fun e he => ?_) h
    cases a : FloatKind.f64.format.read x <;> cases b : FloatKind.f64.format.read y <;> rw [a, b] at he <;> simp [Datum.sum, Datum.opposite] at he <;> (try split at he) <;> (first | (cases he; done) | (cases he; rfl) | (obtain ⟨_, rfl⟩ := he; rfl) | (subst he; rfl))
  · refine hw (fun e he => ?_) h
    cases a : FloatKind.f64.format.read x <;> cases b : FloatKind.f64.format.read y <;> rw [a, b] at he <;> simp [Datum.product] at he <;> (try split at he) <;> (first | (cases he; done) | (cases he; rfl) | (obtain ⟨_, rfl⟩ := he; rfl) | (subst he; rfl))
  · refine hw (fun e he => ?_) h
    cases a : FloatKind.f64.format.read x <;> cases b : FloatKind.f64.format.read y <;> rw [a, b] at he <;> simp [Datum.quotient] at he <;> (try split at he) <;> (try split at he) <;> (first | (cases he; done) | (cases he; rfl) | (obtain ⟨_, rfl⟩ := he; rfl) | (subst he; rfl))
  · cases h
theorem cls_fv (op : BinOp) (x y : Nat) (w : World) : cls (fv op x y w) = floatBits op .f64 x y := by
  unfold fv
  cases h : floatBits op .f64 x y with
  | some r => exact cls_nn (bits_nn h)
  | none => exact cls_ask w x y
/-- an operation on classes -/
def op2 (op : BinOp) (a b : Option Nat) : Option Nat := match a, b with | some x, some y => floatBits op .f64 x y | _, _ => none
theorem bits_op2 (op : BinOp) (x y : Nat) : floatBits op .f64 x y = op2 op (cls x) (cls y) := by
  unfold op2
  cases hx : cls x with
  | none =>
    obtain ⟨s, t, e⟩ := read_nan hx
    have e : FloatKind.f64.format.read x = .nan s t := e
    unfold floatBits
    cases op <;> simp [Format.add, Format.sub, Format.mul, Format.div, e, Datum.sum, Datum.product, Datum.quotient]
  | some a =>
    obtain ⟨rfl, _⟩ := cls_some hx
    cases hy : cls y with
    | none =>
      obtain ⟨s, t, e⟩ := read_nan hy
      have e : FloatKind.f64.format.read y = .nan s t := e
      unfold floatBits
      cases op <;> cases a : FloatKind.f64.format.read x <;> simp [Format.add, Format.sub, Format.mul, Format.div, e, a, Datum.sum, Datum.product, Datum.quotient, Datum.opposite]
    | some b =>
      obtain ⟨rfl, _⟩ := cls_some hy
      rfl
theorem cls_op2 (op : BinOp) (x y : Nat) (w : World) : cls (fv op x y w) = op2 op (cls x) (cls y) := (cls_fv op x y w).trans (bits_op2 op x y)
/-- how two classes stand to each other -/
def ord (a b : Option Nat) : Option Ordering := match a, b with | some x, some y => double.order x y | _, _ => none
theorem order_cls (x y : Nat) : double.order x y = ord (cls x) (cls y) := by
  unfold ord
  cases hx : cls x with
  | none =>
    obtain ⟨s, t, e⟩ := read_nan hx
    simp [Format.order, e, Datum.order]
  | some a =>
    obtain ⟨rfl, _⟩ := cls_some hx
    cases hy : cls y with
    | none =>
      obtain ⟨s, t, e⟩ := read_nan hy
      cases a : double.read x <;> simp [Format.order, e, a, Datum.order]
    | some b =>
      obtain ⟨rfl, _⟩ := cls_some hy
      rfl
end Go.Proofs.YtdjdkhbagoideaaDoor.flt
