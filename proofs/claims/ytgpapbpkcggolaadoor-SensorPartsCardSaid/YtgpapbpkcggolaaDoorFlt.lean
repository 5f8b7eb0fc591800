/- Floats of the model: what is no NaN; the operations that give a number. Plain: no program here. -/
import Derived.Laws.FloatArith
namespace Go.Proofs.YtgpapbpkcggolaaDoor.flt
open Ieee

/-- no NaN -/
def nn (x : Nat) : Prop := (double.read x).isNaN = false
theorem sw_pos (f : Format) : 0 < f.signWeight := Nat.two_pow_pos _
theorem word_mod (f : Format) (neg : Bool) {rung : Nat} (h : rung < f.signWeight) : f.word neg rung % f.signWeight = rung := by
  unfold Format.word
  cases neg
  · exact Nat.mod_eq_of_lt h
  · show (f.signWeight + rung) % f.signWeight = rung
    rw [Nat.add_mod_left, Nat.mod_eq_of_lt h]
theorem word_div (f : Format) (neg : Bool) {rung : Nat} (h : rung < f.signWeight) : (f.word neg rung / f.signWeight % 2 == 1) = neg := by
  unfold Format.word
  cases neg
  · show (rung / f.signWeight % 2 == 1) = false
    rw [Nat.div_eq_of_lt h]; rfl
  · show ((f.signWeight + rung) / f.signWeight % 2 == 1) = true
    rw [Nat.add_div_left _ (sw_pos f), Nat.div_eq_of_lt h]; rfl
/-- a word made of a sign and a rung reads as what its rung says -/
theorem read_word (f : Format) (neg : Bool) {rung : Nat} (h : rung < f.signWeight) : f.read (f.word neg rung) =
    if rung < f.binade then .number neg rung f.leastPlace
    else if rung < f.infRung then .number neg (f.binade + rung % f.binade) (f.leastPlace + (rung / f.binade - 1 : Nat))
    else if rung = f.infRung then .infinity neg
    else .nan neg (rung - f.infRung) := by
  unfold Format.read
  rw [word_mod f neg h, word_div f neg h]
theorem nn_word (neg : Bool) {rung : Nat} (h : rung ≤ double.infRung) : nn (double.word neg rung) := by
  unfold nn
  rw [read_word double neg (Nat.lt_of_le_of_lt h (Format.infRung_lt double))]
  split
  · rfl
  · split
    · rfl
    · have : rung = double.infRung := by omega
      rw [if_pos this]; rfl
theorem nn_nearest (neg : Bool) (mag : Nat) (place : Int) : nn (double.nearest neg mag place) := by
  unfold Format.nearest
  split
  · exact nn_word neg (Nat.zero_le _)
  · exact nn_word neg (Nat.min_le_right _ _)
theorem nn_write {d : Datum} (h : d.isNaN = false) : nn (double.write d) := by
  cases d with
  | number s m e => exact nn_nearest s m e
  | infinity s => exact nn_word s (Nat.le_refl _)
  | nan s t => cases h
theorem nn_ofInt (n : Int) : nn (floatOfInt .f64 n) := nn_nearest _ _ _

/-- the operations, where they give a number: -/
def fadd (x y : Nat) : Nat := (double.add x y).getD 0
def fsub (x y : Nat) : Nat := (double.sub x y).getD 0
def fmul (x y : Nat) : Nat := (double.mul x y).getD 0
def fdiv (x y : Nat) : Nat := (double.div x y).getD 0
/-- a finite number -/
def fin (x : Nat) : Prop := ∃ s m e, double.read x = .number s m e
theorem fin.nn {x : Nat} (h : fin x) : nn x := by
  obtain ⟨s, m, e, h⟩ := h; unfold flt.nn; rw [h]; rfl
theorem nn_cases {x : Nat} (h : nn x) : fin x ∨ ∃ s, double.read x = .infinity s := by
  unfold nn at h
  cases hr : double.read x with
  | number s m e => exact Or.inl ⟨s, m, e, hr⟩
  | infinity s => exact Or.inr ⟨s, rfl⟩
  | nan s t => rw [hr] at h; cases h
theorem add_some {x y : Nat} (hx : nn x) (hy : fin y) : floatBits .add .f64 x y = some (fadd x y) ∧ nn (fadd x y) := by
  obtain ⟨t, n, j, hy⟩ := hy
  show double.add x y = some ((double.add x y).getD 0) ∧ nn ((double.add x y).getD 0)
  unfold Format.add
  rw [hy]
  rcases nn_cases hx with ⟨s, m, i, h⟩ | ⟨s, h⟩
  · rw [h]; exact ⟨rfl, nn_nearest _ _ _⟩
  · rw [h]; exact ⟨rfl, nn_write (d := .infinity s) rfl⟩
theorem div_some {x y : Nat} (hx : nn x) {t : Bool} {n : Nat} {j : Int} (hy : double.read y = .number t n j) (hn : n ≠ 0) : floatBits .quo .f64 x y = some (fdiv x y) ∧ nn (fdiv x y) := by
  show double.div x y = some ((double.div x y).getD 0) ∧ nn ((double.div x y).getD 0)
  unfold Format.div
  rw [hy]
  rcases nn_cases hx with ⟨s, m, i, h⟩ | ⟨s, h⟩
  · rw [h]; simp only [Datum.quotient, if_neg hn]; exact ⟨rfl, nn_nearest _ _ _⟩
  · rw [h]; exact ⟨rfl, nn_write (d := .infinity (s ^^ t)) rfl⟩
end Go.Proofs.YtgpapbpkcggolaaDoor.flt
