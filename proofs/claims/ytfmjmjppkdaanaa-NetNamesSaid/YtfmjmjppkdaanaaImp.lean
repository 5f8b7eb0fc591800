/- Net: each part's impedance, by classes; lists of complex numbers in memory. -/
import Derived.Test.YtfmjmjppkdaanaaRchk
import Derived.Test.YtfmjmjppkdaanaaMem4
namespace Go.Proofs.Ytfmjmjppkdaanaa
open Go.RowKit Go.BigFrame flt Ieee

/-- a complex number by its parts' classes -/
abbrev Cx := Option Nat × Option Nat
def clsc (p : Nat × Nat) : Cx := (cls p.1, cls p.2)
def addc (z y : Cx) : Cx := (op2 .add z.1 y.1, op2 .add z.2 y.2)
def turnc (z : Cx) : Cx := turn z.1 z.2
def pickc (out : List Cx) (k : Int) : Cx := out.getD k.toNat (none, none)
/-- the sum of the first k + 1 -/
def accn (f : Cx → Cx) (out : List Cx) (of : List Int) : Nat → Cx
  | 0 => f (pickc out (of.getD 0 0))
  | k + 1 => addc (accn f out of k) (f (pickc out (of.getD (k + 1) 0)))
def sumc (f : Cx → Cx) (out : List Cx) (of : List Int) : Cx := accn f out of (of.length - 1)
def one : Nat := 4607182418800017408
/-- a part's impedance -/
def imp (W : Option Nat) (p : Part) (out : List Cx) : Cx :=
  if p.kind = 1 then (cls p.x, some 0)
  else if p.kind = 2 then (some 0, op2 .mul W (cls p.x))
  else if p.kind = 3 then (some 0, op2 .sub (some 0) (op2 .quo (some one) (op2 .mul W (cls p.x))))
  else if p.kind = 4 then sumc id out p.of
  else turnc (sumc turnc out p.of)
def zsn (W : Option Nat) (l : List Part) : Nat → List Cx
  | 0 => []
  | k + 1 => zsn W l k ++ [imp W (l.getD k ⟨0, 0, []⟩) (zsn W l k)]
theorem zsn_succ (W : Option Nat) (l : List Part) (k : Nat) : zsn W l (k + 1) = zsn W l k ++ [imp W (l.getD k ⟨0, 0, []⟩) (zsn W l k)] := rfl
theorem zsn_len (W : Option Nat) (l : List Part) (k : Nat) : (zsn W l k).length = k := by
  induction k with
  | zero => rfl
  | succ k ih => unfold zsn; rw [List.length_append, ih]; rfl
theorem zsn_get (W : Option Nat) (l : List Part) {k n : Nat} (h : k < n) : (zsn W l n).getD k (none, none) = imp W (l.getD k ⟨0, 0, []⟩) (zsn W l k) := by
  induction n with
  | zero => omega
  | succ n ih =>
    rw [zsn_succ W l n]
    rw [List.getD_eq_getElem?_getD]
    by_cases e : k = n
    · subst e
      rw [List.getElem?_append_right (by rw [zsn_len]; omega), zsn_len, Nat.sub_self]
      rfl
    · rw [List.getElem?_append_left (by rw [zsn_len]; omega), ← List.getD_eq_getElem?_getD]
      exact ih (by omega)
/-- complex numbers in memory -/
def Cs (w : World) (A : Option Addr) (zs : List Cx) : Prop :=
  zs.length ≤ 9223372036854775807 ∧ ∀ k (h : k < zs.length), ∃ b o r s, A = some ⟨b, o, none⟩ ∧ b < w.heap.size ∧ w.cell? ⟨b, o + k, none⟩ = some (.complex .f64 r s) ∧ (cls r, cls s) = zs[k]
theorem Cs.below {w w' : World} {A : Option Addr} {l : List Cx} (h : Cs w A l) (d : Below w.heap.size w w') : Cs w' A l :=
  ⟨h.1, fun k hk => by
    obtain ⟨b, o, r, s, e, hb, c, hc⟩ := h.2 k hk
    have := d.size
    exact ⟨b, o, r, s, e, by omega, (d.cell hb).trans c, hc⟩⟩
/-- pairs of floats in memory -/
def Ps (w : World) (A : Option Addr) (zs : List Cx) : Prop :=
  zs.length ≤ 9223372036854775807 ∧ ∀ k (h : k < zs.length), ∃ b o r s, A = some ⟨b, o, none⟩ ∧ b < w.heap.size ∧ w.cell? ⟨b, o + k * 2, none⟩ = some (.float .f64 r) ∧ w.cell? ⟨b, o + k * 2 + 1, none⟩ = some (.float .f64 s) ∧ (cls r, cls s) = zs[k]
theorem Ps.below {w w' : World} {A : Option Addr} {l : List Cx} (h : Ps w A l) (d : Below w.heap.size w w') : Ps w' A l :=
  ⟨h.1, fun k hk => by
    obtain ⟨b, o, r, s, e, hb, c, c', hc⟩ := h.2 k hk
    have := d.size
    exact ⟨b, o, r, s, e, by omega, (d.cell hb).trans c, (d.cell hb).trans c', hc⟩⟩
def crow (p : Nat × Nat) : List Value := [.complex .f64 p.1 p.2]
def prow (p : Nat × Nat) : List Value := [.float .f64 p.1, .float .f64 p.2]
theorem Cs.of_own {w : World} {base : Nat} {l : List (Nat × Nat)} {v : Value} (h : Own w base 34 1 (l.map crow) v) : ∃ A c, v = .slice A l.length c ∧ Cs w A (l.map clsc) := by
  obtain ⟨A, c, hv, hs⟩ := h.sl
  rw [List.length_map] at hv
  refine ⟨A, c, hv, by have := hs.1; simpa using this, fun k hk => ?_⟩
  rw [List.length_map] at hk
  obtain ⟨b, o, e, _, hl, hc⟩ := hs.at_ (k := k) (by simpa using hk)
  refine ⟨b, o, l[k].1, l[k].2, e, hl, ?_, by rw [List.getElem_map]; rfl⟩
  have := hc 0 (.complex .f64 l[k].1 l[k].2) (by simp [crow])
  simpa using this
theorem Ps.of_own {w : World} {base : Nat} {l : List (Nat × Nat)} {v : Value} (h : Own w base 26 2 (l.map prow) v) : ∃ A c, v = .slice A l.length c ∧ Ps w A (l.map clsc) := by
  obtain ⟨A, c, hv, hs⟩ := h.sl
  rw [List.length_map] at hv
  refine ⟨A, c, hv, by have := hs.1; simpa using this, fun k hk => ?_⟩
  rw [List.length_map] at hk
  obtain ⟨b, o, e, _, hl, hc⟩ := hs.at_ (k := k) (by simpa using hk)
  refine ⟨b, o, l[k].1, l[k].2, e, hl, ?_, ?_, by rw [List.getElem_map]; rfl⟩
  · have := hc 0 (.float .f64 l[k].1) (by simp [prow])
    simpa using this
  · have := hc 1 (.float .f64 l[k].2) (by simp [prow])
    simpa using this
end Go.Proofs.Ytfmjmjppkdaanaa
