/- Rails: lags, plain: what follows stays within twice the bound. No program here. -/
import Derived.Test.YtbbjnhajmckjoaaSlo1
namespace Go.Proofs.Ytbbjnhajmckjoaa
open flt Ieee

def m1 : Nat := 6858982232485265408
def m2 : Nat := 6863485832112635904
def m3 : Nat := 6865737631926321152
theorem m_fin : (m1 < double.infRung ∧ m2 < double.infRung) ∧ m3 < double.infRung := by rw [infRung_eq]; decide
theorem m_V : V m2 = 2 * V m1 ∧ V m3 = 3 * V m1 := by decide +kernel
/-- a float of so many times the bound, with a sign -/
theorem times (s : Bool) (k : Nat) (hk : k = 1 ∨ k = 2 ∨ k = 3) : ∃ g, rung g < double.infRung ∧ val g = if s then -((k : Int) * V m1) else (k : Int) * V m1 := by
  have h := m_fin
  have hv := m_V
  rcases hk with rfl | rfl | rfl
  · obtain ⟨w1, w2, w3⟩ := val_word s h.1.1
    exact ⟨double.word s m1, by rw [w1]; exact h.1.1, by rw [w3]; cases s <;> simp⟩
  · obtain ⟨w1, w2, w3⟩ := val_word s h.1.2
    exact ⟨double.word s m2, by rw [w1]; exact h.1.2, by rw [w3, hv.1]; cases s <;> simp⟩
  · obtain ⟨w1, w2, w3⟩ := val_word s h.2
    exact ⟨double.word s m3, by rw [w1]; exact h.2, by rw [w3, hv.2]; cases s <;> simp⟩
/-- within a bound -/
structure Wb (k : Nat) (x : Nat) : Prop where
  f : rung x < double.infRung
  l : -((k : Int) * V m1) ≤ val x
  h : val x ≤ (k : Int) * V m1
theorem diff_up {v t : Nat} (hv : Wb 2 v) (ht : Wb 1 t) (h : val v ≤ val t) : rung (fsub t v) < double.infRung ∧ 0 ≤ val (fsub t v) ∧ val v + val (fsub t v) ≤ 2 * (V m1 : Int) := by
  have h1 := hv.l
  have h2 := ht.h
  have hz : rung 0 < double.infRung := by rw [infRung_eq]; decide
  have v0 : val 0 = 0 := by decide +kernel
  have hM : (0 : Int) ≤ V m1 := Int.natCast_nonneg _
  generalize hA : (V m1 : Int) = A at *
  obtain ⟨k, hk, q1, q2⟩ : ∃ k : Nat, (k = 1 ∨ k = 2 ∨ k = 3) ∧ A - val v ≤ (k : Int) * A ∧ (k : Int) * A ≤ 2 * A - val v := by
    rcases Int.lt_or_le (val v) (-A) with q | q
    · exact ⟨3, by simp, by omega, by omega⟩
    · rcases Int.lt_or_le (val v) 0 with q' | q'
      · exact ⟨2, by simp, by omega, by omega⟩
      · exact ⟨1, by simp, by omega, by omega⟩
  obtain ⟨g, hg, hgv⟩ := times false k hk
  rw [hA] at hgv
  simp only [Bool.false_eq_true, if_false] at hgv
  have k1 := sub_lo ht.f hv.f hz (by rw [v0]; omega)
  have k2 := sub_hi ht.f hv.f hg (by rw [hgv]; omega)
  have hf := fin_between hz hg k1 k2
  have k3 := val_le.2 k1
  have k4 := val_le.2 k2
  rw [v0] at k3
  rw [hgv] at k4
  exact ⟨hf, k3, by omega⟩
theorem diff_down {v t : Nat} (hv : Wb 2 v) (ht : Wb 1 t) (h : val t ≤ val v) : rung (fsub t v) < double.infRung ∧ val (fsub t v) ≤ 0 ∧ -(2 * (V m1 : Int)) ≤ val v + val (fsub t v) := by
  have h1 := hv.h
  have h2 := ht.l
  have hz : rung 0 < double.infRung := by rw [infRung_eq]; decide
  have v0 : val 0 = 0 := by decide +kernel
  have hM : (0 : Int) ≤ V m1 := Int.natCast_nonneg _
  generalize hA : (V m1 : Int) = A at *
  obtain ⟨k, hk, q1, q2⟩ : ∃ k : Nat, (k = 1 ∨ k = 2 ∨ k = 3) ∧ A + val v ≤ (k : Int) * A ∧ (k : Int) * A ≤ 2 * A + val v := by
    rcases Int.lt_or_le A (val v) with q | q
    · exact ⟨3, by simp, by omega, by omega⟩
    · rcases Int.lt_or_le 0 (val v) with q' | q'
      · exact ⟨2, by simp, by omega, by omega⟩
      · exact ⟨1, by simp, by omega, by omega⟩
  obtain ⟨g, hg, hgv⟩ := times true k hk
  rw [hA] at hgv
  simp only [if_true] at hgv
  have k1 := sub_hi ht.f hv.f hz (by rw [v0]; omega)
  have k2 := sub_lo ht.f hv.f hg (by rw [hgv]; omega)
  have hf := fin_between hg hz k2 k1
  have k3 := val_le.2 k1
  have k4 := val_le.2 k2
  rw [v0] at k3
  rw [hgv] at k4
  exact ⟨hf, k3, by omega⟩
/-- a share -/
structure Shr (a : Nat) : Prop where
  f : rung a < double.infRung
  n : neg a = false
  u : V (rung a) ≤ U
theorem add_op {x y : Nat} (hx : rung x < double.infRung) (hy : rung y < double.infRung) : op2 .add (some x) (some y) = some (fadd x y) :=
  (add_some (nn_fin hx) (by obtain ⟨m, e, h, -⟩ := read_fin hy; exact ⟨_, _, _, h⟩)).1
theorem two_m : rung m2 = m2 ∧ neg m2 = false := by
  have h : m2 < double.signWeight := by rw [signWeight_eq]; decide
  exact read_small h
/-- what follows stays within twice the bound -/
theorem lag_go {a v t : Nat} (ha : Shr a) (hv : Wb 2 v) (ht : Wb 1 t) : ∃ z, lagv (some a) (some v) (some t) = some z ∧ Wb 2 z := by
  have h1 := sub_nn ht.f hv.f
  have hfin : ∀ {x : Nat}, rung x < double.infRung → isFin (some x) = true := fun h => by unfold isFin; simpa using h
  have hstep : rung (fsub t v) < double.infRung → rung (fmul a (fsub t v)) < double.infRung → lagv (some a) (some v) (some t) = some (fadd v (fmul a (fsub t v))) := fun q1 q2 => by
    unfold lagv
    rw [hfin ht.f, hfin hv.f, h1.1]
    have := (fmul_spec ha.f q1).1
    show op2 .add (some v) (floatBits .mul .f64 a (fsub t v)) = _
    rw [this]
    exact add_op hv.f q2
  have hl := hv.l
  have hh := hv.h
  obtain ⟨gp, hgp, vgp⟩ := times false 2 (by simp)
  obtain ⟨gn, hgn, vgn⟩ := times true 2 (by simp)
  simp only [Bool.false_eq_true, if_false] at vgp
  simp only [if_true] at vgn
  rcases Int.le_total (val v) (val t) with q | q
  · obtain ⟨f1, d0, d1⟩ := diff_up hv ht q
    obtain ⟨-, f2, p0, -⟩ := part_of ha.f ha.n ha.u f1
    obtain ⟨p1, p2⟩ := p0 d0
    have e := hstep f1 f2
    have k1 := add_lo hv.f f2 hv.f (by omega)
    have k2 := add_hi hv.f f2 hgp (by rw [vgp]; omega)
    refine ⟨_, e, fin_between hv.f hgp k1 k2, ?_, ?_⟩
    · have := val_le.2 k1; omega
    · have := val_le.2 k2; omega
  · obtain ⟨f1, d0, d1⟩ := diff_down hv ht q
    obtain ⟨-, f2, -, p0⟩ := part_of ha.f ha.n ha.u f1
    obtain ⟨p1, p2⟩ := p0 d0
    have e := hstep f1 f2
    have k1 := add_hi hv.f f2 hv.f (by omega)
    have k2 := add_lo hv.f f2 hgn (by rw [vgn]; omega)
    refine ⟨_, e, fin_between hgn hv.f k2 k1, ?_, ?_⟩
    · have := val_le.2 k2; omega
    · have := val_le.2 k1; omega
def Tg (t : Option Nat) : Prop := t = none ∨ ∃ x, t = some x ∧ Wb 1 x
theorem lag_all {a : Nat} (ha : Shr a) : ∀ (ts : List (Option Nat)) (v : Nat), Wb 2 v → (∀ t ∈ ts, Tg t) → ∀ c ∈ lagl (some a) (some v) ts, ∃ z, c = some z ∧ Wb 2 z
  | [], _, _, _, _, hc => by simp [lagl] at hc
  | t :: ts, v, hv, ht, c, hc => by
    have h1 : ∃ z, lagv (some a) (some v) t = some z ∧ Wb 2 z := by
      rcases ht t (by simp) with rfl | ⟨x, rfl, hx⟩
      · exact ⟨v, rfl, hv⟩
      · exact lag_go ha hv hx
    obtain ⟨z, hz, hzw⟩ := h1
    unfold lagl at hc
    rw [hz] at hc
    rcases List.mem_cons.1 hc with rfl | hc
    · exact ⟨z, rfl, hzw⟩
    · exact lag_all ha ts z hzw (fun t q => ht t (List.mem_cons_of_mem _ q)) c hc
/-- what is asked to stay stays -/
theorem lag_stay {a v t : Nat} (ha : Shr a) (hv : rung v < double.infRung) (ht : rung t < double.infRung) (h : key v = key t) : ∃ z, lagv (some a) (some v) (some t) = some z ∧ rung z < double.infRung ∧ key z = key t := by
  have hfin : ∀ {x : Nat}, rung x < double.infRung → isFin (some x) = true := fun h => by unfold isFin; simpa using h
  have h1 := sub_nn ht hv
  have k0 := fsub_zero_key v t hv ht h
  have f1 : rung (fsub t v) < double.infRung := by have := rung_key (fsub t v); rw [infRung_eq]; omega
  have d0 := val_zero_of k0
  obtain ⟨-, f2, p0, p1⟩ := part_of ha.f ha.n ha.u f1
  obtain ⟨p2, p3⟩ := p0 (by omega)
  have e : lagv (some a) (some v) (some t) = some (fadd v (fmul a (fsub t v))) := by
    unfold lagv
    rw [hfin ht, hfin hv, h1.1]
    have := (fmul_spec ha.f f1).1
    show op2 .add (some v) (floatBits .mul .f64 a (fsub t v)) = _
    rw [this]
    exact add_op hv f2
  have k1 := add_lo hv f2 hv (by omega)
  have k2 := add_hi hv f2 hv (by omega)
  exact ⟨_, e, fin_between hv hv k1 k2, by omega⟩
end Go.Proofs.Ytbbjnhajmckjoaa
