/- Net: parts in memory; whether a part may stand (the program's), walked. -/
import Derived.Test.YtfmjmjppkdaanaaRes
namespace Go.Proofs.Ytfmjmjppkdaanaa
open Go.RowKit Go.BigFrame flt Ieee

def irow (n : Int) : List Value := [.int .i64 n]
def Ints (w : World) (A : Option Addr) (l : List Int) : Prop := Sl (fun _ => True) w A 1 (l.map irow)
theorem Ints.at_ {w : World} {A : Option Addr} {l : List Int} (h : Ints w A l) {k : Nat} (hk : k < l.length) :
    ∃ b o, A = some ⟨b, o, none⟩ ∧ b < w.heap.size ∧ w.cell? ⟨b, o + k, none⟩ = some (.int .i64 l[k]) := by
  obtain ⟨b, o, e, _, hl, hc⟩ := Sl.at_ h (k := k) (by simpa using hk)
  refine ⟨b, o, e, hl, ?_⟩
  have := hc 0 (.int .i64 l[k]) (by simp [irow])
  simpa using this
theorem Ints.le {w : World} {A : Option Addr} {l : List Int} (h : Ints w A l) : l.length ≤ 9223372036854775807 := by
  have := Sl.le h; simpa using this
theorem Ints.below {w w' : World} {A : Option Addr} {l : List Int} (h : Ints w A l) (d : Below w.heap.size w w') : Ints w' A l := Sl.below' h d
/-- a part: its kind, its size by its bits, what it is made of -/
structure Part where
  kind : Int
  x : Nat
  of : List Int
/-- a net in memory: rows of three cells, each with a list behind it -/
def Pn (w : World) (A : Option Addr) (l : List Part) : Prop :=
  l.length ≤ 9223372036854775807 ∧ ∀ k (h : k < l.length), ∃ b o Ai ci, A = some ⟨b, o, none⟩ ∧ b < w.heap.size ∧ w.cell? ⟨b, o + k * 3, none⟩ = some (.int .u8 l[k].kind) ∧ w.cell? ⟨b, o + k * 3 + 1, none⟩ = some (.float .f64 l[k].x) ∧
    w.cell? ⟨b, o + k * 3 + 2, none⟩ = some (.slice Ai l[k].of.length ci) ∧ Ints w Ai l[k].of ∧ l[k].of.length ≤ ci
theorem Pn.below {w w' : World} {A : Option Addr} {l : List Part} (h : Pn w A l) (d : Below w.heap.size w w') : Pn w' A l :=
  ⟨h.1, fun k hk => by
    obtain ⟨b, o, Ai, ci, e, hb, c0, c1, c2, hi, hc⟩ := h.2 k hk
    have := d.size
    exact ⟨b, o, Ai, ci, e, by omega, (d.cell hb).trans c0, (d.cell hb).trans c1, (d.cell hb).trans c2, hi.below d, hc⟩⟩
def ge0 (a : Option Nat) : Bool := ord a (some 0) == some .gt || ord a (some 0) == some .eq
/-- may a part stand at a place? -/
def mayp (p : Part) (i : Int) : Bool :=
  if p.kind = 1 ∨ p.kind = 2 ∨ p.kind = 3 then decide (p.of.length = 0) && isFin (cls p.x) && ge0 (cls p.x)
  else if p.kind = 4 ∨ p.kind = 5 then p.of.all (fun k => decide (0 ≤ k ∧ k < i)) && decide (0 < p.of.length) && decide (p.of.length ≤ 64) && decide (p.x = 0)
  else false
set_option maxHeartbeats 1000000 in
theorem rfinite_any (x : Nat) (w : World) : Calls Try.prog 44 #[.float .f64 x] w fun e w' => e = .returned (.bool (isFin (cls x))) ∧ Drawn w w' := by
  obtain ⟨FS, GS, hs, cs⟩ := veil (op := .sub) (Or.inr (Or.inl rfl)) 23
  have s1 : ∀ W, (FloatKind.f64.format.order (FS x x W) 0 == some .eq) = isFin (cls x) := fun W => by rw [eq_zero, cs, fin_test _ (cls_ok x)]
  generalize isFin (cls x) = f at *
  clear cs
  replace s1 := Lib.hid s1
  go_enter Try.func44, Try.ntmps44
  go_wp2
  go_ret
  exact ⟨ret_bool (s1.out _), drawn_N _⟩
set_option maxHeartbeats 1000000 in
theorem rrate_any (x : Nat) (w : World) : Calls Try.prog 28 #[.float .f64 x] w fun e w' => e = .returned (.bool (isRate (cls x))) ∧ Drawn w w' := by
  have h1 := rfinite_any x
  have H : (FloatKind.f64.format.order x 0 == some .gt) = (ord (cls x) (some 0) == some .gt) := by
    have e := order_cls x 0
    rw [cls_nn nn_zero] at e
    rw [← e]
    rfl
  unfold isRate
  generalize isFin (cls x) = c at *
  generalize (ord (cls x) (some 0) == some Ordering.gt) = d at *
  cases c <;> cases d
  all_goals (go_enter Try.func28, Try.ntmps28; go_wp2_with (go_at_call 44; (with_reducible refine (h1 _).mono ?_); rintro e w1 ⟨rfl, hd⟩); go_ret; exact ⟨rfl, hd⟩)
end Go.Proofs.Ytfmjmjppkdaanaa
