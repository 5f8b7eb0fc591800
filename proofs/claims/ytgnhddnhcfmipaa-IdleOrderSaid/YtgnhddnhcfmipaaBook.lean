/- Idle: books in memory; one device's place, its uses, how it stands; walked. -/
import Derived.Test.YtgnhddnhcfmipaaMem4
import Derived.Test.YtgnhddnhcfmipaaW1
import Derived.Deep.Cut
import Derived.Deep.CutRange
import Derived.Deep.RegionHeld3
namespace Go.Proofs.Ytgnhddnhcfmipaa
open Go.RowKit Go.BigFrame

/-- a device of a book -/
structure Dv where
  p : Int
  d : Int
  t : Int
  k : Int
  a : Bool
  s : Int
def drow (x : Dv) : List Value := [.int .i64 x.p, .int .i64 x.d, .int .i64 x.t, .int .i64 x.k, .bool x.a, .int .i64 x.s]
def Dv.uses (x : Dv) : Int := wrap64 (x.t + x.k)
/-- a book in memory: its two cells; its devices' rows, in a block of the book's own -/
structure Bp (W : World) (B bb : Nat) (v : Value) (ds : List Dv) (now : Int) : Prop where
  hb : W.heap[bb]? = some (.cells #[v, .int .i64 now] 111)
  own : Own W B 113 6 (ds.map drow) v
  ne : v.ownBlock ≠ some bb
theorem Bp.lt {W : World} {B bb : Nat} {v : Value} {ds : List Dv} {now : Int} (h : Bp W B bb v ds now) : bb < W.heap.size := heap_lt h.hb
theorem Bp.c0 {W : World} {B bb : Nat} {v : Value} {ds : List Dv} {now : Int} (h : Bp W B bb v ds now) : W.cell? ⟨bb, 0, none⟩ = some v := cell_of_row _ _ 0 _ 111 (0, 0) h.hb
theorem Bp.c1 {W : World} {B bb : Nat} {v : Value} {ds : List Dv} {now : Int} (h : Bp W B bb v ds now) : W.cell? ⟨bb, 1, none⟩ = some (.int .i64 now) := cell_of_row _ _ 1 _ 111 (0, 0) h.hb
theorem Bp.form {W : World} {B bb : Nat} {v : Value} {ds : List Dv} {now : Int} (h : Bp W B bb v ds now) : ∃ A c, v = .slice A ds.length c ∧ ds.length ≤ 9223372036854775807 := by
  obtain ⟨A, c, e, hs⟩ := h.own.sl
  rw [List.length_map] at e
  have := hs.1
  rw [List.length_map] at this
  exact ⟨A, c, e, this⟩
theorem Bp.dev {W : World} {B bb : Nat} {v : Value} {ds : List Dv} {now : Int} (h : Bp W B bb v ds now) {i : Nat} (hi : i < ds.length) : ∃ g c, v = .slice (some ⟨g, 0, none⟩) ds.length c ∧ B ≤ g ∧ g < W.heap.size ∧ g ≠ bb ∧
    W.cell? ⟨g, i * 6, none⟩ = some (.int .i64 ds[i].p) ∧ W.cell? ⟨g, i * 6 + 1, none⟩ = some (.int .i64 ds[i].d) ∧ W.cell? ⟨g, i * 6 + 2, none⟩ = some (.int .i64 ds[i].t) ∧ W.cell? ⟨g, i * 6 + 3, none⟩ = some (.int .i64 ds[i].k) ∧
    W.cell? ⟨g, i * 6 + 4, none⟩ = some (.bool ds[i].a) ∧ W.cell? ⟨g, i * 6 + 5, none⟩ = some (.int .i64 ds[i].s) ∧ ∀ f, f < 6 → W.frozen? ⟨g, i * 6 + f, none⟩ = false := by
  have hl : (ds.map drow).length = ds.length := List.length_map _
  obtain ⟨g, c, rfl, h1, h2, h3⟩ := h.own.form (by omega)
  have ho := h.own
  have hn := h.ne
  rw [hl]
  have hcell := fun (f : Nat) (u : Value) (hu : (drow ds[i])[f]? = some u) => ho.cell (k := i) (by omega) (f := f) (u := u) (by rw [List.getElem_map]; exact hu)
  refine ⟨g, c, rfl, (ho.lt g rfl).1, (ho.lt g rfl).2, fun e => hn (by rw [e]; rfl), (hcell 0 _ rfl).1, (hcell 1 _ rfl).1, (hcell 2 _ rfl).1, (hcell 3 _ rfl).1, (hcell 4 _ rfl).1, (hcell 5 _ rfl).1, fun f hf => ?_⟩
  match f, hf with
  | 0, _ => exact (hcell 0 _ rfl).2
  | 1, _ => exact (hcell 1 _ rfl).2
  | 2, _ => exact (hcell 2 _ rfl).2
  | 3, _ => exact (hcell 3 _ rfl).2
  | 4, _ => exact (hcell 4 _ rfl).2
  | 5, _ => exact (hcell 5 _ rfl).2
/-- a place in a book -/
def inb (ds : List Dv) (i : Int) : Prop := 0 ≤ i ∧ i < ds.length
instance (ds : List Dv) (i : Int) : Decidable (inb ds i) := by unfold inb; infer_instance
theorem at_out {W : World} {B bb : Nat} {v : Value} {ds : List Dv} {now : Int} (h : Bp W B bb v ds now) {i : Int} (hi : ¬ inb ds i) :
    Calls Try.prog 50 #[.pointer (some ⟨bb, 0, none⟩), .int .i64 i] W fun e w' => e = .returned (.tuple #[.pointer none, .int .i64 1]) ∧ w' = W := by
  obtain ⟨A, c, rfl, hl⟩ := h.form
  have c0 := h.c0
  have hor : i < 0 ∨ (¬ i < 0 ∧ (ds.length : Int) ≤ i) := by unfold inb at hi; omega
  clear h hi
  rcases hor with h1 | ⟨h1, h2⟩
  all_goals (
    go_enter Try.func50, Try.ntmps50
    go_wp2
    go_ret2
    exact ⟨rfl, rfl⟩)
theorem at_in {W : World} {B bb : Nat} {v : Value} {ds : List Dv} {now : Int} (h : Bp W B bb v ds now) {i : Nat} (hi : i < ds.length) {g c : Nat} (hv : v = .slice (some ⟨g, 0, none⟩) ds.length c) :
    Calls Try.prog 50 #[.pointer (some ⟨bb, 0, none⟩), .int .i64 i] W fun e w' => e = .returned (.tuple #[.pointer (some ⟨g, i * 6, none⟩), .int .i64 0]) ∧ w' = W := by
  subst hv
  have hl := h.form
  obtain ⟨_, _, _, hl⟩ := hl
  have c0 := h.c0
  have h1 : ¬ (i : Int) < 0 := by omega
  have h2 : ¬ ((ds.length : Int) ≤ i) := by omega
  clear h
  go_enter Try.func50, Try.ntmps50
  go_wp2
  go_ret2
  exact ⟨rfl, rfl⟩
theorem uses_any (g o : Nat) (t k : Int) (W : World) (ct : W.cell? ⟨g, o + 2, none⟩ = some (.int .i64 t)) (ck : W.cell? ⟨g, o + 3, none⟩ = some (.int .i64 k)) :
    Calls Try.prog 53 #[.pointer (some ⟨g, o, none⟩)] W fun e w' => e = .returned (.int .i64 (wrap64 (t + k))) ∧ Drawn W w' := by
  go_enter Try.func53, Try.ntmps53
  go_upto_region 1 with fail
  go_quiet (fail)
  go_wp2
  go_ret
  exact ⟨rfl, (Drawn.refl W).drewN _⟩
theorem now_any {W : World} {B bb : Nat} {v : Value} {ds : List Dv} {now : Int} (h : Bp W B bb v ds now) : Calls Try.prog 34 #[.pointer (some ⟨bb, 0, none⟩)] W fun e w' => e = .returned (.int .i64 now) ∧ w' = W := by
  have c1 := h.c1
  clear h
  go_enter Try.func34, Try.ntmps34
  go_wp2
  go_ret
  exact ⟨rfl, rfl⟩
/-- what a book says of the uses of a place -/
def usesAt (ds : List Dv) (i : Int) : Int := if inb ds i then (ds.getD i.toNat ⟨0, 0, 0, 0, false, 0⟩).uses else 0
def awakeAt (ds : List Dv) (i : Int) : Bool := if inb ds i then (ds.getD i.toNat ⟨0, 0, 0, 0, false, 0⟩).a else false
theorem getD_at {ds : List Dv} {i : Nat} (h : i < ds.length) (z : Dv) : ds.getD (i : Int).toNat z = ds[i] := by
  rw [Int.toNat_natCast, List.getD_eq_getElem?_getD, List.getElem?_eq_getElem h]; rfl
theorem inb_nat {ds : List Dv} {i : Nat} : inb ds i ↔ i < ds.length := by unfold inb; omega
theorem usesb_any {W : World} {B bb : Nat} {v : Value} {ds : List Dv} {now : Int} (h : Bp W B bb v ds now) (i : Int) : Calls Try.prog 38 #[.pointer (some ⟨bb, 0, none⟩), .int .i64 i] W fun e w' => e = .returned (.int .i64 (usesAt ds i)) ∧ Drawn W w' := by
  by_cases hi : inb ds i
  · obtain ⟨n, rfl⟩ : ∃ n : Nat, i = (n : Int) := ⟨i.toNat, by have := hi.1; omega⟩
    have hn := inb_nat.1 hi
    unfold usesAt
    rw [if_pos hi, getD_at hn]
    obtain ⟨g, c, hv, _, _, _, _, _, c2, c3, _, _, _⟩ := h.dev hn
    have K := at_in h hn hv
    have KU := uses_any g (n * 6) _ _ _ c2 c3
    unfold Dv.uses
    clear h hi
    generalize ds[n] = x at *
    go_enter Try.func38, Try.ntmps38
    go_wp2_with (first | (go_at_call 50; (with_reducible refine (K).mono ?_); rintro e w1 ⟨rfl, rfl⟩) | (go_at_call 53; (with_reducible refine (KU).mono ?_); rintro e w2 ⟨rfl, hd⟩))
    go_ret
    exact ⟨rfl, hd⟩
  · unfold usesAt
    rw [if_neg hi]
    have K := at_out h hi
    clear h hi
    go_enter Try.func38, Try.ntmps38
    go_wp2_with (go_at_call 50; (with_reducible refine (K).mono ?_); rintro e w1 ⟨rfl, rfl⟩)
    go_ret
    exact ⟨rfl, Drawn.refl _⟩
theorem awakeb_any {W : World} {B bb : Nat} {v : Value} {ds : List Dv} {now : Int} (h : Bp W B bb v ds now) (i : Int) : Calls Try.prog 37 #[.pointer (some ⟨bb, 0, none⟩), .int .i64 i] W fun e w' => e = .returned (.bool (awakeAt ds i)) ∧ w' = W := by
  by_cases hi : inb ds i
  · obtain ⟨n, rfl⟩ : ∃ n : Nat, i = (n : Int) := ⟨i.toNat, by have := hi.1; omega⟩
    have hn := inb_nat.1 hi
    unfold awakeAt
    rw [if_pos hi, getD_at hn]
    obtain ⟨g, c, hv, _, _, _, _, _, _, _, c4, _, _⟩ := h.dev hn
    have K := at_in h hn hv
    clear h hi
    generalize ds[n] = x at *
    go_enter Try.func37, Try.ntmps37
    go_wp2_with (go_at_call 50; (with_reducible refine (K).mono ?_); rintro e w1 ⟨rfl, rfl⟩)
    go_ret
    exact ⟨rfl, rfl⟩
  · unfold awakeAt
    rw [if_neg hi]
    have K := at_out h hi
    clear h hi
    go_enter Try.func37, Try.ntmps37
    go_wp2_with (go_at_call 50; (with_reducible refine (K).mono ?_); rintro e w1 ⟨rfl, rfl⟩)
    go_ret
    exact ⟨rfl, rfl⟩
end Go.Proofs.Ytgnhddnhcfmipaa
