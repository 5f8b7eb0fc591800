/- Heat: the reference's tests of floats and of zones, its watch in memory; walked. -/
import Derived.Test.YtdjdkhbagoideaaDoorStep4
namespace Go.Proofs.YtdjdkhbagoideaaDoor
open Go.RowKit Go.BigFrame flt Ieee

set_option maxHeartbeats 400000 in
theorem rnear_any (x : Nat) (W : World) : Calls Tryd.prog 35 #[.float .f64 x] W fun e w' => e = .returned (.bool (near x)) ∧ W = w' := by
  obtain ⟨a, ha⟩ : ∃ a, (FloatKind.f64.format.order x 13920209183539462144 == some .gt || FloatKind.f64.format.order x 13920209183539462144 == some .eq) = a := ⟨_, rfl⟩
  obtain ⟨b, hb⟩ : ∃ b, (FloatKind.f64.format.order x 4696837146684686336 == some .lt || FloatKind.f64.format.order x 4696837146684686336 == some .eq) = b := ⟨_, rfl⟩
  have e : Hid (near x = (a && b)) := Lib.hid (by rw [← ha, ← hb]; rfl)
  rw [e.out]
  cases a <;> cases b
  all_goals go_enter Tryd.func35, Tryd.ntmps35
  all_goals go_wp2
  all_goals go_ret
  all_goals exact ⟨rfl, rfl⟩
set_option maxHeartbeats 400000 in
theorem rpart_any (x : Nat) (W : World) : Calls Tryd.prog 60 #[.float .f64 x] W fun e w' => e = .returned (.bool (part x)) ∧ W = w' := by
  obtain ⟨a, ha⟩ : ∃ a, (FloatKind.f64.format.order x 0 == some .gt || FloatKind.f64.format.order x 0 == some .eq) = a := ⟨_, rfl⟩
  obtain ⟨b, hb⟩ : ∃ b, (FloatKind.f64.format.order x 4696837146684686336 == some .lt || FloatKind.f64.format.order x 4696837146684686336 == some .eq) = b := ⟨_, rfl⟩
  have e : Hid (part x = (a && b)) := Lib.hid (by rw [← ha, ← hb]; rfl)
  rw [e.out]
  cases a <;> cases b
  all_goals go_enter Tryd.func60, Tryd.ntmps60
  all_goals go_wp2
  all_goals go_ret
  all_goals exact ⟨rfl, rfl⟩
set_option maxHeartbeats 400000 in
theorem rsecs_any (x : Nat) (W : World) : Calls Tryd.prog 36 #[.float .f64 x] W fun e w' => e = .returned (.bool (seconds x)) ∧ W = w' := by
  obtain ⟨a, ha⟩ : ∃ a, (FloatKind.f64.format.order x 0 == some .gt) = a := ⟨_, rfl⟩
  obtain ⟨b, hb⟩ : ∃ b, (FloatKind.f64.format.order x 4696837146684686336 == some .lt || FloatKind.f64.format.order x 4696837146684686336 == some .eq) = b := ⟨_, rfl⟩
  have e : Hid (seconds x = (a && b)) := Lib.hid (by rw [← ha, ← hb]; rfl)
  rw [e.out]
  go_enter Tryd.func36, Tryd.ntmps36
  go_wp2
  all_goals go_ret
  all_goals exact ⟨by simp_all, rfl⟩
/-- the reference's watch in memory: its block g, its trips, which are on -/
structure Wr (W : World) (B g : Nat) (Z : Zn) (v vo : Value) (s : Hs) : Prop where
  hb : W.heap[g]? = some (.cells (warr Z v vo s) 100)
  tr : Own W B 79 3 (Z.tr.map tprow) v
  on : Own W B 4 1 (s.on.map orow) vo
  hB : B ≤ g
  vg : ∀ b, v.ownBlock = some b → b < g
  og : ∀ b, vo.ownBlock = some b → b < g ∧ v.ownBlock ≠ some b
theorem Wr.keep {W W' : World} {B g : Nat} {Z : Zn} {v vo : Value} {s : Hs} (h : Wr W B g Z v vo s) (h1 : W'.heap[g]? = W.heap[g]?) (h2 : ∀ b, v.ownBlock = some b → W'.heap[b]? = W.heap[b]?) (h3 : ∀ b, vo.ownBlock = some b → W'.heap[b]? = W.heap[b]?) : Wr W' B g Z v vo s :=
  ⟨h1.trans h.hb, h.tr.keep h2, h.on.keep h3, h.hB, h.vg, h.og⟩
theorem Wr.below {W W' : World} {B g : Nat} {Z : Zn} {v vo : Value} {s : Hs} (h : Wr W B g Z v vo s) (d : Below W.heap.size W W') : Wr W' B g Z v vo s :=
  h.keep (d.block _ (heap_lt h.hb)) (fun b hb => d.block _ (h.tr.lt b hb).2) (fun b hb => d.block _ (h.on.lt b hb).2)
theorem Wr.drawn {W W' : World} {B g : Nat} {Z : Zn} {v vo : Value} {s : Hs} (h : Wr W B g Z v vo s) (d : Drawn W W') : Wr W' B g Z v vo s := h.below (d.below _)
theorem Wr.put {W w' : World} {B g : Nat} {Z : Zn} {v vo : Value} {s s' : Hs} (h : Wr W B g Z v vo s) (hf : Fr W.heap.size (fun b => b = g) W w') (h1 : w'.heap[g]? = some (.cells (warr Z v vo s') 100)) (hon : s'.on = s.on) : Wr w' B g Z v vo s' :=
  ⟨h1, h.tr.keep fun b e => hf.k b (h.tr.lt b e).2 (fun q => by have := h.vg b e; omega), by rw [hon]; exact h.on.keep fun b e => hf.k b (h.on.lt b e).2 (fun q => by have := (h.og b e).1; omega), h.hB, h.vg, h.og⟩
theorem Wr.cl {W : World} {B g : Nat} {Z : Zn} {v vo : Value} {s : Hs} (h : Wr W B g Z v vo s) (i : Nat) {x : Value} (hx : (warr Z v vo s)[i]? = some x) : W.cell? ⟨g, i, none⟩ = some x := by
  rw [cell_of_row _ _ i _ 100 (0, 0) h.hb]; exact hx
theorem Wr.fz {W : World} {B g : Nat} {Z : Zn} {v vo : Value} {s : Hs} (h : Wr W B g Z v vo s) (i : Nat) : W.frozen? ⟨g, i, none⟩ = false := frozen_row h.hb i
end Go.Proofs.YtdjdkhbagoideaaDoor
