/- Heat: the program's watch and the reference's at once; what both tell. -/
import Derived.Test.YtdjdkhbagoideaaDoorRf7
import Derived.Test.YtdjdkhbagoideaaDoorRf10
import Derived.Test.YtdjdkhbagoideaaDoorBroken
namespace Go.Proofs.YtdjdkhbagoideaaDoor
open Go.RowKit Go.BigFrame flt Ieee

/-- the program's watch and the reference's -/
structure Duw (W wr : World) (Z : Zn) (B1 g1 B2 g2 : Nat) (v1 o1 v2 o2 : Value) (s1 s2 : Hs) : Prop where
  a : Wt wr B1 g1 Z v1 o1 s1
  b : Wr wr B2 g2 Z v2 o2 s2
  w : Below W.heap.size W wr
  l1 : W.heap.size ≤ B1
  l2 : g1 < B2
theorem Duw.stepa {W wr w' : World} {Z : Zn} {B1 g1 B2 g2 : Nat} {v1 o1 v2 o2 : Value} {s1 s2 s' : Hs} (h : Duw W wr Z B1 g1 B2 g2 v1 o1 v2 o2 s1 s2) (ha : Wt w' B1 g1 Z v1 o1 s') (hf : Fr wr.heap.size (fun b => b = g1 ∨ o1.ownBlock = some b) wr w') : Duw W w' Z B1 g1 B2 g2 v1 o1 v2 o2 s' s2 := by
  have hlo : ∀ b, (b = g1 ∨ o1.ownBlock = some b) → b ≤ g1 := fun b e => by
    rcases e with e | e
    · omega
    · exact Nat.le_of_lt (h.a.og b e).1
  have hhi : ∀ b, (b = g1 ∨ o1.ownBlock = some b) → W.heap.size ≤ b := fun b e => by
    rcases e with e | e
    · have := h.a.hB; have := h.l1; omega
    · have := (h.a.on.lt b e).1; have := h.l1; omega
  have hl2 := h.l2
  have hB2 := h.b.hB
  refine ⟨ha, h.b.keep (hf.k _ (heap_lt h.b.hb) (fun e => by have := hlo _ e; omega)) (fun b e => hf.k b (h.b.tr.lt b e).2 (fun q => by have := hlo _ q; have := (h.b.tr.lt b e).1; omega)) (fun b e => hf.k b (h.b.on.lt b e).2 (fun q => by have := hlo _ q; have := (h.b.on.lt b e).1; omega)), h.w.trans (hf.below h.w.size hhi), h.l1, h.l2⟩
theorem Duw.stepb {W wr w' : World} {Z : Zn} {B1 g1 B2 g2 : Nat} {v1 o1 v2 o2 : Value} {s1 s2 s' : Hs} (h : Duw W wr Z B1 g1 B2 g2 v1 o1 v2 o2 s1 s2) (hb : Wr w' B2 g2 Z v2 o2 s') (hf : Fr wr.heap.size (fun b => b = g2 ∨ o2.ownBlock = some b) wr w') : Duw W w' Z B1 g1 B2 g2 v1 o1 v2 o2 s1 s' := by
  have hhi : ∀ b, (b = g2 ∨ o2.ownBlock = some b) → g1 < b := fun b e => by
    have := h.l2
    rcases e with e | e
    · have := h.b.hB; omega
    · have := (h.b.on.lt b e).1; omega
  have hlo := h.a.hB
  have hl1 := h.l1
  refine ⟨h.a.keep (hf.k _ (heap_lt h.a.hb) (fun e => by have := hhi _ e; omega)) (fun b e => hf.k b (h.a.tr.lt b e).2 (fun q => by have := hhi _ q; have := h.a.vg b e; omega)) (fun b e => hf.k b (h.a.on.lt b e).2 (fun q => by have := hhi _ q; have := (h.a.og b e).1; omega)), hb, h.w.trans (hf.below h.w.size (fun b e => by have := hhi b e; omega)), h.l1, h.l2⟩
theorem Duw.below {W wr w' : World} {Z : Zn} {B1 g1 B2 g2 : Nat} {v1 o1 v2 o2 : Value} {s1 s2 : Hs} (h : Duw W wr Z B1 g1 B2 g2 v1 o1 v2 o2 s1 s2) (hb : Below wr.heap.size wr w') : Duw W w' Z B1 g1 B2 g2 v1 o1 v2 o2 s1 s2 :=
  ⟨h.a.below hb, h.b.below hb, h.w.trans (hb.mono h.w.size), h.l1, h.l2⟩
theorem Duw.above {W wr w' : World} {Z : Zn} {B1 g1 B2 g2 : Nat} {v1 o1 v2 o2 : Value} {s1 s2 : Hs} (h : Duw W wr Z B1 g1 B2 g2 v1 o1 v2 o2 s1 s2) (hb : Below (g2 + 1) wr w') : Duw W w' Z B1 g1 B2 g2 v1 o1 v2 o2 s1 s2 := by
  have e1 := h.l1
  have e2 := h.l2
  have e3 := h.a.hB
  have e4 := h.b.hB
  refine ⟨h.a.keep (hb.block _ (by omega)) (fun b e => hb.block _ (by have := h.a.vg b e; omega)) (fun b e => hb.block _ (by have := (h.a.og b e).1; omega)), h.b.keep (hb.block _ (by omega)) (fun b e => hb.block _ (by have := h.b.vg b e; omega)) (fun b e => hb.block _ (by have := (h.b.og b e).1; omega)), h.w.trans (hb.mono (by omega)), h.l1, h.l2⟩
theorem Duw.lt {W wr : World} {Z : Zn} {B1 g1 B2 g2 : Nat} {v1 o1 v2 o2 : Value} {s1 s2 : Hs} (h : Duw W wr Z B1 g1 B2 g2 v1 o1 v2 o2 s1 s2) : g2 < wr.heap.size ∧ g1 < g2 := ⟨heap_lt h.b.hb, Nat.lt_of_lt_of_le h.l2 h.b.hB⟩
/-- what a step tells, in memory behind g: a struct of type T, its list of elements E -/
def Tg (T E : TypeId) (w : World) (g : Nat) (t : Tl) (p : Value) : Prop :=
  ∃ P A cc, p = .pointer (some ⟨P, 0, none⟩) ∧ g < P ∧ w.heap[P]? = some (.cells (sarr t.d t.br t.lv t.sh (.slice A t.ev.length cc)) T) ∧ Own w (g + 1) E 2 (t.ev.map erow) (.slice A t.ev.length cc) ∧ ∀ b, (Value.slice A t.ev.length cc).ownBlock = some b → b ≠ P
theorem Tg.keep {T E : TypeId} {w w' : World} {g : Nat} {t : Tl} {p : Value} (h : Tg T E w g t p) (hk : ∀ b, g < b → b < w.heap.size → w'.heap[b]? = w.heap[b]?) : Tg T E w' g t p := by
  obtain ⟨P, A, cc, rfl, h1, h2, h3, h4⟩ := h
  exact ⟨P, A, cc, rfl, h1, (hk P h1 (heap_lt h2)).trans h2, h3.keep fun b e => hk b (h3.lt b e).1 (h3.lt b e).2, h4⟩
theorem rowsT {T : TypeId} {w : World} {P : Nat} {a b c d e : Value} (h : w.heap[P]? = some (.cells #[a, b, c, d, e] T)) :
    w.cell? ⟨P, 0, none⟩ = some a ∧ w.cell? ⟨P, 1, none⟩ = some b ∧ w.cell? ⟨P, 2, none⟩ = some c ∧ w.cell? ⟨P, 3, none⟩ = some d ∧ w.cell? ⟨P, 4, none⟩ = some e ∧
    w.frozen? ⟨P, 0, none⟩ = false ∧ w.frozen? ⟨P, 1, none⟩ = false ∧ w.frozen? ⟨P, 2, none⟩ = false ∧ w.frozen? ⟨P, 3, none⟩ = false ∧ w.frozen? ⟨P, 4, none⟩ = false := by
  refine ⟨?_, ?_, ?_, ?_, ?_, frozen_row h 0, frozen_row h 1, frozen_row h 2, frozen_row h 3, frozen_row h 4⟩
  · rw [cell_of_row _ _ 0 _ T (0, 0) h]; rfl
  · rw [cell_of_row _ _ 1 _ T (0, 0) h]; rfl
  · rw [cell_of_row _ _ 2 _ T (0, 0) h]; rfl
  · rw [cell_of_row _ _ 3 _ T (0, 0) h]; rfl
  · rw [cell_of_row _ _ 4 _ T (0, 0) h]; rfl
theorem fin_ga {T E : TypeId} {W w6 : World} {Z : Zn} {B1 g1 B2 g2 B n c td : Nat} {tb ts : Bool} {tl : Int} {te : List (Nat × Bool)} {A : Option Addr} {v1 o1 v2 o2 : Value} {s1 s2 : Hs} (hD : Duw W w6 Z B1 g1 B2 g2 v1 o1 v2 o2 s1 s2) (hO : Own w6 B E 2 (te.map erow) (.slice A n c)) (hB : g2 < B) (hn : te.length = n) :
    Tg T E (w6.alloc (.cells #[.float .f64 td, .bool tb, .int .i64 tl, .bool ts, .slice A n c] T)) g2 ⟨td, tb, tl, ts, te⟩ (.pointer (some ⟨w6.heap.size, 0, none⟩)) ∧ Duw W (w6.alloc (.cells #[.float .f64 td, .bool tb, .int .i64 tl, .bool ts, .slice A n c] T)) Z B1 g1 B2 g2 v1 o1 v2 o2 s1 s2 := by
  subst hn
  exact ⟨⟨_, A, c, rfl, hD.lt.1, heap_alloc_at _ _, (hO.alloc _).mono hB, fun b e => Nat.ne_of_lt (hO.lt b e).2⟩, hD.below (below_al (Below.refl _ _) _)⟩
theorem fin_gb {T E : TypeId} {W w6 : World} {Z : Zn} {B1 g1 B2 g2 B n c td P : Nat} {tb ts : Bool} {tl : Int} {te : List (Nat × Bool)} {A : Option Addr} {v1 o1 v2 o2 : Value} {s1 s2 : Hs} (hD : Duw W w6 Z B1 g1 B2 g2 v1 o1 v2 o2 s1 s2) (hO : Own w6 B E 2 (te.map erow) (.slice A n c)) (hP : g2 < P) (hB : P < B) (hn : te.length = n) (hr : w6.heap[P]? = some (.cells z37 T)) :
    Tg T E (((((w6.setCell ⟨P, 0, none⟩ (.float .f64 td)).setCell ⟨P, 1, none⟩ (.bool tb)).setCell ⟨P, 2, none⟩ (.int .i64 tl)).setCell ⟨P, 3, none⟩ (.bool ts)).setCell ⟨P, 4, none⟩ (.slice A n c)) g2 ⟨td, tb, tl, ts, te⟩ (.pointer (some ⟨P, 0, none⟩)) ∧
    Duw W (((((w6.setCell ⟨P, 0, none⟩ (.float .f64 td)).setCell ⟨P, 1, none⟩ (.bool tb)).setCell ⟨P, 2, none⟩ (.int .i64 tl)).setCell ⟨P, 3, none⟩ (.bool ts)).setCell ⟨P, 4, none⟩ (.slice A n c)) Z B1 g1 B2 g2 v1 o1 v2 o2 s1 s2 := by
  subst hn
  have hb : Below P w6 (((((w6.setCell ⟨P, 0, none⟩ (.float .f64 td)).setCell ⟨P, 1, none⟩ (.bool tb)).setCell ⟨P, 2, none⟩ (.int .i64 tl)).setCell ⟨P, 3, none⟩ (.bool ts)).setCell ⟨P, 4, none⟩ (.slice A te.length c)) :=
    (((((Below.refl P w6).setCell (Nat.le_refl _) _).setCell (Nat.le_refl _) _).setCell (Nat.le_refl _) _).setCell (Nat.le_refl _) _).setCell (Nat.le_refl _) _
  refine ⟨⟨_, A, c, rfl, hP, heap_set (heap_set (heap_set (heap_set (heap_set hr 0 _) 1 _) 2 _) 3 _) 4 _, (hO.keep fun b e => ?_).mono (show g2 + 1 ≤ B by omega), fun b e => Nat.ne_of_gt (Nat.lt_of_lt_of_le hB (hO.lt b e).1)⟩, hD.above (hb.mono hP)⟩
  have := (hO.lt b e).1
  have hne : b ≠ P := by omega
  rw [Below.heap_setCell _ _ _ b hne, Below.heap_setCell _ _ _ b hne, Below.heap_setCell _ _ _ b hne, Below.heap_setCell _ _ _ b hne, Below.heap_setCell _ _ _ b hne]
/-- what the degrees that are told are, is a number -/
theorem told_nn {Z : Zn} {s : Hs} (hZ : Zok Z) (hs : Hok Z s) (x secs : Nat) : nn (told Z s x secs).d := by
  have hk := nxt_ok hZ hs x secs
  unfold told
  unfold nxt at hk
  split
  · exact zero_bt.nn
  · rename_i q
    split
    · exact hs.h.nn
    · rename_i q2
      simp only [Bool.or_eq_true, not_or, Bool.not_eq_true] at q q2
      rw [q.1, q.2, q2] at hk
      exact hk.h.nn
theorem evs_le : ∀ (a b : List Bool) (i : Nat), (evs i a b).length ≤ a.length
  | [], _, _ => by simp [evs]
  | x :: a, [], _ => by simp [evs]
  | x :: a, y :: b, i => by
    have ih := evs_le a b (i + 1)
    simp only [evs, List.length_append, List.length_cons]
    split <;> simp <;> omega
theorem told_few {Z : Zn} {s : Hs} (hZ : Zok Z) (hs : Hok Z s) (x secs : Nat) : (told Z s x secs).ev.length ≤ 8 := by
  have hk := nxt_ok hZ hs x secs
  have hz := hZ.n.2
  have h1 := hs.on
  unfold told
  split
  · simp
  · split
    · simp
    · exact Nat.le_trans (evs_le _ _ _) (by rw [h1]; exact hz)
end Go.Proofs.YtdjdkhbagoideaaDoor
