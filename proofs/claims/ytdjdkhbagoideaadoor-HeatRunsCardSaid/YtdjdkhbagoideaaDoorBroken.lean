/- Heat: HeatBroken, walked. -/
import Derived.Test.YtdjdkhbagoideaaDoorOwn
import Derived.Test.YtdjdkhbagoideaaDoorAwk
namespace Go.Proofs.YtdjdkhbagoideaaDoor
open Go.RowKit Go.BigFrame flt Ieee

def frow (p : Nat × Nat) : List Value := [.float .f64 p.1, .float .f64 p.2]
def Fls (w : World) (A : Option Addr) (l : List (Nat × Nat)) : Prop := Sl (fun _ => True) w A 2 (l.map frow)
theorem Fls.at_ {w : World} {A : Option Addr} {l : List (Nat × Nat)} (h : Fls w A l) {k : Nat} (hk : k < l.length) :
    ∃ b o, A = some ⟨b, o, none⟩ ∧ b < w.heap.size ∧ w.cell? ⟨b, o + k * 2, none⟩ = some (.float .f64 l[k].1) ∧ w.cell? ⟨b, o + k * 2 + 1, none⟩ = some (.float .f64 l[k].2) := by
  obtain ⟨b, o, e, _, hl, hc⟩ := Sl.at_ h (k := k) (by simpa using hk)
  exact ⟨b, o, e, hl, hc 0 _ (by simp [frow]), hc 1 _ (by simp [frow])⟩
def Bls (w : World) (A : Option Addr) (l : List Bool) : Prop := Sl (fun _ => True) w A 1 (l.map orow)
theorem Bls.at_ {w : World} {A : Option Addr} {l : List Bool} (h : Bls w A l) {k : Nat} (hk : k < l.length) :
    ∃ b o, A = some ⟨b, o, none⟩ ∧ b < w.heap.size ∧ w.cell? ⟨b, o + k, none⟩ = some (.bool l[k]) := by
  obtain ⟨b, o, e, _, hl, hc⟩ := Sl.at_ h (k := k) (by simpa using hk)
  refine ⟨b, o, e, hl, ?_⟩
  have := hc 0 (.bool l[k]) (by simp [orow])
  simpa using this
theorem own_tps {w : World} {B g n c : Nat} {Z : Zn} (h : Own w B 36 3 (Z.tr.map tprow ++ [markT]) (.slice (some ⟨g, 0, none⟩) n c)) : Tps w (some ⟨g, 0, none⟩) Z.tr := by
  obtain ⟨A, c', e', hs⟩ := h.sl
  have e1 : some (⟨g, 0, none⟩ : Addr) = A := (Value.slice.inj e').1
  rw [← e1] at hs
  have := (hs.take (Z.tr.map tprow).length).mono (S' := fun _ => True) fun _ _ => trivial
  rw [List.take_left' rfl] at this
  exact this
theorem nanLit : isNaN 9221120237041090561 = true ∧ badArg 9221120237041090561 4607182418800017408 = false := by decide +kernel
/-- two watches, alike -/
structure Duo (W wr : World) (Z : Zn) (B1 g1 B2 g2 : Nat) (v1 o1 v2 o2 : Value) (s1 s2 : Hs) : Prop where
  a : Wt wr B1 g1 Z v1 o1 s1
  b : Wt wr B2 g2 Z v2 o2 s2
  w : Below W.heap.size W wr
  l1 : W.heap.size ≤ B1
  l2 : g1 < B2
theorem Duo.stepa {W wr w' : World} {Z : Zn} {B1 g1 B2 g2 : Nat} {v1 o1 v2 o2 : Value} {s1 s2 s' : Hs} (h : Duo W wr Z B1 g1 B2 g2 v1 o1 v2 o2 s1 s2) (ha : Wt w' B1 g1 Z v1 o1 s') (hf : Fr wr.heap.size (fun b => b = g1 ∨ o1.ownBlock = some b) wr w') : Duo W w' Z B1 g1 B2 g2 v1 o1 v2 o2 s' s2 := by
  have hlo : ∀ b, (b = g1 ∨ o1.ownBlock = some b) → b ≤ g1 := fun b e => by
    rcases e with e | e
    · omega
    · exact Nat.le_of_lt (h.a.og b e).1
  have hhi : ∀ b, (b = g1 ∨ o1.ownBlock = some b) → W.heap.size ≤ b := fun b e => by
    rcases e with e | e
    · have := h.a.hB; have := h.l1; omega
    · have := (h.a.on.lt b e).1; have := h.l1; omega
  have hl2 := h.l2
  have hB2 := h.b.hB
  refine ⟨ha, h.b.keep (hf.k _ (heap_lt h.b.hb) (fun e => by have := hlo _ e; omega)) (fun b e => hf.k b (h.b.tr.lt b e).2 (fun q => by have := hlo _ q; have := (h.b.tr.lt b e).1; omega)) (fun b e => hf.k b (h.b.on.lt b e).2 (fun q => by have := hlo _ q; have := (h.b.on.lt b e).1; omega)), h.w.trans (hf.below h.w.size hhi), h.l1, h.l2⟩
theorem Duo.stepb {W wr w' : World} {Z : Zn} {B1 g1 B2 g2 : Nat} {v1 o1 v2 o2 : Value} {s1 s2 s' : Hs} (h : Duo W wr Z B1 g1 B2 g2 v1 o1 v2 o2 s1 s2) (hb : Wt w' B2 g2 Z v2 o2 s') (hf : Fr wr.heap.size (fun b => b = g2 ∨ o2.ownBlock = some b) wr w') : Duo W w' Z B1 g1 B2 g2 v1 o1 v2 o2 s1 s' := by
  have hhi : ∀ b, (b = g2 ∨ o2.ownBlock = some b) → g1 < b := fun b e => by
    have := h.l2
    rcases e with e | e
    · have := h.b.hB; omega
    · have := (h.b.on.lt b e).1; omega
  have hlo := h.a.hB
  have hl1 := h.l1
  refine ⟨h.a.keep (hf.k _ (heap_lt h.a.hb) (fun e => by have := hhi _ e; omega)) (fun b e => hf.k b (h.a.tr.lt b e).2 (fun q => by have := hhi _ q; have := h.a.vg b e; omega)) (fun b e => hf.k b (h.a.on.lt b e).2 (fun q => by have := hhi _ q; have := (h.a.og b e).1; omega)), hb, h.w.trans (hf.below h.w.size (fun b e => by have := hhi b e; omega)), h.l1, h.l2⟩
theorem Duo.below {W wr w' : World} {Z : Zn} {B1 g1 B2 g2 : Nat} {v1 o1 v2 o2 : Value} {s1 s2 : Hs} (h : Duo W wr Z B1 g1 B2 g2 v1 o1 v2 o2 s1 s2) (hb : Below wr.heap.size wr w') : Duo W w' Z B1 g1 B2 g2 v1 o1 v2 o2 s1 s2 :=
  ⟨h.a.below hb, h.b.below hb, h.w.trans (hb.mono h.w.size), h.l1, h.l2⟩
theorem Duo.above {W wr w' : World} {Z : Zn} {B1 g1 B2 g2 : Nat} {v1 o1 v2 o2 : Value} {s1 s2 : Hs} (h : Duo W wr Z B1 g1 B2 g2 v1 o1 v2 o2 s1 s2) (hb : Below (g2 + 1) wr w') : Duo W w' Z B1 g1 B2 g2 v1 o1 v2 o2 s1 s2 := by
  have e1 := h.l1
  have e2 := h.l2
  have e3 := h.a.hB
  have e4 := h.b.hB
  refine ⟨h.a.keep (hb.block _ (by omega)) (fun b e => hb.block _ (by have := h.a.vg b e; omega)) (fun b e => hb.block _ (by have := (h.a.og b e).1; omega)), h.b.keep (hb.block _ (by omega)) (fun b e => hb.block _ (by have := h.b.vg b e; omega)) (fun b e => hb.block _ (by have := (h.b.og b e).1; omega)), h.w.trans (hb.mono (by omega)), h.l1, h.l2⟩
theorem Duo.lt {W wr : World} {Z : Zn} {B1 g1 B2 g2 : Nat} {v1 o1 v2 o2 : Value} {s1 s2 : Hs} (h : Duo W wr Z B1 g1 B2 g2 v1 o1 v2 o2 s1 s2) : g2 < wr.heap.size ∧ g1 < g2 := ⟨heap_lt h.b.hb, Nat.lt_of_lt_of_le h.l2 h.b.hB⟩
/-- what a step tells, in memory behind g -/
def Tm (w : World) (g : Nat) (t : Tl) (p : Value) : Prop :=
  ∃ P A cc, p = .pointer (some ⟨P, 0, none⟩) ∧ g < P ∧ w.heap[P]? = some (.cells (sarr t.d t.br t.lv t.sh (.slice A t.ev.length cc)) 26) ∧ Own w (g + 1) 75 2 (t.ev.map erow) (.slice A t.ev.length cc)
theorem Tm.keep {w w' : World} {g : Nat} {t : Tl} {p : Value} (h : Tm w g t p) (hk : ∀ b, g < b → b < w.heap.size → w'.heap[b]? = w.heap[b]?) : Tm w' g t p := by
  obtain ⟨P, A, cc, rfl, h1, h2, h3⟩ := h
  exact ⟨P, A, cc, rfl, h1, (hk P h1 (heap_lt h2)).trans h2, h3.keep fun b e => hk b (h3.lt b e).1 (h3.lt b e).2⟩
def z37 : Array Value := #[.float .f64 0, .bool false, .int .i64 0, .bool false, .slice none 0 0]
theorem rows37 {w : World} {P : Nat} {a b c d e : Value} (h : w.heap[P]? = some (.cells #[a, b, c, d, e] 26)) :
    w.cell? ⟨P, 0, none⟩ = some a ∧ w.cell? ⟨P, 1, none⟩ = some b ∧ w.cell? ⟨P, 2, none⟩ = some c ∧ w.cell? ⟨P, 3, none⟩ = some d ∧ w.cell? ⟨P, 4, none⟩ = some e ∧
    w.frozen? ⟨P, 0, none⟩ = false ∧ w.frozen? ⟨P, 1, none⟩ = false ∧ w.frozen? ⟨P, 2, none⟩ = false ∧ w.frozen? ⟨P, 3, none⟩ = false ∧ w.frozen? ⟨P, 4, none⟩ = false := by
  refine ⟨?_, ?_, ?_, ?_, ?_, frozen_row h 0, frozen_row h 1, frozen_row h 2, frozen_row h 3, frozen_row h 4⟩
  · rw [cell_of_row _ _ 0 _ 26 (0, 0) h]; rfl
  · rw [cell_of_row _ _ 1 _ 26 (0, 0) h]; rfl
  · rw [cell_of_row _ _ 2 _ 26 (0, 0) h]; rfl
  · rw [cell_of_row _ _ 3 _ 26 (0, 0) h]; rfl
  · rw [cell_of_row _ _ 4 _ 26 (0, 0) h]; rfl
theorem fin_a {W w6 : World} {Z : Zn} {B1 g1 B2 g2 B n c td : Nat} {tb ts : Bool} {tl : Int} {te : List (Nat × Bool)} {A : Option Addr} {v1 o1 v2 o2 : Value} {s1 s2 : Hs} (hD : Duo W w6 Z B1 g1 B2 g2 v1 o1 v2 o2 s1 s2) (hO : Own w6 B 75 2 (te.map erow) (.slice A n c)) (hB : g2 < B) (hn : te.length = n) :
    Tm (w6.alloc (.cells #[.float .f64 td, .bool tb, .int .i64 tl, .bool ts, .slice A n c] 26)) g2 ⟨td, tb, tl, ts, te⟩ (.pointer (some ⟨w6.heap.size, 0, none⟩)) ∧ Duo W (w6.alloc (.cells #[.float .f64 td, .bool tb, .int .i64 tl, .bool ts, .slice A n c] 26)) Z B1 g1 B2 g2 v1 o1 v2 o2 s1 s2 := by
  subst hn
  exact ⟨⟨_, A, c, rfl, hD.lt.1, heap_alloc_at _ _, (hO.alloc _).mono hB⟩, hD.below (below_al (Below.refl _ _) _)⟩
theorem fin_b {W w6 : World} {Z : Zn} {B1 g1 B2 g2 B n c td P : Nat} {tb ts : Bool} {tl : Int} {te : List (Nat × Bool)} {A : Option Addr} {v1 o1 v2 o2 : Value} {s1 s2 : Hs} (hD : Duo W w6 Z B1 g1 B2 g2 v1 o1 v2 o2 s1 s2) (hO : Own w6 B 75 2 (te.map erow) (.slice A n c)) (hP : g2 < P) (hB : P < B) (hn : te.length = n) (hr : w6.heap[P]? = some (.cells z37 26)) :
    Tm (((((w6.setCell ⟨P, 0, none⟩ (.float .f64 td)).setCell ⟨P, 1, none⟩ (.bool tb)).setCell ⟨P, 2, none⟩ (.int .i64 tl)).setCell ⟨P, 3, none⟩ (.bool ts)).setCell ⟨P, 4, none⟩ (.slice A n c)) g2 ⟨td, tb, tl, ts, te⟩ (.pointer (some ⟨P, 0, none⟩)) ∧
    Duo W (((((w6.setCell ⟨P, 0, none⟩ (.float .f64 td)).setCell ⟨P, 1, none⟩ (.bool tb)).setCell ⟨P, 2, none⟩ (.int .i64 tl)).setCell ⟨P, 3, none⟩ (.bool ts)).setCell ⟨P, 4, none⟩ (.slice A n c)) Z B1 g1 B2 g2 v1 o1 v2 o2 s1 s2 := by
  subst hn
  have hb : Below P w6 (((((w6.setCell ⟨P, 0, none⟩ (.float .f64 td)).setCell ⟨P, 1, none⟩ (.bool tb)).setCell ⟨P, 2, none⟩ (.int .i64 tl)).setCell ⟨P, 3, none⟩ (.bool ts)).setCell ⟨P, 4, none⟩ (.slice A te.length c)) :=
    (((((Below.refl P w6).setCell (Nat.le_refl _) _).setCell (Nat.le_refl _) _).setCell (Nat.le_refl _) _).setCell (Nat.le_refl _) _).setCell (Nat.le_refl _) _
  refine ⟨⟨_, A, c, rfl, hP, heap_set (heap_set (heap_set (heap_set (heap_set hr 0 _) 1 _) 2 _) 3 _) 4 _, (hO.keep fun b e => ?_).mono (show g2 + 1 ≤ B by omega)⟩, hD.above (hb.mono hP)⟩
  have := (hO.lt b e).1
  have hne : b ≠ P := by omega
  rw [Below.heap_setCell _ _ _ b hne, Below.heap_setCell _ _ _ b hne, Below.heap_setCell _ _ _ b hne, Below.heap_setCell _ _ _ b hne, Below.heap_setCell _ _ _ b hne]
end Go.Proofs.YtdjdkhbagoideaaDoor
