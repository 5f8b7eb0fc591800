/- Rails: two sets, and the document's two, side by side in memory. -/
import Derived.Test.YtbbjnhajmckjoaaSame
namespace Go.Proofs.Ytbbjnhajmckjoaa
open Go.RowKit Go.BigFrame Go.Maps

def upd {α : Type} (i : Bool) (x : α) (f : Bool → α) : Bool → α := fun j => if j = i then x else f j
theorem upd_at {α : Type} (i : Bool) (x : α) (f : Bool → α) : upd i x f i = x := if_pos rfl
theorem upd_ne {α : Type} {i j : Bool} (x : α) (f : Bool → α) (h : j ≠ i) : upd i x f j = f j := if_neg h
def StF (w : World) (lo hi st : Int) (G Bm : Bool → Nat) (M : Bool → Hl) (V T : Bool → Int) : Prop := ∀ i, St w (G i) (Bm i) lo hi st (M i) (V i) (T i)
def RtF (S : Nat → Prop) (w : World) (lo hi st : Int) (R : Bool → Nat) (A : Bool → Option Addr) (C : Bool → Nat) (M : Bool → Hl) (V T : Bool → Int) : Prop := ∀ i, Rt S w (R i) (A i) (C i) lo hi st (M i) (V i) (T i)
theorem St.map_ne {w : World} {g b : Nat} {lo hi st : Int} {m : Hl} {v t : Int} (h : St w g b lo hi st m v t) {x : Nat} {cs : Array Value} {T : TypeId} {fr : Nat × Nat} (hx : w.heap[x]? = some (.cells cs T fr)) : b ≠ x := by
  intro e
  obtain ⟨es, clock, hb, _⟩ := h.o
  rw [e, hx] at hb
  cases hb
theorem StF.ask {w w' : World} {lo hi st : Int} {G Bm : Bool → Nat} {M : Bool → Hl} {V T : Bool → Int} (h : StF w lo hi st G Bm M V T) (i : Bool) (f : Fr w.heap.size (fun x => x = G i) w w') (hG : ∀ j, j ≠ i → G j ≠ G i)
    {b' : Nat} {m' : Hl} {v' t' : Int} (hs : St w' (G i) b' lo hi st m' v' t') : StF w' lo hi st G (upd i b' Bm) (upd i m' M) (upd i v' V) (upd i t' T) := by
  intro j
  by_cases e : j = i
  · subst e
    rw [upd_at, upd_at, upd_at, upd_at]
    exact hs
  · rw [upd_ne _ _ e, upd_ne _ _ e, upd_ne _ _ e, upd_ne _ _ e]
    exact (h j).keep (f.k _ (heap_lt (h j).r) (hG j e)) (f.k _ (h j).o.lt ((h j).map_ne (h i).r))
theorem StF.keep {w w' : World} {lo hi st : Int} {G Bm : Bool → Nat} {M : Bool → Hl} {V T : Bool → Int} (h : StF w lo hi st G Bm M V T) {x : Nat} (f : Fr w.heap.size (fun b => b = x) w w') (hG : ∀ j, G j ≠ x) {cs : Array Value} {Ty : TypeId} {fr : Nat × Nat} (hx : w.heap[x]? = some (.cells cs Ty fr)) : StF w' lo hi st G Bm M V T :=
  fun j => (h j).keep (f.k _ (heap_lt (h j).r) (hG j)) (f.k _ (h j).o.lt ((h j).map_ne hx))
theorem StF.below {w w' : World} {lo hi st : Int} {G Bm : Bool → Nat} {M : Bool → Hl} {V T : Bool → Int} (h : StF w lo hi st G Bm M V T) (d : Below w.heap.size w w') : StF w' lo hi st G Bm M V T := fun j => (h j).below d
theorem RtF.ask {S : Nat → Prop} {w w' : World} {lo hi st : Int} {R : Bool → Nat} {A : Bool → Option Addr} {C : Bool → Nat} {M : Bool → Hl} {V T : Bool → Int} (h : RtF S w lo hi st R A C M V T) (i : Bool) (f : Fr w.heap.size (fun x => x = R i) w w') (hR : ∀ j, j ≠ i → R j ≠ R i)
    {A' : Option Addr} {c' : Nat} {m' : Hl} {v' t' : Int} (hs : Rt S w' (R i) A' c' lo hi st m' v' t') : RtF S w' lo hi st R (upd i A' A) (upd i c' C) (upd i m' M) (upd i v' V) (upd i t' T) := by
  intro j
  by_cases e : j = i
  · subst e
    rw [upd_at, upd_at, upd_at, upd_at, upd_at]
    exact hs
  · rw [upd_ne _ _ e, upd_ne _ _ e, upd_ne _ _ e, upd_ne _ _ e, upd_ne _ _ e]
    exact ⟨(f.k _ (heap_lt (h j).r) (hR j e)).trans (h j).r, (h j).l.keep fun b hb hl => f.k b hl ((h i).s b hb), (h j).s⟩
theorem RtF.keep {S : Nat → Prop} {w w' : World} {lo hi st : Int} {R : Bool → Nat} {A : Bool → Option Addr} {C : Bool → Nat} {M : Bool → Hl} {V T : Bool → Int} (h : RtF S w lo hi st R A C M V T) {x : Nat} (f : Fr w.heap.size (fun b => b = x) w w') (hR : ∀ j, R j ≠ x) (hS : ∀ b, S b → b ≠ x) : RtF S w' lo hi st R A C M V T :=
  fun j => ⟨(f.k _ (heap_lt (h j).r) (hR j)).trans (h j).r, (h j).l.keep fun b hb hl => f.k b hl (hS b hb), (h j).s⟩
theorem RtF.below {S : Nat → Prop} {w w' : World} {lo hi st : Int} {R : Bool → Nat} {A : Bool → Option Addr} {C : Bool → Nat} {M : Bool → Hl} {V T : Bool → Int} (h : RtF S w lo hi st R A C M V T) (d : Below w.heap.size w w') : RtF S w' lo hi st R A C M V T := fun j => (h j).keep fun b hl => d.block b hl
/-- the sets' blocks lie apart -/
structure Apt (S : Nat → Prop) (G R : Bool → Nat) : Prop where
  gg : ∀ i j, j ≠ i → G j ≠ G i
  rr : ∀ i j, j ≠ i → R j ≠ R i
  gr : ∀ i j, G i ≠ R j
  sg : ∀ b, S b → ∀ i, b ≠ G i
  sr : ∀ b, S b → ∀ i, b ≠ R i
end Go.Proofs.Ytbbjnhajmckjoaa
