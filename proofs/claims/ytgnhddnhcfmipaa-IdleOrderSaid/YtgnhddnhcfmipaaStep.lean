/- Idle: an attempt's cells; what a step makes of them. -/
import Derived.Test.YtgnhddnhcfmipaaAtom
import Derived.Deep.RegionHeld3
namespace Go.Proofs.Ytgnhddnhcfmipaa
open Go.RowKit Go.BigFrame

theorem Below.both {B : Nat} {S W : World} (h : Below B S W) (p : Addr) (v : Value) : Below B (S.setCell p v) (W.setCell p v) := by
  refine ⟨h.os, h.tape, h.output, by rw [size_set, size_set]; exact h.size, fun k hk => ?_⟩
  simp only [World.setCell, Array.getElem?_modify, h.block k hk]
/-- an attempt's cells at block b, offset o, and its word at block g -/
structure AC (W : World) (b o g : Nat) (kind now was nxt : Int) (has done : Bool) (code tries d x : Int) : Prop where
  ne : g ≠ b
  c0 : W.cell? ⟨b, o, none⟩ = some (.pointer (some ⟨g, 0, none⟩))
  c1 : W.cell? ⟨b, o + 1, none⟩ = some (.int .u8 kind)
  c2 : W.cell? ⟨b, o + 2, none⟩ = some (.int .i64 now)
  c3 : W.cell? ⟨b, o + 3, none⟩ = some (.int .u64 was)
  c4 : W.cell? ⟨b, o + 4, none⟩ = some (.int .u64 nxt)
  c5 : W.cell? ⟨b, o + 5, none⟩ = some (.bool has)
  c6 : W.cell? ⟨b, o + 6, none⟩ = some (.bool done)
  c7 : W.cell? ⟨b, o + 7, none⟩ = some (.int .i64 code)
  c8 : W.cell? ⟨b, o + 8, none⟩ = some (.int .i64 tries)
  f : ∀ j, W.frozen? ⟨b, o + j, none⟩ = false
  w0 : W.cell? ⟨g, 0, none⟩ = some (.int .i64 d)
  w1 : W.cell? ⟨g, 1, none⟩ = some (.int .u64 x)
  wf : W.frozen? ⟨g, 1, none⟩ = false
theorem frozen_below {B : Nat} {w w' : World} (h : Below B w w') {p : Addr} (hp : p.block < B) : w'.frozen? p = w.frozen? p := by
  unfold World.frozen?
  rw [h.block _ hp]
section
variable {W W' : World} {b o g : Nat} {kind now was nxt : Int} {has done : Bool} {code tries d x : Int}
theorem AC.lt (h : AC W b o g kind now was nxt has done code tries d x) : b < W.heap.size ∧ g < W.heap.size := ⟨cell_lt h.c0, cell_lt h.w0⟩
theorem AC.below {B : Nat} (h : AC W b o g kind now was nxt has done code tries d x) (t : Below B W W') (hb : b < B) (hg : g < B) : AC W' b o g kind now was nxt has done code tries d x :=
  ⟨h.ne, (t.cell (p := ⟨b, o, none⟩) hb).trans h.c0, (t.cell (p := ⟨b, o + 1, none⟩) hb).trans h.c1, (t.cell (p := ⟨b, o + 2, none⟩) hb).trans h.c2, (t.cell (p := ⟨b, o + 3, none⟩) hb).trans h.c3,
    (t.cell (p := ⟨b, o + 4, none⟩) hb).trans h.c4, (t.cell (p := ⟨b, o + 5, none⟩) hb).trans h.c5, (t.cell (p := ⟨b, o + 6, none⟩) hb).trans h.c6, (t.cell (p := ⟨b, o + 7, none⟩) hb).trans h.c7,
    (t.cell (p := ⟨b, o + 8, none⟩) hb).trans h.c8, fun j => (frozen_below t (p := ⟨b, o + j, none⟩) hb).trans (h.f j), (t.cell (p := ⟨g, 0, none⟩) hg).trans h.w0, (t.cell (p := ⟨g, 1, none⟩) hg).trans h.w1,
    (frozen_below t (p := ⟨g, 1, none⟩) hg).trans h.wf⟩
theorem AC.drew (h : AC W b o g kind now was nxt has done code tries d x) : AC W.drew b o g kind now was nxt has done code tries d x := h.below (Below.refl _ _).drew h.lt.1 h.lt.2
theorem AC.al (h : AC W b o g kind now was nxt has done code tries d x) (y : Obj) : AC (W.alloc y) b o g kind now was nxt has done code tries d x := h.below (below_al (Below.refl _ _) y) h.lt.1 h.lt.2
theorem AC.on (h : AC W b o g kind now was nxt has done code tries d x) (t : Below W.heap.size W W') : AC W' b o g kind now was nxt has done code tries d x := h.below t h.lt.1 h.lt.2
theorem cell_off {b i j : Nat} {v : Value} (h : i ≠ j) : (W.setCell ⟨b, i, none⟩ v).cell? ⟨b, j, none⟩ = W.cell? ⟨b, j, none⟩ := by
  refine World.cell?_setCell_other (h := ?_) ..
  intro e
  injection e
  contradiction
theorem cell_blk {b c i j : Nat} {v : Value} (h : b ≠ c) : (W.setCell ⟨b, i, none⟩ v).cell? ⟨c, j, none⟩ = W.cell? ⟨c, j, none⟩ := by
  refine World.cell?_setCell_other (h := ?_) ..
  intro e
  injection e
  contradiction
theorem AC.set3 (h : AC W b o g kind now was nxt has done code tries d x) (v : Int) : AC (W.setCell ⟨b, o + 3, none⟩ (.int .u64 v)) b o g kind now v nxt has done code tries d x :=
  ⟨h.ne, (cell_off (by omega)).trans h.c0, (cell_off (by omega)).trans h.c1, (cell_off (by omega)).trans h.c2, World.cell?_setCell_same _ _ _ h.c3, (cell_off (by omega)).trans h.c4, (cell_off (by omega)).trans h.c5, (cell_off (by omega)).trans h.c6, (cell_off (by omega)).trans h.c7, (cell_off (by omega)).trans h.c8, fun j => by rw [World.frozen?_setCell]; exact h.f j, (cell_blk h.ne.symm).trans h.w0, (cell_blk h.ne.symm).trans h.w1, by rw [World.frozen?_setCell]; exact h.wf⟩
theorem AC.set4 (h : AC W b o g kind now was nxt has done code tries d x) (v : Int) : AC (W.setCell ⟨b, o + 4, none⟩ (.int .u64 v)) b o g kind now was v has done code tries d x :=
  ⟨h.ne, (cell_off (by omega)).trans h.c0, (cell_off (by omega)).trans h.c1, (cell_off (by omega)).trans h.c2, (cell_off (by omega)).trans h.c3, World.cell?_setCell_same _ _ _ h.c4, (cell_off (by omega)).trans h.c5, (cell_off (by omega)).trans h.c6, (cell_off (by omega)).trans h.c7, (cell_off (by omega)).trans h.c8, fun j => by rw [World.frozen?_setCell]; exact h.f j, (cell_blk h.ne.symm).trans h.w0, (cell_blk h.ne.symm).trans h.w1, by rw [World.frozen?_setCell]; exact h.wf⟩
theorem AC.set5 (h : AC W b o g kind now was nxt has done code tries d x) (v : Bool) : AC (W.setCell ⟨b, o + 5, none⟩ (.bool v)) b o g kind now was nxt v done code tries d x :=
  ⟨h.ne, (cell_off (by omega)).trans h.c0, (cell_off (by omega)).trans h.c1, (cell_off (by omega)).trans h.c2, (cell_off (by omega)).trans h.c3, (cell_off (by omega)).trans h.c4, World.cell?_setCell_same _ _ _ h.c5, (cell_off (by omega)).trans h.c6, (cell_off (by omega)).trans h.c7, (cell_off (by omega)).trans h.c8, fun j => by rw [World.frozen?_setCell]; exact h.f j, (cell_blk h.ne.symm).trans h.w0, (cell_blk h.ne.symm).trans h.w1, by rw [World.frozen?_setCell]; exact h.wf⟩
theorem AC.set6 (h : AC W b o g kind now was nxt has done code tries d x) (v : Bool) : AC (W.setCell ⟨b, o + 6, none⟩ (.bool v)) b o g kind now was nxt has v code tries d x :=
  ⟨h.ne, (cell_off (by omega)).trans h.c0, (cell_off (by omega)).trans h.c1, (cell_off (by omega)).trans h.c2, (cell_off (by omega)).trans h.c3, (cell_off (by omega)).trans h.c4, (cell_off (by omega)).trans h.c5, World.cell?_setCell_same _ _ _ h.c6, (cell_off (by omega)).trans h.c7, (cell_off (by omega)).trans h.c8, fun j => by rw [World.frozen?_setCell]; exact h.f j, (cell_blk h.ne.symm).trans h.w0, (cell_blk h.ne.symm).trans h.w1, by rw [World.frozen?_setCell]; exact h.wf⟩
theorem AC.set7 (h : AC W b o g kind now was nxt has done code tries d x) (v : Int) : AC (W.setCell ⟨b, o + 7, none⟩ (.int .i64 v)) b o g kind now was nxt has done v tries d x :=
  ⟨h.ne, (cell_off (by omega)).trans h.c0, (cell_off (by omega)).trans h.c1, (cell_off (by omega)).trans h.c2, (cell_off (by omega)).trans h.c3, (cell_off (by omega)).trans h.c4, (cell_off (by omega)).trans h.c5, (cell_off (by omega)).trans h.c6, World.cell?_setCell_same _ _ _ h.c7, (cell_off (by omega)).trans h.c8, fun j => by rw [World.frozen?_setCell]; exact h.f j, (cell_blk h.ne.symm).trans h.w0, (cell_blk h.ne.symm).trans h.w1, by rw [World.frozen?_setCell]; exact h.wf⟩
theorem AC.set8 (h : AC W b o g kind now was nxt has done code tries d x) (v : Int) : AC (W.setCell ⟨b, o + 8, none⟩ (.int .i64 v)) b o g kind now was nxt has done code v d x :=
  ⟨h.ne, (cell_off (by omega)).trans h.c0, (cell_off (by omega)).trans h.c1, (cell_off (by omega)).trans h.c2, (cell_off (by omega)).trans h.c3, (cell_off (by omega)).trans h.c4, (cell_off (by omega)).trans h.c5, (cell_off (by omega)).trans h.c6, (cell_off (by omega)).trans h.c7, World.cell?_setCell_same _ _ _ h.c8, fun j => by rw [World.frozen?_setCell]; exact h.f j, (cell_blk h.ne.symm).trans h.w0, (cell_blk h.ne.symm).trans h.w1, by rw [World.frozen?_setCell]; exact h.wf⟩
theorem AC.setw (h : AC W b o g kind now was nxt has done code tries d x) (v : Int) : AC (W.setCell ⟨g, 1, none⟩ (.int .u64 v)) b o g kind now was nxt has done code tries d v :=
  ⟨h.ne, (cell_blk h.ne).trans h.c0, (cell_blk h.ne).trans h.c1, (cell_blk h.ne).trans h.c2, (cell_blk h.ne).trans h.c3, (cell_blk h.ne).trans h.c4, (cell_blk h.ne).trans h.c5, (cell_blk h.ne).trans h.c6, (cell_blk h.ne).trans h.c7, (cell_blk h.ne).trans h.c8, fun j => by rw [World.frozen?_setCell]; exact h.f j, (cell_off (by omega)).trans h.w0, World.cell?_setCell_same _ _ _ h.w1, by rw [World.frozen?_setCell]; exact h.wf⟩
theorem AC.far (h : AC W b o g kind now was nxt has done code tries d x) {p : Addr} (hb : p.block ≠ b) (hg : p.block ≠ g) (v : Value) : AC (W.setCell p v) b o g kind now was nxt has done code tries d x := by
  have e : ∀ c j, p.block ≠ c → (W.setCell p v).cell? ⟨c, j, none⟩ = W.cell? ⟨c, j, none⟩ := fun c j hc => World.cell?_setCell_far W p ⟨c, j, none⟩ v hc
  exact ⟨h.ne, (e _ _ hb).trans h.c0, (e _ _ hb).trans h.c1, (e _ _ hb).trans h.c2, (e _ _ hb).trans h.c3, (e _ _ hb).trans h.c4, (e _ _ hb).trans h.c5, (e _ _ hb).trans h.c6, (e _ _ hb).trans h.c7, (e _ _ hb).trans h.c8, fun j => by rw [World.frozen?_setCell]; exact h.f j, (e _ _ hg).trans h.w0, (e _ _ hg).trans h.w1, by rw [World.frozen?_setCell]; exact h.wf⟩
theorem AC.far4 (h : AC W b o g kind now was nxt has done code tries d x) {n : Nat} (hb : n ≠ b) (hg : n ≠ g) (v0 v1 v2 v3 : Value) : AC ((((W.setCell ⟨n, 0, none⟩ v0).setCell ⟨n, 1, none⟩ v1).setCell ⟨n, 2, none⟩ v2).setCell ⟨n, 3, none⟩ v3) b o g kind now was nxt has done code tries d x :=
  (((h.far (p := ⟨n, 0, none⟩) hb hg v0).far (p := ⟨n, 1, none⟩) hb hg v1).far (p := ⟨n, 2, none⟩) hb hg v2).far (p := ⟨n, 3, none⟩) hb hg v3
end
/-- a new view's cells -/
structure Z4 (W : World) (n : Nat) : Prop where
  r : W.heap[n]? = some (.cells #[.int .i64 0, .bool false, .int .i64 0, .int .i64 0] 38)
theorem Z4.new (W : World) : Z4 (W.alloc (.cells #[.int .i64 0, .bool false, .int .i64 0, .int .i64 0] 38)) W.heap.size := ⟨heap_alloc_at _ _⟩
theorem Z4.newd (W : World) : Z4 (W.alloc (.cells #[.int .i64 0, .bool false, .int .i64 0, .int .i64 0] 38)).drew W.heap.size := ⟨heap_alloc_at _ _⟩
theorem Z4.on {W W' : World} {n : Nat} (h : Z4 W n) (t : Below W.heap.size W W') : Z4 W' n := ⟨(t.block n (heap_lt h.r)).trans h.r⟩
theorem Z4.all {W : World} {n : Nat} (h : Z4 W n) : W.cell? ⟨n, 0, none⟩ = some (.int .i64 0) ∧ W.cell? ⟨n, 1, none⟩ = some (.bool false) ∧ W.cell? ⟨n, 2, none⟩ = some (.int .i64 0) ∧ W.cell? ⟨n, 3, none⟩ = some (.int .i64 0) ∧
    W.frozen? ⟨n, 0, none⟩ = false ∧ W.frozen? ⟨n, 1, none⟩ = false ∧ W.frozen? ⟨n, 2, none⟩ = false ∧ W.frozen? ⟨n, 3, none⟩ = false :=
  ⟨cell_of_row _ _ 0 _ 38 (0, 0) h.r, cell_of_row _ _ 1 _ 38 (0, 0) h.r, cell_of_row _ _ 2 _ 38 (0, 0) h.r, cell_of_row _ _ 3 _ 38 (0, 0) h.r, frozen_row h.r _, frozen_row h.r _, frozen_row h.r _, frozen_row h.r _⟩
/-- the view at block n -/
theorem Z4.put {W : World} {n : Nat} (h : Z4 W n) (v0 v1 v2 v3 : Value) : ((((W.setCell ⟨n, 0, none⟩ v0).setCell ⟨n, 1, none⟩ v1).setCell ⟨n, 2, none⟩ v2).setCell ⟨n, 3, none⟩ v3).heap[n]? = some (.cells #[v0, v1, v2, v3] 38) := by
  have h1 := heap_set h.r 0 v0
  have h2 := heap_set h1 1 v1
  have h3 := heap_set h2 2 v2
  have h4 := heap_set h3 3 v3
  exact h4
theorem below_four {B : Nat} {S W : World} (h : Below B S W) {n : Nat} (hn : B ≤ n) (v0 v1 v2 v3 : Value) : Below B S ((((W.setCell ⟨n, 0, none⟩ v0).setCell ⟨n, 1, none⟩ v1).setCell ⟨n, 2, none⟩ v2).setCell ⟨n, 3, none⟩ v3) :=
  (((h.setCell (p := ⟨n, 0, none⟩) hn v0).setCell (p := ⟨n, 1, none⟩) hn v1).setCell (p := ⟨n, 2, none⟩) hn v2).setCell (p := ⟨n, 3, none⟩) hn v3
end Go.Proofs.Ytgnhddnhcfmipaa
