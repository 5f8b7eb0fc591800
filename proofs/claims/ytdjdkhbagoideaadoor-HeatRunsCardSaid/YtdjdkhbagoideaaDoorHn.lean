/- Heat: what is left as it was; a watch in memory; New; walked. -/
import Derived.Test.YtdjdkhbagoideaaDoorHc
import Derived.Laws.CopyOwn
import Derived.Deep.RegionLaw
namespace Go.Proofs.YtdjdkhbagoideaaDoor
open Go.RowKit Go.BigFrame flt

/-- below H, what is not in S is as it was -/
structure Fr (H : Nat) (S : Nat → Prop) (w w' : World) : Prop where
  g : Below 0 w w'
  k : ∀ b, b < H → ¬ S b → w'.heap[b]? = w.heap[b]?
theorem Fr.refl (H : Nat) (S : Nat → Prop) (w : World) : Fr H S w w := ⟨Below.refl _ _, fun _ _ _ => rfl⟩
theorem Fr.trans {H : Nat} {S : Nat → Prop} {a b c : World} (h : Fr H S a b) (k : Fr H S b c) : Fr H S a c := ⟨h.g.trans k.g, fun x h1 h2 => (k.k x h1 h2).trans (h.k x h1 h2)⟩
theorem Fr.of {H : Nat} {S : Nat → Prop} {w w' : World} (h : Below H w w') : Fr H S w w' := ⟨h.mono (Nat.zero_le _), fun b hb _ => h.block b hb⟩
theorem Fr.mono {H H' : Nat} {S S' : Nat → Prop} {w w' : World} (h : Fr H S w w') (hH : H' ≤ H) (hS : ∀ b, b < H' → S b → S' b) : Fr H' S' w w' := ⟨h.g, fun b hb hn => h.k b (by omega) (fun q => hn (hS b hb q))⟩
theorem Fr.set {H : Nat} {S : Nat → Prop} {w w' : World} (h : Fr H S w w') {p : Addr} (hp : p.block < H → S p.block) (v : Value) : Fr H S w (w'.setCell p v) :=
  ⟨h.g.setCell (Nat.zero_le _) v, fun b hb hn => by
    rw [Below.heap_setCell w' p v b (fun e => hn (by rw [e] at hb ⊢; exact hp hb))]
    exact h.k b hb hn⟩
theorem Fr.drewN {H : Nat} {S : Nat → Prop} {w w' : World} (h : Fr H S w w') (n : Nat) : Fr H S w (w'.drewN n) := ⟨below_drewN' h.g n, h.k⟩
theorem Fr.drawn {H : Nat} {S : Nat → Prop} {w w' w'' : World} (h : Fr H S w w') (d : Drawn w' w'') : Fr H S w w'' := ⟨d.after h.g, fun b hb hn => by rw [d.heap]; exact h.k b hb hn⟩
theorem Fr.size {H : Nat} {S : Nat → Prop} {w w' : World} (h : Fr H S w w') : w.heap.size ≤ w'.heap.size := h.g.size
theorem Fr.below {H B : Nat} {S : Nat → Prop} {w w' : World} (h : Fr H S w w') (hH : B ≤ H) (hS : ∀ b, S b → B ≤ b) : Below B w w' :=
  ⟨h.g.os, h.g.tape, h.g.output, h.g.size, fun b hb => h.k b (by omega) (fun q => by have := hS b q; omega)⟩
theorem Fr.grown {H : Nat} {S : Nat → Prop} {w w1 w' : World} {row : Option Nat} (h : Fr H S w w1) (hH : H ≤ w1.heap.size) (hg : w1.grownBy w' row) (hr : ∀ k, row = some k → k < H → S k) : Fr H S w w' :=
  ⟨h.g.grown hg (Nat.zero_le _) (fun _ _ => Nat.zero_le _), fun b hb hn => (hg.block b (by omega) (fun e => hn (hr b e.symm hb))).trans (h.k b hb hn)⟩
def orow (b : Bool) : List Value := [.bool b]
def warr (Z : Zn) (v vo : Value) (s : Hs) : Array Value := #[.float .f64 Z.al, .float .f64 Z.tg, .float .f64 Z.kp, .float .f64 Z.ki, .float .f64 Z.cap, .int .i64 Z.mo, v, .float .f64 s.h, .bool s.felt, vo, .float .f64 s.sum, .int .i64 s.lv, .bool s.sh]
/-- a watch in memory: its block g, its trips, which are on -/
structure Wt (W : World) (B g : Nat) (Z : Zn) (v vo : Value) (s : Hs) : Prop where
  hb : W.heap[g]? = some (.cells (warr Z v vo s) 65)
  tr : Own W B 36 3 (Z.tr.map tprow) v
  on : Own W B 4 1 (s.on.map orow) vo
  hB : B ≤ g
  vg : ∀ b, v.ownBlock = some b → b < g
  og : ∀ b, vo.ownBlock = some b → b < g ∧ v.ownBlock ≠ some b
theorem Wt.keep {W W' : World} {B g : Nat} {Z : Zn} {v vo : Value} {s : Hs} (h : Wt W B g Z v vo s) (h1 : W'.heap[g]? = W.heap[g]?) (h2 : ∀ b, v.ownBlock = some b → W'.heap[b]? = W.heap[b]?) (h3 : ∀ b, vo.ownBlock = some b → W'.heap[b]? = W.heap[b]?) : Wt W' B g Z v vo s :=
  ⟨h1.trans h.hb, h.tr.keep h2, h.on.keep h3, h.hB, h.vg, h.og⟩
theorem Wt.below {W W' : World} {B g : Nat} {Z : Zn} {v vo : Value} {s : Hs} (h : Wt W B g Z v vo s) (d : Below W.heap.size W W') : Wt W' B g Z v vo s :=
  h.keep (d.block _ (heap_lt h.hb)) (fun b hb => d.block _ (h.tr.lt b hb).2) (fun b hb => d.block _ (h.on.lt b hb).2)
theorem Wt.drawn {W W' : World} {B g : Nat} {Z : Zn} {v vo : Value} {s : Hs} (h : Wt W B g Z v vo s) (d : Drawn W W') : Wt W' B g Z v vo s := h.below (d.below _)
def hs0 (n : Nat) : Hs := ⟨0, false, List.replicate n false, 0, 0, false⟩
theorem el28 : Elt Tryd.prog 32 36 3 24 := Elt.of (z := .agg #[.float .f64 0, .float .f64 0, .int .u8 0]) Tryd.underlying32 (by kernel_rfl) rfl (by decide) (by decide)
theorem one_tps (l : List Tp) : ∀ r ∈ l.map tprow, ∀ u ∈ r, u.oneCell' = true := by
  intro r hr u hu
  obtain ⟨n, _, rfl⟩ := List.mem_map.1 hr
  simp only [tprow, List.mem_cons, List.not_mem_nil, or_false] at hu
  rcases hu with rfl | rfl | rfl <;> rfl
set_option maxHeartbeats 1000000 in
theorem clone_any (l : List Tp) (b o n c : Nat) (W : World) (h : Tps W (some ⟨b, o, none⟩) l) (hn : l.length = n) (hs : n ≤ 8) :
    Calls Tryd.prog 28 #[.slice (some ⟨b, o, none⟩) n c] W fun e w' => ∃ v, e = .returned v ∧ Own w' W.heap.size 36 3 (l.map tprow) v ∧ Below W.heap.size W w' := by
  have hsl : Hid (n = (l.map tprow).length) := Lib.hid (by rw [List.length_map]; exact hn.symm)
  have hle : Hid (((([] : List (List Value)).length + (l.map tprow).length) * 24 ≤ 140737488355328)) := Lib.hid (by rw [List.length_map, hn, List.length_nil]; omega)
  clear hn
  have hq : ∀ W, (binOp .eql 32 (.slice (some ⟨b, o, none⟩) n c) (.slice none 0 0)).run Tryd.prog W = .ok (.bool false) W := fun W => by kernel_rfl
  go_enter Tryd.func28, Tryd.ntmps28
  go_wp2_with (at_builtin; refine wpList_app_any el28 rfl _ _ rfl rfl (Own.lit (w := W) (base := W.heap.size) (e := 36) (size := 3) (xs := []) #[] 0 rfl rfl (by simp) (Nat.le_refl _) (by decide)) (some ⟨b, o, none⟩) c n hsl.out rfl (fun h => by cases h) (Sl.alloc h _) (one_tps l) hle.out (by rw [size_al]; omega) ?_; intro vp w2 hx hb2 hs2 _ _)
  go_ret
  exact ⟨_, rfl, by simpa using hx, (below_al (Below.refl _ _) _).trans hb2⟩
def mk (z : Value) (s n : Nat) : Array Value := madeCells z.cells (n * s)
set_option maxRecDepth 100000 in
theorem made_of {t e : TypeId} {z : Value} {s bytes : Nat} (u : Tryd.prog.underlying t = some (.slice e)) (hi : (Tryd.prog.info? e).map (fun i => (i.zero, i.size, i.bytes)) = some (some z, s, bytes)) {n : Nat} (hb : bytes * n ≤ 281474976710656) (hn : n ≤ 9223372036854775807) (W : World) :
    (Instr.makeSlice t (.int .i64 n) (.int .i64 n)).run Tryd.prog W = .ok (.slice (some ⟨W.heap.size, 0, none⟩) n n) (W.alloc (.cells (mk z s n) e)) := by
  obtain ⟨i0, hi0, hz0, hz1, hz2⟩ := info_parts hi
  have := run_make (P := Tryd.prog) W t e i0 z u hi0 hz0 .i64 .i64 n n (by omega) (by omega) (by rw [hz2]; omega) (by omega)
  rw [hz1] at this
  unfold mk
  simpa using this
set_option maxHeartbeats 4000000 in
set_option maxRecDepth 100000 in
theorem new_no (Z : Zn) (A : Option Addr) (c n : Nat) (W : World) (hT : Tps W A Z.tr) (hn : Z.tr.length = n) (ho : okZ Z = false) :
    Calls Tryd.prog 6 #[.agg (zarr Z (.slice A n c))] W fun e w' => e = .returned (.tuple #[.pointer none, .int .i64 270]) ∧ Below W.heap.size W w' := by
  have K := fun (X : World) (q : Below W.heap.size W X) => check_any Z A c X (hT.below q)
  rw [hn, ho] at K
  simp only [Bool.false_eq_true, if_false, zarr] at K
  unfold zarr
  obtain ⟨al, tg, kp, ki, cap, mo, tr⟩ := Z
  simp only at *
  clear hT hn ho
  have hx := heap_alloc_at W (.cells #[.float .f64 al, .float .f64 tg, .float .f64 kp, .float .f64 ki, .float .f64 cap, .int .i64 mo, .slice A n c] 34)
  have hb := below_al (Below.refl W.heap.size W) (.cells #[.float .f64 al, .float .f64 tg, .float .f64 kp, .float .f64 ki, .float .f64 cap, .int .i64 mo, .slice A n c] 34)
  go_enter Tryd.func6, Tryd.ntmps6
  go_wp2_with (first
    | (refine wpList_load_row rfl 34 _ rfl W.heap.size rfl 34 _ (0, 0) _ hx Tryd.underlying34 rfl (by kernel_rfl) ?_)
    | (go_at_call 9; (with_reducible refine (K _ hb).mono ?_); rintro e w1 ⟨rfl, hb1⟩))
  go_ret2
  exact ⟨rfl, hb.trans (hb1.mono hb.size)⟩
theorem made_rows (z : Array Value) (n : Nat) : (madeCells z (n * z.size)).toList = (List.replicate n z.toList).flatten := by
  induction n with
  | zero => simp [madeCells]
  | succ n ih =>
    rw [List.replicate_succ', List.flatten_append, ← ih]
    unfold madeCells
    rw [Nat.succ_mul]
    simp only [Array.toList_map, Array.toList_range, List.range_add, List.map_append, List.map_map, List.flatten_cons, List.flatten_nil, List.append_nil]
    congr 1
    apply List.ext_getElem (by simp)
    intro i h1 h2
    have hi : i < z.size := by simpa using h2
    simp only [List.getElem_map, List.getElem_range, Function.comp]
    rw [Nat.mul_add_mod_self_right, Nat.mod_eq_of_lt hi]
    simp [hi]
theorem own_made {W : World} {B g n : Nat} {e : TypeId} {z : Array Value} (hg : W.heap[g]? = some (.cells (madeCells z (n * z.size)) e)) (hB : B ≤ g) (hn : n ≤ maxLen) : Own W B e z.size (List.replicate n z.toList) (.slice (some ⟨g, 0, none⟩) n n) := by
  have hl : (List.replicate n z.toList).length = n := List.length_replicate
  refine ⟨⟨by rw [List.length_flatten, List.map_replicate, List.sum_replicate_nat, hl, Array.length_toList], .inr ⟨g, n, _, by rw [hl], hB, hg, by rw [hl]; exact Nat.le_refl _, hn, size_madeCells _ _, ?_⟩⟩, fun r hr => ?_⟩
  · rw [hl, ← made_rows, List.take_of_length_le (by rw [Array.length_toList, size_madeCells]; exact Nat.le_refl _)]
  · rw [(List.mem_replicate.1 hr).2, Array.length_toList]
theorem rep_map {α : Type} (f : α → List Value) (x : α) (n : Nat) : (List.replicate n x).map f = List.replicate n (f x) := by simp
theorem own_form0 {w : World} {base : Nat} {e : TypeId} {size : Nat} {xs : List (List Value)} {v : Value} (h : Own w base e size xs v) (hp : 0 < xs.length) : ∃ g c, v = .slice (some ⟨g, 0, none⟩) xs.length c ∧ base ≤ g ∧ g < w.heap.size := by
  obtain ⟨g, c, e, _, h2, _⟩ := h.form hp
  exact ⟨g, c, e, (h.lt g (by rw [e]; rfl)).1, (h.lt g (by rw [e]; rfl)).2⟩
theorem wt_new {W w3 : World} {Z : Zn} {gv cv n : Nat} (hb : Below W.heap.size W w3) (hv : Own w3 W.heap.size 36 3 (Z.tr.map tprow) (.slice (some ⟨gv, 0, none⟩) n cv)) (hn : n ≤ maxLen) :
    Wt ((w3.alloc (.cells (mk (.bool false) 1 n) 4)).alloc (.cells (warr Z (.slice (some ⟨gv, 0, none⟩) n cv) (.slice (some ⟨w3.heap.size, 0, none⟩) n n) (hs0 n)) 65)) W.heap.size (w3.heap.size + 1) Z (.slice (some ⟨gv, 0, none⟩) n cv) (.slice (some ⟨w3.heap.size, 0, none⟩) n n) (hs0 n) ∧
    Below W.heap.size W ((w3.alloc (.cells (mk (.bool false) 1 n) 4)).alloc (.cells (warr Z (.slice (some ⟨gv, 0, none⟩) n cv) (.slice (some ⟨w3.heap.size, 0, none⟩) n n) (hs0 n)) 65)) := by
  have hs := hb.size
  have hgl := (hv.lt gv rfl).2
  have hrep : (hs0 n).on.map orow = List.replicate n [.bool false] := by simp [hs0, orow]
  have ho : Own (w3.alloc (.cells (mk (.bool false) 1 n) 4)) W.heap.size 4 1 (List.replicate n [.bool false]) (.slice (some ⟨w3.heap.size, 0, none⟩) n n) :=
    own_made (z := #[.bool false]) (heap_alloc_at _ _) hs hn
  refine ⟨⟨heap_alloc_at' _ _ _ (by rw [size_al]), (hv.alloc _).alloc _, by rw [hrep]; exact ho.alloc _, by omega, fun b e => ?_, fun b e => ?_⟩, below_al (below_al hb _) _⟩
  · have : b = gv := (Option.some.inj e).symm
    omega
  · have : b = w3.heap.size := (Option.some.inj e).symm
    refine ⟨by omega, fun e2 => ?_⟩
    have : gv = b := Option.some.inj e2
    omega
set_option maxHeartbeats 4000000 in
set_option maxRecDepth 100000 in
theorem new_yes (Z : Zn) (A : Option Addr) (c n : Nat) (W : World) (hT : Tps W A Z.tr) (hn : Z.tr.length = n) (ho : okZ Z = true) :
    Calls Tryd.prog 6 #[.agg (zarr Z (.slice A n c))] W fun e w' => ∃ g v vo, e = .returned (.tuple #[.pointer (some ⟨g, 0, none⟩), .int .i64 0]) ∧ Wt w' W.heap.size g Z v vo (hs0 n) ∧ Below W.heap.size W w' := by
  have K := fun (X : World) (q : Below W.heap.size W X) => check_any Z A c X (hT.below q)
  have hz := (okZ_zok ho).n
  rw [hn] at hz
  obtain ⟨b, o, rfl, -, -⟩ := hT.at_ (k := 0) (by omega)
  have KC := fun (X : World) (q : Below W.heap.size W X) => clone_any Z.tr b o n c X (hT.below q) hn hz.2
  rw [hn, ho] at K
  simp only [if_true, zarr] at K
  have MS := fun (X : World) => made_of (n := n) (z := .bool false) (s := 1) (bytes := 1) Tryd.underlying63 (by kernel_rfl) (by omega) (by omega) X
  have hn8 := hz.2
  have hn9 : n ≤ 9223372036854775807 := by omega
  have hrep : Hid ((hs0 n).on.map orow = List.replicate n [.bool false]) := Lib.hid (by simp [hs0, orow])
  obtain ⟨al, tg, kp, ki, cap, mo, tr⟩ := Z
  have hlr : Hid ((tr.map tprow).length = n) := Lib.hid (by rw [List.length_map]; exact hn)
  simp only [zarr] at *
  clear hT hn ho
  have hx := heap_alloc_at W (.cells #[.float .f64 al, .float .f64 tg, .float .f64 kp, .float .f64 ki, .float .f64 cap, .int .i64 mo, .slice (some ⟨b, o, none⟩) n c] 34)
  have hb := below_al (Below.refl W.heap.size W) (.cells #[.float .f64 al, .float .f64 tg, .float .f64 kp, .float .f64 ki, .float .f64 cap, .int .i64 mo, .slice (some ⟨b, o, none⟩) n c] 34)
  go_enter Tryd.func6, Tryd.ntmps6
  go_upto_region 5 with (first
    | (refine wpList_load_row rfl 34 _ rfl W.heap.size rfl 34 _ (0, 0) _ hx Tryd.underlying34 rfl (by kernel_rfl) ?_)
    | (go_at_call 9; (with_reducible refine (K _ hb).mono ?_); rintro e w1 ⟨rfl, hb1⟩; have hx1 := (hb1.block _ (heap_lt hx)).trans hx; have h01 := hb.trans (hb1.mono hb.size); have y6 : w1.cell? ⟨W.heap.size, 6, none⟩ = some (.slice (some ⟨b, o, none⟩) n c) := (by rw [cell_of_row _ _ 6 _ 34 (0, 0) hx1]; rfl))
    | (go_at_call 28; (with_reducible refine (KC _ h01).mono ?_); rintro e w2 ⟨v, rfl, hv, hb2⟩; have hx2 := (hb2.block _ (heap_lt hx1)).trans hx1; have z6 : w2.cell? ⟨W.heap.size, 6, none⟩ = some (.slice (some ⟨b, o, none⟩) n c) := (by rw [cell_of_row _ _ 6 _ 34 (0, 0) hx2]; rfl); have f6 := frozen_row hx2 6; obtain ⟨gv, cv, rfl, hl1, hl2⟩ := own_form0 hv (by rw [hlr.out]; exact hz.1); rw [hlr.out] at hv ⊢))
  have hW1 : W.heap.size < w1.heap.size := Nat.lt_of_lt_of_le (heap_lt hx) hb1.size
  have hx3 := heap_set hx2 6 (.slice (some ⟨gv, 0, none⟩) n cv)
  have hb3 : Below W.heap.size W (w2.setCell ⟨W.heap.size, 6, none⟩ (.slice (some ⟨gv, 0, none⟩) n cv)) := (h01.trans (hb2.mono h01.size)).setCell (p := ⟨W.heap.size, 6, none⟩) (Nat.le_refl _) _
  have hv3 := (hv.keep (w' := w2.setCell ⟨W.heap.size, 6, none⟩ (.slice (some ⟨gv, 0, none⟩) n cv)) (fun g e => Below.heap_setCell w2 _ _ g (fun q => by
    have h1 := (hv.lt g e).1
    have h2 : g = W.heap.size := q
    omega))).mono (base' := W.heap.size) (Nat.le_of_lt hW1)
  generalize w2.setCell ⟨W.heap.size, 6, none⟩ (.slice (some ⟨gv, 0, none⟩) n cv) = w3 at *
  clear KC K hx hb hb1 hx1 h01 y6 hb2 hx2 z6 f6 hv hl1 hl2 hW1
  have hgl := (hv3.lt gv rfl).2
  have y0 : w3.cell? ⟨W.heap.size, 0, none⟩ = some (.float .f64 al) := by rw [cell_of_row _ _ 0 _ 34 (0, 0) hx3]; rfl
  have y1 : w3.cell? ⟨W.heap.size, 1, none⟩ = some (.float .f64 tg) := by rw [cell_of_row _ _ 1 _ 34 (0, 0) hx3]; rfl
  have y2 : w3.cell? ⟨W.heap.size, 2, none⟩ = some (.float .f64 kp) := by rw [cell_of_row _ _ 2 _ 34 (0, 0) hx3]; rfl
  have y3 : w3.cell? ⟨W.heap.size, 3, none⟩ = some (.float .f64 ki) := by rw [cell_of_row _ _ 3 _ 34 (0, 0) hx3]; rfl
  have y4 : w3.cell? ⟨W.heap.size, 4, none⟩ = some (.float .f64 cap) := by rw [cell_of_row _ _ 4 _ 34 (0, 0) hx3]; rfl
  have y5 : w3.cell? ⟨W.heap.size, 5, none⟩ = some (.int .i64 mo) := by rw [cell_of_row _ _ 5 _ 34 (0, 0) hx3]; rfl
  have y6 : w3.cell? ⟨W.heap.size, 6, none⟩ = some (.slice (some ⟨gv, 0, none⟩) n cv) := by rw [cell_of_row _ _ 6 _ 34 (0, 0) hx3]; rfl
  have hlW := heap_lt hx3
  clear hx3
  go_region_law (fail)
  all_goals go_wp2
  all_goals go_ret2
  all_goals have q := wt_new (Z := ⟨al, tg, kp, ki, cap, mo, tr⟩) hb3 hv3 (by unfold maxLen; omega)
  all_goals first
    | exact ⟨_, .slice (some ⟨gv, 0, none⟩) n cv, .slice (some ⟨w3.heap.size, 0, none⟩) n n, rfl, q.1.drawn (Drawn.refl _).drew, q.2.drew⟩
    | exact ⟨_, .slice (some ⟨gv, 0, none⟩) n cv, .slice (some ⟨w3.heap.size, 0, none⟩) n n, rfl, q.1, q.2⟩
end Go.Proofs.YtdjdkhbagoideaaDoor
