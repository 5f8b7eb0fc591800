/- Heat: the reference's New; walked. -/
import Derived.Test.YtdjdkhbagoideaaDoorRf1
namespace Go.Proofs.YtdjdkhbagoideaaDoor
open Go.RowKit Go.BigFrame flt Ieee

theorem el42 : Elt Tryd.prog 47 79 3 24 := Elt.of (z := .agg #[.float .f64 0, .float .f64 0, .int .u8 0]) Tryd.underlying47 (by kernel_rfl) rfl (by decide) (by decide)
theorem wr_new {W w3 : World} {Z : Zn} {gv cv n : Nat} (hb : Below W.heap.size W w3) (hv : Own w3 W.heap.size 79 3 (Z.tr.map tprow) (.slice (some ⟨gv, 0, none⟩) n cv)) (hn : n ≤ maxLen) :
    Wr ((w3.alloc (.cells (mk (.bool false) 1 n) 4)).alloc (.cells (warr Z (.slice (some ⟨gv, 0, none⟩) n cv) (.slice (some ⟨w3.heap.size, 0, none⟩) n n) (hs0 n)) 100)) W.heap.size (w3.heap.size + 1) Z (.slice (some ⟨gv, 0, none⟩) n cv) (.slice (some ⟨w3.heap.size, 0, none⟩) n n) (hs0 n) ∧
    Below W.heap.size W ((w3.alloc (.cells (mk (.bool false) 1 n) 4)).alloc (.cells (warr Z (.slice (some ⟨gv, 0, none⟩) n cv) (.slice (some ⟨w3.heap.size, 0, none⟩) n n) (hs0 n)) 100)) := by
  have hs := hb.size
  have hgl := (hv.lt gv rfl).2
  have hrep : (hs0 n).on.map orow = List.replicate n [.bool false] := by simp [hs0, orow]
  have ho : Own (w3.alloc (.cells (mk (.bool false) 1 n) 4)) W.heap.size 4 1 (List.replicate n [.bool false]) (.slice (some ⟨w3.heap.size, 0, none⟩) n n) :=
    own_made (z := #[.bool false]) (heap_alloc_at _ _) hs hn
  refine ⟨⟨heap_alloc_at' _ _ _ (by rw [size_al]), (hv.alloc _).alloc _, by rw [hrep]; exact ho.alloc _, by omega, fun b e => ?_, fun b e => ?_⟩, below_al (below_al hb _) _⟩
  · have : b = gv := (Option.some.inj e).symm
    omega
  · have : b = w3.heap.size := (Option.some.inj e).symm
    refine ⟨by omega, fun e2 => ?_⟩
    have : gv = b := Option.some.inj e2
    omega
set_option maxHeartbeats 4000000 in
set_option maxRecDepth 100000 in
theorem rnew_no (Z : Zn) (A : Option Addr) (c n : Nat) (W : World) (hT : Tps W A Z.tr) (hn : Z.tr.length = n) (ho : okZ Z = false) :
    Calls Tryd.prog 49 #[.agg (zarr Z (.slice A n c))] W fun e w' => e = .returned (.tuple #[.pointer none, .int .i64 270]) ∧ Below W.heap.size W w' := by
  have K := fun (X : World) (q : Below W.heap.size W X) => rcheck_any Z A c X (hT.below q)
  rw [hn, ho] at K
  simp only [Bool.false_eq_true, if_false, zarr] at K
  unfold zarr
  obtain ⟨al, tg, kp, ki, cap, mo, tr⟩ := Z
  simp only at *
  clear hT hn ho
  have hx := heap_alloc_at W (.cells #[.float .f64 al, .float .f64 tg, .float .f64 kp, .float .f64 ki, .float .f64 cap, .int .i64 mo, .slice A n c] 49)
  have hb := below_al (Below.refl W.heap.size W) (.cells #[.float .f64 al, .float .f64 tg, .float .f64 kp, .float .f64 ki, .float .f64 cap, .int .i64 mo, .slice A n c] 49)
  go_enter Tryd.func49, Tryd.ntmps49
  go_wp2_with (first
    | (refine wpList_load_row rfl 49 _ rfl W.heap.size rfl 49 _ (0, 0) _ hx Tryd.underlying49 rfl (by kernel_rfl) ?_)
    | (go_at_call 56; (with_reducible refine (K _ hb).mono ?_); rintro e w1 ⟨rfl, hb1⟩))
  go_ret2
  exact ⟨rfl, hb.trans (hb1.mono hb.size)⟩
set_option maxHeartbeats 4000000 in
set_option maxRecDepth 100000 in
theorem rnew_yes (Z : Zn) (A : Option Addr) (c n : Nat) (W : World) (hT : Tps W A Z.tr) (hn : Z.tr.length = n) (ho : okZ Z = true) :
    Calls Tryd.prog 49 #[.agg (zarr Z (.slice A n c))] W fun e w' => ∃ g v vo, e = .returned (.tuple #[.pointer (some ⟨g, 0, none⟩), .int .i64 0]) ∧ Wr w' W.heap.size g Z v vo (hs0 n) ∧ Below W.heap.size W w' := by
  have K := fun (X : World) (q : Below W.heap.size W X) => rcheck_any Z A c X (hT.below q)
  have hz := (okZ_zok ho).n
  rw [hn] at hz
  obtain ⟨b, o, rfl, -, -⟩ := hT.at_ (k := 0) (by omega)
  rw [hn, ho] at K
  simp only [if_true, zarr] at K
  have MS := fun (X : World) => made_of (n := n) (z := .bool false) (s := 1) (bytes := 1) Tryd.underlying63 (by kernel_rfl) (by omega) (by omega) X
  have hn8 := hz.2
  have hn9 : n ≤ 9223372036854775807 := by omega
  have hrep : Hid ((hs0 n).on.map orow = List.replicate n [.bool false]) := Lib.hid (by simp [hs0, orow])
  obtain ⟨al, tg, kp, ki, cap, mo, tr⟩ := Z
  have hlr : Hid ((tr.map tprow).length = n) := Lib.hid (by rw [List.length_map]; exact hn)
  simp only [zarr] at *
  have hTw := fun (X : World) (q : Below W.heap.size W X) => hT.below q
  have hsl : Hid (n = (tr.map tprow).length) := Lib.hid hlr.out.symm
  have hle : Hid ((([] : List (List Value)).length + (tr.map tprow).length) * 24 ≤ 140737488355328) := Lib.hid (by rw [← hsl.out, List.length_nil]; omega)
  clear hT hn ho
  have hx := heap_alloc_at W (.cells #[.float .f64 al, .float .f64 tg, .float .f64 kp, .float .f64 ki, .float .f64 cap, .int .i64 mo, .slice (some ⟨b, o, none⟩) n c] 49)
  have hb := below_al (Below.refl W.heap.size W) (.cells #[.float .f64 al, .float .f64 tg, .float .f64 kp, .float .f64 ki, .float .f64 cap, .int .i64 mo, .slice (some ⟨b, o, none⟩) n c] 49)
  go_enter Tryd.func49, Tryd.ntmps49
  go_upto_region 5 with (first
    | (refine wpList_load_row rfl 49 _ rfl W.heap.size rfl 49 _ (0, 0) _ hx Tryd.underlying49 rfl (by kernel_rfl) ?_)
    | (go_at_call 56; (with_reducible refine (K _ hb).mono ?_); rintro e w1 ⟨rfl, hb1⟩; have hx1 := (hb1.block _ (heap_lt hx)).trans hx; have h01 := hb.trans (hb1.mono hb.size); have y6 : w1.cell? ⟨W.heap.size, 6, none⟩ = some (.slice (some ⟨b, o, none⟩) n c) := (by rw [cell_of_row _ _ 6 _ 49 (0, 0) hx1]; rfl); have y6a : (w1.alloc (.cells #[] 79)).cell? ⟨W.heap.size, 6, none⟩ = some (.slice (some ⟨b, o, none⟩) n c) := (((below_al (Below.refl w1.heap.size w1) _).cell (p := ⟨W.heap.size, 6, none⟩) (heap_lt hx1)).trans y6))
    | (at_builtin; refine wpList_app_any el42 rfl _ _ rfl rfl (Own.lit (w := w1) (base := w1.heap.size) (e := 79) (size := 3) (xs := []) #[] 0 rfl rfl (by simp) (Nat.le_refl _) (by decide)) (some ⟨b, o, none⟩) c n hsl.out rfl (fun h => by cases h) (Sl.alloc (hTw _ h01) _) (one_tps tr) hle.out (by rw [size_al]; omega) ?_; intro v w2 hv hb2 hs2 _ _; rw [List.nil_append] at hv; replace hb2 := (below_al (Below.refl w1.heap.size w1) _).trans hb2; have hx2 := (hb2.block _ (heap_lt hx1)).trans hx1; have z6 : w2.cell? ⟨W.heap.size, 6, none⟩ = some (.slice (some ⟨b, o, none⟩) n c) := (by rw [cell_of_row _ _ 6 _ 49 (0, 0) hx2]; rfl); have f6 := frozen_row hx2 6; obtain ⟨gv, cv, rfl, hl1, hl2⟩ := own_form0 hv (by rw [hlr.out]; exact hz.1); rw [hlr.out] at hv ⊢))
  have hW1 : W.heap.size < w1.heap.size := Nat.lt_of_lt_of_le (heap_lt hx) hb1.size
  have hx3 := heap_set hx2 6 (.slice (some ⟨gv, 0, none⟩) n cv)
  have hb3 : Below W.heap.size W (w2.setCell ⟨W.heap.size, 6, none⟩ (.slice (some ⟨gv, 0, none⟩) n cv)) := (h01.trans (hb2.mono h01.size)).setCell (p := ⟨W.heap.size, 6, none⟩) (Nat.le_refl _) _
  have hv3 := (hv.keep (w' := w2.setCell ⟨W.heap.size, 6, none⟩ (.slice (some ⟨gv, 0, none⟩) n cv)) (fun g e => Below.heap_setCell w2 _ _ g (fun q => by
    have h1 := (hv.lt g e).1
    have h2 : g = W.heap.size := q
    omega))).mono (base' := W.heap.size) (Nat.le_of_lt hW1)
  generalize w2.setCell ⟨W.heap.size, 6, none⟩ (.slice (some ⟨gv, 0, none⟩) n cv) = w3 at *
  clear K hx hb hb1 hx1 h01 y6 y6a hb2 hx2 z6 f6 hv hl1 hl2 hW1 hTw hsl hle
  have hgl := (hv3.lt gv rfl).2
  have y0 : w3.cell? ⟨W.heap.size, 0, none⟩ = some (.float .f64 al) := by rw [cell_of_row _ _ 0 _ 49 (0, 0) hx3]; rfl
  have y1 : w3.cell? ⟨W.heap.size, 1, none⟩ = some (.float .f64 tg) := by rw [cell_of_row _ _ 1 _ 49 (0, 0) hx3]; rfl
  have y2 : w3.cell? ⟨W.heap.size, 2, none⟩ = some (.float .f64 kp) := by rw [cell_of_row _ _ 2 _ 49 (0, 0) hx3]; rfl
  have y3 : w3.cell? ⟨W.heap.size, 3, none⟩ = some (.float .f64 ki) := by rw [cell_of_row _ _ 3 _ 49 (0, 0) hx3]; rfl
  have y4 : w3.cell? ⟨W.heap.size, 4, none⟩ = some (.float .f64 cap) := by rw [cell_of_row _ _ 4 _ 49 (0, 0) hx3]; rfl
  have y5 : w3.cell? ⟨W.heap.size, 5, none⟩ = some (.int .i64 mo) := by rw [cell_of_row _ _ 5 _ 49 (0, 0) hx3]; rfl
  have y6 : w3.cell? ⟨W.heap.size, 6, none⟩ = some (.slice (some ⟨gv, 0, none⟩) n cv) := by rw [cell_of_row _ _ 6 _ 49 (0, 0) hx3]; rfl
  have hlW := heap_lt hx3
  clear hx3
  go_region_law (fail)
  all_goals go_wp2
  all_goals go_ret2
  all_goals have q := wr_new (Z := ⟨al, tg, kp, ki, cap, mo, tr⟩) hb3 hv3 (by unfold maxLen; omega)
  all_goals first
    | exact ⟨_, .slice (some ⟨gv, 0, none⟩) n cv, .slice (some ⟨w3.heap.size, 0, none⟩) n n, rfl, q.1.drawn (Drawn.refl _).drew, q.2.drew⟩
    | exact ⟨_, .slice (some ⟨gv, 0, none⟩) n cv, .slice (some ⟨w3.heap.size, 0, none⟩) n n, rfl, q.1, q.2⟩
end Go.Proofs.YtdjdkhbagoideaaDoor
