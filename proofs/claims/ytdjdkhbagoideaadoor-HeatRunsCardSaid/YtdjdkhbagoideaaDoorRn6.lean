/- Heat: the law's runs, where Run is refused; walked. -/
import Derived.Test.YtdjdkhbagoideaaDoorRn0
import Derived.Test.YtdjdkhbagoideaaDoorRn3
import Derived.Test.YtdjdkhbagoideaaDoorRn4
namespace Go.Proofs.YtdjdkhbagoideaaDoor
open Go.RowKit Go.BigFrame flt Ieee

set_option maxHeartbeats 8000000 in
set_option maxRecDepth 100000 in
theorem runs_no (Z : Zn) (A A2 Am Aw : Option Addr) (c c2 cm cw n m : Nat) (r k a h s ow : Nat) (pv : Value) (mi : Int) (ws : List Nat) (W : World) (hT : Tps W A Z.tr) (hT2 : Tps W A2 Z.tr) (hn : Z.tr.length = n) (hw : Ws W Am ws) (hw2 : Ws W Aw ws) (hm : ws.length = m)
    (hE : runE (okZ Z) (okL r k a) (argE h s ws) ≠ 0) :
    Calls Tryd.prog 21 #[.agg (zarr Z (.slice A n c)), .agg (zarr Z (.slice A2 n c2)), .agg #[.float .f64 r, .float .f64 k, .float .f64 a], .agg #[.float .f64 r, .float .f64 k, .float .f64 a], .agg (parr r k a h s ow pv mi), .slice Am m cm, .slice Aw m cw] W fun e w' => e = .returned (.bool true) ∧ Below W.heap.size W w' := by
  have KA := fun (X : World) (q : Below W.heap.size W X) => run_no Z A Am c cm n m r k a h s ws X (hT.below q) hn (hw.below q) hm hE
  have KB := fun (X : World) (q : Below W.heap.size W X) => rrun_no Z A2 Aw c2 cw n m r k a h s ws X (hT2.below q) hn (hw2.below q) hm hE
  obtain ⟨x0, x1, x2, x3, x4, -, hb0⟩ := boxes5 W (.cells (zarr Z (.slice A n c)) 34) (.cells (zarr Z (.slice A2 n c2)) 49) (.cells #[.float .f64 r, .float .f64 k, .float .f64 a] 42) (.cells #[.float .f64 r, .float .f64 k, .float .f64 a] 53) (.cells (parr r k a h s ow pv mi) 52)
  generalize runE (okZ Z) (okL r k a) (argE h s ws) = E at *
  unfold zarr parr at *
  generalize Z.al = zal at *
  generalize Z.tg = tg at *
  generalize Z.kp = kp at *
  generalize Z.ki = ki at *
  generalize Z.cap = cap at *
  generalize Z.mo = mo at *
  clear hT hT2 hn hw hw2 hm hE
  go_enter Tryd.func21, Tryd.ntmps21
  go_upto_region 1 with fail
  generalize (((((W.alloc (.cells #[.float .f64 zal, .float .f64 tg, .float .f64 kp, .float .f64 ki, .float .f64 cap, .int .i64 mo, .slice A n c] 34)).alloc (.cells #[.float .f64 zal, .float .f64 tg, .float .f64 kp, .float .f64 ki, .float .f64 cap, .int .i64 mo, .slice A2 n c2] 49)).alloc (.cells #[.float .f64 r, .float .f64 k, .float .f64 a] 42)).alloc (.cells #[.float .f64 r, .float .f64 k, .float .f64 a] 53)).alloc (.cells #[.float .f64 r, .float .f64 k, .float .f64 a, .float .f64 h, .float .f64 s, .float .f64 ow, pv, .int .i64 mi] 52)) = w0 at *
  obtain ⟨P4, hP4⟩ : ∃ P, W.heap.size + 1 + 1 + 1 + 1 = P := ⟨_, rfl⟩
  obtain ⟨P3, hP3⟩ : ∃ P, W.heap.size + 1 + 1 + 1 = P := ⟨_, rfl⟩
  obtain ⟨P2, hP2⟩ : ∃ P, W.heap.size + 1 + 1 = P := ⟨_, rfl⟩
  obtain ⟨P1, hP1⟩ : ∃ P, W.heap.size + 1 = P := ⟨_, rfl⟩
  obtain ⟨P0, hP0⟩ : ∃ P, W.heap.size = P := ⟨_, rfl⟩
  rw [hP4] at x4 ⊢
  rw [hP3] at x3 ⊢
  rw [hP2] at x2 ⊢
  rw [hP1] at x1 ⊢
  rw [hP0] at x0 ⊢
  clear hP0 hP1 hP2 hP3 hP4
  have hcells : ∀ X : World, X.heap[P4]? = some (.cells #[.float .f64 r, .float .f64 k, .float .f64 a, .float .f64 h, .float .f64 s, .float .f64 ow, pv, .int .i64 mi] 52) → X.cell? ⟨P4, 3, none⟩ = some (.float .f64 h) ∧ X.cell? ⟨P4, 4, none⟩ = some (.float .f64 s) := fun X q =>
    ⟨by rw [cell_of_row _ _ 3 _ 52 (0, 0) q]; rfl, by rw [cell_of_row _ _ 4 _ 52 (0, 0) q]; rfl⟩
  obtain ⟨p3, p4⟩ := hcells _ x4
  go_upto_region 2 with (first
    | (refine wpList_load_row rfl 34 _ rfl P0 rfl 34 _ (0, 0) _ x0 Tryd.underlying34 rfl (by kernel_rfl) ?_)
    | (refine wpList_load_row rfl 42 _ rfl P2 rfl 42 _ (0, 0) _ x2 Tryd.underlying42 rfl (by kernel_rfl) ?_)
    | (go_at_call 40; (with_reducible refine (KA _ hb0).mono ?_); rintro e w1 ⟨rfl, hb1⟩))
  have h01 := hb0.trans (hb1.mono hb0.size)
  have y0 := (hb1.block _ (heap_lt x0)).trans x0
  have y1 := (hb1.block _ (heap_lt x1)).trans x1
  have y2 := (hb1.block _ (heap_lt x2)).trans x2
  have y3 := (hb1.block _ (heap_lt x3)).trans x3
  have y4 := (hb1.block _ (heap_lt x4)).trans x4
  obtain ⟨q3, q4⟩ := hcells _ y4
  clear x0 x1 x2 x3 x4 p3 p4 hb0 hb1
  go_upto_region 3 with (first
    | (refine wpList_load_row rfl 49 _ rfl P1 rfl 49 _ (0, 0) _ y1 Tryd.underlying49 rfl (by kernel_rfl) ?_)
    | (refine wpList_load_row rfl 53 _ rfl P3 rfl 53 _ (0, 0) _ y3 Tryd.underlying53 rfl (by kernel_rfl) ?_)
    | (go_at_call 41; (with_reducible refine (KB _ h01).mono ?_); rintro e w2 ⟨rfl, hb2⟩))
  have h02 := h01.trans (hb2.mono h01.size)
  have z0 := (hb2.block _ (heap_lt y0)).trans y0
  have z2 := (hb2.block _ (heap_lt y2)).trans y2
  have z4 := (hb2.block _ (heap_lt y4)).trans y4
  obtain ⟨r3, r4⟩ := hcells _ z4
  clear y0 y1 y2 y3 y4 q3 q4 h01 hb2
  go_upto_region 4 with (first
    | (refine wpList_load_row rfl 34 _ rfl P0 rfl 34 _ (0, 0) _ z0 Tryd.underlying34 rfl (by kernel_rfl) ?_)
    | (refine wpList_load_row rfl 42 _ rfl P2 rfl 42 _ (0, 0) _ z2 Tryd.underlying42 rfl (by kernel_rfl) ?_)
    | (go_at_call 40; (with_reducible refine (KA _ h02).mono ?_); rintro e w3 ⟨rfl, hb3⟩))
  have h03 := h02.trans (hb3.mono h02.size)
  clear r3 r4 z0 z2 z4 h02 hb3 KA KB hcells
  go_upto_region 7 with fail
  go_loop [21] (fun s21 => s21 = .int .i64 0) (fun _ => 0)
  case atStart => rfl
  case round =>
    obtain rfl := hrel
    go_upto_region 17 with fail
    go_loop [23] (fun s23 => s23 = .int .i64 0) (fun _ => 0)
    case atStart => rfl
    case round =>
      obtain rfl := hrel
      go_wp2
      go_ret
      exact ⟨rfl, h03⟩
end Go.Proofs.YtdjdkhbagoideaaDoor
