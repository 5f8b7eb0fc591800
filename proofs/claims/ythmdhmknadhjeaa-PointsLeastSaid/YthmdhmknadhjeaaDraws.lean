/- Points: what PointsLeast asks of a point (a closure), walked. -/
import Derived.Test.YthmdhmknadhjeaaRnxt
import Derived.Test.YthmdhmknadhjeaaLeast0
import Derived.Deep.RegionHeld3
namespace Go.Proofs.Ythmdhmknadhjeaa
open Go.RowKit Go.BigFrame flt Ieee

set_option maxHeartbeats 4000000 in
set_option maxRecDepth 100000 in
theorem draws_any (t : List Pt) (A : Option Addr) (c n : Nat) (g1 g2 g3 g4 : Nat) (wk fa lk q z : Nat) (w : World) (h : Pts w A t) (hn : n < t.length)
    (h1 : w.heap[g1]? = some (.cells #[.slice A t.length c] 25)) (h2 : w.heap[g2]? = some (.cells #[.float .f64 fa] 62)) (h3 : w.heap[g3]? = some (.cells #[.float .f64 lk] 62)) (h4 : w.heap[g4]? = some (.cells #[.float .f64 wk] 62))
    (hq : tk t (cls wk) n = some q) (hz : dr t (cls wk) (cls fa) (cls lk) n = some z) (nq : nn q) :
    Calls Try.prog 40 #[.int .i64 n, .pointer (some ⟨g1, 0, none⟩), .pointer (some ⟨g2, 0, none⟩), .pointer (some ⟨g3, 0, none⟩), .pointer (some ⟨g4, 0, none⟩)] w fun e w' => e = .returned (.float .f64 z) ∧ Below w.heap.size w w' := by
  have hlen := h.le
  obtain ⟨b, o, rfl, hbl, c0, c1⟩ := Pts.at_ h hn
  have hp : (t.getD n (0, 0)) = t[n] := by rw [List.getD, List.getElem?_eq_getElem hn]; rfl
  unfold dr at hz
  rw [hq] at hz
  unfold tk at hq
  rw [hp] at hz hq
  clear hp h
  generalize t[n].1 = x at *
  generalize t[n].2 = y at *
  have Q : floatBits .quo .f64 wk (floatOfInt .f64 x) = some q := by rw [bits_op2, cls_fi]; exact hq
  have rq := fun W : World => run_float_arith (P := Try.prog) W .quo 62 .f64 _ _ _ Q
  have rz : ∀ r, cls r = pw x y (cls fa) (cls lk) → ∀ W : World, (binOp .mul 62 (.float .f64 r) (.float .f64 q)).run Try.prog W = .ok (.float .f64 z) W := fun r hr W => run_float_arith (P := Try.prog) W .mul 62 .f64 _ _ _ (by rw [bits_op2, hr, cls_nn nq]; exact hz)
  clear Q hq hz
  have PA := pw_any x y fa lk
  generalize pw x y (cls fa) (cls lk) = PW at *
  replace rz := Lib.hid rz
  go_enter Try.func40, Try.ntmps40
  go_upto_region 1 with fail
  have k1 : w.cell? ⟨g1, 0, none⟩ = some (.slice (some ⟨b, o, none⟩) t.length c) := cell_of_row _ _ 0 _ 25 (0, 0) h1
  have k2 : w.cell? ⟨g2, 0, none⟩ = some (.float .f64 fa) := cell_of_row _ _ 0 _ 62 (0, 0) h2
  have k3 : w.cell? ⟨g3, 0, none⟩ = some (.float .f64 lk) := cell_of_row _ _ 0 _ 62 (0, 0) h3
  have k4 : w.cell? ⟨g4, 0, none⟩ = some (.float .f64 wk) := cell_of_row _ _ 0 _ 62 (0, 0) h4
  have l1 := heap_lt h1
  have l2 := heap_lt h2
  have l3 := heap_lt h3
  have l4 := heap_lt h4
  clear h1 h2 h3 h4
  have hX : ∀ W, Below w.heap.size w W → W.cell? ⟨g1, 0, none⟩ = some (.slice (some ⟨b, o, none⟩) t.length c) ∧ W.cell? ⟨g2, 0, none⟩ = some (.float .f64 fa) ∧ W.cell? ⟨g3, 0, none⟩ = some (.float .f64 lk) ∧ W.cell? ⟨g4, 0, none⟩ = some (.float .f64 wk) ∧ W.cell? ⟨b, o + n * 2, none⟩ = some (.int .i64 x) ∧ W.cell? ⟨b, o + n * 2 + 1, none⟩ = some (.int .i64 y) :=
    fun W hb => ⟨(hb.cell l1).trans k1, (hb.cell l2).trans k2, (hb.cell l3).trans k3, (hb.cell l4).trans k4, (hb.cell hbl).trans c0, (hb.cell hbl).trans c1⟩
  have g0 : Below w.heap.size w w.drew := (Below.refl _ w).drew
  clear k1 k2 k3 k4 l1 l2 l3 l4 c0 c1
  go_region_held3 (fun W => W.cell? ⟨g1, 0, none⟩ = some (.slice (some ⟨b, o, none⟩) t.length c) ∧ W.cell? ⟨g2, 0, none⟩ = some (.float .f64 fa) ∧ W.cell? ⟨g3, 0, none⟩ = some (.float .f64 lk) ∧ W.cell? ⟨g4, 0, none⟩ = some (.float .f64 wk) ∧ W.cell? ⟨b, o + n * 2, none⟩ = some (.int .i64 x) ∧ W.cell? ⟨b, o + n * 2 + 1, none⟩ = some (.int .i64 y))
    (first | (with_reducible exact hX _ g0) | (with_reducible exact hX _ q5))
    (first
      | (go_at_call 37; (with_reducible refine (PA _).mono ?_); rintro e w5 ⟨r, rfl, hr, hb⟩; have q5 : Below w.heap.size w w5 := g0.trans (hb.mono g0.size); have rm := rz.out r hr; replace hr := Lib.hid hr))
  all_goals (go_wp2; go_ret; exact ⟨rfl, q5⟩)
end Go.Proofs.Ythmdhmknadhjeaa
