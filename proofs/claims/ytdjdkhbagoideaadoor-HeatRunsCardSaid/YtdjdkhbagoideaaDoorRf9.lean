/- Heat: the law's 'same': the program's state turned to the reference's, and compared; walked. -/
import Derived.Test.YtdjdkhbagoideaaDoorRf8
import Derived.Test.YtdjdkhbagoideaaDoorOwn
namespace Go.Proofs.YtdjdkhbagoideaaDoor
open Go.RowKit Go.BigFrame flt Ieee

@[local go_sem ↓ high] theorem appG_hook' (ts : Array TypeId) (t : TypeId) (xs : Array Value) : Builtin.append_ ts t xs = appG ts t xs := by unfold appG; rfl
set_option maxHeartbeats 8000000 in
set_option maxRecDepth 100000 in
theorem same15 (d : Nat) (br : Bool) (lv : Int) (sh : Bool) (ev : List (Nat × Bool)) (n : Nat) (hn : ev.length = n) (h8 : n ≤ 8) (hd : nn d) (A B : Option Addr) (c c2 : Nat) (W : World) (ha : Sl (fun _ => True) W A 2 (ev.map erow)) (hb : Sl (fun _ => True) W B 2 (ev.map erow)) :
    Calls Tryd.prog 42 #[.agg #[.float .f64 d, .bool br, .int .i64 lv, .bool sh, .slice A n c], .agg #[.float .f64 d, .bool br, .int .i64 lv, .bool sh, .slice B n c2]] W fun e w' => e = .returned (.bool true) ∧ Below W.heap.size W w' := by
  have hA := Lib.hid (fun (X : World) (q : Below W.heap.size W X) (k : Nat) (hk : k < (ev.map erow).length) => (ha.below' q).at_ hk)
  have KS := fun (X : World) (q : Below W.heap.size W X) (A' : Option Addr) (c' : Nat) (h : Sl (fun _ => True) X A' 2 (ev.map erow)) => same_any d br lv sh ev n hn hd A' B c' c2 X h (hb.below' q)
  replace hn := Lib.hid hn
  clear ha hb
  have hz0 : (((W.alloc (.cells #[.float .f64 d, .bool br, .int .i64 lv, .bool sh, .slice A n c] 26)).alloc (.cells #[.float .f64 d, .bool br, .int .i64 lv, .bool sh, .slice B n c2] 89)).alloc (.cells #[.float .f64 d, .bool br, .int .i64 lv, .bool sh, .slice none 0 0] 89)).heap[W.heap.size]? = some (.cells #[.float .f64 d, .bool br, .int .i64 lv, .bool sh, .slice A n c] 26) := heap_alloc (heap_alloc (heap_alloc_at _ _))
  have hr0 : (((W.alloc (.cells #[.float .f64 d, .bool br, .int .i64 lv, .bool sh, .slice A n c] 26)).alloc (.cells #[.float .f64 d, .bool br, .int .i64 lv, .bool sh, .slice B n c2] 89)).alloc (.cells #[.float .f64 d, .bool br, .int .i64 lv, .bool sh, .slice none 0 0] 89)).heap[W.heap.size + 1]? = some (.cells #[.float .f64 d, .bool br, .int .i64 lv, .bool sh, .slice B n c2] 89) := heap_alloc (heap_alloc_at' _ _ _ (by rw [size_al]))
  have hx0 : (((W.alloc (.cells #[.float .f64 d, .bool br, .int .i64 lv, .bool sh, .slice A n c] 26)).alloc (.cells #[.float .f64 d, .bool br, .int .i64 lv, .bool sh, .slice B n c2] 89)).alloc (.cells #[.float .f64 d, .bool br, .int .i64 lv, .bool sh, .slice none 0 0] 89)).heap[W.heap.size + 2]? = some (.cells #[.float .f64 d, .bool br, .int .i64 lv, .bool sh, .slice none 0 0] 89) := heap_alloc_at' _ _ _ (by rw [size_al, size_al])
  have hb0 : Below W.heap.size W (((W.alloc (.cells #[.float .f64 d, .bool br, .int .i64 lv, .bool sh, .slice A n c] 26)).alloc (.cells #[.float .f64 d, .bool br, .int .i64 lv, .bool sh, .slice B n c2] 89)).alloc (.cells #[.float .f64 d, .bool br, .int .i64 lv, .bool sh, .slice none 0 0] 89)) := below_al (below_al (below_al (Below.refl _ _) _) _) _
  go_enter Tryd.func42, Tryd.ntmps42
  go_upto_region 2 with (refine wpList_store_row rfl 89 _ _ rfl (W.heap.size + 2) #[.float .f64 d, .bool br, .int .i64 lv, .bool sh, .slice none 0 0] rfl rfl 89 _ (heap_alloc_at' _ _ _ (by rw [size_al, size_al])) (by kernel_rfl) (by kernel_rfl) (by kernel_rfl) ?_)
  rw [setRow_alloc _ _ _ _ _ (by rw [size_al, size_al])]
  simp only [Act.put]
  generalize ((W.alloc _).alloc _).alloc _ = w1 at *
  go_upto_region 3 with fail
  go_loopw [6] (fun s4 wr => ∃ (k : Nat) (vx : Value), k ≤ n ∧ s4 = .int .i64 k ∧ wr.heap[W.heap.size]? = some (.cells #[.float .f64 d, .bool br, .int .i64 lv, .bool sh, .slice A n c] 26) ∧ wr.heap[W.heap.size + 1]? = some (.cells #[.float .f64 d, .bool br, .int .i64 lv, .bool sh, .slice B n c2] 89) ∧ wr.heap[W.heap.size + 2]? = some (.cells #[.float .f64 d, .bool br, .int .i64 lv, .bool sh, vx] 89) ∧ Own wr (W.heap.size + 3) 103 2 ((ev.take k).map erow) vx ∧ Below W.heap.size W wr) (fun s4 _ => n - (intOf s4).toNat)
  case atStart => exact ⟨0, .slice none 0 0, by omega, rfl, hz0, hr0, hx0, Own.nil _ _ _ _, hb0⟩
  case round =>
    clear hz0 hr0 hx0 hb0
    obtain ⟨k, vx, hk, rfl, hz, hrr, hx, ho, hb⟩ := hrel
    obtain ⟨wk, rfl⟩ : ∃ x : World, x = wr := ⟨_, rfl⟩
    have y4 : wk.cell? ⟨W.heap.size, 4, none⟩ = some (.slice A n c) := by rw [cell_of_row _ _ 4 _ 26 (0, 0) hz]; rfl
    have x4 : wk.cell? ⟨W.heap.size + 2, 4, none⟩ = some vx := by rw [cell_of_row _ _ 4 _ 89 (0, 0) hx]; rfl
    have f4 := frozen_row hx 4
    by_cases hkn : k = n
    · subst hkn
      obtain ⟨gx, cx, hvx, hsl⟩ := ho.sl
      rw [List.length_map, List.length_take, hn.out, Nat.min_eq_left hk] at hvx
      subst hvx
      rw [← hn.out, List.take_length] at hsl
      have K1 := KS wk hb gx cx (hsl.mono fun _ _ => trivial)
      clear hA KS hsl ho
      go_wp2_with (first
        | (refine wpList_load_row rfl 89 _ rfl (W.heap.size + 2) rfl 89 _ (0, 0) _ hx Tryd.underlying89 rfl (by kernel_rfl) ?_)
        | (refine wpList_load_row rfl 89 _ rfl (W.heap.size + 1) rfl 89 _ (0, 0) _ hrr Tryd.underlying89 rfl (by kernel_rfl) ?_)
        | (go_at_call 51; (with_reducible refine (K1).mono ?_); rintro e w9 ⟨rfl, hb9⟩))
      go_ret
      exact ⟨rfl, hb.trans (hb9.mono hb.size)⟩
    · have hlt : k < n := by omega
      have hlt' : (k : Int) < (n : Int) := by omega
      have hkm : k < ev.length := by rw [hn.out]; exact hlt
      obtain ⟨b1, o1, rfl, hbbl, -, q1⟩ := hA.out wk hb k (by rw [List.length_map]; exact hkm)
      have p0 : wk.cell? ⟨b1, o1 + k * 2, none⟩ = some (.int .i64 ev[k].1) := q1 0 (.int .i64 ev[k].1) (by simp [erow])
      have p1 : wk.cell? ⟨b1, o1 + k * 2 + 1, none⟩ = some (.bool ev[k].2) := q1 1 (.bool ev[k].2) (by simp [erow])
      have hlk : Hid (((ev.take k).map erow).length = k) := Lib.hid (by rw [List.length_map, List.length_take]; omega)
      have hrow : Hid ((ev.take (k + 1)).map erow = (ev.take k).map erow ++ [erow ev[k]]) := Lib.hid (by rw [← List.take_append_getElem hkm, List.map_append]; rfl)
      generalize ev[k] = u at *
      obtain ⟨ua, ub⟩ := u
      simp only [erow] at p0 p1 hrow
      have hsz := Lib.hid (heap_lt hx)
      have hzz := Lib.hid hz
      have hrrz := Lib.hid hrr
      have hxz := Lib.hid hx
      clear hA KS hkn hz hrr hx q1
      go_upto_region 5 with fail
      have hw3 : W.heap.size + 3 ≤ wk.heap.size := by have := hsz.out; omega
      have r1 : Below (W.heap.size + 3) wk (wk.alloc (.cells #[.int .i64 (ua : Int), .bool ub] 103)).drew := ((below_al (Below.refl wk.heap.size wk) _).mono hw3).drew
      obtain ⟨v', w3, hrun, ho3, hb3, _, _, _⟩ := run_push_at (P := Tryd.prog) el54 87 ((ho.alloc (.cells #[.int .i64 (ua : Int), .bool ub] 103)).drawn (Drawn.refl _).drew) [.int .i64 (ua : Int), .bool ub] wk.heap.size 103 (heap_alloc_at wk _) rfl (by simp [Value.oneCell']) (by rw [hlk.out]; omega) (Nat.le_trans hw3 (Nat.le_of_lt (heap_lt (heap_alloc_at wk (.cells #[.int .i64 (ua : Int), .bool ub] 103)))))
      obtain ⟨g3, cap3, rfl, hg3a, hg3b⟩ := own_form ho3
      rw [hlk.out] at ho3 hrun
      rw [appG_hook] at hrun
      have r2 : Below (W.heap.size + 3) wk w3 := r1.trans hb3
      have z3 : w3.heap[W.heap.size + 2]? = some (.cells #[.float .f64 d, .bool br, .int .i64 lv, .bool sh, vx] 89) := (r2.block _ (Nat.lt_succ_self _)).trans hxz.out
      have xk : wk.cell? ⟨W.heap.size + 1 + 1, 4, none⟩ = some vx := x4
      have xl : (wk.alloc (.cells #[.int .i64 (ua : Int), .bool ub] 103)).cell? ⟨W.heap.size + 1 + 1, 4, none⟩ = some vx := (World.cell?_of_block (r1.block _ (Nat.lt_succ_self _))).trans x4
      have hlt2 : W.heap.size + 1 + 1 < wk.heap.size := hw3
      have zz6 : w3.cell? ⟨W.heap.size + 1 + 1, 4, none⟩ = some vx := by rw [show W.heap.size + 1 + 1 = W.heap.size + 2 from rfl, cell_of_row _ _ 4 _ 89 (0, 0) z3]; rfl
      have zf6 : w3.frozen? ⟨W.heap.size + 1 + 1, 4, none⟩ = false := frozen_row z3 4
      replace hb3 := Lib.hid hb3
      replace ho3 := Lib.hid ho3
      replace r2 := Lib.hid r2
      replace z3 := Lib.hid z3
      replace ho := Lib.hid ho
      replace hb := Lib.hid hb
      clear r1 x4
      go_region
      go_wp2
      go_roundw
      have n0 : W.heap.size ≠ W.heap.size + 1 + 1 := by omega
      have n1 : W.heap.size + 1 ≠ W.heap.size + 1 + 1 := by omega
      case rel =>
        refine ⟨k + 1, .slice (some ⟨g3, 0, none⟩) (k + 1) cap3, by omega, by go_num, heap_set_far ((r2.out.block _ (by omega)).trans hzz.out) n0 _, heap_set_far ((r2.out.block _ (by omega)).trans hrrz.out) n1 _, heap_set z3.out 4 _, ?_, ?_⟩
        · rw [hrow.out]
          exact ho3.out.keep fun q hq => Below.heap_setCell w3 _ _ q (fun e => by
            have e1 := (ho3.out.lt q hq).1
            have e2 : q = W.heap.size + 1 + 1 := e
            omega)
        · exact (hb.out.trans (r2.out.mono (by omega))).setCell (p := ⟨W.heap.size + 1 + 1, 4, none⟩) (by show W.heap.size ≤ W.heap.size + 1 + 1; omega) _
      case measure => first | (simp [intOf]; done) | (simp [intOf]; omega)
end Go.Proofs.YtdjdkhbagoideaaDoor
