/- Heat: the law's own copy of a zone; walked. -/
import Derived.Test.YtdjdkhbagoideaaDoorStep4
import Derived.Deep.RegionHeldLaw
namespace Go.Proofs.YtdjdkhbagoideaaDoor
open Go.RowKit Go.BigFrame flt Ieee

/-- an append of one row at a step of a region that draws; what was -/
theorem step_push_at {P : Program} {ops : Array Oper} {o : Oper} {a : Act} {w : World} {K : Act → World → Prop} {Q : Exit → Act → World → Prop} {E : Prop} {t e : TypeId} {size bytes : Nat} (el : Elt P t e size bytes) (hg : o.guard = none) (s x : Operand)
    (ho : o.op = .call { callee := .builtin .append, args := #[s, x], argTypes := #[t, t] }) {base : Nat} {v : Value} {xs : List (List Value)} (hs : a.eval s = v) (hown : Own w base e size xs v)
    (row : List Value) (g0 : Nat) (T : TypeId) (hx : a.eval x = .slice (some ⟨g0, 0, none⟩) 1 1) (hg0 : w.heap[g0]? = some (.cells row.toArray T)) (hl : row.length = size)
    (h1 : ∀ u ∈ row, u.oneCell' = true) (hbytes : (xs.length + 1) * bytes ≤ 140737488355328) (hbase : base ≤ w.heap.size)
    (h : ∀ v' w', Own w' base e size (xs ++ [row]) v' → Below base w w' → w.grownBy w' v.ownBlock → (v'.ownBlock = v.ownBlock ∨ v'.ownBlock = some w.heap.size) → K (a.put o.dst v') w') :
    if Region.wanted o (yielded ops a.tmps) = true then Oper.wp P o a w K Q else E := by
  obtain ⟨v', w', hrun, h2, h3, _, h5, h6⟩ := run_push_at el o.type hown row g0 T hg0 hl h1 hbytes hbase
  exact step_run hg s x t ho hs hx hrun (h v' w' h2 h3 h5 h6)
theorem own_form {w : World} {base : Nat} {e : TypeId} {size : Nat} {xs : List (List Value)} {r : List Value} {v : Value} (h : Own w base e size (xs ++ [r]) v) : ∃ g c, v = .slice (some ⟨g, 0, none⟩) (xs.length + 1) c ∧ base ≤ g ∧ g < w.heap.size := by
  obtain ⟨g, c, e, _, h2, _⟩ := h.form (by rw [List.length_append]; simp)
  rw [List.length_append] at e
  exact ⟨g, c, e, (h.lt g (by rw [e]; rfl)).1, (h.lt g (by rw [e]; rfl)).2⟩
/-- append to a list of trips, under a name of its own: so that a walk takes its run as it is given -/
@[irreducible] def appG (ts : Array TypeId) (t : TypeId) (xs : Array Value) : Sem Value := Builtin.append_ ts t xs
@[local go_sem ↓ high] theorem appG_hook (ts : Array TypeId) (t : TypeId) (xs : Array Value) : Builtin.append_ ts t xs = appG ts t xs := by unfold appG; rfl
def markT : List Value := [.float .f64 0, .float .f64 0, .int .u8 77]
set_option maxHeartbeats 8000000 in
set_option maxRecDepth 100000 in
theorem own_any (Z : Zn) (A : Option Addr) (c n : Nat) (W : World) (hT : Tps W A Z.tr) (hn : Z.tr.length = n) (hr : n * 24 ≤ 140737488351232) :
    Calls Tryd.prog 20 #[.agg (zarr Z (.slice A n c))] W fun e w' => ∃ gv cv, e = .returned (.agg (zarr Z (.slice (some ⟨gv, 0, none⟩) n cv))) ∧ Own w' W.heap.size 36 3 (Z.tr.map tprow ++ [markT]) (.slice (some ⟨gv, 0, none⟩) (n + 1) cv) ∧ Below W.heap.size W w' := by
  have hlen := hT.le
  have hcd := Lib.hid (fun (k : Nat) (hk : k < Z.tr.length) (X : World) (q : Below W.heap.size W X) => (hT.below q).at_ hk)
  obtain ⟨al, tg, kp, ki, cap, mo, tr⟩ := Z
  simp only [zarr] at *
  clear hT
  rw [hn] at hlen
  replace hn := Lib.hid hn
  go_enter Tryd.func20, Tryd.ntmps20
  go_upto_region 2 with (refine wpList_store_row rfl 34 _ _ rfl (W.heap.size + 2) #[.float .f64 al, .float .f64 tg, .float .f64 kp, .float .f64 ki, .float .f64 cap, .int .i64 mo, .slice none 0 0] rfl rfl 34 _ (heap_alloc_at' _ _ _ (by rw [size_al, size_al])) (by kernel_rfl) (by kernel_rfl) (by kernel_rfl) ?_)
  rw [setRow_alloc _ _ _ _ _ (by rw [size_al, size_al])]
  simp only [Act.put]
  have hz0 : (((W.alloc (.cells #[.float .f64 al, .float .f64 tg, .float .f64 kp, .float .f64 ki, .float .f64 cap, .int .i64 mo, .slice A n c] 49)).alloc (.cells #[.float .f64 0, .float .f64 0, .float .f64 0, .float .f64 0, .float .f64 0, .int .i64 0, .slice none 0 0] 34)).alloc (.cells #[.float .f64 al, .float .f64 tg, .float .f64 kp, .float .f64 ki, .float .f64 cap, .int .i64 mo, .slice none 0 0] 34)).heap[W.heap.size]? = some (.cells #[.float .f64 al, .float .f64 tg, .float .f64 kp, .float .f64 ki, .float .f64 cap, .int .i64 mo, .slice A n c] 49) := heap_alloc (heap_alloc (heap_alloc_at _ _))
  have hr0 : (((W.alloc (.cells #[.float .f64 al, .float .f64 tg, .float .f64 kp, .float .f64 ki, .float .f64 cap, .int .i64 mo, .slice A n c] 49)).alloc (.cells #[.float .f64 0, .float .f64 0, .float .f64 0, .float .f64 0, .float .f64 0, .int .i64 0, .slice none 0 0] 34)).alloc (.cells #[.float .f64 al, .float .f64 tg, .float .f64 kp, .float .f64 ki, .float .f64 cap, .int .i64 mo, .slice none 0 0] 34)).heap[W.heap.size + 1]? = some (.cells #[.float .f64 0, .float .f64 0, .float .f64 0, .float .f64 0, .float .f64 0, .int .i64 0, .slice none 0 0] 34) := heap_alloc (heap_alloc_at' _ _ _ (by rw [size_al]))
  have hx0 : (((W.alloc (.cells #[.float .f64 al, .float .f64 tg, .float .f64 kp, .float .f64 ki, .float .f64 cap, .int .i64 mo, .slice A n c] 49)).alloc (.cells #[.float .f64 0, .float .f64 0, .float .f64 0, .float .f64 0, .float .f64 0, .int .i64 0, .slice none 0 0] 34)).alloc (.cells #[.float .f64 al, .float .f64 tg, .float .f64 kp, .float .f64 ki, .float .f64 cap, .int .i64 mo, .slice none 0 0] 34)).heap[W.heap.size + 2]? = some (.cells #[.float .f64 al, .float .f64 tg, .float .f64 kp, .float .f64 ki, .float .f64 cap, .int .i64 mo, .slice none 0 0] 34) := heap_alloc_at' _ _ _ (by rw [size_al, size_al])
  have hb0 : Below W.heap.size W (((W.alloc (.cells #[.float .f64 al, .float .f64 tg, .float .f64 kp, .float .f64 ki, .float .f64 cap, .int .i64 mo, .slice A n c] 49)).alloc (.cells #[.float .f64 0, .float .f64 0, .float .f64 0, .float .f64 0, .float .f64 0, .int .i64 0, .slice none 0 0] 34)).alloc (.cells #[.float .f64 al, .float .f64 tg, .float .f64 kp, .float .f64 ki, .float .f64 cap, .int .i64 mo, .slice none 0 0] 34)) := below_al (below_al (below_al (Below.refl _ _) _) _) _
  generalize ((W.alloc _).alloc _).alloc _ = w1 at *
  go_upto_region 3 with fail
  go_loopw [4] (fun s4 wr => ∃ (k : Nat) (vx : Value), k ≤ n ∧ s4 = .int .i64 k ∧ wr.heap[W.heap.size]? = some (.cells #[.float .f64 al, .float .f64 tg, .float .f64 kp, .float .f64 ki, .float .f64 cap, .int .i64 mo, .slice A n c] 49) ∧ wr.heap[W.heap.size + 1]? = some (.cells #[.float .f64 0, .float .f64 0, .float .f64 0, .float .f64 0, .float .f64 0, .int .i64 0, .slice none 0 0] 34) ∧ wr.heap[W.heap.size + 2]? = some (.cells #[.float .f64 al, .float .f64 tg, .float .f64 kp, .float .f64 ki, .float .f64 cap, .int .i64 mo, vx] 34) ∧ Own wr (W.heap.size + 3) 36 3 ((tr.take k).map tprow) vx ∧ Below W.heap.size W wr) (fun s4 _ => n - (intOf s4).toNat)
  case atStart => exact ⟨0, .slice none 0 0, by omega, rfl, hz0, hr0, hx0, Own.nil _ _ _ _, hb0⟩
  case round =>
    clear hz0 hr0 hx0 hb0
    obtain ⟨k, vx, hk, rfl, hz, hrr, hx, ho, hb⟩ := hrel
    obtain ⟨wk, rfl⟩ : ∃ x : World, x = wr := ⟨_, rfl⟩
    have y6 : wk.cell? ⟨W.heap.size, 6, none⟩ = some (.slice A n c) := by rw [cell_of_row _ _ 6 _ 49 (0, 0) hz]; rfl
    have x6 : wk.cell? ⟨W.heap.size + 2, 6, none⟩ = some vx := by rw [cell_of_row _ _ 6 _ 34 (0, 0) hx]; rfl
    have f6 := frozen_row hx 6
    by_cases hkn : k = n
    · subst hkn
      obtain ⟨gx, cx, hvx, -⟩ := ho.sl
      rw [List.length_map, List.length_take, hn.out, Nat.min_eq_left hk] at hvx
      subst hvx
      clear hcd
      rw [← hn.out, List.take_length] at ho
      have hlk : Hid ((tr.map tprow).length = k) := Lib.hid (by rw [List.length_map]; exact hn.out)
      rw [hn.out] at ho
      have hsz := heap_lt hx
      have hw3 : W.heap.size + 3 ≤ wk.heap.size := by omega
      have r1 : Below (W.heap.size + 3) wk (wk.alloc (.cells #[.float .f64 0, .float .f64 0, .int .u8 77] 36)).drew := ((below_al (Below.refl wk.heap.size wk) _).mono hw3).drew
      obtain ⟨v', w3, hrun, ho3, hb3, _, _, _⟩ := run_push_at (P := Tryd.prog) el28 32 ((ho.alloc (.cells #[.float .f64 0, .float .f64 0, .int .u8 77] 36)).drawn (Drawn.refl _).drew) [.float .f64 0, .float .f64 0, .int .u8 77] wk.heap.size 36 (heap_alloc_at wk _) rfl (by simp [Value.oneCell']) (by rw [hlk.out]; omega) (Nat.le_trans hw3 (Nat.le_of_lt (heap_lt (heap_alloc_at wk (.cells #[.float .f64 0, .float .f64 0, .int .u8 77] 36)))))
      obtain ⟨g3, cap3, hv', _, _, hcp⟩ := ho3.form (by rw [List.length_append]; simp)
      rw [List.length_append, hlk.out] at hv' hcp
      simp only [List.length_cons, List.length_nil, Nat.zero_add] at hv' hcp
      subst hv'
      rw [appG_hook] at hrun
      have r2 : Below (W.heap.size + 3) wk w3 := r1.trans hb3
      have z3 : w3.heap[W.heap.size + 2]? = some (.cells #[.float .f64 al, .float .f64 tg, .float .f64 kp, .float .f64 ki, .float .f64 cap, .int .i64 mo, .slice gx k cx] 34) := (r2.block _ (Nat.lt_succ_self _)).trans hx
      have zz := (r2.block W.heap.size (by omega)).trans hz
      have zr := (r2.block (W.heap.size + 1) (by omega)).trans hrr
      have xk : wk.cell? ⟨W.heap.size + 1 + 1, 6, none⟩ = some (.slice gx k cx) := x6
      have xl : (wk.alloc (.cells #[.float .f64 0, .float .f64 0, .int .u8 77] 36)).cell? ⟨W.heap.size + 1 + 1, 6, none⟩ = some (.slice gx k cx) := (World.cell?_of_block (r1.block _ (Nat.lt_succ_self _))).trans x6
      have yl : (wk.alloc (.cells #[.float .f64 0, .float .f64 0, .int .u8 77] 36)).cell? ⟨W.heap.size, 6, none⟩ = some (.slice A k c) := (World.cell?_of_block (r1.block _ (by show W.heap.size < _; omega))).trans y6
      have y3 : w3.cell? ⟨W.heap.size, 6, none⟩ = some (.slice A k c) := (World.cell?_of_block (r2.block _ (by show W.heap.size < _; omega))).trans y6
      have hlt2 : W.heap.size + 1 + 1 < wk.heap.size := hw3
      have hlt0 : W.heap.size < wk.heap.size := by omega
      have zz6 : w3.cell? ⟨W.heap.size + 1 + 1, 6, none⟩ = some (.slice gx k cx) := by rw [show W.heap.size + 1 + 1 = W.heap.size + 2 from rfl, cell_of_row _ _ 6 _ 34 (0, 0) z3]; rfl
      have zf6 : w3.frozen? ⟨W.heap.size + 1 + 1, 6, none⟩ = false := frozen_row z3 6
      have hk0 : (0 : Int) ≤ (k : Int) := by omega
      have hkc : (k : Int) ≤ (cap3 : Int) := by omega
      have n1 : W.heap.size + 1 ≠ W.heap.size + 1 + 1 := by omega
      have hx4 := heap_set z3 6 (.slice (some ⟨g3, 0, none⟩) k cap3)
      have hr4 := heap_set_far zr (p := ⟨W.heap.size + 1 + 1, 6, none⟩) n1 (.slice (some ⟨g3, 0, none⟩) k cap3)
      have hb4 : Below W.heap.size W (w3.setCell ⟨W.heap.size + 1 + 1, 6, none⟩ (.slice (some ⟨g3, 0, none⟩) k cap3)) := (hb.trans (r2.mono (by omega))).setCell (p := ⟨W.heap.size + 1 + 1, 6, none⟩) (by show W.heap.size ≤ W.heap.size + 1 + 1; omega) _
      have ho4 := ho3.keep (w' := w3.setCell ⟨W.heap.size + 1 + 1, 6, none⟩ (.slice (some ⟨g3, 0, none⟩) k cap3)) (fun q hq => Below.heap_setCell w3 _ _ q (fun e => by
        have e1 := (ho3.lt q hq).1
        have e2 : q = W.heap.size + 1 + 1 := e
        omega))
      replace hx4 := Lib.hid hx4
      replace hr4 := Lib.hid hr4
      replace hb4 := Lib.hid hb4
      replace ho4 := Lib.hid ho4
      clear hz hrr hx ho hb r1 r2 ho3 hb3 z3 zz zr x6
      go_upto_region 6 with fail
      go_region
      have hx5 : (w3.setCell ⟨W.heap.size + 1 + 1, 6, none⟩ (.slice (some ⟨g3, 0, none⟩) k cap3)).heap[W.heap.size + 2]? = some (.cells #[.float .f64 al, .float .f64 tg, .float .f64 kp, .float .f64 ki, .float .f64 cap, .int .i64 mo, .slice (some ⟨g3, 0, none⟩) k cap3] 34) := hx4.out
      generalize w3.setCell ⟨W.heap.size + 1 + 1, 6, none⟩ (.slice (some ⟨g3, 0, none⟩) k cap3) = w5 at *
      have hr5 := hr4.out
      clear zz6 zf6 y3 hrun xk xl yl y6
      go_wp2_with (first
        | (refine wpList_load_row rfl 34 _ rfl (W.heap.size + 2) rfl 34 _ (0, 0) _ hx5 Tryd.underlying34 rfl (by kernel_rfl) ?_)
        | (refine wpList_store_row rfl 34 _ _ rfl (W.heap.size + 1) #[.float .f64 al, .float .f64 tg, .float .f64 kp, .float .f64 ki, .float .f64 cap, .int .i64 mo, .slice (some ⟨g3, 0, none⟩) k cap3] rfl rfl 34 _ hr5 (by kernel_rfl) (by kernel_rfl) (by kernel_rfl) ?_))
      (try simp only [Exit.inBlock, Exit.then])
      refine bodyPost_ret (results_cell_row rfl _ _ (W.heap.size + 1) 34 _ (0, 0) _ rfl (setRow_at hr5) Tryd.underlying34 rfl (by kernel_rfl)) rfl ?_
      refine ⟨g3, cap3, rfl, ?_, below_setRow hb4.out (Nat.le_succ _) _⟩
      exact (ho4.out.keep fun q hq => setRow_far (by have e1 := (ho4.out.lt q hq).1; omega)).mono (by omega)
    · have hlt : k < n := by omega
      have hkl : k < tr.length := by rw [hn.out]; exact hlt
      obtain ⟨bb, oo, rfl, hbbl, -, -, -⟩ := hcd.out k hkl W (Below.refl _ _)
      obtain ⟨bb', oo', ee, -, x0, x1, x2⟩ := hcd.out k hkl wk hb
      obtain ⟨rfl, rfl⟩ : bb = bb' ∧ oo = oo' := by simpa using ee
      have hlk : Hid (((tr.take k).map tprow).length = k) := Lib.hid (by rw [List.length_map, List.length_take]; omega)
      have hrow : Hid ((tr.take (k + 1)).map tprow = (tr.take k).map tprow ++ [tprow tr[k]]) := Lib.hid (by rw [← List.take_append_getElem hkl, List.map_append]; rfl)
      generalize tr[k] = u at *
      obtain ⟨ua, ub, uk⟩ := u
      simp only [tprow] at x0 x1 x2 hrow
      have hsz := heap_lt hx
      replace hsz := Lib.hid hsz
      have hzz := Lib.hid hz
      have hrrz := Lib.hid hrr
      have hxz := Lib.hid hx
      clear hcd hkn hz hrr hx
      go_upto_region 5 with fail
      have hw3 : W.heap.size + 3 ≤ wk.heap.size := by have := hsz.out; omega
      have r1 : Below (W.heap.size + 3) wk (wk.alloc (.cells #[.float .f64 ua, .float .f64 ub, .int .u8 uk] 36)).drew := ((below_al (Below.refl wk.heap.size wk) _).mono hw3).drew
      obtain ⟨v', w3, hrun, ho3, hb3, _, _, _⟩ := run_push_at (P := Tryd.prog) el28 32 ((ho.alloc (.cells #[.float .f64 ua, .float .f64 ub, .int .u8 uk] 36)).drawn (Drawn.refl _).drew) [.float .f64 ua, .float .f64 ub, .int .u8 uk] wk.heap.size 36 (heap_alloc_at wk _) rfl (by simp [Value.oneCell']) (by rw [hlk.out]; omega) (Nat.le_trans hw3 (Nat.le_of_lt (heap_lt (heap_alloc_at wk (.cells #[.float .f64 ua, .float .f64 ub, .int .u8 uk] 36)))))
      obtain ⟨g3, cap3, rfl, hg3a, hg3b⟩ := own_form ho3
      rw [hlk.out] at ho3 hrun
      rw [appG_hook] at hrun
      have r2 : Below (W.heap.size + 3) wk w3 := r1.trans hb3
      have z3 : w3.heap[W.heap.size + 2]? = some (.cells #[.float .f64 al, .float .f64 tg, .float .f64 kp, .float .f64 ki, .float .f64 cap, .int .i64 mo, vx] 34) := (r2.block _ (Nat.lt_succ_self _)).trans hxz.out
      have xk : wk.cell? ⟨W.heap.size + 1 + 1, 6, none⟩ = some vx := x6
      have xl : (wk.alloc (.cells #[.float .f64 ua, .float .f64 ub, .int .u8 uk] 36)).cell? ⟨W.heap.size + 1 + 1, 6, none⟩ = some vx := (World.cell?_of_block (r1.block _ (Nat.lt_succ_self _))).trans x6
      have hlt2 : W.heap.size + 1 + 1 < wk.heap.size := hw3
      have zz6 : w3.cell? ⟨W.heap.size + 1 + 1, 6, none⟩ = some vx := by rw [show W.heap.size + 1 + 1 = W.heap.size + 2 from rfl, cell_of_row _ _ 6 _ 34 (0, 0) z3]; rfl
      have zf6 : w3.frozen? ⟨W.heap.size + 1 + 1, 6, none⟩ = false := frozen_row z3 6
      replace hb3 := Lib.hid hb3
      replace ho3 := Lib.hid ho3
      replace r2 := Lib.hid r2
      replace z3 := Lib.hid z3
      replace ho := Lib.hid ho
      replace hb := Lib.hid hb
      clear r1 x6
      go_region
      go_wp2
      go_roundw
      have n0 : W.heap.size ≠ W.heap.size + 1 + 1 := by omega
      have n1 : W.heap.size + 1 ≠ W.heap.size + 1 + 1 := by omega
      case rel =>
        refine ⟨k + 1, .slice (some ⟨g3, 0, none⟩) (k + 1) cap3, by omega, by go_num, heap_set_far ((r2.out.block _ (by omega)).trans hzz.out) n0 _, heap_set_far ((r2.out.block _ (by omega)).trans hrrz.out) n1 _, heap_set z3.out 6 _, ?_, ?_⟩
        · rw [hrow.out]
          exact ho3.out.keep fun q hq => Below.heap_setCell w3 _ _ q (fun e => by
            have e1 := (ho3.out.lt q hq).1
            have e2 : q = W.heap.size + 1 + 1 := e
            omega)
        · exact (hb.out.trans (r2.out.mono (by omega))).setCell (p := ⟨W.heap.size + 1 + 1, 6, none⟩) (by show W.heap.size ≤ W.heap.size + 1 + 1; omega) _
      case measure => first | (simp [intOf]; done) | (simp [intOf]; omega)
end Go.Proofs.YtdjdkhbagoideaaDoor
