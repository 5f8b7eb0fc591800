/- Idle: a device of a book wakes, its parents first: the closure of Get, walked. -/
import Derived.Test.YtgnhddnhcfmipaaBook2
import Derived.Deep.RegionLaw
namespace Go.Proofs.Ytgnhddnhcfmipaa
open Go.RowKit Go.BigFrame

structure Ev where
  t : Int
  d : Int
  a : Bool
def erow (e : Ev) : List Value := [.int .i64 e.t, .int .i64 e.d, .bool e.a]
def zd : Dv := ⟨0, 0, 0, 0, false, 0⟩
def Par (ds : List Dv) : Prop := ∀ (i : Nat) (x : Dv), ds[i]? = some x → -1 ≤ x.p ∧ x.p < (i : Int)
/-- what a device's waking makes of the devices, and tells -/
def wk : Nat → List Dv → Int → Nat → List Dv × List Ev
  | 0, ds, _, _ => (ds, [])
  | f + 1, ds, now, i =>
    let x := ds.getD i zd
    if x.a = true then (ds, [])
    else if 0 ≤ x.p then
      let q := wk f ds now x.p.toNat
      let y := q.1.getD x.p.toNat zd
      ((q.1.set x.p.toNat { y with k := wrap64 (y.k + 1) }).set i { x with a := true }, q.2 ++ [⟨now, i, true⟩])
    else (ds.set i { x with a := true }, [⟨now, i, true⟩])
theorem getD_of {ds : List Dv} {i : Nat} {x : Dv} (h : ds[i]? = some x) : ds.getD i zd = x := by rw [List.getD_eq_getElem?_getD, h]; rfl
theorem wk_len : ∀ (f : Nat) (ds : List Dv) (now : Int) (i : Nat), (wk f ds now i).1.length = ds.length
  | 0, _, _, _ => rfl
  | f + 1, ds, now, i => by
    unfold wk
    simp only
    split
    · rfl
    · split
      · simp only [List.length_set]; exact wk_len f ds now _
      · simp only [List.length_set]
theorem wk_far : ∀ (f : Nat) (ds : List Dv) (now : Int) (i : Nat), Par ds → ∀ j, i < j → (wk f ds now i).1[j]? = ds[j]?
  | 0, _, _, _, _, _, _ => rfl
  | f + 1, ds, now, i, hp, j, hj => by
    unfold wk
    simp only
    split
    · rfl
    · split
      · rename_i h0
        have hpi : (ds.getD i zd).p < (i : Int) ∨ ds.getD i zd = zd := by
          cases e : ds[i]? with
          | none => right; rw [List.getD_eq_getElem?_getD, e]; rfl
          | some x => left; rw [getD_of e]; exact (hp i x e).2
        have hlt : (ds.getD i zd).p.toNat < j := by
          rcases hpi with q | q
          · omega
          · rw [q]; show (0 : Int).toNat < j; simp; omega
        rw [List.getElem?_set_ne (by omega), List.getElem?_set_ne (by omega)]
        exact wk_far f ds now _ hp j hlt
      · rw [List.getElem?_set_ne (by omega)]
theorem wk_ev : ∀ (f : Nat) (ds : List Dv) (now : Int) (i : Nat), Par ds → i < ds.length → (wk f ds now i).2.length ≤ i + 1
  | 0, _, _, _, _, _ => by unfold wk; simp
  | f + 1, ds, now, i, hp, hi => by
    unfold wk
    simp only
    split
    · simp
    · split
      · rename_i h0
        have e := List.getElem?_eq_getElem hi
        rw [getD_of e] at h0 ⊢
        have := (hp i _ e).2
        have q := wk_ev f ds now ds[i].p.toNat hp (by omega)
        rw [List.length_append]
        simp only [List.length_cons, List.length_nil]
        omega
      · simp
theorem el70 : Elt Try.prog 70 84 3 24 := Elt.of (z := .agg #[.int .i64 0, .int .i64 0, .bool false]) Try.underlying70 (by kernel_rfl) rfl (by decide) (by decide)
/-- an append of one row at a step of a region that draws; what was -/
theorem step_push_at {P : Program} {ops : Array Oper} {o : Oper} {a : Act} {w : World} {K : Act → World → Prop} {Q : Exit → Act → World → Prop} {E : Prop} {t e : TypeId} {size bytes : Nat} (el : Elt P t e size bytes) (hg : o.guard = none) (s x : Operand)
    (ho : o.op = .call { callee := .builtin .append, args := #[s, x], argTypes := #[t, t] }) {base : Nat} {v : Value} {xs : List (List Value)} (hs : a.eval s = v) (hown : Own w base e size xs v)
    (row : List Value) (g0 : Nat) (T : TypeId) (hx : a.eval x = .slice (some ⟨g0, 0, none⟩) 1 1) (hg0 : w.heap[g0]? = some (.cells row.toArray T)) (hl : row.length = size)
    (h1 : ∀ u ∈ row, u.oneCell' = true) (hbytes : (xs.length + 1) * bytes ≤ 140737488355328) (hbase : base ≤ w.heap.size)
    (h : ∀ v' w', Own w' base e size (xs ++ [row]) v' → Below base w w' → w.grownBy w' v.ownBlock → (v'.ownBlock = v.ownBlock ∨ v'.ownBlock = some w.heap.size) → K (a.put o.dst v') w') :
    if Region.wanted o (yielded ops a.tmps) = true then Oper.wp P o a w K Q else E := by
  obtain ⟨v', w', hrun, h2, h3, _, h5, h6⟩ := run_push_at el o.type hown row g0 T hg0 hl h1 hbytes hbase
  exact step_run hg s x t ho hs hx hrun (h v' w' h2 h3 h5 h6)
theorem own_form {w : World} {base : Nat} {e : TypeId} {size : Nat} {xs : List (List Value)} {r : List Value} {v : Value} (h : Own w base e size (xs ++ [r]) v) : ∃ g c, v = .slice (some ⟨g, 0, none⟩) (xs.length + 1) c ∧ base ≤ g ∧ g < w.heap.size := by
  obtain ⟨g, c, e, _, h2, _⟩ := h.form (by rw [List.length_append]; simp)
  rw [List.length_append] at e
  exact ⟨g, c, e, (h.lt g (by rw [e]; rfl)).1, (h.lt g (by rw [e]; rfl)).2⟩
def fwake (H : Nat) : Value := .func (.func 51) #[] #[.pointer (some ⟨H, 0, none⟩), .pointer (some ⟨H + 2, 0, none⟩), .pointer (some ⟨H + 1, 0, none⟩)]
/-- the closure's boxes, the book, what is told so far -/
structure Wk (W : World) (H B bb : Nat) (v vo : Value) (ds : List Dv) (now : Int) (ev : List Ev) : Prop where
  bk : Bp W B bb v ds now
  lb : bb < H
  lv : ∀ g, v.ownBlock = some g → g < H
  b1 : W.heap[H]? = some (.cells #[.pointer (some ⟨bb, 0, none⟩)] 63)
  b2 : W.heap[H + 2]? = some (.cells #[fwake H] 107)
  b3 : W.heap[H + 1]? = some (.cells #[vo] 70)
  o : Own W (H + 3) 84 3 (ev.map erow) vo
theorem Wk.keep {W W' : World} {H B bb : Nat} {v vo : Value} {ds : List Dv} {now : Int} {ev : List Ev} (h : Wk W H B bb v vo ds now ev) (k : ∀ b, b < W.heap.size → W'.heap[b]? = W.heap[b]?) : Wk W' H B bb v vo ds now ev :=
  ⟨h.bk.keep (k _ h.bk.lt) (fun g hg => k _ (h.bk.own.lt g hg).2), h.lb, h.lv, (k _ (heap_lt h.b1)).trans h.b1, (k _ (heap_lt h.b2)).trans h.b2, (k _ (heap_lt h.b3)).trans h.b3, h.o.keep fun g hg => k _ (h.o.lt g hg).2⟩
theorem Wk.drawn {W W' : World} {H B bb : Nat} {v vo : Value} {ds : List Dv} {now : Int} {ev : List Ev} (h : Wk W H B bb v vo ds now ev) (d : Drawn W W') : Wk W' H B bb v vo ds now ev := h.keep fun b _ => by rw [d.heap]
theorem Wk.set {W : World} {H B bb g c m : Nat} {vo : Value} {ds : List Dv} {now : Int} {ev : List Ev} (h : Wk W H B bb (.slice (some ⟨g, 0, none⟩) m c) vo ds now ev) {i : Nat} {y : Dv} (hy : ds[i]? = some y) (f : Nat) (hf : f < 6) (u : Value) (x : Dv) (hx : drow x = (drow y).set f u) :
    Wk (W.setCell ⟨g, i * 6 + f, none⟩ u) H B bb (.slice (some ⟨g, 0, none⟩) m c) vo (ds.set i x) now ev := by
  have hg : g < H := h.lv g rfl
  refine ⟨h.bk.set' hy f hf u x hx, h.lb, h.lv, heap_set_far h.b1 (by show H ≠ g; omega) u, heap_set_far h.b2 (by show H + 2 ≠ g; omega) u, heap_set_far h.b3 (by show H + 1 ≠ g; omega) u, h.o.keep fun q hq => Below.heap_setCell W _ _ q (fun e => ?_)⟩
  have := (h.o.lt q hq).1
  have e' : q = g := e
  omega
/-- one more is told -/
theorem Wk.tell {W W1 w3 : World} {H B bb : Nat} {v vo v' : Value} {ds : List Dv} {now : Int} {ev : List Ev} (h : Wk W H B bb v vo ds now ev) (h1 : Below W.heap.size W W1) (e : Ev)
    (ho : Own w3 (H + 3) 84 3 (ev.map erow ++ [erow e]) v') (hb : Below (H + 3) W1 w3) : Wk (w3.setCell ⟨H + 1, 0, none⟩ v') H B bb v v' ds now (ev ++ [e]) := by
  have hs : ∀ b, b < H + 3 → b < W.heap.size → w3.heap[b]? = W.heap[b]? := fun b q1 q2 => (hb.block b q1).trans (h1.block b q2)
  have hf : ∀ b, b ≠ H + 1 → (w3.setCell ⟨H + 1, 0, none⟩ v').heap[b]? = w3.heap[b]? := fun b q => Below.heap_setCell w3 _ _ b q
  have lb := h.lb
  have hk := fun b q1 q2 q3 => (hf b q3).trans (hs b q1 q2)
  refine ⟨h.bk.keep (hk _ (by omega) h.bk.lt (by omega)) (fun g hg => hk _ (by have := h.lv g hg; omega) (h.bk.own.lt g hg).2 (by have := h.lv g hg; omega)), h.lb, h.lv, (hk _ (by omega) (heap_lt h.b1) (by omega)).trans h.b1, (hk _ (by omega) (heap_lt h.b2) (by omega)).trans h.b2, ?_, ?_⟩
  · exact heap_set ((hs _ (by omega) (heap_lt h.b3)).trans h.b3) 0 v'
  · rw [List.map_append]
    exact ho.keep fun q hq => hf q (by have := (ho.lt q hq).1; omega)
set_option maxHeartbeats 8000000 in
set_option maxRecDepth 100000 in
theorem wake_any (H B bb : Nat) (v : Value) (now : Int) : ∀ (f i : Nat) (W : World) (vo : Value) (ds : List Dv) (ev : List Ev), i < f → i < ds.length → Par ds → ev.length + i ≤ 100000 → Wk W H B bb v vo ds now ev →
    Calls Try.prog 51 #[.int .i64 i, .pointer (some ⟨H, 0, none⟩), .pointer (some ⟨H + 2, 0, none⟩), .pointer (some ⟨H + 1, 0, none⟩)] W fun e w' => e = .returned (.tuple #[]) ∧ ∃ vo', Wk w' H B bb v vo' (wk f ds now i).1 now (ev ++ (wk f ds now i).2) ∧ Fr H (fun b => v.ownBlock = some b) W w' := by
  intro f
  induction f with
  | zero => intro i W vo ds ev hf; omega
  | succ f ih =>
    intro i W vo ds ev hf hi hp hE hW
    obtain ⟨g, c, rfl, hBg, hgl, hgb, c0, c1, c2, c3, c4, c5, hfz⟩ := hW.bk.dev hi
    have hx : ds[i]? = some ds[i] := List.getElem?_eq_getElem hi
    have hpx := hp i _ hx
    unfold wk
    simp only
    rw [getD_of hx]
    have y0 := hW.bk.c0
    have y1 := hW.bk.c1
    have x1 : W.cell? ⟨H, 0, none⟩ = some (.pointer (some ⟨bb, 0, none⟩)) := cell_of_row _ _ 0 _ 63 (0, 0) hW.b1
    have x2 : W.cell? ⟨H + 2, 0, none⟩ = some (fwake H) := cell_of_row _ _ 0 _ 107 (0, 0) hW.b2
    have x3 : W.cell? ⟨H + 1, 0, none⟩ = some vo := cell_of_row _ _ 0 _ 70 (0, 0) hW.b3
    unfold fwake at x2
    generalize ds[i] = x at *
    by_cases ha : x.a = true
    · rw [if_pos ha]
      rw [ha] at c4
      clear ih ha
      go_enter Try.func51, Try.ntmps51
      go_wp2
      refine bodyPost_ret (results_none rfl _ _ _) rfl ?_
      exact ⟨rfl, vo, by rw [List.append_nil]; exact hW, Fr.refl _ _ _⟩
    · rw [if_neg ha]
      have ha' : x.a = false := by simpa using ha
      rw [ha'] at c4
      by_cases h0 : 0 ≤ x.p
      · rw [if_pos h0]
        obtain ⟨pn, hpn⟩ : ∃ pn : Nat, x.p = (pn : Int) := ⟨x.p.toNat, by omega⟩
        rw [hpn] at c0
        have hpi : pn < i := by omega
        have hih := fun W' hW' => ih pn W' vo ds ev (by omega) (by omega) hp (by omega) hW'
        have hfar := wk_far f ds now pn hp i hpi
        have hlen := wk_len f ds now pn
        have hevl := wk_ev f ds now pn hp (by omega)
        rw [hpn, Int.toNat_natCast]
        generalize wk f ds now pn = R at *
        obtain ⟨ds1, ev1⟩ := R
        simp only at hih hfar hlen hevl ⊢
        have hx1 : ds1[i]? = some x := hfar.trans hx
        have hpl : pn < ds1.length := by omega
        have hy : ds1[pn]? = some ds1[pn] := List.getElem?_eq_getElem hpl
        rw [getD_of hy]
        generalize ds1[pn] = y at *
        have hpd : pn < ds.length := by omega
        have hW0 := Lib.hid (fun W' (hd : Drawn W W') => hW.drawn hd)
        have hpn' := Lib.hid hpn
        clear ih hfar hp hpx hpn h0 hfz ha hW
        go_enter Try.func51, Try.ntmps51
        go_upto_region 3 with fail
        go_region_law (go_simp; go_at_call 51; (with_reducible refine (hih _ (hW0.out _ (Drawn.refl _).drew)).mono ?_); rintro e w1 ⟨rfl, vo1, hW1, hF1⟩)
        all_goals go_upto_region 4 with fail
        all_goals (
          obtain ⟨p0, _, _, _, p4, _, pf⟩ := hW1.bk.dv hx1
          obtain ⟨_, _, _, q3, _, _, qf⟩ := hW1.bk.dv hy
          rw [hpn'.out] at p0
          have qf3 := qf 3 (by decide)
          clear c1 c2 c3 c4 c5 c0 x1 x2 x3 y0 y1 qf pf
          have x1 : w1.cell? ⟨H, 0, none⟩ = some (.pointer (some ⟨bb, 0, none⟩)) := cell_of_row _ _ 0 _ 63 (0, 0) hW1.b1
          have y0 := hW1.bk.c0
          have hF0 : Fr H (fun b => (Value.slice (some ⟨g, 0, none⟩) ds.length c).ownBlock = some b) W w1 := ⟨(Below.refl 0 W).drew.trans hF1.g, hF1.k⟩
          go_region)
        all_goals go_upto_region 5 with fail
        all_goals (
          refine wp_world ?_
          intro wY hY
          have hW2 : Wk wY H B bb (.slice (some ⟨g, 0, none⟩) ds.length c) vo1 (ds1.set pn { y with k := wrap64 (y.k + 1) }) now (ev ++ ev1) := by rw [hY]; exact (hW1.set hy 3 (by decide) (.int .i64 (wrap64 (y.k + 1))) { y with k := wrap64 (y.k + 1) } rfl).drawn ((Drawn.refl _).drew)
          have hF2 : Fr H (fun b => (Value.slice (some ⟨g, 0, none⟩) ds.length c).ownBlock = some b) W wY := by rw [hY]; exact (hF0.set (p := ⟨g, pn * 6 + 3, none⟩) (fun _ => by rfl) _).drawn ((Drawn.refl _).drew)
          have hx2 : (ds1.set pn { y with k := wrap64 (y.k + 1) })[i]? = some x := by rw [List.getElem?_set_ne (by omega)]; exact hx1
          clear hY p0 p4 q3 qf3 x1 y0 hF0 hF1 hW1
          obtain ⟨_, _, _, _, p4, _, pf⟩ := hW2.bk.dv hx2
          have f4 := pf 4 (by decide)
          have hW1 := hW2.set hx2 4 (by decide) (.bool true) { x with a := true } rfl
          have hF1 : Fr H (fun b => (Value.slice (some ⟨g, 0, none⟩) ds.length c).ownBlock = some b) W (wY.setCell ⟨g, i * 6 + 4, none⟩ (.bool true)) := hF2.set (p := ⟨g, i * 6 + 4, none⟩) (fun _ => by rfl) _
          clear pf
          go_upto_region 6 with fail
          refine wp_world ?_
          intro wX hX
          rw [← hX] at hW1 hF1
          clear hX p4 f4 hW2 hF2
          have x1 : wX.cell? ⟨H, 0, none⟩ = some (.pointer (some ⟨bb, 0, none⟩)) := cell_of_row _ _ 0 _ 63 (0, 0) hW1.b1
          have x3 : wX.cell? ⟨H + 1, 0, none⟩ = some vo1 := cell_of_row _ _ 0 _ 70 (0, 0) hW1.b3
          have y1 := hW1.bk.c1
          have ho := hW1.o
          have hHs : H + 2 < wX.heap.size := heap_lt hW1.b2
          have hHs1 : H + 1 < wX.heap.size := by omega
          have hHs0 : H < wX.heap.size := by omega
          have hbbs : bb < wX.heap.size := hW1.bk.lt
          have hle : Hid (((ev ++ ev1).map erow).length = ev.length + ev1.length) := Lib.hid (by rw [List.length_map, List.length_append])
          have hap : Hid (ev ++ (ev1 ++ [⟨now, i, true⟩]) = (ev ++ ev1) ++ [⟨now, i, true⟩]) := Lib.hid (List.append_assoc _ _ _).symm
          go_region_law (first
            | (refine step_push_at el70 rfl (.tmp 44) (.tmp 51) rfl rfl ((ho.drawn ((Drawn.refl _).drew)).alloc _) (erow ⟨now, i, true⟩) wX.heap.size 84 rfl (heap_alloc_at wX _) rfl (by simp [erow, Value.oneCell']) (by rw [hle.out]; omega) ?hb (fun v' w3 ho3 hb3 hg3 hat3 => ?_); (case hb => (have q := size_al wX (.cells (erow ⟨now, i, true⟩).toArray 84); (show _ ≤ (wX.alloc (.cells (erow ⟨now, i, true⟩).toArray 84)).heap.size); omega)); obtain ⟨g3, cap3, rfl, hg3a, hg3b⟩ := own_form ho3; rw [hle.out] at ho3; have z3 : w3.heap[H + 1]? = some (.cells #[vo1] 70) := (hb3.block _ (by omega)).trans ((Below.heap_alloc wX _ _ (by omega)).trans hW1.b3); have y2 : w3.cell? ⟨H + 1, 0, none⟩ = some vo1 := cell_of_row _ _ 0 _ 70 (0, 0) z3; have yf : w3.frozen? ⟨H + 1, 0, none⟩ = false := frozen_row z3 0; clear z3)))
        all_goals go_wp2
        all_goals go_end0
        all_goals exact ⟨rfl, _, by rw [hap.out, ← hpn'.out]; exact hW1.tell (below_al (Below.refl _ _) _).drew ⟨now, i, true⟩ ho3 hb3, (hF1.trans (Fr.of (((below_al (Below.refl _ _) _).drew.mono (by omega)).trans (hb3.mono (by omega))))).set (p := ⟨H + 1, 0, none⟩) (fun q => by (have q' : H + 1 < H := q); omega) _⟩
      · rw [if_neg h0]
        have f4 := hfz 4 (by decide)
        have hW1 := hW.set hx 4 (by decide) (.bool true) { x with a := true } rfl
        have hF1 : Fr H (fun b => (Value.slice (some ⟨g, 0, none⟩) ds.length c).ownBlock = some b) W (W.setCell ⟨g, i * 6 + 4, none⟩ (.bool true)) := Fr.set (Fr.refl _ _ _) (fun _ => by rfl) _
        clear ih hfz ha ha' hp hpx
        go_enter Try.func51, Try.ntmps51
        go_upto_region 6 with fail
        refine wp_world ?_
        intro wX hX
        rw [← hX] at hW1 hF1
        clear hX c0 c1 c2 c3 c4 c5 x1 x2 x3 y0 y1 f4 hW
        have x1 : wX.cell? ⟨H, 0, none⟩ = some (.pointer (some ⟨bb, 0, none⟩)) := cell_of_row _ _ 0 _ 63 (0, 0) hW1.b1
        have x3 : wX.cell? ⟨H + 1, 0, none⟩ = some vo := cell_of_row _ _ 0 _ 70 (0, 0) hW1.b3
        have y1 := hW1.bk.c1
        have ho := hW1.o
        have hHs : H + 2 < wX.heap.size := heap_lt hW1.b2
        have hHs1 : H + 1 < wX.heap.size := by omega
        have hHs0 : H < wX.heap.size := by omega
        have hbbs : bb < wX.heap.size := hW1.bk.lt
        have hle : Hid ((ev.map erow).length = ev.length) := Lib.hid (List.length_map _)
        go_region_law (first
          | (refine step_push_at el70 rfl (.tmp 44) (.tmp 51) rfl rfl ((ho.drawn ((Drawn.refl _).drew)).alloc _) (erow ⟨now, i, true⟩) wX.heap.size 84 rfl (heap_alloc_at wX _) rfl (by simp [erow, Value.oneCell']) (by rw [hle.out]; omega) ?hb (fun v' w3 ho3 hb3 hg3 hat3 => ?_); (case hb => (have q := size_al wX (.cells (erow ⟨now, i, true⟩).toArray 84); (show _ ≤ (wX.alloc (.cells (erow ⟨now, i, true⟩).toArray 84)).heap.size); omega)); obtain ⟨g3, cap3, rfl, hg3a, hg3b⟩ := own_form ho3; rw [hle.out] at ho3; have z3 : w3.heap[H + 1]? = some (.cells #[vo] 70) := (hb3.block _ (by omega)).trans ((Below.heap_alloc wX _ _ (by omega)).trans hW1.b3); have y2 : w3.cell? ⟨H + 1, 0, none⟩ = some vo := cell_of_row _ _ 0 _ 70 (0, 0) z3; have yf : w3.frozen? ⟨H + 1, 0, none⟩ = false := frozen_row z3 0; clear z3))
        all_goals go_wp2
        all_goals go_end0
        all_goals exact ⟨rfl, ⟨_, hW1.tell (below_al (Below.refl _ _) _).drew ⟨now, i, true⟩ ho3 hb3⟩, (hF1.trans (Fr.of (((below_al (Below.refl _ _) _).drew.mono (by omega)).trans (hb3.mono (by omega))))).set (p := ⟨H + 1, 0, none⟩) (fun q => by (have q' : H + 1 < H := q); omega) _⟩
end Go.Proofs.Ytgnhddnhcfmipaa
