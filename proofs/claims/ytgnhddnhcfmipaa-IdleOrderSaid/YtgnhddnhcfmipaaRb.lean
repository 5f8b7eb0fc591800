/- Idle: the reference's book in memory; there, Uses, told, Put, walked. -/
import Derived.Test.YtgnhddnhcfmipaaGet
namespace Go.Proofs.Ytgnhddnhcfmipaa
open Go.RowKit Go.BigFrame

theorem el77 : Elt Try.prog 77 115 6 48 := Elt.of (z := .agg #[.int .i64 0, .int .i64 0, .int .i64 0, .int .i64 0, .bool false, .int .i64 0]) Try.underlying77 (by kernel_rfl) rfl (by decide) (by decide)
theorem el69 : Elt Try.prog 69 120 3 24 := Elt.of (z := .agg #[.int .i64 0, .int .i64 0, .bool false]) Try.underlying69 (by kernel_rfl) rfl (by decide) (by decide)
theorem drows_len (ds : List Dv) : ∀ r ∈ ds.map drow, r.length = 6 := fun r hr => by obtain ⟨q, _, rfl⟩ := List.mem_map.1 hr; rfl
/-- the reference's book in memory: its three cells; its devices' rows; what is told so far, in a block behind H -/
structure Rk (W : World) (H B bb : Nat) (v vo : Value) (ds : List Dv) (now : Int) (ev : List Ev) : Prop where
  hb : W.heap[bb]? = some (.cells #[v, .int .i64 now, vo] 79)
  own : Own W B 115 6 (ds.map drow) v
  ne : v.ownBlock ≠ some bb
  lb : bb < H
  lv : ∀ g, v.ownBlock = some g → g < H
  o : Own W H 120 3 (ev.map erow) vo
  lh : H ≤ W.heap.size
theorem Rk.lt {W : World} {H B bb : Nat} {v vo : Value} {ds : List Dv} {now : Int} {ev : List Ev} (h : Rk W H B bb v vo ds now ev) : bb < W.heap.size := heap_lt h.hb
theorem Rk.c0 {W : World} {H B bb : Nat} {v vo : Value} {ds : List Dv} {now : Int} {ev : List Ev} (h : Rk W H B bb v vo ds now ev) : W.cell? ⟨bb, 0, none⟩ = some v := cell_of_row _ _ 0 _ 79 (0, 0) h.hb
theorem Rk.c1 {W : World} {H B bb : Nat} {v vo : Value} {ds : List Dv} {now : Int} {ev : List Ev} (h : Rk W H B bb v vo ds now ev) : W.cell? ⟨bb, 1, none⟩ = some (.int .i64 now) := cell_of_row _ _ 1 _ 79 (0, 0) h.hb
theorem Rk.c2 {W : World} {H B bb : Nat} {v vo : Value} {ds : List Dv} {now : Int} {ev : List Ev} (h : Rk W H B bb v vo ds now ev) : W.cell? ⟨bb, 2, none⟩ = some vo := cell_of_row _ _ 2 _ 79 (0, 0) h.hb
theorem Rk.fz {W : World} {H B bb : Nat} {v vo : Value} {ds : List Dv} {now : Int} {ev : List Ev} (h : Rk W H B bb v vo ds now ev) (i : Nat) : W.frozen? ⟨bb, i, none⟩ = false := frozen_row h.hb i
theorem Rk.form {W : World} {H B bb : Nat} {v vo : Value} {ds : List Dv} {now : Int} {ev : List Ev} (h : Rk W H B bb v vo ds now ev) : ∃ A c, v = .slice A ds.length c ∧ ds.length ≤ 9223372036854775807 := by
  obtain ⟨A, c, e, hs⟩ := h.own.sl
  rw [List.length_map] at e
  have := hs.1
  rw [List.length_map] at this
  exact ⟨A, c, e, this⟩
theorem Rk.keep {W W' : World} {H B bb : Nat} {v vo : Value} {ds : List Dv} {now : Int} {ev : List Ev} (h : Rk W H B bb v vo ds now ev) (hs : W.heap.size ≤ W'.heap.size) (k : ∀ b, b < W.heap.size → W'.heap[b]? = W.heap[b]?) : Rk W' H B bb v vo ds now ev :=
  ⟨(k _ h.lt).trans h.hb, h.own.keep (fun g hg => k _ (h.own.lt g hg).2), h.ne, h.lb, h.lv, h.o.keep (fun g hg => k _ (h.o.lt g hg).2), Nat.le_trans h.lh hs⟩
theorem Rk.drawn {W W' : World} {H B bb : Nat} {v vo : Value} {ds : List Dv} {now : Int} {ev : List Ev} (h : Rk W H B bb v vo ds now ev) (d : Drawn W W') : Rk W' H B bb v vo ds now ev := h.keep (by rw [d.heap]; exact Nat.le_refl _) fun b _ => by rw [d.heap]
theorem Rk.below {W W' : World} {H B bb : Nat} {v vo : Value} {ds : List Dv} {now : Int} {ev : List Ev} (h : Rk W H B bb v vo ds now ev) (d : Below W.heap.size W W') : Rk W' H B bb v vo ds now ev := h.keep d.size fun b q => d.block b q
/-- a device's cells -/
theorem own_dv {W : World} {B T : Nat} {v : Value} {ds : List Dv} (ho : Own W B T 6 (ds.map drow) v) {i : Nat} {x : Dv} (hx : ds[i]? = some x) : ∃ g c, v = .slice (some ⟨g, 0, none⟩) ds.length c ∧ B ≤ g ∧ g < W.heap.size ∧
    W.cell? ⟨g, i * 6, none⟩ = some (.int .i64 x.p) ∧ W.cell? ⟨g, i * 6 + 1, none⟩ = some (.int .i64 x.d) ∧ W.cell? ⟨g, i * 6 + 2, none⟩ = some (.int .i64 x.t) ∧ W.cell? ⟨g, i * 6 + 3, none⟩ = some (.int .i64 x.k) ∧
    W.cell? ⟨g, i * 6 + 4, none⟩ = some (.bool x.a) ∧ W.cell? ⟨g, i * 6 + 5, none⟩ = some (.int .i64 x.s) ∧ ∀ f, f < 6 → W.frozen? ⟨g, i * 6 + f, none⟩ = false := by
  obtain ⟨hi, rfl⟩ := List.getElem?_eq_some_iff.1 hx
  have hl : (ds.map drow).length = ds.length := List.length_map _
  obtain ⟨g, c, rfl, h1, h2, h3⟩ := ho.form (by omega)
  rw [hl]
  have hcell := fun (f : Nat) (u : Value) (hu : (drow ds[i])[f]? = some u) => ho.cell (k := i) (by omega) (f := f) (u := u) (by rw [List.getElem_map]; exact hu)
  refine ⟨g, c, rfl, (ho.lt g rfl).1, (ho.lt g rfl).2, (hcell 0 _ rfl).1, (hcell 1 _ rfl).1, (hcell 2 _ rfl).1, (hcell 3 _ rfl).1, (hcell 4 _ rfl).1, (hcell 5 _ rfl).1, fun f hf => ?_⟩
  match f, hf with
  | 0, _ => exact (hcell 0 _ rfl).2
  | 1, _ => exact (hcell 1 _ rfl).2
  | 2, _ => exact (hcell 2 _ rfl).2
  | 3, _ => exact (hcell 3 _ rfl).2
  | 4, _ => exact (hcell 4 _ rfl).2
  | 5, _ => exact (hcell 5 _ rfl).2
theorem Rk.dv {W : World} {H B bb g c m : Nat} {vo : Value} {ds : List Dv} {now : Int} {ev : List Ev} (h : Rk W H B bb (.slice (some ⟨g, 0, none⟩) m c) vo ds now ev) {i : Nat} {x : Dv} (hx : ds[i]? = some x) :
    W.cell? ⟨g, i * 6, none⟩ = some (.int .i64 x.p) ∧ W.cell? ⟨g, i * 6 + 1, none⟩ = some (.int .i64 x.d) ∧ W.cell? ⟨g, i * 6 + 2, none⟩ = some (.int .i64 x.t) ∧ W.cell? ⟨g, i * 6 + 3, none⟩ = some (.int .i64 x.k) ∧
    W.cell? ⟨g, i * 6 + 4, none⟩ = some (.bool x.a) ∧ W.cell? ⟨g, i * 6 + 5, none⟩ = some (.int .i64 x.s) ∧ ∀ f, f < 6 → W.frozen? ⟨g, i * 6 + f, none⟩ = false := by
  obtain ⟨g', c', e, _, _, r⟩ := own_dv h.own hx
  obtain ⟨e1, _, _⟩ := Value.slice.inj e
  cases e1
  exact r
/-- a field of a device is written -/
theorem own_set {W : World} {B T g c m : Nat} {ds : List Dv} (ho : Own W B T 6 (ds.map drow) (.slice (some ⟨g, 0, none⟩) m c)) {i : Nat} {y : Dv} (hy : ds[i]? = some y) (f : Nat) (hf : f < 6) (u : Value) (x : Dv) (hx : drow x = (drow y).set f u) :
    Own (W.setCell ⟨g, i * 6 + f, none⟩ u) B T 6 ((ds.set i x).map drow) (.slice (some ⟨g, 0, none⟩) m c) := by
  obtain ⟨hi, rfl⟩ := List.getElem?_eq_some_iff.1 hy
  have hl : (ds.map drow).length = ds.length := List.length_map _
  obtain ⟨A', c', e, _⟩ := ho.sl
  obtain ⟨_, e2, _⟩ := Value.slice.inj e
  subst e2
  have h2 := ho.set (k := i) (by omega) hf u
  have e : (ds.map drow).set i (((ds.map drow)[i]'(by omega)).set f u) = (ds.set i x).map drow := by
    rw [List.map_set, hx, List.getElem_map]
  rw [e] at h2
  exact h2
theorem Rk.set {W : World} {H B bb g c m : Nat} {vo : Value} {ds : List Dv} {now : Int} {ev : List Ev} (h : Rk W H B bb (.slice (some ⟨g, 0, none⟩) m c) vo ds now ev) {i : Nat} {y : Dv} (hy : ds[i]? = some y) (f : Nat) (hf : f < 6) (u : Value) (x : Dv) (hx : drow x = (drow y).set f u) :
    Rk (W.setCell ⟨g, i * 6 + f, none⟩ u) H B bb (.slice (some ⟨g, 0, none⟩) m c) vo (ds.set i x) now ev := by
  have hg : g < H := h.lv g rfl
  refine ⟨heap_set_far h.hb (fun e => h.ne (by rw [e]; rfl)) u, own_set h.own hy f hf u x hx, h.ne, h.lb, h.lv, h.o.keep fun q hq => Below.heap_setCell W _ _ q (fun e => ?_), by rw [size_set]; exact h.lh⟩
  have := (h.o.lt q hq).1
  have e' : q = g := e
  omega
/-- the time is written -/
theorem Rk.now {W : World} {H B bb : Nat} {v vo : Value} {ds : List Dv} {now : Int} {ev : List Ev} (h : Rk W H B bb v vo ds now ev) (n : Int) : Rk (W.setCell ⟨bb, 1, none⟩ (.int .i64 n)) H B bb v vo ds n ev := by
  have lb := h.lb
  exact ⟨heap_set h.hb 1 _, h.own.keep fun g hg => Below.heap_setCell W _ _ g (fun e => h.ne (by rw [hg]; exact congrArg some e)), h.ne, h.lb, h.lv, h.o.keep fun q hq => Below.heap_setCell W _ _ q (fun e => by
    have := (h.o.lt q hq).1
    have e' : q = bb := e
    omega), by rw [size_set]; exact h.lh⟩
/-- one more is told -/
theorem Rk.tell {W W1 w3 : World} {H B bb : Nat} {v vo v' : Value} {ds : List Dv} {now : Int} {ev : List Ev} (h : Rk W H B bb v vo ds now ev) (h1 : Below W.heap.size W W1) (e : Ev)
    (ho : Own w3 H 120 3 (ev.map erow ++ [erow e]) v') (hb : Below H W1 w3) : Rk (w3.setCell ⟨bb, 2, none⟩ v') H B bb v v' ds now (ev ++ [e]) := by
  have hs : ∀ b, b < H → w3.heap[b]? = W.heap[b]? := fun b q1 => (hb.block b q1).trans (h1.block b (Nat.lt_of_lt_of_le q1 h.lh))
  have hf : ∀ b, b ≠ bb → (w3.setCell ⟨bb, 2, none⟩ v').heap[b]? = w3.heap[b]? := fun b q => Below.heap_setCell w3 _ _ b q
  have lb := h.lb
  refine ⟨heap_set ((hs _ lb).trans h.hb) 2 v', h.own.keep (fun g hg => (hf g (fun e => h.ne (by rw [hg, e]))).trans (hs g (h.lv g hg))), h.ne, h.lb, h.lv, ?_, ?_⟩
  · rw [List.map_append]
    exact ho.keep fun q hq => hf q (by have := (ho.lt q hq).1; omega)
  · rw [size_set]
    exact Nat.le_trans (Nat.le_trans h.lh h1.size) hb.size
/-- all is told -/
theorem Rk.took {W : World} {H B bb : Nat} {v vo : Value} {ds : List Dv} {now : Int} {ev : List Ev} (h : Rk W H B bb v vo ds now ev) : Rk (W.setCell ⟨bb, 2, none⟩ (.slice none 0 0)) H B bb v (.slice none 0 0) ds now [] ∧ Own (W.setCell ⟨bb, 2, none⟩ (.slice none 0 0)) H 120 3 (ev.map erow) vo := by
  have hf : ∀ b, b ≠ bb → (W.setCell ⟨bb, 2, none⟩ (.slice none 0 0)).heap[b]? = W.heap[b]? := fun b q => Below.heap_setCell W _ _ b q
  have lb := h.lb
  refine ⟨⟨heap_set h.hb 2 _, h.own.keep (fun g hg => hf g (fun e => h.ne (by rw [hg, e]))), h.ne, h.lb, h.lv, Own.nil _ _ _ _, by rw [size_set]; exact h.lh⟩, h.o.keep fun q hq => hf q (by have := (h.o.lt q hq).1; omega)⟩
theorem Rk.rise {W : World} {H H' B bb : Nat} {v : Value} {ds : List Dv} {now : Int} (h : Rk W H B bb v (.slice none 0 0) ds now []) (h1 : H ≤ H') (h2 : H' ≤ W.heap.size) : Rk W H' B bb v (.slice none 0 0) ds now [] :=
  ⟨h.hb, h.own, h.ne, Nat.lt_of_lt_of_le h.lb h1, fun g hg => Nat.lt_of_lt_of_le (h.lv g hg) h1, Own.nil _ _ _ _, h2⟩

theorem there_in {W : World} {H B bb : Nat} {v vo : Value} {ds : List Dv} {now : Int} {ev : List Ev} (h : Rk W H B bb v vo ds now ev) {i : Nat} (hi : i < ds.length) :
    Calls Try.prog 47 #[.pointer (some ⟨bb, 0, none⟩), .int .i64 i] W fun e w' => e = .returned (.bool true) ∧ w' = W := by
  obtain ⟨A, c, rfl, hl⟩ := h.form
  have c0 := h.c0
  have h1 : decide ((0 : Int) ≤ (i : Int)) = true := decide_eq_true (by omega)
  clear h
  go_enter Try.func47, Try.ntmps47
  go_wp2
  go_ret
  exact ⟨rfl, rfl⟩
theorem there_out {W : World} {H B bb : Nat} {v vo : Value} {ds : List Dv} {now : Int} {ev : List Ev} (h : Rk W H B bb v vo ds now ev) {i : Int} (hi : ¬ inb ds i) :
    Calls Try.prog 47 #[.pointer (some ⟨bb, 0, none⟩), .int .i64 i] W fun e w' => e = .returned (.bool false) ∧ w' = W := by
  obtain ⟨A, c, rfl, hl⟩ := h.form
  have c0 := h.c0
  have hor : i < 0 ∨ (0 ≤ i ∧ (ds.length : Int) ≤ i) := by unfold inb at hi; omega
  clear h hi
  rcases hor with h1 | ⟨h1, h2⟩
  · have h3 : ¬ 0 ≤ i := by omega
    go_enter Try.func47, Try.ntmps47
    go_wp2
    go_ret
    exact ⟨rfl, rfl⟩
  · have h3 : ¬ i < (ds.length : Int) := by omega
    go_enter Try.func47, Try.ntmps47
    go_wp2
    go_ret
    exact ⟨rfl, rfl⟩
theorem ruses_in {W : World} {H B bb g c m : Nat} {vo : Value} {ds : List Dv} {now : Int} {ev : List Ev} (h : Rk W H B bb (.slice (some ⟨g, 0, none⟩) m c) vo ds now ev) {i : Nat} {x : Dv} (hx : ds[i]? = some x) :
    Calls Try.prog 52 #[.pointer (some ⟨bb, 0, none⟩), .int .i64 i] W fun e w' => e = .returned (.int .i64 x.uses) ∧ Drawn W w' := by
  have hi := (List.getElem?_eq_some_iff.1 hx).1
  obtain ⟨A, c', e, hl⟩ := h.form
  have e2 := (Value.slice.inj e).2.1
  subst e2
  have K := there_in h hi
  have c0 := h.c0
  obtain ⟨_, _, c2, c3, _, _, _⟩ := h.dv hx
  unfold Dv.uses
  have i1 : ¬ (i : Int) < 0 := by omega
  have i2 : (i : Int) < (ds.length : Int) := by omega
  clear h hx e
  go_enter Try.func52, Try.ntmps52
  go_upto_region 3 with (go_at_call 47; (with_reducible refine (K).mono ?_); rintro e w1 ⟨rfl, rfl⟩)
  go_quiet (fail)
  go_wp2
  go_ret
  exact ⟨rfl, (Drawn.refl _).drewN _⟩
theorem ruses_any {W : World} {H B bb : Nat} {v vo : Value} {ds : List Dv} {now : Int} {ev : List Ev} (h : Rk W H B bb v vo ds now ev) (i : Int) :
    Calls Try.prog 52 #[.pointer (some ⟨bb, 0, none⟩), .int .i64 i] W fun e w' => e = .returned (.int .i64 (usesAt ds i)) ∧ Drawn W w' := by
  by_cases hi : inb ds i
  · obtain ⟨n, rfl⟩ : ∃ n : Nat, i = (n : Int) := ⟨i.toNat, by have := hi.1; omega⟩
    have hn := inb_nat.1 hi
    unfold usesAt
    rw [if_pos hi, getD_at hn]
    have hx : ds[n]? = some ds[n] := List.getElem?_eq_getElem hn
    obtain ⟨g, c, rfl, _⟩ := own_dv h.own hx
    exact ruses_in h hx
  · unfold usesAt
    rw [if_neg hi]
    have K := there_out h hi
    clear h hi
    go_enter Try.func52, Try.ntmps52
    go_wp2_with (go_at_call 47; (with_reducible refine (K).mono ?_); rintro e w1 ⟨rfl, rfl⟩)
    go_ret
    exact ⟨rfl, Drawn.refl _⟩
theorem told_any {W : World} {H B bb : Nat} {v vo : Value} {ds : List Dv} {now : Int} {ev : List Ev} (h : Rk W H B bb v vo ds now ev) :
    Calls Try.prog 49 #[.pointer (some ⟨bb, 0, none⟩)] W fun e w' => e = .returned vo ∧ w' = W.setCell ⟨bb, 2, none⟩ (.slice none 0 0) := by
  have c2 := h.c2
  have f2 := h.fz 2
  clear h
  go_enter Try.func49, Try.ntmps49
  go_wp2
  go_ret
  exact ⟨rfl, rfl⟩
set_option maxHeartbeats 4000000 in
theorem rput_any {W : World} {H B bb : Nat} {v vo : Value} {ds : List Dv} {now : Int} {ev : List Ev} (h : Rk W H B bb v vo ds now ev) (i : Int) :
    Calls Try.prog 29 #[.pointer (some ⟨bb, 0, none⟩), .int .i64 i] W fun e w' => e = .returned (.tuple #[.slice none 0 0, .int .i64 (putd ds now i).2]) ∧ Rk w' H B bb v vo (putd ds now i).1 now ev ∧ Fr H (fun b => v.ownBlock = some b) W w' := by
  by_cases hi : inb ds i
  · obtain ⟨n, rfl⟩ : ∃ n : Nat, i = (n : Int) := ⟨i.toNat, by have := hi.1; omega⟩
    have hn := inb_nat.1 hi
    unfold putd
    rw [if_pos hi]
    simp only
    rw [getD_at hn, Int.toNat_natCast]
    have hx : ds[n]? = some ds[n] := List.getElem?_eq_getElem hn
    obtain ⟨g, c, rfl, hBg, hgl, _, _, c2, _, _, _, hfz⟩ := own_dv h.own hx
    have c0 := h.c0
    have K := there_in h hn
    by_cases ht : ds[n].t = 0
    · rw [if_pos ht]
      rw [ht] at c2
      clear ht hi
      go_enter Try.func29, Try.ntmps29
      go_wp2_with (go_at_call 47; (with_reducible refine (K).mono ?_); rintro e w1 ⟨rfl, rfl⟩)
      go_ret2
      exact ⟨rfl, h, Fr.refl _ _ _⟩
    · rw [if_neg ht]
      have f2 := hfz 2 (by decide)
      have hw : ∀ n, IntKind.i64.wrap n = wrap64 n := IntWalk.i64_left
      have hB1 := h.set hx 2 (by decide) (.int .i64 (wrap64 (ds[n].t - 1))) { ds[n] with t := wrap64 (ds[n].t - 1) } rfl
      have hx1 : (ds.set n { ds[n] with t := wrap64 (ds[n].t - 1) })[n]? = some { ds[n] with t := wrap64 (ds[n].t - 1) } := by rw [List.getElem?_set_self hn]
      have hF : Fr H (fun b => (Value.slice (some ⟨g, 0, none⟩) ds.length c).ownBlock = some b) W (W.setCell ⟨g, n * 6 + 2, none⟩ (.int .i64 (wrap64 (ds[n].t - 1)))) := Fr.set (Fr.refl _ _ _) (fun _ => by rfl) _
      have hmod : ∀ y : Dv, (ds.set n { ds[n] with t := wrap64 (ds[n].t - 1) }).set n y = ds.set n y := fun y => List.set_set _
      generalize ds[n] = x at *
      generalize hyy : (if ({ x with t := wrap64 (x.t - 1) } : Dv).uses = 0 then ({ x with t := wrap64 (x.t - 1), s := now } : Dv) else { x with t := wrap64 (x.t - 1) }) = yd
      replace hyy := Lib.hid hyy
      go_enter Try.func29, Try.ntmps29
      go_upto_region 6 with (go_at_call 47; (with_reducible refine (K).mono ?_); rintro e w1 ⟨rfl, rfl⟩)
      refine wp_world ?_
      intro wX hX
      rw [← hX] at hB1 hF
      clear hX c0 c2 K hfz f2 h
      have z0 := hB1.c0
      have z1 := hB1.c1
      obtain ⟨_, _, _, _, _, y5, yf⟩ := hB1.dv hx1
      have yf5 := yf 5 (by decide)
      clear yf
      have KU := ruses_in hB1 hx1
      by_cases hu : ({ x with t := wrap64 (x.t - 1) } : Dv).uses = 0
      · have hyd := hyy.out
        rw [if_pos hu] at hyd
        subst hyd
        rw [hu] at KU
        clear hu hyy
        go_upto_region 7 with (go_at_call 52; (with_reducible refine (KU).mono ?_); rintro e w2 ⟨rfl, hd⟩; replace hB1 := hB1.drawn hd; replace hF := hF.drawn hd; have z0 := hB1.c0; have z1 := hB1.c1; obtain ⟨_, _, _, _, _, y5, yf⟩ := hB1.dv hx1; have yf5 := yf 5 (by decide); clear yf)
        go_region
        all_goals go_wp2
        all_goals go_ret2
        all_goals exact ⟨rfl, by rw [← hmod]; exact (hB1.set hx1 5 (by decide) (.int .i64 now) { x with t := wrap64 (x.t - 1), s := now } rfl).drawn (Drawn.refl _).drew, (hF.set (fun _ => by rfl) _).drawn (Drawn.refl _).drew⟩
      · have hyd := hyy.out
        rw [if_neg hu] at hyd
        subst hyd
        clear hyy
        generalize ({ x with t := wrap64 (x.t - 1) } : Dv).uses = U at *
        go_wp2_with (go_at_call 52; (with_reducible refine (KU).mono ?_); rintro e w2 ⟨rfl, hd⟩; replace hB1 := hB1.drawn hd; replace hF := hF.drawn hd)
        go_ret2
        exact ⟨rfl, hB1, hF⟩
  · unfold putd
    rw [if_neg hi]
    have K := there_out h hi
    clear hi
    go_enter Try.func29, Try.ntmps29
    go_wp2_with (go_at_call 47; (with_reducible refine (K).mono ?_); rintro e w1 ⟨rfl, rfl⟩)
    go_ret2
    exact ⟨rfl, h, Fr.refl _ _ _⟩
end Go.Proofs.Ytgnhddnhcfmipaa
