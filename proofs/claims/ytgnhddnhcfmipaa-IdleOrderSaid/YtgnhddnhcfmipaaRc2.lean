/- Idle: Race of the program, walked. -/
import Derived.Test.YtgnhddnhcfmipaaRc1
import Derived.Test.YtgnhddnhcfmipaaMem5
import Derived.Test.YtgnhddnhcfmipaaSng
import Derived.Deep.CutBlock
namespace Go.Proofs.Ytgnhddnhcfmipaa
open Go.RowKit Go.BigFrame

theorem rows_flat (size : Nat) : ∀ (n : Nat) (l : List Value), l.length = n * size → (rows size n l).flatten = l ∧ (rows size n l).length = n ∧ ∀ r ∈ rows size n l, r.length = size
  | 0, l, h => by
    have : l = [] := List.length_eq_zero_iff.1 (by omega)
    subst this
    exact ⟨rfl, rfl, fun r hr => by cases hr⟩
  | n + 1, l, h => by
    have hl : size ≤ l.length := by rw [h, Nat.succ_mul]; omega
    obtain ⟨h1, h2, h3⟩ := rows_flat size n (l.drop size) (by rw [List.length_drop, h, Nat.succ_mul]; omega)
    unfold rows
    refine ⟨by rw [List.flatten_cons, h1, List.take_append_drop], by rw [List.length_cons, h2], fun r hr => ?_⟩
    rcases List.mem_cons.1 hr with rfl | hr
    · rw [List.length_take]; omega
    · exact h3 r hr
/-- 'make([]T, n)', T of many cells: n rows of the call's own -/
theorem wpList_maden {P : Program} {w : World} {ops : Array Oper} {rest : List Oper} {o : Oper} {a : Act} {Q : Exit → Act → World → Prop} {t e : TypeId} {bytes size : Nat} {z : Value} (u : P.underlying t = some (.slice e)) (hi : (P.info? e).map (fun i => (i.zero, i.size, i.bytes)) = some (some z, size, bytes)) (hgd : o.guard = none) (l c : Operand)
    (ho : o.op = .makeSlice t l c) (n : Nat) (hl : a.eval l = .int .i64 n) (hc : a.eval c = .int .i64 n) (hb : bytes * n ≤ 281474976710656) (hn : n ≤ maxLen)
    (h : ∀ w' rs, Own w' w.heap.size e size rs (.slice (some ⟨w.heap.size, 0, none⟩) n n) → rs.length = n → Below w.heap.size w w' → wpList P ops Q rest (a.put o.dst (.slice (some ⟨w.heap.size, 0, none⟩) n n)) w') :
    wpList P ops Q (o :: rest) a w := by
  obtain ⟨i0, hi0, hz0, hz1, hz2⟩ := info_parts hi
  refine wpList_make_full w hgd l c t ho w.heap.size e i0 z size u hi0 hz0 hz1 .i64 .i64 n n n hl hc rfl rfl (by rw [hz2]; exact hb) hn (Nat.le_refl _) fun w' hw hg => ?_
  have hlen : (madeCells z.cells (n * size)).toList.length = n * size := by rw [Array.length_toList, size_madeCells]
  obtain ⟨h1, h2, h3⟩ := rows_flat size n _ hlen
  rw [← h1] at hw
  refine h w' _ ⟨?_, h3⟩ h2 ((Below.refl _ _).grown hg (Nat.le_refl _) (fun k hk => by cases hk))
  rw [h2]
  exact hw
theorem Own.upd {w : World} {base : Nat} {e : TypeId} {size g n c : Nat} {rs : List (List Value)} (h : Own w base e size rs (.slice (some ⟨g, 0, none⟩) n c)) (hn : rs.length = n) {k : Nat} (hk : k < n) {r : List Value} (hr : rs[k]? = some r) {f : Nat} (hf : f < size) (u : Value) :
    Own (w.setCell ⟨g, k * size + f, none⟩ u) base e size (rs.set k (r.set f u)) (.slice (some ⟨g, 0, none⟩) n c) := by
  subst hn
  have := h.set hk hf u
  have e1 : rs[k] = r := by rw [List.getElem?_eq_getElem hk] at hr; exact Option.some.inj hr
  rw [e1] at this
  exact this
theorem Own.cells {w : World} {base : Nat} {e : TypeId} {size g n c : Nat} {rs : List (List Value)} (h : Own w base e size rs (.slice (some ⟨g, 0, none⟩) n c)) (hn : rs.length = n) {k : Nat} (hk : k < n) {r : List Value} (hr : rs[k]? = some r) {f : Nat} {u : Value} (hu : r[f]? = some u) :
    w.cell? ⟨g, k * size + f, none⟩ = some u ∧ w.frozen? ⟨g, k * size + f, none⟩ = false := by
  subst hn
  have e1 : rs[k] = r := by rw [List.getElem?_eq_getElem hk] at hr; exact Option.some.inj hr
  exact h.cell hk (by rw [e1]; exact hu)
theorem Own.upd2 {w : World} {base : Nat} {e : TypeId} {size g n c : Nat} {rs : List (List Value)} {k : Nat} {r : List Value} (h : Own w base e size (rs.set k r) (.slice (some ⟨g, 0, none⟩) n c)) (hn : rs.length = n) (hk : k < n) {f : Nat} (hf : f < size) (u : Value) :
    Own (w.setCell ⟨g, k * size + f, none⟩ u) base e size (rs.set k (r.set f u)) (.slice (some ⟨g, 0, none⟩) n c) := by
  have := h.upd (by rw [List.length_set]; exact hn) hk (List.getElem?_set_self (by omega)) hf u
  rw [List.set_set] at this
  exact this
theorem Own.nine {w : World} {base : Nat} {e : TypeId} {g n c : Nat} {rs : List (List Value)} (h : Own w base e 9 rs (.slice (some ⟨g, 0, none⟩) n c)) (hn : rs.length = n) {k : Nat} (hk : k < n) (a0 a1 a2 a3 a4 a5 a6 a7 a8 : Value) :
    Own (((((((((w.setCell ⟨g, k * 9, none⟩ a0).setCell ⟨g, k * 9 + 1, none⟩ a1).setCell ⟨g, k * 9 + 2, none⟩ a2).setCell ⟨g, k * 9 + 3, none⟩ a3).setCell ⟨g, k * 9 + 4, none⟩ a4).setCell ⟨g, k * 9 + 5, none⟩ a5).setCell ⟨g, k * 9 + 6, none⟩ a6).setCell ⟨g, k * 9 + 7, none⟩ a7).setCell ⟨g, k * 9 + 8, none⟩ a8)
      base e 9 (rs.set k [a0, a1, a2, a3, a4, a5, a6, a7, a8]) (.slice (some ⟨g, 0, none⟩) n c) := by
  have hkl : k < rs.length := by omega
  have hl := h.2 _ (List.getElem_mem hkl)
  have hr := List.getElem?_eq_getElem hkl
  match hm : rs[k], hl with
  | [r0, r1, r2, r3, r4, r5, r6, r7, r8], _ =>
    rw [hm] at hr
    have s0 := h.upd hn hk hr (f := 0) (by decide) a0
    have s8 := (((((((s0.upd2 hn hk (f := 1) (by decide) a1).upd2 hn hk (f := 2) (by decide) a2).upd2 hn hk (f := 3) (by decide) a3).upd2 hn hk (f := 4) (by decide) a4).upd2 hn hk (f := 5) (by decide) a5).upd2 hn hk (f := 6) (by decide) a6).upd2 hn hk (f := 7) (by decide) a7).upd2 hn hk (f := 8) (by decide) a8
    exact s8
def crow (c : Int × Int) : List Value := [.int .u8 c.1, .int .i64 c.2]
def Cls (w : World) (A : Option Addr) (l : List (Int × Int)) : Prop := Sl (fun _ => True) w A 2 (l.map crow)
theorem Cls.at_ {w : World} {A : Option Addr} {l : List (Int × Int)} (h : Cls w A l) {k : Nat} (hk : k < l.length) :
    ∃ b o, A = some ⟨b, o, none⟩ ∧ b < w.heap.size ∧ w.cell? ⟨b, o + k * 2, none⟩ = some (.int .u8 l[k].1) ∧ w.cell? ⟨b, o + k * 2 + 1, none⟩ = some (.int .i64 l[k].2) := by
  obtain ⟨b, o, e, _, hl, hc⟩ := Sl.at_ h (k := k) (by simpa using hk)
  exact ⟨b, o, e, hl, hc 0 _ (by simp [crow]), hc 1 _ (by simp [crow])⟩
theorem Cls.le {w : World} {A : Option Addr} {l : List (Int × Int)} (h : Cls w A l) : l.length ≤ 9223372036854775807 := by
  have := Sl.le h; simpa using this
theorem Cls.below {w w' : World} {A : Option Addr} {l : List (Int × Int)} (h : Cls w A l) (d : Below w.heap.size w w') : Cls w' A l := Sl.below' h d
/-- may a call be? -/
def okc (c : Int × Int) : Prop := (1 ≤ c.1 ∧ c.1 ≤ 3) ∧ okTick c.2
def okr (D : Int) (cs : List (Int × Int)) : Prop := okTick D ∧ cs.length ≤ 1000 ∧ ∀ k, k < cs.length → okc (callAt cs k)
/-- an attempt that has not begun -/
def arow (g : Nat) (c : Int × Int) : List Value := [.pointer (some ⟨g, 0, none⟩), .int .u8 c.1, .int .i64 c.2, .int .u64 0, .int .u64 0, .bool false, .bool false, .int .i64 0, .int .i64 0]
theorem zv_num : zv.num = 0 := by decide +kernel
theorem PR.of {W : World} {D : Int} {cs : List (Int × Int)} {g b n base : Nat} {rs : List (List Value)} (hne : g ≠ b) (hg : W.heap[g]? = some (.cells #[.int .i64 D, .int .u64 0] 100)) (ho : Own W base 106 9 rs (.slice (some ⟨b, 0, none⟩) n n)) (hn : rs.length = n) (hr : ∀ k, k < n → rs[k]? = some (arow g (callAt cs k))) :
    PR W D cs g b (rs0 n) := by
  have hl : (rs0 n).l.length = n := by unfold rs0; simp
  have hfz : ∀ j, W.frozen? ⟨b, j, none⟩ = false := fun j => by
    rw [← hn] at ho
    exact ho.1.frozenAt _
  refine ⟨hne, by show W.heap[g]? = some (Obj.cells #[.int .i64 D, .int .u64 zv.num] 100); rw [zv_num]; exact hg, (ho.lt b rfl).2, fun k hk => ?_⟩
  rw [hl] at hk
  have h := fun (f : Nat) (u : Value) (hu : (arow g (callAt cs k))[f]? = some u) => ho.cells hn hk (hr k hk) hu
  refine ⟨0, 0, ?_, fun q => ?_⟩
  · rw [rs0_get]
    show AC W b (k * 9) g _ _ 0 0 false false 0 0 D zv.num
    rw [zv_num]
    exact ⟨hne, (h 0 _ rfl).1, (h 1 _ rfl).1, (h 2 _ rfl).1, (h 3 _ rfl).1, (h 4 _ rfl).1, (h 5 _ rfl).1, (h 6 _ rfl).1, (h 7 _ rfl).1, (h 8 _ rfl).1, fun j => hfz _, cell_of_row _ _ 0 _ 100 (0, 0) hg, cell_of_row _ _ 1 _ 100 (0, 0) hg, frozen_row hg _⟩
  · rw [rs0_get] at q; cases q
def qrow (p : Pa) : List Value := [.int .i64 p.c, .int .i64 p.t]
theorem el45 : Elt Try.prog 45 60 2 16 := Elt.of (z := .agg #[.int .i64 0, .int .i64 0]) Try.underlying45 (by kernel_rfl) rfl (by decide) (by decide)
theorem results3 {P : Program} {fn : Func} {p u1 u2 : Tmp} {ty : TypeId} (h : fn.results = #[.tmp u1, .cell p ty, .tmp u2]) (tmps : Array Value) (w : World) (g : Nat) (t : TypeId) (cs : Array Value) (fr : Nat × Nat) (d : TypeDesc) {x y : Value}
    (h1 : tmps.getD u1 undef = x) (h2 : tmps.getD u2 undef = y) (hp : tmps.getD p undef = .pointer (some ⟨g, 0, none⟩)) (hg : w.heap[g]? = some (.cells cs t fr))
    (hu : P.underlying ty = some d) (hd : (match d with | .struct _ | .array _ _ => true | _ => false) = true) (hi : (P.info? ty).map (·.size) = some cs.size) :
    (results fn tmps).run P w = .ok (.tuple #[x, .agg cs, y]) w := by
  subst h1
  subst h2
  have hp' : tmps[p]?.getD undef = .pointer (some ⟨g, 0, none⟩) := by simpa using hp
  simp [results, h, hp', asAddr, run_loadVar_row w g t ty cs fr d hg hu hd hi]
theorem setRow_far {w : World} {n b : Nat} {cs : Array Value} (h : b ≠ n) : (w.setRow n cs).heap[b]? = w.heap[b]? := by
  unfold World.setRow
  simp only [Array.getElem?_modify]
  rw [if_neg (fun e => h e.symm)]
theorem setRow_at {w : World} {n : Nat} {cs old : Array Value} {t : TypeId} {fr : Nat × Nat} (h : w.heap[n]? = some (.cells old t fr)) : (w.setRow n cs).heap[n]? = some (.cells cs t fr) := by
  unfold World.setRow
  simp only [Array.getElem?_modify, if_true, h]
  rfl
theorem below_setRow {B : Nat} {w w' : World} (h : Below B w w') {n : Nat} (hn : B ≤ n) (cs : Array Value) : Below B w (w'.setRow n cs) :=
  ⟨h.os, h.tape, h.output, by unfold World.setRow; simpa using h.size, fun b hb => by rw [setRow_far (by omega)]; exact h.block b hb⟩
/-- a race under way, in memory: the program's -/
structure PS (W0 W : World) (H n : Nat) (D : Int) (cs : List (Int × Int)) (s : Rs) (N : Int) : Prop where
  pr : PR W D cs (H + 1) (H + 2) s
  vw : W.heap[H]? = some (.cells #[.int .i64 0, .bool false, .int .i64 0, .int .i64 0] 38)
  b : Below H W0 W
  ok : Rok s N
  len : s.l.length = n
section
variable {W0 W W' : World} {H n : Nat} {D N : Int} {cs : List (Int × Int)} {s : Rs}
theorem PS.below (h : PS W0 W H n D cs s N) (d : Below W.heap.size W W') : PS W0 W' H n D cs s N :=
  ⟨h.pr.below d, (d.block _ (heap_lt h.vw)).trans h.vw, h.b.trans (d.mono (Nat.le_of_lt (heap_lt h.vw))), h.ok, h.len⟩
theorem PS.keep {B : Nat} (h : PS W0 W H n D cs s N) (d : Below B W W') (hB : H + 3 ≤ B) : PS W0 W' H n D cs s N :=
  ⟨h.pr.fr (Fr.of (S := fun _ => False) d) ⟨by omega, id⟩ ⟨by omega, id⟩, (d.block _ (by omega)).trans h.vw, h.b.trans (d.mono (by omega)), h.ok, h.len⟩
theorem ps_step (h : PS W0 W H n D cs s N) (hN : N < 9223372036854775806) (hD : 0 ≤ D ∧ D ≤ 2147483647) {k : Nat} (hk : k < n) (ho : (s.l.getD k pa0).o = false)
    (hc : ∀ j, ((callAt cs j).1 = 1 ∨ (callAt cs j).1 = 2 ∨ (callAt cs j).1 = 3) ∧ 0 ≤ (callAt cs j).2 ∧ (callAt cs j).2 ≤ 2147483647) :
    Calls Try.prog 45 #[.pointer (some ⟨H + 2, k * 9, none⟩)] W fun e w' => e = .returned (.tuple #[]) ∧ PS W0 w' H n D cs (rstep D cs s k) (N + 1) ∧ Kb (H + 3) W w' := by
  refine (pstep h.pr h.ok hN hD (by rw [h.len]; exact hk) ho hc).mono fun e w' ⟨h1, h2, h3⟩ => ⟨h1, ⟨h2, ?_, ?_, h.ok.step (fun j => (hc j).2) k, by rw [rstep_len]; exact h.len⟩, h3.size, fun b q1 q2 => h3.k b q2 (by omega)⟩
  · exact (h3.k H (heap_lt h.vw) (by omega)).trans h.vw
  · exact h.b.trans (h3.below (Nat.le_of_lt (heap_lt h.vw)) (fun b hb => by omega))
theorem PS.done (h : PS W0 W H n D cs s N) {k : Nat} (hk : k < n) : W.cell? ⟨H + 2, k * 9 + 6, none⟩ = some (.bool (s.l.getD k pa0).o) := by
  obtain ⟨_, _, h1, _⟩ := h.pr.at_ k (by rw [h.len]; exact hk)
  exact h1.c6
theorem PS.ran (h : PS W0 W H n D cs s N) {k : Nat} (hk : k < n) : W.cell? ⟨H + 2, k * 9 + 7, none⟩ = some (.int .i64 (s.l.getD k pa0).c) ∧ W.cell? ⟨H + 2, k * 9 + 8, none⟩ = some (.int .i64 (s.l.getD k pa0).t) := by
  obtain ⟨_, _, h1, _⟩ := h.pr.at_ k (by rw [h.len]; exact hk)
  exact ⟨h1.c7, h1.c8⟩
/-- what an attempt has still to take, in memory -/
def leftM (g b k : Nat) (W : World) : Nat :=
  match W.cell? ⟨b, k * 9 + 6, none⟩ with
  | some (.bool true) => 0
  | _ => match W.cell? ⟨b, k * 9 + 5, none⟩ with
    | some (.bool true) => match W.cell? ⟨b, k * 9 + 3, none⟩, W.cell? ⟨g, 1, none⟩ with
      | some (.int _ x), some (.int _ y) => if y = x then 1 else 3
      | _, _ => 0
    | _ => 2
theorem PS.left (h : PS W0 W H n D cs s N) {k : Nat} (hk : k < n) : leftM (H + 1) (H + 2) k W = rleft s k := by
  obtain ⟨was, nxt, h1, h2⟩ := h.pr.at_ k (by rw [h.len]; exact hk)
  have hr := h.ok.r k
  unfold leftM rleft
  simp only
  rw [h1.c6, h1.c5, h1.c3, h1.w1]
  cases (s.l.getD k pa0).o
  · cases hh : (s.l.getD k pa0).h
    · rfl
    · obtain ⟨e, _⟩ := h2 hh
      subst e
      simp only [Bool.false_eq_true, if_false, if_true]
      by_cases e : s.w = (s.l.getD k pa0).r
      · rw [if_pos e, if_pos (by rw [← e])]
      · rw [if_neg e, if_neg (fun q => e ((num_eq h.ok.w hr).1 q))]
  · rfl
end
theorem i106 : ∃ z, (Try.prog.info? 106).map (fun i => (i.zero, i.size, i.bytes)) = some (some z, 9, 64) := by
  have h : ((Try.prog.info? 106).map fun i => (i.zero.isSome, i.size, i.bytes)) = some (true, 9, 64) := by kernel_rfl
  cases hi : Try.prog.info? 106 with
  | none => rw [hi] at h; cases h
  | some i =>
    rw [hi] at h
    simp only [Option.map_some, Option.some.injEq, Prod.mk.injEq] at h
    obtain ⟨h1, h2, h3⟩ := h
    obtain ⟨z, hz⟩ := Option.isSome_iff_exists.1 h1
    exact ⟨z, by simp only [Option.map_some, hz, h2, h3]⟩
set_option maxHeartbeats 8000000 in
set_option maxRecDepth 100000 in
theorem race_yes (D : Int) (cs : List (Int × Int)) (sch : List Int) (n ns : Nat) (A B : Option Addr) (a b : Nat) (W : World) (h1 : Cls W A cs) (h2 : Ints W B sch) (hn : cs.length = n) (hns : sch.length = ns) (hr : okr D cs) (hs : ns ≤ 140737488355328) :
    Calls Try.prog 20 #[.int .i64 D, .slice A n a, .slice B ns b] W fun e w' => ∃ v, e = .returned (.tuple #[v, .agg (rfin D cs n 0 (rsched D cs (rs0 n) sch)).w.arr, .int .i64 0]) ∧ Own w' W.heap.size 60 2 ((rfin D cs n 0 (rsched D cs (rs0 n) sch)).l.map qrow) v ∧ Below W.heap.size W w' := by
  have hcd := Lib.hid (fun (k : Nat) (hk : k < cs.length) (W' : World) (hd : Below W.heap.size W W') => (h1.below hd).at_ hk)
  have hsd := Lib.hid (fun (k : Nat) (hk : k < sch.length) (W' : World) (hd : Below W.heap.size W W') => (Ints.below h2 hd).at_ hk)
  have hD := hr.1
  have hn5 : n ≤ 1000 := by rw [← hn]; exact hr.2.1
  have hok := Lib.hid hr.2.2
  have hKN := (new_any D)
  have hdt := isTick_yes hD
  rw [hdt] at hKN
  clear h1 h2 hr hdt
  replace hn := Lib.hid hn
  replace hns := Lib.hid hns
  go_enter Try.func20, Try.ntmps20
  go_upto_region 4 with (go_at_call 11; (with_reducible refine (hKN _).mono ?_); rintro e w1 (⟨h, _⟩ | ⟨_, rfl, rfl⟩); cases h)
  have hz2 : ((W.alloc (.cells #[.int .i64 0, .bool false, .int .i64 0, .int .i64 0] 38)).alloc (.cells #[.int .i64 D, .int .u64 0] 100)).heap.size = W.heap.size + 2 := by rw [size_al, size_al]
  have hbx : ((W.alloc (.cells #[.int .i64 0, .bool false, .int .i64 0, .int .i64 0] 38)).alloc (.cells #[.int .i64 D, .int .u64 0] 100)).heap[W.heap.size]? = some (.cells #[.int .i64 0, .bool false, .int .i64 0, .int .i64 0] 38) := heap_alloc (heap_alloc_at _ _)
  have hgx : ((W.alloc (.cells #[.int .i64 0, .bool false, .int .i64 0, .int .i64 0] 38)).alloc (.cells #[.int .i64 D, .int .u64 0] 100)).heap[W.heap.size + 1]? = some (.cells #[.int .i64 D, .int .u64 0] 100) := heap_alloc_at' _ _ _ (by rw [size_al])
  have hbW : Below W.heap.size W ((W.alloc (.cells #[.int .i64 0, .bool false, .int .i64 0, .int .i64 0] 38)).alloc (.cells #[.int .i64 D, .int .u64 0] 100)) := below_al (below_al (Below.refl _ _) _) _
  clear hKN
  generalize ((W.alloc (.cells #[.int .i64 0, .bool false, .int .i64 0, .int .i64 0] 38)).alloc (.cells #[.int .i64 D, .int .u64 0] 100)) = w2 at *
  obtain ⟨z106, hi106⟩ := i106
  go_upto_region 6 with (refine wpList_maden Try.underlying104 hi106 rfl _ _ rfl n rfl rfl (by omega) (by unfold maxLen; omega) ?_; intro w3 rs hO hrl hb3)
  clear hi106
  obtain ⟨H, hH⟩ : ∃ H, H = W.heap.size := ⟨_, rfl⟩
  rw [hz2] at hO
  rw [← hH] at hO hz2 hbx hgx ⊢
  have hb23 : Below (H + 2) w2 w3 := hb3.mono (by omega)
  have hgx3 := (hb23.block (H + 1) (by omega)).trans hgx
  have hbx3 := (hb23.block H (by omega)).trans hbx
  have hbW3 : Below W.heap.size W w3 := hbW.trans (hb3.mono (by omega))
  clear hb3 hb23 hgx hbx hbW hz2
  replace hH := Lib.hid hH
  go_loopw [36] (fun s36 wr => ∃ (k : Nat) (rs : List (List Value)), k ≤ n ∧ s36 = .int .i64 k ∧ rs.length = n ∧ Own wr (H + 2) 106 9 rs (.slice (some ⟨H + 2, 0, none⟩) n n) ∧ (∀ j, j < k → rs[j]? = some (arow (H + 1) (callAt cs j))) ∧ Below (H + 2) w3 wr) (fun s36 _ => n - (intOf s36).toNat)
  case atStart => exact ⟨0, rs, by omega, rfl, hrl, hO, fun j h => by omega, Below.refl _ _⟩
  case round =>
    clear hO hrl rs
    obtain ⟨k, rs, hk, rfl, hrl, hO, hall, hd⟩ := hrel
    obtain ⟨wi, rfl⟩ : ∃ x : World, x = wr := ⟨_, rfl⟩
    have hdW : Below W.heap.size W wi := hbW3.trans (hd.mono (by rw [← hH.out]; omega))
    by_cases hkn : k = n
    · subst hkn
      have hgi := (hd.block (H + 1) (by omega)).trans hgx3
      have hbi := (hd.block H (by omega)).trans hbx3
      have hP := PR.of (D := D) (cs := cs) (by omega) hgi hO hrl (fun k hk => hall k hk)
      have hcc : ∀ j, ((callAt cs j).1 = 1 ∨ (callAt cs j).1 = 2 ∨ (callAt cs j).1 = 3) ∧ 0 ≤ (callAt cs j).2 ∧ (callAt cs j).2 ≤ 2147483647 := fun j => by
        rcases Nat.lt_or_ge j cs.length with q | q
        · have := hok.out j q
          obtain ⟨⟨q1, q2⟩, q3⟩ := this
          exact ⟨by omega, q3⟩
        · unfold callAt
          rw [List.getD_eq_getElem?_getD, List.getElem?_eq_none q]
          exact ⟨Or.inl rfl, Int.le_refl _, by decide⟩
      replace hcc := Lib.hid hcc
      have hPS : PS W wi H k D cs (rs0 k) 0 := ⟨hP, hbi, by rw [hH.out]; exact hdW, rs0_ok k, by unfold rs0; simp⟩
      have hHs : H + 3 ≤ wi.heap.size := (hO.lt (H + 2) rfl).2
      have hDD : 0 ≤ D ∧ D ≤ 2147483647 := hD
      clear hO hall hd hgx3 hbx3 hbW3 hcd hgi hP hbi hdW hD hok hrl
      go_upto_block 2 with fail
      go_cut [15, 65] from 66 to 89 (fun _ _ wc => PS W wc H k D cs (rsched D cs (rs0 k) sch) ns ∧ H + 3 ≤ wc.heap.size)
      case first =>
        go_upto_region 13 with fail
        go_loopw [65] (fun s65 wr => ∃ (q : Nat) (s : Rs), q ≤ ns ∧ s65 = .int .i64 q ∧ rsched D cs s (sch.drop q) = rsched D cs (rs0 k) sch ∧ PS W wr H k D cs s q ∧ H + 3 ≤ wr.heap.size) (fun s65 _ => ns - (intOf s65).toNat)
        case atStart => exact ⟨0, rs0 k, by omega, rfl, rfl, hPS, hHs⟩
        case round =>
          clear hPS hHs
          obtain ⟨q, s, hq, rfl, hsc, hPS, hHs⟩ := hrel
          obtain ⟨wi, rfl⟩ : ∃ x : World, x = wr := ⟨_, rfl⟩
          by_cases hqn : q = ns
          · subst hqn
            rw [List.drop_eq_nil_of_le (by rw [hns.out]; exact Nat.le_refl _)] at hsc
            have hsc' : s = rsched D cs (rs0 k) sch := hsc
            subst hsc'
            clear hsd hsc
            go_wp2
            go_meet
            case rel => exact ⟨hPS, hHs⟩
          · have hlt : q < ns := by omega
            have hql : q < sch.length := by rw [hns.out]; exact hlt
            obtain ⟨bs, os, rfl, _, x0⟩ := hsd.out q hql wi (by rw [← hH.out]; exact hPS.b)
            rw [List.drop_eq_getElem_cons hql] at hsc
            have hsc' : rsched D cs (rgo D cs s sch[q]) (sch.drop (q + 1)) = rsched D cs (rs0 k) sch := hsc
            generalize sch[q] = i at *
            replace hsc' := Lib.hid hsc'
            clear hsc hsd hqn
            have hup : Hid (PS W wi H k D cs s ((q + 1 : Nat) : Int)) := Lib.hid ⟨hPS.pr, hPS.vw, hPS.b, hPS.ok.mono (by omega), hPS.len⟩
            have hlen := hPS.len
            by_cases hi : 0 ≤ i ∧ i < (k : Int)
            · obtain ⟨j, rfl⟩ : ∃ j : Nat, i = (j : Int) := ⟨i.toNat, by omega⟩
              have hjk : j < k := by omega
              have hc6 := hPS.done hjk
              have hrg : rgo D cs s (j : Int) = rstep D cs s j := by
                unfold rgo
                rw [if_pos ⟨by omega, by rw [hlen]; omega⟩, Int.toNat_natCast]
              rw [hrg] at hsc'
              have hj0 : (0 : Int) ≤ (j : Int) := by omega
              have hj1 : (j : Int) < (k : Int) := by omega
              clear hrg hi hlen
              cases ho : (s.l.getD j pa0).o
              · rw [ho] at hc6
                have K := ps_step hPS (by omega) hDD hjk ho hcc.out
                clear hPS ho
                go_wp2_with (go_at_call 45; (with_reducible refine (K).mono ?_); rintro e w1 ⟨rfl, hP1, hk1⟩)
                go_roundw
                case rel => exact ⟨q + 1, _, by omega, by go_num, hsc'.out, hP1, Nat.le_trans hHs hk1.1⟩
                case measure => simp [intOf]; omega
              · rw [ho] at hc6
                rw [rstep_over ho] at hsc'
                clear hPS ho
                go_wp2
                go_roundw
                case rel => exact ⟨q + 1, s, by omega, by go_num, hsc'.out, hup.out, hHs⟩
                case measure => simp [intOf]; omega
            · have hrg : rgo D cs s i = s := by
                unfold rgo
                rw [if_neg (by rw [hlen]; exact hi)]
              rw [hrg] at hsc'
              clear hrg hPS hlen
              by_cases hi0 : 0 ≤ i
              · have hi1 : ¬ i < (k : Int) := fun q => hi ⟨hi0, q⟩
                clear hi
                go_wp2
                go_roundw
                case rel => exact ⟨q + 1, s, by omega, by go_num, hsc'.out, hup.out, hHs⟩
                case measure => simp [intOf]; omega
              · clear hi
                go_wp2
                go_roundw
                case rel => exact ⟨q + 1, s, by omega, by go_num, hsc'.out, hup.out, hHs⟩
                case measure => simp [intOf]; omega
      obtain ⟨hPS2, hHs2⟩ := hcut
      obtain ⟨w0, rfl⟩ : ∃ x : World, x = wc := ⟨_, rfl⟩
      clear hPS hHs hsd
      obtain ⟨T, hT⟩ : ∃ T, rfin D cs k 0 (rsched D cs (rs0 k) sch) = T := ⟨_, rfl⟩
      obtain ⟨S1, hS1⟩ : ∃ S1, rsched D cs (rs0 k) sch = S1 := ⟨_, rfl⟩
      rw [hS1] at hPS2
      have hT1 : rfin D cs k 0 S1 = T := by rw [← hS1]; exact hT
      replace hT1 := Lib.hid hT1
      clear hS1
      obtain ⟨i60, z60, hi60, hz60, hs60, hb60, _⟩ := el45.i
      go_upto_region 20 with (refine wpList_make_own _ rfl _ _ 45 rfl w0.heap.size 60 i60 z60 2 Try.underlying45 hi60 hz60 hs60 .i64 .i64 k k rfl rfl rfl (by rw [hb60]; omega) (by unfold maxLen; omega) (Nat.le_refl _) ?_; intro w4 hO4 hg4)
      clear hi60 hz60 hs60 hb60
      have hb4 : Below w0.heap.size w0 w4 := (Below.refl _ _).grown hg4 (Nat.le_refl _) (fun k hk => by cases hk)
      have hP4 := hPS2.below hb4
      have hO4' : Own w4 w0.heap.size 60 2 (([] : List Pa).map qrow) (.slice (some ⟨w0.heap.size, 0, none⟩) 0 k) := ⟨hO4, fun r hr => by cases hr⟩
      have hs4 : w0.heap.size ≤ w4.heap.size := hb4.size
      clear hPS2 hb4 hg4 hO4
      replace hT := Lib.hid hT
      go_loopw [95, 16] (fun s95 s16 wr => ∃ (q : Nat) (s : Rs), q ≤ k ∧ s95 = .int .i64 q ∧ rfin D cs (k - q) q s = T ∧ PS W wr H k D cs s (ns + 3 * q) ∧ Own wr w0.heap.size 60 2 ((s.l.take q).map qrow) s16 ∧ w0.heap.size ≤ wr.heap.size) (fun s95 _ _ => k - (intOf s95).toNat)
      case atStart => exact ⟨0, S1, by omega, rfl, hT1.out, by simpa using hP4, by simpa using hO4', hs4⟩
      case round =>
        clear hP4 hO4'
        obtain ⟨q, s, hq, rfl, hfi, hPS, hO, hMs⟩ := hrel
        obtain ⟨wj, rfl⟩ : ∃ x : World, x = wr := ⟨_, rfl⟩
        by_cases hqn : q = k
        · subst hqn
          rw [Nat.sub_self] at hfi
          have hfi' : s = T := hfi
          subst hfi'
          clear hfi hT1
          have hvo := hPS.vw
          have KV := wview_any (H + 1) s.w hPS.ok.w wj (cell_of_row _ _ 1 _ 100 (0, 0) hPS.pr.wd)
          have hPb := hPS.b
          have hl := hPS.len
          have htk : s.l.take q = s.l := by rw [← hl]; exact List.take_length
          rw [htk] at hO
          have hHj : H < wj.heap.size := heap_lt hPS.vw
          replace hH := hH
          clear hPS htk hl
          go_wp2_with (first
            | (go_at_call 18; (with_reducible refine (KV).mono ?_); rintro e w5 ⟨rfl, hb5⟩; have hvo5 := (hb5.block H hHj).trans hvo)
            | (refine wpList_store_row rfl 38 _ _ rfl H s.w.arr rfl rfl 38 _ hvo5 (by kernel_rfl) (by kernel_rfl) (by kernel_rfl) ?_))
          have hO5 := hO.below hb5
          have hWM : W.heap.size ≤ w0.heap.size := by have := hH.out; omega
          have hWH : W.heap.size ≤ H := by have := hH.out; omega
          have hjH : H ≤ wj.heap.size := by omega
          have hB5 : Below H W (w5.setRow H s.w.arr) := below_setRow (hPb.trans (hb5.mono hjH)) (Nat.le_refl H) _
          refine bodyPost_ret (results3 rfl _ _ H 38 s.w.arr (0, 0) _ rfl rfl rfl (setRow_at hvo5) Try.underlying38 rfl (by kernel_rfl)) rfl ?_
          have hO6 : Own (w5.setRow H s.w.arr) w0.heap.size 60 2 (s.l.map qrow) u16 := hO5.keep fun g hg => by
            have hMg := (hO5.lt g hg).1
            have hgH : g ≠ H := by omega
            exact setRow_far hgH
          rw [hT.out]
          exact ⟨_, rfl, hO6.mono hWM, hB5.mono hWH⟩
        · have hlt : q < k := by omega
          rw [show k - q = (k - (q + 1)) + 1 by omega] at hfi
          have hfi' : rfin D cs (k - (q + 1)) (q + 1) (rfin1 D cs s q) = T := hfi
          replace hfi' := Lib.hid hfi'
          clear hfi hqn
          have hqp : Hid (q ≤ k) := Lib.hid hq
          clear hq
          go_upto_block 6 with fail
          go_cut [98, 99, 100, 101, 102, 103] from 98 to 107 (fun _ _ _ _ _ _ wc => PS W wc H k D cs (rfin1 D cs s q) (ns + 3 * q + 3) ∧ Own wc w0.heap.size 60 2 ((s.l.take q).map qrow) u16 ∧ w0.heap.size ≤ wc.heap.size)
          case first =>
            go_upto_region 22 with fail
            go_loopw [103] (fun _ wr => ∃ (s' : Rs) (N' : Nat), rfin1 D cs s' q = rfin1 D cs s q ∧ PS W wr H k D cs s' N' ∧ N' + rleft s' q ≤ ns + 3 * q + 3 ∧ Own wr w0.heap.size 60 2 ((s.l.take q).map qrow) u16 ∧ w0.heap.size ≤ wr.heap.size) (fun _ wr => leftM (H + 1) (H + 2) q wr)
            case atStart => exact ⟨s, ns + 3 * q, rfl, by push_cast; exact hPS, by have := rleft_le s q; omega, hO, hMs⟩
            case round =>
              clear hPS hO hMs
              obtain ⟨s', N', hse, hPS, hNl, hO, hMs⟩ := hrel
              obtain ⟨wi, rfl⟩ : ∃ x : World, x = wr := ⟨_, rfl⟩
              have hc6 := hPS.done hlt
              have hlf := hPS.left hlt
              have hql' : q < s'.l.length := by rw [hPS.len]; exact hlt
              cases ho : (s'.l.getD q pa0).o
              · rw [ho] at hc6
                have hrl := rleft_lt (D := D) (cs := cs) hql' ho
                have hre := rfin1_step (D := D) (cs := cs) hql' ho
                have hnn : (N' : Int) < 9223372036854775806 := by have := hqp.out; omega
                have K := ps_step hPS hnn hDD hlt ho hcc.out
                rw [← hre] at hse
                replace hse := Lib.hid hse
                replace hNl := Lib.hid hNl
                replace hrl := Lib.hid hrl
                replace hlf := Lib.hid hlf
                clear hPS ho hre hnn
                go_wp2_with (go_at_call 45; (with_reducible refine (K).mono ?_); rintro e w1 ⟨rfl, hP1, hk1⟩)
                have hOw := hk1.own hO hHs2
                have hMw := Nat.le_trans hMs hk1.1
                go_roundw
                case rel => exact ⟨rstep D cs s' q, N' + 1, hse.out, by push_cast; exact hP1, by have := hNl.out; have := hrl.out; omega, hOw, hMw⟩
                case measure => 
                  have e1 := hP1.left hlt
                  have e2 := hlf.out
                  have e3 := hrl.out
                  omega
              · rw [ho] at hc6
                rw [rfin1_done ho] at hse
                subst hse
                have hP2 : PS W wi H k D cs (rfin1 D cs s q) (ns + 3 * q + 3) := ⟨hPS.pr, hPS.vw, hPS.b, hPS.ok.mono (by omega), hPS.len⟩
                clear hPS ho hNl hlf
                go_wp2
                go_meet
                case rel => exact ⟨hP2, hO, hMs⟩
          clear hPS hO hMs
          obtain ⟨hP2, hO2, hM2⟩ := hcut
          obtain ⟨x7, x8⟩ := hP2.ran hlt
          have hl2 := hP2.len
          have hl3 : (s.l.take q).length = q := by
            rw [List.length_take]
            rw [rfin1_len] at hl2
            omega
          have hrl : ((s.l.take q).map qrow).length = q := by rw [List.length_map]; exact hl3
          have hrow : (s.l.take q).map qrow ++ [qrow ((rfin1 D cs s q).l.getD q pa0)] = ((rfin1 D cs s q).l.take (q + 1)).map qrow := by
            rw [List.take_add_one, rfin1_take (Nat.le_refl _), List.map_append, List.getElem?_eq_getElem (by rw [hl2]; exact hlt)]
            rw [List.getD_eq_getElem?_getD, List.getElem?_eq_getElem (by rw [hl2]; exact hlt)]
            rfl
          replace hrl := Lib.hid hrl
          replace hrow := Lib.hid hrow
          clear hl2 hl3
          generalize hp : (rfin1 D cs s q).l.getD q pa0 = p at *
          obtain ⟨ph, po, pr, pc, pt⟩ := p
          simp only at x7 x8
          go_wp2_with (at_builtin; refine wpList_push el45 rfl _ _ rfl rfl (hO2.alloc _) [.int .i64 pc, .int .i64 pt] wc.heap.size _ rfl (heap_alloc_at _ _) rfl (by simp [Value.oneCell']) (by rw [hrl.out]; omega) (by rw [size_al]; omega) ?_; intro v' w5 ho5 hb5 hs5 _ _)
          have hP5 := (hP2.below (below_al (Below.refl _ _) _)).keep hb5 hHs2
          have hM5 : w0.heap.size ≤ w5.heap.size := by rw [size_al] at hs5; omega
          have ho6 : Own w5 w0.heap.size 60 2 (((rfin1 D cs s q).l.take (q + 1)).map qrow) v' := by rw [← hrow.out]; exact ho5
          clear hP2 hO2 hM2 ho5 hb5 hs5 x7 x8
          go_roundw
          case rel => exact ⟨q + 1, rfin1 D cs s q, by omega, by go_num, hfi'.out, ⟨hP5.pr, hP5.vw, hP5.b, hP5.ok.mono (by push_cast; omega), hP5.len⟩, ho6, hM5⟩
          case measure => simp [intOf]; omega
    · have hlt : k < n := by omega
      have hkl : k < cs.length := by rw [hn.out]; exact hlt
      obtain ⟨ba, oa, rfl, _, x0, x1⟩ := hcd.out k hkl wi hdW
      have hck : okc cs[k] := by
        have q := hok.out k hkl
        unfold callAt at q
        rw [List.getD_eq_getElem?_getD, List.getElem?_eq_getElem hkl] at q
        exact q
      have hca : Hid (callAt cs k = cs[k]) := Lib.hid (by unfold callAt; rw [List.getD_eq_getElem?_getD, List.getElem?_eq_getElem hkl]; rfl)
      generalize cs[k] = cc at *
      obtain ⟨kd, nw⟩ := cc
      obtain ⟨⟨q1, q2⟩, q3⟩ := hck
      simp only at q1 q2 q3 x0 x1
      have KT := tick_any nw
      rw [isTick_yes q3] at KT
      have n1 : ¬ kd < 1 := by omega
      have n2 : ¬ 3 < kd := by omega
      clear hkn hcd hsd hok
      go_upto_region 8 with (refine wpList_store_row rfl 58 _ _ rfl wi.heap.size #[.int .u8 kd, .int .i64 nw] rfl rfl 58 _ (heap_alloc_at _ _) (by kernel_rfl) (by kernel_rfl) (by kernel_rfl) ?_)
      rw [setRow_alloc _ _ _ _ _ rfl]
      simp only [Act.put]
      have hdA : Below (H + 2) w3 (wi.alloc (.cells #[.int .u8 kd, .int .i64 nw] 58)) := hd.alloc (Nat.le_trans (by rw [Nat.le_iff_lt_or_eq]; exact Or.inl ((hO.lt (H + 2) rfl).2)) (Nat.le_refl _)) _
      have hOA := hO.alloc (.cells #[.int .u8 kd, .int .i64 nw] 58)
      have hbxA := heap_alloc_at wi (.cells #[.int .u8 kd, .int .i64 nw] 58)
      have hNN : H + 2 < wi.heap.size := (hO.lt (H + 2) rfl).2
      generalize wi.alloc (.cells #[.int .u8 kd, .int .i64 nw] 58) = wA at *
      generalize wi.heap.size = NN at *
      have y0 := cell_of_row _ _ 0 _ 58 (0, 0) hbxA
      have y1 := cell_of_row _ _ 1 _ 58 (0, 0) hbxA
      have hr9 := hOA.2 _ (List.getElem_mem (by rw [hrl]; exact hlt : k < rs.length))
      have hrk := List.getElem?_eq_getElem (by rw [hrl]; exact hlt : k < rs.length)
      clear x0 x1 hO hd hbxA
      generalize rs[k]'(by rw [hrl]; exact hlt) = r at *
      match r, hr9 with
      | [r0, r1, r2, r3, r4, r5, r6, r7, r8], _ =>
        have d0 := hOA.cells hrl hlt hrk (f := 0) rfl
        have d1 := hOA.cells hrl hlt hrk (f := 1) rfl
        have d2 := hOA.cells hrl hlt hrk (f := 2) rfl
        have d3 := hOA.cells hrl hlt hrk (f := 3) rfl
        have d4 := hOA.cells hrl hlt hrk (f := 4) rfl
        have d5 := hOA.cells hrl hlt hrk (f := 5) rfl
        have d6 := hOA.cells hrl hlt hrk (f := 6) rfl
        have d7 := hOA.cells hrl hlt hrk (f := 7) rfl
        have d8 := hOA.cells hrl hlt hrk (f := 8) rfl
        simp only [Nat.add_zero] at d0
        obtain ⟨d0, f0⟩ := d0
        obtain ⟨d1, f1⟩ := d1
        obtain ⟨d2, f2⟩ := d2
        obtain ⟨d3, f3⟩ := d3
        obtain ⟨d4, f4⟩ := d4
        obtain ⟨d5, f5⟩ := d5
        obtain ⟨d6, f6⟩ := d6
        obtain ⟨d7, f7⟩ := d7
        obtain ⟨d8, f8⟩ := d8
        go_upto_region 11 with (go_at_call 41; (with_reducible refine (KT _).mono ?_); rintro e w1 ⟨rfl, rfl⟩)
        have hO9 := Lib.hid (hOA.nine hrl hlt (.pointer (some ⟨H + 1, 0, none⟩)) (.int .u8 kd) (.int .i64 nw) (.int .u64 0) (.int .u64 0) (.bool false) (.bool false) (.int .i64 0) (.int .i64 0))
        have hd9 := Lib.hid (((((((((hdA.setCell (p := ⟨H + 2, k * 9, none⟩) (Nat.le_refl _) (.pointer (some ⟨H + 1, 0, none⟩))).setCell (p := ⟨H + 2, k * 9 + 1, none⟩) (Nat.le_refl _) (.int .u8 kd)).setCell (p := ⟨H + 2, k * 9 + 2, none⟩) (Nat.le_refl _) (.int .i64 nw)).setCell (p := ⟨H + 2, k * 9 + 3, none⟩) (Nat.le_refl _) (.int .u64 0)).setCell (p := ⟨H + 2, k * 9 + 4, none⟩) (Nat.le_refl _) (.int .u64 0)).setCell (p := ⟨H + 2, k * 9 + 5, none⟩) (Nat.le_refl _) (.bool false)).setCell (p := ⟨H + 2, k * 9 + 6, none⟩) (Nat.le_refl _) (.bool false)).setCell (p := ⟨H + 2, k * 9 + 7, none⟩) (Nat.le_refl _) (.int .i64 0)).setCell (p := ⟨H + 2, k * 9 + 8, none⟩) (Nat.le_refl _) (.int .i64 0))
        clear d0 d1 d2 d3 d4 d5 d6 d7 d8 f0 f1 f2 f3 f4 f5 f6 f7 f8 hOA hdA y0 y1
        go_wp2
        go_roundw
        case rel => exact ⟨k + 1, _, by omega, by go_num, by rw [List.length_set]; exact hrl, hO9.out, fun j hj => by
          by_cases e : j = k
          · subst e
            rw [List.getElem?_set_self (by rw [hrl]; exact hlt), hca.out]
            rfl
          · rw [List.getElem?_set_ne (fun q => e q.symm)]
            exact hall j (by omega), hd9.out⟩
        case measure => simp [intOf]; omega
end Go.Proofs.Ytgnhddnhcfmipaa
