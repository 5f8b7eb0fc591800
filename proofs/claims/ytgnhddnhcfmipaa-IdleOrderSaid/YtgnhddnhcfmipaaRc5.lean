/- Idle: views compared as structs; the reference's race in memory. -/
import Derived.Test.YtgnhddnhcfmipaaRc4
import Derived.Test.YtgnhddnhcfmipaaStp1
namespace Go.Proofs.Ytgnhddnhcfmipaa
open Go.RowKit Go.BigFrame

theorem eqFields_vals {P : Program} (w : World) (d : Nat) (xs ys : Array Value) : ∀ (fs : List Field) (bs : List Bool), fs.length = bs.length →
    (∀ (i : Nat) (f : Field) (b : Bool), fs[i]? = some f → bs[i]? = some b → f.name ≠ "_" ∧ ∃ v u, (part f.type xs f.offset).run P w = .ok v w ∧ (part f.type ys f.offset).run P w = .ok u w ∧ (Op.equalIn (d + 1) f.type v u).run P w = .ok b w) →
    (Op.eqFields (d + 1) xs ys fs).run P w = .ok (bs.all id) w
  | [], [], _, _ => by simp [Op.eqFields]
  | f :: fs, b :: bs, hl, h => by
    obtain ⟨hn, v, u, h1, h2, h3⟩ := h 0 f b rfl rfl
    have ih := eqFields_vals w d xs ys fs bs (by simpa using hl) fun i g c hg hc => h (i + 1) g c (by simpa using hg) (by simpa using hc)
    simp only [Op.eqFields, hn, ne_eq, not_false_eq_true, if_true, Sem.run_bind, h1, h2, h3, Result.andThen_ok]
    cases b
    · simp
    · simpa using ih
theorem fields29 : ((Program.fieldsOf Try.prog 29).toList.map fun f => (f.type, f.offset, f.name == "_")) = [(3, 0, false), (4, 1, false), (3, 2, false), (3, 3, false)] := by kernel_rfl
theorem eq_view (W : World) (v u : VW) : (Op.equalIn 10000 29 (.agg v.arr) (.agg u.arr)).run Try.prog W = .ok (decide (v = u)) W := by
  rw [show (10000 : Nat) = 9998 + 1 + 1 from rfl, run_equalIn_struct W (9998 + 1) 29 _ _ (by kernel_rfl) (by kernel_rfl)]
  have hb : decide (v = u) = [decide (v.u = u.u), decide (v.a = u.a), decide (v.s = u.s), decide (v.k = u.k)].all id := by
    obtain ⟨a1, a2, a3, a4⟩ := v
    obtain ⟨b1, b2, b3, b4⟩ := u
    simp only [VW.mk.injEq, List.all_cons, List.all_nil, id, Bool.and_true, Bool.decide_and]
  rw [hb]
  have hF := fields29
  generalize (Program.fieldsOf Try.prog 29).toList = fs at *
  refine eqFields_vals W 9998 _ _ _ _ (by have := congrArg List.length hF; simpa using this) fun i f b hf hb => ?_
  have hm : ([(3, 0, false), (4, 1, false), (3, 2, false), (3, 3, false)] : List (TypeId × Nat × Bool))[i]? = some (f.type, f.offset, f.name == "_") := by
    rw [← hF, List.getElem?_map, hf]; rfl
  have i3 : ∀ x y : Int, (Op.equalIn 9999 3 (.int .i64 x) (.int .i64 y)).run Try.prog W = .ok (decide (x = y)) W := fun x y => by
    rw [show (9999 : Nat) = 9998 + 1 from rfl, run_equalIn_int W 9998 3 .i64 .i64 _ _ Try.underlying3]
    congr 1
  have i4 : ∀ x y : Bool, (Op.equalIn 9999 4 (.bool x) (.bool y)).run Try.prog W = .ok (decide (x = y)) W := fun x y => by
    rw [show (9999 : Nat) = 9998 + 1 from rfl, run_equalIn_bool' W 9998 4 _ _ Try.underlying4]
    congr 1
  match i, hm, hb with
  | 0, hm, hb =>
    simp only [List.getElem?_cons_zero, Option.some.injEq, Prod.mk.injEq] at hm hb
    obtain ⟨e1, e2, e3⟩ := hm
    rw [← e1, ← e2, ← hb]
    exact ⟨(fun q => by rw [q] at e3; cases e3), _, _, part_one W _ (by kernel_rfl) _ _ _ rfl, part_one W _ (by kernel_rfl) _ _ _ rfl, i3 _ _⟩
  | 1, hm, hb =>
    simp only [List.getElem?_cons_succ, List.getElem?_cons_zero, Option.some.injEq, Prod.mk.injEq] at hm hb
    obtain ⟨e1, e2, e3⟩ := hm
    rw [← e1, ← e2, ← hb]
    exact ⟨(fun q => by rw [q] at e3; cases e3), _, _, part_one W _ (by kernel_rfl) _ _ _ rfl, part_one W _ (by kernel_rfl) _ _ _ rfl, i4 _ _⟩
  | 2, hm, hb =>
    simp only [List.getElem?_cons_succ, List.getElem?_cons_zero, Option.some.injEq, Prod.mk.injEq] at hm hb
    obtain ⟨e1, e2, e3⟩ := hm
    rw [← e1, ← e2, ← hb]
    exact ⟨(fun q => by rw [q] at e3; cases e3), _, _, part_one W _ (by kernel_rfl) _ _ _ rfl, part_one W _ (by kernel_rfl) _ _ _ rfl, i3 _ _⟩
  | 3, hm, hb =>
    simp only [List.getElem?_cons_succ, List.getElem?_cons_zero, Option.some.injEq, Prod.mk.injEq] at hm hb
    obtain ⟨e1, e2, e3⟩ := hm
    rw [← e1, ← e2, ← hb]
    exact ⟨(fun q => by rw [q] at e3; cases e3), _, _, part_one W _ (by kernel_rfl) _ _ _ rfl, part_one W _ (by kernel_rfl) _ _ _ rfl, i3 _ _⟩
  | i + 4, hm, _ => simp at hm

def hrow (p : Pa) : List Value := [.bool p.h]
def vrow (p : Pa) : List Value := [.bool p.o]
def nrow (i : Int) : List Value := [.int .i64 i]
def wrow (v : VW) : List Value := [.int .i64 v.u, .bool v.a, .int .i64 v.s, .int .i64 v.k]
def rarr (D : Int) (A : Option Addr) (n c : Nat) (w : VW) (g1 g2 g3 g4 : Nat) (vo : Value) : Array Value :=
  #[.int .i64 D, .slice A n c, .int .i64 w.u, .bool w.a, .int .i64 w.s, .int .i64 w.k, .slice (some ⟨g1, 0, none⟩) n n, .slice (some ⟨g2, 0, none⟩) n n, .slice (some ⟨g3, 0, none⟩) n n, .slice (some ⟨g4, 0, none⟩) n n, vo]
/-- the reference's race: its block rb, its four lists between B and rb, the order behind rb -/
structure RR (W0 W : World) (B rb : Nat) (D : Int) (A : Option Addr) (n c g1 g2 g3 g4 : Nat) (vo : Value) (rd : List VW) (s : Rs) : Prop where
  hb : W.heap[rb]? = some (.cells (rarr D A n c s.w g1 g2 g3 g4 vo) 56)
  o1 : Own W B 108 2 (s.l.map qrow) (.slice (some ⟨g1, 0, none⟩) n n)
  o2 : Own W B 29 4 (rd.map wrow) (.slice (some ⟨g2, 0, none⟩) n n)
  o3 : Own W B 4 1 (s.l.map hrow) (.slice (some ⟨g3, 0, none⟩) n n)
  o4 : Own W B 4 1 (s.l.map vrow) (.slice (some ⟨g4, 0, none⟩) n n)
  oo : Own W (rb + 1) 3 1 (s.ord.map nrow) vo
  len : s.l.length = n
  rl : rd.length = n
  rh : ∀ k, (s.l.getD k pa0).h = true → rd.getD k zv = (s.l.getD k pa0).r
  dis : g1 ≠ g2 ∧ g1 ≠ g3 ∧ g1 ≠ g4 ∧ g2 ≠ g3 ∧ g2 ≠ g4 ∧ g3 ≠ g4
  lt : g1 < rb ∧ g2 < rb ∧ g3 < rb ∧ g4 < rb
  hB : B ≤ rb
  b : Below B W0 W
theorem map_keep {β : Type} {l : List Pa} {k : Nat} {p' : Pa} {f : Pa → β} (hk : k < l.length) (h : f p' = f (l.getD k pa0)) : (l.set k p').map f = l.map f := by
  rw [List.map_set, h, List.getD_eq_getElem?_getD, List.getElem?_eq_getElem hk]
  have : f ((some l[k]).getD pa0) = (l.map f)[k]'(by simpa using hk) := by simp
  rw [this, List.set_getElem_self]
theorem map_at {β : Type} {l : List Pa} {k : Nat} {f : Pa → β} (hk : k < l.length) : (l.map f)[k]? = some (f (l.getD k pa0)) := by
  rw [List.getElem?_map, List.getD_eq_getElem?_getD, List.getElem?_eq_getElem hk]; rfl
theorem vmap_at {β : Type} {l : List VW} {k : Nat} {f : VW → β} (hk : k < l.length) : (l.map f)[k]? = some (f (l.getD k zv)) := by
  rw [List.getElem?_map, List.getD_eq_getElem?_getD, List.getElem?_eq_getElem hk]; rfl
section
variable {W0 W : World} {B rb : Nat} {D : Int} {A : Option Addr} {n c g1 g2 g3 g4 : Nat} {vo : Value} {rd : List VW} {s : Rs}
theorem RR.cl (h : RR W0 W B rb D A n c g1 g2 g3 g4 vo rd s) (i : Nat) {v : Value} (hv : (rarr D A n c s.w g1 g2 g3 g4 vo)[i]? = some v) : W.cell? ⟨rb, i, none⟩ = some v := by
  rw [cell_of_row _ _ i _ 56 (0, 0) h.hb]; exact hv
theorem RR.fz (h : RR W0 W B rb D A n c g1 g2 g3 g4 vo rd s) (i : Nat) : W.frozen? ⟨rb, i, none⟩ = false := frozen_row h.hb i
theorem RR.g (h : RR W0 W B rb D A n c g1 g2 g3 g4 vo rd s) : (B ≤ g1 ∧ g1 < W.heap.size) ∧ (B ≤ g2 ∧ g2 < W.heap.size) ∧ (B ≤ g3 ∧ g3 < W.heap.size) ∧ B ≤ g4 ∧ g4 < W.heap.size := ⟨h.o1.lt _ rfl, h.o2.lt _ rfl, h.o3.lt _ rfl, h.o4.lt _ rfl⟩
theorem far (X : World) (p : Addr) (v : Value) (b : Nat) (h : b ≠ p.block) : (X.setCell p v).heap[b]? = X.heap[b]? := Below.heap_setCell X p v b h
theorem RR.n1 (h : RR W0 W B rb D A n c g1 g2 g3 g4 vo rd s) {k : Nat} (hk : k < n) {p' : Pa} (f : Nat) (hf : f < 2) (u : Value) (hq : qrow p' = (qrow (s.l.getD k pa0)).set f u) (e3 : p'.h = (s.l.getD k pa0).h) (e4 : p'.o = (s.l.getD k pa0).o) (er : p'.r = (s.l.getD k pa0).r) :
    RR W0 (W.setCell ⟨g1, k * 2 + f, none⟩ u) B rb D A n c g1 g2 g3 g4 vo rd ⟨s.w, s.l.set k p', s.ord⟩ := by
  have hkl : k < s.l.length := by rw [h.len]; exact hk
  have hg := h.g
  have hd := h.dis
  have hl := h.lt
  have hf' : ∀ b, b ≠ g1 → (W.setCell ⟨g1, k * 2 + f, none⟩ u).heap[b]? = W.heap[b]? := fun b q => far _ _ _ _ q
  have u1 := h.o1.upd (by simpa using h.len) hk (map_at hkl) hf u
  refine ⟨(hf' _ (by omega)).trans h.hb, ?_, h.o2.keep fun g e => hf' _ ?_, ?_, ?_, h.oo.keep fun g e => hf' _ ?_, by simpa using h.len, h.rl, fun j hj => ?_, hd, hl, h.hB, h.b.setCell (by exact hg.1.1) _⟩
  · simp only
    rw [List.map_set, hq]; exact u1
  · have e2 := Option.some.inj e; dsimp only at e2; omega
  · simp only
    rw [map_keep hkl (by unfold hrow; rw [e3])]
    exact h.o3.keep fun g e => hf' _ (by have e2 := Option.some.inj e; dsimp only at e2; omega)
  · simp only
    rw [map_keep hkl (by unfold vrow; rw [e4])]
    exact h.o4.keep fun g e => hf' _ (by have e2 := Option.some.inj e; dsimp only at e2; omega)
  · have := (h.oo.lt g e).1; omega
  · simp only at hj ⊢
    by_cases e : j = k
    · subst e
      rw [getP_set hkl] at hj ⊢
      rw [er]; exact h.rh j (by rw [← e3]; exact hj)
    · rw [getP_far e] at hj ⊢
      exact h.rh j hj
theorem RR.n3 (h : RR W0 W B rb D A n c g1 g2 g3 g4 vo rd s) {k : Nat} (hk : k < n) {p' : Pa} (hq : qrow p' = qrow (s.l.getD k pa0)) (e4 : p'.o = (s.l.getD k pa0).o) (er : p'.h = true → rd.getD k zv = p'.r) :
    RR W0 (W.setCell ⟨g3, k, none⟩ (.bool p'.h)) B rb D A n c g1 g2 g3 g4 vo rd ⟨s.w, s.l.set k p', s.ord⟩ := by
  have hkl : k < s.l.length := by rw [h.len]; exact hk
  have hg := h.g
  have hd := h.dis
  have hl := h.lt
  have hf' : ∀ b, b ≠ g3 → (W.setCell ⟨g3, k, none⟩ (.bool p'.h)).heap[b]? = W.heap[b]? := fun b q => far _ _ _ _ q
  have u1 := h.o3.upd (by simpa using h.len) hk (map_at hkl) (f := 0) (by decide) (.bool p'.h)
  rw [Nat.mul_one, Nat.add_zero] at u1
  refine ⟨(hf' _ (by omega)).trans h.hb, ?_, h.o2.keep fun g e => hf' _ ?_, ?_, ?_, h.oo.keep fun g e => hf' _ ?_, by simpa using h.len, h.rl, fun j hj => ?_, hd, hl, h.hB, h.b.setCell (by exact hg.2.2.1.1) _⟩
  · simp only
    rw [map_keep hkl hq]
    exact h.o1.keep fun g e => hf' _ (by have e2 := Option.some.inj e; dsimp only at e2; omega)
  · have e2 := Option.some.inj e; dsimp only at e2; omega
  · simp only
    rw [List.map_set]; exact u1
  · simp only
    rw [map_keep hkl (by unfold vrow; rw [e4])]
    exact h.o4.keep fun g e => hf' _ (by have e2 := Option.some.inj e; dsimp only at e2; omega)
  · have := (h.oo.lt g e).1; omega
  · simp only at hj ⊢
    by_cases e : j = k
    · subst e
      rw [getP_set hkl] at hj ⊢
      exact er hj
    · rw [getP_far e] at hj ⊢
      exact h.rh j hj
theorem RR.n4 (h : RR W0 W B rb D A n c g1 g2 g3 g4 vo rd s) {k : Nat} (hk : k < n) {p' : Pa} (hq : qrow p' = qrow (s.l.getD k pa0)) (e3 : p'.h = (s.l.getD k pa0).h) (er : p'.r = (s.l.getD k pa0).r) :
    RR W0 (W.setCell ⟨g4, k, none⟩ (.bool p'.o)) B rb D A n c g1 g2 g3 g4 vo rd ⟨s.w, s.l.set k p', s.ord⟩ := by
  have hkl : k < s.l.length := by rw [h.len]; exact hk
  have hg := h.g
  have hd := h.dis
  have hl := h.lt
  have hf' : ∀ b, b ≠ g4 → (W.setCell ⟨g4, k, none⟩ (.bool p'.o)).heap[b]? = W.heap[b]? := fun b q => far _ _ _ _ q
  have u1 := h.o4.upd (by simpa using h.len) hk (map_at hkl) (f := 0) (by decide) (.bool p'.o)
  rw [Nat.mul_one, Nat.add_zero] at u1
  refine ⟨(hf' _ (by omega)).trans h.hb, ?_, h.o2.keep fun g e => hf' _ ?_, ?_, ?_, h.oo.keep fun g e => hf' _ ?_, by simpa using h.len, h.rl, fun j hj => ?_, hd, hl, h.hB, h.b.setCell (by exact hg.2.2.2.1) _⟩
  · simp only
    rw [map_keep hkl hq]
    exact h.o1.keep fun g e => hf' _ (by have e2 := Option.some.inj e; dsimp only at e2; omega)
  · have e2 := Option.some.inj e; dsimp only at e2; omega
  · simp only
    rw [map_keep hkl (by unfold hrow; rw [e3])]
    exact h.o3.keep fun g e => hf' _ (by have e2 := Option.some.inj e; dsimp only at e2; omega)
  · simp only
    rw [List.map_set]; exact u1
  · have := (h.oo.lt g e).1; omega
  · simp only at hj ⊢
    by_cases e : j = k
    · subst e
      rw [getP_set hkl] at hj ⊢
      rw [er]; exact h.rh j (by rw [← e3]; exact hj)
    · rw [getP_far e] at hj ⊢
      exact h.rh j hj
/-- what is read is kept -/
theorem RR.n2 (h : RR W0 W B rb D A n c g1 g2 g3 g4 vo rd s) {k : Nat} (hk : k < n) (h0 : (s.l.getD k pa0).h = false) (v : VW) :
    RR W0 ((((W.setCell ⟨g2, k * 4, none⟩ (.int .i64 v.u)).setCell ⟨g2, k * 4 + 1, none⟩ (.bool v.a)).setCell ⟨g2, k * 4 + 2, none⟩ (.int .i64 v.s)).setCell ⟨g2, k * 4 + 3, none⟩ (.int .i64 v.k)) B rb D A n c g1 g2 g3 g4 vo (rd.set k v) s := by
  have hkl : k < rd.length := by rw [h.rl]; exact hk
  have hg := h.g
  have hd := h.dis
  have hl := h.lt
  have hm : (rd.map wrow).length = n := by simpa using h.rl
  have u0 := h.o2.upd hm hk (vmap_at hkl) (f := 0) (by decide) (.int .i64 v.u)
  have u3 := ((u0.upd2 hm hk (f := 1) (by decide) (.bool v.a)).upd2 hm hk (f := 2) (by decide) (.int .i64 v.s)).upd2 hm hk (f := 3) (by decide) (.int .i64 v.k)
  rw [Nat.add_zero] at u3
  have hb3 := (((h.b.setCell (p := ⟨g2, k * 4, none⟩) hg.2.1.1 (.int .i64 v.u)).setCell (p := ⟨g2, k * 4 + 1, none⟩) hg.2.1.1 (.bool v.a)).setCell (p := ⟨g2, k * 4 + 2, none⟩) hg.2.1.1 (.int .i64 v.s)).setCell (p := ⟨g2, k * 4 + 3, none⟩) hg.2.1.1 (.int .i64 v.k)
  have hf' : ∀ b, b ≠ g2 → ((((W.setCell ⟨g2, k * 4, none⟩ (.int .i64 v.u)).setCell ⟨g2, k * 4 + 1, none⟩ (.bool v.a)).setCell ⟨g2, k * 4 + 2, none⟩ (.int .i64 v.s)).setCell ⟨g2, k * 4 + 3, none⟩ (.int .i64 v.k)).heap[b]? = W.heap[b]? := fun b q => by
    rw [far _ _ _ _ q, far _ _ _ _ q, far _ _ _ _ q, far _ _ _ _ q]
  generalize ((((W.setCell ⟨g2, k * 4, none⟩ (.int .i64 v.u)).setCell ⟨g2, k * 4 + 1, none⟩ (.bool v.a)).setCell ⟨g2, k * 4 + 2, none⟩ (.int .i64 v.s)).setCell ⟨g2, k * 4 + 3, none⟩ (.int .i64 v.k)) = W' at *
  refine ⟨(hf' _ (by omega)).trans h.hb, h.o1.keep fun g e => hf' _ ?_, ?_, h.o3.keep fun g e => hf' _ ?_, h.o4.keep fun g e => hf' _ ?_, h.oo.keep fun g e => hf' _ ?_, h.len, by simpa using h.rl, fun j hj => ?_, hd, hl, h.hB, hb3⟩
  · have e2 := Option.some.inj e; dsimp only at e2; omega
  · rw [List.map_set]; exact u3
  · have e2 := Option.some.inj e; dsimp only at e2; omega
  · have e2 := Option.some.inj e; dsimp only at e2; omega
  · have := (h.oo.lt g e).1; omega
  · have hjk : j ≠ k := fun e => by rw [e, h0] at hj; cases hj
    have := h.rh j hj
    rw [List.getD_eq_getElem?_getD] at this ⊢
    rw [List.getElem?_set_ne (fun e => hjk e.symm)]
    exact this
/-- the word -/
theorem RR.nw (h : RR W0 W B rb D A n c g1 g2 g3 g4 vo rd s) (v : VW) :
    RR W0 ((((W.setCell ⟨rb, 2, none⟩ (.int .i64 v.u)).setCell ⟨rb, 3, none⟩ (.bool v.a)).setCell ⟨rb, 4, none⟩ (.int .i64 v.s)).setCell ⟨rb, 5, none⟩ (.int .i64 v.k)) B rb D A n c g1 g2 g3 g4 vo rd ⟨v, s.l, s.ord⟩ := by
  have hl := h.lt
  have hB := h.hB
  have hf' : ∀ b, b ≠ rb → ((((W.setCell ⟨rb, 2, none⟩ (.int .i64 v.u)).setCell ⟨rb, 3, none⟩ (.bool v.a)).setCell ⟨rb, 4, none⟩ (.int .i64 v.s)).setCell ⟨rb, 5, none⟩ (.int .i64 v.k)).heap[b]? = W.heap[b]? := fun b q => by
    rw [far _ _ _ _ q, far _ _ _ _ q, far _ _ _ _ q, far _ _ _ _ q]
  refine ⟨?_, h.o1.keep fun g e => hf' _ ?_, h.o2.keep fun g e => hf' _ ?_, h.o3.keep fun g e => hf' _ ?_, h.o4.keep fun g e => hf' _ ?_, h.oo.keep fun g e => hf' _ ?_, h.len, h.rl, h.rh, h.dis, hl, hB,
    (((h.b.setCell (p := ⟨rb, 2, none⟩) hB _).setCell (p := ⟨rb, 3, none⟩) hB _).setCell (p := ⟨rb, 4, none⟩) hB _).setCell (p := ⟨rb, 5, none⟩) hB _⟩
  · exact heap_set (heap_set (heap_set (heap_set h.hb 2 _) 3 _) 4 _) 5 _
  · have e2 := Option.some.inj e; dsimp only at e2; omega
  · have e2 := Option.some.inj e; dsimp only at e2; omega
  · have e2 := Option.some.inj e; dsimp only at e2; omega
  · have e2 := Option.some.inj e; dsimp only at e2; omega
  · have := (h.oo.lt g e).1; omega
/-- a call is done -/
theorem RR.no {W1 w3 : World} {v' : Value} (h : RR W0 W B rb D A n c g1 g2 g3 g4 vo rd s) (h1 : Below W.heap.size W W1) (i : Int) (ho : Own w3 (rb + 1) 3 1 (s.ord.map nrow ++ [nrow i]) v') (hb : Below (rb + 1) W1 w3) :
    RR W0 (w3.setCell ⟨rb, 10, none⟩ v') B rb D A n c g1 g2 g3 g4 v' rd ⟨s.w, s.l, s.ord ++ [i]⟩ := by
  have hl := h.lt
  have hB := h.hB
  have hr := heap_lt h.hb
  have hs : ∀ b, b < rb + 1 → w3.heap[b]? = W.heap[b]? := fun b q => (hb.block b q).trans (h1.block b (by omega))
  have hf' : ∀ b, b < rb → (w3.setCell ⟨rb, 10, none⟩ v').heap[b]? = W.heap[b]? := fun b q => (far _ _ _ _ (by simp only; omega)).trans (hs b (by omega))
  refine ⟨?_, h.o1.keep fun g e => hf' _ ?_, h.o2.keep fun g e => hf' _ ?_, h.o3.keep fun g e => hf' _ ?_, h.o4.keep fun g e => hf' _ ?_, ?_, h.len, h.rl, h.rh, h.dis, hl, hB, ((h.b.trans (h1.mono (by omega))).trans (hb.mono (by omega))).setCell (p := ⟨rb, 10, none⟩) hB _⟩
  · exact heap_set ((hs rb (by omega)).trans h.hb) 10 _
  · have e2 := Option.some.inj e; dsimp only at e2; omega
  · have e2 := Option.some.inj e; dsimp only at e2; omega
  · have e2 := Option.some.inj e; dsimp only at e2; omega
  · have e2 := Option.some.inj e; dsimp only at e2; omega
  · simp only
    rw [List.map_append]
    exact ho.keep fun g e => far _ _ _ _ (by have := (ho.lt g e).1; simp only; omega)
theorem RR.keep {W' : World} (h : RR W0 W B rb D A n c g1 g2 g3 g4 vo rd s) (d : Below W.heap.size W W') : RR W0 W' B rb D A n c g1 g2 g3 g4 vo rd s :=
  ⟨(d.block _ (heap_lt h.hb)).trans h.hb, h.o1.below d, h.o2.below d, h.o3.below d, h.o4.below d, h.oo.below d, h.len, h.rl, h.rh, h.dis, h.lt, h.hB, h.b.trans (d.mono (Nat.le_trans h.hB (Nat.le_of_lt (heap_lt h.hb))))⟩
end
end Go.Proofs.Ytgnhddnhcfmipaa
