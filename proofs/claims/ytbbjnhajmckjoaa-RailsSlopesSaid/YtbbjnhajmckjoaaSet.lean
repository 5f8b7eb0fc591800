/- Rails: a set: who holds it, laid down; New, lay, Ask, Volts, Turns, walked. -/
import Derived.Shelf.SlMaps.Clone
import Derived.Deep.RegionHeld3
import Derived.Lib.Hide
import Derived.Test.YtbbjnhajmckjoaaVals
namespace Go.Proofs.Ytbbjnhajmckjoaa
open Go.RowKit Go.Maps

/-- what is left as it was below H, but for S -/
structure Fr (H : Nat) (S : Nat → Prop) (w w' : World) : Prop where
  g : Below 0 w w'
  k : ∀ b, b < H → ¬ S b → w'.heap[b]? = w.heap[b]?
theorem Fr.refl (H : Nat) (S : Nat → Prop) (w : World) : Fr H S w w := ⟨Below.refl _ _, fun _ _ _ => rfl⟩
theorem Fr.trans {H : Nat} {S : Nat → Prop} {a b c : World} (h : Fr H S a b) (k : Fr H S b c) : Fr H S a c := ⟨h.g.trans k.g, fun x h1 h2 => (k.k x h1 h2).trans (h.k x h1 h2)⟩
theorem Fr.of {H : Nat} {S : Nat → Prop} {w w' : World} (h : Below H w w') : Fr H S w w' := ⟨h.mono (Nat.zero_le _), fun b hb _ => h.block b hb⟩
theorem Fr.mono {H H' : Nat} {S S' : Nat → Prop} {w w' : World} (h : Fr H S w w') (hH : H' ≤ H) (hS : ∀ b, b < H' → S b → S' b) : Fr H' S' w w' := ⟨h.g, fun b hb hn => h.k b (by omega) (fun q => hn (hS b hb q))⟩
theorem Fr.set {H : Nat} {S : Nat → Prop} {w w' : World} (h : Fr H S w w') {p : Addr} (hp : p.block < H → S p.block) (v : Value) : Fr H S w (w'.setCell p v) :=
  ⟨h.g.setCell (Nat.zero_le _) v, fun b hb hn => by
    rw [Below.heap_setCell w' p v b (fun e => hn (by rw [e] at hb ⊢; exact hp hb))]
    exact h.k b hb hn⟩
theorem Fr.drawn {H : Nat} {S : Nat → Prop} {w w' w'' : World} (h : Fr H S w w') (d : Drawn w' w'') : Fr H S w w'' := ⟨d.after h.g, fun b hb hn => by rw [d.heap]; exact h.k b hb hn⟩
theorem Fr.size {H : Nat} {S : Nat → Prop} {w w' : World} (h : Fr H S w w') : w.heap.size ≤ w'.heap.size := h.g.size
theorem Fr.below {H B : Nat} {S : Nat → Prop} {w w' : World} (h : Fr H S w w') (hH : B ≤ H) (hS : ∀ b, S b → B ≤ b) : Below B w w' :=
  ⟨h.g.os, h.g.tape, h.g.output, h.g.size, fun b hb => h.k b (by omega) (fun q => by have := hS b q; omega)⟩
theorem omap_tight {w : World} {b n : Nat} {m : Hl} (h : w.ownsMap Try.prog 3 rdW b n (dmap m)) : w.ownsMap Try.prog 3 rdW b m.length (dmap m) := by
  obtain ⟨es, clock, hb, F, _, hD⟩ := h
  refine ⟨es, clock, hb, F, ?_, hD⟩
  have h1 := congrArg Maps.size hD
  rw [dmap_size, Maps.size_eq, length_sorted, List.length_map] at h1
  rw [h1, Array.length_toList]
  exact Nat.le_refl _
theorem omap_keep {w w' : World} {b n : Nat} {D : DataW Unit} (h : w.ownsMap Try.prog 3 rdW b n D) (hk : w'.heap[b]? = w.heap[b]?) : w'.ownsMap Try.prog 3 rdW b n D := by
  obtain ⟨es, clock, hb, F, hs, hD⟩ := h
  exact ⟨es, clock, hk.trans hb, F, hs, hD⟩
def srow (lo hi st : Int) (b : Nat) (v t : Int) : Array Value := #[.int .i64 lo, .int .i64 hi, .int .i64 st, .map (some b), .int .i64 v, .int .i64 t]
/-- a set in memory: its block g, its map's block b -/
structure St (w : World) (g b : Nat) (lo hi st : Int) (m : Hl) (v t : Int) : Prop where
  r : w.heap[g]? = some (.cells (srow lo hi st b v t) 107)
  o : w.ownsMap Try.prog 3 rdW b m.length (dmap m)
  up : Rising m
  wh : Whos m
theorem St.keep {w w' : World} {g b : Nat} {lo hi st : Int} {m : Hl} {v t : Int} (h : St w g b lo hi st m v t) (h1 : w'.heap[g]? = w.heap[g]?) (h2 : w'.heap[b]? = w.heap[b]?) : St w' g b lo hi st m v t :=
  ⟨h1.trans h.r, omap_keep h.o h2, h.up, h.wh⟩
theorem St.below {w w' : World} {g b : Nat} {lo hi st : Int} {m : Hl} {v t : Int} (h : St w g b lo hi st m v t) (d : Below w.heap.size w w') : St w' g b lo hi st m v t :=
  h.keep (d.block _ (heap_lt h.r)) (d.block _ h.o.lt)
theorem St.ne {w : World} {g b : Nat} {lo hi st : Int} {m : Hl} {v t : Int} (h : St w g b lo hi st m v t) : b ≠ g := by
  intro e
  obtain ⟨es, clock, hb, _⟩ := h.o
  rw [e, h.r] at hb
  cases hb
theorem St.cl {w : World} {g b : Nat} {lo hi st : Int} {m : Hl} {v t : Int} (h : St w g b lo hi st m v t) (i : Nat) {x : Value} (hx : (srow lo hi st b v t)[i]? = some x) : w.cell? ⟨g, i, none⟩ = some x := by
  rw [cell_of_row _ _ i _ 107 (0, 0) h.r]
  exact hx
/-- the volts that a list of holders asks, and why not -/
def setr (lo hi st : Int) (m : Hl) : Int × Int := if m = [] then (0, 0) else meet lo hi st (m.map (·.2))
def turn (v v' t : Int) : Int := if v' = v then t else wrap64 (t + 1)

set_option maxHeartbeats 1000000 in
theorem coll_any (Bm b nn : Nat) (m : Hl) (hm : Rising m) (hl : m.length ≤ 4096) (w : World) (hBm : Bm < w.heap.size) (hc : w.cell? ⟨Bm, 0, none⟩ = some (.map (some b))) (hown : w.ownsMap Try.prog 3 rdW b nn (dmap m)) :
    Calls Try.prog 69 #[.func (.func 82) #[] #[.pointer (some ⟨Bm, 0, none⟩)]] w fun e w' => ∃ A c ss, e = .returned (.slice A (ss : List Pt).length c) ∧ ss.Perm (m.map (·.2)) ∧ Pts w' A ss ∧ Below w.heap.size w w' := by
  have K := callsIn_wide.1 (apseq_in 2 (by omega) Bm b nn m hm hl w hBm hc hown)
  go_enter Try.func69, Try.ntmps69
  go_wp2_with (go_at_call 81; (with_reducible refine (K).mono ?_); rintro e w1 ⟨v, ss, rfl, hp, hr, hb⟩)
  go_ret
  have ho : Own w1 w.heap.size 58 2 (ss.map prow) v := ⟨by rw [List.length_map]; exact hr, prow_len ss⟩
  obtain ⟨A, c, rfl, hP⟩ := ho.pts
  exact ⟨A, c, ss, rfl, hp, hP, hb⟩
theorem vals_call (b : Nat) (w : World) : Calls Try.prog 70 #[.map (some b)] w fun e w' => e = .returned (.func (.func 82) #[] #[.pointer (some ⟨w.heap.size, 0, none⟩)]) ∧ w' = w.alloc (.cells #[.map (some b)] 105) :=
  callsIn_wide.1 (vals_any (some b) w 1)
set_option maxHeartbeats 4000000 in
set_option maxRecDepth 100000 in
/-- whoever holds it is laid down, if that can be -/
theorem lay_any {w : World} {g b b2 : Nat} {lo hi st : Int} {m m2 : Hl} {v t : Int} (hS : St w g b lo hi st m v t) (ho : w.ownsMap Try.prog 3 rdW b2 m2.length (dmap m2)) (hup : Rising m2) (hwh : Whos m2) :
    Calls Try.prog 53 #[.pointer (some ⟨g, 0, none⟩), .map (some b2)] w fun e w' => e = .returned (.int .i64 (setr lo hi st m2).2) ∧ Fr w.heap.size (fun x => x = g) w w' ∧
      ((setr lo hi st m2).2 = 0 → w'.heap[g]? = some (.cells (srow lo hi st b2 (setr lo hi st m2).1 (turn v (setr lo hi st m2).1 t)) 107)) ∧ ((setr lo hi st m2).2 ≠ 0 → w'.heap[g]? = some (.cells (srow lo hi st b v t) 107)) := by
  have hlen := whos_len hup hwh
  have c0 := hS.cl 0 (x := .int .i64 lo) rfl
  have c1 := hS.cl 1 (x := .int .i64 hi) rfl
  have c2 := hS.cl 2 (x := .int .i64 st) rfl
  have c3 := hS.cl 3 (x := .map (some b)) rfl
  have c4 := hS.cl 4 (x := .int .i64 v) rfl
  have c5 := hS.cl 5 (x := .int .i64 t) rfl
  have f3 := frozen_row hS.r 3
  have f4 := frozen_row hS.r 4
  have f5 := frozen_row hS.r 5
  have hst : Hid (∀ (X : World) (b' : Nat) (v' : Int) (_ : Below w.heap.size w X), Fr w.heap.size (fun x => x = g) w ((X.setCell ⟨g, 3, none⟩ (.map (some b'))).setCell ⟨g, 4, none⟩ (.int .i64 v')) ∧
      ((X.setCell ⟨g, 3, none⟩ (.map (some b'))).setCell ⟨g, 4, none⟩ (.int .i64 v')).heap[g]? = some (.cells (srow lo hi st b' v' t) 107)) := Lib.hid fun X b' v' q => by
    refine ⟨((Fr.of q : Fr _ (fun x => x = g) _ _).set (p := ⟨g, 3, none⟩) (fun _ => rfl) _).set (p := ⟨g, 4, none⟩) (fun _ => rfl) _, ?_⟩
    exact heap_set (heap_set ((q.block _ (heap_lt hS.r)).trans hS.r) 3 _) 4 _
  have hst5 : Hid (∀ (X : World) (b' : Nat) (v' t' : Int) (_ : Below w.heap.size w X), Fr w.heap.size (fun x => x = g) w (((X.setCell ⟨g, 5, none⟩ (.int .i64 t')).setCell ⟨g, 3, none⟩ (.map (some b'))).setCell ⟨g, 4, none⟩ (.int .i64 v')) ∧
      (((X.setCell ⟨g, 5, none⟩ (.int .i64 t')).setCell ⟨g, 3, none⟩ (.map (some b'))).setCell ⟨g, 4, none⟩ (.int .i64 v')).heap[g]? = some (.cells (srow lo hi st b' v' t') 107)) := Lib.hid fun X b' v' t' q => by
    refine ⟨(((Fr.of q : Fr _ (fun x => x = g) _ _).set (p := ⟨g, 5, none⟩) (fun _ => rfl) _).set (p := ⟨g, 3, none⟩) (fun _ => rfl) _).set (p := ⟨g, 4, none⟩) (fun _ => rfl) _, ?_⟩
    exact heap_set (heap_set (heap_set ((q.block _ (heap_lt hS.r)).trans hS.r) 5 _) 3 _) 4 _
  cases m2 with
  | nil =>
    have e : setr lo hi st [] = (0, 0) := rfl
    rw [e]
    by_cases hv : 0 = v
    · subst hv
      clear c0 c1 c2 f5 hst5 hS
      go_enter Try.func53, Try.ntmps53
      go_wp2_with (first
        | (at_len; refine wpList_len_own _ rfl _ 105 rfl 3 58 Try.underlying105 rdW b2 0 _ rfl ho ?_; rw [dmap_size, List.length_nil])
        | go_in)
      go_ret
      exact ⟨rfl, (hst.out w b2 0 (Below.refl _ _)).1, fun _ => (hst.out w b2 0 (Below.refl _ _)).2, fun q => absurd rfl q⟩
    · have hv' : ((0 : Int) == v) = false := by simpa using hv
      have htn : turn v 0 t = wrap64 (t + 1) := if_neg hv
      simp only [htn]
      clear c0 c1 c2 hst hS
      go_enter Try.func53, Try.ntmps53
      go_wp2_with (first
        | (at_len; refine wpList_len_own _ rfl _ 105 rfl 3 58 Try.underlying105 rdW b2 0 _ rfl ho ?_; rw [dmap_size, List.length_nil])
        | go_in)
      go_ret
      exact ⟨rfl, (hst5.out w b2 0 _ (Below.refl _ _)).1, fun _ => (hst5.out w b2 0 _ (Below.refl _ _)).2, fun q => absurd rfl q⟩
  | cons x m2 =>
    have e : setr lo hi st (x :: m2) = meet lo hi st ((x :: m2).map (·.2)) := rfl
    rw [e]
    have hpos : (0 : Int) < (((x :: m2 : Hl).length : Nat) : Int) := by simp
    have hrec : ∀ (X : World), Below w.heap.size w X → X.ownsMap Try.prog 3 rdW b2 (x :: m2 : Hl).length (dmap (x :: m2)) := fun X q => omap_keep ho (q.block _ ho.lt)
    have KV := fun (X : World) => (show Calls Try.prog 70 #[.map (some b2)] X fun e w' => ∃ B, e = .returned (.func (.func 82) #[] #[.pointer (some ⟨B, 0, none⟩)]) ∧ B < w'.heap.size ∧ w'.cell? ⟨B, 0, none⟩ = some (.map (some b2)) ∧ Below X.heap.size X w' from
      (vals_call b2 X).mono fun e w' ⟨h1, h2⟩ => ⟨X.heap.size, h1, by rw [h2, size_al]; omega, by rw [h2]; exact (Boxed.new X 105 (.map (some b2))).cell, by rw [h2]; exact below_al (Below.refl _ _) _⟩)
    have KC := fun (X : World) (B : Nat) (q : Below w.heap.size w X) (hB : B < X.heap.size) (hc : X.cell? ⟨B, 0, none⟩ = some (.map (some b2))) => coll_any B b2 _ (x :: m2) hup hlen X hB hc (hrec X q)
    have KM := fun (ss : List Pt) (A : Option Addr) (c : Nat) (X : World) (h : Pts X A ss) => meet_any lo hi st ss A c X h
    have hperm := fun (ss : List Pt) (h : ss.Perm ((x :: m2 : Hl).map (·.2))) => meet_perm (lo := lo) (hi := hi) (st := st) h
    replace hperm := Lib.hid hperm
    generalize (x :: m2 : Hl) = mm at *
    generalize meet lo hi st (mm.map (·.2)) = q at *
    obtain ⟨q1, q2⟩ := q
    have hwlt := heap_lt hS.r
    go_enter Try.func53, Try.ntmps53
    go_upto_region 4 with (first
      | (at_len; refine wpList_len_own _ rfl _ 105 rfl 3 58 Try.underlying105 rdW b2 _ _ rfl ho ?_; rw [dmap_size])
      | go_in)
    go_cut [5, 6, 9] from 10 to 20 (fun p q _ wc => p = .int .i64 q1 ∧ q = .int .i64 q2 ∧ Below w.heap.size w wc)
    case first =>
      have hS0 := fun (X : World) (d : Below w.heap.size w X) => (show X.cell? ⟨g, 0, none⟩ = some (.int .i64 lo) ∧ X.cell? ⟨g, 1, none⟩ = some (.int .i64 hi) ∧ X.cell? ⟨g, 2, none⟩ = some (.int .i64 st) from
        ⟨(d.cell (p := ⟨g, 0, none⟩) hwlt).trans c0, (d.cell (p := ⟨g, 1, none⟩) hwlt).trans c1, (d.cell (p := ⟨g, 2, none⟩) hwlt).trans c2⟩)
      clear hst hst5 hS f3 f4 f5 c3 c4 c5
      go_region_held3 (fun X => X.cell? ⟨g, 0, none⟩ = some (.int .i64 lo) ∧ X.cell? ⟨g, 1, none⟩ = some (.int .i64 hi) ∧ X.cell? ⟨g, 2, none⟩ = some (.int .i64 st))
        (first | exact hS0 _ k3 | exact hS0 _ k2 | exact hS0 _ k1 | exact hS0 _ (Below.refl _ w).drew | exact hS0 _ (Below.refl _ w))
        (first
          | (go_at_call 70; (with_reducible refine (KV _).mono ?_); rintro e w1 ⟨B, rfl, hB, hc, hb1⟩; have k1 : Below w.heap.size w w1 := ((Below.refl _ w).drew).trans hb1)
          | (go_at_call 69; (with_reducible refine (KC _ _ k1 hB hc).mono ?_); rintro e w2 ⟨A, c, ss, rfl, hp, hP, hb2⟩; have k2 : Below w.heap.size w w2 := k1.trans (hb2.mono k1.size))
          | (go_at_call 21; (with_reducible refine (KM ss A c _ hP).mono ?_); rw [hperm.out ss hp]; rintro e w3 ⟨rfl, hb3⟩; have k3 : Below w.heap.size w w3 := k2.trans (hb3.mono k2.size)))
      all_goals go_wp2
      all_goals go_meet
      all_goals (case rel => exact ⟨rfl, rfl, k3⟩)
    obtain ⟨rfl, rfl, hb⟩ := hcut
    have d3 := (hb.cell (p := ⟨g, 3, none⟩) hwlt).trans c3
    have d4 := (hb.cell (p := ⟨g, 4, none⟩) hwlt).trans c4
    have d5 := (hb.cell (p := ⟨g, 5, none⟩) hwlt).trans c5
    have hr' := (hb.block _ hwlt).trans hS.r
    have e3 := frozen_row hr' 3
    have e4 := frozen_row hr' 4
    have e5 := frozen_row hr' 5
    have hfr : Hid (Fr w.heap.size (fun x => x = g) w wc) := Lib.hid (Fr.of hb)
    replace hst := Lib.hid fun b' v' => hst.out wc b' v' hb
    replace hst5 := Lib.hid fun b' v' t' => hst5.out wc b' v' t' hb
    replace hr' := Lib.hid hr'
    clear c0 c1 c2 c3 c4 c5 f3 f4 f5 hS KV KC KM hrec hb ho hperm e
    by_cases hq : q2 = 0
    · subst hq
      by_cases hv : q1 = v
      · subst hv
        have htn : Hid (turn q1 q1 t = t) := Lib.hid (if_pos rfl)
        have hv' : (q1 != q1) = false := by simp
        clear e5 d5
        go_wp2
        go_ret
        exact ⟨rfl, (hst.out _ _).1, by rw [htn.out]; exact (hst.out _ _).2⟩
      · have hv' : (q1 != v) = true := by simpa using hv
        have htn : Hid (turn v q1 t = wrap64 (t + 1)) := Lib.hid (if_neg hv)
        clear hv
        go_wp2
        go_ret
        exact ⟨rfl, (hst5.out _ _ _).1, by rw [htn.out]; exact (hst5.out _ _ _).2⟩
    · have hq' : (q2 != 0) = true := by simpa using hq
      replace hq := Lib.hid hq
      go_wp2
      go_ret
      exact ⟨rfl, hfr.out, fun q => absurd q hq.out, fun _ => hr'.out⟩
/-- maps.Clone -/
theorem clone_any {n : Nat} {b : Nat} {m : Hl} {w : World} (hown : w.ownsMap Try.prog 3 rdW b n (dmap m)) :
    Calls Try.prog 52 #[.map (some b)] w fun e w' => e = .returned (.map (some w.heap.size)) ∧ w'.ownsMap Try.prog 3 rdW w.heap.size n (dmap m) ∧ Below w.heap.size w w' := by
  have hlt := hown.lt
  obtain ⟨es, clock, hb, F, hs, hD⟩ := hown
  have hq := fun w => run_eql_map_nil_sl (P := Try.prog) w 105 _ _ (some b) Try.underlying105
  have hcl : ∀ X : World, X.heap[b]? = some (.map es clock) → (callFunc 68 #[.iface 105 (.map (some b))]).run Try.prog X = .ok (.value (.iface 105 (.map (some X.heap.size)))) (X.alloc (.map es clock)) := fun X hX => by
    rw [run_callFunc_extern Try.func68 (by kernel_rfl) (by kernel_rfl) (by kernel_rfl) (e := Extern.MapsClone.clone) (by kernel_rfl), run_maps_clone_sl X 105 hX]
    rfl
  have hc := hcl w hb
  have ht := fun X v => run_typeAssert_map_sl (P := Try.prog) X 105 20 _ _ v Try.underlying105
  clear hcl
  have hfin : Hid ((w.alloc (.map es clock)).ownsMap Try.prog 3 rdW w.heap.size n (dmap m) ∧ Below w.heap.size w (w.alloc (.map es clock))) := Lib.hid ⟨⟨es, clock, heap_alloc_at _ _, F, hs, hD⟩, below_al (Below.refl _ _) _⟩
  clear hD hs F
  go_enter Try.func52, Try.ntmps52
  go_wp2
  go_ret
  exact ⟨rfl, hfin.out.1, hfin.out.2⟩
/-- what an Ask, a Drop makes of a set -/
structure Sr where
  c : Int
  m : Hl
  v : Int
  t : Int
def layd (lo hi st : Int) (m : Hl) (v t : Int) (m2 : Hl) : Sr := if (setr lo hi st m2).2 = 0 then ⟨0, m2, (setr lo hi st m2).1, turn v (setr lo hi st m2).1 t⟩ else ⟨(setr lo hi st m2).2, m, v, t⟩
def askd (lo hi st : Int) (m : Hl) (v t : Int) (k : Int) (p : Pt) : Sr := if k < 0 ∨ 4095 < k ∨ p.2 < p.1 then ⟨1, m, v, t⟩ else layd lo hi st m v t (ins k p m)
theorem zero58 (w : World) : (zeroValue 58).run Try.prog w = .ok (.agg #[.int .i64 0, .int .i64 0]) w := by kernel_rfl
set_option maxHeartbeats 4000000 in
set_option maxRecDepth 100000 in
theorem ask_any {w : World} {g b : Nat} {lo hi st : Int} {m : Hl} {v t : Int} (hS : St w g b lo hi st m v t) (k : Int) (p : Pt) (hk : (Lit.int .i64 k).wf = true) :
    Calls Try.prog 24 #[.pointer (some ⟨g, 0, none⟩), .int .i64 k, .agg #[.int .i64 p.1, .int .i64 p.2]] w fun e w' => e = .returned (.int .i64 (askd lo hi st m v t k p).c) ∧ Fr w.heap.size (fun x => x = g) w w' ∧
      ∃ b', St w' g b' lo hi st (askd lo hi st m v t k p).m (askd lo hi st m v t k p).v (askd lo hi st m v t k p).t ∧ (b' = b ∨ w.heap.size ≤ b') := by
  have hx := heap_alloc_at w (.cells #[.int .i64 p.1, .int .i64 p.2] 58)
  have hb0 := below_al (Below.refl w.heap.size w) (.cells #[.int .i64 p.1, .int .i64 p.2] 58)
  by_cases hbad : k < 0 ∨ 4095 < k ∨ p.2 < p.1
  · have e : askd lo hi st m v t k p = ⟨1, m, v, t⟩ := if_pos hbad
    obtain ⟨p1, p2⟩ := p
    simp only at *
    rw [e]
    have hfin : Hid (∀ X, Below w.heap.size w X → Fr w.heap.size (fun x => x = g) w X ∧ ∃ b', St X g b' lo hi st m v t ∧ (b' = b ∨ w.heap.size ≤ b')) := Lib.hid fun X q => ⟨Fr.of q, b, hS.below q, Or.inl rfl⟩
    clear e hS
    obtain ⟨y0, y1, -, -⟩ := row2 hx
    by_cases h1 : k < 0
    · go_enter Try.func24, Try.ntmps24
      go_wp2
      go_ret
      exact ⟨rfl, hfin.out _ hb0⟩
    · by_cases h2 : 4095 < k
      · go_enter Try.func24, Try.ntmps24
        go_wp2
        go_ret
        exact ⟨rfl, hfin.out _ hb0⟩
      · have h3 : p2 < p1 := by omega
        clear hbad
        go_enter Try.func24, Try.ntmps24
        go_wp2
        go_ret
        exact ⟨rfl, hfin.out _ hb0⟩
  · have e : askd lo hi st m v t k p = layd lo hi st m v t (ins k p m) := if_neg hbad
    have hS0 := hS.below hb0
    have KC := fun (X : World) (q : Below w.heap.size w X) => clone_any (hS.below q).o
    have KL := fun (X : World) (b2 : Nat) (h : X.ownsMap Try.prog 3 rdW b2 (ins k p m).length (dmap (ins k p m))) (q : Below w.heap.size w X) => lay_any (hS.below q) h (ins_rising hS.up) (ins_whos (by omega) hS.wh)
    have hkey := keyOf_int_mk Try.underlying3 hk
    have hput := dmap_put k p hS.up
    have hlen := whos_len hS.up hS.wh
    have c3 := hS0.cl 3 (x := .map (some b)) rfl
    have hgl := heap_lt hS.r
    obtain ⟨p1, p2⟩ := p
    simp only at *
    have h1 : ¬ k < 0 := by omega
    have h2 : ¬ 4095 < k := by omega
    have h3 : ¬ p2 < p1 := by omega
    obtain ⟨y0, y1, -, -⟩ := row2 hx
    replace hput := Lib.hid hput
    replace e := Lib.hid e
    replace hS := Lib.hid hS
    clear hbad hS0
    generalize hmm : ins k (p1, p2) m = mm at *
    replace hmm := Lib.hid hmm
    go_enter Try.func24, Try.ntmps24
    go_wp2_with (first
      | (go_at_call 52; (with_reducible refine (KC _ hb0).mono ?_); rintro e1 w1 ⟨rfl, ho1, hb1⟩
         have k1 : Below w.heap.size w w1 := hb0.trans (hb1.mono hb0.size)
         rw [size_al] at ho1
         have hlt1 := ho1.lt
         have hx1 := (hb1.block _ (heap_lt hx)).trans hx
         obtain ⟨z0, z1, -, -⟩ := row2 hx1)
      | (at_mapUpdate; refine wpList_mapUpdate_own _ rfl _ _ _ 105 rfl 3 58 (int_keyed Try.underlying3) Try.underlying105 rdW _ m.length _ rfl ho1 (by unfold maxLen; omega) _ _ _ rfl rfl hkey (wdat (p1, p2)) [] rfl ?_
         intro w2 ho2 hg2
         rw [hput.out] at ho2
         have ho3 := omap_tight ho2
         have k2 : Below w.heap.size w w2 := k1.grown hg2 k1.size (fun j e => by cases e; omega))
      | (go_at_call 53; (with_reducible refine (KL _ _ ho3 k2).mono ?_); rintro e3 w3 ⟨rfl, hf3, hy3, hn3⟩))
    go_ret
    have hS := hS.out
    have hgb := hS.ne
    have hbl := hS.o.lt
    have hbw := heap_lt hx
    rw [size_al] at hbw
    have hF : Fr w.heap.size (fun x => x = g) w w3 := (Fr.of k2).trans (hf3.mono k2.size fun _ _ q => q)
    have hl2 := ho3.lt
    rw [e.out]
    by_cases hq : (setr lo hi st mm).2 = 0
    · have e2 : layd lo hi st m v t mm = ⟨0, mm, (setr lo hi st mm).1, turn v (setr lo hi st mm).1 t⟩ := if_pos hq
      rw [e2, hq]
      refine ⟨rfl, hF, w.heap.size + 1, ⟨hy3 hq, omap_keep ho3 (hf3.k _ hl2 (by show ¬ w.heap.size + 1 = g; omega)), ?_, ?_⟩, Or.inr (by omega)⟩
      · rw [← hmm.out]; exact ins_rising hS.up
      · rw [← hmm.out]; exact ins_whos (by omega) hS.wh
    · have e2 : layd lo hi st m v t mm = ⟨(setr lo hi st mm).2, m, v, t⟩ := if_neg hq
      rw [e2]
      exact ⟨rfl, hF, b, ⟨hn3 hq, omap_keep hS.o ((hf3.k b (Nat.lt_of_lt_of_le hbl k2.size) hgb).trans (k2.block _ hbl)), hS.up, hS.wh⟩, Or.inl rfl⟩
end Go.Proofs.Ytbbjnhajmckjoaa
