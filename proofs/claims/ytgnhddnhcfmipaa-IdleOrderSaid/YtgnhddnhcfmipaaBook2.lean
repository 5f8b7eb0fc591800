/- Idle: what a call of a book leaves as it was; a device's row written; Put, walked. -/
import Derived.Test.YtgnhddnhcfmipaaBook
namespace Go.Proofs.Ytgnhddnhcfmipaa
open Go.RowKit Go.BigFrame

theorem wp_world {P : Program} {c : Code} {Q : Exit → Act → World → Prop} {a : Act} {W : World} (h : ∀ wX, wX = W → c.wp P Q a wX) : c.wp P Q a W := h _ rfl
theorem heap_dn {w : World} {n g : Nat} {x : Option Obj} (h : w.heap[g]? = x) : (w.drewN n).heap[g]? = x := h
/-- below H, what is not in S is as it was -/
structure Fr (H : Nat) (S : Nat → Prop) (w w' : World) : Prop where
  g : Below 0 w w'
  k : ∀ b, b < H → ¬ S b → w'.heap[b]? = w.heap[b]?
theorem Fr.refl (H : Nat) (S : Nat → Prop) (w : World) : Fr H S w w := ⟨Below.refl _ _, fun _ _ _ => rfl⟩
theorem Fr.trans {H : Nat} {S : Nat → Prop} {a b c : World} (h : Fr H S a b) (k : Fr H S b c) : Fr H S a c := ⟨h.g.trans k.g, fun x h1 h2 => (k.k x h1 h2).trans (h.k x h1 h2)⟩
theorem Fr.of {H : Nat} {S : Nat → Prop} {w w' : World} (h : Below H w w') : Fr H S w w' := ⟨h.mono (Nat.zero_le _), fun b hb _ => h.block b hb⟩
theorem Fr.mono {H H' : Nat} {S S' : Nat → Prop} {w w' : World} (h : Fr H S w w') (hH : H' ≤ H) (hS : ∀ b, b < H' → S b → S' b) : Fr H' S' w w' := ⟨h.g, fun b hb hn => h.k b (by omega) (fun q => hn (hS b hb q))⟩
theorem Fr.set {H : Nat} {S : Nat → Prop} {w w' : World} (h : Fr H S w w') {p : Addr} (hp : p.block < H → S p.block) (v : Value) : Fr H S w (w'.setCell p v) :=
  ⟨h.g.setCell (Nat.zero_le _) v, fun b hb hn => by
    rw [Below.heap_setCell w' p v b (fun e => hn (by rw [e] at hb ⊢; exact hp hb))]
    exact h.k b hb hn⟩
theorem Fr.drewN {H : Nat} {S : Nat → Prop} {w w' : World} (h : Fr H S w w') (n : Nat) : Fr H S w (w'.drewN n) := ⟨below_drewN' h.g n, h.k⟩
theorem Fr.drawn {H : Nat} {S : Nat → Prop} {w w' w'' : World} (h : Fr H S w w') (d : Drawn w' w'') : Fr H S w w'' := ⟨d.after h.g, fun b hb hn => by rw [d.heap]; exact h.k b hb hn⟩
theorem Fr.size {H : Nat} {S : Nat → Prop} {w w' : World} (h : Fr H S w w') : w.heap.size ≤ w'.heap.size := h.g.size
theorem Fr.below {H B : Nat} {S : Nat → Prop} {w w' : World} (h : Fr H S w w') (hH : B ≤ H) (hS : ∀ b, S b → B ≤ b) : Below B w w' :=
  ⟨h.g.os, h.g.tape, h.g.output, h.g.size, fun b hb => h.k b (by omega) (fun q => by have := hS b q; omega)⟩
theorem Bp.keep {W W' : World} {B bb : Nat} {v : Value} {ds : List Dv} {now : Int} (h : Bp W B bb v ds now) (h1 : W'.heap[bb]? = W.heap[bb]?) (h2 : ∀ g, v.ownBlock = some g → W'.heap[g]? = W.heap[g]?) : Bp W' B bb v ds now :=
  ⟨h1.trans h.hb, h.own.keep h2, h.ne⟩
theorem Bp.below {W W' : World} {B bb : Nat} {v : Value} {ds : List Dv} {now : Int} (h : Bp W B bb v ds now) (d : Below W.heap.size W W') : Bp W' B bb v ds now :=
  h.keep (d.block _ h.lt) (fun g hg => d.block _ (h.own.lt g hg).2)
theorem Bp.drawn {W W' : World} {B bb : Nat} {v : Value} {ds : List Dv} {now : Int} (h : Bp W B bb v ds now) (d : Drawn W W') : Bp W' B bb v ds now := h.below (d.below _)
theorem Bp.fr {W W' : World} {B bb H : Nat} {S : Nat → Prop} {v : Value} {ds : List Dv} {now : Int} (h : Bp W B bb v ds now) (d : Fr H S W W') (h1 : bb < H ∧ ¬ S bb) (h2 : ∀ g, v.ownBlock = some g → g < H ∧ ¬ S g) : Bp W' B bb v ds now :=
  h.keep (d.k _ h1.1 h1.2) (fun g hg => d.k _ (h2 g hg).1 (h2 g hg).2)
/-- the time is written -/
theorem Bp.now {W : World} {B bb : Nat} {v : Value} {ds : List Dv} {now : Int} (h : Bp W B bb v ds now) (n : Int) : Bp (W.setCell ⟨bb, 1, none⟩ (.int .i64 n)) B bb v ds n :=
  ⟨heap_set h.hb 1 _, h.own.keep fun g hg => Below.heap_setCell W _ _ g (fun e => h.ne (by rw [hg]; exact congrArg some e)), h.ne⟩
/-- a field of a device is written -/
theorem Bp.set {W : World} {B bb g c : Nat} {ds : List Dv} {now : Int} (h : Bp W B bb (.slice (some ⟨g, 0, none⟩) ds.length c) ds now) {i : Nat} (hi : i < ds.length) (f : Nat) (hf : f < 6) (u : Value) (x : Dv) (hx : drow x = (drow ds[i]).set f u) :
    Bp (W.setCell ⟨g, i * 6 + f, none⟩ u) B bb (.slice (some ⟨g, 0, none⟩) ds.length c) (ds.set i x) now := by
  have hl : (ds.map drow).length = ds.length := List.length_map _
  have ho := h.own
  rw [← hl] at ho
  have h2 := ho.set (k := i) (by omega) hf u
  have e : (ds.map drow).set i (((ds.map drow)[i]'(by omega)).set f u) = (ds.set i x).map drow := by
    rw [List.map_set, hx, List.getElem_map]
  rw [e, hl] at h2
  refine ⟨?_, h2, h.ne⟩
  exact heap_set_far h.hb (fun e => h.ne (by rw [e]; rfl)) u
/-- the cells of a device that is known -/
theorem Bp.dv {W : World} {B bb : Nat} {g c m : Nat} {ds : List Dv} {now : Int} (h : Bp W B bb (.slice (some ⟨g, 0, none⟩) m c) ds now) {i : Nat} {x : Dv} (hx : ds[i]? = some x) :
    W.cell? ⟨g, i * 6, none⟩ = some (.int .i64 x.p) ∧ W.cell? ⟨g, i * 6 + 1, none⟩ = some (.int .i64 x.d) ∧ W.cell? ⟨g, i * 6 + 2, none⟩ = some (.int .i64 x.t) ∧ W.cell? ⟨g, i * 6 + 3, none⟩ = some (.int .i64 x.k) ∧
    W.cell? ⟨g, i * 6 + 4, none⟩ = some (.bool x.a) ∧ W.cell? ⟨g, i * 6 + 5, none⟩ = some (.int .i64 x.s) ∧ ∀ f, f < 6 → W.frozen? ⟨g, i * 6 + f, none⟩ = false := by
  obtain ⟨hi, rfl⟩ := List.getElem?_eq_some_iff.1 hx
  obtain ⟨g', c', e, _, _, _, r⟩ := h.dev hi
  obtain ⟨e1, _, _⟩ := Value.slice.inj e
  cases e1
  exact r
theorem Bp.set' {W : World} {B bb g c m : Nat} {ds : List Dv} {now : Int} (h : Bp W B bb (.slice (some ⟨g, 0, none⟩) m c) ds now) {i : Nat} {y : Dv} (hy : ds[i]? = some y) (f : Nat) (hf : f < 6) (u : Value) (x : Dv) (hx : drow x = (drow y).set f u) :
    Bp (W.setCell ⟨g, i * 6 + f, none⟩ u) B bb (.slice (some ⟨g, 0, none⟩) m c) (ds.set i x) now := by
  obtain ⟨hi, rfl⟩ := List.getElem?_eq_some_iff.1 hy
  obtain ⟨A', c', e, _⟩ := h.form
  obtain ⟨_, e2, _⟩ := Value.slice.inj e
  subst e2
  exact h.set hi f hf u x hx
def putd (ds : List Dv) (now : Int) (i : Int) : List Dv × Int :=
  if inb ds i then
    let x := ds.getD i.toNat ⟨0, 0, 0, 0, false, 0⟩
    if x.t = 0 then (ds, 230)
    else
      let x1 : Dv := { x with t := wrap64 (x.t - 1) }
      (ds.set i.toNat (if x1.uses = 0 then { x1 with s := now } else x1), 0)
  else (ds, 1)
theorem putd_len (ds : List Dv) (now i : Int) : (putd ds now i).1.length = ds.length := by
  unfold putd
  split
  · simp only
    split
    · rfl
    · simp
  · rfl
set_option maxHeartbeats 4000000 in
theorem bput_any {W : World} {B bb : Nat} {v : Value} {ds : List Dv} {now : Int} (h : Bp W B bb v ds now) (i : Int) :
    Calls Try.prog 30 #[.pointer (some ⟨bb, 0, none⟩), .int .i64 i] W fun e w' => e = .returned (.tuple #[.slice none 0 0, .int .i64 (putd ds now i).2]) ∧ Bp w' B bb v (putd ds now i).1 now ∧ Fr W.heap.size (fun b => v.ownBlock = some b) W w' := by
  by_cases hi : inb ds i
  · obtain ⟨n, rfl⟩ : ∃ n : Nat, i = (n : Int) := ⟨i.toNat, by have := hi.1; omega⟩
    have hn := inb_nat.1 hi
    unfold putd
    rw [if_pos hi]
    simp only
    rw [getD_at hn, Int.toNat_natCast]
    obtain ⟨g, c, rfl, hBg, hgl, hgb, c0, c1, c2, c3, c4, c5, hfz⟩ := h.dev hn
    have K := at_in h hn rfl
    by_cases ht : ds[n].t = 0
    · rw [if_pos ht]
      rw [ht] at c2
      clear ht hi
      go_enter Try.func30, Try.ntmps30
      go_wp2_with (go_at_call 50; (with_reducible refine (K).mono ?_); rintro e w1 ⟨rfl, rfl⟩)
      go_ret2
      exact ⟨rfl, h, Fr.refl _ _ _⟩
    · rw [if_neg ht]
      have f2 := hfz 2 (by decide)
      have hw : ∀ n, IntKind.i64.wrap n = wrap64 n := IntWalk.i64_left
      have hx : ds[n]? = some ds[n] := List.getElem?_eq_getElem hn
      have hB1 := h.set' hx 2 (by decide) (.int .i64 (wrap64 (ds[n].t - 1))) { ds[n] with t := wrap64 (ds[n].t - 1) } rfl
      have hn' : n < (ds.set n { ds[n] with t := wrap64 (ds[n].t - 1) }).length := by rw [List.length_set]; exact hn
      have hx1 : (ds.set n { ds[n] with t := wrap64 (ds[n].t - 1) })[n]? = some { ds[n] with t := wrap64 (ds[n].t - 1) } := by rw [List.getElem?_set_self hn]
      have hF : Fr W.heap.size (fun b => (Value.slice (some ⟨g, 0, none⟩) ds.length c).ownBlock = some b) W (W.setCell ⟨g, n * 6 + 2, none⟩ (.int .i64 (wrap64 (ds[n].t - 1)))) := Fr.set (Fr.refl _ _ _) (fun _ => by rfl) _
      have hmod : ∀ y : Dv, (ds.set n { ds[n] with t := wrap64 (ds[n].t - 1) }).set n y = ds.set n y := fun y => List.set_set _
      generalize ds[n] = x at *
      generalize hyy : (if ({ x with t := wrap64 (x.t - 1) } : Dv).uses = 0 then ({ x with t := wrap64 (x.t - 1), s := now } : Dv) else { x with t := wrap64 (x.t - 1) }) = yd
      replace hyy := Lib.hid hyy
      go_enter Try.func30, Try.ntmps30
      go_upto_region 7 with (go_at_call 50; (with_reducible refine (K).mono ?_); rintro e w1 ⟨rfl, rfl⟩)
      refine wp_world ?_
      intro wX hX
      rw [← hX] at hB1 hF
      clear hX c0 c1 c2 c3 c4 c5 K hfz f2 h
      obtain ⟨_, _, y2, y3, _, y5, yf⟩ := hB1.dv hx1
      have z1 := hB1.c1
      have yf5 := yf 5 (by decide)
      clear yf
      have KU := uses_any g (n * 6) _ _ _ y2 y3
      by_cases hu : ({ x with t := wrap64 (x.t - 1) } : Dv).uses = 0
      · have hyd := hyy.out
        rw [if_pos hu] at hyd
        subst hyd
        have hu' : wrap64 (wrap64 (x.t - 1) + x.k) = 0 := hu
        simp only [hu'] at KU
        clear hu hu' hyy
        go_wp2_with (go_at_call 53; (with_reducible refine (KU).mono ?_); rintro e w2 ⟨rfl, hd⟩; replace hB1 := hB1.drawn hd; replace hF := hF.drawn hd; have z1 := hB1.c1; obtain ⟨_, _, y2, y3, _, y5, yf⟩ := hB1.dv hx1; have yf5 := yf 5 (by decide); clear yf)
        go_ret2
        exact ⟨rfl, by rw [← hmod]; exact hB1.set' hx1 5 (by decide) _ _ rfl, hF.set (fun _ => by rfl) _⟩
      · have hyd := hyy.out
        rw [if_neg hu] at hyd
        subst hyd
        have hu' : ¬ wrap64 (wrap64 (x.t - 1) + x.k) = 0 := hu
        clear hu hyy
        generalize wrap64 (wrap64 (x.t - 1) + x.k) = U at *
        go_wp2_with (go_at_call 53; (with_reducible refine (KU).mono ?_); rintro e w2 ⟨rfl, hd⟩; replace hB1 := hB1.drawn hd; replace hF := hF.drawn hd)
        go_ret2
        exact ⟨rfl, hB1, hF⟩
  · unfold putd
    rw [if_neg hi]
    have K := at_out h hi
    clear hi
    go_enter Try.func30, Try.ntmps30
    go_wp2_with (go_at_call 50; (with_reducible refine (K).mono ?_); rintro e w1 ⟨rfl, rfl⟩)
    go_ret2
    exact ⟨rfl, h, Fr.refl _ _ _⟩
end Go.Proofs.Ytgnhddnhcfmipaa
