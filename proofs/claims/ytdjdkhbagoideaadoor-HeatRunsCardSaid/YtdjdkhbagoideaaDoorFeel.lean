/- Heat: a watch's feel, Shut, On; walked. -/
import Derived.Test.YtdjdkhbagoideaaDoorHn
namespace Go.Proofs.YtdjdkhbagoideaaDoor
open Go.RowKit Go.BigFrame flt

theorem Wt.put {W w' : World} {B g : Nat} {Z : Zn} {v vo : Value} {s s' : Hs} (h : Wt W B g Z v vo s) (hf : Fr W.heap.size (fun b => b = g) W w') (h1 : w'.heap[g]? = some (.cells (warr Z v vo s') 65)) (hon : s'.on = s.on) : Wt w' B g Z v vo s' :=
  ⟨h1, h.tr.keep fun b e => hf.k b (h.tr.lt b e).2 (fun q => by have := h.vg b e; omega), by rw [hon]; exact h.on.keep fun b e => hf.k b (h.on.lt b e).2 (fun q => by have := (h.og b e).1; omega), h.hB, h.vg, h.og⟩
theorem Wt.cl {W : World} {B g : Nat} {Z : Zn} {v vo : Value} {s : Hs} (h : Wt W B g Z v vo s) (i : Nat) {x : Value} (hx : (warr Z v vo s)[i]? = some x) : W.cell? ⟨g, i, none⟩ = some x := by
  rw [cell_of_row _ _ i _ 65 (0, 0) h.hb]; exact hx
theorem Wt.fz {W : World} {B g : Nat} {Z : Zn} {v vo : Value} {s : Hs} (h : Wt W B g Z v vo s) (i : Nat) : W.frozen? ⟨g, i, none⟩ = false := frozen_row h.hb i
set_option maxHeartbeats 2000000 in
theorem feel_any {W : World} {B g : Nat} {Z : Zn} {v vo : Value} {s : Hs} (hW : Wt W B g Z v vo s) (hZ : Zok Z) (hs : Hok Z s) (x : Nat) (hx : Bt (-1000000) 1000000 x) :
    Calls Tryd.prog 25 #[.pointer (some ⟨g, 0, none⟩), .float .f64 x] W fun e w' => e = .returned (.tuple #[]) ∧ Wt w' B g Z v vo { s with h := feelh Z s x, felt := true } ∧ Fr W.heap.size (fun b => b = g) W w' := by
  have hst : ∀ (p : Addr) (v : Nat) (W : World), (store p (.float .f64 v)).run Tryd.prog W = stored Tryd.prog W p (.float .f64 v) .plain := fun p v W => run_store Tryd.prog W p _ _ rfl
  have y0 := hW.cl 0 (x := .float .f64 Z.al) rfl
  have y7 := hW.cl 7 (x := .float .f64 s.h) rfl
  have y8 := hW.cl 8 (x := .bool s.felt) rfl
  have f7 := hW.fz 7
  have f8 := hW.fz 8
  have hf0 := Fr.refl W.heap.size (fun b => b = g) W
  have hWq := Lib.hid hW
  cases hft : s.felt with
  | false =>
    have e : feelh Z s x = x := by unfold feelh; rw [hft]; rfl
    have hfin : Wt ((W.setCell ⟨g, 7, none⟩ (.float .f64 x)).setCell ⟨g, 8, none⟩ (.bool true)) B g Z v vo { s with h := feelh Z s x, felt := true } ∧ Fr W.heap.size (fun b => b = g) W ((W.setCell ⟨g, 7, none⟩ (.float .f64 x)).setCell ⟨g, 8, none⟩ (.bool true)) := by
      have hF : Fr W.heap.size (fun b => b = g) W ((W.setCell ⟨g, 7, none⟩ (.float .f64 x)).setCell ⟨g, 8, none⟩ (.bool true)) := (hf0.set (p := ⟨g, 7, none⟩) (fun _ => rfl) _).set (p := ⟨g, 8, none⟩) (fun _ => rfl) _
      exact ⟨hW.put hF (by rw [e]; exact heap_set (heap_set hW.hb 7 _) 8 _) rfl, hF⟩
    rw [hft] at y8
    replace hfin := Lib.hid hfin
    generalize s.h = h0 at *
    clear hW hft e hf0
    go_enter Tryd.func25, Tryd.ntmps25
    go_wp2
    ((try simp only [Exit.inBlock, Exit.then]); refine bodyPost_ret (results_none rfl _ _ _) rfl ?_)
    exact ⟨rfl, hfin.out.1, hfin.out.2⟩
  | true =>
    obtain ⟨b1, b2, b3, b4⟩ := filter_step hZ.al.1 hZ.al.2.1 hZ.al.2.2 hs.h hx
    have e : feelh Z s x = fadd s.h (fmul Z.al (fsub x s.h)) := by unfold feelh; rw [hft]; rfl
    have r1 := fun W => run_float_arith (P := Tryd.prog) W .sub 23 .f64 _ _ _ b1
    have r2 := fun W => run_float_arith (P := Tryd.prog) W .mul 23 .f64 _ _ _ b2
    have r3 := fun W => run_float_arith (P := Tryd.prog) W .add 23 .f64 _ _ _ b3
    have hfin : ∀ q : Nat, q = feelh Z s x → Wt (W.setCell ⟨g, 7, none⟩ (.float .f64 q)) B g Z v vo { s with h := feelh Z s x, felt := true } ∧ Fr W.heap.size (fun b => b = g) W (W.setCell ⟨g, 7, none⟩ (.float .f64 q)) := fun q hq => by
      subst hq
      have hF : Fr W.heap.size (fun b => b = g) W (W.setCell ⟨g, 7, none⟩ (.float .f64 (feelh Z s x))) := hf0.set (p := ⟨g, 7, none⟩) (fun _ => rfl) _
      have h2 := heap_set hW.hb 7 (.float .f64 (feelh Z s x))
      refine ⟨hW.put hF ?_ rfl, hF⟩
      rw [h2]
      unfold warr
      rw [hft]
      rfl
    rw [hft] at y8
    replace hfin := Lib.hid (hfin _ e.symm)
    generalize fsub x s.h = q1 at *
    generalize fmul Z.al q1 = q2 at *
    generalize fadd s.h q2 = q3 at *
    generalize s.h = h0 at *
    generalize Z.al = al at *
    clear hW hft e hf0 b1 b2 b3 b4 hZ hs hx
    go_enter Tryd.func25, Tryd.ntmps25
    go_upto_region 2 with fail
    go_region
    all_goals go_wp2
    go_end0
    exact ⟨rfl, hfin.out.1.drawn (Drawn.refl _).drew, hfin.out.2.drawn (Drawn.refl _).drew⟩
set_option maxHeartbeats 1000000 in
theorem shut_any {W : World} {B g : Nat} {Z : Zn} {v vo : Value} {s : Hs} (hW : Wt W B g Z v vo s) : Calls Tryd.prog 13 #[.pointer (some ⟨g, 0, none⟩)] W fun e w' => e = .returned (.bool s.sh) ∧ W = w' := by
  have y := hW.cl 12 (x := .bool s.sh) rfl
  clear hW
  generalize s.sh = b at *
  go_enter Tryd.func13, Tryd.ntmps13
  go_wp2
  go_ret
  exact ⟨rfl, rfl⟩
end Go.Proofs.YtdjdkhbagoideaaDoor
