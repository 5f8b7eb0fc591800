/- Idle: Get of a book, walked. -/
import Derived.Test.YtgnhddnhcfmipaaWake
namespace Go.Proofs.Ytgnhddnhcfmipaa
open Go.RowKit Go.BigFrame

def getd (ds : List Dv) (now : Int) (i : Int) : List Dv × List Ev × Int :=
  if inb ds i then
    let x := ds.getD i.toNat zd
    if x.t = 65535 then (ds, [], 3)
    else ((wk (i.toNat + 1) (ds.set i.toNat { x with t := wrap64 (x.t + 1) }) now i.toNat).1, (wk (i.toNat + 1) (ds.set i.toNat { x with t := wrap64 (x.t + 1) }) now i.toNat).2, 0)
  else (ds, [], 1)
theorem Par.set {ds : List Dv} (h : Par ds) {i : Nat} {x y : Dv} (hy : ds[i]? = some y) (hp : x.p = y.p) : Par (ds.set i x) := fun j z hz => by
  by_cases e : j = i
  · subst e
    have hl := (List.getElem?_eq_some_iff.1 hy).1
    rw [List.getElem?_set_self hl] at hz
    cases hz
    rw [hp]
    exact h j y hy
  · rw [List.getElem?_set_ne (fun q => e q.symm)] at hz
    exact h j z hz
def obox (bb : Nat) : Obj := .cells #[.pointer (some ⟨bb, 0, none⟩)] 63
def oout : Obj := .cells #[.slice none 0 0] 70
theorem Wk.of {w1 : World} {H B bb : Nat} {v : Value} {ds : List Dv} {now : Int} (hB : Bp w1 B bb v ds now) (hs : w1.heap.size = H) (lb : bb < H) (lv : ∀ g, v.ownBlock = some g → g < H) :
    Wk (((w1.alloc (obox bb)).alloc oout).alloc (.cells #[fwake H] 107)) H B bb v (.slice none 0 0) ds now [] := by
  have h1 : (w1.alloc (obox bb)).heap[H]? = some (obox bb) := heap_alloc_at' _ _ _ hs.symm
  have h2 : ((w1.alloc (obox bb)).alloc oout).heap[H + 1]? = some oout := heap_alloc_at' _ _ _ (by rw [size_al, hs])
  have h3 : (((w1.alloc (obox bb)).alloc oout).alloc (.cells #[fwake H] 107)).heap[H + 2]? = some (.cells #[fwake H] 107) := heap_alloc_at' _ _ _ (by rw [size_al, size_al, hs])
  have hk : ∀ b, b < w1.heap.size → (((w1.alloc (obox bb)).alloc oout).alloc (.cells #[fwake H] 107)).heap[b]? = w1.heap[b]? := fun b q => by
    rw [Below.heap_alloc _ _ b (by rw [size_al, size_al]; omega), Below.heap_alloc _ _ b (by rw [size_al]; omega), Below.heap_alloc _ _ b q]
  refine ⟨hB.keep (hk _ hB.lt) (fun g hg => hk _ (hB.own.lt g hg).2), lb, lv, ?_, h3, ?_, Own.nil _ _ _ _⟩
  · rw [Below.heap_alloc _ _ H (by rw [size_al, size_al]; omega), Below.heap_alloc _ _ H (by rw [size_al]; omega)]
    exact h1
  · rw [Below.heap_alloc _ _ (H + 1) (by rw [size_al, size_al]; omega)]
    exact h2
set_option maxHeartbeats 4000000 in
theorem bget_any {W : World} {B bb : Nat} {v : Value} {ds : List Dv} {now : Int} (h : Bp W B bb v ds now) (hp : Par ds) (hl : ds.length ≤ 512) (i : Int) :
    Calls Try.prog 28 #[.pointer (some ⟨bb, 0, none⟩), .int .i64 i] W fun e w' => ∃ vo, e = .returned (.tuple #[vo, .int .i64 (getd ds now i).2.2]) ∧ Bp w' B bb v (getd ds now i).1 now ∧ Own w' W.heap.size 84 3 ((getd ds now i).2.1.map erow) vo ∧ Fr W.heap.size (fun b => v.ownBlock = some b) W w' := by
  have hb1 : Below W.heap.size W (W.alloc (obox bb)) := below_al (Below.refl _ _) _
  have hB0 := h.below hb1
  have hbx : (W.alloc (obox bb)).heap[W.heap.size]? = some (obox bb) := heap_alloc_at _ _
  have hs0 : (W.alloc (obox bb)).heap.size = W.heap.size + 1 := size_al _ _
  have lb := h.lt
  have lv := fun g hg => (h.own.lt g hg).2
  have hF0 : Fr W.heap.size (fun b => v.ownBlock = some b) W (W.alloc (obox bb)) := Fr.of hb1
  have hB := Lib.hid h
  clear h hb1
  unfold obox at hB0 hbx hs0 hF0
  by_cases hi : inb ds i
  · obtain ⟨n, rfl⟩ : ∃ n : Nat, i = (n : Int) := ⟨i.toNat, by have := hi.1; omega⟩
    have hn := inb_nat.1 hi
    unfold getd
    rw [if_pos hi]
    simp only
    rw [Int.toNat_natCast]
    have hx : ds[n]? = some ds[n] := List.getElem?_eq_getElem hn
    rw [getD_of hx]
    obtain ⟨g, c, rfl, hBg, hgl, hgb, c0, c1, c2, c3, c4, c5, hfz⟩ := hB0.dev hn
    have K := at_in hB0 hn rfl
    by_cases ht : ds[n].t = 65535
    · rw [if_pos ht]
      rw [ht] at c2
      clear ht hi
      go_enter Try.func28, Try.ntmps28
      go_wp2_with (go_at_call 50; (with_reducible refine (K).mono ?_); rintro e w1 ⟨rfl, rfl⟩)
      go_ret2
      exact ⟨_, rfl, hB0, Own.nil _ _ _ _, hF0⟩
    · rw [if_neg ht]
      have f2 := hfz 2 (by decide)
      have hw : ∀ n, IntKind.i64.wrap n = wrap64 n := IntWalk.i64_left
      have hB1 := hB.out.set' hx 2 (by decide) (.int .i64 (wrap64 (ds[n].t + 1))) { ds[n] with t := wrap64 (ds[n].t + 1) } rfl
      have hgH : g < W.heap.size := lv g rfl
      have hW1 := Wk.of hB1 (size_set _ _ _) lb lv
      have hF1 : Fr W.heap.size (fun b => (Value.slice (some ⟨g, 0, none⟩) ds.length c).ownBlock = some b) W (((((W.setCell ⟨g, n * 6 + 2, none⟩ (.int .i64 (wrap64 (ds[n].t + 1)))).alloc (obox bb)).alloc oout).alloc (.cells #[fwake W.heap.size] 107))) :=
        (Fr.set (Fr.refl _ _ _) (fun _ => by rfl) _).trans (Fr.of ((below_al (below_al (below_al (Below.refl _ _) _) _) _).mono (by rw [size_set]; exact Nat.le_refl _)))
      have hn' : n < (ds.set n { ds[n] with t := wrap64 (ds[n].t + 1) }).length := by rw [List.length_set]; exact hn
      have hp1 : Par (ds.set n { ds[n] with t := wrap64 (ds[n].t + 1) }) := hp.set hx rfl
      generalize ds[n] = x at *
      have K51 := fun W' hW' => wake_any W.heap.size B bb (.slice (some ⟨g, 0, none⟩) ds.length c) now (n + 1) n W' (.slice none 0 0) (ds.set n { x with t := wrap64 (x.t + 1) }) [] (by omega) hn' hp1 (by simp; omega) hW'
      generalize ds.set n { x with t := wrap64 (x.t + 1) } = ds1 at *
      unfold obox oout fwake at hW1 hF1
      clear hB1 hp hp1 hn' hi
      go_enter Try.func28, Try.ntmps28
      have hst : ∀ (p : Addr) (cs : Array Value) (W : World), (store p (.func (.func 51) #[] cs)).run Try.prog W = stored Try.prog W p (.func (.func 51) #[] cs) .plain := fun p cs W => run_store Try.prog W p _ _ rfl
      go_upto_region 10 with (go_at_call 50; (with_reducible refine (K).mono ?_); rintro e w1 ⟨rfl, rfl⟩)
      have hK := K51 _ hW1
      clear K51 hW1 c0 c1 c2 c3 c4 c5 f2 hfz hB0 hF0 hB hbx K
      go_wp2_with (refine (hK).mono ?_; rintro e w5 ⟨rfl, vo, hW5, hF5⟩; have z3 : w5.cell? ⟨W.heap.size + 1, 0, none⟩ = some vo := cell_of_row _ _ 0 _ 70 (0, 0) hW5.b3)
      go_ret2
      exact ⟨vo, rfl, hW5.bk, hW5.o.mono (by omega), hF1.trans hF5⟩
  · unfold getd
    rw [if_neg hi]
    have K := at_out hB0 hi
    clear hi
    go_enter Try.func28, Try.ntmps28
    go_wp2_with (go_at_call 50; (with_reducible refine (K).mono ?_); rintro e w1 ⟨rfl, rfl⟩)
    go_ret2
    exact ⟨_, rfl, hB0, Own.nil _ _ _ _, hF0⟩
end Go.Proofs.Ytgnhddnhcfmipaa
