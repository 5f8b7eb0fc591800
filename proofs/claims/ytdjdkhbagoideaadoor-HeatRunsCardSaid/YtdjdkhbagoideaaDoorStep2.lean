/- Heat: a watch's Step that is taken; On; walked. -/
import Derived.Test.YtdjdkhbagoideaaDoorStep
namespace Go.Proofs.YtdjdkhbagoideaaDoor
open Go.RowKit Go.BigFrame flt Ieee

set_option maxHeartbeats 1000000 in
set_option maxRecDepth 100000 in
theorem on_any {W : World} {B g : Nat} {Z : Zn} {v vo : Value} {s : Hs} (hW : Wt W B g Z v vo s) (hl : 1 ≤ s.on.length) (i : Int) :
    Calls Tryd.prog 12 #[.pointer (some ⟨g, 0, none⟩), .int .i64 i] W fun e w' => e = .returned (.bool (if 0 ≤ i then s.on.getD i.toNat false else false)) ∧ W = w' := by
  obtain ⟨go_, co, hvo, hg3, hg4⟩ := own_form0 hW.on (by rw [List.length_map]; exact hl)
  rw [List.length_map] at hvo
  subst hvo
  have y9 := hW.cl 9 (x := .slice (some ⟨go_, 0, none⟩) s.on.length co) rfl
  by_cases h0 : 0 ≤ i
  · obtain ⟨k, rfl⟩ : ∃ k : Nat, i = (k : Int) := ⟨i.toNat, by omega⟩
    rw [if_pos h0, Int.toNat_natCast]
    by_cases hk : k < s.on.length
    · have yo := (hW.on.cells (by rw [List.length_map]) (k := k) hk (r := orow s.on[k]) (by rw [List.getElem?_map, List.getElem?_eq_getElem hk]; rfl) (f := 0) (u := .bool s.on[k]) rfl).1
      rw [Nat.mul_one, Nat.add_zero] at yo
      rw [List.getD_eq_getElem?_getD, List.getElem?_eq_getElem hk]
      simp only [Option.getD_some]
      generalize s.on[k] = b at *
      generalize s.on.length = n at *
      clear hW
      go_enter Tryd.func12, Tryd.ntmps12
      go_wp2
      go_ret
      exact ⟨rfl, rfl⟩
    · rw [List.getD_eq_getElem?_getD, List.getElem?_eq_none (by omega)]
      simp only [Option.getD_none]
      have hk' : ¬ (k : Int) < (s.on.length : Int) := by omega
      generalize s.on.length = n at *
      clear hW
      go_enter Tryd.func12, Tryd.ntmps12
      go_wp2
      go_ret
      exact ⟨rfl, rfl⟩
  · rw [if_neg h0]
    generalize s.on.length = n at *
    clear hW
    go_enter Tryd.func12, Tryd.ntmps12
    go_wp2
    go_ret
    exact ⟨rfl, rfl⟩
set_option maxHeartbeats 4000000 in
set_option maxRecDepth 100000 in
theorem step_nan {W : World} {B g : Nat} {Z : Zn} {v vo : Value} {s : Hs} (hW : Wt W B g Z v vo s) (x secs : Nat) (hsh : s.sh = false) (hx : isNaN x = true) (hsec : seconds secs = true) :
    Calls Tryd.prog 5 #[.pointer (some ⟨g, 0, none⟩), .float .f64 x, .float .f64 secs] W fun e w' => e = .returned (.tuple #[.agg (sarr s.h true s.lv false (.slice none 0 0)), .int .i64 0]) ∧ Below W.heap.size W w' := by
  have hst : ∀ (p : Addr) (v : Nat) (W : World), (store p (.float .f64 v)).run Tryd.prog W = stored Tryd.prog W p (.float .f64 v) .plain := fun p v W => run_store Tryd.prog W p _ _ rfl
  have K1 := nan_any x
  have K2 := near_any x
  rw [hx] at K1
  have hnr : near x = false := by
    cases h : near x with
    | false => rfl
    | true => rw [near_nan h] at hx; cases hx
  rw [hnr] at K2
  have a1 : (FloatKind.f64.format.order secs 0 == some .gt) = true := by
    unfold seconds at hsec; rw [Bool.and_eq_true] at hsec; exact hsec.1
  have a2 : (FloatKind.f64.format.order secs 4696837146684686336 == some .lt || FloatKind.f64.format.order secs 4696837146684686336 == some .eq) = true := by
    unfold seconds at hsec; rw [Bool.and_eq_true] at hsec; exact hsec.2
  have hg := heap_lt hW.hb
  have hW2 := hW.below (below_al (below_al (Below.refl W.heap.size W) (.cells #[.float .f64 0, .bool false, .int .i64 0, .bool false, .slice none 0 0] 26)) (.cells #[.float .f64 0, .bool true, .int .i64 0, .bool false, .slice none 0 0] 26))
  have y7 := hW2.cl 7 (x := .float .f64 s.h) rfl
  have y11 := hW2.cl 11 (x := .int .i64 s.lv) rfl
  have y12 := hW2.cl 12 (x := .bool s.sh) rfl
  have y12' := (hW.below (below_al (Below.refl W.heap.size W) (.cells #[.float .f64 0, .bool false, .int .i64 0, .bool false, .slice none 0 0] 26))).cl 12 (x := .bool s.sh) rfl
  rw [hsh] at y12 y12'
  have hx1 : ((W.alloc (.cells #[.float .f64 0, .bool false, .int .i64 0, .bool false, .slice none 0 0] 26)).alloc (.cells #[.float .f64 0, .bool true, .int .i64 0, .bool false, .slice none 0 0] 26)).heap[W.heap.size]? = some (.cells #[.float .f64 0, .bool false, .int .i64 0, .bool false, .slice none 0 0] 26) := heap_alloc (heap_alloc_at _ _)
  have hx2 : ((W.alloc (.cells #[.float .f64 0, .bool false, .int .i64 0, .bool false, .slice none 0 0] 26)).alloc (.cells #[.float .f64 0, .bool true, .int .i64 0, .bool false, .slice none 0 0] 26)).heap[W.heap.size + 1]? = some (.cells #[.float .f64 0, .bool true, .int .i64 0, .bool false, .slice none 0 0] 26) := heap_alloc_at' _ _ _ (by rw [size_al])
  have hb : Below W.heap.size W ((W.alloc (.cells #[.float .f64 0, .bool false, .int .i64 0, .bool false, .slice none 0 0] 26)).alloc (.cells #[.float .f64 0, .bool true, .int .i64 0, .bool false, .slice none 0 0] 26)) := below_al (below_al (Below.refl _ _) _) _
  generalize s.h = h0 at *
  generalize s.lv = lv at *
  clear hW hW2 hx hsec hnr hsh
  go_enter Tryd.func5, Tryd.ntmps5
  go_upto_region 10 with (first
    | (go_at_call 23; (with_reducible refine (K1 _).mono ?_); rintro e wq ⟨rfl, rfl⟩)
    | (go_at_call 24; (with_reducible refine (K2 _).mono ?_); rintro e wq ⟨rfl, rfl⟩)
    | (refine wpList_store_row rfl 26 _ _ rfl (W.heap.size + 1) #[.float .f64 0, .bool true, .int .i64 0, .bool false, .slice none 0 0] rfl rfl 26 _ (heap_alloc_at' _ _ _ (by rw [size_al])) (by kernel_rfl) (by kernel_rfl) (by kernel_rfl) ?_))
  (try rw [setRow_alloc _ _ _ _ _ (by rw [size_al])])
  (try simp only [Act.put])
  generalize (W.alloc _).alloc _ = w2 at *
  go_upto_region 14 with fail
  have d0 : w2.cell? ⟨W.heap.size + 1, 0, none⟩ = some (.float .f64 0) := by rw [cell_of_row _ _ 0 _ 26 (0, 0) hx2]; rfl
  have d2 : w2.cell? ⟨W.heap.size + 1, 2, none⟩ = some (.int .i64 0) := by rw [cell_of_row _ _ 2 _ 26 (0, 0) hx2]; rfl
  have d3 : w2.cell? ⟨W.heap.size + 1, 3, none⟩ = some (.bool false) := by rw [cell_of_row _ _ 3 _ 26 (0, 0) hx2]; rfl
  have e0 := frozen_row hx2 0
  have e2 := frozen_row hx2 2
  have e3 := frozen_row hx2 3
  have hfin : ∀ X : World, X.heap = (((w2.setCell ⟨W.heap.size + 1, 0, none⟩ (.float .f64 h0)).setCell ⟨W.heap.size + 1, 2, none⟩ (.int .i64 lv)).setCell ⟨W.heap.size + 1, 3, none⟩ (.bool false)).heap →
      X.heap[W.heap.size + 1]? = some (.cells #[.float .f64 h0, .bool true, .int .i64 lv, .bool false, .slice none 0 0] 26) ∧ X.heap[W.heap.size]? = some (.cells #[.float .f64 0, .bool false, .int .i64 0, .bool false, .slice none 0 0] 26) := fun X e => by
    rw [e]
    refine ⟨heap_set (heap_set (heap_set hx2 0 _) 2 _) 3 _, ?_⟩
    have n1 : W.heap.size ≠ W.heap.size + 1 := by omega
    exact heap_set_far (heap_set_far (heap_set_far hx1 n1 _) n1 _) n1 _
  replace hfin := Lib.hid hfin
  have hbf : Below W.heap.size W (((w2.setCell ⟨W.heap.size + 1, 0, none⟩ (.float .f64 h0)).setCell ⟨W.heap.size + 1, 2, none⟩ (.int .i64 lv)).setCell ⟨W.heap.size + 1, 3, none⟩ (.bool false)) :=
    ((hb.setCell (p := ⟨W.heap.size + 1, 0, none⟩) (Nat.le_succ _) _).setCell (p := ⟨W.heap.size + 1, 2, none⟩) (Nat.le_succ _) _).setCell (p := ⟨W.heap.size + 1, 3, none⟩) (Nat.le_succ _) _
  replace hbf := Lib.hid hbf
  clear hx1 hx2 hb y12'
  go_cut [] from 51 to 65 (fun wc => Below W.heap.size W wc ∧ wc.heap[W.heap.size + 1]? = some (.cells #[.float .f64 h0, .bool true, .int .i64 lv, .bool false, .slice none 0 0] 26) ∧ wc.heap[W.heap.size]? = some (.cells #[.float .f64 0, .bool false, .int .i64 0, .bool false, .slice none 0 0] 26))
  case first =>
    go_region
    all_goals go_wp2
    all_goals go_meet
    all_goals (case rel => exact ⟨hbf.out.drew, hfin.out _ rfl⟩)
  obtain ⟨hb, hx2, hx1⟩ := hcut
  clear hfin hbf y7 y11 y12 d0 d2 d3 e0 e2 e3
  go_wp2_with (first
    | (refine wpList_load_row rfl 26 _ rfl (W.heap.size + 1) rfl 26 _ (0, 0) _ hx2 Tryd.underlying26 rfl (by kernel_rfl) ?_)
    | (refine wpList_store_row rfl 26 _ _ rfl W.heap.size #[.float .f64 h0, .bool true, .int .i64 lv, .bool false, .slice none 0 0] rfl rfl 26 _ hx1 (by kernel_rfl) (by kernel_rfl) (by kernel_rfl) ?_))
  (try simp only [Exit.inBlock, Exit.then])
  refine bodyPost_ret (results2 rfl _ _ W.heap.size 26 _ (0, 0) _ rfl rfl (setRow_at hx1) Tryd.underlying26 rfl (by kernel_rfl)) rfl ?_
  exact ⟨rfl, below_setRow hb (Nat.le_refl _) _⟩
end Go.Proofs.YtdjdkhbagoideaaDoor
