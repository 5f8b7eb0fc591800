/- Idle: the program's book and the reference's, side by side in memory: what each call makes of the two. -/
import Derived.Test.YtgnhddnhcfmipaaRtk
import Derived.Test.YtgnhddnhcfmipaaRop
import Derived.Test.YtgnhddnhcfmipaaStd
namespace Go.Proofs.Ytgnhddnhcfmipaa
open Go.RowKit Go.BigFrame

set_option maxHeartbeats 4000000 in
set_option maxRecDepth 100000 in
theorem tick_nil {W : World} {B bb : Nat} {v : Value} {now : Int} (h : Bp W B bb v [] now) (up : Int) (hu : okTick up ∧ now ≤ up) :
    Calls Try.prog 32 #[.pointer (some ⟨bb, 0, none⟩), .int .i64 up] W fun e w' => e = .returned (.tuple #[.slice none 0 0, .int .i64 0]) ∧ w' = W.setCell ⟨bb, 1, none⟩ (.int .i64 up) := by
  have c1 := h.c1
  have c0 := h.c0
  obtain ⟨A, c, rfl, _⟩ := h.form
  have f1 : W.frozen? ⟨bb, 1, none⟩ = false := frozen_row h.hb 1
  have KT := tick_any up
  have hd := isTick_yes hu.1
  rw [hd] at KT
  have hnu : ¬ up < now := by omega
  simp only [List.length_nil] at c0
  clear h hu hd
  go_enter Try.func32, Try.ntmps32
  go_upto_region 6 with (go_at_call 41; (with_reducible refine (KT _).mono ?_); rintro e w1 ⟨rfl, rfl⟩)
  go_loopw [6] (fun s6 wr => s6 = .slice none 0 0 ∧ wr = W) (fun _ _ => 0)
  case atStart => exact ⟨rfl, rfl⟩
  case round =>
    obtain ⟨rfl, rfl⟩ := hrel
    go_upto_region 8 with fail
    go_loopw [34, 7] (fun s34 s7 w2 => s34 = .int .i64 0 ∧ s7 = .int .i64 (-1) ∧ w2 = wr) (fun _ _ _ => 0)
    case atStart => exact ⟨rfl, rfl, rfl⟩
    case round =>
      obtain ⟨rfl, rfl, rfl⟩ := hrel
      go_wp2
      go_ret2
      exact ⟨rfl, rfl⟩
/-- Tick of any book -/
theorem btick_any {W : World} {B bb : Nat} {v : Value} {ds : List Dv} {now : Int} (h : Bp W B bb v ds now) (hp : Par ds) (hl : ds.length ≤ 512) (up : Int) :
    Calls Try.prog 32 #[.pointer (some ⟨bb, 0, none⟩), .int .i64 up] W fun e w' => ∃ vo, e = .returned (.tuple #[vo, .int .i64 (tickd ds now up).2.2.2]) ∧ Bp w' B bb v (tickd ds now up).1 (tickd ds now up).2.1 ∧ Own w' W.heap.size 84 3 ((tickd ds now up).2.2.1.map erow) vo ∧
      Fr W.heap.size (fun b => v.ownBlock = some b ∨ b = bb) W w' := by
  unfold tickd
  by_cases hu : okTick up ∧ now ≤ up
  · rw [if_pos hu]
    rcases Nat.eq_zero_or_pos ds.length with q | q
    · have : ds = [] := List.length_eq_zero_iff.1 q
      subst this
      refine (tick_nil h up hu).mono fun e w' ⟨h1, h2⟩ => ⟨_, h1, ?_, Own.nil _ _ _ _, ?_⟩
      · rw [h2]; exact h.now up
      · rw [h2]; exact (Fr.refl _ _ _).set (p := ⟨bb, 1, none⟩) (fun _ => Or.inr rfl) _
    · obtain ⟨g, c, rfl, _⟩ := h.dev q
      exact (tick_in h hp hl up hu).mono fun e w' ⟨vo, h1, h2, h3, h4⟩ => ⟨vo, h1, h2, h3, h4.mono (Nat.le_refl _) (fun b _ hb => by
        rcases hb with rfl | rfl
        · exact Or.inl rfl
        · exact Or.inr rfl)⟩
  · rw [if_neg hu]
    exact (tick_out h up hu).mono fun e w' ⟨h1, h2⟩ => ⟨_, h1, by rw [h2]; exact h, Own.nil _ _ _ _, by rw [h2]; exact Fr.refl _ _ _⟩
theorem rbtick_any {W : World} {H B bb : Nat} {v : Value} {ds : List Dv} {now : Int} (h : Rk W H B bb v (.slice none 0 0) ds now []) (hp : Par ds) (hl : ds.length ≤ 512) (up : Int) :
    Calls Try.prog 31 #[.pointer (some ⟨bb, 0, none⟩), .int .i64 up] W fun e w' => ∃ vo, e = .returned (.tuple #[vo, .int .i64 (tickd ds now up).2.2.2]) ∧ Rk w' H B bb v (.slice none 0 0) (tickd ds now up).1 (tickd ds now up).2.1 [] ∧ Own w' H 120 3 ((tickd ds now up).2.2.1.map erow) vo ∧
      Fr H (fun b => v.ownBlock = some b ∨ b = bb) W w' := by
  unfold tickd
  by_cases hu : okTick up ∧ now ≤ up
  · rw [if_pos hu]
    exact rtick_in h hp hl up hu
  · rw [if_neg hu]
    exact (rtick_out h up hu).mono fun e w' ⟨h1, h2⟩ => ⟨_, h1, by rw [h2]; exact h, Own.nil _ _ _ _, by rw [h2]; exact Fr.refl _ _ _⟩
theorem Rk.fr {W W' : World} {H H' B bb : Nat} {S : Nat → Prop} {v : Value} {ds : List Dv} {now : Int} (h : Rk W H B bb v (.slice none 0 0) ds now []) (d : Fr H' S W W') (h1 : bb < H' ∧ ¬ S bb) (h2 : ∀ g, v.ownBlock = some g → g < H' ∧ ¬ S g) : Rk W' H B bb v (.slice none 0 0) ds now [] :=
  ⟨(d.k _ h1.1 h1.2).trans h.hb, h.own.keep (fun g hg => d.k _ (h2 g hg).1 (h2 g hg).2), h.ne, h.lb, h.lv, Own.nil _ _ _ _, Nat.le_trans h.lh d.size⟩
/-- the two books, the program's below M -/
structure Twb (w W : World) (M bb rb : Nat) (v v2 : Value) (ds : List Dv) (now : Int) (d2 : List Dv) (n2 : Int) : Prop where
  bk : Bp W bb bb v ds now
  rk : Rk W W.heap.size rb rb v2 (.slice none 0 0) d2 n2 []
  lb : bb < M
  lv : ∀ g, v.ownBlock = some g → g < M
  hm : M ≤ rb
  lo : w.heap.size ≤ bb
  b : Below w.heap.size w W
variable {w W W' : World} {M bb rb : Nat} {v v2 : Value} {ds d2 : List Dv} {now n2 : Int}
theorem Twb.below (h : Twb w W M bb rb v v2 ds now d2 n2) (d : Below W.heap.size W W') : Twb w W' M bb rb v v2 ds now d2 n2 :=
  ⟨h.bk.below d, (h.rk.below d).rise d.size (Nat.le_refl _), h.lb, h.lv, h.hm, h.lo, h.b.trans (d.mono h.b.size)⟩
theorem Twb.drawn (h : Twb w W M bb rb v v2 ds now d2 n2) (d : Drawn W W') : Twb w W' M bb rb v v2 ds now d2 n2 := h.below (d.below _)
theorem Twb.ref {d3 : List Dv} {n3 : Int} (h : Twb w W M bb rb v v2 ds now d2 n2) (hR : Rk W' W.heap.size rb rb v2 (.slice none 0 0) d3 n3 []) (hF : Fr W.heap.size (fun b => v2.ownBlock = some b ∨ b = rb) W W') : Twb w W' M bb rb v v2 ds now d3 n3 := by
  have hM := h.hm
  have lb := h.lb
  have lo := h.lo
  have hS : ∀ b, (v2.ownBlock = some b ∨ b = rb) → rb ≤ b := fun b hb => by
    rcases hb with q | rfl
    · exact (h.rk.own.lt b q).1
    · exact Nat.le_refl _
  refine ⟨h.bk.fr hF ⟨h.bk.lt, fun q => by have := hS _ q; omega⟩ (fun g hg => ⟨(h.bk.own.lt g hg).2, fun q => by have := hS _ q; have := h.lv g hg; omega⟩), hR.rise hF.size (Nat.le_refl _), lb, h.lv, hM, lo, h.b.trans (hF.below h.b.size (fun b hb => by have := hS b hb; omega))⟩
theorem Twb.prog {d3 : List Dv} {n3 : Int} (h : Twb w W M bb rb v v2 ds now d2 n2) (hB : Bp W' bb bb v d3 n3) (hF : Fr W.heap.size (fun b => v.ownBlock = some b ∨ b = bb) W W') : Twb w W' M bb rb v v2 d3 n3 d2 n2 ∧ ∀ b, M ≤ b → b < W.heap.size → W'.heap[b]? = W.heap[b]? := by
  have hM := h.hm
  have lb := h.lb
  have lo := h.lo
  have hS : ∀ b, (v.ownBlock = some b ∨ b = bb) → bb ≤ b ∧ b < M := fun b hb => by
    rcases hb with q | rfl
    · exact ⟨(h.bk.own.lt b q).1, h.lv b q⟩
    · exact ⟨Nat.le_refl _, lb⟩
  have hk : ∀ b, M ≤ b → b < W.heap.size → W'.heap[b]? = W.heap[b]? := fun b h1 h2 => hF.k b h2 (fun q => by have := hS b q; omega)
  refine ⟨⟨hB, (h.rk.fr hF ⟨h.rk.lt, fun q => by have := hS _ q; omega⟩ (fun g hg => ⟨(h.rk.own.lt g hg).2, fun q => by have := hS _ q; have := (h.rk.own.lt g hg).1; omega⟩)).rise hF.size (Nat.le_refl _), lb, h.lv, hM, lo, h.b.trans (hF.below h.b.size (fun b hb => by have := hS b hb; omega))⟩, hk⟩
theorem twb_rget (h : Twb w W M bb rb v v2 ds now d2 n2) (hp : Par d2) (hl : d2.length ≤ 512) (i : Int) : Calls Try.prog 27 #[.pointer (some ⟨rb, 0, none⟩), .int .i64 i] W fun e w' => ∃ vo, e = .returned (.tuple #[vo, .int .i64 (getd d2 n2 i).2.2]) ∧ Twb w w' M bb rb v v2 ds now (getd d2 n2 i).1 n2 ∧ Own w' W.heap.size 120 3 ((getd d2 n2 i).2.1.map erow) vo ∧ W.heap.size ≤ w'.heap.size :=
  (rget_any h.rk hp hl i).mono fun _ _ ⟨vo, h1, h2, h3, h4⟩ => ⟨vo, h1, h.ref h2 h4, h3, h4.size⟩
theorem twb_rput (h : Twb w W M bb rb v v2 ds now d2 n2) (i : Int) : Calls Try.prog 29 #[.pointer (some ⟨rb, 0, none⟩), .int .i64 i] W fun e w' => e = .returned (.tuple #[.slice none 0 0, .int .i64 (putd d2 n2 i).2]) ∧ Twb w w' M bb rb v v2 ds now (putd d2 n2 i).1 n2 ∧ W.heap.size ≤ w'.heap.size :=
  (rput_any h.rk i).mono fun _ _ ⟨h1, h2, h4⟩ => ⟨h1, h.ref h2 (h4.mono (Nat.le_refl _) fun _ _ q => Or.inl q), h4.size⟩
theorem twb_rtick (h : Twb w W M bb rb v v2 ds now d2 n2) (hp : Par d2) (hl : d2.length ≤ 512) (i : Int) : Calls Try.prog 31 #[.pointer (some ⟨rb, 0, none⟩), .int .i64 i] W fun e w' => ∃ vo, e = .returned (.tuple #[vo, .int .i64 (tickd d2 n2 i).2.2.2]) ∧ Twb w w' M bb rb v v2 ds now (tickd d2 n2 i).1 (tickd d2 n2 i).2.1 ∧ Own w' W.heap.size 120 3 ((tickd d2 n2 i).2.2.1.map erow) vo ∧ W.heap.size ≤ w'.heap.size :=
  (rbtick_any h.rk hp hl i).mono fun _ _ ⟨vo, h1, h2, h3, h4⟩ => ⟨vo, h1, h.ref h2 h4, h3, h4.size⟩
theorem twb_get (h : Twb w W M bb rb v v2 ds now d2 n2) (hp : Par ds) (hl : ds.length ≤ 512) (i : Int) : Calls Try.prog 28 #[.pointer (some ⟨bb, 0, none⟩), .int .i64 i] W fun e w' => ∃ vo, e = .returned (.tuple #[vo, .int .i64 (getd ds now i).2.2]) ∧ Twb w w' M bb rb v v2 (getd ds now i).1 now d2 n2 ∧ Own w' W.heap.size 84 3 ((getd ds now i).2.1.map erow) vo ∧ W.heap.size ≤ w'.heap.size ∧ ∀ b, M ≤ b → b < W.heap.size → w'.heap[b]? = W.heap[b]? :=
  (bget_any h.bk hp hl i).mono fun _ _ ⟨vo, h1, h2, h3, h4⟩ => ⟨vo, h1, (h.prog h2 (h4.mono (Nat.le_refl _) fun _ _ q => Or.inl q)).1, h3, h4.size, (h.prog h2 (h4.mono (Nat.le_refl _) fun _ _ q => Or.inl q)).2⟩
theorem twb_put (h : Twb w W M bb rb v v2 ds now d2 n2) (i : Int) : Calls Try.prog 30 #[.pointer (some ⟨bb, 0, none⟩), .int .i64 i] W fun e w' => e = .returned (.tuple #[.slice none 0 0, .int .i64 (putd ds now i).2]) ∧ Twb w w' M bb rb v v2 (putd ds now i).1 now d2 n2 ∧ W.heap.size ≤ w'.heap.size :=
  (bput_any h.bk i).mono fun _ _ ⟨h1, h2, h4⟩ => ⟨h1, (h.prog h2 (h4.mono (Nat.le_refl _) fun _ _ q => Or.inl q)).1, h4.size⟩
theorem twb_tick (h : Twb w W M bb rb v v2 ds now d2 n2) (hp : Par ds) (hl : ds.length ≤ 512) (i : Int) : Calls Try.prog 32 #[.pointer (some ⟨bb, 0, none⟩), .int .i64 i] W fun e w' => ∃ vo, e = .returned (.tuple #[vo, .int .i64 (tickd ds now i).2.2.2]) ∧ Twb w w' M bb rb v v2 (tickd ds now i).1 (tickd ds now i).2.1 d2 n2 ∧ Own w' W.heap.size 84 3 ((tickd ds now i).2.2.1.map erow) vo ∧ W.heap.size ≤ w'.heap.size ∧ ∀ b, M ≤ b → b < W.heap.size → w'.heap[b]? = W.heap[b]? :=
  (btick_any h.bk hp hl i).mono fun _ _ ⟨vo, h1, h2, h3, h4⟩ => ⟨vo, h1, (h.prog h2 h4).1, h3, h4.size, (h.prog h2 h4).2⟩
/-- the plain calls keep the book's form -/
theorem wk_par : ∀ (f : Nat) (ds : List Dv) (now : Int) (i : Nat), Par ds → Par (wk f ds now i).1
  | 0, _, _, _, h => h
  | f + 1, ds, now, i, h => by
    unfold wk
    simp only
    split
    · exact h
    · split
      · rename_i h0
        have hq := wk_par f ds now (ds.getD i zd).p.toNat h
        have key : ∀ (l : List Dv) (j : Nat) (x : Dv), Par l → x.p = (l.getD j zd).p → Par (l.set j x) := fun l j x hl he => by
          rcases Nat.lt_or_ge j l.length with q | q
          · exact hl.set (List.getElem?_eq_getElem q) (by rw [he, getD_of (List.getElem?_eq_getElem q)])
          · rw [List.set_eq_of_length_le q]; exact hl
        refine key _ _ _ (key _ _ _ hq rfl) ?_
        by_cases e : i < ds.length
        · have hx := List.getElem?_eq_getElem e
          have hpi := (h i _ hx).2
          rw [getD_of hx] at h0 ⊢
          have hf := wk_far f ds now ds[i].p.toNat h i (by omega)
          rw [getD_of (x := ds[i]) (by rw [List.getElem?_set_ne (by omega), hf, hx])]
        · have e1 : ds.getD i zd = zd := by rw [List.getD_eq_getElem?_getD, List.getElem?_eq_none (by omega)]; rfl
          rw [e1]
          have e2 : ∀ l : List Dv, l.length = ds.length → l.getD i zd = zd := fun l hl => by rw [List.getD_eq_getElem?_getD, List.getElem?_eq_none (by omega)]; rfl
          rw [e2 _ (by rw [List.length_set, wk_len])]
      · rcases Nat.lt_or_ge i ds.length with q | q
        · exact h.set (List.getElem?_eq_getElem q) (by rw [getD_of (List.getElem?_eq_getElem q)])
        · rw [List.set_eq_of_length_le q]; exact h
theorem getd_par (h : Par ds) (i : Int) : Par (getd ds now i).1 ∧ (getd ds now i).1.length = ds.length := by
  unfold getd
  split
  · rename_i hi
    simp only
    split
    · exact ⟨h, rfl⟩
    · have hn : i.toNat < ds.length := by have := hi.1; have := hi.2; omega
      have hx := List.getElem?_eq_getElem hn
      exact ⟨wk_par _ _ _ _ (h.set hx (by rw [getD_of hx])), by rw [wk_len, List.length_set]⟩
  · exact ⟨h, rfl⟩
theorem putd_par (h : Par ds) (i : Int) : Par (putd ds now i).1 := by
  unfold putd
  split
  · rename_i hi
    simp only
    split
    · exact h
    · have hn : i.toNat < ds.length := by have := hi.1; have := hi.2; omega
      have hx := List.getElem?_eq_getElem hn
      refine h.set hx ?_
      have e : ds.getD i.toNat ⟨0, 0, 0, 0, false, 0⟩ = ds[i.toNat] := getD_of hx
      rw [e]
      split <;> rfl
  · exact h
theorem tk_par : ∀ (f : Nat) (ds : List Dv) (up : Int), Par ds → Par (tk f ds up).1 ∧ (tk f ds up).1.length = ds.length
  | 0, _, _, h => ⟨h, rfl⟩
  | f + 1, ds, up, h => by
    unfold tk
    simp only
    split
    · exact ⟨h, rfl⟩
    · rename_i h0
      rcases scn_at ds ds.length 0 (-1) up with q | ⟨j, _, hj, hq, _⟩
      · exact absurd (by rw [q]; decide) h0
      · rw [hq, Int.toNat_natCast]
        have hx : ds[j]? = some ds[j] := List.getElem?_eq_getElem (by omega)
        have := tk_par f (fall ds j (scn ds ds.length 0 (-1) up).2) up (fall_par hx h _)
        exact ⟨this.1, by rw [this.2, fall_len]⟩
theorem tickd_par (h : Par ds) (i : Int) : Par (tickd ds now i).1 ∧ (tickd ds now i).1.length = ds.length := by
  unfold tickd
  split
  · exact tk_par _ _ _ h
  · exact ⟨h, rfl⟩
end Go.Proofs.Ytgnhddnhcfmipaa
