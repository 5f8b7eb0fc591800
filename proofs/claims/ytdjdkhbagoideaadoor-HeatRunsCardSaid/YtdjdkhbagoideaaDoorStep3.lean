/- Heat: a watch's Step that is felt; walked. -/
import Derived.Test.YtdjdkhbagoideaaDoorStep2
namespace Go.Proofs.YtdjdkhbagoideaaDoor
open Go.RowKit Go.BigFrame flt Ieee

theorem hok_feel {Z : Zn} {s : Hs} {x : Nat} (hZ : Zok Z) (hs : Hok Z s) (hx : Bt (-1000000) 1000000 x) : Hok Z { s with h := feelh Z s x, felt := true } := by
  refine ⟨?_, hs.sum, hs.lv, hs.on⟩
  show Bt _ _ (feelh Z s x)
  unfold feelh
  split
  · exact (filter_step hZ.al.1 hZ.al.2.1 hZ.al.2.2 hs.h hx).2.2.2
  · exact hx.mono (by omega) (by omega)
theorem hok_turn {Z : Zn} {s : Hs} (hs : Hok Z s) : Hok Z { s with on := ons s.h Z.tr s.on } :=
  ⟨hs.h, hs.sum, hs.lv, ons_len _ _ _ hs.on⟩
theorem hok_gov {Z : Zn} {s : Hs} {secs : Nat} (hZ : Zok Z) (hs : Hok Z s) (hc : Bt 0 1000000 secs) : Hok Z { s with sum := gsum Z s secs, lv := glv Z s secs, sh := anyk 3 Z.tr s.on } := by
  have hr := rek_of hZ hs.h hs.sum hc
  refine ⟨hs.h, ?_, ?_, hs.on⟩
  · show Bt _ _ (gsum Z s secs)
    unfold gsum
    split
    · exact hr.b3
    · exact zero_bt.mono (by omega) (by omega)
  · show 0 ≤ glv Z s secs ∧ glv Z s secs ≤ Z.mo
    have h1 := lvl_bt (n := wish Z s s.h secs) hr.b4.nn hZ.mo
    have h2 := hs.lv
    have h3 := hZ.mo
    unfold glv glv0
    split
    · omega
    · split
      · exact h1
      · split <;> omega
/-- the three together -/
def feltd (Z : Zn) (s : Hs) (x : Nat) : Hs := { s with h := feelh Z s x, felt := true }
def turnd (Z : Zn) (s : Hs) (x : Nat) : Hs := { feltd Z s x with on := ons (feelh Z s x) Z.tr s.on }
theorem stepd_eq (Z : Zn) (s : Hs) (x secs : Nat) : stepd Z s x secs = { turnd Z s x with sum := gsum Z (turnd Z s x) secs, lv := glv Z (turnd Z s x) secs, sh := anyk 3 Z.tr (turnd Z s x).on } := rfl
theorem hok_step {Z : Zn} {s : Hs} {x secs : Nat} (hZ : Zok Z) (hs : Hok Z s) (hx : near x = true) (hc : seconds secs = true) : Hok Z (stepd Z s x secs) := by
  rw [stepd_eq]
  exact hok_gov hZ (hok_turn (hok_feel hZ hs (near_bt hx))) (sec_bt hc)
theorem hok0 (Z : Zn) (hZ : Zok Z) : Hok Z (hs0 Z.tr.length) := ⟨zero_bt.mono (by omega) (by omega), zero_bt.mono (by omega) (by omega), ⟨Int.le_refl _, hZ.mo.1⟩, by simp [hs0]⟩
set_option maxHeartbeats 8000000 in
set_option maxRecDepth 100000 in
theorem step_yes {W : World} {B g : Nat} {Z : Zn} {v vo : Value} {s : Hs} (hW : Wt W B g Z v vo s) (hZ : Zok Z) (hs : Hok Z s) (x secs : Nat) (hsh : s.sh = false) (hx : near x = true) (hsec : seconds secs = true) :
    Calls Tryd.prog 5 #[.pointer (some ⟨g, 0, none⟩), .float .f64 x, .float .f64 secs] W fun e w' => ∃ tv, e = .returned (.tuple #[.agg (sarr (stepd Z s x secs).h false (stepd Z s x secs).lv (stepd Z s x secs).sh tv), .int .i64 0]) ∧
      Own w' W.heap.size 75 2 ((evs 0 s.on (stepd Z s x secs).on).map erow) tv ∧ Wt w' B g Z v vo (stepd Z s x secs) ∧ Fr W.heap.size (fun b => b = g ∨ vo.ownBlock = some b) W w' := by
  have hst : ∀ (p : Addr) (v : Nat) (W : World), (store p (.float .f64 v)).run Tryd.prog W = stored Tryd.prog W p (.float .f64 v) .plain := fun p v W => run_store Tryd.prog W p _ _ rfl
  have K1 := nan_any x
  have K2 := near_any x
  rw [near_nan hx] at K1
  have hxb := near_bt hx
  have hcb := sec_bt hsec
  rw [hx] at K2
  have a1 : (FloatKind.f64.format.order secs 0 == some .gt) = true := by
    unfold seconds at hsec; rw [Bool.and_eq_true] at hsec; exact hsec.1
  have a2 : (FloatKind.f64.format.order secs 4696837146684686336 == some .lt || FloatKind.f64.format.order secs 4696837146684686336 == some .eq) = true := by
    unfold seconds at hsec; rw [Bool.and_eq_true] at hsec; exact hsec.2
  have hg := heap_lt hW.hb
  have hW2 := hW.below (below_al (below_al (Below.refl W.heap.size W) (.cells #[.float .f64 0, .bool false, .int .i64 0, .bool false, .slice none 0 0] 26)) (.cells #[.float .f64 0, .bool false, .int .i64 0, .bool false, .slice none 0 0] 26))
  have y12' := (hW.below (below_al (Below.refl W.heap.size W) (.cells #[.float .f64 0, .bool false, .int .i64 0, .bool false, .slice none 0 0] 26))).cl 12 (x := .bool s.sh) rfl
  rw [hsh] at y12'
  have hx1 : ((W.alloc (.cells #[.float .f64 0, .bool false, .int .i64 0, .bool false, .slice none 0 0] 26)).alloc (.cells #[.float .f64 0, .bool false, .int .i64 0, .bool false, .slice none 0 0] 26)).heap[W.heap.size]? = some (.cells #[.float .f64 0, .bool false, .int .i64 0, .bool false, .slice none 0 0] 26) := heap_alloc (heap_alloc_at _ _)
  have hx2 : ((W.alloc (.cells #[.float .f64 0, .bool false, .int .i64 0, .bool false, .slice none 0 0] 26)).alloc (.cells #[.float .f64 0, .bool false, .int .i64 0, .bool false, .slice none 0 0] 26)).heap[W.heap.size + 1]? = some (.cells #[.float .f64 0, .bool false, .int .i64 0, .bool false, .slice none 0 0] 26) := heap_alloc_at' _ _ _ (by rw [size_al])
  have hb : Below W.heap.size W ((W.alloc (.cells #[.float .f64 0, .bool false, .int .i64 0, .bool false, .slice none 0 0] 26)).alloc (.cells #[.float .f64 0, .bool false, .int .i64 0, .bool false, .slice none 0 0] 26)) := below_al (below_al (Below.refl _ _) _) _
  have hog := fun b (e : vo.ownBlock = some b) => (hW.og b e).1
  replace hog := Lib.hid hog
  clear hW hx hsec
  go_enter Tryd.func5, Tryd.ntmps5
  go_upto_region 11 with (first
    | (go_at_call 23; (with_reducible refine (K1 _).mono ?_); rintro e wq ⟨rfl, rfl⟩)
    | (go_at_call 24; (with_reducible refine (K2 _).mono ?_); rintro e wq ⟨rfl, rfl⟩)
    | (refine wpList_store_row rfl 26 _ _ rfl (W.heap.size + 1) #[.float .f64 0, .bool false, .int .i64 0, .bool false, .slice none 0 0] rfl rfl 26 _ (heap_alloc_at' _ _ _ (by rw [size_al])) (by kernel_rfl) (by kernel_rfl) (by kernel_rfl) ?_))
  (try rw [setRow_alloc _ _ _ _ _ (by rw [size_al])])
  (try simp only [Act.put])
  generalize (W.alloc _).alloc _ = w2 at *
  clear y12' K1 K2 a1 a2
  have KF := feel_any hW2 hZ hs x hxb
  have hok1 := hok_feel hZ hs hxb
  have hsz2 := hb.size
  go_upto_region 12 with (go_at_call 25; (with_reducible refine (KF).mono ?_); rintro e w3 ⟨rfl, hW3, hF3⟩)
  have hx13 := (hF3.k _ (heap_lt hx1) (show ¬ W.heap.size = g by omega)).trans hx1
  have hx23 := (hF3.k _ (heap_lt hx2) (show ¬ W.heap.size + 1 = g by omega)).trans hx2
  have hF03 : Fr W.heap.size (fun b => b = g ∨ vo.ownBlock = some b) W w3 := (Fr.of hb).trans (hF3.mono hsz2 (fun b _ e => Or.inl e))
  clear KF hW2 hF3 hx1 hx2 hb hsz2
  have KT := turn_any hW3 hZ hok1
  have hok2 := hok_turn hok1
  go_upto_region 13 with (first
    | (go_at_call 26; (with_reducible refine (KT).mono ?_); rintro e w4 ⟨tv, rfl, htv, hW4, hF4⟩; obtain ⟨tA, tc, rfl, htl⟩ := htv.sl; have hn4 : ∀ b, W.heap.size ≤ b → ¬ vo.ownBlock = some b := (fun b h e => by have := hog.out b e; omega); have hx14 := (hF4.k _ (heap_lt hx13) (hn4 _ (Nat.le_refl _))).trans hx13; have hx24 := (hF4.k _ (heap_lt hx23) (hn4 _ (Nat.le_succ _))).trans hx23; have d4 : w4.cell? ⟨W.heap.size + 1, 4, none⟩ = some (.slice none 0 0) := (by rw [cell_of_row _ _ 4 _ 26 (0, 0) hx24]; rfl); have e4 := frozen_row hx24 4))
  rw [List.length_map] at htv
  obtain ⟨S2, hS2⟩ : ∃ S2, turnd Z s x = S2 := ⟨_, rfl⟩
  have hW4' : Wt w4 B g Z v vo S2 := by rw [← hS2]; exact hW4
  have hok2' : Hok Z S2 := by rw [← hS2]; exact hok2
  have hon2 : Hid (S2.on = ons (feelh Z s x) Z.tr s.on) := Lib.hid (by rw [← hS2]; rfl)
  have hfin3 : Hid (stepd Z s x secs = { S2 with sum := gsum Z S2 secs, lv := glv Z S2 secs, sh := anyk 3 Z.tr S2.on }) := Lib.hid (by rw [← hS2]; rfl)
  clear hW4 hok2 hok1 hS2 KT hW3 hs hsh
  generalize hE : (evs 0 s.on (ons (feelh Z s x) Z.tr s.on)) = E at *
  replace hE := Lib.hid hE
  obtain ⟨ne, hne⟩ : ∃ n, E.length = n := ⟨_, rfl⟩
  rw [hne] at htv ⊢
  clear htl
  have hx25 := heap_set hx24 4 (.slice tA ne tc)
  have hx15 := heap_set_far hx14 (p := ⟨W.heap.size + 1, 4, none⟩) (show W.heap.size ≠ W.heap.size + 1 by omega) (.slice tA ne tc)
  have hlt3 := heap_lt hx23
  have hk5 : ∀ b, b ≠ W.heap.size + 1 → (w4.setCell ⟨W.heap.size + 1, 4, none⟩ (.slice tA ne tc)).heap[b]? = w4.heap[b]? := fun b h => Below.heap_setCell w4 _ _ b h
  have hW5 := hW4'.keep (hk5 g (by omega)) (fun b e => hk5 b (by have := hW4'.vg b e; omega)) (fun b e => hk5 b (by have := (hW4'.og b e).1; omega))
  have htv5 := htv.keep (fun b e => hk5 b (by have := (htv.lt b e).1; omega))
  have hF05 := Fr.set (S := fun b => b = g ∨ vo.ownBlock = some b) (hF03.trans (hF4.mono (H' := W.heap.size) (by omega) (fun b _ e => Or.inr e))) (p := ⟨W.heap.size + 1, 4, none⟩) (fun h => absurd h (by show ¬ (W.heap.size + 1 < W.heap.size); omega)) (.slice tA ne tc)
  generalize w4.setCell ⟨W.heap.size + 1, 4, none⟩ (.slice tA ne tc) = w5 at *
  clear hk5 htv hW4' hF4 hF03 hx14 hx24 d4 e4
  have KG := govern_any hW5 hZ hok2' secs hcb
  have hsz5 := heap_lt hx25
  go_upto_region 14 with (go_at_call 27; (with_reducible refine (KG).mono ?_); rintro e w6 ⟨rfl, hW6, hF6⟩)
  have hx1 := (hF6.k _ (heap_lt hx15) (show ¬ W.heap.size = g by omega)).trans hx15
  have hx2 := (hF6.k _ hsz5 (show ¬ W.heap.size + 1 = g by omega)).trans hx25
  have htv6 := htv5.keep (fun b e => hF6.k b (htv5.lt b e).2 (show ¬ b = g by have := (htv5.lt b e).1; omega))
  have hF06 := hF05.trans (hF6.mono (H' := W.heap.size) (by omega) (fun b _ e => Or.inl e))
  have htv7 := htv6.mono (base' := W.heap.size) (by omega)
  have hnv2 := Lib.hid (fun b (h : (Value.slice tA ne tc).ownBlock = some b) => (show W.heap.size + 1 < b by have := (htv6.lt b h).1; omega))
  have hnv : ∀ b, (Value.slice tA ne tc).ownBlock = some b → b ≠ W.heap.size + 1 := fun b h => by have := (htv6.lt b h).1; omega
  clear KG hW5 hF6 hx15 hx25 htv5 hF05 hsz5 hx13 hx23 htv6
  rw [← hfin3.out] at hW6
  have hSon : Hid ((stepd Z s x secs).on = ons (feelh Z s x) Z.tr s.on) := Lib.hid (by rw [hfin3.out]; exact hon2.out)
  clear hfin3 hok2'
  have y7 := hW6.cl 7 (x := .float .f64 (stepd Z s x secs).h) rfl
  have y11 := hW6.cl 11 (x := .int .i64 (stepd Z s x secs).lv) rfl
  have y12 := hW6.cl 12 (x := .bool (stepd Z s x secs).sh) rfl
  have d0 : w6.cell? ⟨W.heap.size + 1, 0, none⟩ = some (.float .f64 0) := by rw [cell_of_row _ _ 0 _ 26 (0, 0) hx2]; rfl
  have d2 : w6.cell? ⟨W.heap.size + 1, 2, none⟩ = some (.int .i64 0) := by rw [cell_of_row _ _ 2 _ 26 (0, 0) hx2]; rfl
  have d3 : w6.cell? ⟨W.heap.size + 1, 3, none⟩ = some (.bool false) := by rw [cell_of_row _ _ 3 _ 26 (0, 0) hx2]; rfl
  have e0 := frozen_row hx2 0
  have e2 := frozen_row hx2 2
  have e3 := frozen_row hx2 3
  obtain ⟨T, hT⟩ : ∃ T, stepd Z s x secs = T := ⟨_, rfl⟩
  have hfin : ∀ X : World, X = (((w6.setCell ⟨W.heap.size + 1, 0, none⟩ (.float .f64 (stepd Z s x secs).h)).setCell ⟨W.heap.size + 1, 2, none⟩ (.int .i64 (stepd Z s x secs).lv)).setCell ⟨W.heap.size + 1, 3, none⟩ (.bool (stepd Z s x secs).sh)) →
      X.heap[W.heap.size + 1]? = some (.cells #[.float .f64 (stepd Z s x secs).h, .bool false, .int .i64 (stepd Z s x secs).lv, .bool (stepd Z s x secs).sh, .slice tA ne tc] 26) ∧ X.heap[W.heap.size]? = some (.cells #[.float .f64 0, .bool false, .int .i64 0, .bool false, .slice none 0 0] 26) ∧
      Own X W.heap.size 75 2 (E.map erow) (.slice tA ne tc) ∧ Wt X B g Z v vo (stepd Z s x secs) ∧ Fr W.heap.size (fun b => b = g ∨ vo.ownBlock = some b) W X := fun X e => by
    have hfar : ∀ b, b ≠ W.heap.size + 1 → X.heap[b]? = w6.heap[b]? := fun b h => by
      rw [e, Below.heap_setCell _ _ _ b h, Below.heap_setCell _ _ _ b h, Below.heap_setCell _ _ _ b h]
    refine ⟨by rw [e]; exact heap_set (heap_set (heap_set hx2 0 _) 2 _) 3 _, (hfar _ (by omega)).trans hx1, htv7.keep (fun b h => hfar b (hnv b h)), hW6.keep (hfar g (by omega)) (fun b h => hfar b (by have := hW6.vg b h; omega)) (fun b h => hfar b (by have := (hW6.og b h).1; omega)), ?_⟩
    rw [e]
    exact Fr.set (S := fun b => b = g ∨ vo.ownBlock = some b) (Fr.set (S := fun b => b = g ∨ vo.ownBlock = some b) (Fr.set (S := fun b => b = g ∨ vo.ownBlock = some b) hF06 (p := ⟨W.heap.size + 1, 0, none⟩) (fun h => absurd h (by show ¬ (W.heap.size + 1 < W.heap.size); omega)) _) (p := ⟨W.heap.size + 1, 2, none⟩) (fun h => absurd h (by show ¬ (W.heap.size + 1 < W.heap.size); omega)) _) (p := ⟨W.heap.size + 1, 3, none⟩) (fun h => absurd h (by show ¬ (W.heap.size + 1 < W.heap.size); omega)) _
  rw [hT] at hfin y7 y11 y12
  replace hfin := Lib.hid hfin
  replace hT := Lib.hid hT
  generalize hth : T.h = th at *
  generalize htl : T.lv = tl at *
  generalize hts : T.sh = ts at *
  replace hth := Lib.hid hth
  replace htl := Lib.hid htl
  replace hts := Lib.hid hts
  clear hx1 hx2 hW6 hF06 htv7
  go_cut [] from 51 to 65 (fun wc => wc.heap[W.heap.size + 1]? = some (.cells #[.float .f64 th, .bool false, .int .i64 tl, .bool ts, .slice tA ne tc] 26) ∧ wc.heap[W.heap.size]? = some (.cells #[.float .f64 0, .bool false, .int .i64 0, .bool false, .slice none 0 0] 26) ∧
      Own wc W.heap.size 75 2 (E.map erow) (.slice tA ne tc) ∧ Wt wc B g Z v vo T ∧ Fr W.heap.size (fun b => b = g ∨ vo.ownBlock = some b) W wc)
  case first =>
    go_region
    all_goals go_wp2
    all_goals go_meet
    all_goals (case rel => obtain ⟨f1, f2, f3, f4, f5⟩ := hfin.out _ rfl; exact ⟨f1, f2, f3.drawn (Drawn.refl _).drew, f4.drawn (Drawn.refl _).drew, f5.drawn (Drawn.refl _).drew⟩)
  obtain ⟨hx2, hx1, ho, hw, hf⟩ := hcut
  clear hfin y7 y11 y12 d0 d2 d3 e0 e2 e3
  have hfar : ∀ (cs : Array Value) b, b ≠ W.heap.size → (wc.setRow W.heap.size cs).heap[b]? = wc.heap[b]? := fun cs b h => setRow_far h
  have hne1 : ∀ b, (Value.slice tA ne tc).ownBlock = some b → b ≠ W.heap.size := fun b h => by have := hnv2.out b h; omega
  have hfinal : ∀ cs : Array Value, Own (wc.setRow W.heap.size cs) W.heap.size 75 2 (E.map erow) (.slice tA ne tc) ∧ Wt (wc.setRow W.heap.size cs) B g Z v vo T ∧ Fr W.heap.size (fun b => b = g ∨ vo.ownBlock = some b) W (wc.setRow W.heap.size cs) := fun cs =>
    ⟨ho.keep (fun b h => hfar cs b (hne1 b h)), hw.keep (hfar cs g (by omega)) (fun b h => hfar cs b (by have := hw.vg b h; omega)) (fun b h => hfar cs b (by have := (hw.og b h).1; omega)), hf.trans (Fr.of (below_setRow (Below.refl _ _) (Nat.le_refl _) cs))⟩
  replace hfinal := Lib.hid hfinal
  clear ho hw hf hfar hne1 hnv
  go_wp2_with (first
    | (refine wpList_load_row rfl 26 _ rfl (W.heap.size + 1) rfl 26 _ (0, 0) _ hx2 Tryd.underlying26 rfl (by kernel_rfl) ?_)
    | (refine wpList_store_row rfl 26 _ _ rfl W.heap.size #[.float .f64 th, .bool false, .int .i64 tl, .bool ts, .slice tA ne tc] rfl rfl 26 _ hx1 (by kernel_rfl) (by kernel_rfl) (by kernel_rfl) ?_))
  (try simp only [Exit.inBlock, Exit.then])
  refine bodyPost_ret (results2 rfl _ _ W.heap.size 26 _ (0, 0) _ rfl rfl (setRow_at hx1) Tryd.underlying26 rfl (by kernel_rfl)) rfl ?_
  obtain ⟨q1, q2, q3⟩ := hfinal.out #[.float .f64 th, .bool false, .int .i64 tl, .bool ts, .slice tA ne tc]
  rw [hSon.out, hE.out, hT.out, hth.out, htl.out, hts.out]
  exact ⟨_, rfl, q1, q2, q3⟩
end Go.Proofs.YtdjdkhbagoideaaDoor
