/- Heat: a step of the reference's watch that is felt; walked. -/
import Derived.Test.YtdjdkhbagoideaaDoorRf4
import Derived.StillTailTactics
import Derived.Laws.ResultCell
namespace Go.Proofs.YtdjdkhbagoideaaDoor
open Go.RowKit Go.BigFrame flt Ieee

theorem el54 : Elt Tryd.prog 87 103 2 16 := Elt.of (z := .agg #[.int .i64 0, .bool false]) Tryd.underlying87 (by kernel_rfl) rfl (by decide) (by decide)
def rturnd (Z : Zn) (s : Hs) (x : Nat) : Hs := { s with h := feelh Z s x, felt := true, on := ons (feelh Z s x) Z.tr s.on }
def rstepd (Z : Zn) (s : Hs) (x secs : Nat) : Hs := { rturnd Z s x with sum := rgsum Z (rturnd Z s x) secs, lv := rglv Z (rturnd Z s x) secs, sh := anyk 3 Z.tr (rturnd Z s x).on }
/-- the turning of the trips, as the loop goes -/
structure Tu (W0 W : World) (H : Nat) (O : List Bool) (n go_ co : Nat) (B : Nat) (on : List Bool) (k : Nat) (tv : Value) : Prop where
  e : Own W H 103 2 ((evs 0 (on.take k) (O.take k)).map erow) tv
  o : Own W B 4 1 ((O.take k ++ on.drop k).map orow) (.slice (some ⟨go_, 0, none⟩) n co)
  f : Fr W0.heap.size (fun b => (Value.slice (some ⟨go_, 0, none⟩) n co).ownBlock = some b) W0 W
set_option maxHeartbeats 8000000 in
set_option maxRecDepth 100000 in
theorem rstep_felt {W : World} {B g : Nat} {Z : Zn} {v vo : Value} {s : Hs} (hW : Wr W B g Z v vo s) (hZ : Zok Z) (hs : Hok Z s) (x secs : Nat) (hx : near x = true) (hsec : seconds secs = true) :
    Calls Tryd.prog 57 #[.pointer (some ⟨g, 0, none⟩), .float .f64 x, .float .f64 secs] W fun e w' => ∃ tv, e = .returned (.agg (sarr (rstepd Z s x secs).h false (rstepd Z s x secs).lv (rstepd Z s x secs).sh tv)) ∧
      Own w' W.heap.size 103 2 ((evs 0 s.on (rstepd Z s x secs).on).map erow) tv ∧ Wr w' B g Z v vo (rstepd Z s x secs) ∧ Fr W.heap.size (fun b => b = g ∨ vo.ownBlock = some b) W w' := by
  have hst : ∀ (p : Addr) (v : Nat) (W : World), (store p (.float .f64 v)).run Tryd.prog W = stored Tryd.prog W p (.float .f64 v) .plain := fun p v W => run_store Tryd.prog W p _ _ rfl
  have hxb := near_bt hx
  have hcb := sec_bt hsec
  have hg := heap_lt hW.hb
  have hb := below_al (Below.refl W.heap.size W) (.cells #[.float .f64 0, .bool false, .int .i64 0, .bool false, .slice none 0 0] 89)
  have hxP := heap_alloc_at W (.cells #[.float .f64 0, .bool false, .int .i64 0, .bool false, .slice none 0 0] 89)
  have hW0 := hW.below hb
  have hog := Lib.hid fun b (e : vo.ownBlock = some b) => (hW.og b e).1
  clear hW hx hsec
  go_enter Tryd.func57, Tryd.ntmps57
  go_upto_region 1 with fail
  generalize hP : W.heap.size = P at *
  generalize W.alloc (.cells #[.float .f64 0, .bool false, .int .i64 0, .bool false, .slice none 0 0] 89) = w0 at *
  replace hP := Lib.hid hP
  have hq0 : Gq w0 w0 B g Z v vo s := ⟨hW0, Fr.refl _ _ _⟩
  have y8 := hW0.cl 8 (x := .bool s.felt) rfl
  obtain ⟨bf, hbf⟩ : ∃ b, s.felt = b := ⟨_, rfl⟩
  rw [hbf] at y8
  replace hxP := Lib.hid hxP
  replace hb := Lib.hid hb
  go_upto_if 17 with fail
  go_cut [7, 8] from 13 to 46 (fun _ _ wc => Gq w0 wc B g Z v vo { s with h := feelh Z s x, felt := true })
  case first =>
    have f7 := hW0.fz 7
    have f8 := hW0.fz 8
    have y7 := hW0.cl 7 (x := .float .f64 s.h) rfl
    have y0 := hW0.cl 0 (x := .float .f64 Z.al) rfl
    cases bf with
    | false =>
      have e : feelh Z s x = x := by unfold feelh; rw [hbf]; rfl
      have hq1 := hq0.put 7 (.float .f64 x) (s' := { s with h := feelh Z s x }) (by rw [e]; rfl) rfl
      have hq2 := Lib.hid (hq1.put 8 (.bool true) (s' := { s with h := feelh Z s x, felt := true }) (by rw [e]; rfl) rfl)
      clear hq1 hW0 hq0 e hs hZ hbf
      generalize s.h = h0 at *
      go_wp2
      go_meet
      case rel => exact hq2.out
    | true =>
      obtain ⟨b1, b2, b3, b4⟩ := filter_step hZ.al.1 hZ.al.2.1 hZ.al.2.2 hs.h hxb
      have e : feelh Z s x = fadd s.h (fmul Z.al (fsub x s.h)) := by unfold feelh; rw [hbf]; rfl
      have r1 := fun W => run_float_arith (P := Tryd.prog) W .sub 23 .f64 _ _ _ b1
      have r2 := fun W => run_float_arith (P := Tryd.prog) W .mul 23 .f64 _ _ _ b2
      have r3 := fun W => run_float_arith (P := Tryd.prog) W .add 23 .f64 _ _ _ b3
      have hq2 := hq0.put 7 (.float .f64 (feelh Z s x)) (s' := { s with h := feelh Z s x, felt := true }) (by unfold warr; rw [hbf]; rfl) rfl
      rw [e] at hq2
      have hq3 := Lib.hid (show Gq w0 (w0.setCell ⟨g, 7, none⟩ (.float .f64 (fadd s.h (fmul Z.al (fsub x s.h))))) B g Z v vo { s with h := feelh Z s x, felt := true } by rw [e]; exact hq2)
      generalize fsub x s.h = q1 at *
      generalize fmul Z.al q1 = q2 at *
      generalize fadd s.h q2 = q3 at *
      clear hq2 hW0 hq0 e hs hZ hbf b1 b2 b3 b4
      generalize s.h = h0 at *
      go_wp2
      go_meet
      case rel => exact hq3.out
  have hq1 := hcut
  obtain ⟨w1, rfl⟩ : ∃ y : World, y = wc := ⟨_, rfl⟩
  clear hcut hq0 y8 hW0
  have hok1 := hok_feel hZ hs hxb
  have hok2 := hok_turn hok1
  have hW1 := hq1.w
  obtain ⟨O, hO⟩ : ∃ O, ons (feelh Z s x) Z.tr s.on = O := ⟨_, rfl⟩
  have hon := hs.on
  have hOl : O.length = Z.tr.length := by rw [← hO]; exact ons_len _ _ _ hon
  have hOa : ∀ k (h1 : k < Z.tr.length) (h2 : k < s.on.length) (h3 : k < O.length), O[k] = isOn (feelh Z s x) Z.tr[k] s.on[k] := fun k h1 h2 h3 => by subst hO; exact ons_at _ _ _ _ _ _ _
  have hturn : Hid (rturnd Z s x = { s with h := feelh Z s x, felt := true, on := O }) := Lib.hid (by rw [← hO]; rfl)
  have hstepd : Hid (rstepd Z s x secs = { rturnd Z s x with sum := rgsum Z (rturnd Z s x) secs, lv := rglv Z (rturnd Z s x) secs, sh := anyk 3 Z.tr (rturnd Z s x).on }) := Lib.hid rfl
  obtain ⟨n, hn⟩ : ∃ n, Z.tr.length = n := ⟨_, rfl⟩
  obtain ⟨gv, cv, hv, hg1, hg2⟩ := own_form0 hW1.tr (by rw [List.length_map]; exact hZ.n.1)
  obtain ⟨go_, co, hvo, hg3, hg4⟩ := own_form0 hW1.on (by rw [List.length_map]; show 0 < s.on.length; rw [hon]; exact hZ.n.1)
  rw [List.length_map, hn] at hv
  rw [List.length_map] at hvo
  change vo = .slice (some ⟨go_, 0, none⟩) s.on.length co at hvo
  rw [hon, hn] at hvo
  subst hv hvo
  have hogg := hog.out go_ rfl
  have hn8 : n ≤ 8 := by rw [← hn]; exact hZ.n.2
  have hson : s.on.length = n := by rw [hon, hn]
  rw [hn] at hOl
  have hgS : ¬ (Value.slice (some ⟨go_, 0, none⟩) n co).ownBlock = some g := fun e => by
    have h1 : go_ = g := Option.some.inj e
    omega
  have htk := fun (X : World) (q : Fr w1.heap.size (fun b => (Value.slice (some ⟨go_, 0, none⟩) n co).ownBlock = some b) w1 X) => hW1.tr.keep (w' := X) (fun b e => q.k b (hW1.tr.lt b e).2 (fun e2 => (hW1.og b e2).2 e))
  have hdT := Lib.hid fun (k : Nat) (hk : k < Z.tr.length) (X : World) (q : Fr w1.heap.size (fun b => (Value.slice (some ⟨go_, 0, none⟩) n co).ownBlock = some b) w1 X) =>
    And.intro (((htk X q).cells (by rw [List.length_map, hn]) (k := k) (by omega) (r := tprow Z.tr[k]) (by rw [List.getElem?_map, List.getElem?_eq_getElem hk]; rfl) (f := 0) (u := .float .f64 Z.tr[k].a) rfl).1)
      (And.intro (((htk X q).cells (by rw [List.length_map, hn]) (k := k) (by omega) (r := tprow Z.tr[k]) (by rw [List.getElem?_map, List.getElem?_eq_getElem hk]; rfl) (f := 1) (u := .float .f64 Z.tr[k].b) rfl).1)
        (((htk X q).cells (by rw [List.length_map, hn]) (k := k) (by omega) (r := tprow Z.tr[k]) (by rw [List.getElem?_map, List.getElem?_eq_getElem hk]; rfl) (f := 2) (u := .int .u8 Z.tr[k].k) rfl).1))
  have hdG := Lib.hid fun (X : World) (q : Fr w1.heap.size (fun b => (Value.slice (some ⟨go_, 0, none⟩) n co).ownBlock = some b) w1 X) =>
    And.intro ((World.cell?_of_block (a := ⟨g, 7, none⟩) (q.k g (heap_lt hW1.hb) hgS)).trans (hW1.cl 7 (x := .float .f64 (feelh Z s x)) rfl)) (And.intro ((World.cell?_of_block (a := ⟨g, 9, none⟩) (q.k g (heap_lt hW1.hb) hgS)).trans (hW1.cl 9 (x := .slice (some ⟨go_, 0, none⟩) n co) rfl)) ((World.cell?_of_block (a := ⟨g, 6, none⟩) (q.k g (heap_lt hW1.hb) hgS)).trans (hW1.cl 6 (x := .slice (some ⟨gv, 0, none⟩) n cv) rfl)))
  have hfin := Lib.hid fun (X : World) (ho : Own X B 4 1 (O.map orow) (.slice (some ⟨go_, 0, none⟩) n co)) (q : Fr w1.heap.size (fun b => (Value.slice (some ⟨go_, 0, none⟩) n co).ownBlock = some b) w1 X) =>
    (⟨(q.k g (heap_lt hW1.hb) hgS).trans hW1.hb, htk X q, ho, hW1.hB, hW1.vg, hW1.og⟩ : Wr X B g Z (.slice (some ⟨gv, 0, none⟩) n cv) (.slice (some ⟨go_, 0, none⟩) n co) { s with h := feelh Z s x, felt := true, on := O })
  have hBt := Lib.hid fun (k : Nat) (hk : k < Z.tr.length) => hZ.tr _ (List.getElem_mem hk)
  have hg4' : go_ < w1.heap.size := hg4
  have hT0 : Hid (Tu w1 w1 w1.heap.size O n go_ co B s.on 0 (.slice none 0 0)) := Lib.hid ⟨Own.nil _ _ _ _, hW1.on, Fr.refl _ _ _⟩
  have hF01 := Lib.hid hq1.f
  have hPw : Hid (P < w1.heap.size) := Lib.hid (Nat.lt_of_lt_of_le (heap_lt hxP.out) hq1.f.size)
  clear htk hgS hO hg1 hg2 hg3 hg4 hW1 hq1 hon hs hok1
  replace hok2 := Lib.hid hok2
  replace hZ := Lib.hid hZ
  replace hn := Lib.hid hn
  obtain ⟨hh, hhh⟩ : ∃ hh, feelh Z s x = hh := ⟨_, rfl⟩
  rw [hhh] at hOa hdG
  replace hhh := Lib.hid hhh
  go_upto_region 9 with fail
  go_loopw [9, 10] (fun s9 s10 wr => ∃ (k : Nat) (tv : Value), k ≤ n ∧ s10 = .int .i64 k ∧ tv = s9 ∧ Hid (Tu w1 wr w1.heap.size O n go_ co B s.on k tv)) (fun _ s10 _ => n - (intOf s10).toNat)
  case atStart => exact ⟨0, _, by omega, rfl, rfl, hT0⟩
  case round =>
    clear hT0
    obtain ⟨k, tv, hk, rfl, rfl, hT⟩ := hrel
    obtain ⟨wk, rfl⟩ : ∃ y : World, y = wr := ⟨_, rfl⟩
    by_cases hkn : k = n
    · rw [hkn] at hT
      have hOn := hT.out.o
      rw [List.take_of_length_le (by omega), List.drop_of_length_le (by omega), List.append_nil] at hOn
      have hE := hT.out.e
      rw [List.take_of_length_le (by omega), List.take_of_length_le (by omega)] at hE
      have hW5 := hfin.out wk hOn hT.out.f
      have hFk := hT.out.f
      rw [← hturn.out] at hW5
      have hok3 : Hok Z (rturnd Z s x) := hok2.out
      have hSon : Hid ((rstepd Z s x secs).on = O) := Lib.hid (by rw [hstepd.out, hturn.out])
      have KG := rgovern_any hW5 hZ.out hok3 secs hcb
      rw [← hstepd.out] at KG
      have hP1 := (hF01.out.k _ (heap_lt hxP.out) (show ¬ P = g by omega)).trans hxP.out
      have hP2 := (hFk.k _ (heap_lt hP1) (show ¬ _ = some P from fun e => by have : go_ = P := Option.some.inj e; omega)).trans hP1
      have hEl := hE.lt
      have y9 := hW5.cl 9 (x := .slice (some ⟨go_, 0, none⟩) n co) rfl
      subst hkn
      clear hT hOn hfin hdT hdG hBt hOa hturn hstepd hok2 hok3
      go_upto_region 20 with (go_at_call 61; (with_reducible refine (KG).mono ?_); rintro e w6 ⟨rfl, hW6, hF6⟩)
      clear y9
      have hP6 := (hF6.k _ (heap_lt hP2) (show ¬ P = g by omega)).trans hP2
      have hE6 := hE.keep (w' := w6) (fun b e => hF6.k b (hEl b e).2 (show ¬ b = g by have := (hEl b e).1; have := hPw.out; omega))
      have hF06 : Fr W.heap.size (fun b => b = g ∨ (Value.slice (some ⟨go_, 0, none⟩) k co).ownBlock = some b) W w6 := by
        have a1 : Fr W.heap.size (fun b => b = g ∨ (Value.slice (some ⟨go_, 0, none⟩) k co).ownBlock = some b) W w0 := Fr.of (by rw [hP.out]; exact hb.out)
        have hs0 := hb.out.size
        have hs1 := hF01.out.size
        have hs2 := hFk.size
        have hs3 := hP.out
        have hs4 := heap_lt hxP.out
        exact ((a1.trans (hF01.out.mono (by omega) (fun b _ e => Or.inl e))).trans (hFk.mono (by omega) (fun b _ e => Or.inr e))).trans (hF6.mono (by omega) (fun b _ e => Or.inl e))
      obtain ⟨tA, tc, rfl, -⟩ := hE6.sl
      rw [List.length_map] at hE6 hEl ⊢
      have y7 := hW6.cl 7 (x := .float .f64 (rstepd Z s x secs).h) rfl
      have y11 := hW6.cl 11 (x := .int .i64 (rstepd Z s x secs).lv) rfl
      have y12 := hW6.cl 12 (x := .bool (rstepd Z s x secs).sh) rfl
      have d0 : w6.cell? ⟨P, 0, none⟩ = some (.float .f64 0) := by rw [cell_of_row _ _ 0 _ 89 (0, 0) hP6]; rfl
      obtain ⟨T, hT⟩ : ∃ T, T = rstepd Z s x secs := ⟨_, rfl⟩
      rw [← hT] at y7 y11 y12 hW6 hSon
      replace hT := Lib.hid hT
      have hPd : w6.drew.heap[P]? = some (.cells #[.float .f64 0, .bool false, .int .i64 0, .bool false, .slice none 0 0] 89) := hP6
      have hne := hPw.out
      have hpP := hP.out
      have hEd : Own w6.drew w1.heap.size 103 2 ((evs 0 s.on O).map erow) (.slice tA (evs 0 s.on O).length tc) := hE6.drawn (Drawn.refl _).drew
      have hWd : Wr w6.drew B g Z _ _ T := hW6.drawn (Drawn.refl _).drew
      have hFd := hF06.drawn (Drawn.refl _).drew
      go_still_tail 14, (by kernel_rfl)
      change wpList _ _ _ _ _ w6.drew
      generalize w6.drew = w7 at *
      clear hEl KG hF6 hW6 hE6 hF06 hP6 d0 hP1 hP2 hE hFk
      have y7 := hWd.cl 7 (x := .float .f64 T.h) rfl
      have y11 := hWd.cl 11 (x := .int .i64 T.lv) rfl
      have y12 := hWd.cl 12 (x := .bool T.sh) rfl
      replace hWd := Lib.hid hWd
      replace hEd := Lib.hid hEd
      replace hFd := Lib.hid hFd
      go_wp2_with (refine wpList_store_row rfl 89 _ _ rfl P #[.float .f64 T.h, .bool false, .int .i64 T.lv, .bool T.sh, .slice tA (evs 0 s.on O).length tc] rfl rfl 89 _ hPd (by kernel_rfl) (by kernel_rfl) (by kernel_rfl) ?_)
      (try simp only [Act.put])
      refine bodyPost_ret (results_cell_row rfl _ _ P 89 _ (0, 0) _ rfl (setRow_at hPd) Tryd.underlying89 rfl (by kernel_rfl)) rfl ?_
      have hfar : ∀ (cs : Array Value) b, b ≠ P → (w7.setRow P cs).heap[b]? = w7.heap[b]? := fun cs b h => setRow_far h
      rw [← hT.out]
      refine ⟨_, rfl, ?_, ?_, ?_⟩
      · rw [hSon.out]
        exact (hEd.out.keep (fun b e => hfar _ b (by have := (hEd.out.lt b e).1; omega))).mono (by omega)
      · exact hWd.out.keep (hfar _ g (by omega)) (fun b e => hfar _ b (by have := hWd.out.vg b e; omega)) (fun b e => hfar _ b (by have := (hWd.out.og b e).1; omega))
      · exact ⟨below_setRow hFd.out.g (Nat.zero_le _) _, fun b hb' hn' => by rw [hfar _ b (by omega)]; exact hFd.out.k b hb' hn'⟩
    have hlt : k < n := by omega
    have hkl : k < Z.tr.length := by rw [hn.out]; exact hlt
    obtain ⟨x0, x1, x2⟩ := hdT.out k hkl wk hT.out.f
    obtain ⟨q1, q2, _⟩ := hBt.out k hkl
    obtain ⟨hsub, -⟩ := q1.sub q2 (by unfold In53; omega)
    have r1 := fun W => run_float_arith (P := Tryd.prog) W .sub 23 .f64 _ _ _ hsub
    have hks : k < s.on.length := by omega
    have hkO : k < O.length := by omega
    have hok := hOa k hkl hks hkO
    have hml : (O.take k ++ s.on.drop k).length = n := by rw [mix_len (by omega) (by omega)]; exact hOl
    have hset0 := mix_set hks hkO
    have hat0 := mix_at hks hkO (by omega)
    have hev := evs_snoc (s.on.take k) (O.take k) 0 s.on[k] O[k] (by rw [List.length_take, List.length_take]; omega)
    rw [List.take_append_getElem hks, List.take_append_getElem hkO, List.length_take, Nat.min_eq_left (by omega), Nat.zero_add] at hev
    have hevl := evs_len (s.on.take k) (O.take k) 0
    rw [List.length_take, Nat.min_eq_left (by omega)] at hevl
    unfold isOn at hok
    generalize O[k] = ok at *
    generalize s.on[k] = bk at *
    generalize Z.tr[k] = u at *
    obtain ⟨ua, ub, uk⟩ := u
    simp only at x0 x1 x2 r1 hok
    clear q1 q2 hsub hkn
    generalize fsub ua ub = q1 at *
    rw [Nat.add_zero] at x0
    obtain ⟨lo, hlo⟩ : ∃ b, (FloatKind.f64.format.order hh q1 == some .lt) = b := ⟨_, rfl⟩
    obtain ⟨hi, hhi⟩ : ∃ b, (FloatKind.f64.format.order hh ua == some .gt || FloatKind.f64.format.order hh ua == some .eq) = b := ⟨_, rfl⟩
    rw [show lt hh q1 = lo from hlo, show ge hh ua = hi from hhi] at hok
    obtain ⟨y7, y9, y6⟩ := hdG.out wk hT.out.f
    replace hset0 := Lib.hid hset0
    replace hat0 := Lib.hid hat0
    replace hev := Lib.hid hev
    go_upto_region 12 with (refine wpList_store_row rfl 79 _ _ rfl wk.heap.size #[.float .f64 ua, .float .f64 ub, .int .u8 uk] rfl rfl 79 _ (heap_alloc_at _ _) (by kernel_rfl) (by kernel_rfl) (by kernel_rfl) ?_)
    rw [setRow_alloc _ _ _ _ _ rfl]
    simp only [Act.put]
    have hxt := heap_alloc_at wk (.cells #[.float .f64 ua, .float .f64 ub, .int .u8 uk] 79)
    have hF0 := hT.out.f.trans (Fr.of ((below_al (Below.refl wk.heap.size wk) (.cells #[.float .f64 ua, .float .f64 ub, .int .u8 uk] 79)).mono hT.out.f.size))
    have hOn0 := hT.out.o.alloc (.cells #[.float .f64 ua, .float .f64 ub, .int .u8 uk] 79)
    have hE0 := hT.out.e.alloc (.cells #[.float .f64 ua, .float .f64 ub, .int .u8 uk] 79)
    generalize wk.alloc (.cells #[.float .f64 ua, .float .f64 ub, .int .u8 uk] 79) = wt at *
    have b0 : wt.cell? ⟨wk.heap.size, 0, none⟩ = some (.float .f64 ua) := by rw [cell_of_row _ _ 0 _ 79 (0, 0) hxt]; rfl
    have b1 : wt.cell? ⟨wk.heap.size, 1, none⟩ = some (.float .f64 ub) := by rw [cell_of_row _ _ 1 _ 79 (0, 0) hxt]; rfl
    clear x0 x1 x2 y7 y9 y6 hxt hT
    obtain ⟨y7, y9, y6⟩ := hdG.out wt hF0
    obtain ⟨g', u0, e1, _, _, c0, f0, hr0, -⟩ := hOn0.row1 (by rw [List.length_map, hml]) hlt
    have eg : go_ = g' := by simpa using e1
    subst eg
    have hu0 : u0 = .bool bk := by
      rw [List.getElem?_map, List.getElem?_eq_getElem (by omega), hat0.out] at hr0
      simpa [orow] using hr0.symm
    subst hu0
    clear e1 hr0
    replace hF0 := Lib.hid hF0
    replace hOn0 := Lib.hid hOn0
    replace hE0 := Lib.hid hE0
    replace hok := Lib.hid hok
    go_upto_region 13 with fail
    go_cut [85] from 69 to 84 (fun y wc => ∃ t1 : Bool, y = .bool t1 ∧ Hid (t1 = (!bk && hi)) ∧ Drawn wt wc)
    case first =>
      cases bk with
      | true =>
        go_big_quiet (fail)
        go_wp2
        go_meet
        case rel => exact ⟨_, rfl, Lib.hid rfl, (Drawn.refl _).drewN _⟩
      | false =>
        go_big_quiet (fail)
        go_wp2
        go_meet
        case rel => exact ⟨_, rfl, Lib.hid rfl, (Drawn.refl _).drewN _⟩
    obtain ⟨t1, rfl, ht1, hd⟩ := hcut
    have hE1 := hE0.out.drawn hd
    have hOn1 := hOn0.out.drawn hd
    have hF1 := hF0.out.drawn hd
    clear y7 y9 y6
    obtain ⟨y7, y9, y6⟩ := hdG.out wc hF1
    have c1 := (hd.cell ⟨go_, k, none⟩).trans c0
    have f1 := (hd.frozen ⟨go_, k, none⟩).trans f0
    obtain ⟨g', u0, e1, -, -, -, -, -, hset⟩ := hOn1.row1 (by rw [List.length_map, hml]) hlt
    have eg : go_ = g' := by simpa using e1
    subst eg
    replace hev := hev.out
    replace hset0 := hset0.out
    replace hat0 := hat0.out
    have hok' := hok.out
    clear e1 hok hhi r1 hE0 hF0 hOn0 b0 b1 f0 c0 hd
    cases bk with
    | false =>
      simp only [Bool.false_eq_true, if_false] at hok'
      subst hok'
      cases ok with
      | true =>
        obtain rfl : t1 = true := ht1.out
        have hev2 : Hid ((evs 0 (s.on.take (k + 1)) (O.take (k + 1))).map erow = (evs 0 (s.on.take k) (O.take k)).map erow ++ [[.int .i64 k, .bool true]]) := Lib.hid (by rw [hev, if_neg (by decide), List.map_append]; rfl)
        have hset' := hset (.bool true)
        have e3 : (((O.take k ++ s.on.drop k).map orow).set k [.bool true]) = (O.take (k + 1) ++ s.on.drop (k + 1)).map orow := by
          rw [← hset0, List.map_set]; rfl
        rw [e3] at hset'
        have hE2 := hE1.keep (w' := wc.setCell ⟨go_, k, none⟩ (.bool true)) (fun b e => Below.heap_setCell wc _ _ b (fun q => by
          have h1 := (hE1.lt b e).1
          have h2 : b = go_ := q
          omega))
        have hF2 := hF1.set (p := ⟨go_, k, none⟩) (fun _ => rfl) (.bool true)
        have hsz := hF2.size
        have hlr : Hid (((evs 0 (s.on.take k) (O.take k)).map erow).length ≤ k) := Lib.hid (by rw [List.length_map]; exact hevl)
        have tv9 := y9
        clear hOn1 hset0 hat0 hev hE1 e3 hset hevl
        go_upto_region 15 with fail
        generalize wc.setCell ⟨go_, k, none⟩ (.bool true) = w5 at *
        have hs5 := Lib.hid hF2.size
        go_wp2_with (at_builtin; refine wpList_push el54 rfl _ _ rfl rfl (hE2.alloc _) [.int .i64 k, .bool true] w5.heap.size 103 rfl (heap_alloc_at _ _) rfl (by simp [Value.oneCell']) (by have := hlr.out; omega) (by have := hs5.out; rw [size_al]; omega) ?_; intro v' w6 ho6 hb6 hs6 _ _)
        have hbb6 : Below w1.heap.size w5 w6 := ((below_al (Below.refl w5.heap.size w5) (.cells #[.int .i64 k, .bool true] 103)).mono hs5.out).trans hb6
        have hF3 := hF2.trans (Fr.of hbb6)
        have hOn3 := hset'.keep (w' := w6) (fun b e => hbb6.block b (by have : go_ = b := Option.some.inj e; omega))
        rw [← hev2.out] at ho6
        clear hE2 hset' hF2 hb6 hs6 hbb6
        go_roundw
        case rel => exact ⟨k + 1, _, by omega, by go_num, rfl, Lib.hid ⟨ho6, hOn3, hF3⟩⟩
        case measure => simp [intOf]; omega
      | false =>
        obtain rfl : t1 = false := ht1.out
        have hOn2 : Own wc B 4 1 ((O.take (k + 1) ++ s.on.drop (k + 1)).map orow) (.slice (some ⟨go_, 0, none⟩) n co) := by
          have e : (O.take k ++ s.on.drop k).set k false = O.take k ++ s.on.drop k := by
            have q := @List.set_getElem_self _ (O.take k ++ s.on.drop k) k (by omega)
            rwa [hat0] at q
          rw [← hset0, e]; exact hOn1
        have hE2 : Own wc w1.heap.size 103 2 ((evs 0 (s.on.take (k + 1)) (O.take (k + 1))).map erow) tv := by rw [hev, if_pos rfl, List.append_nil]; exact hE1
        replace hOn2 := Lib.hid hOn2
        replace hE2 := Lib.hid hE2
        clear hOn1 hset0 hat0 hev hE1
        go_wp2
        go_roundw
        case rel => exact ⟨k + 1, _, by omega, by go_num, rfl, Lib.hid ⟨hE2.out, hOn2.out, hF1⟩⟩
        case measure => simp [intOf]; omega
    | true =>
      obtain rfl : t1 = false := ht1.out
      simp only [if_true] at hok'
      cases lo with
      | true =>
        have e9 : ok = false := hok'
        subst e9
        clear hok'
        have hev2 : Hid ((evs 0 (s.on.take (k + 1)) (O.take (k + 1))).map erow = (evs 0 (s.on.take k) (O.take k)).map erow ++ [[.int .i64 k, .bool false]]) := Lib.hid (by rw [hev, if_neg (by decide), List.map_append]; rfl)
        have hset' := hset (.bool false)
        have e3 : (((O.take k ++ s.on.drop k).map orow).set k [.bool false]) = (O.take (k + 1) ++ s.on.drop (k + 1)).map orow := by
          rw [← hset0, List.map_set]; rfl
        rw [e3] at hset'
        have hE2 := hE1.keep (w' := wc.setCell ⟨go_, k, none⟩ (.bool false)) (fun b e => Below.heap_setCell wc _ _ b (fun q => by
          have h1 := (hE1.lt b e).1
          have h2 : b = go_ := q
          omega))
        have hF2 := hF1.set (p := ⟨go_, k, none⟩) (fun _ => rfl) (.bool false)
        have hsz := hF2.size
        have hlr : Hid (((evs 0 (s.on.take k) (O.take k)).map erow).length ≤ k) := Lib.hid (by rw [List.length_map]; exact hevl)
        have tv9 := y9
        clear hOn1 hset0 hat0 hev hE1 e3 hset hevl
        go_upto_region 18 with fail
        generalize wc.setCell ⟨go_, k, none⟩ (.bool false) = w5 at *
        have hs5 := Lib.hid hF2.size
        go_wp2_with (at_builtin; refine wpList_push el54 rfl _ _ rfl rfl (hE2.alloc _) [.int .i64 k, .bool false] w5.heap.size 103 rfl (heap_alloc_at _ _) rfl (by simp [Value.oneCell']) (by have := hlr.out; omega) (by have := hs5.out; rw [size_al]; omega) ?_; intro v' w6 ho6 hb6 hs6 _ _)
        have hbb6 : Below w1.heap.size w5 w6 := ((below_al (Below.refl w5.heap.size w5) (.cells #[.int .i64 k, .bool false] 103)).mono hs5.out).trans hb6
        have hF3 := hF2.trans (Fr.of hbb6)
        have hOn3 := hset'.keep (w' := w6) (fun b e => hbb6.block b (by have : go_ = b := Option.some.inj e; omega))
        rw [← hev2.out] at ho6
        clear hE2 hset' hF2 hb6 hs6 hbb6
        go_roundw
        case rel => exact ⟨k + 1, _, by omega, by go_num, rfl, Lib.hid ⟨ho6, hOn3, hF3⟩⟩
        case measure => simp [intOf]; omega
      | false =>
        have e9 : ok = true := hok'
        subst e9
        clear hok'
        have hOn2 : Own wc B 4 1 ((O.take (k + 1) ++ s.on.drop (k + 1)).map orow) (.slice (some ⟨go_, 0, none⟩) n co) := by
          have e : (O.take k ++ s.on.drop k).set k true = O.take k ++ s.on.drop k := by
            have q := @List.set_getElem_self _ (O.take k ++ s.on.drop k) k (by omega)
            rwa [hat0] at q
          rw [← hset0, e]; exact hOn1
        have hE2 : Own wc w1.heap.size 103 2 ((evs 0 (s.on.take (k + 1)) (O.take (k + 1))).map erow) tv := by rw [hev, if_pos rfl, List.append_nil]; exact hE1
        replace hOn2 := Lib.hid hOn2
        replace hE2 := Lib.hid hE2
        clear hOn1 hset0 hat0 hev hE1
        go_wp2
        go_roundw
        case rel => exact ⟨k + 1, _, by omega, by go_num, rfl, Lib.hid ⟨hE2.out, hOn2.out, hF1⟩⟩
        case measure => simp [intOf]; omega
end Go.Proofs.YtdjdkhbagoideaaDoor
