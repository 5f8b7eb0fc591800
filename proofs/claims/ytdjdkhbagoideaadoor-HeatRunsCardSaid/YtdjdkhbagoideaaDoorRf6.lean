/- Heat: a step of the reference's watch; walked. -/
import Derived.Test.YtdjdkhbagoideaaDoorRf5
namespace Go.Proofs.YtdjdkhbagoideaaDoor
open Go.RowKit Go.BigFrame flt Ieee

def rnxt (Z : Zn) (s : Hs) (x secs : Nat) : Hs := if s.sh || badArg x secs || isNaN x then s else rstepd Z s x secs
def rtold (Z : Zn) (s : Hs) (x secs : Nat) : Tl :=
  if s.sh || badArg x secs then ⟨0, false, 0, false, []⟩
  else if isNaN x then ⟨s.h, true, s.lv, false, []⟩
  else ⟨(rstepd Z s x secs).h, false, (rstepd Z s x secs).lv, (rstepd Z s x secs).sh, evs 0 s.on (rstepd Z s x secs).on⟩
set_option maxHeartbeats 8000000 in
set_option maxRecDepth 100000 in
theorem rstep_any {W : World} {B g : Nat} {Z : Zn} {v vo : Value} {s : Hs} (hW : Wr W B g Z v vo s) (hZ : Zok Z) (hs : Hok Z s) (x secs : Nat) :
    Calls Tryd.prog 50 #[.pointer (some ⟨g, 0, none⟩), .float .f64 x, .float .f64 secs] W fun e w' => ∃ tv, e = .returned (.tuple #[.agg (sarr (rtold Z s x secs).d (rtold Z s x secs).br (rtold Z s x secs).lv (rtold Z s x secs).sh tv), .int .i64 (code s x secs)]) ∧
      Own w' W.heap.size 103 2 ((rtold Z s x secs).ev.map erow) tv ∧ Wr w' B g Z v vo (rnxt Z s x secs) ∧ Fr W.heap.size (fun b => b = g ∨ vo.ownBlock = some b) W w' := by
  have hb := below_al (Below.refl W.heap.size W) (.cells #[.float .f64 0, .bool false, .int .i64 0, .bool false, .slice none 0 0] 89)
  have hxP := heap_alloc_at W (.cells #[.float .f64 0, .bool false, .int .i64 0, .bool false, .slice none 0 0] 89)
  have hg := heap_lt hW.hb
  have hW0 := hW.below hb
  have K1 := rnear_any x
  have K2 := nan_any x
  have K3 := rsecs_any secs
  have hba : Hid (badArg x secs = ((!near x && !isNaN x) || !seconds secs)) := Lib.hid rfl
  have hTo : Hid (rtold Z s x secs = if s.sh || badArg x secs then ⟨0, false, 0, false, []⟩ else if isNaN x then ⟨s.h, true, s.lv, false, []⟩ else ⟨(rstepd Z s x secs).h, false, (rstepd Z s x secs).lv, (rstepd Z s x secs).sh, evs 0 s.on (rstepd Z s x secs).on⟩) := Lib.hid rfl
  have hNx : Hid (rnxt Z s x secs = if s.sh || badArg x secs || isNaN x then s else rstepd Z s x secs) := Lib.hid rfl
  have hCo : Hid (code s x secs = if s.sh then 5 else if badArg x secs then 1 else 0) := Lib.hid rfl
  have hFel := Lib.hid fun (h1 : near x = true) (h2 : seconds secs = true) => rstep_felt hW0 hZ hs x secs h1 h2
  generalize rtold Z s x secs = Tt at *
  generalize rnxt Z s x secs = Nn at *
  generalize code s x secs = Cc at *
  obtain ⟨bn, hbn⟩ : ∃ b, near x = b := ⟨_, rfl⟩
  obtain ⟨bx, hbx⟩ : ∃ b, isNaN x = b := ⟨_, rfl⟩
  obtain ⟨bs, hbs⟩ : ∃ b, seconds secs = b := ⟨_, rfl⟩
  rw [hbn] at K1
  rw [hbx] at K2
  rw [hbs] at K3
  have hba' := hba.out
  rw [hbn, hbx, hbs] at hba'
  have hFi : Hid (Fr W.heap.size (fun b => b = g ∨ vo.ownBlock = some b) W (W.alloc (.cells #[.float .f64 0, .bool false, .int .i64 0, .bool false, .slice none 0 0] 89))) := Lib.hid (Fr.of hb)
  clear hW hba hb
  go_enter Tryd.func50, Tryd.ntmps50
  go_upto_region 1 with fail
  generalize hP : W.heap.size = P at *
  generalize W.alloc (.cells #[.float .f64 0, .bool false, .int .i64 0, .bool false, .slice none 0 0] 89) = w0 at *
  replace hP := Lib.hid hP
  have y12 := hW0.cl 12 (x := .bool s.sh) rfl
  have hset : Hid (∀ (cs : Array Value) (X : World), X = w0.setRow P cs → X.heap[P]? = some (.cells cs 89) ∧ Wr X B g Z v vo s ∧ Fr P (fun b => b = g ∨ vo.ownBlock = some b) W X) := Lib.hid fun cs X e => by
    have hfar : ∀ b, b ≠ P → X.heap[b]? = w0.heap[b]? := fun b h => by rw [e]; exact setRow_far h
    refine ⟨by rw [e]; exact setRow_at hxP, hW0.keep (hfar g (by omega)) (fun b e => hfar b (by have := hW0.vg b e; omega)) (fun b e => hfar b (by have := (hW0.og b e).1; omega)), ⟨by rw [e]; exact below_setRow hFi.out.g (Nat.zero_le _) _, fun b h1 h2 => by rw [hfar b (by omega)]; exact hFi.out.k b h1 h2⟩⟩
  obtain ⟨bsh, hbsh⟩ : ∃ b, s.sh = b := ⟨_, rfl⟩
  rw [hbsh] at y12
  have hTo' := hTo.out
  have hNx' := hNx.out
  have hCo' := hCo.out
  rw [hbsh, hba', hbx] at hTo' hNx'
  rw [hbsh, hba'] at hCo'
  clear hTo hNx hCo hba'
  cases bsh with
  | true =>
    simp only [Bool.true_or, if_true] at hTo' hNx' hCo'
    subst hTo' hCo'
    replace hNx' := hNx'.symm
    subst hNx'
    clear hFel
    go_wp2_with (refine wpList_store_row rfl 89 _ _ rfl P #[.float .f64 0, .bool false, .int .i64 0, .bool false, .slice none 0 0] rfl rfl 89 _ hxP (by kernel_rfl) (by kernel_rfl) (by kernel_rfl) ?_)
    (try simp only [Exit.inBlock, Exit.then, Act.put])
    refine bodyPost_ret (results2 rfl _ _ P 89 _ (0, 0) _ rfl rfl (setRow_at hxP) Tryd.underlying89 rfl (by kernel_rfl)) rfl ?_
    obtain ⟨-, h2, h3⟩ := hset.out _ _ rfl
    exact ⟨_, rfl, Own.nil _ _ _ _, h2, by rw [hP.out]; exact h3⟩
  | false =>
    simp only [Bool.false_or, Bool.false_eq_true, if_false] at hTo' hNx' hCo'
    have hcase : (bn = false ∧ bx = false) ∨ ((bn = true ∨ bx = true) ∧ bs = false) ∨ (bs = true ∧ bx = true) ∨ (bs = true ∧ bx = false ∧ bn = true) := by cases bn <;> cases bx <;> cases bs <;> simp
    rcases hcase with ⟨rfl, rfl⟩ | ⟨hor, rfl⟩ | ⟨rfl, rfl⟩ | ⟨rfl, rfl, rfl⟩
    · simp only [Bool.not_false, Bool.and_self, Bool.true_or, Bool.or_false, if_true] at hTo' hNx' hCo'
      subst hTo' hCo'
      replace hNx' := hNx'.symm
      subst hNx'
      clear hFel
      go_wp2_with (first
      | (go_at_call 35; (with_reducible refine (K1 _).mono ?_); rintro e wq ⟨rfl, rfl⟩)
      | (go_at_call 23; (with_reducible refine (K2 _).mono ?_); rintro e wq ⟨rfl, rfl⟩)
      | (go_at_call 36; (with_reducible refine (K3 _).mono ?_); rintro e wq ⟨rfl, rfl⟩)
      | (refine wpList_store_row rfl 89 _ _ rfl P #[.float .f64 0, .bool false, .int .i64 0, .bool false, .slice none 0 0] rfl rfl 89 _ hxP (by kernel_rfl) (by kernel_rfl) (by kernel_rfl) ?_))
      (try simp only [Exit.inBlock, Exit.then, Act.put])
      refine bodyPost_ret (results2 rfl _ _ P 89 _ (0, 0) _ rfl rfl (setRow_at hxP) Tryd.underlying89 rfl (by kernel_rfl)) rfl ?_
      obtain ⟨-, h2, h3⟩ := hset.out _ _ rfl
      exact ⟨_, rfl, Own.nil _ _ _ _, h2, by rw [hP.out]; exact h3⟩
    · rcases hor with rfl | rfl
      · simp only [Bool.not_false, Bool.not_true, Bool.or_true, Bool.true_or, Bool.false_and, if_true] at hTo' hNx' hCo'
        subst hTo' hCo'
        replace hNx' := hNx'.symm
        subst hNx'
        clear hFel
        go_wp2_with (first
        | (go_at_call 35; (with_reducible refine (K1 _).mono ?_); rintro e wq ⟨rfl, rfl⟩)
        | (go_at_call 23; (with_reducible refine (K2 _).mono ?_); rintro e wq ⟨rfl, rfl⟩)
        | (go_at_call 36; (with_reducible refine (K3 _).mono ?_); rintro e wq ⟨rfl, rfl⟩)
        | (refine wpList_store_row rfl 89 _ _ rfl P #[.float .f64 0, .bool false, .int .i64 0, .bool false, .slice none 0 0] rfl rfl 89 _ hxP (by kernel_rfl) (by kernel_rfl) (by kernel_rfl) ?_))
        (try simp only [Exit.inBlock, Exit.then, Act.put])
        refine bodyPost_ret (results2 rfl _ _ P 89 _ (0, 0) _ rfl rfl (setRow_at hxP) Tryd.underlying89 rfl (by kernel_rfl)) rfl ?_
        obtain ⟨-, h2, h3⟩ := hset.out _ _ rfl
        exact ⟨_, rfl, Own.nil _ _ _ _, h2, by rw [hP.out]; exact h3⟩
      · cases bn
        · simp only [Bool.not_false, Bool.not_true, Bool.or_true, Bool.and_false, if_true] at hTo' hNx' hCo'
          subst hTo' hCo'
          replace hNx' := hNx'.symm
          subst hNx'
          clear hFel
          go_wp2_with (first
          | (go_at_call 35; (with_reducible refine (K1 _).mono ?_); rintro e wq ⟨rfl, rfl⟩)
          | (go_at_call 23; (with_reducible refine (K2 _).mono ?_); rintro e wq ⟨rfl, rfl⟩)
          | (go_at_call 36; (with_reducible refine (K3 _).mono ?_); rintro e wq ⟨rfl, rfl⟩)
          | (refine wpList_store_row rfl 89 _ _ rfl P #[.float .f64 0, .bool false, .int .i64 0, .bool false, .slice none 0 0] rfl rfl 89 _ hxP (by kernel_rfl) (by kernel_rfl) (by kernel_rfl) ?_))
          (try simp only [Exit.inBlock, Exit.then, Act.put])
          refine bodyPost_ret (results2 rfl _ _ P 89 _ (0, 0) _ rfl rfl (setRow_at hxP) Tryd.underlying89 rfl (by kernel_rfl)) rfl ?_
          obtain ⟨-, h2, h3⟩ := hset.out _ _ rfl
          exact ⟨_, rfl, Own.nil _ _ _ _, h2, by rw [hP.out]; exact h3⟩
        · simp only [Bool.not_false, Bool.not_true, Bool.and_self, Bool.or_true, if_true] at hTo' hNx' hCo'
          subst hTo' hCo'
          replace hNx' := hNx'.symm
          subst hNx'
          clear hFel
          go_wp2_with (first
          | (go_at_call 35; (with_reducible refine (K1 _).mono ?_); rintro e wq ⟨rfl, rfl⟩)
          | (go_at_call 23; (with_reducible refine (K2 _).mono ?_); rintro e wq ⟨rfl, rfl⟩)
          | (go_at_call 36; (with_reducible refine (K3 _).mono ?_); rintro e wq ⟨rfl, rfl⟩)
          | (refine wpList_store_row rfl 89 _ _ rfl P #[.float .f64 0, .bool false, .int .i64 0, .bool false, .slice none 0 0] rfl rfl 89 _ hxP (by kernel_rfl) (by kernel_rfl) (by kernel_rfl) ?_))
          (try simp only [Exit.inBlock, Exit.then, Act.put])
          refine bodyPost_ret (results2 rfl _ _ P 89 _ (0, 0) _ rfl rfl (setRow_at hxP) Tryd.underlying89 rfl (by kernel_rfl)) rfl ?_
          obtain ⟨-, h2, h3⟩ := hset.out _ _ rfl
          exact ⟨_, rfl, Own.nil _ _ _ _, h2, by rw [hP.out]; exact h3⟩
    · cases bn
      · simp only [Bool.not_false, Bool.not_true, Bool.or_true, Bool.and_false, Bool.or_false, if_true, Bool.false_eq_true, if_false] at hTo' hNx' hCo'
        subst hTo' hCo'
        replace hNx' := hNx'.symm
        subst hNx'
        clear hFel
        go_upto_region 6 with (first
        | (go_at_call 35; (with_reducible refine (K1 _).mono ?_); rintro e wq ⟨rfl, rfl⟩)
        | (go_at_call 23; (with_reducible refine (K2 _).mono ?_); rintro e wq ⟨rfl, rfl⟩)
        | (go_at_call 36; (with_reducible refine (K3 _).mono ?_); rintro e wq ⟨rfl, rfl⟩)
        | (refine wpList_store_row rfl 89 _ _ rfl P #[.float .f64 0, .bool false, .int .i64 0, .bool false, .slice none 0 0] rfl rfl 89 _ hxP (by kernel_rfl) (by kernel_rfl) (by kernel_rfl) ?_))
        have y7 := hW0.cl 7 (x := .float .f64 s.h) rfl
        have y11 := hW0.cl 11 (x := .int .i64 s.lv) rfl
        have hPd : w0.drew.heap[P]? = some (.cells #[.float .f64 0, .bool false, .int .i64 0, .bool false, .slice none 0 0] 89) := hxP
        have hfin := hset.out #[.float .f64 s.h, .bool true, .int .i64 s.lv, .bool false, .slice none 0 0] _ rfl
        go_still_tail 9, (by kernel_rfl)
        change wpList _ _ _ _ _ w0.drew
        have hfin2 : Hid (Wr (w0.drew.setRow P #[.float .f64 s.h, .bool true, .int .i64 s.lv, .bool false, .slice none 0 0]) B g Z v vo s ∧ Fr P (fun b => b = g ∨ vo.ownBlock = some b) W (w0.drew.setRow P #[.float .f64 s.h, .bool true, .int .i64 s.lv, .bool false, .slice none 0 0])) := Lib.hid ⟨hfin.2.1.drawn (Drawn.refl _).drew, hfin.2.2.drawn (Drawn.refl _).drew⟩
        clear hfin
        have y7 : w0.drew.cell? ⟨g, 7, none⟩ = some (.float .f64 s.h) := y7
        have y11 : w0.drew.cell? ⟨g, 11, none⟩ = some (.int .i64 s.lv) := y11
        generalize w0.drew = w7 at *
        go_wp2_with (refine wpList_store_row rfl 89 _ _ rfl P #[.float .f64 s.h, .bool true, .int .i64 s.lv, .bool false, .slice none 0 0] rfl rfl 89 _ hPd (by kernel_rfl) (by kernel_rfl) (by kernel_rfl) ?_)
        (try simp only [Exit.inBlock, Exit.then, Act.put])
        refine bodyPost_ret (results2 rfl _ _ P 89 _ (0, 0) _ rfl rfl (setRow_at hPd) Tryd.underlying89 rfl (by kernel_rfl)) rfl ?_
        exact ⟨_, rfl, Own.nil _ _ _ _, hfin2.out.1, by rw [hP.out]; exact hfin2.out.2⟩
      · simp only [Bool.not_true, Bool.and_self, Bool.or_true, Bool.or_false, if_true, Bool.false_eq_true, if_false] at hTo' hNx' hCo'
        subst hTo' hCo'
        replace hNx' := hNx'.symm
        subst hNx'
        clear hFel
        go_upto_region 6 with (first
        | (go_at_call 35; (with_reducible refine (K1 _).mono ?_); rintro e wq ⟨rfl, rfl⟩)
        | (go_at_call 23; (with_reducible refine (K2 _).mono ?_); rintro e wq ⟨rfl, rfl⟩)
        | (go_at_call 36; (with_reducible refine (K3 _).mono ?_); rintro e wq ⟨rfl, rfl⟩)
        | (refine wpList_store_row rfl 89 _ _ rfl P #[.float .f64 0, .bool false, .int .i64 0, .bool false, .slice none 0 0] rfl rfl 89 _ hxP (by kernel_rfl) (by kernel_rfl) (by kernel_rfl) ?_))
        have y7 := hW0.cl 7 (x := .float .f64 s.h) rfl
        have y11 := hW0.cl 11 (x := .int .i64 s.lv) rfl
        have hPd : w0.drew.heap[P]? = some (.cells #[.float .f64 0, .bool false, .int .i64 0, .bool false, .slice none 0 0] 89) := hxP
        have hfin := hset.out #[.float .f64 s.h, .bool true, .int .i64 s.lv, .bool false, .slice none 0 0] _ rfl
        go_still_tail 9, (by kernel_rfl)
        change wpList _ _ _ _ _ w0.drew
        have hfin2 : Hid (Wr (w0.drew.setRow P #[.float .f64 s.h, .bool true, .int .i64 s.lv, .bool false, .slice none 0 0]) B g Z v vo s ∧ Fr P (fun b => b = g ∨ vo.ownBlock = some b) W (w0.drew.setRow P #[.float .f64 s.h, .bool true, .int .i64 s.lv, .bool false, .slice none 0 0])) := Lib.hid ⟨hfin.2.1.drawn (Drawn.refl _).drew, hfin.2.2.drawn (Drawn.refl _).drew⟩
        clear hfin
        have y7 : w0.drew.cell? ⟨g, 7, none⟩ = some (.float .f64 s.h) := y7
        have y11 : w0.drew.cell? ⟨g, 11, none⟩ = some (.int .i64 s.lv) := y11
        generalize w0.drew = w7 at *
        go_wp2_with (refine wpList_store_row rfl 89 _ _ rfl P #[.float .f64 s.h, .bool true, .int .i64 s.lv, .bool false, .slice none 0 0] rfl rfl 89 _ hPd (by kernel_rfl) (by kernel_rfl) (by kernel_rfl) ?_)
        (try simp only [Exit.inBlock, Exit.then, Act.put])
        refine bodyPost_ret (results2 rfl _ _ P 89 _ (0, 0) _ rfl rfl (setRow_at hPd) Tryd.underlying89 rfl (by kernel_rfl)) rfl ?_
        exact ⟨_, rfl, Own.nil _ _ _ _, hfin2.out.1, by rw [hP.out]; exact hfin2.out.2⟩
    · simp only [Bool.not_false, Bool.not_true, Bool.and_true, Bool.or_false, Bool.false_eq_true, if_false] at hTo' hNx' hCo'
      subst hTo' hCo'
      replace hNx' := hNx'.symm
      subst hNx'
      have KF := hFel.out hbn hbs
      clear hFel
      go_wp2_with (first
        | (go_at_call 35; (with_reducible refine (K1 _).mono ?_); rintro e wq ⟨rfl, rfl⟩)
        | (go_at_call 23; (with_reducible refine (K2 _).mono ?_); rintro e wq ⟨rfl, rfl⟩)
        | (go_at_call 36; (with_reducible refine (K3 _).mono ?_); rintro e wq ⟨rfl, rfl⟩)
        | (go_at_call 57; (with_reducible refine (KF).mono ?_); rintro e w6 ⟨tv, rfl, hE6, hW6, hF6⟩; have hP6 := (hF6.k _ (heap_lt hxP) (show ¬ (P = g ∨ vo.ownBlock = some P) from fun e => by rcases e with e | e <;> first | omega | (have := (hW0.og P e).1; omega))).trans hxP; obtain ⟨tA, tc, rfl, -⟩ := hE6.sl)
        | (refine wpList_store_row rfl 89 _ _ rfl P (sarr (rstepd Z s x secs).h false (rstepd Z s x secs).lv (rstepd Z s x secs).sh (.slice tA (evs 0 s.on (rstepd Z s x secs).on).length tc)) rfl rfl 89 _ hP6 (by kernel_rfl) (by kernel_rfl) (by kernel_rfl) ?_))
      (try simp only [Exit.inBlock, Exit.then, Act.put])
      refine bodyPost_ret (results2 rfl _ _ P 89 _ (0, 0) _ rfl rfl (setRow_at hP6) Tryd.underlying89 rfl (by kernel_rfl)) rfl ?_
      rw [List.length_map] at hE6
      have hfar : ∀ (cs : Array Value) b, b ≠ P → (w6.setRow P cs).heap[b]? = w6.heap[b]? := fun cs b h => setRow_far h
      have hs0 := heap_lt hxP
      have hpP := hP.out
      have hF2 : Fr P (fun b => b = g ∨ vo.ownBlock = some b) W w6 := by
        exact hFi.out.trans (hF6.mono (by omega) (fun b _ e => e))
      exact ⟨_, rfl, (hE6.keep (fun b e => hfar _ b (by have := (hE6.lt b e).1; omega))).mono (by omega), hW6.keep (hfar _ g (by omega)) (fun b e => hfar _ b (by have := hW6.vg b e; omega)) (fun b e => hfar _ b (by have := (hW6.og b e).1; omega)),
        by rw [hpP]; exact ⟨below_setRow hF2.g (Nat.zero_le _) _, fun b h1 h2 => by rw [hfar _ b (by omega)]; exact hF2.k b h1 h2⟩⟩
end Go.Proofs.YtdjdkhbagoideaaDoor
