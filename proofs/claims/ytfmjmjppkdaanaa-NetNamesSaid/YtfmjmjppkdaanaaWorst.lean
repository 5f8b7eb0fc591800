/- Net: the worst of a sweep, whether a sweep stays within a limit, walked. -/
import Derived.Test.YtfmjmjppkdaanaaSweep3
namespace Go.Proofs.Ytfmjmjppkdaanaa
open Go.RowKit Go.BigFrame flt Ieee

def sz (z : Cx) : Option Nat := size z.1 z.2
def zat (zs : List Cx) (i : Nat) : Cx := zs.getD i (none, none)
theorem zat_get {zs : List Cx} {i : Nat} (h : i < zs.length) : zs[i] = zat zs i := by
  unfold zat; rw [List.getD_eq_getElem?_getD, List.getElem?_eq_getElem h]; rfl
/-- the worst, from a place on, where one has been found -/
def wl (zs : List Cx) : Nat → Nat → Nat → Nat × Option Nat
  | 0, _, a => (a, sz (zat zs a))
  | t + 1, i, a => if (sz (zat zs i)).isNone then (i, none) else if ord (sz (zat zs i)) (sz (zat zs a)) == some .gt then wl zs t (i + 1) i else wl zs t (i + 1) a
def worst (zs : List Cx) : Nat × Option Nat := wl zs zs.length 0 0
/-- the first that is above a bound -/
def le (a b : Option Nat) : Bool := ord a b == some .lt || ord a b == some .eq
def mt (zs : List Cx) (T : Option Nat) : Nat → Nat → Bool × Nat
  | 0, _ => (true, 0)
  | t + 1, i => if le (sz (zat zs i)) T then mt zs T t (i + 1) else (false, i)
def meets (zs : List Cx) (T : Option Nat) : Bool × Nat := mt zs T zs.length 0
theorem le_test (x y : Nat) : (FloatKind.f64.format.order x y == some .lt || FloatKind.f64.format.order x y == some .eq) = le (cls x) (cls y) := by
  have e := order_cls x y
  unfold le
  rw [← e]
  rfl
theorem gt_test (x y : Nat) : (FloatKind.f64.format.order x y == some .gt) = (ord (cls x) (cls y) == some .gt) := by
  have e := order_cls x y
  rw [← e]
  rfl
set_option maxHeartbeats 4000000 in
theorem worst_bad (l : List Part) (A : Option Addr) (c f s : Nat) (n : Int) (w : World) (h : Pn w A l) (he : ¬ SwOk l (cls f) (cls s) n) :
    Calls Try.prog 31 #[.slice A l.length c, .float .f64 f, .float .f64 s, .int .i64 n] w fun e w' => e = .returned (.tuple #[.int .i64 0, .float .f64 0, .int .i64 (swerr l (cls f) (cls s) n)]) ∧ Below w.heap.size w w' := by
  have hS := sweep_bad l A c f s n w h he
  have hE : swerr l (cls f) (cls s) n = 1 ∨ swerr l (cls f) (cls s) n = 290 := by
    unfold swerr
    by_cases hg : Good l
    · rw [if_pos hg, if_neg he]; exact Or.inl rfl
    · rw [if_neg hg]; exact Or.inr rfl
  clear h he
  generalize swerr l (cls f) (cls s) n = E at *
  rcases hE with rfl | rfl
  all_goals (
    go_enter Try.func31, Try.ntmps31
    go_wp2_with (go_at_call 29; (with_reducible refine (hS).mono ?_); rintro e w1 ⟨rfl, hb⟩)
    refine bodyPost_ret (results_tmp3 rfl _ _ _) rfl ?_
    exact ⟨rfl, hb⟩)
set_option maxHeartbeats 4000000 in
theorem worst_good (l : List Part) (A : Option Addr) (c f s : Nat) (n : Nat) (w : World) (h : Pn w A l) (hok : SwOk l (cls f) (cls s) n) :
    Calls Try.prog 31 #[.slice A l.length c, .float .f64 f, .float .f64 s, .int .i64 n] w fun e w' => ∃ q, e = .returned (.tuple #[.int .i64 ((worst (swn (cls f) (cls s) l n)).1 : Nat), .float .f64 q, .int .i64 0]) ∧ cls q = (worst (swn (cls f) (cls s) l n)).2 ∧ Below w.heap.size w w' := by
  have hS := sweep_good l A c f s n w h hok
  have hn1 : 1 ≤ n := by have := hok.2.2.2.2.1; omega
  have hn2 : n ≤ 4096 := by have := hok.2.2.2.2.2; omega
  have hzl := swn_len (cls f) (cls s) l n
  clear h hok
  generalize swn (cls f) (cls s) l n = zs at *
  have hW : Hid (worst zs = wl zs n 0 0) := Lib.hid (by unfold worst; rw [hzl])
  replace hzl := Lib.hid hzl
  generalize hX : worst zs = X at *
  clear hX
  go_enter Try.func31, Try.ntmps31
  go_upto_region 4 with (go_at_call 29; (with_reducible refine (hS).mono ?_); rintro e w1 ⟨v, rs, rfl, hrs, ho, hb⟩; obtain ⟨Av, cv, rfl, hcs⟩ := Cs.of_own ho; have hrl : rs.length = n := (by rw [← List.length_map (f := clsc), hrs, hzl.out]); rw [hrs] at hcs; rw [hrl]; replace hrs := Lib.hid hrs; replace hrl := Lib.hid hrl)
  clear ho hS
  obtain ⟨wo, rfl⟩ : ∃ x : World, x = w1 := ⟨_, rfl⟩
  have hcell : ∀ (k : Nat) (W : World), k < n → Drawn wo W → ∃ b o r s, Av = some ⟨b, o, none⟩ ∧ W.cell? ⟨b, o + k, none⟩ = some (.complex .f64 r s) ∧ (cls r, cls s) = zat zs k := fun k W hk hW => by
    obtain ⟨b, o, r, s, e, _, c0, hc⟩ := hcs.2 k (by rw [hzl.out]; exact hk)
    exact ⟨b, o, r, s, e, by rw [hW.cell]; exact c0, by rw [hc]; exact zat_get _⟩
  replace hcell := Lib.hid hcell
  clear hcs
  go_wp2
  go_loopw [13, 30] (fun s13 s30 wr => ∃ (k a : Nat), k ≤ n ∧ s30 = .int .i64 k ∧ a < n ∧ s13 = .int .i64 a ∧ X = wl zs (n - k) k a ∧ Drawn wo wr) (fun _ v _ => n - (intOf v).toNat)
  case atStart => exact ⟨0, 0, by omega, rfl, by omega, rfl, hW.out, Drawn.refl _⟩
  case round =>
    obtain ⟨k, a, hk, rfl, ha, rfl, hXk, hd⟩ := hrel
    obtain ⟨wi, rfl⟩ : ∃ x : World, x = wr := ⟨_, rfl⟩
    replace hXk := Lib.hid hXk
    obtain ⟨b, o, r, q, rfl, c0, hc⟩ := hcell.out a wi ha hd
    replace hc := Lib.hid hc
    by_cases hkl : k = n
    · subst hkl
      have hXe : Hid (X = (a, sz (zat zs a))) := Lib.hid (by rw [hXk.out, Nat.sub_self]; rfl)
      go_wp2_with (go_at_call 18; (with_reducible refine (size_any _ _ _).mono ?_); rintro e w2 ⟨r2, rfl, hr2, hd2⟩; replace hr2 := Lib.hid hr2)
      refine bodyPost_ret (results_tmp3 rfl _ _ _) rfl ?_
      exact ⟨r2, by rw [hXe.out]; rfl, by rw [hXe.out, hr2.out]; show size (cls r) (cls q) = size (zat zs a).1 (zat zs a).2; rw [← hc.out], (hd.trans hd2).after hb⟩
    have hlt : k < n := by omega
    obtain ⟨b', o', r2, q2, e, d0, hc2⟩ := hcell.out k wi hlt hd
    cases e
    replace hc2 := Lib.hid hc2
    have hstep : Hid (X = if (sz (zat zs k)).isNone then (k, none) else if ord (sz (zat zs k)) (sz (zat zs a)) == some .gt then wl zs (n - (k + 1)) (k + 1) k else wl zs (n - (k + 1)) (k + 1) a) := Lib.hid (by
      rw [hXk.out, show n - k = (n - (k + 1)) + 1 by omega]; rfl)
    clear hXk
    have hc0' := fun W (hW : Drawn wi W) => (hW.cell ⟨b, o + a, none⟩).trans c0
    go_upto_region 9 with (go_at_call 18; (with_reducible refine (size_any _ _ _).mono ?_); rintro e w2 ⟨r3, rfl, hr3, hd3⟩)
    obtain ⟨wj, rfl⟩ : ∃ x : World, x = w2 := ⟨_, rfl⟩
    have hr3' : Hid (cls r3 = sz (zat zs k)) := Lib.hid (by rw [hr3]; show size (cls r2) (cls q2) = size (zat zs k).1 (zat zs k).2; rw [← hc2.out])
    have hN := isNaN_any r3
    have c0 := hc0' _ hd3
    cases hnn : (cls r3).isNone
    · rw [hnn] at hN
      have hG := fun y => gt_test r3 y
      have hgen : ∀ r4, cls r4 = size (cls r) (cls q) → (FloatKind.f64.format.order r3 r4 == some .gt) = (ord (sz (zat zs k)) (sz (zat zs a)) == some .gt) := fun r4 h4 => by
        rw [hG, hr3'.out, h4]
        show _ = (ord _ (size (zat zs a).1 (zat zs a).2) == some .gt)
        rw [← hc.out]
      have hsn : (sz (zat zs k)).isNone = false := by rw [← hr3'.out]; exact hnn
      have hstep2 : Hid (X = if ord (sz (zat zs k)) (sz (zat zs a)) == some .gt then wl zs (n - (k + 1)) (k + 1) k else wl zs (n - (k + 1)) (k + 1) a) := Lib.hid (by rw [hstep.out, hsn]; rfl)
      clear hstep hsn hnn hr3 hG
      generalize (ord (sz (zat zs k)) (sz (zat zs a)) == some .gt) = G at *
      cases G
      all_goals (
        go_wp2_with (first
          | (go_at_call 46; (with_reducible refine (hN _).mono ?_); rintro e w3 ⟨rfl, hw3⟩; subst hw3)
          | (go_at_call 18; (with_reducible refine (size_any _ _ _).mono ?_); rintro e w4 ⟨r4, rfl, hr4, hd4⟩; have hcmp := hgen r4 hr4; clear hr4))
        go_roundw
        case rel => first | exact ⟨k + 1, a, by omega, by go_num, ha, rfl, by rw [hstep2.out]; rfl, (hd.trans hd3).trans hd4⟩ | exact ⟨k + 1, k, by omega, by go_num, hlt, rfl, by rw [hstep2.out]; rfl, (hd.trans hd3).trans hd4⟩
        case measure => simp [intOf]; omega)
    · rw [hnn] at hN
      have hsn : (sz (zat zs k)).isNone = true := by rw [← hr3'.out]; exact hnn
      have hXe : Hid (X = (k, none)) := Lib.hid (by rw [hstep.out, hsn]; rfl)
      have hr0 : Hid (cls r3 = none) := Lib.hid (Option.isNone_iff_eq_none.1 hnn)
      clear hstep hsn hnn hr3
      go_wp2_with (go_at_call 46; (with_reducible refine (hN _).mono ?_); rintro e w3 ⟨rfl, hw3⟩; subst hw3)
      refine bodyPost_ret (results_tmp3 rfl _ _ _) rfl ?_
      exact ⟨r3, by rw [hXe.out]; rfl, by rw [hXe.out, hr0.out], (hd.trans hd3).after hb⟩
end Go.Proofs.Ytfmjmjppkdaanaa
