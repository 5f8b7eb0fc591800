/- Points: the reference's Best, walked. -/
import Derived.Test.YthmdhmknadhjeaaBest
namespace Go.Proofs.Ythmdhmknadhjeaa
open Go.RowKit Go.BigFrame flt Ieee

theorem eq_test (x : Nat) : (FloatKind.f64.format.order x x == some .eq) = !(cls x).isNone := by
  have h := nan_test x
  have e : FloatKind.f64.format.order x x = double.order x x := rfl
  rw [e, ← h]
  simp [bne]
set_option maxHeartbeats 4000000 in
theorem rbest_any (l : List Pt) (A : Option Addr) (c : Nat) (wk tm fa lk : Nat) (w : World) (h : Pts w A l) :
    Calls Try.prog 35 #[.slice A l.length c, .float .f64 wk, .float .f64 tm, .float .f64 fa, .float .f64 lk] w fun e w' =>
      e = .returned (.tuple #[.int .i64 (bestR l (cls wk) (cls tm) (cls fa) (cls lk)).1, .int .i64 (bestR l (cls wk) (cls tm) (cls fa) (cls lk)).2]) ∧ Below w.heap.size w w' := by
  have hlen := h.le
  have B := may_any l A c w h
  unfold bestR
  cases ht : tab l
  · rw [if_pos rfl]
    rw [ht] at B
    clear h ht
    go_enter Try.func35, Try.ntmps35
    go_wp2_with (go_at_call 43; (with_reducible refine B.mono ?_); rintro e w1 ⟨rfl, hb⟩)
    go_ret2
    exact ⟨rfl, hb⟩
  · rw [if_neg (by decide)]
    rw [ht] at B
    have N1 := rplain_any wk
    have N2 := rplain_any tm
    have N3 := rplain_any fa
    have N4 := rplain_any lk
    clear ht
    have hbad : (pl (cls wk) && pl (cls tm) && pl (cls fa) && pl (cls lk)) = false → Calls Try.prog 35 #[.slice A l.length c, .float .f64 wk, .float .f64 tm, .float .f64 fa, .float .f64 lk] w fun e w' =>
      e = .returned (.tuple #[.int .i64 0, .int .i64 1]) ∧ Below w.heap.size w w' := by
      intro hp
      generalize pl (cls wk) = p1 at *
      generalize pl (cls tm) = p2 at *
      generalize pl (cls fa) = p3 at *
      generalize pl (cls lk) = p4 at *
      clear h hlen
      cases p1
      · clear hp N2 N3 N4
        go_enter Try.func35, Try.ntmps35
        go_wp2_with (first
          | (go_at_call 43; (with_reducible refine B.mono ?_); rintro e w1 ⟨rfl, hb⟩)
          | (go_at_call 59; (with_reducible refine (N1 _).mono ?_); rintro e w2 ⟨rfl, hw⟩; subst hw)
          | (go_at_call 59; (with_reducible refine (N2 _).mono ?_); rintro e w2 ⟨rfl, hw⟩; subst hw)
          | (go_at_call 59; (with_reducible refine (N3 _).mono ?_); rintro e w2 ⟨rfl, hw⟩; subst hw)
          | (go_at_call 59; (with_reducible refine (N4 _).mono ?_); rintro e w2 ⟨rfl, hw⟩; subst hw))
        go_ret2
        exact ⟨rfl, hb⟩
      · cases p2
        · clear hp N3 N4
          go_enter Try.func35, Try.ntmps35
          go_wp2_with (first
            | (go_at_call 43; (with_reducible refine B.mono ?_); rintro e w1 ⟨rfl, hb⟩)
            | (go_at_call 59; (with_reducible refine (N1 _).mono ?_); rintro e w2 ⟨rfl, hw⟩; subst hw)
            | (go_at_call 59; (with_reducible refine (N2 _).mono ?_); rintro e w2 ⟨rfl, hw⟩; subst hw)
            | (go_at_call 59; (with_reducible refine (N3 _).mono ?_); rintro e w2 ⟨rfl, hw⟩; subst hw)
            | (go_at_call 59; (with_reducible refine (N4 _).mono ?_); rintro e w2 ⟨rfl, hw⟩; subst hw))
          go_ret2
          exact ⟨rfl, hb⟩
        · cases p3
          · clear hp N4
            go_enter Try.func35, Try.ntmps35
            go_wp2_with (first
              | (go_at_call 43; (with_reducible refine B.mono ?_); rintro e w1 ⟨rfl, hb⟩)
              | (go_at_call 59; (with_reducible refine (N1 _).mono ?_); rintro e w2 ⟨rfl, hw⟩; subst hw)
              | (go_at_call 59; (with_reducible refine (N2 _).mono ?_); rintro e w2 ⟨rfl, hw⟩; subst hw)
              | (go_at_call 59; (with_reducible refine (N3 _).mono ?_); rintro e w2 ⟨rfl, hw⟩; subst hw)
              | (go_at_call 59; (with_reducible refine (N4 _).mono ?_); rintro e w2 ⟨rfl, hw⟩; subst hw))
            go_ret2
            exact ⟨rfl, hb⟩
          · cases p4
            · clear hp
              go_enter Try.func35, Try.ntmps35
              go_wp2_with (first
                | (go_at_call 43; (with_reducible refine B.mono ?_); rintro e w1 ⟨rfl, hb⟩)
                | (go_at_call 59; (with_reducible refine (N1 _).mono ?_); rintro e w2 ⟨rfl, hw⟩; subst hw)
                | (go_at_call 59; (with_reducible refine (N2 _).mono ?_); rintro e w2 ⟨rfl, hw⟩; subst hw)
                | (go_at_call 59; (with_reducible refine (N3 _).mono ?_); rintro e w2 ⟨rfl, hw⟩; subst hw)
                | (go_at_call 59; (with_reducible refine (N4 _).mono ?_); rintro e w2 ⟨rfl, hw⟩; subst hw))
              go_ret2
              exact ⟨rfl, hb⟩
            · cases hp
    cases hp : (pl (cls wk) && pl (cls tm) && pl (cls fa) && pl (cls lk))
    · rw [if_pos rfl]
      exact hbad hp
    · rw [if_neg (by decide)]
      clear hbad
      simp only [Bool.and_eq_true] at hp
      obtain ⟨⟨⟨q1, q2⟩, q3⟩, q4⟩ := hp
      rw [q1] at N1
      rw [q2] at N2
      rw [q3] at N3
      rw [q4] at N4
      clear q1 q2 q3 q4
      obtain ⟨FM, GM, hm, cm⟩ := veil (op := .mul) (Or.inr (Or.inr (Or.inl rfl))) 62
      obtain ⟨FQ, GQ, hq, cq⟩ := veil (op := .quo) (Or.inr (Or.inr (Or.inr rfl))) 62
      replace cm := Lib.hid cm
      replace cq := Lib.hid cq
      generalize hR : (if (bst l (cls wk) (cls tm) (cls fa) (cls lk) l.length).1 < 0 then ((0 : Int), (6 : Int)) else ((bst l (cls wk) (cls tm) (cls fa) (cls lk) l.length).1, 0)) = R
      replace hR := Lib.hid hR
      go_enter Try.func35, Try.ntmps35
      go_wp2_with (first
        | (go_at_call 43; (with_reducible refine B.mono ?_); rintro e w1 ⟨rfl, hb⟩)
        | (go_at_call 59; (with_reducible refine (N1 _).mono ?_); rintro e w2 ⟨rfl, hw⟩; subst hw)
        | (go_at_call 59; (with_reducible refine (N2 _).mono ?_); rintro e w2 ⟨rfl, hw⟩; subst hw)
        | (go_at_call 59; (with_reducible refine (N3 _).mono ?_); rintro e w2 ⟨rfl, hw⟩; subst hw)
        | (go_at_call 59; (with_reducible refine (N4 _).mono ?_); rintro e w2 ⟨rfl, hw⟩; subst hw))
      clear B N1 N2 N3 N4
      have hA := hb
      clear hb
      go_loopw [12, 13, 14] (fun b z i wr => ∃ (k y : Nat), k ≤ l.length ∧ i = .int .i64 k ∧ b = .int .i64 (bst l (cls wk) (cls tm) (cls fa) (cls lk) k).1 ∧ z = .float .f64 y ∧ ((bst l (cls wk) (cls tm) (cls fa) (cls lk) k).1 < 0 ∨ cls y = (bst l (cls wk) (cls tm) (cls fa) (cls lk) k).2) ∧ Below w.heap.size w wr) (fun _ _ i _ => l.length - (intOf i).toNat)
      case atStart => exact ⟨0, _, by omega, rfl, rfl, rfl, Or.inl (show (-1 : Int) < 0 by decide), hA⟩
      case round =>
        clear hA
        obtain ⟨k, y, hk, rfl, rfl, rfl, hy, hd⟩ := hrel
        replace hy := Lib.hid hy
        have hp := h.below hd
        by_cases hkl : k = l.length
        · subst hkl
          clear hp hm hq hy
          generalize bst l (cls wk) (cls tm) (cls fa) (cls lk) l.length = s at *
          by_cases hneg : s.1 < 0
          · have e0 : Hid (R = (0, 6)) := Lib.hid (by rw [← hR.out, if_pos hneg])
            go_wp2
            go_ret2
            exact ⟨retR e0.out, hd⟩
          · have e0 : Hid (R = (s.1, 0)) := Lib.hid (by rw [← hR.out, if_neg hneg])
            go_wp2
            go_ret2
            exact ⟨retR e0.out, hd⟩
        have hlt : k < l.length := by omega
        obtain ⟨b, o, rfl, hbl, c0, c1⟩ := Pts.at_ hp hlt
        have sg := bst_gt (W := cls wk) (T := cls tm) (F := cls fa) (K := cls lk) hlt
        have sl := bst_le (W := cls wk) (T := cls tm) (F := cls fa) (K := cls lk) hlt
        generalize l[k].1 = x at *
        generalize l[k].2 = v at *
        generalize hs1 : bst l (cls wk) (cls tm) (cls fa) (cls lk) (k + 1) = s1 at *
        replace hs1 := Lib.hid hs1
        generalize bst l (cls wk) (cls tm) (cls fa) (cls lk) k = s at *
        have ht : ∀ W, cls (FQ wk (floatOfInt .f64 x) W) = op2 .quo (cls wk) (fi x) := fun W => by rw [cq.out, cls_fi]
        have hgt : ∀ W, (FloatKind.f64.format.order (FQ wk (floatOfInt .f64 x) W) tm == some .gt) = gt (op2 .quo (cls wk) (fi x)) (cls tm) := fun W => by rw [order_run, ht]; rfl
        generalize op2 .quo (cls wk) (fi x) = t at *
        have hp1 := hp
        clear hp
        replace hk := Lib.hid hk
        cases hg : gt t (cls tm)
        · have sl := Lib.hid (sl hg)
          rw [hg] at hgt
          clear sg hg
          have PA := rpw_any x v fa lk
          generalize pw x v (cls fa) (cls lk) = PW at *
          generalize hXe : op2 .mul PW t = X at *
          replace hXe := Lib.hid hXe
          obtain ⟨bb, Z⟩ := s
          simp only at sl
          replace hy : Hid (bb < 0 ∨ cls y = Z) := hy
          by_cases hneg : bb < 0
          · have s2 : Hid (s1 = ((k : Int), X)) := Lib.hid (by rw [sl.out, decide_eq_true hneg]; rfl)
            clear sl
            go_wp2_with (first
              | (go_at_call 38; (with_reducible refine (PA _).mono ?_); rintro e w5 ⟨r, rfl, hr, hb⟩; have hX : ∀ W W', cls (FM r (FQ wk (floatOfInt .f64 x) W) W') = X := (fun W W' => by (rw [cm.out, hr, ht]; exact hXe.out)); (try have hL : ∀ W W', (FloatKind.f64.format.order (FM r (FQ wk (floatOfInt .f64 x) W) W') y == some .lt) = lt X Z := (fun W W' => by (rw [order_run, hX, hy.out]; rfl))); (try rw [hl] at hL); have hXe2 : ∀ W W', (FloatKind.f64.format.order (FM r (FQ wk (floatOfInt .f64 x) W) W') (FM r (FQ wk (floatOfInt .f64 x) W) W') == some .eq) = !X.isNone := (fun W W' => by (rw [eq_test, hX])); (try rw [hxn] at hXe2); have hdd := hd.trans ((below_drewN' (Below.refl _ _) _).trans (hb.mono (by (have := hd.size; rw [World.heap_drewN]; omega)))); replace hr := Lib.hid hr))
            go_roundw
            case rel => exact ⟨k + 1, _, by omega, by go_num, by rw [hs1.out, s2.out], rfl, by rw [hs1.out, s2.out]; exact Or.inr (hX _ _), below_drewN' hdd _⟩
            case measure => simp [intOf]; omega
          · have hd0 : decide (bb < 0) = false := decide_eq_false hneg
            replace hy : Hid (cls y = Z) := Lib.hid (hy.out.resolve_left hneg)
            have hyn : (FloatKind.f64.format.order y y != some .eq) = Z.isNone := by have q := nan_test y; rw [hy.out] at q; exact q
            cases hl : lt X Z
            · cases hzn : Z.isNone
              · rw [hzn] at hyn
                have s2 : Hid (s1 = (bb, Z)) := Lib.hid (by rw [sl.out, hd0, hl, hzn]; rfl)
                clear sl hd0
                go_wp2_with (first
                  | (go_at_call 38; (with_reducible refine (PA _).mono ?_); rintro e w5 ⟨r, rfl, hr, hb⟩; have hX : ∀ W W', cls (FM r (FQ wk (floatOfInt .f64 x) W) W') = X := (fun W W' => by (rw [cm.out, hr, ht]; exact hXe.out)); (try have hL : ∀ W W', (FloatKind.f64.format.order (FM r (FQ wk (floatOfInt .f64 x) W) W') y == some .lt) = lt X Z := (fun W W' => by (rw [order_run, hX, hy.out]; rfl))); (try rw [hl] at hL); have hXe2 : ∀ W W', (FloatKind.f64.format.order (FM r (FQ wk (floatOfInt .f64 x) W) W') (FM r (FQ wk (floatOfInt .f64 x) W) W') == some .eq) = !X.isNone := (fun W W' => by (rw [eq_test, hX])); (try rw [hxn] at hXe2); have hdd := hd.trans ((below_drewN' (Below.refl _ _) _).trans (hb.mono (by (have := hd.size; rw [World.heap_drewN]; omega)))); replace hr := Lib.hid hr))
                go_roundw
                case rel => exact ⟨k + 1, y, by omega, by go_num, by rw [hs1.out, s2.out], rfl, by rw [hs1.out, s2.out]; exact Or.inr hy.out, below_drewN' hdd _⟩
                case measure => simp [intOf]; omega
              · rw [hzn] at hyn
                cases hxn : X.isNone
                · have s2 : Hid (s1 = ((k : Int), X)) := Lib.hid (by rw [sl.out, hd0, hl, hzn, hxn]; rfl)
                  clear sl hd0
                  go_wp2_with (first
                    | (go_at_call 38; (with_reducible refine (PA _).mono ?_); rintro e w5 ⟨r, rfl, hr, hb⟩; have hX : ∀ W W', cls (FM r (FQ wk (floatOfInt .f64 x) W) W') = X := (fun W W' => by (rw [cm.out, hr, ht]; exact hXe.out)); (try have hL : ∀ W W', (FloatKind.f64.format.order (FM r (FQ wk (floatOfInt .f64 x) W) W') y == some .lt) = lt X Z := (fun W W' => by (rw [order_run, hX, hy.out]; rfl))); (try rw [hl] at hL); have hXe2 : ∀ W W', (FloatKind.f64.format.order (FM r (FQ wk (floatOfInt .f64 x) W) W') (FM r (FQ wk (floatOfInt .f64 x) W) W') == some .eq) = !X.isNone := (fun W W' => by (rw [eq_test, hX])); (try rw [hxn] at hXe2); have hdd := hd.trans ((below_drewN' (Below.refl _ _) _).trans (hb.mono (by (have := hd.size; rw [World.heap_drewN]; omega)))); replace hr := Lib.hid hr))
                  go_roundw
                  case rel => exact ⟨k + 1, _, by omega, by go_num, by rw [hs1.out, s2.out], rfl, by rw [hs1.out, s2.out]; exact Or.inr (hX _ _), below_drewN' hdd _⟩
                  case measure => simp [intOf]; omega
                · have s2 : Hid (s1 = (bb, Z)) := Lib.hid (by rw [sl.out, hd0, hl, hzn, hxn]; rfl)
                  clear sl hd0
                  go_wp2_with (first
                    | (go_at_call 38; (with_reducible refine (PA _).mono ?_); rintro e w5 ⟨r, rfl, hr, hb⟩; have hX : ∀ W W', cls (FM r (FQ wk (floatOfInt .f64 x) W) W') = X := (fun W W' => by (rw [cm.out, hr, ht]; exact hXe.out)); (try have hL : ∀ W W', (FloatKind.f64.format.order (FM r (FQ wk (floatOfInt .f64 x) W) W') y == some .lt) = lt X Z := (fun W W' => by (rw [order_run, hX, hy.out]; rfl))); (try rw [hl] at hL); have hXe2 : ∀ W W', (FloatKind.f64.format.order (FM r (FQ wk (floatOfInt .f64 x) W) W') (FM r (FQ wk (floatOfInt .f64 x) W) W') == some .eq) = !X.isNone := (fun W W' => by (rw [eq_test, hX])); (try rw [hxn] at hXe2); have hdd := hd.trans ((below_drewN' (Below.refl _ _) _).trans (hb.mono (by (have := hd.size; rw [World.heap_drewN]; omega)))); replace hr := Lib.hid hr))
                  go_roundw
                  case rel => exact ⟨k + 1, y, by omega, by go_num, by rw [hs1.out, s2.out], rfl, by rw [hs1.out, s2.out]; exact Or.inr hy.out, below_drewN' hdd _⟩
                  case measure => simp [intOf]; omega
            · have s2 : Hid (s1 = ((k : Int), X)) := Lib.hid (by rw [sl.out, hd0, hl]; rfl)
              clear sl hd0
              go_wp2_with (first
                | (go_at_call 38; (with_reducible refine (PA _).mono ?_); rintro e w5 ⟨r, rfl, hr, hb⟩; have hX : ∀ W W', cls (FM r (FQ wk (floatOfInt .f64 x) W) W') = X := (fun W W' => by (rw [cm.out, hr, ht]; exact hXe.out)); (try have hL : ∀ W W', (FloatKind.f64.format.order (FM r (FQ wk (floatOfInt .f64 x) W) W') y == some .lt) = lt X Z := (fun W W' => by (rw [order_run, hX, hy.out]; rfl))); (try rw [hl] at hL); have hXe2 : ∀ W W', (FloatKind.f64.format.order (FM r (FQ wk (floatOfInt .f64 x) W) W') (FM r (FQ wk (floatOfInt .f64 x) W) W') == some .eq) = !X.isNone := (fun W W' => by (rw [eq_test, hX])); (try rw [hxn] at hXe2); have hdd := hd.trans ((below_drewN' (Below.refl _ _) _).trans (hb.mono (by (have := hd.size; rw [World.heap_drewN]; omega)))); replace hr := Lib.hid hr))
              go_roundw
              case rel => exact ⟨k + 1, _, by omega, by go_num, by rw [hs1.out, s2.out], rfl, by rw [hs1.out, s2.out]; exact Or.inr (hX _ _), below_drewN' hdd _⟩
              case measure => simp [intOf]; omega
        · have sg := Lib.hid (sg hg)
          rw [hg] at hgt
          clear sl hg
          go_wp2
          go_roundw
          case rel => exact ⟨k + 1, y, by omega, by go_num, by rw [hs1.out, sg.out], rfl, by rw [hs1.out, sg.out]; exact hy.out, below_drewN' hd _⟩
          case measure => simp [intOf]; omega
end Go.Proofs.Ythmdhmknadhjeaa
