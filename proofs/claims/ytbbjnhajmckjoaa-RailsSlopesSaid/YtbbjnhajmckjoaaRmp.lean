/- Rails: the reference's ramps, walked, by classes; the law's sameFloat. -/
import Derived.Test.YtbbjnhajmckjoaaSub
namespace Go.Proofs.Ytbbjnhajmckjoaa
open Go.RowKit Go.BigFrame flt Ieee

theorem order_n (x : Nat) : FloatKind.f64.format.order x 18442240474082181119 = ord (cls x) (some 18442240474082181119) := by
  have e := order_cls x 18442240474082181119
  rw [cls_nn nn_min] at e
  exact e
/-- 'x == x && x <= max && x >= -max' -/
theorem fin_is (x : Nat) : isFin (cls x) = ((FloatKind.f64.format.order x x == some .eq) && ((FloatKind.f64.format.order x 9218868437227405311 == some .lt || FloatKind.f64.format.order x 9218868437227405311 == some .eq) && (FloatKind.f64.format.order x 18442240474082181119 == some .gt || FloatKind.f64.format.order x 18442240474082181119 == some .eq))) := by
  have h1 := nan_test x
  have h2 := inf_test x
  rw [isFin_eq]
  show _ = ((double.order x x == some .eq) && ((double.order x 9218868437227405311 == some .lt || double.order x 9218868437227405311 == some .eq) && (double.order x 18442240474082181119 == some .gt || double.order x 18442240474082181119 == some .eq)))
  have h1' : (double.order x x == some .eq) = !(cls x).isNone := by rw [← h1, bne, Bool.not_not]
  rw [h1', ← h2]
  cases hx : cls x with
  | none => rfl
  | some a =>
    obtain ⟨rfl, hn⟩ := cls_some hx
    rw [order_key hn nn_max, order_key hn nn_min]
    cases compare (key x) (key 9218868437227405311) <;> cases compare (key x) (key 18442240474082181119) <;> rfl
set_option maxHeartbeats 1000000 in
theorem rfin_any (x : Nat) (w : World) : Calls Try.prog 59 #[.float .f64 x] w fun e w' => e = .returned (.bool (isFin (cls x))) ∧ w' = w := by
  have H := fin_is x
  obtain ⟨a, ha⟩ : ∃ a, (FloatKind.f64.format.order x x == some .eq) = a := ⟨_, rfl⟩
  obtain ⟨b, hb⟩ : ∃ a, (FloatKind.f64.format.order x 9218868437227405311 == some .lt || FloatKind.f64.format.order x 9218868437227405311 == some .eq) = a := ⟨_, rfl⟩
  obtain ⟨c, hc⟩ : ∃ a, (FloatKind.f64.format.order x 18442240474082181119 == some .gt || FloatKind.f64.format.order x 18442240474082181119 == some .eq) = a := ⟨_, rfl⟩
  rw [ha, hb, hc] at H
  generalize isFin (cls x) = q at *
  subst H
  cases a <;> cases b <;> cases c <;> (go_enter Try.func59, Try.ntmps59; go_wp2; go_ret; exact ⟨rfl, rfl⟩)
set_option maxHeartbeats 8000000 in
set_option maxRecDepth 100000 in
theorem rat_any (f t r u : Nat) (w : World) :
    Calls Try.prog 37 #[.float .f64 f, .float .f64 t, .float .f64 r, .float .f64 u] w fun e w' => ∃ z, e = .returned (.float .f64 z) ∧ cls z = atc (cls f) (cls t) (cls r) (cls u) ∧ Drawn w w' := by
  obtain ⟨FM, GM, hm, cm⟩ := veil (op := .mul) (Or.inr (Or.inr (Or.inl rfl))) 86
  obtain ⟨FS, GS, hs, cs⟩ := veil (op := .sub) (Or.inr (Or.inl rfl)) 86
  obtain ⟨FA, GA, ha, ca⟩ := veil (op := .add) (Or.inl rfl) 86
  have Kf := rfin_any f
  have Kt := rfin_any t
  have Kr := rfin_any r
  have Ku := rfin_any u
  have H1 : ∀ w1 w2, (FloatKind.f64.format.order (FM r u w1) (FS t f w2) == some .gt || FloatKind.f64.format.order (FM r u w1) (FS t f w2) == some .eq) = gec (op2 .mul (cls r) (cls u)) (op2 .sub (cls t) (cls f)) := fun w1 w2 => by
    have e := order_cls (FM r u w1) (FS t f w2)
    rw [cm, cs] at e
    rw [show FloatKind.f64.format.order (FM r u w1) (FS t f w2) = _ from e]
    rfl
  have H5 : ∀ w1 w2, (FloatKind.f64.format.order (FM r u w1) (FS f t w2) == some .gt || FloatKind.f64.format.order (FM r u w1) (FS f t w2) == some .eq) = gec (op2 .mul (cls r) (cls u)) (op2 .sub (cls f) (cls t)) := fun w1 w2 => by
    have e := order_cls (FM r u w1) (FS f t w2)
    rw [cm, cs] at e
    rw [show FloatKind.f64.format.order (FM r u w1) (FS f t w2) = _ from e]
    rfl
  have H2 : (FloatKind.f64.format.order t f == some .gt) = gtc (cls t) (cls f) := by rw [show FloatKind.f64.format.order t f = _ from order_cls t f]; rfl
  have H3 : (FloatKind.f64.format.order r 0 == some .lt) = ltc (cls r) (some 0) := by rw [order_z]; rfl
  have H4 : (FloatKind.f64.format.order u 0 == some .lt) = ltc (cls u) (some 0) := by rw [order_z]; rfl
  obtain ⟨T, hT⟩ : ∃ T, atr (cls f) (cls t) (cls r) (cls u) = T := ⟨_, rfl⟩
  have hT' := hT
  rw [atr_atc] at hT
  unfold atr badr at hT'
  replace hT := Lib.hid hT
  generalize isFin (cls f) = f1 at *
  generalize isFin (cls t) = f2 at *
  generalize isFin (cls r) = f3 at *
  generalize isFin (cls u) = f4 at *
  generalize gec (op2 .mul (cls r) (cls u)) (op2 .sub (cls t) (cls f)) = b1 at *
  generalize gec (op2 .mul (cls r) (cls u)) (op2 .sub (cls f) (cls t)) = b5 at *
  generalize gtc (cls t) (cls f) = b2 at *
  generalize ltc (cls r) (some 0) = b3 at *
  generalize ltc (cls u) (some 0) = b4 at *
  replace cm := Lib.hid cm
  replace cs := Lib.hid cs
  replace ca := Lib.hid ca
  replace hT' := Lib.hid hT'
  cases f1 with
  | false =>
    clear H1 H2 H3 H4 H5 hm hs ha
    go_enter Try.func37, Try.ntmps37
    go_wp2_with (first
      | (go_at_call 59; (with_reducible refine (Kf _).mono ?_); rintro e w1 ⟨rfl, rfl⟩)
      | (go_at_call 42; (with_reducible refine (nan_lit _).mono ?_); rintro e w1 ⟨rfl, rfl⟩))
    go_ret
    exact ⟨_, rfl, by rw [cls_nan, hT.out, ← hT'.out]; rfl, Drawn.refl _⟩
  | true =>
    cases f2 with
    | false =>
      clear H1 H2 H3 H4 H5 hm hs ha
      go_enter Try.func37, Try.ntmps37
      go_wp2_with (first
        | (go_at_call 59; (with_reducible refine (Kf _).mono ?_); rintro e w1 ⟨rfl, rfl⟩)
        | (go_at_call 59; (with_reducible refine (Kt _).mono ?_); rintro e w1 ⟨rfl, rfl⟩)
        | (go_at_call 42; (with_reducible refine (nan_lit _).mono ?_); rintro e w1 ⟨rfl, rfl⟩))
      go_ret
      exact ⟨_, rfl, by rw [cls_nan, hT.out, ← hT'.out]; rfl, Drawn.refl _⟩
    | true =>
      cases f3 with
      | false =>
        clear H1 H2 H3 H4 H5 hm hs ha
        go_enter Try.func37, Try.ntmps37
        go_wp2_with (first
          | (go_at_call 59; (with_reducible refine (Kf _).mono ?_); rintro e w1 ⟨rfl, rfl⟩)
          | (go_at_call 59; (with_reducible refine (Kt _).mono ?_); rintro e w1 ⟨rfl, rfl⟩)
          | (go_at_call 59; (with_reducible refine (Kr _).mono ?_); rintro e w1 ⟨rfl, rfl⟩)
          | (go_at_call 42; (with_reducible refine (nan_lit _).mono ?_); rintro e w1 ⟨rfl, rfl⟩))
        go_ret
        exact ⟨_, rfl, by rw [cls_nan, hT.out, ← hT'.out]; rfl, Drawn.refl _⟩
      | true =>
        cases f4 with
        | false =>
          clear H1 H2 H3 H4 H5 hm hs ha
          go_enter Try.func37, Try.ntmps37
          go_wp2_with (first
            | (go_at_call 59; (with_reducible refine (Kf _).mono ?_); rintro e w1 ⟨rfl, rfl⟩)
            | (go_at_call 59; (with_reducible refine (Kt _).mono ?_); rintro e w1 ⟨rfl, rfl⟩)
            | (go_at_call 59; (with_reducible refine (Kr _).mono ?_); rintro e w1 ⟨rfl, rfl⟩)
            | (go_at_call 59; (with_reducible refine (Ku _).mono ?_); rintro e w1 ⟨rfl, rfl⟩)
            | (go_at_call 42; (with_reducible refine (nan_lit _).mono ?_); rintro e w1 ⟨rfl, rfl⟩))
          go_ret
          exact ⟨_, rfl, by rw [cls_nan, hT.out, ← hT'.out]; rfl, Drawn.refl _⟩
        | true =>
          cases b3 with
          | true =>
            clear H1 H2 H5 hm hs ha
            go_enter Try.func37, Try.ntmps37
            go_wp2_with (first
              | (go_at_call 59; (with_reducible refine (Kf _).mono ?_); rintro e w1 ⟨rfl, rfl⟩)
              | (go_at_call 59; (with_reducible refine (Kt _).mono ?_); rintro e w1 ⟨rfl, rfl⟩)
              | (go_at_call 59; (with_reducible refine (Kr _).mono ?_); rintro e w1 ⟨rfl, rfl⟩)
              | (go_at_call 59; (with_reducible refine (Ku _).mono ?_); rintro e w1 ⟨rfl, rfl⟩)
              | (go_at_call 42; (with_reducible refine (nan_lit _).mono ?_); rintro e w1 ⟨rfl, rfl⟩))
            go_ret
            exact ⟨_, rfl, by rw [cls_nan, hT.out, ← hT'.out]; rfl, Drawn.refl _⟩
          | false =>
            cases b4 with
            | true =>
              clear H1 H2 H5 hm hs ha
              go_enter Try.func37, Try.ntmps37
              go_wp2_with (first
                | (go_at_call 59; (with_reducible refine (Kf _).mono ?_); rintro e w1 ⟨rfl, rfl⟩)
                | (go_at_call 59; (with_reducible refine (Kt _).mono ?_); rintro e w1 ⟨rfl, rfl⟩)
                | (go_at_call 59; (with_reducible refine (Kr _).mono ?_); rintro e w1 ⟨rfl, rfl⟩)
                | (go_at_call 59; (with_reducible refine (Ku _).mono ?_); rintro e w1 ⟨rfl, rfl⟩)
                | (go_at_call 42; (with_reducible refine (nan_lit _).mono ?_); rintro e w1 ⟨rfl, rfl⟩))
              go_ret
              exact ⟨_, rfl, by rw [cls_nan, hT.out, ← hT'.out]; rfl, Drawn.refl _⟩
            | false =>
              cases b2 with
              | true =>
                cases b1 with
                | true =>
                  go_enter Try.func37, Try.ntmps37
                  go_wp2_with (first
                    | (go_at_call 59; (with_reducible refine (Kf _).mono ?_); rintro e w1 ⟨rfl, rfl⟩)
                    | (go_at_call 59; (with_reducible refine (Kt _).mono ?_); rintro e w1 ⟨rfl, rfl⟩)
                    | (go_at_call 59; (with_reducible refine (Kr _).mono ?_); rintro e w1 ⟨rfl, rfl⟩)
                    | (go_at_call 59; (with_reducible refine (Ku _).mono ?_); rintro e w1 ⟨rfl, rfl⟩))
                  go_ret
                  exact ⟨_, rfl, by rw [hT.out, ← hT'.out]; rfl, by first | exact drawn_N _ | exact (drawn_N _).drewN _ | exact ((drawn_N _).drewN _).drewN _⟩
                | false =>
                  go_enter Try.func37, Try.ntmps37
                  go_wp2_with (first
                    | (go_at_call 59; (with_reducible refine (Kf _).mono ?_); rintro e w1 ⟨rfl, rfl⟩)
                    | (go_at_call 59; (with_reducible refine (Kt _).mono ?_); rintro e w1 ⟨rfl, rfl⟩)
                    | (go_at_call 59; (with_reducible refine (Kr _).mono ?_); rintro e w1 ⟨rfl, rfl⟩)
                    | (go_at_call 59; (with_reducible refine (Ku _).mono ?_); rintro e w1 ⟨rfl, rfl⟩))
                  go_ret
                  exact ⟨_, rfl, by rw [hT.out, ← hT'.out, ca.out, cm.out]; rfl, by first | exact drawn_N _ | exact (drawn_N _).drewN _ | exact ((drawn_N _).drewN _).drewN _⟩
              | false =>
                cases b5 with
                | true =>
                  go_enter Try.func37, Try.ntmps37
                  go_wp2_with (first
                    | (go_at_call 59; (with_reducible refine (Kf _).mono ?_); rintro e w1 ⟨rfl, rfl⟩)
                    | (go_at_call 59; (with_reducible refine (Kt _).mono ?_); rintro e w1 ⟨rfl, rfl⟩)
                    | (go_at_call 59; (with_reducible refine (Kr _).mono ?_); rintro e w1 ⟨rfl, rfl⟩)
                    | (go_at_call 59; (with_reducible refine (Ku _).mono ?_); rintro e w1 ⟨rfl, rfl⟩))
                  go_ret
                  exact ⟨_, rfl, by rw [hT.out, ← hT'.out]; rfl, by first | exact drawn_N _ | exact (drawn_N _).drewN _ | exact ((drawn_N _).drewN _).drewN _⟩
                | false =>
                  go_enter Try.func37, Try.ntmps37
                  go_wp2_with (first
                    | (go_at_call 59; (with_reducible refine (Kf _).mono ?_); rintro e w1 ⟨rfl, rfl⟩)
                    | (go_at_call 59; (with_reducible refine (Kt _).mono ?_); rintro e w1 ⟨rfl, rfl⟩)
                    | (go_at_call 59; (with_reducible refine (Kr _).mono ?_); rintro e w1 ⟨rfl, rfl⟩)
                    | (go_at_call 59; (with_reducible refine (Ku _).mono ?_); rintro e w1 ⟨rfl, rfl⟩))
                  go_ret
                  exact ⟨_, rfl, by rw [hT.out, ← hT'.out, cs.out, cm.out]; rfl, by first | exact drawn_N _ | exact (drawn_N _).drewN _ | exact ((drawn_N _).drewN _).drewN _⟩
set_option maxHeartbeats 8000000 in
set_option maxRecDepth 100000 in
theorem rsettle_any (f t r : Nat) (w : World) :
    Calls Try.prog 39 #[.float .f64 f, .float .f64 t, .float .f64 r] w fun e w' => ∃ z, e = .returned (.float .f64 z) ∧ cls z = stc (cls f) (cls t) (cls r) ∧ Drawn w w' := by
  obtain ⟨FS, GS, hs, cs⟩ := veil (op := .sub) (Or.inr (Or.inl rfl)) 86
  obtain ⟨FQ, GQ, hq, cq⟩ := veil (op := .quo) (Or.inr (Or.inr (Or.inr rfl))) 86
  have Kf := rfin_any f
  have Kt := rfin_any t
  have Kr := rfin_any r
  have H1 : (FloatKind.f64.format.order t f == some .gt) = gtc (cls t) (cls f) := by rw [show FloatKind.f64.format.order t f = _ from order_cls t f]; rfl
  have H2 : (FloatKind.f64.format.order f t == some .eq) = eqc (cls f) (cls t) := by rw [show FloatKind.f64.format.order f t = _ from order_cls f t]; rfl
  have H3 : (FloatKind.f64.format.order r 0 == some .lt) = ltc (cls r) (some 0) := by rw [order_z]; rfl
  have H4 : (FloatKind.f64.format.order r 0 == some .eq) = eqc (cls r) (some 0) := by rw [order_z]; rfl
  obtain ⟨T, hT⟩ : ∃ T, rst (cls f) (cls t) (cls r) = T := ⟨_, rfl⟩
  have hT' := hT
  rw [rst_stc] at hT
  unfold rst at hT'
  replace hT := Lib.hid hT
  generalize isFin (cls f) = f1 at *
  generalize isFin (cls t) = f2 at *
  generalize isFin (cls r) = f3 at *
  generalize gtc (cls t) (cls f) = b1 at *
  generalize eqc (cls f) (cls t) = b2 at *
  generalize ltc (cls r) (some 0) = b3 at *
  generalize eqc (cls r) (some 0) = b4 at *
  replace cs := Lib.hid cs
  replace cq := Lib.hid cq
  replace hT' := Lib.hid hT'
  cases f1 with
  | false =>
    clear H1 H2 H3 H4 hs hq
    go_enter Try.func39, Try.ntmps39
    go_wp2_with (first
      | (go_at_call 59; (with_reducible refine (Kf _).mono ?_); rintro e w1 ⟨rfl, rfl⟩)
      | (go_at_call 42; (with_reducible refine (nan_lit _).mono ?_); rintro e w1 ⟨rfl, rfl⟩))
    go_ret
    exact ⟨_, rfl, by rw [cls_nan, hT.out, ← hT'.out]; rfl, Drawn.refl _⟩
  | true =>
    cases f2 with
    | false =>
      clear H1 H2 H3 H4 hs hq
      go_enter Try.func39, Try.ntmps39
      go_wp2_with (first
        | (go_at_call 59; (with_reducible refine (Kf _).mono ?_); rintro e w1 ⟨rfl, rfl⟩)
        | (go_at_call 59; (with_reducible refine (Kt _).mono ?_); rintro e w1 ⟨rfl, rfl⟩)
        | (go_at_call 42; (with_reducible refine (nan_lit _).mono ?_); rintro e w1 ⟨rfl, rfl⟩))
      go_ret
      exact ⟨_, rfl, by rw [cls_nan, hT.out, ← hT'.out]; rfl, Drawn.refl _⟩
    | true =>
      cases f3 with
      | false =>
        clear H1 H2 H3 H4 hs hq
        go_enter Try.func39, Try.ntmps39
        go_wp2_with (first
          | (go_at_call 59; (with_reducible refine (Kf _).mono ?_); rintro e w1 ⟨rfl, rfl⟩)
          | (go_at_call 59; (with_reducible refine (Kt _).mono ?_); rintro e w1 ⟨rfl, rfl⟩)
          | (go_at_call 59; (with_reducible refine (Kr _).mono ?_); rintro e w1 ⟨rfl, rfl⟩)
          | (go_at_call 42; (with_reducible refine (nan_lit _).mono ?_); rintro e w1 ⟨rfl, rfl⟩))
        go_ret
        exact ⟨_, rfl, by rw [cls_nan, hT.out, ← hT'.out]; rfl, Drawn.refl _⟩
      | true =>
        cases b3 with
        | true =>
          clear H1 H2 H4 hs hq
          go_enter Try.func39, Try.ntmps39
          go_wp2_with (first
            | (go_at_call 59; (with_reducible refine (Kf _).mono ?_); rintro e w1 ⟨rfl, rfl⟩)
            | (go_at_call 59; (with_reducible refine (Kt _).mono ?_); rintro e w1 ⟨rfl, rfl⟩)
            | (go_at_call 59; (with_reducible refine (Kr _).mono ?_); rintro e w1 ⟨rfl, rfl⟩)
            | (go_at_call 42; (with_reducible refine (nan_lit _).mono ?_); rintro e w1 ⟨rfl, rfl⟩))
          go_ret
          exact ⟨_, rfl, by rw [cls_nan, hT.out, ← hT'.out]; rfl, Drawn.refl _⟩
        | false =>
          cases b1 with
          | true =>
            cases b2 with
            | true =>
              go_enter Try.func39, Try.ntmps39
              go_wp2_with (first
                | (go_at_call 59; (with_reducible refine (Kf _).mono ?_); rintro e w1 ⟨rfl, rfl⟩)
                | (go_at_call 59; (with_reducible refine (Kt _).mono ?_); rintro e w1 ⟨rfl, rfl⟩)
                | (go_at_call 59; (with_reducible refine (Kr _).mono ?_); rintro e w1 ⟨rfl, rfl⟩))
              go_ret
              exact ⟨_, rfl, by rw [cls_zero, hT.out, ← hT'.out]; rfl, by first | exact Drawn.refl _ | exact drawn_N _ | exact (drawn_N _).drewN _ | exact ((drawn_N _).drewN _).drewN _⟩
            | false =>
              cases b4 with
              | true =>
                go_enter Try.func39, Try.ntmps39
                go_wp2_with (first
                  | (go_at_call 59; (with_reducible refine (Kf _).mono ?_); rintro e w1 ⟨rfl, rfl⟩)
                  | (go_at_call 59; (with_reducible refine (Kt _).mono ?_); rintro e w1 ⟨rfl, rfl⟩)
                  | (go_at_call 59; (with_reducible refine (Kr _).mono ?_); rintro e w1 ⟨rfl, rfl⟩)
                  | (go_at_call 60; (with_reducible refine (inf_lit _).mono ?_); rintro e w1 ⟨rfl, rfl⟩))
                go_ret
                exact ⟨_, rfl, by rw [cls_inf, hT.out, ← hT'.out]; rfl, by first | exact Drawn.refl _ | exact drawn_N _ | exact (drawn_N _).drewN _ | exact ((drawn_N _).drewN _).drewN _⟩
              | false =>
                go_enter Try.func39, Try.ntmps39
                go_wp2_with (first
                  | (go_at_call 59; (with_reducible refine (Kf _).mono ?_); rintro e w1 ⟨rfl, rfl⟩)
                  | (go_at_call 59; (with_reducible refine (Kt _).mono ?_); rintro e w1 ⟨rfl, rfl⟩)
                  | (go_at_call 59; (with_reducible refine (Kr _).mono ?_); rintro e w1 ⟨rfl, rfl⟩))
                go_ret
                exact ⟨_, rfl, by rw [hT.out, ← hT'.out, cq.out, cs.out]; rfl, by first | exact Drawn.refl _ | exact drawn_N _ | exact (drawn_N _).drewN _ | exact ((drawn_N _).drewN _).drewN _⟩
          | false =>
            cases b2 with
            | true =>
              go_enter Try.func39, Try.ntmps39
              go_wp2_with (first
                | (go_at_call 59; (with_reducible refine (Kf _).mono ?_); rintro e w1 ⟨rfl, rfl⟩)
                | (go_at_call 59; (with_reducible refine (Kt _).mono ?_); rintro e w1 ⟨rfl, rfl⟩)
                | (go_at_call 59; (with_reducible refine (Kr _).mono ?_); rintro e w1 ⟨rfl, rfl⟩))
              go_ret
              exact ⟨_, rfl, by rw [cls_zero, hT.out, ← hT'.out]; rfl, by first | exact Drawn.refl _ | exact drawn_N _ | exact (drawn_N _).drewN _ | exact ((drawn_N _).drewN _).drewN _⟩
            | false =>
              cases b4 with
              | true =>
                go_enter Try.func39, Try.ntmps39
                go_wp2_with (first
                  | (go_at_call 59; (with_reducible refine (Kf _).mono ?_); rintro e w1 ⟨rfl, rfl⟩)
                  | (go_at_call 59; (with_reducible refine (Kt _).mono ?_); rintro e w1 ⟨rfl, rfl⟩)
                  | (go_at_call 59; (with_reducible refine (Kr _).mono ?_); rintro e w1 ⟨rfl, rfl⟩)
                  | (go_at_call 60; (with_reducible refine (inf_lit _).mono ?_); rintro e w1 ⟨rfl, rfl⟩))
                go_ret
                exact ⟨_, rfl, by rw [cls_inf, hT.out, ← hT'.out]; rfl, by first | exact Drawn.refl _ | exact drawn_N _ | exact (drawn_N _).drewN _ | exact ((drawn_N _).drewN _).drewN _⟩
              | false =>
                go_enter Try.func39, Try.ntmps39
                go_wp2_with (first
                  | (go_at_call 59; (with_reducible refine (Kf _).mono ?_); rintro e w1 ⟨rfl, rfl⟩)
                  | (go_at_call 59; (with_reducible refine (Kt _).mono ?_); rintro e w1 ⟨rfl, rfl⟩)
                  | (go_at_call 59; (with_reducible refine (Kr _).mono ?_); rintro e w1 ⟨rfl, rfl⟩))
                go_ret
                exact ⟨_, rfl, by rw [hT.out, ← hT'.out, cq.out, cs.out]; rfl, by first | exact Drawn.refl _ | exact drawn_N _ | exact (drawn_N _).drewN _ | exact ((drawn_N _).drewN _).drewN _⟩
set_option maxHeartbeats 2000000 in
/-- two floats of one class -/
theorem sameFloat_any (x y : Nat) (h : cls x = cls y) (w : World) : Calls Try.prog 35 #[.float .f64 x, .float .f64 y] w fun e w' => e = .returned (.bool true) ∧ w' = w := by
  have n1 : (FloatKind.f64.format.order x x != some .eq) = (cls x).isNone := nan_test x
  have n2 : (FloatKind.f64.format.order y y != some .eq) = (cls y).isNone := nan_test y
  have b1 := bits_run x
  cases hx : cls x with
  | none =>
    rw [← h] at n2
    rw [hx] at n1 n2
    simp only [Option.isNone_none] at n1 n2
    clear h hx
    go_enter Try.func35, Try.ntmps35
    go_wp2
    go_ret
    exact ⟨rfl, rfl⟩
  | some a =>
    rw [hx] at h
    obtain ⟨rfl, _⟩ := cls_some hx
    obtain ⟨rfl, _⟩ := cls_some h.symm
    rw [hx] at n1
    simp only [Option.isNone_some] at n1
    clear n2 h hx
    go_enter Try.func35, Try.ntmps35
    go_wp2
    go_ret
    exact ⟨rfl, rfl⟩
end Go.Proofs.Ytbbjnhajmckjoaa
