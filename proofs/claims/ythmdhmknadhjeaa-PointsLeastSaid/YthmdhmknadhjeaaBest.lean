/- Points: Best, walked. -/
import Derived.Test.YthmdhmknadhjeaaPlf
namespace Go.Proofs.Ythmdhmknadhjeaa
open Go.RowKit Go.BigFrame flt Ieee

theorem cls_nan : cls 9221120237041090561 = none := by
  have e : 9221120237041090561 = false.toNat * 2 ^ 63 + 0x7ff0000000000000 + 1 + 2251799813685248 := by decide
  rw [e]
  exact cls_nanword false _ (by decide)
theorem bst_gt {l : List Pt} {W T F K : Option Nat} {k : Nat} (hk : k < l.length) (h : gt (op2 .quo W (fi l[k].1)) T = true) : bst l W T F K (k + 1) = bst l W T F K k := by
  simp only [bst, List.getD, List.getElem?_eq_getElem hk, Option.getD_some]
  rw [if_pos h]
theorem bst_le {l : List Pt} {W T F K : Option Nat} {k : Nat} (hk : k < l.length) (h : gt (op2 .quo W (fi l[k].1)) T = false) : bst l W T F K (k + 1) =
    if (decide ((bst l W T F K k).1 < 0) || lt (op2 .mul (pw l[k].1 l[k].2 F K) (op2 .quo W (fi l[k].1))) (bst l W T F K k).2 || ((bst l W T F K k).2.isNone && !(op2 .mul (pw l[k].1 l[k].2 F K) (op2 .quo W (fi l[k].1))).isNone)) = true
    then ((k : Int), op2 .mul (pw l[k].1 l[k].2 F K) (op2 .quo W (fi l[k].1))) else bst l W T F K k := by
  simp only [bst, List.getD, List.getElem?_eq_getElem hk, Option.getD_some]
  rw [if_neg (by rw [h]; decide)]
set_option maxHeartbeats 1000000 in
theorem nanf_any (w : World) : Calls Try.prog 32 #[] w fun e w' => e = .returned (.float .f64 9221120237041090561) ∧ w' = w := by
  have h1 := fun w : World => (show (callFunc 57 #[.int .u64 9221120237041090561]).run Try.prog w = .ok (.value (.float .f64 9221120237041090561)) w by kernel_rfl)
  go_enter Try.func32, Try.ntmps32
  go_wp2
  go_ret
  exact ⟨rfl, rfl⟩
theorem plain4 (a b c d : Nat) (g : Nat) (W : World) (h : W.heap[g]? = some (.cells #[.float .f64 a, .float .f64 b, .float .f64 c, .float .f64 d] 62)) :
    Calls Try.prog 58 #[.slice (some ⟨g, 0, none⟩) 4 4] W fun e w' => e = .returned (.bool (pl (cls a) && pl (cls b) && pl (cls c) && pl (cls d))) ∧ w' = W := by
  have K := plain_any g [a, b, c, d] W (by simp) (fun i hi => by
    match i, hi with
    | 0, _ => exact cell_of_row _ _ 0 _ 62 (0, 0) h
    | 1, _ => exact cell_of_row _ _ 1 _ 62 (0, 0) h
    | 2, _ => exact cell_of_row _ _ 2 _ 62 (0, 0) h
    | 3, _ => exact cell_of_row _ _ 3 _ 62 (0, 0) h)
  have e : ([a, b, c, d].all fun x => pl (cls x)) = (pl (cls a) && pl (cls b) && pl (cls c) && pl (cls d)) := by simp only [List.all_cons, List.all_nil, Bool.and_true, Bool.and_assoc]
  rw [e] at K
  exact K
theorem retR {R : Int × Int} {a b : Int} (h : R = (a, b)) : Ending.returned (.tuple #[.int .i64 a, .int .i64 b]) = .returned (.tuple #[.int .i64 R.1, .int .i64 R.2]) := by rw [h]
/-- what Best tells -/
def bestR (l : List Pt) (W T F K : Option Nat) : Int × Int :=
  if tab l = false then (0, 280) else if (pl W && pl T && pl F && pl K) = false then (0, 1)
  else if (bst l W T F K l.length).1 < 0 then (0, 6) else ((bst l W T F K l.length).1, 0)
set_option maxHeartbeats 4000000 in
theorem best_any (l : List Pt) (A : Option Addr) (c : Nat) (wk tm fa lk : Nat) (w : World) (h : Pts w A l) :
    Calls Try.prog 34 #[.slice A l.length c, .float .f64 wk, .float .f64 tm, .float .f64 fa, .float .f64 lk] w fun e w' =>
      e = .returned (.tuple #[.int .i64 (bestR l (cls wk) (cls tm) (cls fa) (cls lk)).1, .int .i64 (bestR l (cls wk) (cls tm) (cls fa) (cls lk)).2]) ∧ Below w.heap.size w w' := by
  have hlen := h.le
  have B := bad_any l A c w h
  unfold bestR
  rcases check_two l with ht | ht
  · have e1 : tab l = false := by unfold tab; rw [ht]; rfl
    rw [if_pos e1]
    rw [ht] at B
    clear h ht
    go_enter Try.func34, Try.ntmps34
    go_wp2_with (go_at_call 41; (with_reducible refine B.mono ?_); rintro e w1 ⟨rfl, hb⟩)
    go_ret2
    exact ⟨rfl, hb⟩
  · have e1 : ¬ tab l = false := by unfold tab; rw [ht]; decide
    rw [if_neg e1]
    rw [ht] at B
    have Pn := plain4 wk tm fa lk
    have N := nanf_any
    clear ht e1
    cases hp : (pl (cls wk) && pl (cls tm) && pl (cls fa) && pl (cls lk))
    · rw [if_pos rfl]
      rw [hp] at Pn
      clear hp
      go_enter Try.func34, Try.ntmps34
      go_wp2_with (first
        | (go_at_call 41; (with_reducible refine B.mono ?_); rintro e w1 ⟨rfl, hb⟩)
        | (go_at_call 58; (with_reducible refine (Pn _ _ (heap_alloc_at _ _)).mono ?_); rintro e w2 ⟨rfl, hw⟩; subst hw))
      go_ret2
      exact ⟨rfl, hb.alloc hb.size _⟩
    · rw [if_neg (by decide)]
      rw [hp] at Pn
      clear hp
      obtain ⟨FM, GM, hm, cm⟩ := veil (op := .mul) (Or.inr (Or.inr (Or.inl rfl))) 62
      obtain ⟨FQ, GQ, hq, cq⟩ := veil (op := .quo) (Or.inr (Or.inr (Or.inr rfl))) 62
      replace cm := Lib.hid cm
      replace cq := Lib.hid cq
      have cn := Lib.hid cls_nan
      generalize hR : (if (bst l (cls wk) (cls tm) (cls fa) (cls lk) l.length).1 < 0 then ((0 : Int), (6 : Int)) else ((bst l (cls wk) (cls tm) (cls fa) (cls lk) l.length).1, 0)) = R
      replace hR := Lib.hid hR
      go_enter Try.func34, Try.ntmps34
      go_wp2_with (first
        | (go_at_call 41; (with_reducible refine B.mono ?_); rintro e w1 ⟨rfl, hb⟩)
        | (go_at_call 58; (with_reducible refine (Pn _ _ (heap_alloc_at _ _)).mono ?_); rintro e w2 ⟨rfl, hw⟩; subst hw)
        | (go_at_call 32; (with_reducible refine (N _).mono ?_); rintro e w3 ⟨rfl, hw⟩; subst hw))
      have hA := hb.alloc hb.size (.cells #[.float .f64 wk, .float .f64 tm, .float .f64 fa, .float .f64 lk] 62)
      clear hb B Pn N
      go_loopw [13, 14, 34] (fun b z i wr => ∃ (k y : Nat), k ≤ l.length ∧ i = .int .i64 k ∧ b = .int .i64 (bst l (cls wk) (cls tm) (cls fa) (cls lk) k).1 ∧ z = .float .f64 y ∧ cls y = (bst l (cls wk) (cls tm) (cls fa) (cls lk) k).2 ∧ Below w.heap.size w wr) (fun _ _ i _ => l.length - (intOf i).toNat)
      case atStart => exact ⟨0, _, by omega, rfl, rfl, rfl, cn.out, hA⟩
      case round =>
        clear hA
        obtain ⟨k, y, hk, rfl, rfl, rfl, hy, hd⟩ := hrel
        have hp := h.below hd
        by_cases hkl : k = l.length
        · subst hkl
          clear hp hm hq
          generalize bst l (cls wk) (cls tm) (cls fa) (cls lk) l.length = s at *
          by_cases hneg : s.1 < 0
          · have e0 : Hid (R = (0, 6)) := Lib.hid (by rw [← hR.out, if_pos hneg])
            go_wp2
            go_ret2
            exact ⟨retR e0.out, hd⟩
          · have e0 : Hid (R = (s.1, 0)) := Lib.hid (by rw [← hR.out, if_neg hneg])
            go_wp2
            go_ret2
            exact ⟨retR e0.out, hd⟩
        have hlt : k < l.length := by omega
        obtain ⟨b, o, rfl, hbl, c0, c1⟩ := Pts.at_ hp hlt
        have sg := bst_gt (W := cls wk) (T := cls tm) (F := cls fa) (K := cls lk) hlt
        have sl := bst_le (W := cls wk) (T := cls tm) (F := cls fa) (K := cls lk) hlt
        generalize l[k].1 = x at *
        generalize l[k].2 = v at *
        generalize hs1 : bst l (cls wk) (cls tm) (cls fa) (cls lk) (k + 1) = s1 at *
        replace hs1 := Lib.hid hs1
        generalize bst l (cls wk) (cls tm) (cls fa) (cls lk) k = s at *
        have ht : ∀ W, cls (FQ wk (floatOfInt .f64 x) W) = op2 .quo (cls wk) (fi x) := fun W => by rw [cq.out, cls_fi]
        have hgt : ∀ W, (FloatKind.f64.format.order (FQ wk (floatOfInt .f64 x) W) tm == some .gt) = gt (op2 .quo (cls wk) (fi x)) (cls tm) := fun W => by rw [order_run, ht]; rfl
        generalize op2 .quo (cls wk) (fi x) = t at *
        have hp1 := hp
        clear hp
        replace hk := Lib.hid hk
        cases hg : gt t (cls tm)
        · have sl := Lib.hid (sl hg)
          rw [hg] at hgt
          clear sg hg
          have PA := pw_any x v fa lk
          generalize pw x v (cls fa) (cls lk) = PW at *
          generalize hXe : op2 .mul PW t = X at *
          replace hXe := Lib.hid hXe
          obtain ⟨bb, Z⟩ := s
          simp only at sl hy
          by_cases hneg : bb < 0
          · have s2 : Hid (s1 = ((k : Int), X)) := Lib.hid (by rw [sl.out, decide_eq_true hneg]; rfl)
            clear sl
            go_wp2_with (first
              | (go_at_call 37; (with_reducible refine (PA _).mono ?_); rintro e w5 ⟨r, rfl, hr, hb⟩; have hX : ∀ W W', cls (FM r (FQ wk (floatOfInt .f64 x) W) W') = X := (fun W W' => by (rw [cm.out, hr, ht]; exact hXe.out)); have hL : ∀ W W', (FloatKind.f64.format.order (FM r (FQ wk (floatOfInt .f64 x) W) W') y == some .lt) = lt X Z := (fun W W' => by (rw [order_run, hX, hy]; rfl)); (try rw [hl] at hL); have hdd := (hd.alloc hd.size (.cells #[.int .i64 x, .int .i64 v] 36)).trans ((below_drewN' (Below.refl _ _) _).trans (hb.mono (by (have := hd.size; rw [World.heap_drewN, size_al]; omega)))); replace hr := Lib.hid hr)
              | (go_at_call 56; (with_reducible refine (isNaN_any _ _).mono ?_); rintro e w6 ⟨rfl, hw⟩; subst hw; (try simp only [hX, hy, hzn, hxn])))
            go_roundw
            case rel => exact ⟨k + 1, _, by omega, by go_num, by rw [hs1.out, s2.out], rfl, by rw [hs1.out, s2.out]; exact hX _ _, below_drewN' hdd _⟩
            case measure => simp [intOf]; omega
          · have hd0 : decide (bb < 0) = false := decide_eq_false hneg
            cases hl : lt X Z
            · cases hzn : Z.isNone
              · have s2 : Hid (s1 = (bb, Z)) := Lib.hid (by rw [sl.out, hd0, hl, hzn]; rfl)
                clear sl hd0
                go_wp2_with (first
                  | (go_at_call 37; (with_reducible refine (PA _).mono ?_); rintro e w5 ⟨r, rfl, hr, hb⟩; have hX : ∀ W W', cls (FM r (FQ wk (floatOfInt .f64 x) W) W') = X := (fun W W' => by (rw [cm.out, hr, ht]; exact hXe.out)); have hL : ∀ W W', (FloatKind.f64.format.order (FM r (FQ wk (floatOfInt .f64 x) W) W') y == some .lt) = lt X Z := (fun W W' => by (rw [order_run, hX, hy]; rfl)); (try rw [hl] at hL); have hdd := (hd.alloc hd.size (.cells #[.int .i64 x, .int .i64 v] 36)).trans ((below_drewN' (Below.refl _ _) _).trans (hb.mono (by (have := hd.size; rw [World.heap_drewN, size_al]; omega)))); replace hr := Lib.hid hr)
                  | (go_at_call 56; (with_reducible refine (isNaN_any _ _).mono ?_); rintro e w6 ⟨rfl, hw⟩; subst hw; (try simp only [hX, hy, hzn, hxn])))
                go_roundw
                case rel => exact ⟨k + 1, y, by omega, by go_num, by rw [hs1.out, s2.out], rfl, by rw [hs1.out, s2.out]; exact hy, below_drewN' hdd _⟩
                case measure => simp [intOf]; omega
              · cases hxn : X.isNone
                · have s2 : Hid (s1 = ((k : Int), X)) := Lib.hid (by rw [sl.out, hd0, hl, hzn, hxn]; rfl)
                  clear sl hd0
                  go_wp2_with (first
                    | (go_at_call 37; (with_reducible refine (PA _).mono ?_); rintro e w5 ⟨r, rfl, hr, hb⟩; have hX : ∀ W W', cls (FM r (FQ wk (floatOfInt .f64 x) W) W') = X := (fun W W' => by (rw [cm.out, hr, ht]; exact hXe.out)); have hL : ∀ W W', (FloatKind.f64.format.order (FM r (FQ wk (floatOfInt .f64 x) W) W') y == some .lt) = lt X Z := (fun W W' => by (rw [order_run, hX, hy]; rfl)); (try rw [hl] at hL); have hdd := (hd.alloc hd.size (.cells #[.int .i64 x, .int .i64 v] 36)).trans ((below_drewN' (Below.refl _ _) _).trans (hb.mono (by (have := hd.size; rw [World.heap_drewN, size_al]; omega)))); replace hr := Lib.hid hr)
                    | (go_at_call 56; (with_reducible refine (isNaN_any _ _).mono ?_); rintro e w6 ⟨rfl, hw⟩; subst hw; (try simp only [hX, hy, hzn, hxn])))
                  go_roundw
                  case rel => exact ⟨k + 1, _, by omega, by go_num, by rw [hs1.out, s2.out], rfl, by rw [hs1.out, s2.out]; exact hX _ _, below_drewN' hdd _⟩
                  case measure => simp [intOf]; omega
                · have s2 : Hid (s1 = (bb, Z)) := Lib.hid (by rw [sl.out, hd0, hl, hzn, hxn]; rfl)
                  clear sl hd0
                  go_wp2_with (first
                    | (go_at_call 37; (with_reducible refine (PA _).mono ?_); rintro e w5 ⟨r, rfl, hr, hb⟩; have hX : ∀ W W', cls (FM r (FQ wk (floatOfInt .f64 x) W) W') = X := (fun W W' => by (rw [cm.out, hr, ht]; exact hXe.out)); have hL : ∀ W W', (FloatKind.f64.format.order (FM r (FQ wk (floatOfInt .f64 x) W) W') y == some .lt) = lt X Z := (fun W W' => by (rw [order_run, hX, hy]; rfl)); (try rw [hl] at hL); have hdd := (hd.alloc hd.size (.cells #[.int .i64 x, .int .i64 v] 36)).trans ((below_drewN' (Below.refl _ _) _).trans (hb.mono (by (have := hd.size; rw [World.heap_drewN, size_al]; omega)))); replace hr := Lib.hid hr)
                    | (go_at_call 56; (with_reducible refine (isNaN_any _ _).mono ?_); rintro e w6 ⟨rfl, hw⟩; subst hw; (try simp only [hX, hy, hzn, hxn])))
                  go_roundw
                  case rel => exact ⟨k + 1, y, by omega, by go_num, by rw [hs1.out, s2.out], rfl, by rw [hs1.out, s2.out]; exact hy, below_drewN' hdd _⟩
                  case measure => simp [intOf]; omega
            · have s2 : Hid (s1 = ((k : Int), X)) := Lib.hid (by rw [sl.out, hd0, hl]; rfl)
              clear sl hd0
              go_wp2_with (first
                | (go_at_call 37; (with_reducible refine (PA _).mono ?_); rintro e w5 ⟨r, rfl, hr, hb⟩; have hX : ∀ W W', cls (FM r (FQ wk (floatOfInt .f64 x) W) W') = X := (fun W W' => by (rw [cm.out, hr, ht]; exact hXe.out)); have hL : ∀ W W', (FloatKind.f64.format.order (FM r (FQ wk (floatOfInt .f64 x) W) W') y == some .lt) = lt X Z := (fun W W' => by (rw [order_run, hX, hy]; rfl)); (try rw [hl] at hL); have hdd := (hd.alloc hd.size (.cells #[.int .i64 x, .int .i64 v] 36)).trans ((below_drewN' (Below.refl _ _) _).trans (hb.mono (by (have := hd.size; rw [World.heap_drewN, size_al]; omega)))); replace hr := Lib.hid hr)
                | (go_at_call 56; (with_reducible refine (isNaN_any _ _).mono ?_); rintro e w6 ⟨rfl, hw⟩; subst hw; (try simp only [hX, hy, hzn, hxn])))
              go_roundw
              case rel => exact ⟨k + 1, _, by omega, by go_num, by rw [hs1.out, s2.out], rfl, by rw [hs1.out, s2.out]; exact hX _ _, below_drewN' hdd _⟩
              case measure => simp [intOf]; omega
        · have sg := Lib.hid (sg hg)
          rw [hg] at hgt
          clear sl hg
          go_wp2
          go_roundw
          case rel => exact ⟨k + 1, y, by omega, by go_num, by rw [hs1.out, sg.out], rfl, by rw [hs1.out, sg.out]; exact hy, below_drewN' (hd.alloc hd.size _) _⟩
          case measure => simp [intOf]; omega
end Go.Proofs.Ythmdhmknadhjeaa
