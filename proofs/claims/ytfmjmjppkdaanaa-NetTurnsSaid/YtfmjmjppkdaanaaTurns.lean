/- Net: NetTurns, walked. -/
import Derived.Test.YtfmjmjppkdaanaaRes
import Derived.Deep.CutBlock
import Derived.Deep.RegionHeld3
namespace Go.Proofs.Ytfmjmjppkdaanaa
open Go.RowKit Go.BigFrame flt Ieee

/-- 'x <= 0' -/
def le0 (a : Option Nat) : Bool := ord a (some 0) == some .lt || ord a (some 0) == some .eq
theorem rate_le (x : Nat) : isRate (cls x) = (isFin (cls x) && !le0 (cls x)) := by
  unfold isRate le0
  cases hx : cls x with
  | none => rfl
  | some a =>
    obtain ⟨rfl, hn⟩ := cls_some hx
    rw [ord_some hn nn_zero]
    cases isFin (some x)
    · rfl
    · cases compare (key x) (key 0) <;> rfl
theorem le_zero (x : Nat) : (FloatKind.f64.format.order x 0 == some .lt || FloatKind.f64.format.order x 0 == some .eq) = le0 (cls x) := by
  have e := order_cls x 0
  rw [cls_nn nn_zero] at e
  unfold le0
  rw [← e]
  rfl
set_option maxHeartbeats 4000000 in
set_option maxRecDepth 100000 in
theorem turns_walk (re im : Int) (w : World) :
    Calls Try.prog 3 #[.int .u64 re, .int .u64 im] w fun e w' => e = .returned (.bool true) ∧ Below w.heap.size w w' := by
  have f1 := from_run re
  have f2 := from_run im
  generalize re.toNat = a at *
  generalize im.toNat = b at *
  obtain ⟨FS, GS, hs, cs⟩ := veil (op := .sub) (Or.inr (Or.inl rfl)) 23
  have s1 : ∀ W, (FloatKind.f64.format.order (FS a a W) 0 == some .eq) = isFin (cls a) := fun W => by rw [eq_zero, cs, fin_test _ (cls_ok a)]
  have s2 : ∀ W, (FloatKind.f64.format.order (FS b b W) 0 == some .eq) = isFin (cls b) := fun W => by rw [eq_zero, cs, fin_test _ (cls_ok b)]
  have e1 := le_zero a
  have e2 := le_zero b
  have r1 := rate_le a
  have r2 := rate_le b
  go_enter Try.func3, Try.ntmps3
  go_upto_region 4 with (refine wpList_store_row rfl 26 _ _ rfl w.heap.size #[.float .f64 a, .float .f64 b] rfl rfl 26 _ (heap_alloc_at _ _) (by kernel_rfl) (by kernel_rfl) (by kernel_rfl) ?_)
  (try simp only [Act.put])
  (try rw [setRow_alloc _ _ _ _ _ rfl])
  generalize hw0 : w.alloc _ = w0
  have rb : w0.heap[w.heap.size]? = some (.cells #[.float .f64 a, .float .f64 b] 26) := by rw [← hw0]; exact heap_alloc_at _ _
  have g0 : Below w.heap.size w w0 := by rw [← hw0]; exact below_al (Below.refl _ _) _
  have z0 : w.heap.size ≤ w0.heap.size := g0.size
  clear hw0 f1 f2 cs
  generalize hn : w.heap.size = n at *
  replace hn := Lib.hid hn
  go_cut [8, 9] from 17 to 22 (fun r e wx => (((isRate (cls a) && isRate (cls b)) = false ∧ r = .float .f64 0 ∧ e = .int .i64 1) ∨ ((isRate (cls a) && isRate (cls b)) = true ∧ ∃ rr, r = .float .f64 rr ∧ cls rr = res (cls a) (cls b) ∧ e = .int .i64 0)) ∧ Drawn w0 wx)
  case first =>
    clear s1 s2 e1 e2 r1 r2
    cases hr : (isRate (cls a) && isRate (cls b))
    · have K := resonant_bad a b hr
      replace hr := Lib.hid hr
      go_wp2_with (go_at_call 11; (with_reducible refine (K _).mono ?_); rintro e w1 ⟨rfl, rfl⟩)
      go_meet
      case rel => exact ⟨Or.inl ⟨hr.out, rfl, rfl⟩, Drawn.refl _⟩
    · have hr2 := (Bool.and_eq_true _ _).mp hr
      have K := resonant_good a b hr2.1 hr2.2
      clear hr2
      replace hr := Lib.hid hr
      go_wp2_with (go_at_call 11; (with_reducible refine (K _).mono ?_); rintro e w1 ⟨r, rfl, hc, hd⟩; replace hc := Lib.hid hc)
      go_meet
      case rel => exact ⟨Or.inr ⟨hr.out, _, rfl, hc.out, rfl⟩, hd⟩
  obtain ⟨hr, g1⟩ := hcut
  obtain ⟨wX, rfl⟩ : ∃ x : World, x = wc := ⟨_, rfl⟩
  replace hr := Lib.hid hr
  have rX : wX.heap[n]? = _ := (by rw [g1.heap] : wX.heap[n]? = w0.heap[n]?).trans rb
  have gX := g1.after g0
  go_upto_region 5 with fail
  go_cut [42] from 23 to 41 (fun t wx => t = .bool (!(isRate (cls a) && isRate (cls b))) ∧ Drawn wX wx)
  case first =>
    clear hr rb g0 z0 g1 rX gX hn
    replace r1 := Lib.hid r1
    replace r2 := Lib.hid r2
    generalize isFin (cls a) = fa at *
    generalize isFin (cls b) = fb at *
    generalize le0 (cls a) = la at *
    generalize le0 (cls b) = lb at *
    generalize isRate (cls a) = ra at *
    generalize isRate (cls b) = rb at *
    cases fa
    · clear s2 e1 e2
      go_wp2
      go_meet
      case rel => exact ⟨by rw [r1.out, r2.out]; rfl, drawn_N _⟩
    · cases fb
      · clear e1 e2
        go_wp2
        go_meet
        case rel => exact ⟨by rw [r1.out, r2.out]; cases la <;> rfl, drawn_N _⟩
      · cases la
        · cases lb
          · go_wp2
            go_meet
            case rel => exact ⟨by rw [r1.out, r2.out]; rfl, drawn_N _⟩
          · go_wp2
            go_meet
            case rel => exact ⟨by rw [r1.out, r2.out]; rfl, drawn_N _⟩
        · clear e2
          go_wp2
          go_meet
          case rel => exact ⟨by rw [r1.out, r2.out]; rfl, drawn_N _⟩
  obtain ⟨rfl, dY⟩ := hcut
  obtain ⟨wY, rfl⟩ : ∃ x : World, x = wc := ⟨_, rfl⟩
  clear s1 s2 e1 e2 r1 r2 hs
  go_upto_if 42 with fail
  go_cut [8] from 43 to 61 (fun _ wx => Drawn wY wx)
  case first =>
    clear rb g0 z0 g1 rX gX hn dY
    have b0 : ∀ w, (callFunc 12 #[.float .f64 0]).run Try.prog w = .ok (.value (.int .u64 0)) w := fun w => bits_run 0 w
    generalize (isRate (cls a) && isRate (cls b)) = R at *
    rcases hr.out with ⟨rfl, rfl, rfl⟩ | ⟨rfl, rr, rfl, hc, rfl⟩
    · clear hr
      go_wp2
      go_meet
      case rel => exact Drawn.refl _
    · clear hr
      obtain ⟨FM, GM, hm, cm⟩ := veil (op := .mul) (Or.inr (Or.inr (Or.inl rfl))) 23
      obtain ⟨FQ, GQ, hq, cq⟩ := veil (op := .quo) (Or.inr (Or.inr (Or.inr rfl))) 23
      obtain ⟨FR, GR, cr, hr⟩ := sqrt_any
      have hsame : Hid (∀ W W' W'', cls rr = cls (FQ 4607182418800017408 (FR (FM a b W) W') W'')) := Lib.hid (fun W W' W'' => by rw [hc, cq, cr, cm, cls_one]; rfl)
      clear hc cq cr cm
      go_wp2_with (first | (go_at_call 14; (with_reducible refine (hr _ _).mono ?_); rintro e w3 ⟨rfl, hw3⟩; subst hw3) | (go_at_call 13; (with_reducible refine (same_any rr _ (hsame.out _ _ _) _).mono ?_); rintro e w4 ⟨rfl, hw4⟩; subst hw4))
      go_meet
      case rel => exact drawn_N _
  obtain ⟨wZ, rfl⟩ : ∃ x : World, x = wc := ⟨_, rfl⟩
  have rZ : wZ.heap[n]? = _ := (by rw [hcut.heap, dY.heap] : wZ.heap[n]? = wX.heap[n]?).trans rX
  have gZ := hcut.after (dY.after gX)
  have lZ := heap_lt rZ
  have T1 := turn_any a b
  have T2 := rturn_any a b
  have S1 := size_any a b
  have S2 := rsize_any a b
  clear hr rb g0 z0 g1 rX gX dY hcut
  have hX : ∀ W : World, W.heap[n]? = some (.cells #[.float .f64 a, .float .f64 b] 26) → W.cell? ⟨n, 0, none⟩ = some (.float .f64 a) ∧ W.cell? ⟨n, 1, none⟩ = some (.float .f64 b) := fun W h => ⟨cell_of_row _ _ 0 _ 26 (0, 0) h, cell_of_row _ _ 1 _ 26 (0, 0) h⟩
  have k0 : wZ.drew.heap[n]? = some (.cells #[.float .f64 a, .float .f64 b] 26) := rZ
  have g0 : Below n w wZ.drew := gZ.drew
  clear rZ gZ lZ
  go_upto_region 10 with fail
  go_region_held3 (fun W => W.cell? ⟨n, 0, none⟩ = some (.float .f64 a) ∧ W.cell? ⟨n, 1, none⟩ = some (.float .f64 b))
    (first | (with_reducible exact hX _ k0) | (with_reducible exact hX _ k1) | (with_reducible exact hX _ k2) | (with_reducible exact hX _ k3) | (with_reducible exact hX _ k4) | (with_reducible exact hX _ k5))
    (first
      | (go_at_call 16; (with_reducible refine (T1 _).mono ?_); rintro e w1 ⟨r1, s1, rfl, hc1, hd1⟩; replace hc1 := Lib.hid hc1; have k1 := (by (rw [hd1.heap]) : w1.heap[n]? = wZ.drew.heap[n]?).trans k0; have g1 := hd1.after g0)
      | (go_at_call 17; (with_reducible refine (T2 _).mono ?_); rintro e w2 ⟨r2, s2, rfl, hc2, hb2⟩; replace hc2 := Lib.hid hc2; have k2 := (hb2.block n (heap_lt k1)).trans k1; have g2 := g1.trans (hb2.mono (Nat.le_of_lt (heap_lt k1))))
      | (go_at_call 15; (with_reducible refine (samec_any r1 s1 r2 s2 ((congrArg Prod.fst hc1.out).trans hc2.out.1.symm) ((congrArg Prod.snd hc1.out).trans hc2.out.2.symm) _).mono ?_); rintro e w3 ⟨rfl, hb3⟩; have k3 := (hb3.block n (heap_lt k2)).trans k2; have g3 := g2.trans (hb3.mono (Nat.le_of_lt (heap_lt k2))))
      | (go_at_call 18; (with_reducible refine (S1 _).mono ?_); rintro e w4 ⟨r4, rfl, hc4, hd4⟩; replace hc4 := Lib.hid hc4; have k4 := (by (rw [hd4.heap]) : w4.heap[n]? = w3.heap[n]?).trans k3; have g4 := hd4.after g3)
      | (go_at_call 19; (with_reducible refine (S2 _).mono ?_); rintro e w5 ⟨r5, rfl, hc5, hb5⟩; replace hc5 := Lib.hid hc5; have k5 := (hb5.block n (heap_lt k4)).trans k4; have g5 := g4.trans (hb5.mono (Nat.le_of_lt (heap_lt k4))))
      | (go_at_call 13; (with_reducible refine (same_any r4 r5 (hc4.out.trans hc5.out.symm) _).mono ?_); rintro e w6 ⟨rfl, hw6⟩; subst hw6))
  all_goals (go_wp2; go_ret; exact ⟨rfl, by rw [hn.out]; exact g5⟩)
end Go.Proofs.Ytfmjmjppkdaanaa
