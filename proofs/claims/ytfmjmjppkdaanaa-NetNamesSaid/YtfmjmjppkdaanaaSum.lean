/- Net: the ways, the sum, walked. -/
import Derived.Test.YtfmjmjppkdaanaaImp
namespace Go.Proofs.Ytfmjmjppkdaanaa
open Go.RowKit Go.BigFrame flt Ieee

set_option maxHeartbeats 1000000 in
theorem id_any (a b : Nat) (w : World) : Calls Try.prog 57 #[.complex .f64 a b] w fun e w' => ∃ r s, e = .returned (.complex .f64 r s) ∧ (cls r, cls s) = id (cls a, cls b) ∧ Drawn w w' := by
  go_enter Try.func57, Try.ntmps57
  go_wp2
  go_ret
  exact ⟨a, b, rfl, rfl, Drawn.refl _⟩
set_option maxHeartbeats 1000000 in
theorem ways_any (w : World) : Calls Try.prog 51 #[] w fun e w' => e = .returned (.agg #[.nilFunc, .func (.func 52) #[] #[], .func (.func 53) #[] #[], .func (.func 54) #[] #[], .func (.func 55) #[] #[], .func (.func 58) #[] #[]]) ∧ Below w.heap.size w w' := by
  go_enter Try.func51, Try.ntmps51
  go_wp2
  refine bodyPost_ret (results_cell_row rfl _ _ w.heap.size 86 #[.nilFunc, .func (.func 52) #[] #[], .func (.func 53) #[] #[], .func (.func 54) #[] #[], .func (.func 55) #[] #[], .func (.func 58) #[] #[]] (0, 0) _ rfl (heap_alloc_at _ _) Try.underlying86 rfl (by kernel_rfl)) rfl ?_
  exact ⟨rfl, below_al (Below.refl _ _) _⟩
set_option maxHeartbeats 4000000 in
theorem sum_any (K : Nat) (f : Cx → Cx) (hK : K = 57 ∨ K = 16) (hf : ∀ a b w, Calls Try.prog K #[.complex .f64 a b] w fun e w' => ∃ r s, e = .returned (.complex .f64 r s) ∧ (cls r, cls s) = f (cls a, cls b) ∧ Drawn w w')
    (zs : List Cx) (of : List Int) (A B : Option Addr) (ca cb : Nat) (w : World) (hz : Cs w A zs) (ho : Ints w B of) (h0 : 0 < of.length) (hcb : of.length ≤ cb) (hof : ∀ k (h : k < of.length), 0 ≤ of[k] ∧ of[k] < zs.length) :
    Calls Try.prog 56 #[.slice A zs.length ca, .slice B of.length cb, .func (.func K) #[] #[]] w fun e w' => ∃ r s, e = .returned (.complex .f64 r s) ∧ (cls r, cls s) = sumc f zs of ∧ Drawn w w' := by
  obtain ⟨FA, GA, ha, cA⟩ := veil (op := .add) (Or.inl rfl) 23
  replace cA := Lib.hid cA
  have hlo := ho.le
  have hlz := hz.1
  have pick : ∀ k (h : k < of.length) (W : World), Drawn w W → ∃ b o b2 o2 r s, B = some ⟨b, o, none⟩ ∧ W.cell? ⟨b, o + k, none⟩ = some (.int .i64 of[k]) ∧ A = some ⟨b2, o2, none⟩ ∧ W.cell? ⟨b2, o2 + of[k].toNat, none⟩ = some (.complex .f64 r s) ∧ (cls r, cls s) = pickc zs (of.getD k 0) := by
    intro k hk W hW
    obtain ⟨b, o, eb, _, c1⟩ := ho.at_ hk
    have hb := hof k hk
    obtain ⟨b2, o2, r, s, ea, _, c2, hc⟩ := hz.2 of[k].toNat (by omega)
    refine ⟨b, o, b2, o2, r, s, eb, by rw [hW.cell]; exact c1, ea, by rw [hW.cell]; exact c2, ?_⟩
    rw [hc]
    unfold pickc
    rw [List.getD_eq_getElem?_getD, List.getD_eq_getElem?_getD, List.getElem?_eq_getElem hk]
    show _ = (zs[of[k].toNat]?).getD _
    rw [List.getElem?_eq_getElem (by omega)]
    rfl
  obtain ⟨b, o, b2, o2, r, s, rfl, d1, rfl, d2, hc⟩ := pick 0 h0 w (Drawn.refl _)
  have hb := hof 0 h0
  rw [Nat.add_zero] at d1
  have hlen1 : Hid (of.length - 1 + 1 = of.length) := Lib.hid (by omega)
  have z1 : ((of.length : Int) - 1 : Int) = ((of.length - 1 : Nat) : Int) := by omega
  have hend : Hid (sumc f zs of = accn f zs of (of.length - 1)) := Lib.hid rfl
  have hstep : Hid (∀ k r s r' s' W V, (cls r, cls s) = accn f zs of k → (cls r', cls s') = f (pickc zs (of.getD (k + 1) 0)) → (cls (FA r r' W), cls (FA s s' V)) = accn f zs of (k + 1)) := Lib.hid (fun k r s r' s' W V e1 e2 => by
    rw [cA.out, cA.out]
    show addc (cls r, cls s) (cls r', cls s') = _
    rw [e1, e2]; rfl)
  have hs1 : (cls r, cls s) = f (pickc zs (of.getD 0 0)) → (cls r, cls s) = f (pickc zs (of.getD 0 0)) := id
  clear hs1
  replace hc := Lib.hid hc
  have hpick : Hid (∀ k (h : k < of.length) (W : World), Drawn w W → ∃ r s, W.cell? ⟨b, o + k, none⟩ = some (.int .i64 of[k]) ∧ W.cell? ⟨b2, o2 + of[k].toNat, none⟩ = some (.complex .f64 r s) ∧ (cls r, cls s) = pickc zs (of.getD k 0)) := Lib.hid (fun k hk W hW => by
    obtain ⟨b', o', b2', o2', r', s', eb, c1, ea, c2, h⟩ := pick k hk W hW
    cases eb; cases ea
    exact ⟨r', s', c1, c2, h⟩)
  replace hof := Lib.hid hof
  clear pick hz ho cA
  generalize ey : of[0] = y at *
  replace ey := Lib.hid ey
  have c0 : ∀ W, Drawn w W → W.cell? ⟨b2, o2 + y.toNat, none⟩ = some (.complex .f64 r s) := fun W hW => by rw [hW.cell]; exact d2
  clear z1
  have hcs : (cb = 1 ∧ of.length = 1) ∨ ¬ cb = 1 := by omega
  clear hcb
  rcases hcs with ⟨rfl, hl⟩ | hcb
  · have hend1 : Hid (sumc f zs of = f (pickc zs (of.getD 0 0))) := Lib.hid (by rw [hend.out, hl]; rfl)
    rw [hl]
    clear hpick hstep hend hlo hl ha hlen1 hof ey h0
    rcases hK with rfl | rfl
    all_goals (
      go_enter Try.func56, Try.ntmps56
      go_wp2_with (first | (go_at_call 57; (with_reducible refine (hf _ _ _).mono ?_); rintro e w1 ⟨r1, s1, rfl, hc1, hd1⟩; replace hc1 := Lib.hid hc1) | (go_at_call 16; (with_reducible refine (hf _ _ _).mono ?_); rintro e w1 ⟨r1, s1, rfl, hc1, hd1⟩; replace hc1 := Lib.hid hc1))
      go_loopw [7, 22] (fun s t wr => s = .complex .f64 r1 s1 ∧ t = .int .i64 0 ∧ Drawn w wr) (fun _ _ _ => 0)
      case atStart => exact ⟨rfl, rfl, hd1⟩
      case round =>
        obtain ⟨rfl, rfl, hd⟩ := hrel
        go_wp2
        go_ret
        exact ⟨_, _, rfl, by rw [hc1.out, hend1.out, hc.out], hd⟩)
  rcases hK with rfl | rfl
  all_goals (
    go_enter Try.func56, Try.ntmps56
    go_wp2_with (first | (go_at_call 57; (with_reducible refine (hf _ _ _).mono ?_); rintro e w1 ⟨r1, s1, rfl, hc1, hd1⟩; replace hc1 := Lib.hid hc1) | (go_at_call 16; (with_reducible refine (hf _ _ _).mono ?_); rintro e w1 ⟨r1, s1, rfl, hc1, hd1⟩; replace hc1 := Lib.hid hc1))
    go_loopw [7, 22] (fun s t wr => ∃ k r s', k < of.length ∧ s = .complex .f64 r s' ∧ (cls r, cls s') = accn f zs of k ∧ t = .int .i64 k ∧ Drawn w wr) (fun _ t _ => of.length - (intOf t).toNat)
    case atStart => exact ⟨0, r1, s1, h0, rfl, by rw [hc1.out, hc.out]; rfl, rfl, hd1⟩
    case round =>
      obtain ⟨k, r2, s2, hk, rfl, hc2, rfl, hd⟩ := hrel
      replace hc2 := Lib.hid hc2
      clear hc1 hd1
      by_cases hkl : k = of.length - 1
      · clear hpick hstep
        subst hkl
        go_wp2
        go_ret
        exact ⟨_, _, rfl, by rw [hc2.out, hend.out], hd⟩
      have hk1 : k < of.length - 1 := by omega
      obtain ⟨r3, s3, d3, d4, hc3⟩ := hpick.out (k + 1) (by omega) wr hd
      have hb2 := hof.out (k + 1) (by omega)
      replace hc3 := Lib.hid hc3
      rw [show o + (k + 1) = o + 1 + k by omega] at d3
      generalize ey2 : of[k + 1] = y2 at *
      clear ey2 hpick hend
      go_wp2_with (first | (go_at_call 57; (with_reducible refine (hf _ _ _).mono ?_); rintro e w4 ⟨r4, s4, rfl, hc4, hd4⟩; replace hc4 := Lib.hid hc4) | (go_at_call 16; (with_reducible refine (hf _ _ _).mono ?_); rintro e w4 ⟨r4, s4, rfl, hc4, hd4⟩; replace hc4 := Lib.hid hc4))
      go_roundw
      case rel => exact ⟨k + 1, _, _, by omega, rfl, hstep.out k r2 s2 r4 s4 _ _ hc2.out (by rw [hc4.out, hc3.out]), by go_num, (hd.trans hd4).drewN _⟩
      case measure => simp [intOf]; omega)
end Go.Proofs.Ytfmjmjppkdaanaa
