/- Net: the ways of the five kinds, walked. -/
import Derived.Test.YtfmjmjppkdaanaaSum
namespace Go.Proofs.Ytfmjmjppkdaanaa
open Go.RowKit Go.BigFrame flt Ieee

set_option maxHeartbeats 1000000 in
theorem way1_any (kd : Int) (x y : Nat) (a z : Value) (w : World) : Calls Try.prog 52 #[.agg #[.int .u8 kd, .float .f64 x, a], .float .f64 y, z] w fun e w' => ∃ r s, e = .returned (.complex .f64 r s) ∧ (cls r, cls s) = (cls x, some 0) ∧ Below w.heap.size w w' := by
  have c0 := Lib.hid (cls_nn nn_zero)
  go_enter Try.func52, Try.ntmps52
  go_wp2
  go_ret
  exact ⟨_, _, rfl, by rw [c0.out], below_al (Below.refl _ _) _⟩
set_option maxHeartbeats 1000000 in
theorem way2_any (kd : Int) (x y : Nat) (a z : Value) (w : World) : Calls Try.prog 53 #[.agg #[.int .u8 kd, .float .f64 x, a], .float .f64 y, z] w fun e w' => ∃ r s, e = .returned (.complex .f64 r s) ∧ (cls r, cls s) = (some 0, op2 .mul (cls y) (cls x)) ∧ Below w.heap.size w w' := by
  have c0 := Lib.hid (cls_nn nn_zero)
  obtain ⟨FM, GM, hm, cm⟩ := veil (op := .mul) (Or.inr (Or.inr (Or.inl rfl))) 23
  replace cm := Lib.hid cm
  go_enter Try.func53, Try.ntmps53
  go_wp2
  go_ret
  exact ⟨_, _, rfl, by rw [c0.out, cm.out], below_drewN' (below_al (Below.refl _ _) _) _⟩
set_option maxHeartbeats 1000000 in
theorem way3_any (kd : Int) (x y : Nat) (a z : Value) (w : World) : Calls Try.prog 54 #[.agg #[.int .u8 kd, .float .f64 x, a], .float .f64 y, z] w fun e w' => ∃ r s, e = .returned (.complex .f64 r s) ∧ (cls r, cls s) = (some 0, op2 .sub (some 0) (op2 .quo (some one) (op2 .mul (cls y) (cls x)))) ∧ Below w.heap.size w w' := by
  have c0 := Lib.hid (cls_nn nn_zero)
  have c1 := Lib.hid cls_one
  obtain ⟨FM, GM, hm, cm⟩ := veil (op := .mul) (Or.inr (Or.inr (Or.inl rfl))) 23
  obtain ⟨FQ, GQ, hq, cq⟩ := veil (op := .quo) (Or.inr (Or.inr (Or.inr rfl))) 23
  obtain ⟨FS, GS, hs, cs⟩ := veil (op := .sub) (Or.inr (Or.inl rfl)) 23
  replace cm := Lib.hid cm
  replace cq := Lib.hid cq
  replace cs := Lib.hid cs
  have hq1 := hq 4607182418800017408
  have hs0 := hs 0
  go_enter Try.func54, Try.ntmps54
  go_wp2
  go_ret
  exact ⟨_, _, rfl, by rw [cs.out, cq.out, cm.out, c0.out, c1.out]; rfl, below_drewN' (below_al (Below.refl _ _) _) _⟩
set_option maxHeartbeats 1000000 in
theorem way4_any (kd : Int) (x y : Nat) (zs : List Cx) (of : List Int) (A B : Option Addr) (ca cb : Nat) (w : World) (hz : Cs w A zs) (ho : Ints w B of) (h0 : 0 < of.length) (hcb : of.length ≤ cb) (hof : ∀ k (h : k < of.length), 0 ≤ of[k] ∧ of[k] < zs.length) :
    Calls Try.prog 55 #[.agg #[.int .u8 kd, .float .f64 x, .slice B of.length cb], .float .f64 y, .slice A zs.length ca] w fun e w' => ∃ r s, e = .returned (.complex .f64 r s) ∧ (cls r, cls s) = sumc id zs of ∧ Below w.heap.size w w' := by
  have K := fun (W : World) (hd : Below w.heap.size w W) => sum_any 57 id (Or.inl rfl) id_any zs of A B ca cb W (hz.below hd) (ho.below hd) h0 hcb hof
  have hg : Below w.heap.size w (w.alloc (.cells #[.int .u8 kd, .float .f64 x, .slice B of.length cb] 47)) := below_al (Below.refl _ _) _
  clear hz ho h0 hcb hof
  go_enter Try.func55, Try.ntmps55
  go_wp2_with (go_at_call 56; (with_reducible refine (K _ hg).mono ?_); rintro e w1 ⟨r, s, rfl, hc, hd⟩; replace hc := Lib.hid hc)
  go_ret
  exact ⟨_, _, rfl, hc.out, hd.after hg⟩
set_option maxHeartbeats 1000000 in
theorem way5_any (kd : Int) (x y : Nat) (zs : List Cx) (of : List Int) (A B : Option Addr) (ca cb : Nat) (w : World) (hz : Cs w A zs) (ho : Ints w B of) (h0 : 0 < of.length) (hcb : of.length ≤ cb) (hof : ∀ k (h : k < of.length), 0 ≤ of[k] ∧ of[k] < zs.length) :
    Calls Try.prog 58 #[.agg #[.int .u8 kd, .float .f64 x, .slice B of.length cb], .float .f64 y, .slice A zs.length ca] w fun e w' => ∃ r s, e = .returned (.complex .f64 r s) ∧ (cls r, cls s) = turnc (sumc turnc zs of) ∧ Below w.heap.size w w' := by
  have K := fun (W : World) (hd : Below w.heap.size w W) => sum_any 16 turnc (Or.inr rfl) turn_any zs of A B ca cb W (hz.below hd) (ho.below hd) h0 hcb hof
  have hg : Below w.heap.size w (w.alloc (.cells #[.int .u8 kd, .float .f64 x, .slice B of.length cb] 47)) := below_al (Below.refl _ _) _
  have T := turn_any
  clear hz ho h0 hcb hof
  go_enter Try.func58, Try.ntmps58
  go_wp2_with (first | (go_at_call 56; (with_reducible refine (K _ hg).mono ?_); rintro e w1 ⟨r, s, rfl, hc, hd⟩; replace hc := Lib.hid hc) | (go_at_call 16; (with_reducible refine (T _ _ _).mono ?_); rintro e w2 ⟨r2, s2, rfl, hc2, hd2⟩; replace hc2 := Lib.hid hc2))
  go_ret
  exact ⟨_, _, rfl, by rw [hc2.out, ← hc.out]; rfl, hd2.after (hd.after hg)⟩
end Go.Proofs.Ytfmjmjppkdaanaa
