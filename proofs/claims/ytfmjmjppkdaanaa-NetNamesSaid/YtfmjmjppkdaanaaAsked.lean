/- Net: asked, walked: Check, Z and Each say what the reference says. -/
import Derived.Test.YtfmjmjppkdaanaaAsk
namespace Go.Proofs.Ytfmjmjppkdaanaa
open Go.RowKit Go.BigFrame flt Ieee

set_option maxHeartbeats 4000000 in
theorem asked_bad (l : List Part) (A : Option Addr) (c y : Nat) (w : World) (h : Pn w A l) (he : ¬ (Good l ∧ isRate (cls y) = true)) :
    Calls Try.prog 21 #[.slice A l.length c, .float .f64 y] w fun e w' => e = .returned (.bool true) ∧ Below w.heap.size w w' := by
  have hb : Below w.heap.size w w := Below.refl _ _
  have hC := fun W (hW : Below w.heap.size w W) => rcheck_any l A c W (h.below hW)
  have hK := fun W (hW : Below w.heap.size w W) => check_any l A c W (h.below hW)
  have hR := rrate_any y
  have hZ := fun W (hW : Below w.heap.size w W) => z_bad l A c y W (h.below hW) he
  have hE := fun W (hW : Below w.heap.size w W) => eachk_bad l A c y W (h.below hW) he
  have S := samec_any 0 0 0 0 rfl rfl
  clear h
  unfold chk err at *
  by_cases hg : Good l
  · have hr : isRate (cls y) = false := by
      cases hq : isRate (cls y)
      · rfl
      · exact absurd ⟨hg, hq⟩ he
    simp only [if_pos hg, hr] at hC hK hR hZ hE
    clear he hg hr
    go_enter Try.func21, Try.ntmps21
    go_wp2_with (first
      | (go_at_call 27; (with_reducible refine (hC _ hb).mono ?_); rintro e w1 ⟨rfl, hb1⟩; replace hb := hb.trans (hb1.mono hb.size); clear hb1)
      | (go_at_call 41; (with_reducible refine (hK _ hb).mono ?_); rintro e w2 ⟨rfl, hb1⟩; replace hb := hb.trans (hb1.mono hb.size); clear hb1)
      | (go_at_call 28; (with_reducible refine (hR _).mono ?_); rintro e w3 ⟨rfl, hd⟩; replace hb := hd.after hb; clear hd)
      | (go_at_call 25; (with_reducible refine (hZ _ hb).mono ?_); rintro e w4 ⟨rfl, hb1⟩; replace hb := hb.trans (hb1.mono hb.size); clear hb1)
      | (go_at_call 24; (with_reducible refine (hE _ hb).mono ?_); rintro e w5 ⟨rfl, hb1⟩; replace hb := hb.trans (hb1.mono hb.size); clear hb1)
      | (go_at_call 15; (with_reducible refine (S _).mono ?_); rintro e w6 ⟨rfl, hb1⟩; replace hb := hb.trans (hb1.mono hb.size); clear hb1))
    go_ret
    exact ⟨rfl, hb⟩
  · simp only [if_neg hg] at hC hK hZ hE
    clear he hg
    go_enter Try.func21, Try.ntmps21
    go_wp2_with (first
      | (go_at_call 27; (with_reducible refine (hC _ hb).mono ?_); rintro e w1 ⟨rfl, hb1⟩; replace hb := hb.trans (hb1.mono hb.size); clear hb1)
      | (go_at_call 41; (with_reducible refine (hK _ hb).mono ?_); rintro e w2 ⟨rfl, hb1⟩; replace hb := hb.trans (hb1.mono hb.size); clear hb1)
      | (go_at_call 25; (with_reducible refine (hZ _ hb).mono ?_); rintro e w4 ⟨rfl, hb1⟩; replace hb := hb.trans (hb1.mono hb.size); clear hb1)
      | (go_at_call 24; (with_reducible refine (hE _ hb).mono ?_); rintro e w5 ⟨rfl, hb1⟩; replace hb := hb.trans (hb1.mono hb.size); clear hb1)
      | (go_at_call 15; (with_reducible refine (S _).mono ?_); rintro e w6 ⟨rfl, hb1⟩; replace hb := hb.trans (hb1.mono hb.size); clear hb1))
    go_ret
    exact ⟨rfl, hb⟩
set_option maxHeartbeats 4000000 in
theorem asked_good (l : List Part) (A : Option Addr) (c y : Nat) (w : World) (h : Pn w A l) (hg : Good l) (hr : isRate (cls y) = true) :
    Calls Try.prog 21 #[.slice A l.length c, .float .f64 y] w fun e w' => e = .returned (.bool true) ∧ Below w.heap.size w w' := by
  have hb : Below w.heap.size w w := Below.refl _ _
  have hC := fun W (hW : Below w.heap.size w W) => rcheck_any l A c W (h.below hW)
  have hK := fun W (hW : Below w.heap.size w W) => check_any l A c W (h.below hW)
  have hR := rrate_any y
  have hZ := fun W (hW : Below w.heap.size w W) => z_good l A c y W (h.below hW) hg hr
  have hE := fun W (hW : Below w.heap.size w W) => eachk_good l A c y W (h.below hW) hg hr
  have hF := fun W (hW : Below w.heap.size w W) => reach_any l hg A c y W (h.below hW)
  have S := samec_any
  have h1 := hg.1
  have h2 := hg.2.1
  have hzl := zsn_len (cls y) l l.length
  unfold chk at *
  simp only [if_pos hg, hr] at hC hK hR
  clear h hg hr
  generalize zsn (cls y) l l.length = zs at *
  generalize l.length = n at *
  have k2 : ((n : Int) - 1) = ((n - 1 : Nat) : Int) := by omega
  have hzl := Lib.hid hzl
  go_enter Try.func21, Try.ntmps21
  go_wp2_with (first
    | (go_at_call 27; (with_reducible refine (hC _ hb).mono ?_); rintro e w1 ⟨rfl, hb1⟩; replace hb := hb.trans (hb1.mono hb.size); clear hb1)
    | (go_at_call 41; (with_reducible refine (hK _ hb).mono ?_); rintro e w2 ⟨rfl, hb1⟩; replace hb := hb.trans (hb1.mono hb.size); clear hb1)
    | (go_at_call 28; (with_reducible refine (hR _).mono ?_); rintro e w3 ⟨rfl, hd⟩; replace hb := hd.after hb; clear hd)
    | (go_at_call 25; (with_reducible refine (hZ _ hb).mono ?_); rintro e w4 ⟨r, s, rfl, hz, hb1⟩; replace hz := Lib.hid hz; replace hb := hb.trans (hb1.mono hb.size); clear hb1)
    | (go_at_call 24; (with_reducible refine (hE _ hb).mono ?_); rintro e w6 ⟨v2, r2, rfl, e2, o2, hb1⟩; have hlt : Hid (∀ g, v1.ownBlock = some g → g < w5.heap.size) := Lib.hid (fun g h => (o1.lt g h).2); replace o1 := o1.below hb1; replace hb := hb.trans (hb1.mono hb.size); have hs2 := Lib.hid hb1.size; replace e2 := Lib.hid e2; clear hb1)
    | (go_at_call 24; (with_reducible refine (hE _ hb).mono ?_); rintro e w5 ⟨v1, r1, rfl, e1, o1, hb1⟩; have hwB := Lib.hid hb.size; replace hb := hb.trans (hb1.mono hb.size); replace e1 := Lib.hid e1; have hs1 := Lib.hid hb1.size; clear hb1)
    | (go_at_call 42; (with_reducible refine (hF _ hb).mono ?_); rintro e w7 ⟨v3, r3, rfl, e3, o3, hb1⟩; replace o1 := o1.below hb1; replace o2 := o2.below hb1; replace hb := hb.trans (hb1.mono hb.size); have hr3 : Hid (r3.length = n) := Lib.hid (by rw [← hzl.out, ← e3, List.length_map]); obtain ⟨A3, c3, rfl, p3⟩ := Ps.of_own o3; rw [e3] at p3; rw [hr3.out] at *; obtain ⟨b3, off3, x3, y3, rfl, hb3, q3, q4, q5⟩ := p3.2 (n - 1) (by rw [hzl.out]; omega); have hs7 : Hid (w4.heap.size ≤ w7.heap.size) := Lib.hid (by have := hb1.size; have := hs2.out; have := hs1.out; omega); replace e3 := Lib.hid e3; replace q5 := Lib.hid q5; clear hb1 p3))
  have hq : (cls r, cls s) = (cls x3, cls y3) := by rw [hz.out, q5.out, List.getD_eq_getElem?_getD, List.getElem?_eq_getElem (by rw [hzl.out]; omega)]; rfl
  refine (S r s x3 y3 (Prod.mk.inj hq).1 (Prod.mk.inj hq).2 _).mono ?_
  rintro e w8 ⟨rfl, hb8⟩
  have hwB' := hwB.out
  have p1 := o1.below hb8
  have p2 := o2.below hb8
  have p3 := (o3.below hb8).mono hs2.out
  have F := fresh_any zs r1 r2 r3 v1 v2 _ w4.heap.size w5.heap.size w8 e1.out e2.out e3.out (by rw [hzl.out]; omega) (by rw [hzl.out]; omega) p1 p2 p3 hlt.out (by have := hb.size; have := hb8.size; have := hs7.out; omega)
  replace F := Lib.hid F
  replace hb := hb.trans (hb8.mono hb.size)
  clear hq S hR hC hK hZ hE hF o1 o2 o3 p1 p2 p3 q3 q4 q5 e1 e2 e3 hlt hs2 hz hb8
  go_wp2_with (go_at_call 35; (with_reducible refine (F.out).mono ?_); rintro e w9 ⟨rfl, hb9, _⟩)
  go_ret
  exact ⟨rfl, hb.trans (hb9.mono hwB.out)⟩
theorem asked_any (l : List Part) (A : Option Addr) (c y : Nat) (w : World) (h : Pn w A l) :
    Calls Try.prog 21 #[.slice A l.length c, .float .f64 y] w fun e w' => e = .returned (.bool true) ∧ Below w.heap.size w w' := by
  by_cases he : Good l ∧ isRate (cls y) = true
  · exact asked_good l A c y w h he.1 he.2
  · exact asked_bad l A c y w h he
end Go.Proofs.Ytfmjmjppkdaanaa
