/- Net: Check, walked, program and reference. -/
import Derived.Test.YtfmjmjppkdaanaaMay
namespace Go.Proofs.Ytfmjmjppkdaanaa
open Go.RowKit Go.BigFrame flt Ieee

/-- the net may be -/
def Good (l : List Part) : Prop := 1 ≤ l.length ∧ l.length ≤ 256 ∧ ∀ k (h : k < l.length), mayp l[k] k = true
instance (l : List Part) : Decidable (Good l) := by unfold Good; infer_instance
def chk (l : List Part) : Int := if Good l then 0 else 290
set_option maxHeartbeats 4000000 in
theorem check_any (l : List Part) (A : Option Addr) (c : Nat) (w : World) (h : Pn w A l) :
    Calls Try.prog 41 #[.slice A l.length c] w fun e w' => e = .returned (.int .i64 (chk l)) ∧ Below w.heap.size w w' := by
  have hlen := h.1
  have hst : ∀ (p : Addr) (v : Nat) (W : World), (store p (.float .f64 v)).run Try.prog W = stored Try.prog W p (.float .f64 v) .plain := fun p v W => run_store Try.prog W p _ _ rfl
  generalize hM : chk l = M
  unfold chk at hM
  by_cases h0 : l.length = 0
  · have e0 : Hid (M = 290) := Lib.hid (by rw [← hM, if_neg (fun g => by have := g.1; omega)])
    rw [h0]
    have f0 : ((0 : Int) == 0) = true := rfl
    clear h hM hlen h0
    go_enter Try.func41, Try.ntmps41
    go_wp2
    go_ret
    exact ⟨ret_i64 e0.out.symm, Below.refl _ _⟩
  by_cases h1 : 256 < l.length
  · have e0 : Hid (M = 290) := Lib.hid (by rw [← hM, if_neg (fun g => by have := g.2.1; omega)])
    have f0 : ((l.length : Int) == 0) = false := beq_eq_false_iff_ne.mpr (by omega)
    clear h hM
    go_enter Try.func41, Try.ntmps41
    go_wp2
    go_ret
    exact ⟨ret_i64 e0.out.symm, Below.refl _ _⟩
  have f0 : ((l.length : Int) == 0) = false := beq_eq_false_iff_ne.mpr (by omega)
  have hbad : Hid (∀ k (h : k < l.length), mayp l[k] k = false → M = 290) := Lib.hid (fun k hk hb => by rw [← hM, if_neg (fun g => by have := g.2.2 k hk; rw [hb] at this; cases this)])
  have hok : Hid ((∀ k (h : k < l.length), mayp l[k] k = true) → M = 0) := Lib.hid (fun ha => by rw [← hM, if_pos ⟨by omega, by omega, ha⟩])
  clear hM
  go_enter Try.func41, Try.ntmps41
  go_wp2
  go_loopw [15] (fun s wr => ∃ k : Nat, k ≤ l.length ∧ s = .int .i64 k ∧ (∀ j (h : j < l.length), j < k → mayp l[j] j = true) ∧ Below w.heap.size w wr) (fun s _ => l.length - (intOf s).toNat)
  case atStart => exact ⟨0, by omega, rfl, fun j _ h => absurd h (by omega), Below.refl _ _⟩
  case round =>
    obtain ⟨k, hk, rfl, hno, hd⟩ := hrel
    replace hno := Lib.hid hno
    by_cases hkl : k = l.length
    · have e0 := Lib.hid (hok.out (fun j hj => hno.out j hj (by omega)))
      subst hkl
      clear h hok hbad hno
      go_wp2
      go_ret
      exact ⟨ret_i64 e0.out.symm, hd⟩
    have hlt : k < l.length := by omega
    obtain ⟨b, o, Ai, ci, rfl, hbl, c0, c1, c2, hi, _⟩ := (h.below hd).2 k hlt
    have B1 := Lib.hid (hbad.out k hlt)
    have B2 : mayp l[k] k = true → Hid (∀ j (h : j < l.length), j < k + 1 → mayp l[j] j = true) := fun e => Lib.hid (fun j h hj => by
      by_cases q : j = k
      · subst q; exact e
      · exact hno.out j h (by omega))
    have K := Lib.hid (fun (W : World) (hI : Ints W Ai (l[k]'hlt).of) => may_any (l[k]'hlt) k Ai ci W hI)
    generalize mayp l[k] k = m at *
    generalize hp : l[k] = p at *
    obtain ⟨kd, x, of⟩ := p
    simp only at c0 c1 c2 hi K
    clear hp h hok hbad hno
    cases m
    · have e0 := Lib.hid (B1.out rfl)
      clear B1 B2
      go_wp2_with (go_at_call 50; (with_reducible refine (K.out _ (hi.below (below_al (Below.refl _ _) _))).mono ?_); rintro e w1 ⟨rfl, hb⟩)
      go_ret
      exact ⟨ret_i64 e0.out.symm, (hd.alloc hd.size _).trans (hb.mono (by rw [size_al]; have := hd.size; omega))⟩
    · have e2 := B2 rfl
      clear B1 B2
      go_wp2_with (go_at_call 50; (with_reducible refine (K.out _ (hi.below (below_al (Below.refl _ _) _))).mono ?_); rintro e w1 ⟨rfl, hb⟩)
      go_roundw
      case rel => exact ⟨k + 1, by omega, by go_num, e2.out, (hd.alloc hd.size _).trans (hb.mono (by rw [size_al]; have := hd.size; omega))⟩
      case measure => simp [intOf]; omega
end Go.Proofs.Ytfmjmjppkdaanaa
