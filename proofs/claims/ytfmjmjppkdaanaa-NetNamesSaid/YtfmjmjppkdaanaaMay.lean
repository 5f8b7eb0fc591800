/- Net: whether a part may stand, walked. -/
import Derived.Test.YtfmjmjppkdaanaaNet0
namespace Go.Proofs.Ytfmjmjppkdaanaa
open Go.RowKit Go.BigFrame flt Ieee

theorem ge_zero (x : Nat) : (FloatKind.f64.format.order x 0 == some .gt || FloatKind.f64.format.order x 0 == some .eq) = ge0 (cls x) := by
  have e := order_cls x 0
  rw [cls_nn nn_zero] at e
  unfold ge0
  rw [← e]
  rfl
set_option maxHeartbeats 4000000 in
theorem may_any (p : Part) (i : Int) (A : Option Addr) (c : Nat) (w : World) (h : Ints w A p.of) :
    Calls Try.prog 50 #[.agg #[.int .u8 p.kind, .float .f64 p.x, .slice A p.of.length c], .int .i64 i] w fun e w' => e = .returned (.bool (mayp p i)) ∧ Below w.heap.size w w' := by
  have hlen := h.le
  obtain ⟨kd, x, l⟩ := p
  simp only at h hlen ⊢
  have hF := finite_any x
  have hG := ge_zero x
  have hB := bits_run x
  generalize hM : mayp ⟨kd, x, l⟩ i = M
  unfold mayp at hM
  simp only at hM
  generalize isFin (cls x) = f at *
  generalize ge0 (cls x) = g at *
  by_cases hs : kd = 1 ∨ kd = 2 ∨ kd = 3
  · rw [if_pos hs] at hM
    by_cases hl : l.length = 0
    · rw [decide_eq_true hl] at hM
      rw [hl]
      have h0 : ((0 : Int) == 0) = true := rfl
      cases f
      · have e0 : Hid (M = false) := Lib.hid (by rw [← hM]; rfl)
        clear hM h hl hlen
        rcases hs with rfl | rfl | rfl
        all_goals (go_enter Try.func50, Try.ntmps50; go_wp2_with (go_at_call 45; (with_reducible refine (hF _).mono ?_); rintro e w1 ⟨rfl, hw⟩; subst hw); go_ret; exact ⟨ret_bool e0.out.symm, below_al (Below.refl _ _) _⟩)
      · have e0 : Hid (M = g) := Lib.hid (by rw [← hM]; cases g <;> rfl)
        clear hM h hl hlen
        rcases hs with rfl | rfl | rfl
        all_goals (go_enter Try.func50, Try.ntmps50; go_wp2_with (go_at_call 45; (with_reducible refine (hF _).mono ?_); rintro e w1 ⟨rfl, hw⟩; subst hw); go_ret; exact ⟨ret_bool e0.out.symm, below_al (Below.refl _ _) _⟩)
    · have e0 : Hid (M = false) := Lib.hid (by rw [← hM, decide_eq_false hl]; rfl)
      have h0 : ((l.length : Int) == 0) = false := beq_eq_false_iff_ne.mpr (by omega)
      clear hM h hl
      rcases hs with rfl | rfl | rfl
      all_goals (go_enter Try.func50, Try.ntmps50; go_wp2_with (go_at_call 45; (with_reducible refine (hF _).mono ?_); rintro e w1 ⟨rfl, hw⟩; subst hw); go_ret; exact ⟨ret_bool e0.out.symm, below_al (Below.refl _ _) _⟩)
  · rw [if_neg hs] at hM
    by_cases hk : kd = 4 ∨ kd = 5
    · rw [if_pos hk] at hM
      clear hs hF hG
      have main : ∀ kd', kd' = 4 ∨ kd' = 5 → Calls Try.prog 50 #[.agg #[.int .u8 kd', .float .f64 x, .slice A l.length c], .int .i64 i] w fun e w' => e = .returned (.bool M) ∧ Below w.heap.size w w' := by
        intro kd' hk'
        have hal : Hid ((∃ k, ∃ h : k < l.length, ¬ (0 ≤ l[k] ∧ l[k] < i)) → M = false) := Lib.hid (fun ⟨k, hk, hb⟩ => by
          rw [← hM]
          have : (l.all fun k => decide (0 ≤ k ∧ k < i)) = false := by
            rw [List.all_eq_false]
            exact ⟨l[k], List.getElem_mem hk, by simpa using hb⟩
          rw [this]; rfl)
        have hok : Hid ((∀ k, ∀ h : k < l.length, 0 ≤ l[k] ∧ l[k] < i) → M = (decide (0 < l.length) && decide (l.length ≤ 64) && decide (x = 0))) := Lib.hid (fun ha => by
          rw [← hM]
          have : (l.all fun k => decide (0 ≤ k ∧ k < i)) = true := by
            rw [List.all_eq_true]
            intro y hy
            obtain ⟨k, hk, rfl⟩ := List.getElem_of_mem hy
            exact decide_eq_true (ha k hk)
          rw [this]; rfl)
        clear hM hk
        have hp : Ints (w.alloc (.cells #[.int .u8 kd', .float .f64 x, .slice A l.length c] 47)) A l := h.below (below_al (Below.refl _ _) _)
        have hg : Below w.heap.size w (w.alloc (.cells #[.int .u8 kd', .float .f64 x, .slice A l.length c] 47)) := below_al (Below.refl _ _) _
        clear h
        rcases hk' with rfl | rfl
        all_goals (
          go_enter Try.func50, Try.ntmps50
          go_wp2
          go_loop [33] (fun s => ∃ k : Nat, k ≤ l.length ∧ s = .int .i64 k ∧ ∀ j (h : j < l.length), j < k → 0 ≤ l[j] ∧ l[j] < i) (fun s => l.length - (intOf s).toNat)
          case atStart => exact ⟨0, by omega, rfl, fun j _ h => absurd h (by omega)⟩
          case round =>
            obtain ⟨k, hk, rfl, hno⟩ := hrel
            replace hno := Lib.hid hno
            by_cases hkl : k = l.length
            · have eM := Lib.hid (hok.out (fun j hj => hno.out j hj (by omega)))
              clear hok hal hno hp
              subst hkl
              by_cases q0 : 0 < l.length
              · by_cases q1 : l.length ≤ 64
                · by_cases q2 : x = 0
                  · subst q2
                    have e1 : (((0 : Nat) : Int) == 0) = true := rfl
                    have e0 : Hid (M = true) := Lib.hid (by rw [eM.out, decide_eq_true q0, decide_eq_true q1]; rfl)
                    go_wp2
                    go_ret
                    exact ⟨ret_bool e0.out.symm, hg⟩
                  · have e1 : ((x : Int) == 0) = false := beq_eq_false_iff_ne.mpr (by omega)
                    have e0 : Hid (M = false) := Lib.hid (by rw [eM.out, decide_eq_true q0, decide_eq_true q1, decide_eq_false q2]; rfl)
                    clear q2
                    go_wp2
                    go_ret
                    exact ⟨ret_bool e0.out.symm, hg⟩
                · have e0 : Hid (M = false) := Lib.hid (by rw [eM.out, decide_eq_false q1, Bool.and_false, Bool.false_and])
                  go_wp2
                  go_ret
                  exact ⟨ret_bool e0.out.symm, hg⟩
              · have e0 : Hid (M = false) := Lib.hid (by rw [eM.out, decide_eq_false q0]; rfl)
                go_wp2
                go_ret
                exact ⟨ret_bool e0.out.symm, hg⟩
            have hlt : k < l.length := by omega
            obtain ⟨b, o, rfl, hbl, d0⟩ := Ints.at_ hp hlt
            have hbad : ¬ (0 ≤ l[k] ∧ l[k] < i) → Hid (M = false) := fun e => Lib.hid (hal.out ⟨k, hlt, e⟩)
            have hyes : (0 ≤ l[k] ∧ l[k] < i) → Hid (∀ j (h : j < l.length), j < k + 1 → 0 ≤ l[j] ∧ l[j] < i) := fun e => Lib.hid (fun j h hj => by
              by_cases q : j = k
              · subst q; exact e
              · exact hno.out j h (by omega))
            generalize l[k] = y at *
            clear hno hal hok
            by_cases q0 : y < 0
            · have e0 := hbad (by omega)
              clear hbad hyes
              go_wp2
              go_ret
              exact ⟨ret_bool e0.out.symm, hg⟩
            by_cases q1 : i ≤ y
            · have e0 := hbad (by omega)
              clear hbad hyes
              go_wp2
              go_ret
              exact ⟨ret_bool e0.out.symm, hg⟩
            have hy := hyes (by omega)
            clear hbad hyes
            go_wp2
            go_round
            case rel => exact ⟨k + 1, by omega, by go_num, hy.out⟩
            case measure => simp [intOf]; omega)
      exact main kd hk
    · rw [if_neg hk] at hM
      subst hM
      have k1 : (kd == 1) = false := beq_eq_false_iff_ne.mpr (fun e => hs (Or.inl e))
      have k2 : (kd == 2) = false := beq_eq_false_iff_ne.mpr (fun e => hs (Or.inr (Or.inl e)))
      have k3 : (kd == 3) = false := beq_eq_false_iff_ne.mpr (fun e => hs (Or.inr (Or.inr e)))
      have k4 : (kd == 4) = false := beq_eq_false_iff_ne.mpr (fun e => hk (Or.inl e))
      have k5 : (kd == 5) = false := beq_eq_false_iff_ne.mpr (fun e => hk (Or.inr e))
      clear h hs hk hF hG hB
      go_enter Try.func50, Try.ntmps50
      go_wp2
      go_ret
      exact ⟨rfl, below_al (Below.refl _ _) _⟩
end Go.Proofs.Ytfmjmjppkdaanaa
