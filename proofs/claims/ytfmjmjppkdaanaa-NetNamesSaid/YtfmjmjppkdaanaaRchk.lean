/- Net: the reference's Check, walked. -/
import Derived.Test.YtfmjmjppkdaanaaChk
namespace Go.Proofs.Ytfmjmjppkdaanaa
open Go.RowKit Go.BigFrame flt Ieee

theorem lt_zero (x : Nat) (h : isFin (cls x) = true) : (FloatKind.f64.format.order x 0 == some .lt) = !ge0 (cls x) := by
  have e := order_cls x 0
  rw [cls_nn nn_zero] at e
  show (double.order x 0 == some .lt) = _
  rw [e]
  unfold ge0
  cases hx : cls x with
  | none => rw [hx] at h; cases h
  | some a =>
    obtain ⟨rfl, hn⟩ := cls_some hx
    rw [ord_some hn nn_zero]
    cases compare (key x) (key 0) <;> rfl
set_option maxHeartbeats 4000000 in
set_option maxRecDepth 100000 in
theorem rcheck_any (l : List Part) (A : Option Addr) (c : Nat) (w : World) (h : Pn w A l) :
    Calls Try.prog 27 #[.slice A l.length c] w fun e w' => e = .returned (.int .i64 (chk l)) ∧ Below w.heap.size w w' := by
  have hlen := h.1
  have hst : ∀ (p : Addr) (v : Nat) (W : World), (store p (.float .f64 v)).run Try.prog W = stored Try.prog W p (.float .f64 v) .plain := fun p v W => run_store Try.prog W p _ _ rfl
  generalize hM : chk l = M
  unfold chk at hM
  by_cases h0 : l.length < 1
  · have e0 : Hid (M = 290) := Lib.hid (by rw [← hM, if_neg (fun g => by have := g.1; omega)])
    clear h hM
    go_enter Try.func27, Try.ntmps27
    go_wp2
    go_ret
    exact ⟨ret_i64 e0.out.symm, Below.refl _ _⟩
  by_cases h1 : 256 < l.length
  · have e0 : Hid (M = 290) := Lib.hid (by rw [← hM, if_neg (fun g => by have := g.2.1; omega)])
    clear h hM
    go_enter Try.func27, Try.ntmps27
    go_wp2
    go_ret
    exact ⟨ret_i64 e0.out.symm, Below.refl _ _⟩
  have hbad : Hid (∀ k (h : k < l.length), mayp l[k] k = false → M = 290) := Lib.hid (fun k hk hb => by rw [← hM, if_neg (fun g => by have := g.2.2 k hk; rw [hb] at this; cases this)])
  have hok : Hid ((∀ k (h : k < l.length), mayp l[k] k = true) → M = 0) := Lib.hid (fun ha => by rw [← hM, if_pos ⟨by omega, by omega, ha⟩])
  clear hM
  go_enter Try.func27, Try.ntmps27
  go_wp2
  go_loopw [3] (fun s wr => ∃ k : Nat, k ≤ l.length ∧ s = .int .i64 k ∧ (∀ j (h : j < l.length), j < k → mayp l[j] j = true) ∧ Below w.heap.size w wr) (fun s _ => l.length - (intOf s).toNat)
  case atStart => exact ⟨0, by omega, rfl, fun j _ h => absurd h (by omega), Below.refl _ _⟩
  case round =>
    obtain ⟨k, hk, rfl, hno, hd⟩ := hrel
    replace hno := Lib.hid hno
    by_cases hkl : k = l.length
    · have e0 := Lib.hid (hok.out (fun j hj => hno.out j hj (by omega)))
      subst hkl
      clear h hok hbad hno
      go_wp2
      go_ret
      exact ⟨ret_i64 e0.out.symm, hd⟩
    have hlt : k < l.length := by omega
    obtain ⟨b, o, Ai, ci, rfl, hbl, c0, c1, c2, hi, _⟩ := (h.below hd).2 k hlt
    have B1 := Lib.hid (hbad.out k hlt)
    have B2 : Hid (mayp l[k] k = true → ∀ j (h : j < l.length), j < k + 1 → mayp l[j] j = true) := Lib.hid (fun e j h hj => by
      by_cases q : j = k
      · subst q; exact e
      · exact hno.out j h (by omega))
    generalize hm : mayp l[k] k = m at *
    generalize hp : l[k] = p at *
    obtain ⟨kd, x, of⟩ := p
    simp only at c0 c1 c2 hi
    clear hp h hok hbad hno
    unfold mayp at hm
    simp only at hm
    have hlo := hi.le
    have hB := bits_run x
    by_cases hs : kd = 1 ∨ kd = 2 ∨ kd = 3
    · rw [if_pos hs] at hm
      have hF := rfinite_any x
      by_cases hl : 0 < of.length
      · have e0 := Lib.hid (B1.out (by rw [← hm, decide_eq_false (by omega)]; rfl))
        clear hm B1 B2 hi hB hF
        rcases hs with rfl | rfl | rfl
        all_goals (go_wp2; go_ret; exact ⟨ret_i64 e0.out.symm, hd.alloc hd.size _⟩)
      have hz : of.length = 0 := by omega
      rw [decide_eq_true hz, Bool.true_and] at hm
      rw [hz] at c2
      cases hf : isFin (cls x)
      · rw [hf] at hm hF
        have e0 := Lib.hid (B1.out hm.symm)
        clear hm B1 B2 hi hB hf hl hz hlo
        rcases hs with rfl | rfl | rfl
        all_goals (go_wp2_with (go_at_call 44; (with_reducible refine (hF _).mono ?_); rintro e w1 ⟨rfl, hw⟩); go_ret; exact ⟨ret_i64 e0.out.symm, hw.after (hd.alloc hd.size _)⟩)
      · have hL := lt_zero x hf
        rw [hf, Bool.true_and] at hm
        rw [hf] at hF
        rw [hm] at hL
        have p1 : ∀ W, Drawn (wr.alloc (.cells #[.int .u8 kd, .float .f64 x, .slice Ai 0 ci] 47)) W → W.cell? ⟨wr.heap.size, 1, none⟩ = some (.float .f64 x) := fun W hW => by
          rw [hW.cell]
          exact cell_of_row _ _ 1 _ 47 (0, 0) (heap_alloc_at _ _)
        cases m
        · have e0 := Lib.hid (B1.out rfl)
          clear hm B1 B2 hi hB hf hl hz hlo
          rcases hs with rfl | rfl | rfl
          all_goals (go_wp2_with (go_at_call 44; (with_reducible refine (hF _).mono ?_); rintro e w1 ⟨rfl, hw⟩; have p2 := p1 _ hw); go_ret; exact ⟨ret_i64 e0.out.symm, hw.after (hd.alloc hd.size _)⟩)
        · have e2 := Lib.hid (B2.out rfl)
          clear hm B1 B2 hi hB hf hl hz hlo
          rcases hs with rfl | rfl | rfl
          all_goals (
            go_wp2_with (go_at_call 44; (with_reducible refine (hF _).mono ?_); rintro e w1 ⟨rfl, hw⟩; have p2 := p1 _ hw)
            go_roundw
            case rel => exact ⟨k + 1, by omega, by go_num, e2.out, hw.after (hd.alloc hd.size _)⟩
            case measure => simp [intOf]; omega)
    · rw [if_neg hs] at hm
      by_cases hk5 : kd = 4 ∨ kd = 5
      · rw [if_pos hk5] at hm
        by_cases q0 : of.length < 1
        · have e0 := Lib.hid (B1.out (by rw [← hm, decide_eq_false (p := 0 < of.length) (by omega), Bool.and_false]; rfl))
          clear hm B1 B2 hi hB hs
          rcases hk5 with rfl | rfl
          all_goals (go_wp2; go_ret; exact ⟨ret_i64 e0.out.symm, hd.alloc hd.size _⟩)
        by_cases q1 : 64 < of.length
        · have e0 := Lib.hid (B1.out (by rw [← hm, decide_eq_false (p := of.length ≤ 64) (by omega), Bool.and_false]; rfl))
          clear hm B1 B2 hi hB hs
          rcases hk5 with rfl | rfl
          all_goals (go_wp2; go_ret; exact ⟨ret_i64 e0.out.symm, hd.alloc hd.size _⟩)
        by_cases q2 : x = 0
        · subst q2
          have f0 : (((0 : Nat) : Int) != 0) = false := rfl
          have hal : Hid ((∃ j, ∃ h : j < of.length, ¬ (0 ≤ of[j] ∧ of[j] < (k : Int))) → M = 290) := Lib.hid (fun ⟨j, hj, hb⟩ => B1.out (by
            rw [← hm]
            have : (of.all fun y => decide (0 ≤ y ∧ y < (k : Int))) = false := by
              rw [List.all_eq_false]
              exact ⟨of[j], List.getElem_mem hj, by simpa using hb⟩
            rw [this]; rfl))
          have hok : Hid ((∀ j, ∀ h : j < of.length, 0 ≤ of[j] ∧ of[j] < (k : Int)) → ∀ j (h : j < l.length), j < k + 1 → mayp l[j] j = true) := Lib.hid (fun ha => B2.out (by
            rw [← hm]
            have : (of.all fun y => decide (0 ≤ y ∧ y < (k : Int))) = true := by
              rw [List.all_eq_true]
              intro y hy
              obtain ⟨j, hj, rfl⟩ := List.getElem_of_mem hy
              exact decide_eq_true (ha j hj)
            rw [this, decide_eq_true (show 0 < of.length by omega), decide_eq_true (show of.length ≤ 64 by omega)]; rfl))
          have hp : Ints (wr.alloc (.cells #[.int .u8 kd, .float .f64 0, .slice Ai of.length ci] 47)) Ai of := hi.below (below_al (Below.refl _ _) _)
          have hg : Below w.heap.size w (wr.alloc (.cells #[.int .u8 kd, .float .f64 0, .slice Ai of.length ci] 47)) := hd.alloc hd.size _
          clear hm B1 B2 hi hs
          rcases hk5 with rfl | rfl
          all_goals (
            go_wp2
            go_loop [5] (fun s => ∃ j : Nat, j ≤ of.length ∧ s = .int .i64 j ∧ ∀ i (h : i < of.length), i < j → 0 ≤ of[i] ∧ of[i] < (k : Int)) (fun s => of.length - (intOf s).toNat)
            case atStart => exact ⟨0, by omega, rfl, fun i _ h => absurd h (by omega)⟩
            case round =>
              obtain ⟨j, hj, rfl, hno⟩ := hrel
              replace hno := Lib.hid hno
              by_cases hjl : j = of.length
              · have e2 := Lib.hid (hok.out (fun i hi => hno.out i hi (by omega)))
                clear hok hal hno hp
                subst hjl
                go_wp2
                go_roundw
                case rel => exact ⟨k + 1, by omega, by go_num, e2.out, hg⟩
                case measure => simp [intOf]; omega
              have hjt : j < of.length := by omega
              obtain ⟨b2, o2, rfl, hbl2, d0⟩ := Ints.at_ hp hjt
              have hbad : ¬ (0 ≤ of[j] ∧ of[j] < (k : Int)) → Hid (M = 290) := fun e => Lib.hid (hal.out ⟨j, hjt, e⟩)
              have hyes : (0 ≤ of[j] ∧ of[j] < (k : Int)) → Hid (∀ i (h : i < of.length), i < j + 1 → 0 ≤ of[i] ∧ of[i] < (k : Int)) := fun e => Lib.hid (fun i h hj => by
                by_cases q : i = j
                · subst q; exact e
                · exact hno.out i h (by omega))
              generalize of[j] = y at *
              clear hno hal hok
              by_cases q0 : y < 0
              · have e0 := hbad (by omega)
                clear hbad hyes
                go_wp2
                go_ret
                exact ⟨ret_i64 e0.out.symm, hg⟩
              by_cases q1 : (k : Int) ≤ y
              · have e0 := hbad (by omega)
                clear hbad hyes
                go_wp2
                go_ret
                exact ⟨ret_i64 e0.out.symm, hg⟩
              have hy := hyes (by omega)
              clear hbad hyes
              go_wp2
              go_round
              case rel => exact ⟨j + 1, by omega, by go_num, hy.out⟩
              case measure => simp [intOf]; omega)
        · have f0 : ((x : Int) != 0) = true := bne_iff_ne.mpr (by omega)
          have e0 := Lib.hid (B1.out (by rw [← hm, decide_eq_false q2, Bool.and_false]))
          clear hm B1 B2 hi hs q2
          rcases hk5 with rfl | rfl
          all_goals (go_wp2; go_ret; exact ⟨ret_i64 e0.out.symm, hd.alloc hd.size _⟩)
      · rw [if_neg hk5] at hm
        have e0 := Lib.hid (B1.out hm.symm)
        have k1 : (kd == 1) = false := beq_eq_false_iff_ne.mpr (fun e => hs (Or.inl e))
        have k2 : (kd == 2) = false := beq_eq_false_iff_ne.mpr (fun e => hs (Or.inr (Or.inl e)))
        have k3 : (kd == 3) = false := beq_eq_false_iff_ne.mpr (fun e => hs (Or.inr (Or.inr e)))
        have k4 : (kd == 4) = false := beq_eq_false_iff_ne.mpr (fun e => hk5 (Or.inl e))
        have k5 : (kd == 5) = false := beq_eq_false_iff_ne.mpr (fun e => hk5 (Or.inr e))
        clear hs hk5 hm B1 B2 hi hB
        go_wp2
        go_ret
        exact ⟨ret_i64 e0.out.symm, hd.alloc hd.size _⟩
end Go.Proofs.Ytfmjmjppkdaanaa
