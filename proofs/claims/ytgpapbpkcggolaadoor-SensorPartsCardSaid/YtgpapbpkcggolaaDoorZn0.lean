/- Sensor: Zone, the program's and the document's; the document's Median: walked. -/
import Derived.Test.YtgpapbpkcggolaaDoorSrt10
namespace Go.Proofs.YtgpapbpkcggolaaDoor
open Go.RowKit Go.BigFrame

/-- the marks from one on, n of those ahead reached, p the one ahead -/
def zscan (deg : Int) : Option Int → List Int → Nat → Option Nat
  | _, [], n => some n
  | p, m :: l, n => if p.any (fun q => decide (m ≤ q)) then none else zscan deg (some m) l (if m ≤ deg then n + 1 else n)
def zonep (l : List Int) (deg : Int) : Int × Int := if 64 < l.length then (0, 1) else match zscan deg none l 0 with
  | none => (0, 1)
  | some n => ((n : Int), 0)
def prev (l : List Int) (i : Nat) : Option Int := if i = 0 then none else l[i - 1]?
theorem zscan_step {l : List Int} {deg : Int} {i n : Nat} (hi : i < l.length) : zscan deg (prev l i) (l.drop i) n = if (prev l i).any (fun q => decide (l[i] ≤ q)) then none else zscan deg (prev l (i + 1)) (l.drop (i + 1)) (if l[i] ≤ deg then n + 1 else n) := by
  rw [List.drop_eq_getElem_cons hi, zscan]
  have e : prev l (i + 1) = some l[i] := by unfold prev; rw [if_neg (by omega), Nat.add_sub_cancel, List.getElem?_eq_getElem hi]
  rw [e]
theorem zscan_end {l : List Int} {deg : Int} {i n : Nat} (hi : i = l.length) : zscan deg (prev l i) (l.drop i) n = some n := by
  rw [List.drop_eq_nil_of_le (by omega), zscan]
set_option maxRecDepth 100000 in
set_option maxHeartbeats 2000000 in
theorem zone_any (l : List Int) (A : Option Addr) (c n : Nat) (deg : Int) (w : World) (h : I8s w A l) (hn : l.length = n) :
    Calls Tryd.prog 24 #[.slice A n c, .int .i8 deg] w fun e w' => e = .returned (.tuple #[.int .i64 (zonep l deg).1, .int .i64 (zonep l deg).2]) ∧ w = w' := by
  have hle := h.le
  by_cases h64 : 64 < n
  · have e : zonep l deg = (0, 1) := by unfold zonep; rw [if_pos (by omega)]
    rw [e]
    have g1 : (64 : Int) < (n : Int) := by omega
    replace hn := Lib.hid hn
    clear h e
    go_enter Tryd.func24, Tryd.ntmps24
    go_wp2
    go_ret2
    exact ⟨rfl, rfl⟩
  · obtain ⟨R, hR⟩ : ∃ R, R = zonep l deg := ⟨_, rfl⟩
    rw [← hR]
    have hR0 : Hid (R = match zscan deg (prev l 0) (l.drop 0) 0 with
      | none => (0, 1)
      | some n => ((n : Int), 0)) := Lib.hid (by rw [hR]; unfold zonep; rw [if_neg (by omega)]; rfl)
    have hc := Lib.hid fun (k : Nat) (hk : k < l.length) => h.at_ hk
    have g1 : ¬ (64 : Int) < (n : Int) := by omega
    replace hn := Lib.hid hn
    clear h hR
    go_enter Tryd.func24, Tryd.ntmps24
    go_upto_region 5 with fail
    go_loopw [6, 7, 8, 14] (fun s6 _ _ s14 wr => ∃ (i k : Nat), i ≤ n ∧ k ≤ i ∧ s14 = .int .i64 i ∧ s6 = .int .i64 k ∧ w = wr ∧ Hid (R = match zscan deg (prev l i) (l.drop i) k with
      | none => (0, 1)
      | some n => ((n : Int), 0))) (fun _ _ _ s14 _ => n - (intOf s14).toNat)
    case atStart => exact ⟨0, 0, by omega, by omega, rfl, rfl, rfl, hR0⟩
    case round =>
      clear hR0
      obtain ⟨i, k, hi, hk, rfl, rfl, rfl, hR⟩ := hrel
      by_cases hin : i = n
      · have hR' : Hid (R = ((k : Int), 0)) := Lib.hid (by rw [hR.out, zscan_end (by rw [hn.out]; exact hin)])
        clear hR hc
        subst hin
        go_wp2
        go_ret2
        rw [hR'.out]
        exact ⟨rfl, rfl⟩
      · have hlt : i < n := by omega
        have hil : i < l.length := by rw [hn.out]; exact hlt
        have hst := zscan_step (deg := deg) (n := k) hil
        obtain ⟨b, o, rfl, _, c0⟩ := hc.out i hil
        have hlt' : (i : Int) < (n : Int) := by omega
        obtain ⟨tst, ht⟩ : ∃ tst, tst = (prev l i).any (fun q => decide (l[i] ≤ q)) := ⟨_, rfl⟩
        rw [← ht] at hst
        replace hst := Lib.hid hst
        have hpd := Lib.hid fun (q : Nat) (hq : i = q + 1) => (by
          obtain ⟨b', o', e', _, c'⟩ := hc.out q (by omega)
          cases e'; exact c' : w.cell? ⟨b, o + q, none⟩ = some (.int .i8 (l[q]'(by omega))))
        have htp := Lib.hid fun (q : Nat) (hq : i = q + 1) => (by
          rw [ht]; subst hq; unfold prev; rw [if_neg (by omega), Nat.add_sub_cancel, List.getElem?_eq_getElem (by omega)]; rfl : tst = decide (l[i] ≤ l[q]'(by omega)))
        have ht0 := Lib.hid fun (hq : i = 0) => (by rw [ht]; subst hq; rfl : tst = false)
        clear ht hc
        generalize l[i] = x at *
        go_upto_region 7 with fail
        go_cut [29] from 19 to 28 (fun s30 wx => s30 = .bool tst ∧ w = wx)
        case first =>
          by_cases hi0 : i = 0
          · have e0 := ht0.out hi0
            subst hi0
            subst e0
            clear htp hpd hst
            have g3 : ¬ (0 : Int) < ((0 : Nat) : Int) := by omega
            go_wp2
            go_meet
            case rel => exact ⟨rfl, rfl⟩
          · obtain ⟨q, hq⟩ : ∃ q, i = q + 1 := ⟨i - 1, by omega⟩
            have c1 := hpd.out q hq
            have e1 := Lib.hid (htp.out q hq)
            subst hq
            clear htp hpd hst ht0
            rw [show ((q + 1 : Nat) : Int) = (q : Int) + 1 by omega]
            generalize l[q] = y at *
            have g3 : (0 : Int) < (q : Int) + 1 := by omega
            go_wp2
            go_meet
            case rel => exact ⟨by rw [e1.out], rfl⟩
        case rest =>
          obtain ⟨rfl, rfl⟩ := hcut
          clear hpd htp ht0 c0
          cases tst
          · have hR1 : Hid (R = match zscan deg (prev l (i + 1)) (l.drop (i + 1)) (if x ≤ deg then k + 1 else k) with
              | none => (0, 1)
              | some n => ((n : Int), 0)) := Lib.hid (by rw [hR.out, hst.out]; rfl)
            clear hst hR
            by_cases hxd : x ≤ deg
            · rw [if_pos hxd] at hR1
              go_wp2
              go_roundw
              case rel => exact ⟨i + 1, k + 1, by omega, by omega, by go_num, by go_num, by first | exact rfl | exact trivial, hR1⟩
              case measure => first | (simp [intOf]; done) | (simp [intOf]; omega)
            · rw [if_neg hxd] at hR1
              go_wp2
              go_roundw
              case rel => exact ⟨i + 1, k, by omega, by omega, by go_num, by go_num, by first | exact rfl | exact trivial, hR1⟩
              case measure => first | (simp [intOf]; done) | (simp [intOf]; omega)
          · have hR1 : Hid (R = (0, 1)) := Lib.hid (by rw [hR.out, hst.out]; rfl)
            clear hst hR
            go_wp2
            go_ret2
            rw [hR1.out]
            exact ⟨rfl, rfl⟩
end Go.Proofs.YtgpapbpkcggolaaDoor
