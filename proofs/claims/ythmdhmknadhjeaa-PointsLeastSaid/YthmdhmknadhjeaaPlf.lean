/- Points: plain (finite, none below nought), walked. -/
import Derived.Test.YthmdhmknadhjeaaFlo
namespace Go.Proofs.Ythmdhmknadhjeaa
open Go.RowKit Go.BigFrame flt Ieee

set_option maxHeartbeats 1000000 in
theorem indexf_any (g : Nat) (xs : List Nat) (w : World) (hl : xs.length ≤ 9223372036854775807) (hc : ∀ i (h : i < xs.length), w.cell? ⟨g, i, none⟩ = some (.float .f64 xs[i])) :
    Calls Try.prog 69 #[.slice (some ⟨g, 0, none⟩) xs.length xs.length, .func (.func 67) #[] #[]] w fun e w' => ∃ r : Int, e = .returned (.int .i64 r) ∧ (0 ≤ r ↔ ∃ i, ∃ h : i < xs.length, pl (cls xs[i]) = false) ∧ w' = w := by
  go_enter Try.func69, Try.ntmps69
  go_wp2
  go_loop [8] (fun s => ∃ k : Nat, k ≤ xs.length ∧ s = .int .i64 k ∧ ∀ j (h : j < xs.length), j < k → pl (cls xs[j]) = true) (fun s => xs.length - (intOf s).toNat)
  case atStart => exact ⟨0, by omega, rfl, fun j _ h => absurd h (by omega)⟩
  case round =>
    obtain ⟨k, hk, rfl, hno⟩ := hrel
    replace hno := Lib.hid hno
    by_cases hkl : k = xs.length
    · clear hc
      go_wp2
      go_ret
      refine ⟨-1, rfl, ⟨fun h => absurd h (by decide), fun ⟨i, hi, hp⟩ => ?_⟩, rfl⟩
      rw [hno.out i hi (by omega)] at hp
      cases hp
    have hlt : k < xs.length := by omega
    have c0 := hc k hlt
    have B := bad1_any xs[k]
    have hyes : pl (cls xs[k]) = true → Hid (∀ j (h : j < xs.length), j < k + 1 → pl (cls xs[j]) = true) := fun e => Lib.hid (fun j h hj => by
      by_cases q : j = k
      · subst q; exact e
      · exact hno.out j h (by omega))
    have hbad : pl (cls xs[k]) = false → Hid (∃ i, ∃ h : i < xs.length, pl (cls xs[i]) = false) := fun e => Lib.hid ⟨k, hlt, e⟩
    clear hc
    generalize xs[k] = x at *
    cases hp : pl (cls x)
    · have hb := hbad hp
      rw [hp] at B
      clear hbad hyes hp
      go_wp2_with (go_at_call 67; (with_reducible refine (B _).mono ?_); rintro e w1 ⟨rfl, rfl⟩)
      go_ret
      exact ⟨_, rfl, ⟨fun _ => hb.out, fun _ => by omega⟩, rfl⟩
    · have hy := hyes hp
      rw [hp] at B
      clear hbad hyes hp
      go_wp2_with (go_at_call 67; (with_reducible refine (B _).mono ?_); rintro e w1 ⟨rfl, rfl⟩)
      go_round
      case rel => exact ⟨k + 1, by omega, by go_num, hy.out⟩
      case measure => simp [intOf]; omega
set_option maxHeartbeats 1000000 in
theorem plain_any (g : Nat) (xs : List Nat) (w : World) (hl : xs.length ≤ 9223372036854775807) (hc : ∀ i (h : i < xs.length), w.cell? ⟨g, i, none⟩ = some (.float .f64 xs[i])) :
    Calls Try.prog 58 #[.slice (some ⟨g, 0, none⟩) xs.length xs.length] w fun e w' => e = .returned (.bool (xs.all fun x => pl (cls x))) ∧ w' = w := by
  have K := indexf_any g xs w hl hc
  have e1 : Hid (∀ r : Int, (0 ≤ r ↔ ∃ i, ∃ h : i < xs.length, pl (cls xs[i]) = false) → (!decide (0 ≤ r)) = xs.all fun x => pl (cls x)) := Lib.hid (fun r hr => by
    by_cases q : 0 ≤ r
    · obtain ⟨i, hi, hp⟩ := hr.mp q
      rw [decide_eq_true q]
      symm
      rw [Bool.not_true, List.all_eq_false]
      exact ⟨xs[i], List.getElem_mem hi, by rw [hp]; decide⟩
    · rw [decide_eq_false q]
      symm
      rw [Bool.not_false, List.all_eq_true]
      intro x hx
      obtain ⟨i, hi, rfl⟩ := List.getElem_of_mem hx
      cases hp : pl (cls xs[i])
      · exact absurd (hr.mpr ⟨i, hi, hp⟩) q
      · rfl)
  clear hc hl
  generalize (xs.all fun x => pl (cls x)) = b at *
  have C : Calls Try.prog 66 #[.slice (some ⟨g, 0, none⟩) xs.length xs.length, .func (.func 67) #[] #[]] w fun e w' => e = .returned (.bool (!b)) ∧ w' = w := by
    go_enter Try.func66, Try.ntmps66
    go_wp2_with (go_at_call 69; (with_reducible refine K.mono ?_); rintro e w1 ⟨r, rfl, hr, hw⟩; replace hr := Lib.hid hr; subst hw)
    go_ret
    exact ⟨ret_bool (by rw [← e1.out r hr.out]; simp), rfl⟩
  clear K e1
  go_enter Try.func58, Try.ntmps58
  go_wp2_with (go_at_call 66; (with_reducible refine C.mono ?_); rintro e w1 ⟨rfl, hw⟩; subst hw)
  go_ret
  exact ⟨ret_bool (by simp), rfl⟩
end Go.Proofs.Ythmdhmknadhjeaa
