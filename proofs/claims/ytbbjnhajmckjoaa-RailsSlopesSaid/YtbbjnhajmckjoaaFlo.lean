/- Rails: floats' bits, tests on floats, walked: Abs, IsInf, finite (the program's and the reference's), NaN, Inf, the law's sameFloat. -/
import Derived.Test.YtbbjnhajmckjoaaMeet3
import Derived.Test.YtbbjnhajmckjoaaCls
import Derived.Test.YtbbjnhajmckjoaaFltOps
import Derived.Laws.BitsAllLaws
import Derived.Laws.FloatArith
import Derived.BigQuiet
namespace Go.Proofs.Ytbbjnhajmckjoaa
open Go.RowKit Go.BigFrame flt Ieee

theorem drawn_N {w : World} (n : Nat) : Drawn w (w.drewN n) := (Drawn.refl w).drewN n
/-- an operation, veiled: what it gives, how often it asks -/
theorem veil {op : BinOp} (ho : Ar op) (t : TypeId) : ∃ (F : Nat → Nat → World → Nat) (G : Nat → Nat → Nat), (∀ x y w, (binOp op t (.float .f64 x) (.float .f64 y)).run Try.prog w = .ok (.float .f64 (F x y w)) (w.drewN (G x y))) ∧ ∀ x y w, cls (F x y w) = op2 op (cls x) (cls y) :=
  ⟨fv op, fd op, fun x y w => run_arith ho t x y w, fun x y w => cls_op2 op x y w⟩
theorem from_run (n : Int) (w : World) : (callFunc 61 #[.int .u64 n]).run Try.prog w = .ok (.value (.float .f64 n.toNat)) w := by kernel_rfl
theorem bits_run (b : Nat) (w : World) : (callFunc 57 #[.float .f64 b]).run Try.prog w = .ok (.value (.int .u64 b)) w := by kernel_rfl
theorem clear_sign (x : Nat) : bits BinOp.andNot IntKind.u64 (x : Int) 9223372036854775808 = (rung x : Int) := by
  have e : bits BinOp.andNot IntKind.u64 (x : Int) 9223372036854775808 = bits BinOp.andNot IntKind.u64 ((x % 18446744073709551616 : Nat) : Int) ((9223372036854775808 : Nat) : Int) := by
    have q : BitVec.ofInt 64 (x : Int) = BitVec.ofInt 64 ((x % 18446744073709551616 : Nat) : Int) := by
      apply BitVec.eq_of_toNat_eq
      simp only [BitVec.toNat_ofInt]
      omega
    show IntKind.u64.wrap ((BitVec.ofInt 64 (x : Int) &&& ~~~ BitVec.ofInt 64 9223372036854775808).toNat : Int) = IntKind.u64.wrap ((BitVec.ofInt 64 ((x % 18446744073709551616 : Nat) : Int) &&& ~~~ BitVec.ofInt 64 9223372036854775808).toNat : Int)
    rw [q]
  rw [e, u64_andNot_nat _ _ (Nat.mod_lt _ (by decide)) (by decide)]
  have h : (x % 18446744073709551616) &&& (18446744073709551615 - 9223372036854775808) = (x % 18446744073709551616) % 2 ^ 63 := Nat.and_two_pow_sub_one_eq_mod _ 63
  rw [h]
  unfold rung
  rw [signWeight_eq]
  omega
set_option maxHeartbeats 1000000 in
theorem abs_any (x : Nat) (w : World) : Calls Try.prog 43 #[.float .f64 x] w fun e w' => e = .returned (.float .f64 (rung x)) ∧ w' = w := by
  have h1 := bits_run x
  have h2 := from_run (rung x)
  have h3 := clear_sign x
  simp only [Int.toNat_natCast] at h2
  go_enter Try.func43, Try.ntmps43
  go_wp2
  go_ret
  exact ⟨rfl, rfl⟩
set_option maxHeartbeats 1000000 in
theorem isInf_any (x : Nat) (w : World) : Calls Try.prog 76 #[.float .f64 x, .int .i64 0] w fun e w' => e = .returned (.bool (isInf (cls x))) ∧ w' = w := by
  have H : Hid ((FloatKind.f64.format.order (rung x) 9218868437227405311 == some .gt) = isInf (cls x)) := Lib.hid (abs_test x)
  generalize isInf (cls x) = b at *
  go_enter Try.func76, Try.ntmps76
  go_wp2_with (go_at_call 43; (with_reducible refine (abs_any _ _).mono ?_); rintro e w1 ⟨rfl, rfl⟩)
  go_ret
  exact ⟨ret_bool H.out, rfl⟩
theorem nan_lit (W : World) : Calls Try.prog 42 #[] W fun e w' => e = .returned (.float .f64 9221120237041090561) ∧ w' = W := by
  have hf := fun W => from_run 9221120237041090561 W
  simp only [show (9221120237041090561 : Int).toNat = 9221120237041090561 from rfl] at hf
  go_enter Try.func42, Try.ntmps42
  go_wp2
  go_ret
  exact ⟨rfl, rfl⟩
theorem inf_lit (W : World) : Calls Try.prog 60 #[.int .i64 1] W fun e w' => e = .returned (.float .f64 9218868437227405312) ∧ w' = W := by
  have hf := fun W => from_run 9218868437227405312 W
  simp only [show (9218868437227405312 : Int).toNat = 9218868437227405312 from rfl] at hf
  go_enter Try.func60, Try.ntmps60
  go_wp2
  go_ret
  exact ⟨rfl, rfl⟩
theorem order_z (x : Nat) : FloatKind.f64.format.order x 0 = ord (cls x) (some 0) := by
  have e := order_cls x 0
  rw [cls_nn nn_zero] at e
  exact e
theorem order_m (x : Nat) : FloatKind.f64.format.order x 9218868437227405311 = ord (cls x) (some 9218868437227405311) := by
  have e := order_cls x 9218868437227405311
  rw [cls_nn nn_max] at e
  exact e
theorem isFin_eq (x : Nat) : isFin (cls x) = (!(cls x).isNone && !isInf (cls x)) := by
  cases h : cls x with
  | none => rfl
  | some a =>
    obtain ⟨rfl, hn⟩ := cls_some h
    have := rung_le hn
    simp only [isFin, isInf, Option.isNone_some, Bool.not_false, Bool.true_and]
    by_cases q : rung x = double.infRung
    · rw [decide_eq_true q, decide_eq_false (by omega)]; rfl
    · rw [decide_eq_false q, decide_eq_true (by omega)]; rfl
set_option maxHeartbeats 1000000 in
/-- the closure of finite -/
theorem odd_any (x : Nat) (w : World) : Calls Try.prog 75 #[.float .f64 x] w fun e w' => e = .returned (.bool (!isFin (cls x))) ∧ w' = w := by
  have h1 : (FloatKind.f64.format.order x x != some .eq) = (cls x).isNone := nan_test x
  have h2 := isInf_any x
  rw [isFin_eq]
  generalize (cls x).isNone = a at *
  generalize isInf (cls x) = b at *
  cases a
  · go_enter Try.func75, Try.ntmps75
    go_wp2_with (go_at_call 76; (with_reducible refine (h2 _).mono ?_); rintro e w1 ⟨rfl, rfl⟩)
    go_ret
    exact ⟨ret_bool (by cases b <;> rfl), rfl⟩
  · go_enter Try.func75, Try.ntmps75
    go_wp2_with (go_at_call 76; (with_reducible refine (h2 _).mono ?_); rintro e w1 ⟨rfl, rfl⟩)
    go_ret
    exact ⟨ret_bool (by cases b <;> rfl), rfl⟩
set_option maxHeartbeats 1000000 in
theorem indexf_any (g c : Nat) (xs : List Nat) (w : World) (hl : xs.length ≤ 9223372036854775807) (hc : ∀ i (h : i < xs.length), w.cell? ⟨g, i, none⟩ = some (.float .f64 xs[i])) :
    Calls Try.prog 86 #[.slice (some ⟨g, 0, none⟩) xs.length c, .func (.func 75) #[] #[]] w fun e w' => ∃ r : Int, e = .returned (.int .i64 r) ∧ (0 ≤ r ↔ ∃ i, ∃ h : i < xs.length, isFin (cls xs[i]) = false) ∧ w' = w := by
  go_enter Try.func86, Try.ntmps86
  go_wp2
  go_loop [8] (fun s => ∃ k : Nat, k ≤ xs.length ∧ s = .int .i64 k ∧ ∀ j (h : j < xs.length), j < k → isFin (cls xs[j]) = true) (fun s => xs.length - (intOf s).toNat)
  case atStart => exact ⟨0, by omega, rfl, fun j _ h => absurd h (by omega)⟩
  case round =>
    obtain ⟨k, hk, rfl, hno⟩ := hrel
    replace hno := Lib.hid hno
    by_cases hkl : k = xs.length
    · clear hc
      go_wp2
      go_ret
      refine ⟨-1, rfl, ⟨fun h => absurd h (by decide), fun ⟨i, hi, hp⟩ => ?_⟩, rfl⟩
      rw [hno.out i hi (by omega)] at hp
      cases hp
    have hlt : k < xs.length := by omega
    have c0 := hc k hlt
    have B := odd_any xs[k]
    have hyes : isFin (cls xs[k]) = true → Hid (∀ j (h : j < xs.length), j < k + 1 → isFin (cls xs[j]) = true) := fun e => Lib.hid (fun j h hj => by
      by_cases q : j = k
      · subst q; exact e
      · exact hno.out j h (by omega))
    have hbad : isFin (cls xs[k]) = false → Hid (∃ i, ∃ h : i < xs.length, isFin (cls xs[i]) = false) := fun e => Lib.hid ⟨k, hlt, e⟩
    clear hc
    generalize xs[k] = x at *
    cases hp : isFin (cls x)
    · have hb := hbad hp
      rw [hp] at B
      clear hbad hyes hp
      go_wp2_with (go_at_call 75; (with_reducible refine (B _).mono ?_); rintro e w1 ⟨rfl, rfl⟩)
      go_ret
      exact ⟨_, rfl, ⟨fun _ => hb.out, fun _ => by omega⟩, rfl⟩
    · have hy := hyes hp
      rw [hp] at B
      clear hbad hyes hp
      go_wp2_with (go_at_call 75; (with_reducible refine (B _).mono ?_); rintro e w1 ⟨rfl, rfl⟩)
      go_round
      case rel => exact ⟨k + 1, by omega, by go_num, hy.out⟩
      case measure => simp [intOf]; omega
set_option maxHeartbeats 1000000 in
theorem finite_any (g c : Nat) (xs : List Nat) (w : World) (hl : xs.length ≤ 9223372036854775807) (hc : ∀ i (h : i < xs.length), w.cell? ⟨g, i, none⟩ = some (.float .f64 xs[i])) :
    Calls Try.prog 58 #[.slice (some ⟨g, 0, none⟩) xs.length c] w fun e w' => e = .returned (.bool (xs.all fun x => isFin (cls x))) ∧ w' = w := by
  have K := indexf_any g c xs w hl hc
  have e1 : Hid (∀ r : Int, (0 ≤ r ↔ ∃ i, ∃ h : i < xs.length, isFin (cls xs[i]) = false) → (!decide (0 ≤ r)) = xs.all fun x => isFin (cls x)) := Lib.hid (fun r hr => by
    by_cases q : 0 ≤ r
    · obtain ⟨i, hi, hp⟩ := hr.mp q
      rw [decide_eq_true q]
      symm
      rw [Bool.not_true, List.all_eq_false]
      exact ⟨xs[i], List.getElem_mem hi, by rw [hp]; decide⟩
    · rw [decide_eq_false q]
      symm
      rw [Bool.not_false, List.all_eq_true]
      intro x hx
      obtain ⟨i, hi, rfl⟩ := List.getElem_of_mem hx
      cases hp : isFin (cls xs[i])
      · exact absurd (hr.mpr ⟨i, hi, hp⟩) q
      · rfl)
  clear hc hl
  generalize (xs.all fun x => isFin (cls x)) = b at *
  have C : Calls Try.prog 74 #[.slice (some ⟨g, 0, none⟩) xs.length c, .func (.func 75) #[] #[]] w fun e w' => e = .returned (.bool (!b)) ∧ w' = w := by
    go_enter Try.func74, Try.ntmps74
    go_wp2_with (go_at_call 86; (with_reducible refine K.mono ?_); rintro e w1 ⟨r, rfl, hr, hw⟩; replace hr := Lib.hid hr; subst hw)
    go_ret
    exact ⟨ret_bool (by rw [← e1.out r hr.out]; simp), rfl⟩
  clear K e1
  go_enter Try.func58, Try.ntmps58
  go_wp2_with (go_at_call 74; (with_reducible refine C.mono ?_); rintro e w1 ⟨rfl, hw⟩; subst hw)
  go_ret
  exact ⟨ret_bool (by simp), rfl⟩
end Go.Proofs.Ytbbjnhajmckjoaa
