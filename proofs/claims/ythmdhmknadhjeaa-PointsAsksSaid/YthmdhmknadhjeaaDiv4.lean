/- Points: Div64, walked. -/
import Derived.Test.YthmdhmknadhjeaaDiv3
import Derived.Deep.CutBlock
namespace Go.Proofs.Ythmdhmknadhjeaa
open Go.RowKit Go.BigFrame

set_option maxRecDepth 100000 in
set_option maxHeartbeats 8000000 in
theorem div_up (hi lo y : Nat) (h0 : 0 < hi) (w : World) (hlo : lo < 18446744073709551616) (hy : hi < y) (hy2 : y < 18446744073709551616) :
    Calls Try.prog 54 #[.int .u64 hi, .int .u64 lo, .int .u64 y] w fun e w' => e = .returned (.tuple #[.int .u64 (((hi * 18446744073709551616 + lo) / y : Nat) : Int), .int .u64 (((hi * 18446744073709551616 + lo) % y : Nat) : Int)]) ∧ Drawn w w' := by
  obtain ⟨s, Y, y1, y0, Hs, Lh, U, Lo, u1, u0, T1, R1, T0, R0, hs, es, g⟩ := dg_of hi lo y h0 hlo hy hy2
  have h1 : ((y : Int) == 0) = false := by simp; omega
  have h2 : ¬ (y : Int) ≤ hi := by omega
  have h3 : ((hi : Int) == 0) = false := by simp; omega
  have L := fun w => Try.bits_LeadingZeros64 (y : Int) w (by omega) (by omega)
  rw [Int.toNat_natCast, es] at L
  have hq := Lib.hid g.q
  have hm := Lib.hid g.m
  have k1 := g.k1
  have k0 := g.k0
  have e1 := g.e1
  have e2 := g.e2
  have e3 := g.e3
  have e4 := g.e4
  have e5 := g.e5
  have e6 := g.e6
  have e7 := g.e7
  have e8 := g.e8
  have e9 := g.e9
  have lY := g.lY
  have hy10 : ((y1 : Int) == 0) = false := by have := k1.a1; simp; omega
  have hy11 : (y1 : Int) ≠ 0 := by have := k1.a1; omega
  obtain ⟨q, r, qy, e10, e11, e12, hqr, hTq, hr⟩ := k1.guess lY
  obtain ⟨qb, rb, qyb, f10, f11, f12, hqrb, hTqb, hrb⟩ := k0.guess lY
  obtain ⟨A1, B1, C1, a1, a2, a3, a4⟩ := k1.un g.r1 lY
  obtain ⟨A0, B0, C0, c1, c2, c3, c4⟩ := k0.un g.r0 lY
  have lT1 := k1.lt
  have lT0 := k0.lt
  have d1 : IntKind.u64.wrap ((T1 : Int) * 4294967296) = ((T1 * 4294967296 : Nat) : Int) := by rw [u64_in _ (by omega)]; omega
  have d2 : IntKind.u64.wrap (((T1 * 4294967296 : Nat) : Int) + (T0 : Int)) = ((T1 * 4294967296 + T0 : Nat) : Int) := by rw [u64_in _ (by omega)]; omega
  have d3 : (R0 : Int) / 2 ^ s = ((R0 / 2 ^ s : Nat) : Int) := by rw [Int.natCast_ediv, Int.natCast_pow]; rfl
  rw [← g.q] at d2
  rw [← g.m] at d3
  generalize (hi * 18446744073709551616 + lo) / y = Q at *
  generalize (hi * 18446744073709551616 + lo) % y = M at *
  generalize T1 * 4294967296 = TT at *
  replace hqr := Lib.hid hqr
  replace hqrb := Lib.hid hqrb
  replace hTq := Lib.hid hTq
  replace hTqb := Lib.hid hTqb
  replace hr := Lib.hid hr
  replace hrb := Lib.hid hrb
  replace k1 := Lib.hid k1
  replace k0 := Lib.hid k0
  replace lY := Lib.hid lY
  clear es g hq hm lT1 lT0
  go_enter Try.func54, Try.ntmps54
  go_upto_block 0 with (go_at_call 64; refine (L _).mono ?_; rintro e w1 ⟨rfl, hw⟩; subst hw)
  obtain ⟨wo, hwo⟩ : ∃ wo : World, wo = w1 := ⟨_, rfl⟩
  clear L e1 e2 e3 e4 e5 e6 e7 e8 e9 e10 e11 e12 h1 h2 h3
  go_cut [15] from 67 (fun s15 wx => s15 = .int .u64 (T1 : Nat) ∧ w1 = wx)
  case first =>
    clear f10 f11 f12 a1 a2 a3 a4 c1 c2 c3 c4 d1 d2 d3
    go_wp2_with fail
    go_loop [15, 16] (fun a b => ∃ q r : Nat, a = .int .u64 q ∧ b = .int .u64 r ∧ q * y1 + r = U ∧ T1 ≤ q ∧ r < 4294967296) (fun a _ => (intOf a).toNat)
    case atStart => exact ⟨q, r, rfl, rfl, hqr.out, hTq.out, hr.out⟩
    case round =>
      clear hTq hr hqr
      obtain ⟨q, r, rfl, rfl, hqr, hTq, hr⟩ := hrel
      obtain ⟨a, b, c, m1, m2, m3, mm⟩ := k1.out.move lY.out hqr hTq hr
      clear hqr hTq hr
      rcases mm with ⟨p, ρ, n1, n2, hp1, hp2, hpq, hc, hx⟩ | ⟨hqT, hq, hc⟩
      · replace hp1 := Lib.hid hp1
        replace hp2 := Lib.hid hp2
        replace hpq := Lib.hid hpq
        rcases hc with hc | ⟨hq, hc⟩
        · clear m1 m2 m3
          have g1 : (4294967296 : Int) ≤ (q : Int) := by omega
          clear hc
          rcases hx with ⟨hx, hpT⟩ | hx
          · have g2 : (4294967296 : Int) ≤ (ρ : Int) := by omega
            replace hpT := Lib.hid hpT
            clear hx
            go_wp2
            go_meet
            exact ⟨by rw [hpT.out], rfl⟩
          · have g2 : ¬ (4294967296 : Int) ≤ (ρ : Int) := by omega
            replace hx := Lib.hid hx
            go_wp2
            go_round
            case rel => exact ⟨p, ρ, rfl, rfl, hp1.out, hp2.out, hx.out⟩
            case measure => have := hpq.out; simp [intOf]; omega
        · have m1 := m1 hq
          have g1 : ¬ (4294967296 : Int) ≤ (q : Int) := by omega
          have g3 : (c : Int) < (a : Int) := by omega
          clear hc hq
          rcases hx with ⟨hx, hpT⟩ | hx
          · have g2 : (4294967296 : Int) ≤ (ρ : Int) := by omega
            replace hpT := Lib.hid hpT
            clear hx
            go_wp2
            go_meet
            exact ⟨by rw [hpT.out], rfl⟩
          · have g2 : ¬ (4294967296 : Int) ≤ (ρ : Int) := by omega
            replace hx := Lib.hid hx
            go_wp2
            go_round
            case rel => exact ⟨p, ρ, rfl, rfl, hp1.out, hp2.out, hx.out⟩
            case measure => have := hpq.out; simp [intOf]; omega
      · have m1 := m1 hq
        have g1 : ¬ (4294967296 : Int) ≤ (q : Int) := by omega
        have g3 : ¬ (c : Int) < (a : Int) := by omega
        clear hc hq
        replace hqT := Lib.hid hqT
        go_wp2
        go_meet
        exact ⟨by rw [hqT.out], rfl⟩
  case rest =>
    obtain ⟨rfl, rfl⟩ := hcut
    clear hqr hTq hr
    go_upto_block 2 with fail
    clear f10 f11 f12 a1 a2 a3 a4
    go_cut [18] from 102 (fun s18 wx => s18 = .int .u64 (T0 : Nat) ∧ w1 = wx)
    case first =>
      clear c1 c2 c3 c4 d1 d2 d3
      go_wp2_with fail
      go_loop [18, 16] (fun a b => ∃ q r : Nat, a = .int .u64 q ∧ b = .int .u64 r ∧ q * y1 + r = R1 ∧ T0 ≤ q ∧ r < 4294967296) (fun a _ => (intOf a).toNat)
      case atStart => exact ⟨qb, rb, rfl, rfl, hqrb.out, hTqb.out, hrb.out⟩
      case round =>
        clear hTqb hrb hqrb
        obtain ⟨q, r, rfl, rfl, hqr, hTq, hr⟩ := hrel
        obtain ⟨a, b, c, m1, m2, m3, mm⟩ := k0.out.move lY.out hqr hTq hr
        clear hqr hTq hr
        rcases mm with ⟨p, ρ, n1, n2, hp1, hp2, hpq, hc, hx⟩ | ⟨hqT, hq, hc⟩
        · replace hp1 := Lib.hid hp1
          replace hp2 := Lib.hid hp2
          replace hpq := Lib.hid hpq
          rcases hc with hc | ⟨hq, hc⟩
          · clear m1 m2 m3
            have g1 : (4294967296 : Int) ≤ (q : Int) := by omega
            clear hc
            rcases hx with ⟨hx, hpT⟩ | hx
            · have g2 : (4294967296 : Int) ≤ (ρ : Int) := by omega
              replace hpT := Lib.hid hpT
              clear hx
              go_wp2
              go_meet
              exact ⟨by rw [hpT.out], rfl⟩
            · have g2 : ¬ (4294967296 : Int) ≤ (ρ : Int) := by omega
              replace hx := Lib.hid hx
              go_wp2
              go_round
              case rel => exact ⟨p, ρ, rfl, rfl, hp1.out, hp2.out, hx.out⟩
              case measure => have := hpq.out; simp [intOf]; omega
          · have m1 := m1 hq
            have g1 : ¬ (4294967296 : Int) ≤ (q : Int) := by omega
            have g3 : (c : Int) < (a : Int) := by omega
            clear hc hq
            rcases hx with ⟨hx, hpT⟩ | hx
            · have g2 : (4294967296 : Int) ≤ (ρ : Int) := by omega
              replace hpT := Lib.hid hpT
              clear hx
              go_wp2
              go_meet
              exact ⟨by rw [hpT.out], rfl⟩
            · have g2 : ¬ (4294967296 : Int) ≤ (ρ : Int) := by omega
              replace hx := Lib.hid hx
              go_wp2
              go_round
              case rel => exact ⟨p, ρ, rfl, rfl, hp1.out, hp2.out, hx.out⟩
              case measure => have := hpq.out; simp [intOf]; omega
        · have m1 := m1 hq
          have g1 : ¬ (4294967296 : Int) ≤ (q : Int) := by omega
          have g3 : ¬ (c : Int) < (a : Int) := by omega
          clear hc hq
          replace hqT := Lib.hid hqT
          go_wp2
          go_meet
          exact ⟨by rw [hqT.out], rfl⟩
    case rest =>
      obtain ⟨rfl, rfl⟩ := hcut
      clear hqrb hTqb hrb
      go_wp2
      go_ret2
      exact ⟨rfl, Drawn.refl _⟩
theorem div_all (H : Nat) : DivOk H := by
  rcases Nat.eq_zero_or_pos H with h | h
  · rw [h]; exact div_zero
  · intro lo y w hlo hy hy2
    exact div_up H lo y h w hlo hy hy2
end Go.Proofs.Ythmdhmknadhjeaa
