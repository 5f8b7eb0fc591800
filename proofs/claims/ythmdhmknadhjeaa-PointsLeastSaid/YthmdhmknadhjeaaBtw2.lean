/- Points: Between, walked. -/
import Derived.Test.YthmdhmknadhjeaaBtw
namespace Go.Proofs.Ythmdhmknadhjeaa
open Go.RowKit Go.BigFrame

/-- either Div64 is known everywhere, or the points are small -/
def Small (l : List Pt) : Prop := (∀ H, DivOk H) ∨ ∀ p ∈ l, p.1 ≤ 2147483648 ∧ p.2 ≤ 2147483648
/-- the numbers of a place between two points -/
structure Mid (l : List Pt) (r a1 a2 : Int) (sp dv dr H L L2 C H2 Q : Nat) : Prop where
  h1 : 1 ≤ sp
  hs : sp ≤ 1000000000000
  hd : dv ≤ 1000000000000
  hr : dr ≤ 1000000000000
  eH : dv * dr / 18446744073709551616 = H
  eL : dv * dr % 18446744073709551616 = L
  eL2 : (L + (sp - 1)) % 18446744073709551616 = L2
  eC : (L + (sp - 1)) / 18446744073709551616 = C
  eH2 : H + C = H2
  lL : L < 18446744073709551616
  lL2 : L2 < 18446744073709551616
  lH2 : H2 < sp
  eQ : (H2 * 18446744073709551616 + L2) / sp = Q
  lQ : Q ≤ 1000000000000
  lQ2 : Q ≤ dv
  eq : cdv ((dv : Int) * dr) sp = Q
  lH : H < sp
  q2 : dv * dr / sp + (if 0 < dv * dr % sp then 1 else 0) = Q
  dv2 : DivOk H2
  dv1 : DivOk H
theorem mid_of {sp dv dr : Nat} (h1 : 1 ≤ sp) (hs : sp ≤ 1000000000000) (hd : dv ≤ 1000000000000) (hr : dr ≤ sp) {l : List Pt} {r a1 a2 : Int} (hS : (∀ H, DivOk H) ∨ (sp ≤ 2147483648 ∧ dv ≤ 2147483648)) :
    ∃ H L L2 C H2 Q, Mid l r a1 a2 sp dv dr H L L2 C H2 Q := by
  have hm : dv * dr ≤ dv * sp := Nat.mul_le_mul_left _ hr
  have hm2 : dv * sp ≤ 1000000000000 * sp := Nat.mul_le_mul_right _ hd
  have e : (dv * dr / 18446744073709551616 + (dv * dr % 18446744073709551616 + (sp - 1)) / 18446744073709551616) * 18446744073709551616 + (dv * dr % 18446744073709551616 + (sp - 1)) % 18446744073709551616 = dv * dr + (sp - 1) := by omega
  have hq : (dv * dr + (sp - 1)) / sp ≤ dv := by
    have : dv * dr + (sp - 1) < sp * (dv + 1) := by rw [Nat.mul_add, Nat.mul_comm sp dv]; omega
    have := Nat.div_lt_of_lt_mul this
    omega
  refine ⟨_, _, _, _, _, _, h1, hs, hd, by omega, rfl, rfl, rfl, rfl, rfl, Nat.mod_lt _ (by decide), Nat.mod_lt _ (by decide), ?_, rfl, by rw [e]; omega, by rw [e]; exact hq, ?_, ?_, ?_, ?_, ?_⟩
  · omega
  · rw [e]
    unfold cdv
    rw [show (dv : Int) * dr + sp - 1 = ((dv * dr + (sp - 1) : Nat) : Int) by rw [Int.natCast_add, Int.natCast_mul]; omega]
    exact (Int.natCast_ediv _ _).symm
  · omega
  · rw [e]
    have hdm := Nat.div_add_mod (dv * dr) sp
    have hlt := Nat.mod_lt (dv * dr) (show 0 < sp by omega)
    generalize dv * dr % sp = t at *
    generalize dv * dr / sp = q at *
    rw [← hdm]
    by_cases ht : 0 < t
    · rw [if_pos ht, show sp * q + t + (sp - 1) = (t - 1) + sp * (q + 1) by rw [Nat.mul_add]; omega, Nat.add_mul_div_left _ _ (by omega), Nat.div_eq_of_lt (by omega)]; omega
    · rw [if_neg ht, show sp * q + t + (sp - 1) = (sp - 1) + sp * q by omega, Nat.add_mul_div_left _ _ (by omega), Nat.div_eq_of_lt (by omega)]; omega
  · rcases hS with h | ⟨s1, s2⟩
    · exact h _
    · have : dv * dr ≤ 2147483648 * 2147483648 := Nat.mul_le_mul s2 (by omega)
      rw [show dv * dr / 18446744073709551616 + (dv * dr % 18446744073709551616 + (sp - 1)) / 18446744073709551616 = 0 by omega]
      exact div_zero
  · rcases hS with h | ⟨s1, s2⟩
    · exact h _
    · have : dv * dr ≤ 2147483648 * 2147483648 := Nat.mul_le_mul s2 (by omega)
      rw [show dv * dr / 18446744073709551616 = 0 by omega]
      exact div_zero

set_option maxHeartbeats 4000000 in
set_option maxRecDepth 100000 in
theorem between_any (l : List Pt) (A : Option Addr) (c : Nat) (r : Int) (w : World) (h : Pts w A l) (hS : Small l) :
    Calls Try.prog 26 #[.slice A l.length c, .int .i64 r] w fun e w' => e = .returned (.tuple #[.int .i64 (btw l r).1, .int .i64 (btw l r).2]) ∧ Below w.heap.size w w' := by
  have B := bad_any l A c w h
  have F := fun w1 h1 => first_any l A c r w1 h1
  cases bt_cases l r with
  | bad hc e =>
    have h280 := (check_two l).resolve_right fun e => hc (by rw [e])
    rw [h280] at B
    have e := Lib.hid e
    clear hc h280 F
    go_enter Try.func26, Try.ntmps26
    go_wp2_with (go_at_call 41; refine B.mono ?_; rintro e w1 ⟨rfl, hb⟩)
    go_ret2
    exact ⟨ret_ii e.out, hb⟩
  | none hc hn hl e =>
    rw [hc] at B
    rw [decide_eq_false (by omega)] at F
    replace e := Lib.hid e
    clear hc
    generalize fst 0 l r = x at *
    go_enter Try.func26, Try.ntmps26
    go_wp2_with (first
      | (go_at_call 41; refine B.mono ?_; rintro e w1 ⟨rfl, hb⟩)
      | (go_at_call 42; refine (F _ (h.below hb)).mono ?_; rintro e w2 ⟨rfl, hb2⟩))
    go_ret2
    exact ⟨ret_ii e.out, hb.trans (hb2.mono hb.size)⟩
  | low hc i hi hl h0 e =>
    rw [hc] at B
    rw [hi, decide_eq_true (by omega), Int.max_eq_right (by omega)] at F
    replace e := Lib.hid e
    obtain ⟨b3, o3, rfl, _, _, _⟩ := h.at_ (k := 0) (by omega)
    have hcl := Lib.hid (fun w1 (hb : Below w.heap.size w w1) => Pts.at_ (h.below hb) (show 0 < l.length by omega))
    clear hc hi
    generalize l[0] = q at *
    obtain ⟨q1, q2⟩ := q
    simp only at h0
    go_enter Try.func26, Try.ntmps26
    go_wp2_with (first
      | (go_at_call 41; refine B.mono ?_; rintro e w1 ⟨rfl, hb⟩)
      | (go_at_call 42; refine (F _ (h.below hb)).mono ?_; rintro e w2 ⟨rfl, hb2⟩; obtain ⟨b4, o4, e4, _, d1, d2⟩ := hcl.out w2 (hb.trans (hb2.mono hb.size)); cases e4; simp only [Nat.zero_mul, Nat.add_zero] at d1 d2))
    go_ret2
    exact ⟨ret_ii e.out, hb.trans (hb2.mono hb.size)⟩
  | at_ hc i hi hl h0 he e =>
    rw [hc] at B
    rw [hi, decide_eq_true (by omega), Int.max_eq_right (by omega)] at F
    replace e := Lib.hid e
    obtain ⟨b3, o3, rfl, _, _, _⟩ := h.at_ (k := 0) (by omega)
    have hcl := Lib.hid (fun w1 (hb : Below w.heap.size w w1) => Pts.at_ (h.below hb) (show 0 < l.length by omega))
    have hcl2 := Lib.hid (fun w1 (hb : Below w.heap.size w w1) => Pts.at_ (h.below hb) hl)
    clear hc hi
    by_cases hi0 : i = 0
    · subst hi0
      clear hcl2
      generalize l[0] = q at *
      obtain ⟨q1, q2⟩ := q
      simp only at h0 he
      subst he
      go_enter Try.func26, Try.ntmps26
      go_wp2_with (first
        | (go_at_call 41; refine B.mono ?_; rintro e w1 ⟨rfl, hb⟩)
        | (go_at_call 42; refine (F _ (h.below hb)).mono ?_; rintro e w2 ⟨rfl, hb2⟩; obtain ⟨b4, o4, e4, _, d1, d2⟩ := hcl.out w2 (hb.trans (hb2.mono hb.size)); cases e4; simp only [Nat.zero_mul, Nat.add_zero] at d1 d2))
      go_ret2
      exact ⟨ret_ii e.out, hb.trans (hb2.mono hb.size)⟩
    · have hi1 : ((i : Int) == 0) = false := by simp; omega
      have hlz : 0 < l.length := by omega
      generalize l[0] = z at *
      generalize l[i] = q at *
      obtain ⟨q1, q2⟩ := q
      obtain ⟨z1, z2⟩ := z
      simp only at h0 he
      subst he
      go_enter Try.func26, Try.ntmps26
      go_wp2_with (first
        | (go_at_call 41; refine B.mono ?_; rintro e w1 ⟨rfl, hb⟩)
        | (go_at_call 42; refine (F _ (h.below hb)).mono ?_; rintro e w2 ⟨rfl, hb2⟩; obtain ⟨b4, o4, e4, _, d1, d2⟩ := hcl.out w2 (hb.trans (hb2.mono hb.size)); cases e4; simp only [Nat.zero_mul, Nat.add_zero] at d1 d2; obtain ⟨b4, o4, e4, _, d3, d4⟩ := hcl2.out w2 (hb.trans (hb2.mono hb.size)); cases e4))
      go_ret2
      exact ⟨ret_ii e.out, hb.trans (hb2.mono hb.size)⟩
  | mid hc i hi hl h0 h1 h2 e =>
    have hr0 := (tab_range hc).1 _ (List.getElem_mem (show i < l.length by omega))
    have hr1 := (tab_range hc).1 _ (List.getElem_mem hl)
    have hrise := tab_rise hc i hl
    have hlen := h.le
    have hsm : (∀ H, DivOk H) ∨ (l[i + 1].1 ≤ 2147483648 ∧ l[i + 1].2 ≤ 2147483648) := hS.imp id fun q => q _ (List.getElem_mem hl)
    rw [hc] at B
    rw [hi, decide_eq_true (by omega), Int.max_eq_right (by omega)] at F
    replace e := Lib.hid e
    obtain ⟨b3, o3, rfl, _, _, _⟩ := h.at_ (k := 0) (by omega)
    have hcl := Lib.hid (fun w1 (hb : Below w.heap.size w w1) => Pts.at_ (h.below hb) (show 0 < l.length by omega))
    have hcl1 := Lib.hid (fun w1 (hb : Below w.heap.size w w1) => Pts.at_ (h.below hb) (show i < l.length by omega))
    have hcl2 := Lib.hid (fun w1 (hb : Below w.heap.size w w1) => Pts.at_ (h.below hb) hl)
    clear hc hi hS
    generalize l[0] = z at *
    generalize hqi : l[i] = q at *
    generalize hpi : l[i + 1] = p at *
    clear hqi hpi
    obtain ⟨a1, a2⟩ := q
    obtain ⟨b1, b2⟩ := p
    obtain ⟨z1, z2⟩ := z
    simp only at h0 h1 h2 hr0 hr1 hrise hsm
    obtain ⟨sp, rfl⟩ : ∃ sp : Nat, b1 = a1 + sp := ⟨(b1 - a1).toNat, by omega⟩
    obtain ⟨dv, rfl⟩ : ∃ dv : Nat, b2 = a2 + dv := ⟨(b2 - a2).toNat, by omega⟩
    obtain ⟨dr, rfl⟩ : ∃ dr : Nat, r = a1 + dr := ⟨(r - a1).toNat, by omega⟩
    obtain ⟨H, L, L2, C, H2, Q, M⟩ := mid_of (l := l) (r := a1 + dr) (a1 := a1) (a2 := a2) (sp := sp) (dv := dv) (dr := dr) (by omega) (by omega) (by omega) (by omega) (hsm.imp id fun q => by omega)
    have e2 := Lib.hid (show btw l (a1 + dr) = (a2 + Q, 0) by
      rw [e.out]
      show (a2 + cdv ((a2 + dv - a2) * (a1 + dr - a1)) (a1 + sp - a1), (0 : Int)) = _
      rw [show a2 + (dv : Int) - a2 = dv by omega, show a1 + (dr : Int) - a1 = dr by omega, show a1 + (sp : Int) - a1 = sp by omega, M.eq])
    have M1 := fun w => Try.bits_Mul64 dv dr (by have := M.hd; omega) (by have := M.hr; omega) w
    rw [M.eH, M.eL] at M1
    obtain ⟨S1, hS1⟩ : ∃ S1, sp - 1 = S1 := ⟨_, rfl⟩
    have hadd := fun w => add64_run (L : Int) (S1 : Int) (by omega) (by omega) w
    rw [show ((L : Int) + S1) % 18446744073709551616 = (L2 : Int) by have := M.eL2; rw [hS1] at this; omega, show ((L : Int) + S1) / 18446744073709551616 = (C : Int) by have := M.eC; rw [hS1] at this; omega] at hadd
    have hsub : IntKind.u64.wrap ((sp : Int) - 1) = (S1 : Int) := by rw [IntKind.wrap_u64]; omega
    have hH2 : IntKind.u64.wrap ((H : Int) + C) = (H2 : Int) := by
      have h1 := M.eH2
      have h2 := M.lH2
      have h3 := M.hs
      rw [IntKind.wrap_u64]; omega
    have D := fun w => M.dv2 L2 sp w M.lL2 M.lH2 (by have := M.hs; omega)
    rw [M.eQ] at D
    generalize (H2 * 18446744073709551616 + L2) % sp = R at *
    have lQ := M.lQ
    have lsp := M.hs
    have ldv := M.hd
    have ldr := M.hr
    have lsp1 := M.h1
    have hcl := Lib.hid (show ∀ w1, Below w.heap.size w w1 → _ from fun w1 hb => And.intro (hcl.out w1 hb) (And.intro (hcl1.out w1 hb) (hcl2.out w1 hb)))
    have hj0 : ((((i + 1 : Nat) : Int)) == 0) = false := by simp; omega
    have hj1 : IntKind.i64.wrap (((i + 1 : Nat) : Int) - 1) = (i : Int) := by rw [i64_in _ (by omega)]; omega
    have hil : i < l.length := by omega
    clear hcl1 hcl2 e M hsm hS1
    generalize i + 1 = j at *
    go_enter Try.func26, Try.ntmps26
    go_wp2_with (first
      | (go_at_call 41; refine B.mono ?_; rintro e w1 ⟨rfl, hb⟩)
      | (go_at_call 42; refine (F _ (h.below hb)).mono ?_; rintro e w2 ⟨rfl, hb2⟩; obtain ⟨⟨b4, o4, e4, _, d1, d2⟩, ⟨b5, o5, e5, hbl, d3, d4⟩, ⟨b6, o6, e6, _, d5, d6⟩⟩ := hcl.out w2 (hb.trans (hb2.mono hb.size)); cases e4; cases e5; cases e6; simp only [Nat.zero_mul, Nat.add_zero] at d1 d2))
    have hb12 : Below w.heap.size w w2 := hb.trans (hb2.mono hb.size)
    clear hb hb2 B F hcl d1 d2
    go_cut [9, 10] from 17 (fun s9 s10 wc => ∃ P Q : Nat, s9 = .pointer (some ⟨P, 0, none⟩) ∧ s10 = .pointer (some ⟨Q, 0, none⟩) ∧ wc.heap[P]? = some (.cells #[.int .i64 a1, .int .i64 a2] 36) ∧
      wc.heap[Q]? = some (.cells #[.int .i64 (a1 + sp), .int .i64 (a2 + dv)] 36) ∧ Below w.heap.size w wc)
    case first =>
      clear M1 hadd D
      go_region
      all_goals go_wp2
      · go_meet
        case rel => exact ⟨_, _, rfl, rfl, heap_alloc (heap_alloc_at _ _), heap_alloc_at' _ _ _ (by rw [size_al]), ((below_al (below_al hb12 _) _)).drew⟩
      · go_meet
        case rel => exact ⟨_, _, rfl, rfl, heap_alloc_at' _ _ _ (by rw [size_al]), heap_alloc (heap_alloc_at _ _), ((below_al (below_al hb12 _) _)).drew⟩
    case rest =>
      obtain ⟨P, Q', rfl, rfl, hP1, hQ1, hb1⟩ := hcut
      clear d3 d4 d5 d6 hb12
      obtain ⟨c1, c2⟩ := cell_two hP1
      obtain ⟨c3, c4⟩ := cell_two hQ1
      have k1 : a2 + (dv : Int) - a2 = dv := by omega
      have k2 : a1 + (dr : Int) - a1 = dr := by omega
      have k3 : a1 + (sp : Int) - a1 = sp := by omega
      go_wp2_with (first
        | (go_at_call 52; (with_reducible refine (M1 _).mono ?_); rintro e w3 ⟨rfl, hw3⟩; subst hw3)
        | (go_at_call 54; (with_reducible refine (D _).mono ?_); rintro e w4 ⟨rfl, hd4⟩; have c2' := (hd4.cell ⟨P, 1, none⟩).trans c2))
      go_ret2
      exact ⟨ret_ii e2.out, hd4.after hb1⟩
end Go.Proofs.Ythmdhmknadhjeaa
