/- Points: the reference's Between, walked. -/
import Derived.Test.YthmdhmknadhjeaaBtw2
import Derived.Test.YthmdhmknadhjeaaDiv4
namespace Go.Proofs.Ythmdhmknadhjeaa
open Go.RowKit Go.BigFrame

set_option maxHeartbeats 4000000 in
set_option maxRecDepth 100000 in
theorem rbetween_any (l : List Pt) (A : Option Addr) (c : Nat) (r : Int) (w : World) (h : Pts w A l) :
    Calls Try.prog 50 #[.slice A l.length c, .int .i64 r] w fun e w' => e = .returned (.tuple #[.int .i64 (btw l r).1, .int .i64 (btw l r).2]) ∧ Below w.heap.size w w' := by
  have B := may_any l A c w h
  have F := fun w1 h1 => rfirst_any l A c r w1 h1
  cases bt_cases l r with
  | bad hc e =>
    rw [show tab l = false from decide_eq_false hc] at B
    have e := Lib.hid e
    clear hc F
    go_enter Try.func50, Try.ntmps50
    go_wp2_with (go_at_call 43; refine B.mono ?_; rintro e w1 ⟨rfl, hb⟩)
    go_ret2
    exact ⟨ret_ii e.out, hb⟩
  | none hc hn hl e =>
    rw [show tab l = true from decide_eq_true hc] at B
    replace e := Lib.hid e
    clear hc
    generalize fst 0 l r = x at *
    go_enter Try.func50, Try.ntmps50
    go_wp2_with (first
      | (go_at_call 43; refine B.mono ?_; rintro e w1 ⟨rfl, hb⟩)
      | (go_at_call 44; refine (F _ (h.below hb)).mono ?_; rintro e w2 ⟨rfl, rfl⟩))
    go_ret2
    exact ⟨ret_ii e.out, hb⟩
  | low hc i hi hl h0 e =>
    rw [show tab l = true from decide_eq_true hc] at B
    rw [hi] at F
    replace e := Lib.hid e
    obtain ⟨b3, o3, rfl, _, _, _⟩ := h.at_ (k := 0) (by omega)
    have hcl := Lib.hid (fun w1 (hb : Below w.heap.size w w1) => Pts.at_ (h.below hb) (show 0 < l.length by omega))
    clear hc hi
    generalize l[0] = q at *
    obtain ⟨q1, q2⟩ := q
    simp only at h0
    go_enter Try.func50, Try.ntmps50
    go_wp2_with (first
      | (go_at_call 43; refine B.mono ?_; rintro e w1 ⟨rfl, hb⟩)
      | (go_at_call 44; refine (F _ (h.below hb)).mono ?_; rintro e w2 ⟨rfl, rfl⟩; obtain ⟨b4, o4, e4, _, d1, d2⟩ := hcl.out w1 hb; cases e4; simp only [Nat.zero_mul, Nat.add_zero] at d1 d2))
    go_ret2
    exact ⟨ret_ii e.out, hb⟩
  | at_ hc i hi hl h0 he e =>
    rw [show tab l = true from decide_eq_true hc] at B
    rw [hi] at F
    replace e := Lib.hid e
    obtain ⟨b3, o3, rfl, _, _, _⟩ := h.at_ (k := 0) (by omega)
    have hcl := Lib.hid (fun w1 (hb : Below w.heap.size w w1) => Pts.at_ (h.below hb) (show 0 < l.length by omega))
    have hcl2 := Lib.hid (fun w1 (hb : Below w.heap.size w w1) => Pts.at_ (h.below hb) hl)
    clear hc hi
    by_cases hi0 : i = 0
    · subst hi0
      clear hcl2
      generalize l[0] = q at *
      obtain ⟨q1, q2⟩ := q
      simp only at h0 he
      subst he
      go_enter Try.func50, Try.ntmps50
      go_wp2_with (first
        | (go_at_call 43; refine B.mono ?_; rintro e w1 ⟨rfl, hb⟩)
        | (go_at_call 44; refine (F _ (h.below hb)).mono ?_; rintro e w2 ⟨rfl, rfl⟩; obtain ⟨b4, o4, e4, _, d1, d2⟩ := hcl.out w1 hb; cases e4; simp only [Nat.zero_mul, Nat.add_zero] at d1 d2))
      go_ret2
      exact ⟨ret_ii e.out, hb⟩
    · have hi1 : ((i : Int) == 0) = false := by simp; omega
      have hlz : 0 < l.length := by omega
      generalize l[0] = z at *
      generalize l[i] = q at *
      obtain ⟨q1, q2⟩ := q
      obtain ⟨z1, z2⟩ := z
      simp only at h0 he
      subst he
      go_enter Try.func50, Try.ntmps50
      go_wp2_with (first
        | (go_at_call 43; refine B.mono ?_; rintro e w1 ⟨rfl, hb⟩)
        | (go_at_call 44; refine (F _ (h.below hb)).mono ?_; rintro e w2 ⟨rfl, rfl⟩; obtain ⟨b4, o4, e4, _, d1, d2⟩ := hcl.out w1 hb; cases e4; simp only [Nat.zero_mul, Nat.add_zero] at d1 d2; obtain ⟨b4, o4, e4, _, d3, d4⟩ := hcl2.out w1 hb; cases e4))
      go_ret2
      exact ⟨ret_ii e.out, hb⟩
  | mid hc i hi hl h0 h1 h2 e =>
    have hr0 := (tab_range hc).1 _ (List.getElem_mem (show i < l.length by omega))
    have hr1 := (tab_range hc).1 _ (List.getElem_mem hl)
    have hrise := tab_rise hc i hl
    have hlen := h.le
    rw [show tab l = true from decide_eq_true hc] at B
    rw [hi] at F
    replace e := Lib.hid e
    obtain ⟨b3, o3, rfl, _, _, _⟩ := h.at_ (k := 0) (by omega)
    have hcl := Lib.hid (fun w1 (hb : Below w.heap.size w w1) => Pts.at_ (h.below hb) (show 0 < l.length by omega))
    have hcl1 := Lib.hid (fun w1 (hb : Below w.heap.size w w1) => Pts.at_ (h.below hb) (show i < l.length by omega))
    have hcl2 := Lib.hid (fun w1 (hb : Below w.heap.size w w1) => Pts.at_ (h.below hb) hl)
    clear hc hi
    generalize l[0] = z at *
    generalize hqi : l[i] = q at *
    generalize hpi : l[i + 1] = p at *
    clear hqi hpi
    obtain ⟨a1, a2⟩ := q
    obtain ⟨b1, b2⟩ := p
    obtain ⟨z1, z2⟩ := z
    simp only at h0 h1 h2 hr0 hr1 hrise
    obtain ⟨sp, rfl⟩ : ∃ sp : Nat, b1 = a1 + sp := ⟨(b1 - a1).toNat, by omega⟩
    obtain ⟨dv, rfl⟩ : ∃ dv : Nat, b2 = a2 + dv := ⟨(b2 - a2).toNat, by omega⟩
    obtain ⟨dr, rfl⟩ : ∃ dr : Nat, r = a1 + dr := ⟨(r - a1).toNat, by omega⟩
    obtain ⟨H, L, L2, C, H2, Q, M⟩ := mid_of (l := l) (r := a1 + dr) (a1 := a1) (a2 := a2) (sp := sp) (dv := dv) (dr := dr) (by omega) (by omega) (by omega) (by omega) (Or.inl div_all)
    have e2 := Lib.hid (show btw l (a1 + dr) = (a2 + Q, 0) by
      rw [e.out]
      show (a2 + cdv ((a2 + dv - a2) * (a1 + dr - a1)) (a1 + sp - a1), (0 : Int)) = _
      rw [show a2 + (dv : Int) - a2 = dv by omega, show a1 + (dr : Int) - a1 = dr by omega, show a1 + (sp : Int) - a1 = sp by omega, M.eq])
    have M1 := fun w => Try.bits_Mul64 dv dr (by have := M.hd; omega) (by have := M.hr; omega) w
    rw [M.eH, M.eL] at M1
    have D := fun w => M.dv1 L sp w M.lL M.lH (by have := M.hs; omega)
    have hHL : H * 18446744073709551616 + L = dv * dr := by have h1 := M.eH; have h2 := M.eL; omega
    have q2 := M.q2
    rw [hHL] at D
    generalize dv * dr / sp = Q0 at *
    generalize dv * dr % sp = R at *
    have lQ := M.lQ
    have lsp := M.hs
    have ldv := M.hd
    have ldr := M.hr
    have lsp1 := M.h1
    have hcl := Lib.hid (show ∀ w1, Below w.heap.size w w1 → _ from fun w1 hb => And.intro (hcl.out w1 hb) (And.intro (hcl1.out w1 hb) (hcl2.out w1 hb)))
    have hj0 : ((((i + 1 : Nat) : Int)) == 0) = false := by simp; omega
    have hj1 : IntKind.i64.wrap (((i + 1 : Nat) : Int) - 1) = (i : Int) := by rw [i64_in _ (by omega)]; omega
    have hil : i < l.length := by omega
    clear hcl1 hcl2 e M hHL
    generalize i + 1 = j at *
    have k1 : a2 + (dv : Int) - a2 = dv := by omega
    have k2 : a1 + (dr : Int) - a1 = dr := by omega
    have k3 : a1 + (sp : Int) - a1 = sp := by omega
    by_cases hR : 0 < R
    · rw [if_pos hR] at q2
      have hQ1 : IntKind.u64.wrap ((Q0 : Int) + 1) = (Q : Int) := by rw [IntKind.wrap_u64]; omega
      have hR1 : (0 : Int) < (R : Int) := by omega
      clear q2 hR
      go_enter Try.func50, Try.ntmps50
      go_wp2_with (first
        | (go_at_call 43; refine B.mono ?_; rintro e w1 ⟨rfl, hb⟩)
        | (go_at_call 44; refine (F _ (h.below hb)).mono ?_; rintro e w2 ⟨rfl, rfl⟩; obtain ⟨⟨b4, o4, e4, _, d1, d2⟩, ⟨b5, o5, e5, hbl, d3, d4⟩, ⟨b6, o6, e6, _, d5, d6⟩⟩ := hcl.out w1 hb; cases e4; cases e5; cases e6; simp only [Nat.zero_mul, Nat.add_zero] at d1 d2)
        | (go_at_call 52; (with_reducible refine (M1 _).mono ?_); rintro e w3 ⟨rfl, hw3⟩; subst hw3)
        | (go_at_call 54; (with_reducible refine (D _).mono ?_); rintro e w4 ⟨rfl, hd4⟩; have c2' := (hd4.cell ⟨w1.heap.size, 1, none⟩).trans (cell_two (heap_alloc (heap_alloc_at _ _))).2))
      go_ret2
      exact ⟨ret_ii e2.out, hd4.after (below_al (below_al hb _) _)⟩
    · rw [if_neg hR, Nat.add_zero] at q2
      subst q2
      have hR1 : ¬ (0 : Int) < (R : Int) := by omega
      clear hR
      go_enter Try.func50, Try.ntmps50
      go_wp2_with (first
        | (go_at_call 43; refine B.mono ?_; rintro e w1 ⟨rfl, hb⟩)
        | (go_at_call 44; refine (F _ (h.below hb)).mono ?_; rintro e w2 ⟨rfl, rfl⟩; obtain ⟨⟨b4, o4, e4, _, d1, d2⟩, ⟨b5, o5, e5, hbl, d3, d4⟩, ⟨b6, o6, e6, _, d5, d6⟩⟩ := hcl.out w1 hb; cases e4; cases e5; cases e6; simp only [Nat.zero_mul, Nat.add_zero] at d1 d2)
        | (go_at_call 52; (with_reducible refine (M1 _).mono ?_); rintro e w3 ⟨rfl, hw3⟩; subst hw3)
        | (go_at_call 54; (with_reducible refine (D _).mono ?_); rintro e w4 ⟨rfl, hd4⟩; have c2' := (hd4.cell ⟨w1.heap.size, 1, none⟩).trans (cell_two (heap_alloc (heap_alloc_at _ _))).2))
      go_ret2
      exact ⟨ret_ii e2.out, hd4.after (below_al (below_al hb _) _)⟩
end Go.Proofs.Ythmdhmknadhjeaa
