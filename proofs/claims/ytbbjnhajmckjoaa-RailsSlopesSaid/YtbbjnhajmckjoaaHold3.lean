/- Rails: the reference's Holds, walked. -/
import Derived.Test.YtbbjnhajmckjoaaHold2
namespace Go.Proofs.Ytbbjnhajmckjoaa
open Go.RowKit Go.BigFrame

set_option maxHeartbeats 4000000 in
set_option maxRecDepth 100000 in
theorem rholds_any (l : List Pt) (v : List Int) (A B : Option Addr) (c d : Nat) (w : World) (h : Pts w A l) (hv : Ints w B v) :
    Calls Try.prog 13 #[.slice A l.length c, .slice B v.length d] w fun e w' => e = .returned (.tuple #[.int .i64 (holds l v).1, .int .i64 (holds l v).2]) ∧ Drawn w w' := by
  have hlen := h.le
  have hlen2 := hv.le
  have M := may_any l A c w h
  cases hm : may l with
  | false =>
    rw [hm] at M
    have e := Lib.hid (holds_no (v := v) hm)
    clear hm
    go_enter Try.func13, Try.ntmps13
    go_wp2_with (go_at_call 47; refine M.mono ?_; rintro e w1 ⟨rfl, rfl⟩)
    go_ret2
    exact ⟨ret_ii e.out, Drawn.refl _⟩
  | true =>
    rw [hm] at M
    obtain ⟨n, hn⟩ : ∃ n, min l.length v.length = n := ⟨_, rfl⟩
    have hn1 : n ≤ l.length := by omega
    have hn2 : n ≤ v.length := by omega
    have hend := Lib.hid (holds_end (v := v) hm)
    have hat := Lib.hid (fun i => holds_at (v := v) (i := i) hm)
    rw [hn] at hend hat
    have hmin := Lib.hid hn
    have hpw := Lib.hid (fun w' (hb : Drawn w w') => And.intro (Sl.drawn h hb) (Sl.drawn hv hb))
    have hall := Lib.hid (may_all hm)
    clear hn hm h hv
    go_enter Try.func13, Try.ntmps13
    go_wp2_with (go_at_call 47; refine M.mono ?_; rintro e w1 ⟨rfl, rfl⟩)
    clear M
    go_loopw [6] (fun s wx => ∃ (k : Nat), k ≤ n ∧ s = .int .i64 k ∧ vgo l v n 0 = vgo l v (n - k) k ∧ Drawn w wx) (fun s _ => n - (intOf s).toNat)
    case atStart => exact ⟨0, by omega, rfl, rfl, Drawn.refl _⟩
    case round =>
      obtain ⟨k, hk, rfl, hgo, hg⟩ := hrel
      by_cases hkn : k = n
      · subst hkn
        rw [Nat.sub_self] at hgo
        have e := Lib.hid (hend.out hgo)
        have hmn := hmin.out
        clear hgo hpw hall hat hend hmin
        have e2 : Hid (holds l v = if l.length = v.length then (0, 0) else ((k : Int), 192)) := e
        clear e
        obtain ⟨H, hH⟩ : ∃ H, holds l v = H := ⟨_, rfl⟩
        rw [hH] at e2
        replace hH := Lib.hid hH
        generalize l.length = a at *
        generalize v.length = b at *
        rcases Nat.lt_trichotomy a b with q | q | q
        · obtain rfl : a = k := by omega
          have e := Lib.hid (e2.out.trans (if_neg (by omega)))
          clear e2 hmn
          go_wp2
          go_ret2
          exact ⟨ret_ii (hH.out.trans e.out), hg⟩
        · subst q
          obtain rfl : a = k := by omega
          have e := Lib.hid (e2.out.trans (if_pos rfl))
          clear e2 hmn
          go_wp2
          go_ret2
          exact ⟨ret_ii (hH.out.trans e.out), hg⟩
        · obtain rfl : b = k := by omega
          have e := Lib.hid (e2.out.trans (if_neg (by omega)))
          clear e2 hmn
          go_wp2
          go_ret2
          exact ⟨ret_ii (hH.out.trans e.out), hg⟩
      have hkn : k < n := by omega
      obtain ⟨hP, hI⟩ := hpw.out wr hg
      have hfg := hall.out.2 k (by omega)
      have hkl : k < l.length := by omega
      have hkv : k < v.length := by omega
      obtain ⟨b1, o1, rfl, _, c1, c2⟩ := Pts.at_ hP hkl
      obtain ⟨b2, o2, rfl, _, c3⟩ := Ints.at_ hI hkv
      rw [vgo_step hkn] at hgo
      have hvb : vbad l v k ↔ (v[k] < 0 ∨ 1000000000000 < v[k] ∨ (v[k] ≠ 0 ∧ 0 ≤ l[k].1 ∧ v.getD l[k].1.toNat 0 < v[k] + l[k].2)) := by
        unfold vbad
        rw [show v.getD k 0 = v[k] by simp [List.getD, hkv], show l.getD k (0, 0) = l[k] by simp [List.getD, hkl]]
      have hvat := Lib.hid (fun (p : Nat) (hp : p < v.length) => Ints.at_ hI hp)
      generalize v[k] = x at *
      generalize l[k] = q at *
      obtain ⟨q1, q2⟩ := q
      obtain ⟨g1, g2, g3, g4⟩ := hfg
      simp only at g1 g2 g3 g4 c1 c2 hvb
      clear hP hI
      by_cases x1 : x < 0
      · have e := Lib.hid (hat.out k (hgo.trans (if_pos (hvb.2 (Or.inl x1)))))
        clear hgo hvb
        go_wp2
        go_big_quiet (fail)
        go_wp2
        go_ret2
        exact ⟨ret_ii e.out, hg.drewN _⟩
      by_cases x2 : 1000000000000 < x
      · have e := Lib.hid (hat.out k (hgo.trans (if_pos (hvb.2 (Or.inr (Or.inl x2))))))
        clear hgo hvb
        go_wp2
        have x11 : ¬ x < 0 := by omega
        go_big_quiet (fail)
        go_wp2
        go_ret2
        exact ⟨ret_ii e.out, hg.drewN _⟩
      by_cases x0 : x = 0
      · have e := Lib.hid (hgo.trans (if_neg (fun hb => by rcases hvb.1 hb with hb | hb | hb; exact x1 hb; exact x2 hb; exact hb.1 x0)))
        clear hgo hvb x1 x2
        subst x0
        go_wp2
        go_big_quiet (fail)
        go_wp2
        go_roundw
        case rel => exact ⟨k + 1, by omega, by go_num, e.out, hg.drewN _⟩
        case measure => simp [intOf]; omega
      by_cases x3 : 0 ≤ q1
      · obtain ⟨p, rfl⟩ : ∃ p : Nat, q1 = p := ⟨q1.toNat, by omega⟩
        rw [Int.toNat_natCast] at hvb
        have hpv : p < v.length := by omega
        obtain ⟨b3, o3, e3, _, c4⟩ := hvat.out p hpv
        cases e3
        rw [show v.getD p 0 = v[p] by simp [List.getD, hpv]] at hvb
        generalize v[p] = y at *
        by_cases x4 : y < x + q2
        · have e := Lib.hid (hat.out k (hgo.trans (if_pos (hvb.2 (Or.inr (Or.inr ⟨x0, x3, x4⟩))))))
          clear hgo hvb
          go_wp2
          have x00 : (x != 0) = true := by simp [x0]
          have x11 : ¬ x < 0 := by omega
          have x22 : ¬ (1000000000000 : Int) < x := by omega
          go_big_quiet (fail)
          go_wp2
          go_ret2
          exact ⟨ret_ii e.out, hg.drewN _⟩
        · have e := Lib.hid (hgo.trans (if_neg (fun hb => by rcases hvb.1 hb with hb | hb | hb; exact x1 hb; exact x2 hb; exact x4 hb.2.2)))
          clear hgo hvb
          go_wp2
          have x00 : (x != 0) = true := by simp [x0]
          have x11 : ¬ x < 0 := by omega
          have x22 : ¬ (1000000000000 : Int) < x := by omega
          have x44 : ¬ y < x + q2 := by omega
          go_big_quiet (fail)
          go_wp2
          go_roundw
          case rel => exact ⟨k + 1, by omega, by go_num, e.out, hg.drewN _⟩
          case measure => simp [intOf]; omega
      · have e := Lib.hid (hgo.trans (if_neg (fun hb => by rcases hvb.1 hb with hb | hb | hb; exact x1 hb; exact x2 hb; exact x3 hb.2.1)))
        clear hgo hvb
        go_wp2
        have x00 : (x != 0) = true := by simp [x0]
        have x11 : ¬ x < 0 := by omega
        have x22 : ¬ (1000000000000 : Int) < x := by omega
        have x33 : ¬ (0 : Int) ≤ q1 := by omega
        go_big_quiet (fail)
        go_wp2
        go_roundw
        case rel => exact ⟨k + 1, by omega, by go_num, e.out, hg.drewN _⟩
        case measure => simp [intOf]; omega
end Go.Proofs.Ytbbjnhajmckjoaa
