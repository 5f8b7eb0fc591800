/- Rails: Holds, walked. -/
import Derived.Test.YtbbjnhajmckjoaaHold
import Derived.Deep.Cut
namespace Go.Proofs.Ytbbjnhajmckjoaa
open Go.RowKit Go.BigFrame

theorem Ints.below {w w' : World} {A : Option Addr} {l : List Int} (h : Ints w A l) (d : Below w.heap.size w w') : Ints w' A l := Sl.below' h d

set_option maxHeartbeats 4000000 in
set_option maxRecDepth 100000 in
theorem holds_any (l : List Pt) (v : List Int) (A B : Option Addr) (c d : Nat) (w : World) (h : Pts w A l) (hv : Ints w B v) (hd : v.length ≤ d) :
    Calls Try.prog 12 #[.slice A l.length c, .slice B v.length d] w fun e w' => e = .returned (.tuple #[.int .i64 (holds l v).1, .int .i64 (holds l v).2]) ∧ Below w.heap.size w w' := by
  have hlen := h.le
  have hlen2 := hv.le
  by_cases hl : l.length ≤ 1024
  case neg =>
    have e := Lib.hid (holds_no (v := v) (show may l = false by unfold may; rw [if_neg hl]))
    go_enter Try.func12, Try.ntmps12
    go_wp2
    go_ret2
    exact ⟨ret_ii e.out, Below.refl _ _⟩
  have e := Lib.hid (show may l = fok 0 l by unfold may; rw [if_pos hl])
  go_enter Try.func12, Try.ntmps12
  go_wp2
  go_loopw [17] (fun s wr => ∃ (k : Nat), k ≤ l.length ∧ s = .int .i64 k ∧ fok 0 l = fok k (l.drop k) ∧ Below w.heap.size w wr) (fun s _ => l.length - (intOf s).toNat)
  case atStart => exact ⟨0, by omega, rfl, rfl, Below.refl _ _⟩
  case round =>
    obtain ⟨k, hk, rfl, hf, hg⟩ := hrel
    by_cases hkl : k = l.length
    · subst hkl
      have hm := Lib.hid (e.out.trans (hf.trans (fok_end (Nat.le_refl _))))
      clear hf e hk
      obtain ⟨n, hn⟩ : ∃ n, min l.length v.length = n := ⟨_, rfl⟩
      have hn1 : n ≤ l.length := by omega
      have hn2 : n ≤ v.length := by omega
      have hend := Lib.hid (holds_end (v := v) hm.out)
      have hat := Lib.hid (fun i => holds_at (v := v) (i := i) hm.out)
      rw [hn] at hend hat
      have hmin := Lib.hid hn
      clear hn
      have hgw := Lib.hid hg
      go_upto_region 9 with fail
      go_cut [8] from 42 (fun s8 wx => s8 = .int .i64 n ∧ wr = wx)
      case first =>
        have hmin := hmin.out
        clear hend hat hm hg hgw h hv
        generalize l.length = a at *
        generalize v.length = b at *
        rcases Nat.lt_trichotomy a b with q | q | q
        · obtain rfl : a = n := by omega
          go_wp2
          go_meet
          case rel => exact ⟨rfl, rfl⟩
        · subst q
          obtain rfl : a = n := by omega
          go_wp2
          go_meet
          case rel => exact ⟨rfl, rfl⟩
        · obtain rfl : b = n := by omega
          go_wp2
          go_meet
          case rel => exact ⟨rfl, rfl⟩
      case rest =>
        obtain ⟨rfl, rfl⟩ := hcut
        have hnd : (n : Int) ≤ (d : Int) := by omega
        have hpw := Lib.hid (fun w' (hb : Below w.heap.size w w') => And.intro (h.below hb) (hv.below hb))
        have hall := Lib.hid (may_all hm.out)
        clear h hv hg
        go_wp2
        go_loopw [51] (fun s wx => ∃ (k : Nat), k ≤ n ∧ s = .int .i64 k ∧ vgo l v n 0 = vgo l v (n - k) k ∧ Below w.heap.size w wx) (fun s _ => n - (intOf s).toNat)
        case atStart => exact ⟨0, by omega, rfl, rfl, hgw.out⟩
        case round =>
          clear hgw
          obtain ⟨k, hk, rfl, hgo, hg⟩ := hrel
          by_cases hkn : k = n
          · subst hkn
            rw [Nat.sub_self] at hgo
            have e := Lib.hid (hend.out hgo)
            clear hgo
            by_cases hlv : l.length = v.length
            · have e := Lib.hid (e.out.trans (if_pos hlv))
              go_wp2
              go_ret2
              exact ⟨ret_ii e.out, hg⟩
            · have e := Lib.hid (e.out.trans (if_neg hlv))
              go_wp2
              go_ret2
              exact ⟨ret_ii e.out, hg⟩
          have hkn : k < n := by omega
          obtain ⟨hP, hI⟩ := hpw.out wr hg
          have hfg := hall.out.2 k (by omega)
          have hkl : k < l.length := by omega
          have hkv : k < v.length := by omega
          obtain ⟨b1, o1, rfl, _, c1, c2⟩ := hP.at_ hkl
          obtain ⟨b2, o2, rfl, _, c3⟩ := hI.at_ hkv
          rw [vgo_step hkn] at hgo
          have hvb : vbad l v k ↔ (v[k] < 0 ∨ 1000000000000 < v[k] ∨ (v[k] ≠ 0 ∧ 0 ≤ l[k].1 ∧ v.getD l[k].1.toNat 0 < v[k] + l[k].2)) := by
            unfold vbad
            rw [show v.getD k 0 = v[k] by simp [List.getD, hkv], show l.getD k (0, 0) = l[k] by simp [List.getD, hkl]]
          have hvat := Lib.hid (fun (p : Nat) (hp : p < v.length) => hI.at_ hp)
          generalize v[k] = x at *
          generalize l[k] = q at *
          obtain ⟨q1, q2⟩ := q
          obtain ⟨g1, g2, g3, g4⟩ := hfg
          simp only at g1 g2 g3 g4 c1 c2 hvb
          clear hP hI
          by_cases x1 : x < 0
          · have e := Lib.hid (hat.out k (hgo.trans (if_pos (hvb.2 (Or.inl x1)))))
            clear hgo hvb
            go_wp2
            go_ret2
            exact ⟨ret_ii e.out, hg⟩
          by_cases x2 : 1000000000000 < x
          · have e := Lib.hid (hat.out k (hgo.trans (if_pos (hvb.2 (Or.inr (Or.inl x2))))))
            clear hgo hvb
            go_wp2
            go_ret2
            exact ⟨ret_ii e.out, hg⟩
          by_cases x0 : x = 0
          · have e := Lib.hid (hgo.trans (if_neg (fun hb => by rcases hvb.1 hb with hb | hb | hb; exact x1 hb; exact x2 hb; exact hb.1 x0)))
            clear hgo hvb x1 x2
            subst x0
            go_wp2
            go_big_quiet (fail)
            go_wp2
            go_roundw
            case rel => exact ⟨k + 1, by omega, by go_num, e.out, below_drewN' hg _⟩
            case measure => simp [intOf]; omega
          by_cases x3 : 0 ≤ q1
          · obtain ⟨p, rfl⟩ : ∃ p : Nat, q1 = p := ⟨q1.toNat, by omega⟩
            rw [Int.toNat_natCast] at hvb
            have hpv : p < v.length := by omega
            obtain ⟨b3, o3, e3, _, c4⟩ := hvat.out p hpv
            cases e3
            rw [show v.getD p 0 = v[p] by simp [List.getD, hpv]] at hvb
            generalize v[p] = y at *
            by_cases x4 : y < x + q2
            · have e := Lib.hid (hat.out k (hgo.trans (if_pos (hvb.2 (Or.inr (Or.inr ⟨x0, x3, x4⟩))))))
              clear hgo hvb
              go_wp2
              have x00 : (x != 0) = true := by simp [x0]
              go_big_quiet (fail)
              go_wp2
              go_ret2
              exact ⟨ret_ii e.out, below_drewN' hg _⟩
            · have e := Lib.hid (hgo.trans (if_neg (fun hb => by rcases hvb.1 hb with hb | hb | hb; exact x1 hb; exact x2 hb; exact x4 hb.2.2)))
              clear hgo hvb
              go_wp2
              have x00 : (x != 0) = true := by simp [x0]
              go_big_quiet (fail)
              go_wp2
              go_roundw
              case rel => exact ⟨k + 1, by omega, by go_num, e.out, below_drewN' hg _⟩
              case measure => simp [intOf]; omega
          · have e := Lib.hid (hgo.trans (if_neg (fun hb => by rcases hvb.1 hb with hb | hb | hb; exact x1 hb; exact x2 hb; exact x3 hb.2.1)))
            clear hgo hvb
            go_wp2
            have x00 : (x != 0) = true := by simp [x0]
            have x33 : ¬ (0 : Int) ≤ q1 := by omega
            go_big_quiet (fail)
            go_wp2
            go_roundw
            case rel => exact ⟨k + 1, by omega, by go_num, e.out, below_drewN' hg _⟩
            case measure => simp [intOf]; omega
    have hkl : k < l.length := by omega
    obtain ⟨b, o, rfl, hb, c1, c2⟩ := (h.below hg).at_ hkl
    rw [fok_step hkl] at hf
    by_cases hgd : fgood k l[k]
    · rw [if_pos hgd] at hf
      replace hf := Lib.hid hf
      obtain ⟨g1, g2, g3, g4⟩ := hgd
      generalize l[k] = q at *
      obtain ⟨q1, q2⟩ := q
      simp only at g1 g2 g3 g4 c1 c2
      go_wp2
      go_roundw
      case rel => exact ⟨k + 1, by omega, by go_num, hf.out, below_al hg _⟩
      case measure => simp [intOf]; omega
    · rw [if_neg hgd] at hf
      have e := Lib.hid (holds_no (v := v) (e.out.trans hf))
      clear hf
      generalize l[k] = q at *
      obtain ⟨q1, q2⟩ := q
      simp only at c1 c2
      simp only [fgood] at hgd
      by_cases g1 : -1 ≤ q1
      · by_cases g2 : q1 < k
        · by_cases g3 : 0 ≤ q2
          · have g4 : ¬ q2 ≤ 1000000000 := fun g4 => hgd ⟨g1, g2, g3, g4⟩
            clear hgd
            go_wp2
            go_ret2
            exact ⟨ret_ii e.out, below_al hg _⟩
          · clear hgd
            go_wp2
            go_ret2
            exact ⟨ret_ii e.out, below_al hg _⟩
        · clear hgd
          go_wp2
          go_ret2
          exact ⟨ret_ii e.out, below_al hg _⟩
      · clear hgd
        go_wp2
        go_ret2
        exact ⟨ret_ii e.out, below_al hg _⟩
end Go.Proofs.Ytbbjnhajmckjoaa
