/- Heat: is a trip of a kind on: the reference's any; walked. -/
import Derived.Test.YtdjdkhbagoideaaDoorRf2
namespace Go.Proofs.YtdjdkhbagoideaaDoor
open Go.RowKit Go.BigFrame flt Ieee

set_option maxHeartbeats 4000000 in
set_option maxRecDepth 100000 in
theorem rany_any {W : World} {B g : Nat} {Z : Zn} {v vo : Value} {s : Hs} (hW : Wr W B g Z v vo s) (hZ : Zok Z) (hs : s.on.length = Z.tr.length) (kd : Int) :
    Calls Tryd.prog 64 #[.pointer (some ⟨g, 0, none⟩), .int .u8 kd] W fun e w' => e = .returned (.bool (anyk kd Z.tr s.on)) ∧ W = w' := by
  obtain ⟨n, hn⟩ : ∃ n, Z.tr.length = n := ⟨_, rfl⟩
  obtain ⟨gv, cv, hv, hg1, hg2⟩ := own_form0 hW.tr (by rw [List.length_map]; exact hZ.n.1)
  obtain ⟨go_, co, hvo, hg3, hg4⟩ := own_form0 hW.on (by rw [List.length_map, hs]; exact hZ.n.1)
  rw [List.length_map, hn] at hv
  rw [List.length_map, hs, hn] at hvo
  subst hv hvo
  have hn8 : n ≤ 8 := by rw [← hn]; exact hZ.n.2
  rw [hn] at hs
  have hdT := Lib.hid fun (k : Nat) (hk : k < Z.tr.length) =>
    (hW.tr.cells (by rw [List.length_map, hn]) (k := k) (by omega) (r := tprow Z.tr[k]) (by rw [List.getElem?_map, List.getElem?_eq_getElem hk]; rfl) (f := 2) (u := .int .u8 Z.tr[k].k) rfl).1
  have hdO := Lib.hid fun (k : Nat) (hk : k < s.on.length) =>
    (hW.on.cells (by rw [List.length_map, hs]) (k := k) (by omega) (r := orow s.on[k]) (by rw [List.getElem?_map, List.getElem?_eq_getElem hk]; rfl) (f := 0) (u := .bool s.on[k]) rfl).1
  have y6 := hW.cl 6 (x := .slice (some ⟨gv, 0, none⟩) n cv) rfl
  have y9 := hW.cl 9 (x := .slice (some ⟨go_, 0, none⟩) n co) rfl
  obtain ⟨R, hR⟩ : ∃ R, anyk kd Z.tr s.on = R := ⟨_, rfl⟩
  rw [hR]
  replace hn := Lib.hid hn
  replace hs := Lib.hid hs
  clear hW hZ
  go_enter Tryd.func64, Tryd.ntmps64
  go_upto_region 2 with fail
  go_loop [5] (fun s5 => ∃ k : Nat, k ≤ n ∧ s5 = .int .i64 k ∧ anyk kd (Z.tr.drop k) (s.on.drop k) = R) (fun s5 => n - (intOf s5).toNat)
  case atStart => exact ⟨0, by omega, rfl, hR⟩
  case round =>
    clear hR
    obtain ⟨k, hk, rfl, hR⟩ := hrel
    by_cases hkn : k = n
    · rw [hkn, ← hn.out, List.drop_length] at hR
      have hR' : false = R := by rw [← hR]; rfl
      subst hR' hkn
      clear hdT hdO hR
      go_wp2
      go_ret
      exact ⟨rfl, rfl⟩
    · have hlt : k < n := by omega
      have hkl : k < Z.tr.length := by rw [hn.out]; exact hlt
      have hko : k < s.on.length := by rw [hs.out]; exact hlt
      have x0 := hdT.out k hkl
      have x1 := hdO.out k hko
      rw [anyk_drop kd hkl hko] at hR
      simp only [Nat.add_zero, Nat.mul_one] at x1
      have hlt' : (k : Int) < (n : Int) := by omega
      clear hdT hdO
      have hR' := Lib.hid hR
      clear hR
      generalize hR2 : anyk kd (Z.tr.drop (k + 1)) (s.on.drop (k + 1)) = R2 at *
      replace hR2 := Lib.hid hR2
      generalize s.on[k] = bk at *
      generalize Z.tr[k].k = uk at *
      cases bk with
      | false =>
        have hfin := hR'.out
        rw [Bool.false_and, Bool.false_or] at hfin
        replace hfin := Lib.hid hfin
        clear hR'
        go_wp2
        go_round
        case rel => exact ⟨k + 1, by omega, by go_num, hR2.out.trans hfin.out⟩
        case measure => simp [intOf]; omega
      | true =>
        by_cases hu : uk = kd
        · subst hu
          have hfin : R = true := by rw [← hR'.out]; simp
          subst hfin
          clear hR'
          go_wp2
          go_ret
          exact ⟨rfl, rfl⟩
        · have hu' : (uk == kd) = false := by simpa using hu
          have hfin := hR'.out
          rw [hu', Bool.true_and, Bool.false_or] at hfin
          replace hfin := Lib.hid hfin
          clear hR' hu
          go_wp2
          go_round
          case rel => exact ⟨k + 1, by omega, by go_num, hR2.out.trans hfin.out⟩
          case measure => simp [intOf]; omega
end Go.Proofs.YtdjdkhbagoideaaDoor
