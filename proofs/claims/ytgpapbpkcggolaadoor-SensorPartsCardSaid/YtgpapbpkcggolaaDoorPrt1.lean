/- Sensor: SensorParts, walked. -/
import Derived.Test.YtgpapbpkcggolaaDoorPrt0
import Derived.Test.YtgpapbpkcggolaaDoorNms
import Derived.Test.YtgpapbpkcggolaaDoorMade
namespace Go.Proofs.YtgpapbpkcggolaaDoor
open Go.RowKit Go.BigFrame

theorem el47 : Elt Tryd.prog 47 35 1 1 := Elt.of (z := .int .i8 0) Tryd.underlying47 (by kernel_rfl) rfl (by decide) (by decide)
theorem I8s.take {w : World} {A : Option Addr} {l : List Int} (h : I8s w A l) (k : Nat) : I8s w A (l.take k) := by
  have := Sl.take h k
  rwa [← List.map_take] at this
theorem own_end2 {w : World} {base n : Nat} {e : TypeId} {size : Nat} {xs : List (List Value)} {r : List Value} {v : Value} (h : Own w base e size (xs ++ [r]) v) (hl : xs.length = n) : ∃ g c, v = .slice (some ⟨g, 0, none⟩) (n + 1) c ∧ n + 1 ≤ c ∧ (n : Int) ≤ (c : Int) := by
  obtain ⟨⟨_, h2⟩, _⟩ := h
  subst hl
  rcases h2 with ⟨_, h0⟩ | ⟨g, cap, cur, e, _, _, hc, hm, _, _⟩
  · rw [List.length_append] at h0; simp at h0
  · rw [List.length_append] at e hc
    exact ⟨g, cap, e, hc, by have h1 : xs.length + 1 ≤ cap := hc; omega⟩
theorem rev_snoc {l : List Int} {i m : Nat} (hm : l.length = m) (hi : i < m) : l.reverse.take (i + 1) = l.reverse.take i ++ [l[m - 1 - i]'(by omega)] := by
  rw [List.take_add_one, List.getElem?_eq_getElem (by rw [List.length_reverse]; omega), List.getElem_reverse]
  subst hm
  rfl
set_option maxHeartbeats 8000000 in
set_option maxRecDepth 100000 in
theorem parts_walk (mk l : List Int) (deg : Int) (A A2 : Option Addr) (c c2 n m : Nat) (w : World) (hH : Has w) (h : I8s w A mk) (hn : mk.length = n) (hb : I8s w A2 l) (hm : l.length = m) (bm : m ≤ 140737488351232) (hcn : n ≤ c) :
    Calls Tryd.prog 7 #[.slice A n c, .int .i8 deg, .slice A2 m c2] w fun e w' => e = .returned (.bool true) ∧ Below w.heap.size w w' := by
  have hle := h.le
  have hle2 := hb.le
  rw [hn] at hle
  rw [hm] at hle2
  have KA := awake_any w hH
  have hnd := Lib.hid fun (X : World) (q : Below w.heap.size w X) => h.below q
  have hbd := Lib.hid fun (X : World) (q : Below w.heap.size w X) => hb.below q
  have hn' := Lib.hid hn
  have hm' := Lib.hid hm
  have KZ := Lib.hid fun (X : World) (q : Below w.heap.size w X) => zone_any mk A c n deg X (h.below q) hn
  have KZt := Lib.hid fun (k : Nat) (hk : k ≤ n) (X : World) (q : Below w.heap.size w X) => zone_any (mk.take k) A c k deg X ((h.below q).take k) (by rw [List.length_take]; omega)
  have KM := Lib.hid fun (X : World) (q : Below w.heap.size w X) => med_any l A2 c2 m X (hb.below q) hm
  have hcn' : (n : Int) ≤ (c : Int) := by omega
  clear h hb hH hn hm
  go_enter Tryd.func7, Tryd.ntmps7
  go_upto_region 3 with (go_at_call 13; (with_reducible refine KA.mono ?_); rintro e w1 ⟨rfl, hd1⟩)
  have hb1 : Below w.heap.size w w1 := hd1.below _
  have K1 := KZ.out w1 hb1
  have two := zone_two mk deg
  have hok := Lib.hid (zone_ok (l := mk) (deg := deg))
  have hzt := Lib.hid fun (z : Nat) => zone_take (l := mk) (deg := deg) (z := z)
  replace hb1 := Lib.hid hb1
  obtain ⟨Z1, hZ1⟩ : ∃ Z, Z = (zonep mk deg).1 := ⟨_, rfl⟩
  obtain ⟨Z2, hZ2⟩ : ∃ Z, Z = (zonep mk deg).2 := ⟨_, rfl⟩
  rw [← hZ1, ← hZ2] at K1
  rw [← hZ2] at two hok
  rw [← hZ1] at hok
  simp only [← hZ1, ← hZ2] at hzt
  clear hZ1 hZ2
  clear KA hd1
  go_upto_if 29 with (go_at_call 24; (with_reducible refine K1.mono ?_); rintro e w2 ⟨rfl, rfl⟩)
  clear K1
  go_cut [9, 10, 11] from 29 to 87 (fun _ _ _ wx => w1 = wx)
  case first =>
    clear KM hbd
    rcases two with e0 | e0
    · obtain ⟨z, ez, hz1, hz2, hz3⟩ := hok.out e0
      replace hzt := Lib.hid (hzt.out z e0 ez)
      subst e0
      subst ez
      have hzn : z ≤ n := by rw [← hn'.out]; exact hz1
      replace hz3 := Lib.hid hz3
      clear hok hz1 hz2
      have hz0 : ¬ (z : Int) < 0 := by omega
      have hz9 : ¬ (n : Int) < (z : Int) := by omega
      go_upto_region 5 with fail
      go_cut [64] from 30 to 63 (fun s wx => s = .bool false ∧ w1 = wx)
      case first =>
        have hcell := Lib.hid fun (i : Nat) (hi : i < mk.length) => (hnd.out w1 hb1.out).at_ hi
        clear KZ KZt hzt
        by_cases hq : z = 0
        · by_cases hqn : z < n
          · have hil : z < mk.length := by rw [hn'.out]; exact hqn
            obtain ⟨b, o, rfl, _, c1⟩ := hcell.out z hil
            have v1 := hz3.out z hil
            have hzn' : (z : Int) < (n : Int) := by omega
            generalize mk[z] = x at *
            have v2 : ¬ x ≤ deg := by omega
            clear v1 hcell hz3
            subst hq
            have g0 : ¬ (n : Int) < 0 := by omega
            have g1 : (0 : Int) < (n : Int) := by omega
            rw [Nat.add_zero] at c1
            rw [show ((0 : Nat) : Int) = 0 from rfl]
            clear hz0 hz9 hzn'
            go_wp2
            go_meet
            case rel => exact ⟨rfl, rfl⟩
          · have hzn' : ¬ (z : Int) < (n : Int) := by omega
            clear hcell hz3
            subst hq
            have g0 : ¬ (n : Int) < 0 := by omega
            have g1 : ¬ (0 : Int) < (n : Int) := by omega
            rw [show ((0 : Nat) : Int) = 0 from rfl]
            clear hz0 hz9 hzn'
            go_wp2
            go_meet
            case rel => exact ⟨rfl, rfl⟩
        · obtain ⟨q, rfl⟩ : ∃ q, z = q + 1 := ⟨z - 1, by omega⟩
          have hqq : q < mk.length := by rw [hn'.out]; omega
          obtain ⟨b, o, rfl, _, c0⟩ := hcell.out q hqq
          have u1 := hz3.out q hqq
          by_cases hqn : q + 1 < n
          · have hil : q + 1 < mk.length := by rw [hn'.out]; exact hqn
            obtain ⟨b', o', e', _, c1⟩ := hcell.out (q + 1) hil
            cases e'
            have v1 := hz3.out (q + 1) hil
            have hzn' : ((q : Int) + 1) < (n : Int) := by omega
            generalize mk[q + 1] = x at *
            generalize mk[q] = y at *
            have v2 : ¬ x ≤ deg := by omega
            have u2 : ¬ deg < y := by omega
            have g0 : (0 : Int) < (q : Int) + 1 := by omega
            rw [show ((q + 1 : Nat) : Int) = (q : Int) + 1 by omega] at hz0 hz9 ⊢
            clear v1 hcell hz3 u1
            go_wp2
            go_meet
            case rel => exact ⟨rfl, rfl⟩
          · have hzn' : ¬ ((q : Int) + 1) < (n : Int) := by omega
            generalize mk[q] = y at *
            have u2 : ¬ deg < y := by omega
            have g0 : (0 : Int) < (q : Int) + 1 := by omega
            rw [show ((q + 1 : Nat) : Int) = (q : Int) + 1 by omega] at hz0 hz9 ⊢
            clear hcell hz3 u1
            go_wp2
            go_meet
            case rel => exact ⟨rfl, rfl⟩
      case rest =>
        obtain ⟨rfl, rfl⟩ := hcut
        rcases Nat.eq_zero_or_pos n with hn0 | hn0
        · subst hn0
          clear KZ KZt hzt hnd
          go_wp2_with fail
          go_loopw [9, 10, 11] (fun s9 _ _ wr => s9 = .int .i64 ((0 : Nat) : Int) ∧ w1 = wr) (fun _ _ _ _ => 0)
          case atStart => exact ⟨rfl, rfl⟩
          case round =>
            obtain ⟨rfl, rfl⟩ := hrel
            go_wp2
            go_meet
            case rel => first | exact rfl | exact trivial
        · obtain ⟨b, o, hA, _, _⟩ := (hnd.out w1 hb1.out).at_ (k := 0) (by rw [hn'.out]; exact hn0)
          subst hA
          clear hnd hz3 KZ
          go_upto_region 8 with fail
          go_loopw [9, 10, 11] (fun s9 _ _ wr => ∃ k : Nat, k ≤ n ∧ s9 = .int .i64 k ∧ w1 = wr) (fun s9 _ _ _ => n - (intOf s9).toNat)
          case atStart => exact ⟨0, by omega, rfl, rfl⟩
          case round =>
            obtain ⟨k, hk, rfl, rfl⟩ := hrel
            by_cases hkn : k = n
            · clear KZt hzt
              subst hkn
              go_wp2
              go_meet
              case rel => first | exact rfl | exact trivial
            · have hkl : (k : Int) < (n : Int) := by omega
              have hkc : (k : Int) ≤ (c : Int) := by omega
              have K2 := KZt.out k hk w1 hb1.out
              rw [hzt.out k (by rw [hn'.out]; exact hk)] at K2
              dsimp only at K2
              rcases Nat.lt_trichotomy z k with q | q | q
              · rw [Nat.min_eq_left (by omega)] at K2
                have q' : (z : Int) < (k : Int) := by omega
                have hne : ((z : Int) != (z : Int)) = false := by simp
                clear KZt hzt
                go_wp2_with (go_at_call 24; (with_reducible refine K2.mono ?_); rintro e w3 ⟨rfl, rfl⟩)
                go_roundw
                case rel => exact ⟨k + 1, by omega, by go_num, by first | exact rfl | exact trivial⟩
                case measure => first | (simp [intOf]; done) | (simp [intOf]; omega)
              · have q2 := q.symm
                subst q2
                rw [Nat.min_self] at K2
                have hne : ((k : Int) != (k : Int)) = false := by simp
                clear KZt hzt
                go_wp2_with (go_at_call 24; (with_reducible refine K2.mono ?_); rintro e w3 ⟨rfl, rfl⟩)
                go_roundw
                case rel => exact ⟨k + 1, by omega, by go_num, by first | exact rfl | exact trivial⟩
                case measure => first | (simp [intOf]; done) | (simp [intOf]; omega)
              · rw [Nat.min_eq_right (by omega)] at K2
                have q' : (k : Int) < (z : Int) := by omega
                have hne : ((k : Int) != (k : Int)) = false := by simp
                clear KZt hzt
                go_wp2_with (go_at_call 24; (with_reducible refine K2.mono ?_); rintro e w3 ⟨rfl, rfl⟩)
                go_roundw
                case rel => exact ⟨k + 1, by omega, by go_num, by first | exact rfl | exact trivial⟩
                case measure => first | (simp [intOf]; done) | (simp [intOf]; omega)
    · subst e0
      clear hok hzt KZ KZt hnd
      go_wp2
      go_meet
      case rel => rfl
  case rest =>
    rw [← hcut]
    clear hcut hok hzt two KZ KZt hnd
    have K3 := KM.out w1 hb1.out
    have hmr := Lib.hid (med_err (l := l))
    obtain ⟨M1, hM1⟩ : ∃ Z, Z = (med l).1 := ⟨_, rfl⟩
    obtain ⟨M2, hM2⟩ : ∃ Z, Z = (med l).2 := ⟨_, rfl⟩
    rw [← hM1, ← hM2] at K3 hmr
    replace hM1 := Lib.hid hM1
    replace hM2 := Lib.hid hM2
    clear KM
    go_upto_region 14 with (go_at_call 25; (with_reducible refine K3.mono ?_); rintro e w3 ⟨rfl, hb3⟩)
    have hb3' : Below w.heap.size w w3 := hb1.out.trans (hb3.mono hb1.out.size)
    clear K3 hb3
    rcases hmr.out with ⟨e2, l0, l4, e1⟩ | ⟨e2, hl⟩
    · rw [hm'.out] at l0 l4
      have hmed := Lib.hid e1
      have hc := Lib.hid fun (k : Nat) (hk : k < l.length) (X : World) (q : Below w.heap.size w X) => (hbd.out X q).at_ hk
      obtain ⟨b, o, hA2, hbl, _⟩ := (hbd.out w3 hb3').at_ (k := 0) (by rw [hm'.out]; exact l0)
      subst hA2
      subst e2
      clear e1 hmr
      replace hb3' := Lib.hid hb3'
      have hs3 := Lib.hid hb3'.out.size
      go_upto_region 20 with fail
      go_loopw [14, 15, 16, 17] (fun s14 s15 s16 s17 wr => ∃ (i : Nat) (v : Value) (_ : Unit), v = s16 ∧ i ≤ m ∧ s17 = .int .i64 i ∧ s14 = .int .i64 (cntle M1 (l.take i) : Nat) ∧ s15 = .int .i64 (cntge M1 (l.take i) : Nat) ∧ Hid (Own wr w3.heap.size 35 1 ((l.reverse.take i).map brow) v) ∧ Hid (Below w3.heap.size w3 wr)) (fun _ _ _ s17 _ => m - (intOf s17).toNat)
      case atStart => exact ⟨0, _, (), rfl, by omega, rfl, rfl, rfl, Lib.hid (Own.nil _ _ _ _), Lib.hid (Below.refl _ _)⟩
      case round =>
        obtain ⟨i, v, _, rfl, hi, rfl, rfl, rfl, hO, hbi⟩ := hrel
        obtain ⟨wi, rfl⟩ : ∃ x : World, x = wr := ⟨_, rfl⟩
        by_cases him : i = m
        · have ht : l.take i = l := List.take_of_length_le (by rw [hm'.out]; omega)
          have hr : l.reverse.take i = l.reverse := List.take_of_length_le (by rw [List.length_reverse, hm'.out]; omega)
          rw [hr] at hO
          rw [ht]
          obtain ⟨A6, c6, rfl, hI6⟩ := own_i8 (n := m) hO.out (by rw [List.length_reverse]; exact hm'.out)
          have K6 := med_any l.reverse A6 c6 m wi hI6 (by rw [List.length_reverse]; exact hm'.out)
          rw [med_congr (List.reverse_perm l), ← hM1.out, ← hM2.out] at K6
          have lo := med_low (l := l) (by rw [hm'.out]; exact l0)
          have hg := med_high (l := l) (by rw [hm'.out]; exact l0)
          rw [← hmed.out, hm'.out] at lo hg
          have lo2 := cnt_le M1 l
          have hg2 := cge_le M1 l
          rw [hm'.out] at lo2 hg2
          generalize cntle M1 l = x1 at *
          generalize cntge M1 l = x2 at *
          have lo' : (m : Int) ≤ 2 * (x1 : Int) := by omega
          have hg' : (m : Int) ≤ 2 * (x2 : Int) := by omega
          have hB := Lib.hid (hb3'.out.trans (hbi.out.mono hs3.out))
          have hmm : (M1 == M1) = true := by simp
          clear hc hO hI6 ht hr
          have him2 := him.symm
          subst him2
          go_wp2_with (go_at_call 25; (with_reducible refine K6.mono ?_); rintro e w7 ⟨rfl, hb7⟩; replace hb7 := Lib.hid hb7)
          go_ret
          exact ⟨rfl, hB.out.trans (hb7.out.mono hB.out.size)⟩
        · have hlt : i < m := by omega
          have hil : i < l.length := by rw [hm'.out]; exact hlt
          obtain ⟨j, hj⟩ : ∃ j : Nat, j = m - 1 - i := ⟨_, rfl⟩
          have ej : (m : Int) - 1 - (i : Int) = (j : Int) := by omega
          have hjm : j < m := by omega
          have hBw := hb3'.out.trans (hbi.out.mono hs3.out)
          obtain ⟨b1, o1, e1, _, c0⟩ := hc.out i hil wi hBw
          cases e1
          obtain ⟨b2, o2, e2, hb2, c1⟩ := hc.out j (by rw [hm'.out]; exact hjm) wi hBw
          cases e2
          have c1' : ∀ ob, (wi.alloc ob).cell? ⟨b, o + j, none⟩ = some (.int .i8 (l[j]'(by rw [hm'.out]; exact hjm))) := fun ob => (World.cell?_of_block (a := ⟨b, o + j, none⟩) (Below.heap_alloc wi _ b hb2)).trans c1
          have hs1 := Lib.hid (cnt_snoc M1 hil)
          have hs2 := Lib.hid (cntge_snoc M1 hil)
          have hrs := Lib.hid (rev_snoc hm'.out hlt)
          simp only [← hj] at hrs
          have hlt4 : Hid (((l.reverse.take i).map brow).length = i) := Lib.hid (by rw [List.length_map, List.length_take, List.length_reverse, hm'.out]; omega)
          have lo2 := cnt_le M1 (l.take i)
          have hg2 := cge_le M1 (l.take i)
          rw [List.length_take] at lo2 hg2
          have lo3 : cntle M1 (l.take i) ≤ m := by omega
          have hg3 : cntge M1 (l.take i) ≤ m := by omega
          obtain ⟨y, hy⟩ : ∃ y, y = l[j]'(by rw [hm'.out]; exact hjm) := ⟨_, rfl⟩
          rw [← hy] at c1 hrs
          replace hj := Lib.hid hj
          clear hy c1' hjm
          clear lo2 hg2 hc hBw
          generalize l[i] = x at *
          generalize cntle M1 (l.take i) = x1 at *
          generalize cntge M1 (l.take i) = x2 at *
          rcases Int.lt_trichotomy x M1 with q | q | q
          · have q1 : x ≤ M1 := by omega
            have q2 : ¬ M1 ≤ x := by omega
            have e5 : Hid (cntle M1 (l.take (i + 1)) = x1 + 1) := Lib.hid (by rw [hs1.out, if_pos q1])
            have e6 : Hid (cntge M1 (l.take (i + 1)) = x2) := Lib.hid (by rw [hs2.out, if_neg q2]; rfl)
            clear hs1 hs2
            go_wp2_with (at_builtin; refine wpList_push el47 rfl _ _ rfl rfl (hO.out.alloc _) [.int .i8 y] wi.heap.size 35 rfl (heap_alloc_at _ _) rfl (by simp [Value.oneCell']) (by rw [hlt4.out]; omega) (by rw [size_al]; have := hbi.out.size; omega) ?_; intro v2 w5 ho5 hb5 hs5 _ _; obtain ⟨g5, c5, rfl, -, -⟩ := own_end2 ho5 hlt4.out; replace ho5 := Lib.hid ho5; replace hb5 := Lib.hid hb5)
            go_roundw
            case rel => exact ⟨i + 1, _, (), rfl, by omega, by go_num, by rw [e5.out]; go_num, by rw [e6.out], Lib.hid (by rw [hrs.out, List.map_append]; exact ho5.out), Lib.hid ((hbi.out.trans ((below_al (Below.refl wi.heap.size wi) _).mono hbi.out.size)).trans hb5.out)⟩
            case measure => first | (simp [intOf]; done) | (simp [intOf]; omega)
          · have q1 : x ≤ M1 := by omega
            have q2 : M1 ≤ x := by omega
            clear q
            have e5 : Hid (cntle M1 (l.take (i + 1)) = x1 + 1) := Lib.hid (by rw [hs1.out, if_pos q1])
            have e6 : Hid (cntge M1 (l.take (i + 1)) = x2 + 1) := Lib.hid (by rw [hs2.out, if_pos q2])
            clear hs1 hs2
            go_wp2_with (at_builtin; refine wpList_push el47 rfl _ _ rfl rfl (hO.out.alloc _) [.int .i8 y] wi.heap.size 35 rfl (heap_alloc_at _ _) rfl (by simp [Value.oneCell']) (by rw [hlt4.out]; omega) (by rw [size_al]; have := hbi.out.size; omega) ?_; intro v2 w5 ho5 hb5 hs5 _ _; obtain ⟨g5, c5, rfl, -, -⟩ := own_end2 ho5 hlt4.out; replace ho5 := Lib.hid ho5; replace hb5 := Lib.hid hb5)
            go_roundw
            case rel => exact ⟨i + 1, _, (), rfl, by omega, by go_num, by rw [e5.out]; go_num, by rw [e6.out]; go_num, Lib.hid (by rw [hrs.out, List.map_append]; exact ho5.out), Lib.hid ((hbi.out.trans ((below_al (Below.refl wi.heap.size wi) _).mono hbi.out.size)).trans hb5.out)⟩
            case measure => first | (simp [intOf]; done) | (simp [intOf]; omega)
          · have q1 : ¬ x ≤ M1 := by omega
            have q2 : M1 ≤ x := by omega
            have e5 : Hid (cntle M1 (l.take (i + 1)) = x1) := Lib.hid (by rw [hs1.out, if_neg q1]; rfl)
            have e6 : Hid (cntge M1 (l.take (i + 1)) = x2 + 1) := Lib.hid (by rw [hs2.out, if_pos q2])
            clear hs1 hs2
            go_wp2_with (at_builtin; refine wpList_push el47 rfl _ _ rfl rfl (hO.out.alloc _) [.int .i8 y] wi.heap.size 35 rfl (heap_alloc_at _ _) rfl (by simp [Value.oneCell']) (by rw [hlt4.out]; omega) (by rw [size_al]; have := hbi.out.size; omega) ?_; intro v2 w5 ho5 hb5 hs5 _ _; obtain ⟨g5, c5, rfl, -, -⟩ := own_end2 ho5 hlt4.out; replace ho5 := Lib.hid ho5; replace hb5 := Lib.hid hb5)
            go_roundw
            case rel => exact ⟨i + 1, _, (), rfl, by omega, by go_num, by rw [e5.out], by rw [e6.out]; go_num, Lib.hid (by rw [hrs.out, List.map_append]; exact ho5.out), Lib.hid ((hbi.out.trans ((below_al (Below.refl wi.heap.size wi) _).mono hbi.out.size)).trans hb5.out)⟩
            case measure => first | (simp [intOf]; done) | (simp [intOf]; omega)
    · subst e2
      replace hb3' := Lib.hid hb3'
      rw [hm'.out] at hl
      by_cases h0 : m = 0
      · subst h0
        go_wp2
        go_ret
        exact ⟨rfl, hb3'.out⟩
      · have h4 : (4096 : Int) < (m : Int) := by omega
        have h0' : ((m : Int) == 0) = false := by simp; omega
        go_wp2
        go_ret
        exact ⟨rfl, hb3'.out⟩
end Go.Proofs.YtgpapbpkcggolaaDoor
