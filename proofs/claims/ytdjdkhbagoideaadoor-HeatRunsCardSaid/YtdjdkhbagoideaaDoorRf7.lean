/- Heat, plain: the reference's watch and the program's go side by side: the sums may differ by the sign of nought. No program here. -/
import Derived.Test.YtdjdkhbagoideaaDoorRf6
namespace Go.Proofs.YtdjdkhbagoideaaDoor
open flt Ieee

structure Sim (s r : Hs) : Prop where
  h : r.h = s.h
  felt : r.felt = s.felt
  on : r.on = s.on
  lv : r.lv = s.lv
  sh : r.sh = s.sh
  sum : key r.sum = key s.sum
theorem key_fmax {x y : Nat} (hx : nn x) (hy : nn y) : key (fmax2 x y) = max (key x) (key y) := by
  unfold fmax2
  rw [lt_val hx hy, gt_val hx hy]
  by_cases h : key x < key y
  · rw [decide_eq_true h, if_pos rfl]; omega
  · rw [decide_eq_false h, if_neg (by decide)]
    by_cases h2 : key y < key x
    · rw [decide_eq_true h2, if_pos rfl]; omega
    · rw [decide_eq_false h2, if_neg (by decide)]
      split <;> omega
theorem key_fmin {x y : Nat} (hx : nn x) (hy : nn y) : key (fmin2 x y) = min (key x) (key y) := by
  unfold fmin2
  rw [lt_val hx hy, gt_val hx hy]
  by_cases h : key x < key y
  · rw [decide_eq_true h, if_pos rfl]; omega
  · rw [decide_eq_false h, if_neg (by decide)]
    by_cases h2 : key y < key x
    · rw [decide_eq_true h2, if_pos rfl]; omega
    · rw [decide_eq_false h2, if_neg (by decide)]
      split <;> omega
theorem key_rclamp {y cap : Nat} (hy : nn y) (hc : nn cap) : key (rclamp y cap) = min (max (key y) 0) (key cap) := by
  have h0 : nn 0 := zero_bt.nn
  have hin : ∀ z, nn z → key (if gt z cap then cap else z) = min (key z) (key cap) := fun z hz => by
    rw [gt_val hz hc]
    by_cases h2 : key cap < key z
    · rw [decide_eq_true h2, if_pos rfl]; omega
    · rw [decide_eq_false h2, if_neg (by decide)]; omega
  unfold rclamp
  cases h : lt y 0
  · simp only [Bool.false_eq_true, if_false]
    rw [hin y hy]
    rw [lt_val hy h0, key_zero, decide_eq_false_iff_not] at h
    omega
  · simp only [if_true]
    rw [hin 0 h0, key_zero]
    rw [lt_val hy h0, key_zero, decide_eq_true_eq] at h
    omega
theorem fadd_congr {a a' b b' : Nat} (ha : rung a < double.infRung) (ha' : rung a' < double.infRung) (hb : rung b < double.infRung) (hb' : rung b' < double.infRung) (h1 : key a = key a') (h2 : key b = key b') : key (fadd a b) = key (fadd a' b') := by
  obtain ⟨s, m, e, h3, he, hv⟩ := fadd_spec ha hb
  obtain ⟨t, n, f, h4, hf, hw⟩ := fadd_spec ha' hb'
  have v1 := (val_key (x := a) (y := a')).2.2 h1
  have v2 := (val_key (x := b) (y := b')).2.2 h2
  have e1 : ((1074 : Nat) : Int) + e = e + 1074 := by omega
  have e2 : ((1074 : Nat) : Int) + f = f + 1074 := by omega
  have p1 := near_mono (K := 1074) (s := s) (m := m) (i := e) (t := t) (n := n) (j := f) (by decide) (by omega) (by omega) (by rw [e1, e2, hv, hw]; omega)
  have p2 := near_mono (K := 1074) (s := t) (m := n) (i := f) (t := s) (n := m) (j := e) (by decide) (by omega) (by omega) (by rw [e1, e2, hv, hw]; omega)
  rw [h3, h4]
  omega
theorem fmul_congr {x b b' : Nat} (hx : rung x < double.infRung) (hb : rung b < double.infRung) (hb' : rung b' < double.infRung) (h : key b = key b') : key (fmul x b) = key (fmul x b') := by
  obtain ⟨_, m, e, h3, he, hv⟩ := fmul_spec hx hb
  obtain ⟨_, n, f, h4, hf, hw⟩ := fmul_spec hx hb'
  have k1 := rung_key b
  have k2 := rung_key b'
  have hr : rung b = rung b' := by omega
  rw [hr, ← hw] at hv
  have e1 : ((2148 : Nat) : Int) + e = e + 2148 := by omega
  have e2 : ((2148 : Nat) : Int) + f = f + 2148 := by omega
  have hN : N m e = N n f := by
    have p1 := N_mono (K := 2148) (m := m) (i := e) (n := n) (j := f) (by decide) (by omega) (by omega) (by rw [e1, e2, hv]; exact Nat.le_refl _)
    have p2 := N_mono (K := 2148) (m := n) (i := f) (n := m) (j := e) (by decide) (by omega) (by omega) (by rw [e1, e2, hv]; exact Nat.le_refl _)
    omega
  rw [h3, h4, key_nearest, key_nearest, hN]
  by_cases h0 : key b = 0
  · have hr0 : rung b' = 0 := by omega
    rw [hr0, V_zero, Nat.mul_zero] at hw
    have hn : n = 0 := by
      rcases Nat.mul_eq_zero.1 hw with q | q
      · exact q
      · have := Nat.two_pow_pos (f + 2148).toNat; omega
    have : N n f = 0 := by unfold N; rw [if_pos hn]
    rw [this]
    split <;> split <;> rfl
  · have hneg : neg b = neg b' := by
      unfold key at h h0
      cases hq : neg b <;> cases hq' : neg b' <;> rw [hq] at h h0 <;> rw [hq'] at h <;> simp only [if_true, if_false, Bool.false_eq_true] at h h0 <;> first | rfl | omega
    rw [hneg]
theorem lvl_congr {n n' : Nat} (hn : nn n) (hn' : nn n') (h : key n = key n') (mo : Int) : lvl n mo = lvl n' mo := by
  have nm : nn (floatOfInt .f64 mo) := nn_ofInt _
  unfold lvl
  rw [gt_val hn zero_bt.nn, gt_val hn' zero_bt.nn, ge_val hn nm, ge_val hn' nm, h]
  by_cases h0 : key 0 < key n'
  · rw [key_zero] at h0
    have hr : double.read n = double.read n' := by
      have k1 := rung_key n
      have k2 := rung_key n'
      have hr : rung n = rung n' := by omega
      have hneg : neg n = neg n' := by
        have q1 := h
        unfold key at q1 h0
        cases hq : neg n <;> cases hq' : neg n' <;> rw [hq, hq'] at q1 <;> rw [hq'] at h0 <;> simp only [if_true, if_false, Bool.false_eq_true] at q1 h0 <;> first | rfl | omega
      unfold Format.read
      have e1 : n % double.signWeight = n' % double.signWeight := hr
      have e2 : (n / double.signWeight % 2 == 1) = (n' / double.signWeight % 2 == 1) := hneg
      rw [e1, e2]
    have hc : ceilI n = ceilI n' := by
      unfold ceilI ceilB
      rw [hr]
    rw [hc]
  · rw [decide_eq_false h0]
    simp
theorem Sim.refl (s : Hs) : Sim s s := ⟨rfl, rfl, rfl, rfl, rfl, rfl⟩
theorem sim_feel {Z : Zn} {s r : Hs} (h : Sim s r) (x : Nat) : feelh Z r x = feelh Z s x := by
  unfold feelh
  rw [h.felt, h.h]
theorem sim_step {Z : Zn} {s r : Hs} (hZ : Zok Z) (hs : Hok Z s) (hr : Hok Z r) (h : Sim s r) {x secs : Nat} (hx : near x = true) (hc : seconds secs = true) : Sim (stepd Z s x secs) (rstepd Z r x secs) := by
  have hf := sim_feel (Z := Z) h x
  have hok1 := hok_turn (hok_feel hZ hs (near_bt hx))
  have hok2 := hok_turn (hok_feel hZ hr (near_bt hx))
  have e1 := rek_of hZ hok1.h hok1.sum (sec_bt hc)
  have e2 := rekr_of hZ hok2.h hok2.sum (sec_bt hc)
  have hq : (rturnd Z r x).h = feelh Z s x := hf
  have hon : (rturnd Z r x).on = (turnd Z s x).on := by
    show ons (feelh Z r x) Z.tr r.on = ons (feelh Z s x) Z.tr s.on
    rw [hf, h.on]
  have hm : Bt (-((1000000 : Nat) : Int)) ((1000000 : Nat) : Int) secs := (sec_bt hc).mono (by omega) (by omega)
  have ho : Bt (-2048576) 2048576 (overh Z (feelh Z s x)) := ((hok1.h.sub hZ.tg (by unfold In53; omega)).2).mono (by omega) (by omega)
  have hmul := (ho.mono (c := -((2048576 : Nat) : Int)) (d := ((2048576 : Nat) : Int)) (by omega) (by omega)).mul hm (by decide)
  have b1 : Bt (-3000000000000) 3000000000000 (sum1 Z (turnd Z s x) (feelh Z s x) secs) := e1.b1
  have b1' : Bt (-3000000000000) 3000000000000 (sum1 Z (rturnd Z r x) (feelh Z s x) secs) := by
    have := e2.b1
    change Bt _ _ (sum1 Z (rturnd Z r x) (rturnd Z r x).h secs) at this
    rwa [hq] at this
  have ks1 : key (sum1 Z (rturnd Z r x) (feelh Z s x) secs) = key (sum1 Z (turnd Z s x) (feelh Z s x) secs) := fadd_congr hr.sum.f hs.sum.f hmul.2.f hmul.2.f h.sum rfl
  have ks2 : key (rsum2 Z (rturnd Z r x) (feelh Z s x) secs) = key (sum2 Z (turnd Z s x) (feelh Z s x) secs) := by
    unfold rsum2 sum2
    rw [key_rclamp b1'.nn hZ.cap.nn, key_fmin (fmax_bt b1 (by omega)).nn hZ.cap.nn, key_fmax b1.nn zero_bt.nn, key_zero, ks1]
  have b3 : Bt 0 1000000 (sum2 Z (turnd Z s x) (feelh Z s x) secs) := e1.b3
  have b3' : Bt 0 1000000 (rsum2 Z (rturnd Z r x) (feelh Z s x) secs) := by
    have := e2.b3
    change Bt _ _ (rsum2 Z (rturnd Z r x) (rturnd Z r x).h secs) at this
    rwa [hq] at this
  have kp : Bt (-((1000000 : Nat) : Int)) ((1000000 : Nat) : Int) Z.kp := hZ.kp.mono (by omega) (by omega)
  have ki : Bt (-((1000000 : Nat) : Int)) ((1000000 : Nat) : Int) Z.ki := hZ.ki.mono (by omega) (by omega)
  have m1 := kp.mul (ho.mono (c := -((2048576 : Nat) : Int)) (d := ((2048576 : Nat) : Int)) (by omega) (by omega)) (by decide)
  have m2 := ki.mul (b3.mono (c := -((1000000 : Nat) : Int)) (d := ((1000000 : Nat) : Int)) (by omega) (by omega)) (by decide)
  have m2' := ki.mul (b3'.mono (c := -((1000000 : Nat) : Int)) (d := ((1000000 : Nat) : Int)) (by omega) (by omega)) (by decide)
  have kw : key (rwish Z (rturnd Z r x) (feelh Z s x) secs) = key (wish Z (turnd Z s x) (feelh Z s x) secs) :=
    fadd_congr m1.2.f m1.2.f m2'.2.f m2.2.f rfl (fmul_congr hZ.ki.f b3'.f b3.f ks2)
  have n1 : nn (wish Z (turnd Z s x) (feelh Z s x) secs) := e1.b4.nn
  have n2 : nn (rwish Z (rturnd Z r x) (feelh Z s x) secs) := by
    have := e2.b4.nn
    change nn (rwish Z (rturnd Z r x) (rturnd Z r x).h secs) at this
    rwa [hq] at this
  have klv := lvl_congr n2 n1 kw Z.mo
  rw [stepd_eq]
  refine ⟨hf, rfl, hon, ?_, ?_, ?_⟩
  · show rglv Z (rturnd Z r x) secs = glv Z (turnd Z s x) secs
    unfold rglv glv rglv0 glv0
    rw [hon, hq, klv, show (rturnd Z r x).lv = (turnd Z s x).lv from h.lv]
    rfl
  · show anyk 3 Z.tr (rturnd Z r x).on = anyk 3 Z.tr (turnd Z s x).on
    rw [hon]
  · show key (rgsum Z (rturnd Z r x) secs) = key (gsum Z (turnd Z s x) secs)
    unfold rgsum gsum
    rw [hon, hq]
    split
    · exact ks2
    · rfl
theorem sim_next {Z : Zn} {s r : Hs} (hZ : Zok Z) (hs : Hok Z s) (hr : Hok Z r) (h : Sim s r) (x secs : Nat) :
    Sim (nxt Z s x secs) (rnxt Z r x secs) ∧ rtold Z r x secs = told Z s x secs ∧ code r x secs = code s x secs := by
  have hcode : code r x secs = code s x secs := by unfold code; rw [h.sh]
  refine ⟨?_, ?_, hcode⟩
  · unfold nxt rnxt
    rw [h.sh]
    split
    · exact h
    · rename_i q
      simp only [Bool.or_eq_true, not_or, Bool.not_eq_true] at q
      have := good_arg q.1.2 q.2
      exact sim_step hZ hs hr h this.1 this.2
  · unfold told rtold
    rw [h.sh]
    by_cases q : (s.sh || badArg x secs) = true
    · rw [if_pos q, if_pos q]
    · rw [if_neg q, if_neg q]
      by_cases q2 : isNaN x = true
      · rw [if_pos q2, if_pos q2, h.h, h.lv]
      · rw [if_neg q2, if_neg q2]
        simp only [Bool.or_eq_true, not_or, Bool.not_eq_true] at q q2
        have hg := good_arg q.2 q2
        have hst := sim_step hZ hs hr h hg.1 hg.2
        rw [hst.h, hst.lv, hst.sh, hst.on, h.on]
theorem rnxt_ok {Z : Zn} {r : Hs} (hZ : Zok Z) (hr : Hok Z r) (x secs : Nat) : Hok Z (rnxt Z r x secs) := by
  unfold rnxt
  split
  · exact hr
  · rename_i q
    simp only [Bool.or_eq_true, not_or, Bool.not_eq_true] at q
    have hg := good_arg q.1.2 q.2
    have hok2 := hok_turn (hok_feel hZ hr (near_bt hg.1))
    have e2 := rekr_of hZ hok2.h hok2.sum (sec_bt hg.2)
    refine ⟨hok2.h, ?_, ?_, hok2.on⟩
    · show Bt _ _ (rgsum Z (rturnd Z r x) secs)
      unfold rgsum
      split
      · exact e2.b3
      · exact zero_bt.mono (by omega) (by omega)
    · show 0 ≤ rglv Z (rturnd Z r x) secs ∧ rglv Z (rturnd Z r x) secs ≤ Z.mo
      unfold rglv rglv0
      have hm := hZ.mo
      split
      · omega
      · split
        · exact lvl_bt e2.b4.nn hZ.mo
        · have h1 : 0 ≤ (rturnd Z r x).lv ∧ (rturnd Z r x).lv ≤ Z.mo := hr.lv
          split <;> omega
end Go.Proofs.YtdjdkhbagoideaaDoor
