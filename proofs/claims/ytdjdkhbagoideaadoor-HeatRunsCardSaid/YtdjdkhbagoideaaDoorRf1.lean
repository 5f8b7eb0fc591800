/- Heat: the reference's Check; walked. -/
import Derived.Test.YtdjdkhbagoideaaDoorRf0
namespace Go.Proofs.YtdjdkhbagoideaaDoor
open Go.RowKit Go.BigFrame flt Ieee

theorem near_above {a : Nat} (h : near a = true) : le a minusInf = false := by
  have hb := near_bt h
  have nm : nn minusInf := by unfold nn; decide +kernel
  rw [le_val hb.nn nm, decide_eq_false_iff_not]
  have hk : key minusInf = -(double.infRung : Int) := by decide +kernel
  have h1 := rung_key a
  have h2 := hb.f
  omega
theorem near_gt {a p : Nat} (h : near a = true) (hp : near p = true) : gt a p = !le a p := by
  have ha := (near_bt h).nn
  have hq := (near_bt hp).nn
  rw [gt_val ha hq, le_val ha hq]
  by_cases q : key p < key a
  · rw [decide_eq_true q, decide_eq_false (by omega)]; rfl
  · rw [decide_eq_false q, decide_eq_true (by omega)]; rfl
/-- a trip, as the reference looks at it: k, the one ahead of it -/
def rtripOk (k : Nat) (p : Nat) (t : Tp) : Bool := near t.a && part t.b && decide (1 ≤ t.k) && decide (t.k ≤ 3) && (decide (k = 0) || gt t.a p)
def lastOf (tr : List Tp) (k : Nat) : Nat := if k = 0 then minusInf else (tr.getD (k - 1) ⟨0, 0, 0⟩).a
theorem rtrip_eq {tr : List Tp} {k : Nat} (hk : k < tr.length) (hn : k ≠ 0 → near (lastOf tr k) = true) : tripOk (lastOf tr k) tr[k] = rtripOk k (lastOf tr k) tr[k] := by
  unfold tripOk rtripOk
  cases hna : near tr[k].a with
  | false => simp
  | true =>
    by_cases h0 : k = 0
    · subst h0
      rw [show lastOf tr 0 = minusInf from rfl, near_above hna]
      simp
    · rw [near_gt hna (hn h0), decide_eq_false h0]
      cases le tr[k].a (lastOf tr k) <;> simp
theorem one_lt (n : Nat) : decide ((n : Int) < 1) = !decide (1 ≤ n) := by
  by_cases q : 1 ≤ n
  · have : ¬ (n : Int) < 1 := by omega
    simp [q, this]
  · have : (n : Int) < 1 := by omega
    simp [q, this]
set_option maxHeartbeats 4000000 in
set_option maxRecDepth 100000 in
theorem rcheck_any (Z : Zn) (A : Option Addr) (c : Nat) (W : World) (hT : Tps W A Z.tr) :
    Calls Tryd.prog 56 #[.agg (zarr Z (.slice A Z.tr.length c))] W fun e w' => e = .returned (.int .i64 (if okZ Z then 0 else 270)) ∧ Below W.heap.size W w' := by
  have hcd := Lib.hid (fun (k : Nat) (hk : k < Z.tr.length) (W' : World) (hd : Below W.heap.size W W') => (hT.below hd).at_ hk)
  have hlen := hT.le
  clear hT
  obtain ⟨al, tg, kp, ki, cap, mo, tr⟩ := Z
  simp only [zarr] at *
  obtain ⟨n, hn⟩ : ∃ n, tr.length = n := ⟨_, rfl⟩
  have hhead : Hid (headOk ⟨al, tg, kp, ki, cap, mo, tr⟩ = (gt al 0 && le al 4607182418800017408 && near tg && part kp && part ki && part cap && decide (0 ≤ mo) && decide (mo ≤ 100) && decide (1 ≤ n) && decide (n ≤ 8))) := Lib.hid (by unfold headOk; rw [hn])
  have hok : Hid (okZ ⟨al, tg, kp, ki, cap, mo, tr⟩ = (headOk ⟨al, tg, kp, ki, cap, mo, tr⟩ && tripsOk minusInf tr)) := Lib.hid rfl
  rw [hn] at hlen ⊢
  replace hn := Lib.hid hn
  obtain ⟨code, hcode⟩ : ∃ x : Int, (if okZ ⟨al, tg, kp, ki, cap, mo, tr⟩ then 0 else 270) = x := ⟨_, rfl⟩
  rw [hcode]
  rw [hok.out, hhead.out] at hcode
  clear hok hhead
  replace hcode := Lib.hid hcode
  obtain ⟨nz, hnz0⟩ : ∃ b, decide (1 ≤ n) = b := ⟨_, rfl⟩
  have hnz : decide ((n : Int) < 1) = !nz := by rw [one_lt, hnz0]
  rw [hnz0] at hcode
  obtain ⟨ga, hga⟩ : ∃ a, (FloatKind.f64.format.order al 0 == some .gt) = a := ⟨_, rfl⟩
  obtain ⟨gb, hgb⟩ : ∃ a, (FloatKind.f64.format.order al 4607182418800017408 == some .lt || FloatKind.f64.format.order al 4607182418800017408 == some .eq) = a := ⟨_, rfl⟩
  rw [show gt al 0 = ga from hga, show le al 4607182418800017408 = gb from hgb] at hcode
  have k1 := rnear_any tg
  have k2 := rpart_any kp
  have k3 := rpart_any ki
  have k4 := rpart_any cap
  generalize near tg = b1 at *
  generalize part kp = b2 at *
  generalize part ki = b3 at *
  generalize part cap = b4 at *
  go_enter Tryd.func56, Tryd.ntmps56
  go_upto_region 1 with fail
  replace hnz0 := Lib.hid hnz0
  have hx := heap_alloc_at W (.cells #[.float .f64 al, .float .f64 tg, .float .f64 kp, .float .f64 ki, .float .f64 cap, .int .i64 mo, .slice A n c] 49)
  have hb := below_al (Below.refl W.heap.size W) (.cells #[.float .f64 al, .float .f64 tg, .float .f64 kp, .float .f64 ki, .float .f64 cap, .int .i64 mo, .slice A n c] 49)
  go_cut [59] from 5 to 59 (fun v wc => v = .bool (!(ga && gb && b1 && b2 && b3 && b4 && decide (0 ≤ mo) && decide (mo ≤ 100) && nz && decide (n ≤ 8))) ∧ wc = W.alloc (.cells #[.float .f64 al, .float .f64 tg, .float .f64 kp, .float .f64 ki, .float .f64 cap, .int .i64 mo, .slice A n c] 49))
  case first =>
    clear hb
    go_wp2_with (first
      | (go_at_call 35; (with_reducible refine (k1 _).mono ?_); rintro e w1 ⟨rfl, rfl⟩)
      | (go_at_call 60; (with_reducible refine (k2 _).mono ?_); rintro e w2 ⟨rfl, rfl⟩)
      | (go_at_call 60; (with_reducible refine (k3 _).mono ?_); rintro e w3 ⟨rfl, rfl⟩)
      | (go_at_call 60; (with_reducible refine (k4 _).mono ?_); rintro e w4 ⟨rfl, rfl⟩))
    all_goals go_meet
    all_goals (case rel => refine ⟨?_, rfl⟩; congr 1; first | (simp_all; done) | (simp_all; omega) | (have qa : ¬ mo < 0 := (by omega); have qb : ¬ 100 < mo := (by omega); have qc : decide ((8 : Int) < (n : Int)) = !decide (n ≤ 8) := (eight n); rw [qc]; simp_all; omega))
  obtain ⟨rfl, rfl⟩ := hcut
  generalize hH : (ga && gb && b1 && b2 && b3 && b4 && decide (0 ≤ mo) && decide (mo ≤ 100) && nz && decide (n ≤ 8)) = H at *
  generalize W.alloc _ = wz at *
  have hn8 : H = true → n ≤ 8 := fun h => by
    rw [← hH] at h
    simp only [Bool.and_eq_true, decide_eq_true_eq] at h
    exact h.2
  clear hH hnz hnz0 hga hgb k1 k2 k3 k4
  cases H with
  | false =>
    have hc := hcode.out
    simp only [Bool.false_and, Bool.false_eq_true, if_false] at hc
    subst hc
    clear hcd hcode
    go_wp2
    go_ret
    exact ⟨rfl, hb⟩
  | true =>
    have hn8 := hn8 rfl
    have hc := hcode.out
    simp only [Bool.true_and] at hc
    clear hcode
    replace hc := Lib.hid hc
    have hx6 : Hid (∀ X, Below W.heap.size W X → Below (W.heap.size + 1) wz X → X.cell? ⟨W.heap.size, 6, none⟩ = some (.slice A n c)) := Lib.hid fun X _ d => by
      rw [cell_of_row _ _ 6 _ 49 (0, 0) ((d.block _ (Nat.lt_succ_self _)).trans hx)]; rfl
    have hsz : Hid (W.heap.size + 1 ≤ wz.heap.size) := Lib.hid (heap_lt hx)
    clear hx
    go_upto_region 4 with fail
    go_loopw [3] (fun s3 wr => ∃ k : Nat, k ≤ n ∧ s3 = .int .i64 k ∧ tripsOk minusInf tr = tripsOk (lastOf tr k) (tr.drop k) ∧ (k ≠ 0 → near (lastOf tr k) = true) ∧ Hid (Below W.heap.size W wr) ∧ Hid (Below (W.heap.size + 1) wz wr)) (fun s3 _ => n - (intOf s3).toNat)
    case atStart => exact ⟨0, by omega, rfl, rfl, fun h => absurd rfl h, Lib.hid hb, Lib.hid (Below.refl _ _)⟩
    case round =>
      clear hb
      obtain ⟨k, hk, rfl, hdr, hla, hb, hz⟩ := hrel
      obtain ⟨wk, rfl⟩ : ∃ x : World, x = wr := ⟨_, rfl⟩
      have y6 := hx6.out wk hb.out hz.out
      by_cases hkn : k = n
      · rw [hkn, ← hn.out, List.drop_length] at hdr
        have hc' := hc.out
        rw [hdr, show tripsOk _ [] = true from rfl, if_pos rfl] at hc'
        subst hkn hc'
        clear hcd hdr hc hla
        go_wp2
        go_ret
        exact ⟨rfl, hb.out⟩
      · have hlt : k < n := by omega
        have hkl : k < tr.length := by rw [hn.out]; exact hlt
        obtain ⟨bb, oo, rfl, hbb, x0, x1, x2⟩ := hcd.out k hkl wk hb.out
        have hprev : Hid (∀ X, Below wk.heap.size wk X → ∀ j, k = j + 1 → X.cell? ⟨bb, oo + j * 3, none⟩ = some (.float .f64 (lastOf tr k))) := Lib.hid fun X d j hj => by
          obtain ⟨b', o', e', hb', z0, -, -⟩ := hcd.out j (by omega) wk hb.out
          cases e'
          have hj1 : lastOf tr k = (tr[j]'(by omega)).a := by
            unfold lastOf
            rw [if_neg (by omega), List.getD_eq_getElem?_getD, List.getElem?_eq_getElem (by omega)]
            simp only [Option.getD_some]
            congr 2
            omega
          rw [hj1]
          exact (d.cell (p := ⟨bb, oo + j * 3, none⟩) hb').trans z0
        have hrt := rtrip_eq hkl hla
        rw [tripsOk_drop hkl, hrt] at hdr
        have hnx : Hid (tripsOk minusInf tr = (rtripOk k (lastOf tr k) tr[k] && tripsOk tr[k].a (tr.drop (k + 1)))) := Lib.hid hdr
        have hls : Hid (lastOf tr (k + 1) = tr[k].a) := Lib.hid (by
          unfold lastOf
          rw [if_neg (by omega), List.getD_eq_getElem?_getD, Nat.add_sub_cancel, List.getElem?_eq_getElem hkl]
          rfl)
        clear hdr hrt hla
        generalize hR : tripsOk tr[k].a (tr.drop (k + 1)) = R at *
        replace hR := Lib.hid hR
        generalize tr[k] = u at *
        obtain ⟨ua, ub, uk⟩ := u
        simp only at *
        clear hkn hcd
        go_upto_region 7 with (refine wpList_store_row rfl 79 _ _ rfl wk.heap.size #[.float .f64 ua, .float .f64 ub, .int .u8 uk] rfl rfl 79 _ (heap_alloc_at _ _) (by kernel_rfl) (by kernel_rfl) (by kernel_rfl) ?_)
        rw [setRow_alloc _ _ _ _ _ rfl]
        simp only [Act.put]
        have hxt := heap_alloc_at wk (.cells #[.float .f64 ua, .float .f64 ub, .int .u8 uk] 79)
        have hdt := below_al (Below.refl wk.heap.size wk) (.cells #[.float .f64 ua, .float .f64 ub, .int .u8 uk] 79)
        have hbt := Lib.hid (hb.out.trans (hdt.mono hb.out.size))
        have hzt := Lib.hid (hz.out.trans (hdt.mono (Nat.le_trans hsz.out hz.out.size)))
        generalize wk.alloc (.cells #[.float .f64 ua, .float .f64 ub, .int .u8 uk] 79) = wt at *
        have y0 : wt.cell? ⟨wk.heap.size, 0, none⟩ = some (.float .f64 ua) := by rw [cell_of_row _ _ 0 _ 79 (0, 0) hxt]; rfl
        have y1 : wt.cell? ⟨wk.heap.size, 1, none⟩ = some (.float .f64 ub) := by rw [cell_of_row _ _ 1 _ 79 (0, 0) hxt]; rfl
        have y2 : wt.cell? ⟨wk.heap.size, 2, none⟩ = some (.int .u8 uk) := by rw [cell_of_row _ _ 2 _ 79 (0, 0) hxt]; rfl
        have z6 := hx6.out wt hbt.out hzt.out
        have hpv := Lib.hid (hprev.out wt hdt)
        have hnr := Lib.hid (show rtripOk k (lastOf tr k) ⟨ua, ub, uk⟩ = true → near ua = true from fun h => by
          unfold rtripOk at h
          simp only [Bool.and_eq_true] at h
          exact h.1.1.1.1)
        have k1 := fun q => rnear_any ua (wt.drewN q)
        have k2 := fun q => rpart_any ub (wt.drewN q)
        obtain ⟨L, hL⟩ : ∃ L, L = lastOf tr k := ⟨_, rfl⟩
        rw [← hL] at hpv hnx hnr
        obtain ⟨gl, hgl⟩ : ∃ a, (FloatKind.f64.format.order ua L == some .gt) = a := ⟨_, rfl⟩
        obtain ⟨T, hT⟩ : ∃ T, T = rtripOk k L ⟨ua, ub, uk⟩ := ⟨_, rfl⟩
        rw [← hT] at hnx hnr
        have hto : Hid (T = (near ua && part ub && decide (1 ≤ uk) && decide (uk ≤ 3) && (decide (k = 0) || gl))) := Lib.hid (by rw [hT]; unfold rtripOk; rw [show gt ua L = gl from hgl])
        replace hL := Lib.hid hL
        replace hT := Lib.hid hT
        generalize hb1 : near ua = b1 at *
        replace hb1 := Lib.hid hb1
        generalize part ub = b2 at *
        clear x0 x1 x2 hxt hb hz y6 hprev hdt
        go_cut [108] from 72 to 107 (fun v wc => v = .bool (!T) ∧ Drawn wt wc)
        case first =>
          have hto' := hto.out
          clear hto hnx hR hls hT hL hbt hzt hx6
          cases b1 with
          | false =>
            obtain rfl : T = false := by rw [hto']; rfl
            clear hto'
            go_big_quiet ((first | (go_at_call 35; exact quiet_same (k1 _)) | (go_at_call 60; exact quiet_same (k2 _))))
            go_wp2
            go_meet
            case rel => exact ⟨rfl, (Drawn.refl _).drewN _⟩
          | true =>
            cases b2 with
            | false =>
              obtain rfl : T = false := by rw [hto']; rfl
              clear hto'
              go_big_quiet ((first | (go_at_call 35; exact quiet_same (k1 _)) | (go_at_call 60; exact quiet_same (k2 _))))
              go_wp2
              go_meet
              case rel => exact ⟨rfl, (Drawn.refl _).drewN _⟩
            | true =>
              by_cases q1 : 1 ≤ uk
              case neg =>
                have q1' : uk < 1 := by omega
                have q1'' : decide (uk < 1) = true := decide_eq_true q1'
                obtain rfl : T = false := by rw [hto']; rw [decide_eq_false q1]; rfl
                clear hto'
                go_big_quiet ((first | (go_at_call 35; exact quiet_same (k1 _)) | (go_at_call 60; exact quiet_same (k2 _))))
                go_wp2
                go_meet
                case rel => exact ⟨rfl, (Drawn.refl _).drewN _⟩
              have q1' : decide (uk < 1) = false := decide_eq_false (by omega)
              by_cases q2 : uk ≤ 3
              case neg =>
                have q2' : 3 < uk := by omega
                obtain rfl : T = false := by rw [hto']; rw [decide_eq_false q2]; simp
                clear hto'
                go_big_quiet ((first | (go_at_call 35; exact quiet_same (k1 _)) | (go_at_call 60; exact quiet_same (k2 _))))
                go_wp2
                go_meet
                case rel => exact ⟨rfl, (Drawn.refl _).drewN _⟩
              have q2' : decide (3 < uk) = false := decide_eq_false (by omega)
              by_cases k0 : k = 0
              · subst k0
                obtain rfl : T = true := by rw [hto']; rw [decide_eq_true q1, decide_eq_true q2]; rfl
                clear hto'
                go_big_quiet ((first | (go_at_call 35; exact quiet_same (k1 _)) | (go_at_call 60; exact quiet_same (k2 _))))
                go_wp2
                go_meet
                case rel => exact ⟨rfl, (Drawn.refl _).drewN _⟩
              · obtain ⟨j, rfl⟩ : ∃ j, k = j + 1 := ⟨k - 1, by omega⟩
                have hp := hpv.out j rfl
                have e1 : (((j + 1 : Nat) : Int) - 1) = (j : Int) := by omega
                have e2 : (0 : Int) < ((j + 1 : Nat) : Int) := by omega
                have e3 : (j : Int) < (n : Int) := by omega
                have e4 : j < n := by omega
                cases gl with
                | false =>
                  obtain rfl : T = false := by rw [hto']; rw [decide_eq_false k0]; simp
                  clear hto'
                  go_big_quiet ((first | (go_at_call 35; exact quiet_same (k1 _)) | (go_at_call 60; exact quiet_same (k2 _))))
                  go_wp2
                  go_meet
                  case rel => exact ⟨rfl, (Drawn.refl _).drewN _⟩
                | true =>
                  obtain rfl : T = true := by rw [hto']; rw [decide_eq_true q1, decide_eq_true q2]; simp
                  clear hto'
                  go_big_quiet ((first | (go_at_call 35; exact quiet_same (k1 _)) | (go_at_call 60; exact quiet_same (k2 _))))
                  go_wp2
                  go_meet
                  case rel => exact ⟨rfl, (Drawn.refl _).drewN _⟩
        obtain ⟨rfl, hd⟩ := hcut
        have hbc := Lib.hid (hd.after hbt.out)
        have hzc := Lib.hid (hd.after hzt.out)
        have hnx' := hnx.out
        have hc' := hc.out
        rw [hnx'] at hc'
        clear hto hpv k1 k2 hgl hbt hzt y0 y1 y2 z6
        cases T with
        | false =>
          simp only [Bool.false_and, Bool.false_eq_true, if_false] at hc'
          subst hc'
          clear hnx' hc
          go_wp2
          go_ret
          exact ⟨rfl, hbc.out⟩
        | true =>
          have hnu := hnr.out rfl
          have hR' := hR.out
          rw [Bool.true_and] at hnx'
          replace hnx' := Lib.hid hnx'
          clear hc' hnx hnr
          go_wp2
          go_roundw
          case rel => exact ⟨k + 1, by omega, by go_num, by rw [hls.out, hR']; exact hnx'.out, fun _ => by rw [hls.out]; exact hb1.out.trans hnu, hbc, hzc⟩
          case measure => simp [intOf]; omega
end Go.Proofs.YtdjdkhbagoideaaDoor
