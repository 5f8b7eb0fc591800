/- Heat: near, part, IsNaN, Inf, Ceil; Check; walked. -/
import Derived.Test.YtdjdkhbagoideaaDoorProg
import Derived.Test.YtdjdkhbagoideaaDoorMem2
import Derived.Test.YtdjdkhbagoideaaDoorHt
import Derived.WalkKit
import Derived.WalkLawsBesides
import Derived.WalkSpells
import Derived.Lib.Hide
import Derived.Handy
import Derived.Deep.QuietTactic
import Derived.BigQuiet
import Derived.Deep.Cut
import Derived.Deep.CutBlock
import Derived.Laws.Externs
import Derived.Laws.EntriesVeiled
import Derived.Laws.ResultCell
import Derived.Deep.RegionHeld3
import Derived.Deep.MidRow
namespace Go.Proofs.YtdjdkhbagoideaaDoor
open Go.RowKit Go.BigFrame flt

theorem near_any (x : Nat) (W : World) : Calls Tryd.prog 24 #[.float .f64 x] W fun e w' => e = .returned (.bool (near x)) ∧ W = w' := by
  obtain ⟨a, ha⟩ : ∃ a, (FloatKind.f64.format.order x 13920209183539462144 == some .gt || FloatKind.f64.format.order x 13920209183539462144 == some .eq) = a := ⟨_, rfl⟩
  obtain ⟨b, hb⟩ : ∃ b, (FloatKind.f64.format.order x 4696837146684686336 == some .lt || FloatKind.f64.format.order x 4696837146684686336 == some .eq) = b := ⟨_, rfl⟩
  have e : Hid (near x = (a && b)) := Lib.hid (by rw [← ha, ← hb]; rfl)
  rw [e.out]
  cases a <;> cases b
  all_goals go_enter Tryd.func24, Tryd.ntmps24
  all_goals go_wp2
  all_goals go_ret
  all_goals exact ⟨rfl, rfl⟩
theorem part_any (x : Nat) (W : World) : Calls Tryd.prog 30 #[.float .f64 x] W fun e w' => e = .returned (.bool (part x)) ∧ W = w' := by
  obtain ⟨a, ha⟩ : ∃ a, (FloatKind.f64.format.order x 0 == some .gt || FloatKind.f64.format.order x 0 == some .eq) = a := ⟨_, rfl⟩
  obtain ⟨b, hb⟩ : ∃ b, (FloatKind.f64.format.order x 4696837146684686336 == some .lt || FloatKind.f64.format.order x 4696837146684686336 == some .eq) = b := ⟨_, rfl⟩
  have e : Hid (part x = (a && b)) := Lib.hid (by rw [← ha, ← hb]; rfl)
  rw [e.out]
  cases a <;> cases b
  all_goals go_enter Tryd.func30, Tryd.ntmps30
  all_goals go_wp2
  all_goals go_ret
  all_goals exact ⟨rfl, rfl⟩
theorem nan_any (x : Nat) (W : World) : Calls Tryd.prog 23 #[.float .f64 x] W fun e w' => e = .returned (.bool (isNaN x)) ∧ W = w' := by
  obtain ⟨a, ha⟩ : ∃ a, (FloatKind.f64.format.order x x != some .eq) = a := ⟨_, rfl⟩
  have e : Hid (isNaN x = a) := Lib.hid ha
  rw [e.out]
  go_enter Tryd.func23, Tryd.ntmps23
  go_wp2
  go_ret
  exact ⟨rfl, rfl⟩
theorem inf_any (W : World) : Calls Tryd.prog 7 #[.int .i64 (-1)] W fun e w' => e = .returned (.float .f64 18442240474082181120) ∧ W = w' := by
  have hf : ∀ W, (callFunc 29 #[.int .u64 18442240474082181120]).run Tryd.prog W = .ok (.value (.float .f64 18442240474082181120)) W := fun W => by kernel_rfl
  go_enter Tryd.func7, Tryd.ntmps7
  go_wp2
  go_ret
  exact ⟨rfl, rfl⟩
theorem toIntegral_run {x : Nat} (hx : nn x) (P : Program) (W : World) : (Extern.MathFloor.toIntegral "math.archCeil" .up #[.float .f64 x]).run P W = .ok (.float .f64 (ceilB x)) W := by
  have hn : (Ieee.double.read x).isNaN = false := hx
  show (match Ieee.double.read x with
    | .nan s t => if Ieee.double.quiet t = t then pure (.float .f64 x) else do
        let kept ← choose (.extern "math.Floor,Ceil,Trunc,RoundToEven.signallingNaN kept" 2)
        pure (.float .f64 (if kept == 1 then x else FloatKind.f64.encode (.nan s (Ieee.double.quiet t))))
    | d => pure (Value.float .f64 (FloatKind.f64.encode (d.integral .up))) : Sem Value).run P W = _
  unfold ceilB
  cases hd : Ieee.double.read x with
  | number s m e => rfl
  | infinity s => rfl
  | nan s m => rw [hd] at hn; cases hn
theorem ceil_run {x : Nat} (hx : nn x) (W : World) : (callFunc 52 #[.float .f64 x]).run Tryd.prog W = .ok (.value (.float .f64 (ceilB x))) W := by
  rw [run_callFunc_extern (fn := Tryd.f52) (e := Extern.MathFloor.toIntegral "math.archCeil" .up) (by kernel_rfl) (by kernel_rfl) (by kernel_rfl) (by kernel_rfl) (by kernel_rfl)]
  rw [toIntegral_run hx]; rfl
theorem ceil_any (x : Nat) (hx : nn x) (W : World) : Calls Tryd.prog 44 #[.float .f64 x] W fun e w' => e = .returned (.float .f64 (ceilB x)) ∧ W = w' := by
  have hf : ∀ W, (callFunc 52 #[.float .f64 x]).run Tryd.prog W = .ok (.value (.float .f64 (ceilB x))) W := fun W => ceil_run hx W
  generalize ceilB x = q at *
  go_enter Tryd.func44, Tryd.ntmps44
  go_wp2
  go_ret
  exact ⟨rfl, rfl⟩
/-- rows -/
def tprow (t : Tp) : List Value := [.float .f64 t.a, .float .f64 t.b, .int .u8 t.k]
def Tps (w : World) (A : Option Addr) (l : List Tp) : Prop := Sl (fun _ => True) w A 3 (l.map tprow)
theorem Tps.at_ {w : World} {A : Option Addr} {l : List Tp} (h : Tps w A l) {k : Nat} (hk : k < l.length) :
    ∃ b o, A = some ⟨b, o, none⟩ ∧ b < w.heap.size ∧ w.cell? ⟨b, o + k * 3, none⟩ = some (.float .f64 l[k].a) ∧ w.cell? ⟨b, o + k * 3 + 1, none⟩ = some (.float .f64 l[k].b) ∧ w.cell? ⟨b, o + k * 3 + 2, none⟩ = some (.int .u8 l[k].k) := by
  obtain ⟨b, o, e, _, hl, hc⟩ := Sl.at_ h (k := k) (by simpa using hk)
  exact ⟨b, o, e, hl, hc 0 _ (by simp [tprow]), hc 1 _ (by simp [tprow]), hc 2 _ (by simp [tprow])⟩
theorem Tps.le {w : World} {A : Option Addr} {l : List Tp} (h : Tps w A l) : l.length ≤ 9223372036854775807 := by
  have := Sl.le h; simpa using this
theorem Tps.below {w w' : World} {A : Option Addr} {l : List Tp} (h : Tps w A l) (d : Below w.heap.size w w') : Tps w' A l := Sl.below' h d
def zarr (Z : Zn) (v : Value) : Array Value := #[.float .f64 Z.al, .float .f64 Z.tg, .float .f64 Z.kp, .float .f64 Z.ki, .float .f64 Z.cap, .int .i64 Z.mo, v]
theorem tripsOk_drop {l : List Tp} {last : Nat} {k : Nat} (hk : k < l.length) : tripsOk last (l.drop k) = (tripOk last l[k] && tripsOk l[k].a (l.drop (k + 1))) := by
  rw [List.drop_eq_getElem_cons hk]; rfl
theorem lt1 (u : Int) : decide (u < 1) = !decide (1 ≤ u) := by
  by_cases q : u < 1
  · have : ¬ 1 ≤ u := by omega
    simp [q, this]
  · have : 1 ≤ u := by omega
    simp [q, this]
theorem gt3 (u : Int) : decide (3 < u) = !decide (u ≤ 3) := by
  by_cases q : 3 < u
  · have : ¬ u ≤ 3 := by omega
    simp [q, this]
  · have : u ≤ 3 := by omega
    simp [q, this]
theorem eight (n : Nat) : decide ((8 : Int) < (n : Int)) = !decide (n ≤ 8) := by
  by_cases q : n ≤ 8
  · have : ¬ (8 : Int) < (n : Int) := by omega
    simp [q, this]
  · have : (8 : Int) < (n : Int) := by omega
    simp [q, this]
set_option maxHeartbeats 4000000 in
set_option maxRecDepth 100000 in
theorem check_any (Z : Zn) (A : Option Addr) (c : Nat) (W : World) (hT : Tps W A Z.tr) :
    Calls Tryd.prog 9 #[.agg (zarr Z (.slice A Z.tr.length c))] W fun e w' => e = .returned (.int .i64 (if okZ Z then 0 else 270)) ∧ Below W.heap.size W w' := by
  have hcd := Lib.hid (fun (k : Nat) (hk : k < Z.tr.length) (W' : World) (hd : Below W.heap.size W W') => (hT.below hd).at_ hk)
  have hlen := hT.le
  clear hT
  obtain ⟨al, tg, kp, ki, cap, mo, tr⟩ := Z
  simp only [zarr] at *
  obtain ⟨n, hn⟩ : ∃ n, tr.length = n := ⟨_, rfl⟩
  have hhead : Hid (headOk ⟨al, tg, kp, ki, cap, mo, tr⟩ = (gt al 0 && le al 4607182418800017408 && near tg && part kp && part ki && part cap && decide (0 ≤ mo) && decide (mo ≤ 100) && decide (1 ≤ n) && decide (n ≤ 8))) := Lib.hid (by unfold headOk; rw [hn])
  have hok : Hid (okZ ⟨al, tg, kp, ki, cap, mo, tr⟩ = (headOk ⟨al, tg, kp, ki, cap, mo, tr⟩ && tripsOk minusInf tr)) := Lib.hid rfl
  rw [hn] at hlen ⊢
  replace hn := Lib.hid hn
  obtain ⟨code, hcode⟩ : ∃ x : Int, (if okZ ⟨al, tg, kp, ki, cap, mo, tr⟩ then 0 else 270) = x := ⟨_, rfl⟩
  rw [hcode]
  rw [hok.out, hhead.out] at hcode
  clear hok hhead
  replace hcode := Lib.hid hcode
  obtain ⟨nz, hnz0⟩ : ∃ b, decide (n = 0) = b := ⟨_, rfl⟩
  have hnz : ((n : Int) == 0) = nz := by
    rw [← hnz0]
    by_cases h : n = 0
    · subst h; rfl
    · have h' : ¬ (n : Int) = 0 := by omega
      simp [h, h']
  have hn1 : Hid (decide (1 ≤ n) = !nz) := Lib.hid (by
    rw [← hnz0]
    by_cases h : n = 0
    · subst h; rfl
    · have : 1 ≤ n := by omega
      simp [h, this])
  rw [hn1.out] at hcode
  obtain ⟨ga, hga⟩ : ∃ a, (FloatKind.f64.format.order al 0 == some .gt) = a := ⟨_, rfl⟩
  obtain ⟨gb, hgb⟩ : ∃ a, (FloatKind.f64.format.order al 4607182418800017408 == some .lt || FloatKind.f64.format.order al 4607182418800017408 == some .eq) = a := ⟨_, rfl⟩
  rw [show gt al 0 = ga from hga, show le al 4607182418800017408 = gb from hgb] at hcode
  have k1 := near_any tg
  have k2 := part_any kp
  have k3 := part_any ki
  have k4 := part_any cap
  have k5 := inf_any
  generalize near tg = b1 at *
  generalize part kp = b2 at *
  generalize part ki = b3 at *
  generalize part cap = b4 at *
  go_enter Tryd.func9, Tryd.ntmps9
  go_upto_region 1 with fail
  replace hnz0 := Lib.hid hnz0
  have hx := heap_alloc_at W (.cells #[.float .f64 al, .float .f64 tg, .float .f64 kp, .float .f64 ki, .float .f64 cap, .int .i64 mo, .slice A n c] 34)
  have hb := below_al (Below.refl W.heap.size W) (.cells #[.float .f64 al, .float .f64 tg, .float .f64 kp, .float .f64 ki, .float .f64 cap, .int .i64 mo, .slice A n c] 34)
  go_cut [60] from 6 to 60 (fun v wc => v = .bool (!(ga && gb && b1 && b2 && b3 && b4 && decide (0 ≤ mo) && decide (mo ≤ 100) && !nz && decide (n ≤ 8))) ∧ wc = W.alloc (.cells #[.float .f64 al, .float .f64 tg, .float .f64 kp, .float .f64 ki, .float .f64 cap, .int .i64 mo, .slice A n c] 34))
  case first =>
    clear hb
    go_wp2_with (first
      | (go_at_call 24; (with_reducible refine (k1 _).mono ?_); rintro e w1 ⟨rfl, rfl⟩)
      | (go_at_call 30; (with_reducible refine (k2 _).mono ?_); rintro e w2 ⟨rfl, rfl⟩)
      | (go_at_call 30; (with_reducible refine (k3 _).mono ?_); rintro e w3 ⟨rfl, rfl⟩)
      | (go_at_call 30; (with_reducible refine (k4 _).mono ?_); rintro e w4 ⟨rfl, rfl⟩))
    all_goals go_meet
    all_goals (case rel => refine ⟨?_, rfl⟩; congr 1; first | (simp_all; done) | (simp_all; omega) | (have qa : ¬ mo < 0 := (by omega); have qb : ¬ 100 < mo := (by omega); have qc : decide ((8 : Int) < (n : Int)) = !decide (n ≤ 8) := (eight n); rw [qc]; simp_all; omega))
  obtain ⟨rfl, rfl⟩ := hcut
  generalize hH : (ga && gb && b1 && b2 && b3 && b4 && decide (0 ≤ mo) && decide (mo ≤ 100) && !nz && decide (n ≤ 8)) = H at *
  generalize W.alloc _ = wz at *
  have hn8 : H = true → n ≤ 8 := fun h => by
    rw [← hH] at h
    simp only [Bool.and_eq_true, decide_eq_true_eq] at h
    exact h.2
  clear hH hnz hnz0 hn1 hga hgb k1 k2 k3 k4
  cases H with
  | false =>
    have hc := hcode.out
    simp only [Bool.false_and, Bool.false_eq_true, if_false] at hc
    subst hc
    clear hcd hcode
    go_wp2
    go_ret
    exact ⟨rfl, hb⟩
  | true =>
    have hn8 := hn8 rfl
    have y6 : wz.cell? ⟨W.heap.size, 6, none⟩ = some (.slice A n c) := by rw [cell_of_row _ _ 6 _ 34 (0, 0) hx]; rfl
    have hc := hcode.out
    simp only [Bool.true_and] at hc
    clear hcode
    obtain ⟨lim, hlim⟩ : ∃ l, (18442240474082181120 : Nat) = l := ⟨_, rfl⟩
    rw [hlim] at k5
    have hmi : minusInf = lim := hlim
    rw [hmi] at hc
    replace hc := Lib.hid hc
    clear hlim hmi hx
    replace hb := Lib.hid hb
    go_upto_region 4 with (go_at_call 7; (with_reducible refine (k5 _).mono ?_); rintro e w1 ⟨rfl, rfl⟩)
    clear k5
    go_upto_region 5 with fail
    clear y6
    have hb := hb.out
    go_loopw [65, 3] (fun s65 s3 wr => ∃ (k last : Nat), k ≤ n ∧ s65 = .int .i64 k ∧ s3 = .float .f64 last ∧ tripsOk lim tr = tripsOk last (tr.drop k) ∧ Below W.heap.size W wr) (fun s65 _ _ => n - (intOf s65).toNat)
    case atStart => exact ⟨0, lim, by omega, rfl, rfl, rfl, hb⟩
    case round =>
      clear hb
      obtain ⟨k, last, hk, rfl, rfl, hdr, hb⟩ := hrel
      obtain ⟨wk, rfl⟩ : ∃ x : World, x = wr := ⟨_, rfl⟩
      by_cases hkn : k = n
      · rw [hkn, ← hn.out, List.drop_length] at hdr
        have hc' := hc.out
        rw [hdr, show tripsOk last [] = true from rfl, if_pos rfl] at hc'
        subst hkn hc'
        clear hcd hdr hc
        go_wp2
        go_ret
        exact ⟨rfl, hb⟩
      · have hlt : k < n := by omega
        have hkl : k < tr.length := by rw [hn.out]; exact hlt
        obtain ⟨bb, oo, rfl, _, x0, x1, x2⟩ := hcd.out k hkl wk hb
        rw [tripsOk_drop hkl] at hdr
        have hnx : Hid (tripsOk lim tr = (tripOk last tr[k] && tripsOk tr[k].a (tr.drop (k + 1)))) := Lib.hid hdr
        clear hdr
        generalize hR : tripsOk tr[k].a (tr.drop (k + 1)) = R at *
        replace hR := Lib.hid hR
        generalize tr[k] = u at *
        obtain ⟨ua, ub, uk⟩ := u
        simp only at *
        clear hkn hcd
        go_upto_region 7 with (refine wpList_store_row rfl 36 _ _ rfl wk.heap.size #[.float .f64 ua, .float .f64 ub, .int .u8 uk] rfl rfl 36 _ (heap_alloc_at _ _) (by kernel_rfl) (by kernel_rfl) (by kernel_rfl) ?_)
        rw [setRow_alloc _ _ _ _ _ rfl]
        simp only [Act.put]
        have hxt := heap_alloc_at wk (.cells #[.float .f64 ua, .float .f64 ub, .int .u8 uk] 36)
        have hbt := below_al hb (.cells #[.float .f64 ua, .float .f64 ub, .int .u8 uk] 36)
        generalize wk.alloc (.cells #[.float .f64 ua, .float .f64 ub, .int .u8 uk] 36) = wt at *
        have y0 : wt.cell? ⟨wk.heap.size, 0, none⟩ = some (.float .f64 ua) := by rw [cell_of_row _ _ 0 _ 36 (0, 0) hxt]; rfl
        have y1 : wt.cell? ⟨wk.heap.size, 1, none⟩ = some (.float .f64 ub) := by rw [cell_of_row _ _ 1 _ 36 (0, 0) hxt]; rfl
        have y2 : wt.cell? ⟨wk.heap.size, 2, none⟩ = some (.int .u8 uk) := by rw [cell_of_row _ _ 2 _ 36 (0, 0) hxt]; rfl
        have k1 := near_any ua
        have k2 := part_any ub
        obtain ⟨gl, hgl⟩ : ∃ a, (FloatKind.f64.format.order ua last == some .lt || FloatKind.f64.format.order ua last == some .eq) = a := ⟨_, rfl⟩
        have hto : Hid (tripOk last ⟨ua, ub, uk⟩ = (near ua && !gl && part ub && decide (1 ≤ uk) && decide (uk ≤ 3))) := Lib.hid (by unfold tripOk; rw [show le ua last = gl from hgl])
        generalize near ua = b1 at *
        generalize part ub = b2 at *
        clear x0 x1 x2 hxt hb
        go_cut [94] from 69 to 94 (fun v wc => v = .bool (!(b1 && !gl && b2 && decide (1 ≤ uk) && decide (uk ≤ 3))) ∧ wc = wt)
        case first =>
          clear hbt
          go_wp2_with (first
            | (go_at_call 24; (with_reducible refine (k1 _).mono ?_); rintro e w1 ⟨rfl, rfl⟩)
            | (go_at_call 30; (with_reducible refine (k2 _).mono ?_); rintro e w2 ⟨rfl, rfl⟩))
          all_goals go_meet
          all_goals (case rel => refine ⟨?_, rfl⟩; congr 1; first | (simp_all; done) | (rw [lt1, gt3]; simp_all; done) | (simp_all; omega))
        obtain ⟨rfl, rfl⟩ := hcut
        have hto' := hto.out
        have hnx' := hnx.out
        rw [hto'] at hnx'
        clear hgl hto hto' hnx
        generalize (b1 && !gl && b2 && decide (1 ≤ uk) && decide (uk ≤ 3)) = T at *
        have hc' := hc.out
        rw [hnx'] at hc'
        cases T with
        | false =>
          simp only [Bool.false_and, Bool.false_eq_true, if_false] at hc'
          subst hc'
          clear hnx' hc
          go_wp2
          go_ret
          exact ⟨rfl, hbt⟩
        | true =>
          simp only [Bool.true_and] at hnx'
          replace hnx' := Lib.hid hnx'
          clear hc'
          go_wp2
          go_roundw
          case rel => exact ⟨k + 1, ua, by omega, by go_num, rfl, hnx'.out.trans hR.out.symm, hbt⟩
          case measure => simp [intOf]; omega
end Go.Proofs.YtdjdkhbagoideaaDoor
