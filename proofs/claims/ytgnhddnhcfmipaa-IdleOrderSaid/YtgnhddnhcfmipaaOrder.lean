/- Idle: IdleOrder, walked. -/
import Derived.Test.YtgnhddnhcfmipaaRc12
import Derived.Test.YtgnhddnhcfmipaaOrd0
import Derived.Test.YtgnhddnhcfmipaaAwk
namespace Go.Proofs.Ytgnhddnhcfmipaa
open Go.RowKit Go.BigFrame

theorem seqw_ok {D : Int} {cs : List (Int × Int)} (hc : ∀ k, 0 ≤ (callAt cs k).2 ∧ (callAt cs k).2 ≤ 2147483647) : ∀ (l : List Int) (v : VW), v.ok → (seqw D cs v l).ok
  | [], _, h => h
  | i :: l, _, h => seqw_ok hc l _ (act_ok h (hc i.toNat))
theorem Cls.take {w : World} {A : Option Addr} {l : List (Int × Int)} (h : Cls w A l) (k : Nat) : Cls w A (l.take k) := by
  have := Sl.take h k
  rw [← List.map_take] at this
  exact this
theorem own_pref {w : World} {B : Nat} {e : TypeId} {size g m d : Nat} {xs : List (List Value)} {r : List Value} (h : Own w B e size (xs ++ [r]) (.slice (some ⟨g, 0, none⟩) m d)) : Sl (fun _ => True) w (some ⟨g, 0, none⟩) size xs := by
  obtain ⟨A, c, e', hs⟩ := h.sl
  have e1 : some (⟨g, 0, none⟩ : Addr) = A := (Value.slice.inj e').1
  rw [← e1] at hs
  have := (hs.take xs.length).mono (S' := fun _ => True) fun _ _ => trivial
  rw [List.take_left'] at this
  · exact this
  · rfl
theorem fields38 : ((Program.fieldsOf Try.prog 38).toList.map fun f => (f.type, f.offset, f.name == "_")) = [(3, 0, false), (4, 1, false), (3, 2, false), (3, 3, false)] := by kernel_rfl
theorem eq_view38 (W : World) (v u : VW) : (Op.equalIn 10000 38 (.agg v.arr) (.agg u.arr)).run Try.prog W = .ok (decide (v = u)) W := by
  rw [show (10000 : Nat) = 9998 + 1 + 1 from rfl, run_equalIn_struct W (9998 + 1) 38 _ _ (by kernel_rfl) (by kernel_rfl)]
  have hb : decide (v = u) = [decide (v.u = u.u), decide (v.a = u.a), decide (v.s = u.s), decide (v.k = u.k)].all id := by
    obtain ⟨a1, a2, a3, a4⟩ := v
    obtain ⟨b1, b2, b3, b4⟩ := u
    simp only [VW.mk.injEq, List.all_cons, List.all_nil, id, Bool.and_true, Bool.decide_and]
  rw [hb]
  have hF := fields38
  generalize (Program.fieldsOf Try.prog 38).toList = fs at *
  refine eqFields_vals W 9998 _ _ _ _ (by have := congrArg List.length hF; simpa using this) fun i f b hf hb => ?_
  have hm : ([(3, 0, false), (4, 1, false), (3, 2, false), (3, 3, false)] : List (TypeId × Nat × Bool))[i]? = some (f.type, f.offset, f.name == "_") := by
    rw [← hF, List.getElem?_map, hf]; rfl
  have i3 : ∀ x y : Int, (Op.equalIn 9999 3 (.int .i64 x) (.int .i64 y)).run Try.prog W = .ok (decide (x = y)) W := fun x y => by
    rw [show (9999 : Nat) = 9998 + 1 from rfl, run_equalIn_int W 9998 3 .i64 .i64 _ _ Try.underlying3]
    congr 1
  have i4 : ∀ x y : Bool, (Op.equalIn 9999 4 (.bool x) (.bool y)).run Try.prog W = .ok (decide (x = y)) W := fun x y => by
    rw [show (9999 : Nat) = 9998 + 1 from rfl, run_equalIn_bool' W 9998 4 _ _ Try.underlying4]
    congr 1
  match i, hm, hb with
  | 0, hm, hb =>
    simp only [List.getElem?_cons_zero, Option.some.injEq, Prod.mk.injEq] at hm hb
    obtain ⟨e1, e2, e3⟩ := hm
    rw [← e1, ← e2, ← hb]
    exact ⟨(fun q => by rw [q] at e3; cases e3), _, _, part_one W _ (by kernel_rfl) _ _ _ rfl, part_one W _ (by kernel_rfl) _ _ _ rfl, i3 _ _⟩
  | 1, hm, hb =>
    simp only [List.getElem?_cons_succ, List.getElem?_cons_zero, Option.some.injEq, Prod.mk.injEq] at hm hb
    obtain ⟨e1, e2, e3⟩ := hm
    rw [← e1, ← e2, ← hb]
    exact ⟨(fun q => by rw [q] at e3; cases e3), _, _, part_one W _ (by kernel_rfl) _ _ _ rfl, part_one W _ (by kernel_rfl) _ _ _ rfl, i4 _ _⟩
  | 2, hm, hb =>
    simp only [List.getElem?_cons_succ, List.getElem?_cons_zero, Option.some.injEq, Prod.mk.injEq] at hm hb
    obtain ⟨e1, e2, e3⟩ := hm
    rw [← e1, ← e2, ← hb]
    exact ⟨(fun q => by rw [q] at e3; cases e3), _, _, part_one W _ (by kernel_rfl) _ _ _ rfl, part_one W _ (by kernel_rfl) _ _ _ rfl, i3 _ _⟩
  | 3, hm, hb =>
    simp only [List.getElem?_cons_succ, List.getElem?_cons_zero, Option.some.injEq, Prod.mk.injEq] at hm hb
    obtain ⟨e1, e2, e3⟩ := hm
    rw [← e1, ← e2, ← hb]
    exact ⟨(fun q => by rw [q] at e3; cases e3), _, _, part_one W _ (by kernel_rfl) _ _ _ rfl, part_one W _ (by kernel_rfl) _ _ _ rfl, i3 _ _⟩
  | i + 4, hm, _ => simp at hm
/-- the word of one's own behind all that was there -/
theorem wrd_call {kind D now : Int} (hk : kind = 1 ∨ kind = 2 ∨ kind = 3) {w W : World} {g : Nat} {v : VW} (h : Wrd w W g D v) (hv : v.ok) (hd : 0 ≤ D ∧ D ≤ 2147483647) (hn : 0 ≤ now ∧ now ≤ 2147483647) {y : VW} {code : Int} (e : act kind D now v = (y, code)) :
    Calls Try.prog (if kind = 1 then 14 else if kind = 2 then 15 else 16) #[.pointer (some ⟨g, 0, none⟩), .int .i64 now] W fun e w' => e = .returned (.int .i64 code) ∧ Wrd w w' g D y := by
  have hw : wants kind D now v = (y, code) := by unfold wants; rw [if_pos ((isTick_iff now).mpr hn)]; exact e
  rcases hk with rfl | rfl | rfl
  · exact wrd_get now h hv hd hw
  · exact wrd_put now h hv hd hw
  · exact wrd_sweep now h hv hd hw
set_option maxHeartbeats 8000000 in
set_option maxRecDepth 100000 in
theorem order_walk (D : Int) (cs0 : List (Int × Int)) (sch : List Int) (A B : Option Addr) (a b : Nat) (w : World) (hc0 : Cls w A cs0) (hs : Ints w B sch) (hrs : sch.length * 8 ≤ 140737488351232) (hca : cs0.length ≤ a) :
    Calls Try.prog 6 #[.int .i64 D, .slice A cs0.length a, .slice B sch.length b] w fun e w' => e = .returned (.bool true) ∧ Below w.heap.size w w' := by
  obtain ⟨n0, hn0⟩ : ∃ n, cs0.length = n := ⟨_, rfl⟩
  obtain ⟨ns, hns⟩ : ∃ ns, sch.length = ns := ⟨_, rfl⟩
  have K0 := awake_any w
  have hct := hc0.take 60
  rw [hn0] at hca ⊢
  rw [hns] at hrs ⊢
  have hln : Hid ((cs0.take 60).length = min 60 n0) := Lib.hid (by rw [List.length_take, hn0])
  clear hc0
  replace hn0 := Lib.hid hn0
  go_enter Try.func6, Try.ntmps6
  go_upto_if 21 with (go_at_call 36; (with_reducible refine (K0).mono ?_); rintro e w0 ⟨rfl, hb0⟩)
  have hn1 := hns
  replace hns := Lib.hid hns
  clear K0
  go_cut [1] from 19 to 23 (fun s1 wc => s1 = .slice A (min 60 n0) a ∧ wc = w0)
  case first =>
    by_cases hq : 60 < n0
    · have e : min 60 n0 = 60 := by omega
      have hq' : (60 : Int) < (n0 : Int) := by omega
      replace e := Lib.hid e
      have h60 : 60 ≤ a := by omega
      go_wp2
      go_meet
      case rel => exact ⟨by rw [e.out], rfl⟩
    · have e : min 60 n0 = n0 := by omega
      have hq' : ¬ (60 : Int) < (n0 : Int) := by omega
      replace e := Lib.hid e
      go_wp2
      go_meet
      case rel => exact ⟨by rw [e.out], rfl⟩
  obtain ⟨rfl, rfl⟩ := hcut
  obtain ⟨cs, hcs⟩ : ∃ cs, cs0.take 60 = cs := ⟨_, rfl⟩
  obtain ⟨n, hn⟩ : ∃ n, min 60 n0 = n := ⟨_, rfl⟩
  obtain ⟨w1, rfl⟩ : ∃ x : World, x = wc := ⟨_, rfl⟩
  rw [hcs] at hct hln
  rw [hn] at hln ⊢
  have hn60 : n ≤ 60 := by omega
  have hc1 := hct.below hb0
  have hs1 := Ints.below hs hb0
  clear hct hs hcs hn hn0 hca
  have KC := calls_any cs n A a w1 hc1 hln.out (by rw [hln.out]; omega)
  have hnsr : ns ≤ 140737488355328 := by omega
  by_cases hr : okr D cs
  case neg =>
    go_upto_region 6 with (first
      | (go_at_call 19; (with_reducible refine (KC).mono ?_); rintro e w2 ⟨g, d, rfl, hO2, hb2⟩; have hK := race_no D cs n ns (some ⟨g, 0, none⟩) B d b w2 (own_pref hO2) hln.out hr)
      | (go_at_call 20; (with_reducible refine (hK).mono ?_); unfold nope; rintro e w3 ⟨rfl, hb3⟩)
      | (refine wpList_store_row rfl 38 _ _ rfl w3.heap.size zv.arr rfl rfl 38 _ (heap_alloc_at _ _) (by kernel_rfl) (by kernel_rfl) (by kernel_rfl) ?_))
    rw [setRow_alloc _ _ _ _ _ rfl]
    have hbz : Below w.heap.size w (w3.alloc (.cells zv.arr 38)) := below_al (hb0.trans ((hb2.trans (hb3.mono hb2.size)).mono hb0.size)) _
    replace hbz := Lib.hid hbz
    clear KC hO2 hb2 hb3 hK hr hc1 hs1
    go_wp2
    go_ret
    exact ⟨rfl, hbz.out⟩
  obtain ⟨s, hsx⟩ : ∃ s, rfin D cs n 0 (rsched D cs (rs0 n) sch) = s := ⟨_, rfl⟩
  have hOr : Ord D cs n s := hsx ▸ ord_of D cs sch n
  have KR := fun (g d : Nat) (W : World) (h1 : Cls W (some ⟨g, 0, none⟩) cs) (h2 : Ints W B sch) => race_yes D cs sch n ns (some ⟨g, 0, none⟩) B d b W h1 h2 hln.out hns.out hr hnsr
  simp only [hsx] at KR
  replace KR := Lib.hid KR
  replace hsx := Lib.hid hsx
  replace hOr := Lib.hid hOr
  replace hr := Lib.hid hr
  clear hn1
  go_upto_region 6 with (first
    | (go_at_call 19; (with_reducible refine (KC).mono ?_); rintro e w2 ⟨g, d, rfl, hO2, hb2⟩; have hK := KR.out g d w2 (own_pref hO2) (Ints.below hs1 hb2))
    | (go_at_call 20; (with_reducible refine (hK).mono ?_); rintro e w3 ⟨v, rfl, hv, hb3⟩)
    | (refine wpList_store_row rfl 38 _ _ rfl w3.heap.size s.w.arr rfl rfl 38 _ (heap_alloc_at _ _) (by kernel_rfl) (by kernel_rfl) (by kernel_rfl) ?_))
  rw [setRow_alloc _ _ _ _ _ rfl]
  have hx4 := heap_alloc_at w3 (.cells s.w.arr 38)
  have hb4 : Below w1.heap.size w1 (w3.alloc (.cells s.w.arr 38)) := below_al (hb2.trans (hb3.mono hb2.size)) _
  have hv4 := hv.alloc (.cells s.w.arr 38)
  generalize w3.alloc (.cells s.w.arr 38) = w4 at *
  obtain ⟨A1, d1, rfl, hq1⟩ := own_qs hv4
  rw [hOr.out.len]
  have hc4 := hc1.below hb4
  have hs4 := Ints.below hs1 hb4
  have hbw4 : Below w.heap.size w w4 := hb0.trans (hb4.mono hb0.size)
  have hl3 := heap_lt hx4
  clear KC KR hK hb2 hb3 hO2 hv hv4 hc1 hs1 hb4 hb0
  have KB := begin_any D n A a w4 (by omega)
  go_upto_region 9 with (go_at_call 22; (with_reducible refine (KB).mono ?_); rintro e w5 ⟨rb, g1, g2, g3, g4, rfl, hbb, hrb, ⟨hh1, hh2, hh3, hh4⟩, hb8, hgg⟩; replace hrb := Lib.hid hrb)
  have hRR := rr_begun hbb hrb.out hh1 hh2 hh3 hh4 hb8 hgg (by unfold maxLen; omega)
  have KU := run_any (b := b) ⟨⟨_, _, hRR⟩, rs0_ok _, rcnt0 _⟩ hr.out.1 hc4 hs4 rfl hln.out (by omega) hns.out hnsr (calls_ok hr.out)
  rw [hsx.out] at KU
  clear KB hh1 hh2 hh3 hh4 hgg hbb hb8 hrb hRR hs4
  go_upto_region 10 with (go_at_call 23; (with_reducible refine (KU).mono ?_); rintro e w6 ⟨rfl, hU⟩)
  clear KU
  obtain ⟨⟨vo, rd, hR⟩, _, _⟩ := hU
  have hb46 := hR.b
  have hrl := heap_lt hR.hb
  have h10 : w6.cell? ⟨rb, 10, none⟩ = some vo := by rw [cell_of_row _ _ 10 _ 56 (0, 0) hR.hb]; rfl
  have hoo : ∃ Ao co, vo = .slice Ao n co ∧ Ints w6 Ao s.ord := by
    obtain ⟨Ao, co, e, hs⟩ := hR.oo.sl
    rw [List.length_map, hOr.out.ol] at e
    exact ⟨Ao, co, e, hs.mono fun _ _ => trivial⟩
  obtain ⟨Ao, co, rfl, hio⟩ := hoo
  have hx6 := (hb46.block _ hl3).trans hx4
  have hc6 := hc4.below hb46
  have hq6 : Qs w6 A1 s.l := Sl.below' hq1 hb46
  have hbw6 : Below w.heap.size w w6 := hbw4.trans (hb46.mono hbw4.size)
  clear hR hb46 hx4 hc4 hq1 hbw4
  have KN : Calls Try.prog 11 #[.int .i64 D] w6 fun e w' => e = .returned (.tuple #[.pointer (some ⟨w6.heap.size, 0, none⟩), .int .i64 0]) ∧ Wrd w6 w' w6.heap.size D zv :=
    (new_any D w6).mono fun _ _ h => by
      rcases h with ⟨h, _⟩ | ⟨_, h1, h2⟩
      · rw [isTick_yes hr.out.1] at h; cases h
      · subst h2
        exact ⟨h1, by rw [zv_num]; exact heap_alloc_at _ _, Nat.le_refl _, below_al (Below.refl _ _) _⟩
  have hdA := Lib.hid fun (X : World) (q : Below w6.heap.size w6 X) => (World.cell?_of_block (a := ⟨rb, 10, none⟩) (q.block rb hrl)).trans h10
  have hdB := Lib.hid fun (k : Nat) (hk : k < s.ord.length) (X : World) (q : Below w6.heap.size w6 X) => (Ints.below hio q).at_ hk
  have hdC := Lib.hid fun (k : Nat) (hk : k < cs.length) (X : World) (q : Below w6.heap.size w6 X) => (hc6.below q).at_ hk
  have hdD := Lib.hid fun (k : Nat) (hk : k < s.l.length) (X : World) (q : Below w6.heap.size w6 X) => Qs.at_ (Sl.below' hq6 q) hk
  have hdE := Lib.hid fun (X : World) (q : Below w6.heap.size w6 X) => (q.block _ (heap_lt hx6)).trans hx6
  clear hio hc6 hq6 hx6
  replace hbw6 := Lib.hid hbw6
  have hnn : ((n : Int) != (n : Int)) = false := bne_self_eq_false _
  go_upto_region 11 with (go_at_call 11; (with_reducible refine (KN).mono ?_); rintro e w7 ⟨rfl, hW⟩)
  have y10 := hdA.out _ hW.b
  clear KN h10
  replace hW := Lib.hid hW
  go_upto_region 15 with fail
  clear y10
  have hV := hW.out
  clear hW
  go_loopw [14, 13] (fun s14 s13 wr => ∃ (k : Nat) (v : VW), k ≤ n ∧ s14 = .int .i64 k ∧ s13 = .int .i64 v.u ∧ v = seqw D cs zv (s.ord.take k) ∧ Wrd w6 wr w6.heap.size D v) (fun s14 _ _ => n - (intOf s14).toNat)
  case atStart => exact ⟨0, zv, by omega, rfl, rfl, rfl, hV⟩
  case round =>
    clear hV
    obtain ⟨k, v, hk, rfl, rfl, hv, hV⟩ := hrel
    obtain ⟨wk, rfl⟩ : ∃ x : World, x = wr := ⟨_, rfl⟩
    have hvk : v.ok := by rw [hv]; exact seqw_ok (fun j => (calls_ok hr.out j).2) _ _ zv_ok
    have y10 := hdA.out _ hV.b
    by_cases hkn : k = n
    · have hvs : v = s.w := by rw [hv, hkn, ← hOr.out.ol, List.take_length, ← hOr.out.w]
      subst hvs
      have KV := fun (X : World) (q : Below wk.heap.size wk X) => wview_any w6.heap.size s.w hvk X (cell_of_row _ _ 1 _ 100 (0, 0) ((q.block _ (heap_lt hV.word)).trans hV.word))
      have EQ := fun X => eq_view38 X s.w s.w
      simp only [decide_true, VW.arr] at EQ
      simp only [VW.arr] at KV
      have hX : ∀ X : World, Below wk.heap.size wk X → X.cell? ⟨w3.heap.size, 0, none⟩ = some (.int .i64 s.w.u) ∧ X.cell? ⟨w3.heap.size, 1, none⟩ = some (.bool s.w.a) ∧ X.cell? ⟨w3.heap.size, 2, none⟩ = some (.int .i64 s.w.s) ∧ X.cell? ⟨w3.heap.size, 3, none⟩ = some (.int .i64 s.w.k) := fun X q => by
        have z := hdE.out X (hV.b.trans (q.mono hV.b.size))
        exact ⟨cell_of_row _ _ 0 _ 38 (0, 0) z, cell_of_row _ _ 1 _ 38 (0, 0) z, cell_of_row _ _ 2 _ 38 (0, 0) z, cell_of_row _ _ 3 _ 38 (0, 0) z⟩
      have hd1 : Below wk.heap.size wk wk.drew := (Below.refl _ _).drew
      have hbk : Below w.heap.size w wk := hbw6.out.trans (hV.b.mono hbw6.out.size)
      replace hbk := Lib.hid hbk
      have huu : decide (s.w.u = s.w.u) = true := by simp
      subst hkn
      clear hdB hdC hdD hdE hdA hv hV
      go_upto_region 34 with fail
      clear y10
      go_cut [6] from 151 to 160 (fun v wc => v = .bool true ∧ Below wk.heap.size wk wc)
      case first =>
        go_region_held3 (fun X => X.cell? ⟨w3.heap.size, 0, none⟩ = some (.int .i64 s.w.u) ∧ X.cell? ⟨w3.heap.size, 1, none⟩ = some (.bool s.w.a) ∧ X.cell? ⟨w3.heap.size, 2, none⟩ = some (.int .i64 s.w.s) ∧ X.cell? ⟨w3.heap.size, 3, none⟩ = some (.int .i64 s.w.k))
          (first | (with_reducible exact hX _ hd1) | (with_reducible exact hX _ q1))
          (first | (go_at_call 18; (with_reducible refine (KV _ hd1).mono ?_); rintro e x1 ⟨rfl, hx1⟩; have q1 : Below wk.heap.size wk x1 := hd1.trans hx1))
        all_goals go_wp2
        all_goals go_meet
        all_goals (case rel => exact ⟨rfl, q1⟩)
      obtain ⟨rfl, hdc⟩ := hcut
      go_wp2
      go_ret
      exact ⟨rfl, hbk.out.trans (hdc.mono hbk.out.size)⟩
    · have hlt : k < n := by omega
      have hko : k < s.ord.length := by rw [hOr.out.ol]; exact hlt
      obtain ⟨b1, o1, rfl, _, x0⟩ := hdB.out k hko wk hV.b
      have hor := hOr.out.rng s.ord[k] (List.getElem_mem hko)
      have hcode := hOr.out.code k s.ord[k] (List.getElem?_eq_getElem hko)
      have hnx : seqw D cs zv (s.ord.take (k + 1)) = (does1 D cs v s.ord[k]).1 := by rw [← List.take_append_getElem hko, seqw_snoc, ← hv]
      rw [← hv] at hcode
      generalize s.ord[k] = i at *
      obtain ⟨m, rfl⟩ : ∃ m : Nat, i = (m : Int) := ⟨i.toNat, by omega⟩
      have hmn : m < n := by omega
      have hmc : m < cs.length := by rw [hln.out]; exact hmn
      have hml : m < s.l.length := by rw [hOr.out.len]; exact hmn
      unfold does1 at hcode hnx
      rw [Int.toNat_natCast, List.getD_eq_getElem?_getD, List.getElem?_eq_getElem hml] at hcode
      rw [Int.toNat_natCast] at hnx
      simp only [Option.getD_some] at hcode
      have hok := hr.out.2.2 m hmc
      rw [okc_at hmc] at hok hcode hnx
      obtain ⟨b2, o2, rfl, _, x1, x2⟩ := hdC.out m hmc wk hV.b
      obtain ⟨b3, o3, rfl, _, x3, _⟩ := hdD.out m hml wk hV.b
      have hz : ∀ X, Below w6.heap.size w6 X → X.cell? ⟨b2, o2 + m * 2, none⟩ = some (.int .u8 cs[m].1) ∧ X.cell? ⟨b3, o3 + m * 2, none⟩ = some (.int .i64 s.l[m].c) := fun X q => by
        obtain ⟨b', o', e, _, z1, _⟩ := hdC.out m hmc X q
        obtain ⟨b4, o4, e4, _, z4, _⟩ := hdD.out m hml X q
        simp only [Option.some.injEq, Addr.mk.injEq, and_true] at e e4
        obtain ⟨rfl, rfl⟩ := e
        obtain ⟨rfl, rfl⟩ := e4
        exact ⟨z1, z4⟩
      clear x3
      generalize s.l[m].c = code at *
      generalize cs[m] = u at *
      obtain ⟨kd, nw⟩ := u
      obtain ⟨⟨hk1, hk3⟩, hnw⟩ := hok
      simp only at hk1 hk3 hnw x1 x2 hcode hnx
      obtain ⟨y, hy⟩ : ∃ y, (act kd D nw v).1 = y := ⟨_, rfl⟩
      have hac : act kd D nw v = (y, code) := by rw [← hy, hcode]
      have hdu := act_uses kd D nw v
      rw [hac] at hdu
      simp only at hdu
      have hny := hnx.trans hy
      have hfin := Lib.hid hny.symm
      have hu0 := hvk.u0
      have hu1 := hvk.u1
      obtain ⟨U, hU⟩ : ∃ U, v.u = U := ⟨_, rfl⟩
      rw [hU] at hu0 hu1 hdu ⊢
      have hcc : (code != code) = false := bne_self_eq_false _
      have hDD := hr.out.1
      clear hdB hdC hdD hdE hdA hv hy hnx hny hcode hor hkn
      replace hz := Lib.hid hz
      replace hU := Lib.hid hU
      rcases (show kd = 1 ∨ kd = 2 ∨ kd = 3 by omega) with rfl | rfl | rfl
      · have hw : wants 1 D nw v = (y, code) := by unfold wants; rw [if_pos ((isTick_iff nw).mpr hnw)]; exact hac
        have K := wrd_get nw hV hvk hDD hw
        have hyu : y.u = du 1 code U := hdu
        clear hac hw hdu hV hvk
        unfold du at hyu
        simp only [if_true] at hyu
        by_cases hz : code = 0
        · subst hz
          simp only [if_true] at hyu
          replace hyu := Lib.hid hyu
          go_wp2_with (go_at_call 14; (with_reducible refine (K).mono ?_); rintro e wz ⟨rfl, hWz⟩; obtain ⟨z1, z2⟩ := hz.out wz hWz.b)
          go_roundw
          case rel => exact ⟨k + 1, y, by omega, by go_num, by rw [hyu.out], hfin.out, hWz⟩
          case measure => simp [intOf]; omega
        · have hne : (code != 0) = true := by simpa using hz
          simp only [hz, if_false] at hyu
          replace hyu := Lib.hid hyu
          clear hz
          go_wp2_with (go_at_call 14; (with_reducible refine (K).mono ?_); rintro e wz ⟨rfl, hWz⟩; obtain ⟨z1, z2⟩ := hz.out wz hWz.b)
          go_roundw
          case rel => exact ⟨k + 1, y, by omega, by go_num, (by rw [hyu.out]; try (congr 1; omega)), hfin.out, hWz⟩
          case measure => simp [intOf]; omega
      · have hw : wants 2 D nw v = (y, code) := by unfold wants; rw [if_pos ((isTick_iff nw).mpr hnw)]; exact hac
        have K := wrd_put nw hV hvk hDD hw
        have hyu : y.u = du 2 code U := hdu
        clear hac hw hdu hV hvk
        unfold du at hyu
        simp only [show ((2 : Int) = 1) = False from by simp, if_false, if_true] at hyu
        by_cases hz : code = 0
        · subst hz
          simp only [if_true] at hyu
          replace hyu := Lib.hid hyu
          go_wp2_with (go_at_call 15; (with_reducible refine (K).mono ?_); rintro e wz ⟨rfl, hWz⟩; obtain ⟨z1, z2⟩ := hz.out wz hWz.b)
          go_roundw
          case rel => exact ⟨k + 1, y, by omega, by go_num, by rw [hyu.out], hfin.out, hWz⟩
          case measure => simp [intOf]; omega
        · have hne : (code != 0) = true := by simpa using hz
          simp only [hz, if_false] at hyu
          replace hyu := Lib.hid hyu
          clear hz
          go_wp2_with (go_at_call 15; (with_reducible refine (K).mono ?_); rintro e wz ⟨rfl, hWz⟩; obtain ⟨z1, z2⟩ := hz.out wz hWz.b)
          go_roundw
          case rel => exact ⟨k + 1, y, by omega, by go_num, (by rw [hyu.out]; try (congr 1; omega)), hfin.out, hWz⟩
          case measure => simp [intOf]; omega
      · have hw : wants 3 D nw v = (y, code) := by unfold wants; rw [if_pos ((isTick_iff nw).mpr hnw)]; exact hac
        have K := wrd_sweep nw hV hvk hDD hw
        have hyu : y.u = du 3 code U := hdu
        clear hac hw hdu hV hvk
        unfold du at hyu
        simp only [show ((3 : Int) = 1) = False from by simp, show ((3 : Int) = 2) = False from by simp, if_false] at hyu
        by_cases hz : code = 0
        · subst hz
          replace hyu := Lib.hid hyu
          go_wp2_with (go_at_call 16; (with_reducible refine (K).mono ?_); rintro e wz ⟨rfl, hWz⟩; obtain ⟨z1, z2⟩ := hz.out wz hWz.b)
          go_roundw
          case rel => exact ⟨k + 1, y, by omega, by go_num, by rw [hyu.out], hfin.out, hWz⟩
          case measure => simp [intOf]; omega
        · have hne : (code != 0) = true := by simpa using hz
          replace hyu := Lib.hid hyu
          clear hz
          go_wp2_with (go_at_call 16; (with_reducible refine (K).mono ?_); rintro e wz ⟨rfl, hWz⟩; obtain ⟨z1, z2⟩ := hz.out wz hWz.b)
          go_roundw
          case rel => exact ⟨k + 1, y, by omega, by go_num, (by rw [hyu.out]; try (congr 1; omega)), hfin.out, hWz⟩
          case measure => simp [intOf]; omega
end Go.Proofs.Ytgnhddnhcfmipaa
