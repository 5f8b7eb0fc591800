/- Crowd: the program's Rounds, walked, where nothing is refused. -/
import Derived.Test.YtcioejamohjdgaaRq0
namespace Go.Proofs.Ytcioejamohjdgaa
open Go.RowKit Go.BigFrame

theorem free_now {n : Nat} {nd : List (List Int)} (hn : nd.length = n) : freeOf (lens nd) = nowOf nd (List.replicate n 0) := by
  rw [lens_lks, hn]
  unfold freeOf nowOf
  rw [lks_length]
  refine List.filter_congr fun i hi => ?_
  have hi := List.mem_range.1 hi
  rw [lks_get hi]
  have e : (List.replicate n (0 : Int)).getD i 0 = 0 := by
    rw [List.getD_eq_getElem?_getD, List.getElem?_replicate]
    split <;> rfl
  rw [e, Bool.eq_iff_iff, beq_iff_eq, Bool.and_eq_true, beq_iff_eq, rdy_lk]
  omega
theorem done0 {n : Nat} {nd : List (List Int)} : Done nd (List.replicate n 0) := fun k _ h => by
  exfalso
  apply h
  rw [List.getD_eq_getElem?_getD, List.getElem?_replicate]
  split <;> rfl
theorem zeros0 (n : Nat) : zeros (List.replicate n 0) = n := by
  unfold zeros
  rw [List.countP_eq_length.2 (fun a ha => by rw [(List.mem_replicate.1 ha).2]; rfl), List.length_replicate]
def slen : Value → Nat
  | .slice _ n _ => n
  | _ => 0
theorem el22 : Elt Try.prog 22 23 1 24 := Elt.of (z := .slice none 0 0) Try.underlying22 (by kernel_rfl) rfl (by decide) (by decide)
theorem rep_b (n : Nat) : (List.replicate n false).map brow = List.replicate n [Value.bool false] := by rw [List.map_replicate]; rfl
theorem now_len (nd : List (List Int)) (st : List Int) : (nowOf nd st).length ≤ nd.length := filter_le _ _
/-- at the head of a round -/
structure RI (w : World) (P ps pl pa n gf R0 : Nat) (xs : List Value) (nd : List (List Int)) (en : List Int) (R : List (List Nat) × List Int) (wr : World) (st : List Int) (f : Nat) (tt : List (List Nat)) (v4 : Value) (vs : List Value) (v11 : Value) (w0 : World) : Prop where
  eq : R = (tt ++ (rds nd en f st).1, (rds nd en f st).2)
  zf : zeros st < f
  tz : tt.length + zeros st ≤ n
  sl : st.length = n
  dn : Done nd st
  bd : Bd wr P ps pl pa n xs st (lks nd st) (abv nd n)
  fl : Own wr gf 4 1 ((en.map (· == 2)).map brow) (.slice (some ⟨gf, 0, none⟩) n n)
  tb : Tbl w0 R0 23 3 1 (tt.map (·.map nrow)) v4 vs
  b0 : Below w0.heap.size w0 wr
  nw : Own wr w0.heap.size 3 1 ((nowOf nd st).map nrow) v11
  r0 : R0 ≤ w0.heap.size
  bw : Below w.heap.size w wr
theorem rds_go {nd : List (List Int)} {en st : List Int} {f : Nat} (h : nowOf nd st ≠ []) : rds nd en (f + 1) st = (nowOf nd st :: (rds nd en f (putAll en st (nowOf nd st))).1, (rds nd en f (putAll en st (nowOf nd st))).2) := by
  conv => lhs; unfold rds
  rw [if_neg h]
theorem mid_any {n : Nat} {nd : List (List Int)} {en st : List Int} (hr : ∀ l ∈ nd, Rng nd.length l) (hn : nd.length = n) (hE : Ends n en) (hl : st.length = n) (j : Nat) :
    ∃ st' nx, ones (abv nd n) en (st, lks nd st, List.replicate n false) ((nowOf nd st).take j) = (st', lks nd st', nx) ∧ st'.length = n ∧ nx.length = n := by
  have hnd := nowOf_nodup nd st
  have hmt : ∀ i ∈ (nowOf nd st).take j, i < n ∧ st.getD i 0 = 0 := fun i hi => by have := nowOf_mem.1 (List.mem_of_mem_take hi); exact ⟨by omega, this.2.1⟩
  obtain ⟨a1, a2, a3, a4, a5⟩ := ones_spec hr hn hE ((nowOf nd st).take j) st (List.replicate n false) hl (by simp) (hnd.sublist (List.take_sublist _ _)) hmt
  generalize hq : ones (abv nd n) en (st, lks nd st, List.replicate n false) ((nowOf nd st).take j) = q at *
  obtain ⟨q1, q2, q3⟩ := q
  simp only at a1 a2 a3
  subst a1 a2
  exact ⟨_, q3, rfl, by rw [putAll_length]; exact hl, a3⟩
theorem rds_end {nd : List (List Int)} {en st : List Int} {f : Nat} (h : nowOf nd st = []) : rds nd en f st = ([], st) := by
  cases f with
  | zero => rfl
  | succ f => unfold rds; rw [if_pos h]
set_option maxHeartbeats 16000000 in
set_option maxRecDepth 100000 in
theorem rounds_yes (nd : List (List Int)) (bd : List Int) (A A2 : Option Addr) (c c2 n m : Nat) (w : World) (h : Nds w A nd) (hn : nd.length = n) (hmay : mayN nd = true) (hb : Ints w A2 bd) (hm : bd.length = m) (hok : okB n bd = true) (ht : tot nd ≤ 1048576) :
    Calls Try.prog 12 #[.slice A n c, .slice A2 m c2] w fun e w' => ∃ v4 vs v5 H, e = .returned (.tuple #[v4, v5, .int .i64 0]) ∧ Tbl w' w.heap.size 23 3 1 ((rds nd (enOf n bd) (n + 1) (List.replicate n 0)).1.map (·.map nrow)) v4 vs ∧
      Own w' w.heap.size 3 1 ((leftOf (rds nd (enOf n bd) (n + 1) (List.replicate n 0)).2).map nrow) v5 ∧ (∀ g, (v4.ownBlock = some g ∨ ∃ x ∈ vs, x.ownBlock = some g) → g < H) ∧ (∀ g, v5.ownBlock = some g → H ≤ g) ∧ Below w.heap.size w w' := by
  have hE := enOf_ends n bd
  have hfe := Lib.hid (flags_en n bd)
  obtain ⟨en, hen⟩ : ∃ en, enOf n bd = en := ⟨_, rfl⟩
  rw [hen] at hE hfe ⊢
  clear hen
  obtain ⟨R, hR⟩ : ∃ R, rds nd en (n + 1) (List.replicate n 0) = R := ⟨_, rfl⟩
  rw [hR]
  replace hR := Lib.hid hR
  obtain ⟨h96, hr0⟩ := may_rng hmay
  have KM := fun (X : World) (q : Below w.heap.size w X) => may_any nd A c n X (h.below q) hn
  rw [hmay] at KM
  have hr : ∀ l ∈ nd, Rng n l := by rw [← hn]; exact hr0
  rw [hn] at h96
  have KBg := fun (X : World) (q : Below w.heap.size w X) => begun_any nd A c n X (h.below q) hn h96 hr ht
  have hbd := Lib.hid fun (k : Nat) (hk : k < bd.length) (X : World) (q : Below w.heap.size w X) => (hb.below q).at_ hk
  have hml := hb.le
  rw [hm] at hml
  have hbu : Hid (∀ k (hk : k < bd.length), 0 ≤ bd[k] ∧ bd[k] < (n : Int)) := Lib.hid fun k hk => by
    unfold okB at hok
    have := List.all_eq_true.1 hok _ (List.getElem_mem hk)
    unfold okU at this
    simpa using this
  have hnle : n ≤ 9223372036854775807 := by omega
  have hmx : Hid (n ≤ maxLen ∧ 1 * n ≤ 281474976710656) := Lib.hid (by unfold maxLen; omega)
  replace hm := Lib.hid hm
  have hn' := hn
  replace hn := Lib.hid hn
  clear h hb hok
  go_enter Try.func12, Try.ntmps12
  go_upto_region 4 with (first
    | (go_at_call 37; (with_reducible refine (KM _ (Below.refl _ _)).mono ?_); rintro e w1 ⟨rfl, rfl⟩)
    | (refine wpList_made1 (bytes := 1) (z := .bool false) Try.underlying49 (by kernel_rfl) rfl rfl _ _ rfl n rfl rfl hmx.out.2 hmx.out.1 ?_; intro w1 hf1 hb1))
  rw [← rep_b] at hf1
  obtain ⟨gf, hgf⟩ : ∃ g, w.heap.size = g := ⟨_, rfl⟩
  have hf1' : Own w1 gf 4 1 ((flagsOf n []).map brow) (.slice (some ⟨gf, 0, none⟩) n n) := by rw [← hgf]; exact hf1
  rw [show (Value.slice (some (⟨w.heap.size, 0, none⟩ : Addr)) n n) = Value.slice (some ⟨gf, 0, none⟩) n n by rw [hgf]]
  replace hgf := Lib.hid hgf
  clear hf1 KM
  go_upto_region 5 with fail
  go_loopw [30, 4, 5, 6] (fun s30 s4 s5 s6 wr => ∃ j : Nat, j ≤ m ∧ Value.slice none 0 0 = s4 ∧ Value.slice none 0 0 = s5 ∧ Value.int .i64 0 = s6 ∧ s30 = .int .i64 j ∧ Own wr gf 4 1 ((flagsOf n (bd.take j)).map brow) (.slice (some ⟨gf, 0, none⟩) n n) ∧ Below w.heap.size w wr) (fun s30 _ _ _ _ => m - (intOf s30).toNat)
  case atStart => exact ⟨0, by omega, rfl, rfl, rfl, rfl, by rw [List.take_zero]; exact hf1', hb1⟩
  case round =>
    clear hf1' hb1
    obtain ⟨j, hj, rfl, rfl, rfl, rfl, hf, hbw⟩ := hrel
    obtain ⟨wk, rfl⟩ : ∃ x : World, x = wr := ⟨_, rfl⟩
    by_cases hjm : j = m
    · rw [hjm, List.take_of_length_le (by rw [hm.out]; exact Nat.le_refl _)] at hf
      subst hjm
      rw [hfe.out] at hf
      clear hbd hbu hm hml hfe
      have KBg' := KBg wk hbw
      obtain ⟨P, hP⟩ : ∃ P, wk.heap.size = P := ⟨_, rfl⟩
      rw [hP] at KBg'
      have KR := fun (X : World) (ps pl pa : Nat) (xs : List Value) (lk : List Int) (ab : List (List Nat)) (hB : Bd X P ps pl pa n xs (List.replicate n 0) lk ab) => ready_any hB h96
      go_upto_region 13 with (first
        | (go_at_call 38; (with_reducible refine KBg'.mono ?_); rintro e w2 ⟨ps, pl, pa, xs, rfl, hB2, hb2⟩; have KR2 := KR w2 ps pl pa xs _ _ hB2)
        | (go_at_call 39; (with_reducible refine KR2.mono ?_); rintro e w3 ⟨v3, rfl, hO3, hb3⟩))
      rw [free_now hn'] at hO3
      have hB3 := hB2.below hb3
      have hT0 := Lib.hid hB2.top
      have hPw : Hid (w.heap.size < P ∧ gf < P) := Lib.hid (by have h1 := (hf.lt gf rfl).2; have := hgf.out; omega)
      have hf3 : Own w3 gf 4 1 ((en.map (· == 2)).map brow) (.slice (some ⟨gf, 0, none⟩) n n) := (hf.keep fun b e => hb2.block b (by have := (hf.lt b e).2; omega)).below hb3
      obtain ⟨R0, hR0⟩ : ∃ R0, w2.heap.size = R0 := ⟨_, rfl⟩
      rw [hR0] at hO3 hT0
      have hRP : Hid (P + 4 ≤ R0) := Lib.hid (by have := heap_lt hB2.hb; omega)
      have hbw3 : Below w.heap.size w w3 := (hbw.trans (hb2.mono (by have := hPw.out; omega))).trans (hb3.mono (by have := hPw.out; have := hRP.out; omega))
      have hTb0 : Tbl w2 R0 23 3 1 [] (.slice none 0 0) [] := Tbl.nil _ _ _ _ _
      rw [lens_lks, hn'] at hB3
      rw [hR0] at hb3
      have hst0 : (List.replicate n (0 : Int)).length = n := List.length_replicate
      have hz0 := zeros0 n
      have hD0 := done0 (n := n) (nd := nd)
      have hz30 : (List.replicate n (0 : Int)) = List.replicate n 0 := rfl
      clear hB2 hb2 hf KBg KBg' KR KR2 hP hz30
      go_loopw [4, 11] (fun s4 s11 wr => ∃ (v4 v11 : Value) (st : List Int) (f : Nat) (tt : List (List Nat)) (vs : List Value) (w0 : World), v4 = s4 ∧ v11 = s11 ∧ RI w P ps pl pa n gf R0 xs nd en R wr st f tt v4 vs v11 w0) (fun s4 _ _ => n - slen s4)
      case atStart => exact ⟨_, _, List.replicate n 0, n + 1, [], [], w2, rfl, rfl, ⟨by rw [hR.out]; rfl, by omega, by simp; omega, hst0, hD0, hB3, hf3, hTb0, by rw [hR0]; exact hb3, by rw [hR0]; exact hO3, by omega, hbw3⟩⟩
      case round =>
        clear hB3 hf3 hTb0 hb3 hO3 hbw3 hst0 hz0 hD0
        obtain ⟨v4, v11, st, f, tt, vs, w0, rfl, rfl, hI⟩ := hrel
        obtain ⟨wx, rfl⟩ : ∃ x : World, x = wr := ⟨_, rfl⟩
        obtain ⟨A4, c4, hv4, -⟩ := hI.tb.o.sl
        rw [List.length_map, hI.tb.l, List.length_map] at hv4
        obtain ⟨A11, c11, hv11, -⟩ := hI.nw.sl
        rw [List.length_map] at hv11
        by_cases hnow : nowOf nd st = []
        · have hend := rds_end (en := en) (f := f) hnow
          have hReq := hI.eq
          rw [hend, List.append_nil] at hReq
          rw [hnow, List.length_nil] at hv11
          subst hv11
          have hTx := Lib.hid ((hI.tb.below hI.b0).mono (show w.heap.size ≤ R0 by have := hPw.out; have := hRP.out; omega))
          have hTl := Lib.hid (hI.tb.below hI.b0).lt
          have hbx := Lib.hid hI.bw
          have hst := Lib.hid fun (X : World) (q : Below wx.heap.size wx X) => hI.bd.below q
          have hsl := Lib.hid hI.sl
          obtain ⟨y0, -, -⟩ := hI.bd.c0
          replace hReq := Lib.hid hReq
          clear hI hend hnow hR
          subst hv4
          go_upto_region 36 with fail
          clear y0
          go_loopw [102, 5] (fun s102 s5 wr => ∃ (k : Nat) (v5 : Value), v5 = s5 ∧ k ≤ n ∧ s102 = .int .i64 k ∧ Own wr wx.heap.size 3 1 (((List.range k).filter (fun i => st.getD i 0 == 0)).map nrow) v5 ∧ Below wx.heap.size wx wr) (fun s102 _ _ => n - (intOf s102).toNat)
          case atStart => exact ⟨0, _, rfl, by omega, rfl, Own.nil _ _ _ _, Below.refl _ _⟩
          case round =>
            obtain ⟨k, v5, rfl, hk, rfl, hO, hb⟩ := hrel
            obtain ⟨wk, rfl⟩ : ∃ x : World, x = wr := ⟨_, rfl⟩
            by_cases hkn : k = n
            · subst hkn
              have hfin : Hid (Tbl wk w.heap.size 23 3 1 (R.1.map (·.map nrow)) (.slice A4 tt.length c4) vs ∧ Own wk w.heap.size 3 1 ((leftOf R.2).map nrow) v5 ∧ (∀ g, ((Value.slice A4 tt.length c4).ownBlock = some g ∨ ∃ x ∈ vs, x.ownBlock = some g) → g < wx.heap.size) ∧ (∀ g, v5.ownBlock = some g → wx.heap.size ≤ g) ∧ Below w.heap.size w wk) := Lib.hid (by
                rw [hReq.out]
                refine ⟨hTx.out.below hb, ?_, fun g e => (hTl.out g e).2, fun g e => (hO.lt g e).1, hbx.out.trans (hb.mono hbx.out.size)⟩
                unfold leftOf
                rw [hsl.out]
                exact hO.mono hbx.out.size)
              obtain ⟨A', c', rfl, -⟩ := hO.sl
              clear hst hTx hTl hbx hO hb hReq
              go_wp2
              go_ret3
              obtain ⟨g1, g2, g3, g4, g5⟩ := hfin.out
              exact ⟨_, _, _, _, rfl, g1, g2, g3, g4, g5⟩
            · have hlt : k < n := by omega
              have hkl : k < st.length := by rw [hsl.out]; exact hlt
              have hs := (hst.out wk hb).s.cell1 (val := fun x => .int .u8 x) (fun _ => rfl) hsl.out hkl
              have c1 := hs.1
              have hf := filter_snoc (fun i => st.getD i 0 == 0) k
              have hfl := Lib.hid (filter_le (fun i => st.getD i 0 == 0) k)
              rw [getD_at hkl] at hf
              generalize hQ : (List.range k).filter (fun i => st.getD i 0 == 0) = Q at *
              generalize hQ2 : (List.range (k + 1)).filter (fun i => st.getD i 0 == 0) = Q2 at *
              replace hQ2 := Lib.hid hQ2
              generalize st[k] = x at *
              have hsz := Lib.hid hb.size
              by_cases hx : x = 0
              · subst hx
                have hf' : Hid (Q2 = Q ++ [k]) := Lib.hid (by simpa using hf)
                have hb' := Lib.hid hb
                clear hf hQ hs hb hst hTx hTl hbx hReq
                go_wp2_with (at_builtin; refine wpList_push el23 rfl _ _ rfl rfl (hO.alloc _) [.int .i64 k] wk.heap.size 3 rfl (heap_alloc_at _ _) rfl (by simp [Value.oneCell']) (by have := hfl.out; rw [List.length_map]; omega) (by have := hsz.out; rw [size_al]; omega) ?_; intro v' w6 ho6 hb6 hs6 _ _)
                have e1 : Q.map nrow ++ [[.int .i64 k]] = Q2.map nrow := by rw [hf'.out, List.map_append]; rfl
                rw [e1] at ho6
                have hb7 := Lib.hid (((below_al hb'.out _)).trans hb6)
                clear hO hb6 hs6 e1
                go_roundw
                case rel => exact ⟨k + 1, _, rfl, by omega, by go_num, by rw [hQ2.out]; exact ho6, hb7.out⟩
                case measure => first | (simp [intOf]; done) | (simp [intOf]; omega)
              · have hf' : Hid (Q2 = Q) := Lib.hid (by rw [hf]; simp [hx])
                have hx' : (x == 0) = false := by simpa using hx
                clear hf hQ hs hst hTx hTl hbx hReq
                go_wp2
                go_roundw
                case rel => exact ⟨k + 1, _, rfl, by omega, by go_num, by rw [hQ2.out, hf'.out]; exact hO, hb⟩
                case measure => first | (simp [intOf]; done) | (simp [intOf]; omega)
        · obtain ⟨q, hq⟩ : ∃ q, (nowOf nd st).length = q := ⟨_, rfl⟩
          have hq0 : 0 < q := by rw [← hq]; exact List.length_pos_iff.2 hnow
          have hqn : q ≤ n := by rw [← hq, ← hn']; exact now_len nd st
          have hzs := zeros_step hE hn' hI.sl
          rw [hq] at hv11 hzs
          have hfz := hI.zf
          have htz := hI.tz
          obtain ⟨f', rfl⟩ : ∃ f', f = f' + 1 := ⟨f - 1, by omega⟩
          have hReq := hI.eq
          rw [rds_go hnow] at hReq
          obtain ⟨nx, hs1, hs2, hs3, hs4⟩ := round_spec hr0 hn' hE hI.sl hI.dn
          have hmid := Lib.hid fun j (hj : j < (nowOf nd st).length) => mid_round hr0 hn' hE hI.sl ht j hj
          have hmia := Lib.hid fun j => mid_any hr0 hn' hE hI.sl j
          have hsl' : (putAll en st (nowOf nd st)).length = n := by rw [putAll_length]; exact hI.sl
          have hnm : Hid (∀ i ∈ nowOf nd st, i < n) := Lib.hid fun i hi => by have := (nowOf_mem.1 hi).1; omega
          -- the rounds, one more
          have hTx := hI.tb.below hI.b0
          have hTo := hTx.o
          have hvl : Hid ((vs.map fun x => [x]).length ≤ n) := Lib.hid (by rw [List.length_map, hI.tb.l, List.length_map]; omega)
          have hRx : Hid (R0 ≤ wx.heap.size) := Lib.hid (Nat.le_trans hI.r0 hI.b0.size)
          subst hv11
          go_upto_region 15 with (first
            | (at_builtin; refine wpList_push_at el22 rfl _ _ rfl rfl (hTo.alloc _) [.slice A11 q c11] wx.heap.size 23 rfl (heap_alloc_at _ _) rfl (by simp [Value.oneCell']) (by have := hvl.out; omega) (by have := hRx.out; rw [size_al]; omega) ?_; intro v4' wa hoa hba hsa _ hga hata))
          have hTa := hI.tb.push hI.b0 hI.nw hI.r0 (below_al (Below.refl wx.heap.size wx) _) hoa hga hata
          have hbxa : Below R0 wx wa := ((below_al (Below.refl wx.heap.size wx) _).mono hRx.out).trans hba
          have hBa := hI.bd.keepT hT0.out (fun b hb => hbxa.block b hb)
          have hfa : Own wa gf 4 1 ((en.map (· == 2)).map brow) (.slice (some ⟨gf, 0, none⟩) n n) := hI.fl.keep fun b e => hbxa.block b (by have e : gf = b := Option.some.inj e; have := hPw.out; have := hRP.out; omega)
          have hbwa : Below w.heap.size w wa := hI.bw.trans (hbxa.mono (by have := hPw.out; have := hRP.out; omega))
          have hwa : Hid (wx.heap.size ≤ wa.heap.size) := Lib.hid (Nat.le_trans (by rw [size_al]; exact Nat.le_succ _) hsa)
          have hsl0 := Lib.hid hI.sl
          clear hTx hTo hoa hba hsa hga hata hbxa hI
          go_upto_region 17 with (refine wpList_made1 (bytes := 1) (z := .bool false) Try.underlying49 (by kernel_rfl) rfl rfl _ _ rfl n rfl rfl hmx.out.2 hmx.out.1 ?_; intro wb hnb hbb)
          rw [← rep_b] at hnb
          have hTb := hTa.below hbb
          have hBb := hBa.below hbb
          have hfb := hfa.below hbb
          have hbwb := hbwa.trans (hbb.mono hbwa.size)
          have hgn : Hid (R0 ≤ wa.heap.size ∧ wa.heap.size < wb.heap.size) := Lib.hid ⟨Nat.le_trans hRx.out (by have := (hTa.o.lt); exact hwa.out), (hnb.lt wa.heap.size rfl).2⟩
          obtain ⟨gn, hgne⟩ : ∃ g, wa.heap.size = g := ⟨_, rfl⟩
          have hTl := Lib.hid (fun g e => by have h1 := hTa.lt g e; rw [hgne] at h1; exact h1 : ∀ g, (v4'.ownBlock = some g ∨ ∃ x ∈ vs ++ [Value.slice A11 q c11], x.ownBlock = some g) → R0 ≤ g ∧ g < gn)
          rw [hgne] at hnb hgn ⊢
          -- what lies apart of what a round turns
          have hvlen : vs.length = tt.length := by
            have := hTa.l
            simp only [List.length_append, List.length_map, List.length_cons, List.length_nil] at this
            omega
          have hnowb := Lib.hid (hTb.r tt.length (.slice A11 q c11) ((nowOf nd st).map nrow) (by rw [List.getElem?_append_right (by omega), hvlen, Nat.sub_self]; rfl) (by rw [List.getElem?_append_right (by simp)]; simp))
          clear hTa hBa hfa hbwa hbb
          obtain ⟨S, hS⟩ : ∃ S : Nat → Prop, (fun b => b = ps ∨ b = pl ∨ b = gn) = S := ⟨_, rfl⟩
          have hSe : Hid (∀ b, S b ↔ b = ps ∨ b = pl ∨ b = gn) := Lib.hid fun b => by rw [← hS]
          clear hS
          have hlo := Lib.hid hBb.lo
          have hF0 := Fr.refl wb.heap.size S wb
          -- the tasks of the round
          obtain ⟨L0, hL0⟩ : ∃ L, nowOf nd st = L := ⟨_, rfl⟩
          rw [hL0] at hmid hmia hs1 hs3 hs4 hnm hnowb hReq hsl' hq hzs hnow hTb
          replace hq := Lib.hid hq
          go_loopw [62] (fun s62 wr => ∃ (j : Nat) (stj : List Int) (nxj : List Bool), j ≤ q ∧ s62 = .int .i64 j ∧ ones (abv nd n) en (st, lks nd st, List.replicate n false) (L0.take j) = (stj, lks nd stj, nxj) ∧ stj.length = n ∧ nxj.length = n ∧ Bd wr P ps pl pa n xs stj (lks nd stj) (abv nd n) ∧ Own wr gn 4 1 (nxj.map brow) (.slice (some ⟨gn, 0, none⟩) n n) ∧ Fr wb.heap.size S wb wr) (fun s62 _ => q - (intOf s62).toNat)
          case atStart => exact ⟨0, st, List.replicate n false, by omega, rfl, rfl, hsl0.out, List.length_replicate, hBb, hnb, hF0⟩
          case round =>
            clear hBb hnb hF0
            obtain ⟨j, stj, nxj, hj, rfl, hoj, hsj, hnj, hBj, hNj, hFj⟩ := hrel
            obtain ⟨wk, rfl⟩ : ∃ x : World, x = wr := ⟨_, rfl⟩
            by_cases hjq : j = q
            · have hjq2 := hjq.symm
              subst hjq2
              rw [List.take_of_length_le (by rw [hq.out]; exact Nat.le_refl _), hs1] at hoj
              obtain ⟨rfl, e2⟩ := Prod.mk.inj hoj
              obtain ⟨-, rfl⟩ := Prod.mk.inj e2
              clear hoj e2 hs1 hmid hmia hnm hsj
              obtain ⟨stp, hstp⟩ : ∃ s, putAll en st L0 = s := ⟨_, rfl⟩
              rw [hstp] at hBj hs3 hs4 hReq hsl' hzs
              clear hstp
              have hRk : Hid (R0 ≤ wk.heap.size) := Lib.hid (by have := hFj.size; have := hgn.out; omega)
              have hTk : Tbl wk R0 23 3 1 ((tt ++ [L0]).map (·.map nrow)) v4' (vs ++ [.slice A11 q c11]) := by
                rw [List.map_append]
                exact hTb.keep fun g h1 h2 h3 => hFj.k g h2 (fun e => by
                  have h4 := hTl.out g h3
                  have h5 := (hSe.out g).1 e
                  have h6 := hlo.out
                  have h7 := hRP.out
                  omega)
              have hfk : Own wk gf 4 1 ((en.map (· == 2)).map brow) (.slice (some ⟨gf, 0, none⟩) n n) := hfb.keep fun b e => hFj.k b (hfb.lt b e).2 (fun e2 => by
                have e3 : gf = b := Option.some.inj e
                have h5 := (hSe.out b).1 e2
                have h6 := hlo.out
                have h7 := hPw.out
                have h8 := hgn.out
                have h9 := hRP.out
                omega)
              have hbwk : Below w.heap.size w wk := hbwb.trans (hFj.below (by have := hbwb.size; exact this) (fun b e => by
                have h5 := (hSe.out b).1 e
                have h6 := hlo.out
                have h7 := hPw.out
                have h8 := hgn.out
                have h9 := hRP.out
                omega))
              have hm1 : Hid (slen v4' = tt.length + 1) := Lib.hid (by
                obtain ⟨A', c', e, -⟩ := hTk.o.sl
                rw [e]
                show (List.map (fun x => [x]) (vs ++ [Value.slice A11 q c11])).length = _
                simp [hvlen])
              have hm2 : Hid (slen v4 = tt.length) := Lib.hid (by rw [hv4]; rfl)
              have hfin : Hid (∀ (X : World) (v : Value), Below wk.heap.size wk X → Own X wk.heap.size 3 1 ((nowOf nd stp).map nrow) v → RI w P ps pl pa n gf R0 xs nd en R X stp f' (tt ++ [L0]) v4' (vs ++ [.slice A11 q c11]) v wk) := Lib.hid fun X v hX hv =>
                ⟨by rw [hReq, List.append_assoc]; rfl, by omega, by rw [List.length_append]; simp; omega, hsl', hs4, hBj.below hX, hfk.below hX, hTk, hX, hv, hRk.out, hbwk.trans (hX.mono hbwk.size)⟩
              have hnxl := Lib.hid hnj
              have hNk := Lib.hid hNj
              have hmq : Hid (tt.length + 1 ≤ n) := Lib.hid (by omega)
              clear hBj hNj hFj hTk hfk hbwk hTb hTl hfb hbwb hReq hs4 hsl' hzs hSe hnowb hlo hv4 htz hfz
              go_upto_region 30 with fail
              go_loopw [86, 11] (fun s86 s11 wr => ∃ (k : Nat) (v : Value), v = s11 ∧ k ≤ n ∧ s86 = .int .i64 k ∧ Own wr wk.heap.size 3 1 (((List.range k).filter (fun i => nx.getD i false)).map nrow) v ∧ Below wk.heap.size wk wr) (fun s86 _ _ => n - (intOf s86).toNat)
              case atStart => exact ⟨0, _, rfl, by omega, rfl, Own.nil _ _ _ _, Below.refl _ _⟩
              case round =>
                obtain ⟨k, v, rfl, hk, rfl, hO, hb⟩ := hrel
                obtain ⟨wy, rfl⟩ : ∃ x : World, x = wr := ⟨_, rfl⟩
                by_cases hkn : k = n
                · rw [hkn, hs3] at hO
                  have hRI := Lib.hid (hfin.out wy v hb hO)
                  obtain ⟨A', c', hvv, -⟩ := hO.sl
                  clear hfin hNk hO hb hs3
                  subst hkn
                  go_wp2
                  go_roundw
                  case rel => exact ⟨_, _, stp, f', tt ++ [L0], _, wk, rfl, rfl, hRI.out⟩
                  case measure =>
                    have h1 := hm1.out
                    have h2 := hm2.out
                    have h3 := hmq.out
                    rw [h1, h2]
                    omega
                · have hlt : k < n := by omega
                  have hkl : k < nx.length := by rw [hnxl.out]; exact hlt
                  have hcc := ((hNk.out.below hb).cell1 (val := fun x => .bool x) (fun _ => rfl) hnxl.out hkl).1
                  have hf := filter_snoc (fun i => nx.getD i false) k
                  have hfl := Lib.hid (filter_le (fun i => nx.getD i false) k)
                  have hgd : nx.getD k false = nx[k] := by simp [List.getD_eq_getElem?_getD, hkl]
                  rw [hgd] at hf
                  generalize hQ : (List.range k).filter (fun i => nx.getD i false) = Q at *
                  generalize hQ2 : (List.range (k + 1)).filter (fun i => nx.getD i false) = Q2 at *
                  replace hQ2 := Lib.hid hQ2
                  generalize nx[k] = x at *
                  have hsz := Lib.hid hb.size
                  cases x with
                  | true =>
                    have hf' : Hid (Q2 = Q ++ [k]) := Lib.hid (by simpa using hf)
                    have hb' := Lib.hid hb
                    clear hf hQ hb hfin hs3 hgd
                    go_wp2_with (at_builtin; refine wpList_push el23 rfl _ _ rfl rfl (hO.alloc _) [.int .i64 k] wy.heap.size 3 rfl (heap_alloc_at _ _) rfl (by simp [Value.oneCell']) (by have := hfl.out; rw [List.length_map]; omega) (by have := hsz.out; rw [size_al]; omega) ?_; intro v' w6 ho6 hb6 hs6 _ _)
                    have e1 : Q.map nrow ++ [[.int .i64 k]] = Q2.map nrow := by rw [hf'.out, List.map_append]; rfl
                    rw [e1] at ho6
                    have hb7 := Lib.hid (((below_al hb'.out _)).trans hb6)
                    clear hO hb6 hs6 e1
                    go_roundw
                    case rel => exact ⟨k + 1, _, rfl, by omega, by go_num, by rw [hQ2.out]; exact ho6, hb7.out⟩
                    case measure => first | (simp [intOf]; done) | (simp [intOf]; omega)
                  | false =>
                    have hf' : Hid (Q2 = Q) := Lib.hid (by simpa using hf)
                    clear hf hQ hfin hs3 hgd
                    go_wp2
                    go_roundw
                    case rel => exact ⟨k + 1, _, rfl, by omega, by go_num, by rw [hQ2.out, hf'.out]; exact hO, hb⟩
                    case measure => first | (simp [intOf]; done) | (simp [intOf]; omega)
            · have hlt : j < q := by omega
              have hjl : j < L0.length := by rw [hq.out]; exact hlt
              obtain ⟨st2, nx2, e0, f1, f2, f3, f4, f5, f6, f7, f8⟩ := hmid.out j hjl
              rw [hoj] at e0
              obtain ⟨rfl, e1⟩ := Prod.mk.inj e0
              obtain ⟨-, rfl⟩ := Prod.mk.inj e1
              clear e0 e1 f1 f2
              have hsn := ones_snoc (abv nd n) en (st, lks nd st, List.replicate n false) (L0.take j) L0[j]
              rw [List.take_append_getElem hjl, hoj, one1_end] at hsn
              obtain ⟨st3, nx3, g0, g1, g2⟩ := hmia.out (j + 1)
              have g0' := g0
              rw [hsn] at g0'
              obtain ⟨q1, q2⟩ := Prod.mk.inj g0'
              obtain ⟨q3, q4⟩ := Prod.mk.inj q2
              simp only at q1 q3 q4
              replace g0 := Lib.hid g0
              clear hoj hsn g0' q2
              -- what stands apart
              have hkeep : Hid (∀ b, b < wb.heap.size → b ≠ ps → b ≠ pl → b ≠ gn → wk.heap[b]? = wb.heap[b]?) := Lib.hid fun b h1 h2 h3 h4 => hFj.k b h1 (fun e => by
                rcases (hSe.out b).1 e with e | e | e
                · exact h2 e
                · exact h3 e
                · exact h4 e)
              have hA11 : ∃ g11, A11 = some ⟨g11, 0, none⟩ ∧ R0 ≤ g11 ∧ g11 < gn := by
                obtain ⟨g, c', hv, h1, -, -⟩ := hnowb.out.form (by rw [List.length_map]; omega)
                have e : A11 = some ⟨g, 0, none⟩ := (Value.slice.inj hv).1
                subst e
                exact ⟨g, rfl, hTl.out g (Or.inr ⟨.slice (some ⟨g, 0, none⟩) q c11, List.mem_append_right _ (List.mem_singleton.2 rfl), rfl⟩)⟩
              obtain ⟨g11, rfl, h11, h11'⟩ := hA11
              have hnk := hnowb.out.keep (w' := wk) (fun b e => by
                have e2 : g11 = b := Option.some.inj e
                have h5 := hlo.out
                have h6 := hRP.out
                have h7 := hgn.out
                exact hkeep.out b (by omega) (by omega) (by omega) (by omega))
              have cn := (hnk.cell1 (row := nrow) (val := fun x : Nat => .int .i64 x) (fun _ => rfl) hq.out hjl).1
              have hfk := hfb.keep (w' := wk) (fun b e => by
                have e2 : gf = b := Option.some.inj e
                have h5 := hlo.out
                have h6 := hRP.out
                have h7 := hgn.out
                have h8 := hPw.out
                exact hkeep.out b (by omega) (by omega) (by omega) (by omega))
              have hel : L0[j] < en.length := by rw [hE.1]; exact f3
              have hfl2 : L0[j] < (en.map (· == 2)).length := by rw [List.length_map]; exact hel
              have cf := (hfk.cell1 (val := fun x => .bool x) (fun _ => rfl) (by rw [List.length_map]; exact hE.1) hfl2).1
              rw [List.getElem_map] at cf
              have hei := hE.2 _ f3
              have hgd : en.getD L0[j] 0 = en[L0[j]] := by simp [List.getD_eq_getElem?_getD, hel]
              rw [hgd] at hei q1 q3 q4 f7 f8
              generalize en[L0[j]] = s at *
              generalize L0[j] = i at *
              have KE := fun (s' : Int) => ended_any hBj f3 s' _ rfl f4 f5 f6
              generalize hks : (abv nd n).getD i [] = ks at *
              obtain ⟨l2, hl2⟩ : ∃ l, (endq s (lks nd stj) ks).2 = l := ⟨_, rfl⟩
              have KEs := KE s
              rw [hl2] at KEs f7 f8 q4
              rw [q1, q3] at KEs
              have hi' : (i : Int) < (n : Int) := by omega
              have hwkb : Hid (wb.heap.size ≤ wk.heap.size) := Lib.hid hFj.size
              obtain ⟨pp, hpp⟩ : ∃ p, l2.length = p := ⟨_, rfl⟩
              rw [hpp] at f7
              replace hpp := Lib.hid hpp
              replace f8 := Lib.hid f8
              have hN6 := Lib.hid fun (w6 : World) (q : Fr wk.heap.size (fun b => b = ps ∨ b = pl) wk w6) => hNj.keep (w' := w6) (fun b e => q.k b (hNj.lt b e).2 (fun e2 => by
                have e3 : gn = b := Option.some.inj e
                have h5 := hlo.out
                have h6 := hRP.out
                have h7 := hgn.out
                omega))
              have hrel3 := Lib.hid fun (w6 X : World) (hB6 : Bd w6 P ps pl pa n xs st3 (lks nd st3) (abv nd n)) (hF6 : Fr wk.heap.size (fun b => b = ps ∨ b = pl) wk w6) (hX : Fr w6.heap.size (fun b => b = gn) w6 X) => (by
                refine ⟨hB6.keepT hT0.out (fun b hb => hX.k b (by have h7 := hgn.out; have h8 := hwkb.out; have := hF6.size; omega) (fun e => by have h7 := hgn.out; omega)), ?_⟩
                refine (hFj.trans (hF6.mono hwkb.out (fun b _ e => (hSe.out b).2 (by rcases e with e | e; exact Or.inl e; exact Or.inr (Or.inl e))))).trans (hX.mono (Nat.le_trans hwkb.out hF6.size) (fun b _ e => (hSe.out b).2 (Or.inr (Or.inr e))))
                : Bd X P ps pl pa n xs st3 (lks nd st3) (abv nd n) ∧ Fr wb.heap.size S wb X)
              have hq4 := Lib.hid q4
              have hgb : Hid (gn < wk.heap.size) := Lib.hid (by have h7 := hgn.out; have := hwkb.out; omega)
              have hnx := Lib.hid hnj
              clear KE hBj hnk hfk f4 f5 f6 hnowb hfb hTb hTl hmid hmia hs1 hs3 hs4 hReq hbwb hkeep q1 q3 q4 hks hl2 hNj hFj hsj hgd hel hfl2
              rcases hei with rfl | rfl
              · rw [show ((1 : Int) == 2) = false by decide] at cf
                go_upto_region 23 with (go_at_call 40; (with_reducible refine KEs.mono ?_); rintro e w6 ⟨v6, rfl, hB6, hO6, hF6⟩; obtain ⟨A6, c6, hv6, -⟩ := hO6.sl; rw [List.length_map, hpp.out] at hv6; subst hv6)
                have hN6' := hN6.out w6 hF6
                have hl2c := Lib.hid fun (X : World) (q : Fr w6.heap.size (fun b => b = gn) w6 X) (m2 : Nat) (hm2 : m2 < l2.length) => (by
                  have hk := hO6.keep (w' := X) (fun b e => q.k b (hO6.lt b e).2 (fun e2 => by have := (hO6.lt b e).1; have := hgb.out; omega))
                  obtain ⟨g, c', hv, -, -, -⟩ := hk.form (by rw [List.length_map]; omega)
                  have hA : A6 = some ⟨g, 0, none⟩ := (Value.slice.inj hv).1
                  subst hA
                  exact ⟨g, rfl, (hk.cell1 (row := nrow) (val := fun x : Nat => .int .i64 x) (fun _ => rfl) hpp.out hm2).1⟩ : ∃ g, A6 = some ⟨g, 0, none⟩ ∧ X.cell? ⟨g, m2, none⟩ = some (.int .i64 l2[m2]))
                have hr3 := Lib.hid fun X hX => hrel3.out w6 X hB6 hF6 hX
                clear hB6 hO6 hF6 hrel3 hN6 cn cf
                go_loopw [75] (fun s75 wr => ∃ m2 : Nat, m2 ≤ pp ∧ s75 = .int .i64 m2 ∧ Own wr gn 4 1 ((marks nxj (l2.take m2)).map brow) (.slice (some ⟨gn, 0, none⟩) n n) ∧ Fr w6.heap.size (fun b => b = gn) w6 wr) (fun s75 _ => pp - (intOf s75).toNat)
                case atStart => exact ⟨0, by omega, rfl, by rw [List.take_zero]; exact hN6', Fr.refl _ _ _⟩
                case round =>
                  clear hN6'
                  obtain ⟨m2, hm2, rfl, hN, hX⟩ := hrel
                  obtain ⟨wy, rfl⟩ : ∃ x : World, x = wr := ⟨_, rfl⟩
                  by_cases hmp : m2 = pp
                  · have hmp2 := hmp.symm
                    subst hmp2
                    rw [List.take_of_length_le (by rw [hpp.out]; exact Nat.le_refl _), hq4.out] at hN
                    have hr4 := Lib.hid (hr3.out wy hX)
                    replace hN := Lib.hid hN
                    clear hl2c hr3 hX f8 hq4 hmp
                    go_wp2
                    go_roundw
                    case rel => exact ⟨j + 1, st3, nx3, by omega, by go_num, g0.out, g1, g2, hr4.out.1, hN.out, hr4.out.2⟩
                    case measure => first | (simp [intOf]; done) | (simp [intOf]; omega)
                  · have hmlt : m2 < pp := by omega
                    have hml : m2 < l2.length := by rw [hpp.out]; exact hmlt
                    obtain ⟨g6, rfl, ck⟩ := hl2c.out wy hX m2 hml
                    have hkn := f8.out _ (List.getElem_mem hml)
                    have hsm := marks_snoc nxj (l2.take m2) l2[m2]
                    rw [List.take_append_getElem hml] at hsm
                    have hml2 := marks_length (l2.take m2) nxj
                    rw [hnx.out] at hml2
                    generalize l2[m2] = k at *
                    obtain ⟨c1, f1⟩ := hN.cell1 (val := fun x => .bool x) (fun _ => rfl) hml2 (k := k) (by rw [hml2]; exact hkn)
                    generalize (marks nxj (l2.take m2))[k] = old at *
                    have hset := Lib.hid (hN.put1 (val := fun x => .bool x) (fun _ => rfl) hml2 hkn true)
                    have hXs := Lib.hid (hX.set (p := ⟨gn, k, none⟩) (fun _ => rfl) (.bool true))
                    have hsm' := Lib.hid hsm
                    have hkn' : (k : Int) < (n : Int) := by omega
                    clear hN hX hsm hl2c hr3 f8 hq4
                    go_wp2
                    go_roundw
                    case rel => exact ⟨m2 + 1, by omega, by go_num, by rw [hsm'.out]; exact hset.out, hXs.out⟩
                    case measure => first | (simp [intOf]; done) | (simp [intOf]; omega)
              · rw [show ((2 : Int) == 2) = true by decide] at cf
                go_upto_region 23 with (go_at_call 40; (with_reducible refine KEs.mono ?_); rintro e w6 ⟨v6, rfl, hB6, hO6, hF6⟩; obtain ⟨A6, c6, hv6, -⟩ := hO6.sl; rw [List.length_map, hpp.out] at hv6; subst hv6)
                have hN6' := hN6.out w6 hF6
                have hl2c := Lib.hid fun (X : World) (q : Fr w6.heap.size (fun b => b = gn) w6 X) (m2 : Nat) (hm2 : m2 < l2.length) => (by
                  have hk := hO6.keep (w' := X) (fun b e => q.k b (hO6.lt b e).2 (fun e2 => by have := (hO6.lt b e).1; have := hgb.out; omega))
                  obtain ⟨g, c', hv, -, -, -⟩ := hk.form (by rw [List.length_map]; omega)
                  have hA : A6 = some ⟨g, 0, none⟩ := (Value.slice.inj hv).1
                  subst hA
                  exact ⟨g, rfl, (hk.cell1 (row := nrow) (val := fun x : Nat => .int .i64 x) (fun _ => rfl) hpp.out hm2).1⟩ : ∃ g, A6 = some ⟨g, 0, none⟩ ∧ X.cell? ⟨g, m2, none⟩ = some (.int .i64 l2[m2]))
                have hr3 := Lib.hid fun X hX => hrel3.out w6 X hB6 hF6 hX
                clear hB6 hO6 hF6 hrel3 hN6 cn cf
                go_loopw [75] (fun s75 wr => ∃ m2 : Nat, m2 ≤ pp ∧ s75 = .int .i64 m2 ∧ Own wr gn 4 1 ((marks nxj (l2.take m2)).map brow) (.slice (some ⟨gn, 0, none⟩) n n) ∧ Fr w6.heap.size (fun b => b = gn) w6 wr) (fun s75 _ => pp - (intOf s75).toNat)
                case atStart => exact ⟨0, by omega, rfl, by rw [List.take_zero]; exact hN6', Fr.refl _ _ _⟩
                case round =>
                  clear hN6'
                  obtain ⟨m2, hm2, rfl, hN, hX⟩ := hrel
                  obtain ⟨wy, rfl⟩ : ∃ x : World, x = wr := ⟨_, rfl⟩
                  by_cases hmp : m2 = pp
                  · have hmp2 := hmp.symm
                    subst hmp2
                    rw [List.take_of_length_le (by rw [hpp.out]; exact Nat.le_refl _), hq4.out] at hN
                    have hr4 := Lib.hid (hr3.out wy hX)
                    replace hN := Lib.hid hN
                    clear hl2c hr3 hX f8 hq4 hmp
                    go_wp2
                    go_roundw
                    case rel => exact ⟨j + 1, st3, nx3, by omega, by go_num, g0.out, g1, g2, hr4.out.1, hN.out, hr4.out.2⟩
                    case measure => first | (simp [intOf]; done) | (simp [intOf]; omega)
                  · have hmlt : m2 < pp := by omega
                    have hml : m2 < l2.length := by rw [hpp.out]; exact hmlt
                    obtain ⟨g6, rfl, ck⟩ := hl2c.out wy hX m2 hml
                    have hkn := f8.out _ (List.getElem_mem hml)
                    have hsm := marks_snoc nxj (l2.take m2) l2[m2]
                    rw [List.take_append_getElem hml] at hsm
                    have hml2 := marks_length (l2.take m2) nxj
                    rw [hnx.out] at hml2
                    generalize l2[m2] = k at *
                    obtain ⟨c1, f1⟩ := hN.cell1 (val := fun x => .bool x) (fun _ => rfl) hml2 (k := k) (by rw [hml2]; exact hkn)
                    generalize (marks nxj (l2.take m2))[k] = old at *
                    have hset := Lib.hid (hN.put1 (val := fun x => .bool x) (fun _ => rfl) hml2 hkn true)
                    have hXs := Lib.hid (hX.set (p := ⟨gn, k, none⟩) (fun _ => rfl) (.bool true))
                    have hsm' := Lib.hid hsm
                    have hkn' : (k : Int) < (n : Int) := by omega
                    clear hN hX hsm hl2c hr3 f8 hq4
                    go_wp2
                    go_roundw
                    case rel => exact ⟨m2 + 1, by omega, by go_num, by rw [hsm'.out]; exact hset.out, hXs.out⟩
                    case measure => first | (simp [intOf]; done) | (simp [intOf]; omega)
    · have hlt : j < m := by omega
      have hjl : j < bd.length := by rw [hm.out]; exact hlt
      obtain ⟨b, o, rfl, -, cb⟩ := hbd.out j hjl wk hbw
      obtain ⟨u0, u1⟩ := hbu.out j hjl
      have hsn := flags_snoc n (bd.take j) bd[j]
      rw [List.take_append_getElem hjl] at hsn
      have hfl := flags_len n (bd.take j)
      generalize bd[j] = u at *
      obtain ⟨v, rfl⟩ := Int.eq_ofNat_of_zero_le u0
      rw [Int.toNat_natCast] at hsn
      have hvn : v < n := by omega
      have hset := Lib.hid (hf.put1 (val := fun x => .bool x) (fun _ => rfl) hfl hvn true)
      obtain ⟨c1, f1⟩ := hf.cell1 (val := fun x => .bool x) (fun _ => rfl) hfl (k := v) (by rw [hfl]; exact hvn)
      generalize (flagsOf n (bd.take j))[v] = old at *
      have hsn' := Lib.hid hsn
      have hbw' := Lib.hid (hbw.setCell (p := ⟨gf, v, none⟩) (by show w.heap.size ≤ gf; rw [hgf.out]; exact Nat.le_refl _) (.bool true))
      clear hsn hf hbw KBg
      go_wp2
      go_roundw
      case rel => exact ⟨j + 1, by omega, rfl, rfl, rfl, by go_num, by rw [hsn'.out]; exact hset.out, hbw'.out⟩
      case measure => first | (simp [intOf]; done) | (simp [intOf]; omega)
end Go.Proofs.Ytcioejamohjdgaa
