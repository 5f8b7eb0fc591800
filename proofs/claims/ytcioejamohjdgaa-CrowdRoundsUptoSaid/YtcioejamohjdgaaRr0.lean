/- Crowd: the document's Rounds, walked, where nothing is refused. -/
import Derived.Test.YtcioejamohjdgaaRq1
namespace Go.Proofs.Ytcioejamohjdgaa
open Go.RowKit Go.BigFrame

/-- one more, where what lies below may have turned but for the table -/
theorem Tbl.push2 {w w1 w2 w3 : World} {base : Nat} {eo ei : TypeId} {size : Nat} {tt : List (List (List Value))} {v v' x : Value} {vs : List Value} {t : List (List Value)} (h : Tbl w base eo ei size tt v vs)
    (hk1 : ∀ g, base ≤ g → g < w.heap.size → w1.heap[g]? = w.heap[g]?) (hs1 : w.heap.size ≤ w1.heap.size) (hx : Own w1 w.heap.size ei size t x) (hb : base ≤ w.heap.size) (hb2 : Below w1.heap.size w1 w2) (ho : Own w3 base eo 1 ((vs.map fun x => [x]) ++ [[x]]) v') (hg : w2.grownBy w3 v.ownBlock)
    (hat : v'.ownBlock = v.ownBlock ∨ v'.ownBlock = some w2.heap.size) : Tbl w3 base eo ei size (tt ++ [t]) v' (vs ++ [x]) := by
  have hs2 := hb2.size
  have hvl : ∀ g, v.ownBlock = some g → g < w.heap.size := fun g hg => (h.o.lt g hg).2
  have hxl : ∀ g, x.ownBlock = some g → w.heap.size ≤ g ∧ g < w1.heap.size := hx.lt
  have hkl : ∀ (k : Nat) (y : Value), vs[k]? = some y → ∀ g, y.ownBlock = some g → g < w.heap.size := fun k y hy g hgy => by
    have hk : k < tt.length := by rw [← h.l]; exact (List.getElem?_eq_some_iff.1 hy).1
    exact ((h.r k y _ hy (List.getElem?_eq_getElem hk)).lt g hgy).2
  have hcase : ∀ (k : Nat) (y : Value), (vs ++ [x])[k]? = some y → (k < vs.length ∧ vs[k]? = some y) ∨ (k = vs.length ∧ y = x) := by
    intro k y hy
    rcases Nat.lt_or_ge k vs.length with q | q
    · rw [List.getElem?_append_left q] at hy; exact Or.inl ⟨q, hy⟩
    · rw [List.getElem?_append_right q] at hy
      have : k - vs.length = 0 := by
        rcases Nat.eq_zero_or_pos (k - vs.length) with z | z
        · exact z
        · rw [List.getElem?_eq_none (by simp; omega)] at hy; cases hy
      rw [this] at hy
      exact Or.inr ⟨by omega, (Option.some.inj hy).symm⟩
  have keep : ∀ g : Nat, g < w1.heap.size → v.ownBlock ≠ some g → w3.heap[g]? = w1.heap[g]? := fun g hl hn => by
    rw [hg.block g (by omega) (fun e => hn e.symm), hb2.block g hl]
  refine ⟨by rw [List.map_append]; exact ho, by rw [List.length_append, List.length_append, h.l]; rfl, fun k y t' hy ht => ?_, fun k y hy g hgy e => ?_, fun k j y z hy hz hkj g hgy e => ?_⟩
  · rcases hcase k y hy with ⟨hk, hy⟩ | ⟨rfl, rfl⟩
    · rw [List.getElem?_append_left (by rw [← h.l]; exact hk)] at ht
      exact ((h.r k y t' hy ht).keep fun g hgy => hk1 g ((h.r k y t' hy ht).lt g hgy).1 ((h.r k y t' hy ht).lt g hgy).2).keep fun g hgy => keep g (by have := hkl k y hy g hgy; omega) (h.d k y hy g hgy)
    · rw [h.l, List.getElem?_append_right (Nat.le_refl _), Nat.sub_self] at ht
      obtain rfl : t = t' := Option.some.inj ht
      exact (hx.mono hb).keep fun g hgy => keep g (hxl g hgy).2 (fun e => by have := hvl g e; have := (hxl g hgy).1; omega)
  · rcases hcase k y hy with ⟨hk, hy⟩ | ⟨rfl, rfl⟩
    · rcases hat with q | q
      · rw [q] at e; exact h.d k y hy g hgy e
      · rw [q] at e; cases e; have := hkl k y hy _ hgy; omega
    · rcases hat with q | q
      · rw [q] at e; have := hvl g e; have := (hxl g hgy).1; omega
      · rw [q] at e; cases e; have := (hxl _ hgy).2; omega
  · rcases hcase k y hy with ⟨hk, hy'⟩ | ⟨hk, hy'⟩ <;> rcases hcase j z hz with ⟨hj, hz'⟩ | ⟨hj, hz'⟩
    · exact h.dd k j y z hy' hz' hkj g hgy e
    · have := hkl k y hy' g hgy; have := (hxl g (hz' ▸ e)).1; omega
    · have := hkl j z hz' g e; have := (hxl g (hy' ▸ hgy)).1; omega
    · exact hkj (hk.trans hj.symm)
theorem en_snoc (n : Nat) (bd : List Int) (b : Int) : enOf n (bd ++ [b]) = (enOf n bd).set b.toNat 2 := by unfold enOf; rw [List.foldl_append]; rfl
theorem put_snoc (en st : List Int) (l : List Nat) (i : Nat) : putAll en st (l ++ [i]) = (putAll en st l).set i (en.getD i 0) := by unfold putAll; rw [List.foldl_append]; rfl
theorem el35 : Elt Try.prog 35 5 1 1 := Elt.of (z := .int .u8 0) Try.underlying35 (by kernel_rfl) rfl (by decide) (by decide)
theorem rep_u (n : Nat) : (List.replicate n (0 : Int)).map urow = List.replicate n [Value.int .u8 0] := by rw [List.map_replicate]; rfl
theorem Own.us {w : World} {B g n c : Nat} {l : List Int} (h : Own w B 5 1 (l.map urow) (.slice (some ⟨g, 0, none⟩) n c)) : Us w (some ⟨g, 0, none⟩) l := by
  obtain ⟨A', c', e, h2⟩ := h.sl
  have e1 : some (⟨g, 0, none⟩ : Addr) = A' := (Value.slice.inj e).1
  rw [← e1] at h2
  exact h2.mono (fun _ _ => trivial)
/-- at the head of a round -/
structure RJ (w : World) (ge gs n R0 : Nat) (nd : List (List Int)) (en : List Int) (R : List (List Nat) × List Int) (wr : World) (st : List Int) (f : Nat) (tt : List (List Nat)) (v : Value) (vs : List Value) : Prop where
  eq : R = (tt ++ (rds nd en f st).1, (rds nd en f st).2)
  zf : zeros st < f
  tz : tt.length + zeros st ≤ n
  sl : st.length = n
  es : Own wr ge 5 1 (en.map urow) (.slice (some ⟨ge, 0, none⟩) n n)
  ss : Own wr gs 5 1 (st.map urow) (.slice (some ⟨gs, 0, none⟩) n n)
  tb : Tbl wr R0 23 3 1 (tt.map (·.map nrow)) v vs
  bw : Below w.heap.size w wr
set_option maxHeartbeats 16000000 in
set_option maxRecDepth 100000 in
theorem rrounds_yes (nd : List (List Int)) (bd : List Int) (A A2 : Option Addr) (c c2 n m : Nat) (w : World) (h : Nds w A nd) (hn : nd.length = n) (hmay : mayN nd = true) (hb : Ints w A2 bd) (hm : bd.length = m) (hok : okB n bd = true) :
    Calls Try.prog 11 #[.slice A n c, .slice A2 m c2] w fun e w' => ∃ v4 vs v5, e = .returned (.tuple #[v4, v5, .int .i64 0]) ∧ Tbl w' w.heap.size 23 3 1 ((rds nd (enOf n bd) (n + 1) (List.replicate n 0)).1.map (·.map nrow)) v4 vs ∧
      Own w' w.heap.size 3 1 ((leftOf (rds nd (enOf n bd) (n + 1) (List.replicate n 0)).2).map nrow) v5 ∧ Below w.heap.size w w' := by
  have hE := enOf_ends n bd
  have hfe : Hid (enOf n bd = enOf n bd) := Lib.hid rfl
  obtain ⟨en, hen⟩ : ∃ en, enOf n bd = en := ⟨_, rfl⟩
  rw [hen] at hE ⊢
  obtain ⟨R, hR⟩ : ∃ R, rds nd en (n + 1) (List.replicate n 0) = R := ⟨_, rfl⟩
  rw [hR]
  replace hR := Lib.hid hR
  replace hen := Lib.hid hen
  obtain ⟨h96, hr0⟩ := may_rng hmay
  have KM := rmay_any nd A c n w h hn
  rw [hmay] at KM
  rw [hn] at h96
  have hbd := Lib.hid fun (k : Nat) (hk : k < bd.length) (X : World) (q : Below w.heap.size w X) => (hb.below q).at_ hk
  have hnd := Lib.hid fun (X : World) (q : Below w.heap.size w X) => h.below q
  have hml := hb.le
  rw [hm] at hml
  have hbu : Hid (∀ k (hk : k < bd.length), 0 ≤ bd[k] ∧ bd[k] < (n : Int)) := Lib.hid fun k hk => by
    unfold okB at hok
    have := List.all_eq_true.1 hok _ (List.getElem_mem hk)
    unfold okU at this
    simpa using this
  have hnle : n ≤ 9223372036854775807 := by omega
  have hmx : Hid (n ≤ maxLen ∧ 1 * n ≤ 281474976710656) := Lib.hid (by unfold maxLen; omega)
  replace hm := Lib.hid hm
  have hn' := hn
  replace hn := Lib.hid hn
  clear h hb hok
  go_enter Try.func11, Try.ntmps11
  go_upto_region 4 with (first
    | (go_at_call 18; (with_reducible refine KM.mono ?_); rintro e w1 ⟨rfl, rfl⟩)
    | (refine wpList_made1 (bytes := 1) (z := .int .u8 0) Try.underlying35 (by kernel_rfl) rfl rfl _ _ rfl n rfl rfl hmx.out.2 hmx.out.1 ?_; intro w1 hf1 hb1))
  rw [← rep_u] at hf1
  obtain ⟨ge, hge⟩ : ∃ g, w.heap.size = g := ⟨_, rfl⟩
  have hf1' : Own w1 ge 5 1 ((List.replicate n (0 : Int)).map urow) (.slice (some ⟨ge, 0, none⟩) n n) := by rw [← hge]; exact hf1
  rw [show (Value.slice (some (⟨w.heap.size, 0, none⟩ : Addr)) n n) = Value.slice (some ⟨ge, 0, none⟩) n n by rw [hge]]
  replace hge := Lib.hid hge
  clear hf1 KM
  have hz1 : Hid ((List.replicate n (1 : Int)).length = n ∧ (List.replicate n (0 : Int)).length = n) := Lib.hid ⟨List.length_replicate, List.length_replicate⟩
  -- all end well ..
  go_upto_region 5 with fail
  go_loopw [8] (fun s8 wr => ∃ j : Nat, j ≤ n ∧ s8 = .int .i64 j ∧ Own wr ge 5 1 (((List.replicate n (1 : Int)).take j ++ (List.replicate n (0 : Int)).drop j).map urow) (.slice (some ⟨ge, 0, none⟩) n n) ∧ Below w.heap.size w wr) (fun s8 _ => n - (intOf s8).toNat)
  case atStart => exact ⟨0, by omega, rfl, by rw [List.take_zero, List.drop_zero, List.nil_append]; exact hf1', hb1⟩
  case round =>
    clear hf1' hb1
    obtain ⟨j, hj, rfl, hf, hbw⟩ := hrel
    obtain ⟨wk, rfl⟩ : ∃ x : World, x = wr := ⟨_, rfl⟩
    by_cases hjn : j = n
    · rw [hjn, List.take_of_length_le (by rw [hz1.out.1]; exact Nat.le_refl _), List.drop_of_length_le (by rw [hz1.out.2]; exact Nat.le_refl _), List.append_nil] at hf
      have hf0 : Own wk ge 5 1 ((enOf n []).map urow) (.slice (some ⟨ge, 0, none⟩) n n) := hf
      have hjn2 := hjn.symm
      subst hjn2
      clear hf hz1
      -- .. but the bad ones
      go_upto_region 9 with fail
      go_loopw [9, 4, 5, 6] (fun s9 s4 s5 s6 wr => ∃ j : Nat, j ≤ m ∧ Value.slice none 0 0 = s4 ∧ Value.slice none 0 0 = s5 ∧ Value.int .i64 0 = s6 ∧ s9 = .int .i64 j ∧ Own wr ge 5 1 ((enOf n (bd.take j)).map urow) (.slice (some ⟨ge, 0, none⟩) n n) ∧ Below w.heap.size w wr) (fun s9 _ _ _ _ => m - (intOf s9).toNat)
      case atStart => exact ⟨0, by omega, rfl, rfl, rfl, rfl, by rw [List.take_zero]; exact hf0, hbw⟩
      case round =>
        clear hf0 hbw
        obtain ⟨j, hj, rfl, rfl, rfl, rfl, hf, hbw⟩ := hrel
        obtain ⟨wk, rfl⟩ : ∃ x : World, x = wr := ⟨_, rfl⟩
        by_cases hjm : j = m
        · rw [hjm, List.take_of_length_le (by rw [hm.out]; exact Nat.le_refl _), hen.out] at hf
          have hjm2 := hjm.symm
          subst hjm2
          clear hbd hbu hm hml
          go_upto_region 16 with (refine wpList_made1 (bytes := 1) (z := .int .u8 0) Try.underlying35 (by kernel_rfl) rfl rfl _ _ rfl n rfl rfl hmx.out.2 hmx.out.1 ?_; intro w2 hs2 hb2)
          rw [← rep_u] at hs2
          obtain ⟨gs, hgs⟩ : ∃ g, wk.heap.size = g := ⟨_, rfl⟩
          have hge2 : Hid (ge < gs ∧ w.heap.size ≤ ge) := Lib.hid ⟨by have := (hf.lt ge rfl).2; omega, by rw [hge.out]; exact Nat.le_refl _⟩
          have hf2 := hf.below hb2
          have hbw2 := hbw.trans (hb2.mono hbw.size)
          rw [hgs] at hs2 ⊢
          have hgs2 : Hid (gs < w2.heap.size) := Lib.hid (hs2.lt gs rfl).2
          obtain ⟨R0, hR0⟩ : ∃ r, w2.heap.size = r := ⟨_, rfl⟩
          have hgR : Hid (gs < R0) := Lib.hid (by rw [← hR0]; exact hgs2.out)
          have hRw : Hid (R0 ≤ w2.heap.size ∧ w.heap.size ≤ R0) := Lib.hid ⟨by rw [hR0]; exact Nat.le_refl _, by rw [← hR0]; exact hbw2.size⟩
          have hz0 := zeros0 n
          have hst0 : (List.replicate n (0 : Int)).length = n := List.length_replicate
          clear hf hb2 hbw hgs2 hR0 hgs
          go_loopw [10] (fun s10 wr => ∃ (v10 : Value) (st : List Int) (f : Nat) (tt : List (List Nat)) (vs : List Value), v10 = s10 ∧ R0 ≤ wr.heap.size ∧ RJ w ge gs n R0 nd en R wr st f tt v10 vs) (fun s10 _ => n - slen s10)
          case atStart => exact ⟨_, List.replicate n 0, n + 1, [], [], rfl, hRw.out.1, ⟨by rw [hR.out]; rfl, by omega, by simp; omega, hst0, hf2, hs2, Tbl.nil _ _ _ _ _, hbw2⟩⟩
          case round =>
            clear hf2 hs2 hbw2 hz0 hst0
            obtain ⟨v10, st, f, tt, vs, rfl, hRk, hI⟩ := hrel
            obtain ⟨wx, rfl⟩ : ∃ x : World, x = wr := ⟨_, rfl⟩
            obtain ⟨A10, c10, hv10, -⟩ := hI.tb.o.sl
            rw [List.length_map, hI.tb.l, List.length_map] at hv10
            replace hv10 := Lib.hid hv10
            have hL : nowOf nd st = (List.range n).filter (fun i => st.getD i 0 == 0 && rdy st (nd.getD i [])) := by unfold nowOf; rw [hn']
            have hrow := Lib.hid fun (X : World) (q : Below wx.heap.size wx X) (k : Nat) (hk : k < nd.length) => (hnd.out X (hI.bw.trans (q.mono hI.bw.size))).2 k hk
            have hus := Lib.hid fun (X : World) (q : Below wx.heap.size wx X) => hI.ss.below q
            have hsl := Lib.hid hI.sl
            have hI' := Lib.hid hI
            clear hI
            go_upto_region 18 with fail
            go_loopw [13, 12] (fun s13 s12 wr => ∃ (k : Nat) (v : Value), v = s12 ∧ k ≤ n ∧ s13 = .int .i64 k ∧ Own wr wx.heap.size 3 1 (((List.range k).filter (fun i => st.getD i 0 == 0 && rdy st (nd.getD i []))).map nrow) v ∧ Below wx.heap.size wx wr) (fun s13 _ _ => n - (intOf s13).toNat)
            case atStart => exact ⟨0, _, rfl, by omega, rfl, Own.nil _ _ _ _, Below.refl _ _⟩
            case round =>
              obtain ⟨k, v, rfl, hk, rfl, hO, hb⟩ := hrel
              obtain ⟨wy, rfl⟩ : ∃ x : World, x = wr := ⟨_, rfl⟩
              by_cases hkn : k = n
              · rw [hkn, ← hL] at hO
                have hkn2 := hkn.symm
                subst hkn2
                clear hrow hus
                by_cases hnow : nowOf nd st = []
                · have hend := rds_end (en := en) (f := f) hnow
                  have hReq := hI'.out.eq
                  rw [hend, List.append_nil] at hReq
                  obtain ⟨A12, c12, hv12, -⟩ := hO.sl
                  rw [hnow, List.map_nil, List.length_nil] at hv12
                  have hv12' := Lib.hid hv12
                  have hv10' := hv10.out
                  replace hReq := Lib.hid hReq
                  have hby := Lib.hid hb
                  clear hv10 hend hnow hR hO hL hb
                  subst hv12
                  subst hv10'
                  go_upto_region 30 with fail
                  clear hv12'
                  go_loopw [16, 15] (fun s16 s15 wr => ∃ (k : Nat) (v5 : Value), v5 = s15 ∧ k ≤ n ∧ s16 = .int .i64 k ∧ Own wr wy.heap.size 3 1 (((List.range k).filter (fun i => st.getD i 0 == 0)).map nrow) v5 ∧ Below wy.heap.size wy wr) (fun s16 _ _ => n - (intOf s16).toNat)
                  case atStart => exact ⟨0, _, rfl, by omega, rfl, Own.nil _ _ _ _, Below.refl _ _⟩
                  case round =>
                    obtain ⟨k, v5, rfl, hk, rfl, hO, hb⟩ := hrel
                    obtain ⟨wk, rfl⟩ : ∃ x : World, x = wr := ⟨_, rfl⟩
                    have hbk := hby.out.trans (hb.mono hby.out.size)
                    by_cases hkn : k = n
                    · have hkn2 := hkn.symm
                      subst hkn2
                      have hfin : Hid (Tbl wk w.heap.size 23 3 1 (R.1.map (·.map nrow)) (.slice A10 tt.length c10) vs ∧ Own wk w.heap.size 3 1 ((leftOf R.2).map nrow) v5 ∧ Below w.heap.size w wk) := Lib.hid (by
                        rw [hReq.out]
                        refine ⟨(hI'.out.tb.below hbk).mono hRw.out.2, ?_, hI'.out.bw.trans (hbk.mono hI'.out.bw.size)⟩
                        unfold leftOf
                        rw [hsl.out]
                        exact hO.mono (Nat.le_trans hI'.out.bw.size hby.out.size))
                      obtain ⟨A', c', l5, rfl⟩ : ∃ A' c' l, v5 = .slice A' l c' := by obtain ⟨A', c', e, -⟩ := hO.sl; exact ⟨A', c', _, e⟩
                      clear hO hb hReq hbk
                      go_wp2
                      go_ret3
                      obtain ⟨g1, g2, g5⟩ := hfin.out
                      exact ⟨_, _, _, rfl, g1, g2, g5⟩
                    · have hlt : k < n := by omega
                      have hkl : k < st.length := by rw [hsl.out]; exact hlt
                      have hs := (hI'.out.ss.below hbk).cell1 (val := fun x => .int .u8 x) (fun _ => rfl) hsl.out hkl
                      have c1 := hs.1
                      have hf := filter_snoc (fun i => st.getD i 0 == 0) k
                      have hfl := Lib.hid (filter_le (fun i => st.getD i 0 == 0) k)
                      rw [getD_at hkl] at hf
                      generalize hQ : (List.range k).filter (fun i => st.getD i 0 == 0) = Q at *
                      generalize hQ2 : (List.range (k + 1)).filter (fun i => st.getD i 0 == 0) = Q2 at *
                      replace hQ2 := Lib.hid hQ2
                      generalize st[k] = x at *
                      have hsz := Lib.hid hb.size
                      by_cases hx : x = 0
                      · subst hx
                        have hf' : Hid (Q2 = Q ++ [k]) := Lib.hid (by simpa using hf)
                        have hb' := Lib.hid hb
                        clear hf hQ hs hb hReq hbk
                        go_wp2_with (at_builtin; refine wpList_push el23 rfl _ _ rfl rfl (hO.alloc _) [.int .i64 k] wk.heap.size 3 rfl (heap_alloc_at _ _) rfl (by simp [Value.oneCell']) (by have := hfl.out; rw [List.length_map]; omega) (by have := hsz.out; rw [size_al]; omega) ?_; intro v' w6 ho6 hb6 hs6 _ _)
                        have e1 : Q.map nrow ++ [[.int .i64 k]] = Q2.map nrow := by rw [hf'.out, List.map_append]; rfl
                        rw [e1] at ho6
                        have hb7 := Lib.hid (((below_al hb'.out _)).trans hb6)
                        clear hO hb6 hs6 e1
                        go_roundw
                        case rel => exact ⟨k + 1, _, rfl, by omega, by go_num, by rw [hQ2.out]; exact ho6, hb7.out⟩
                        case measure => first | (simp [intOf]; done) | (simp [intOf]; omega)
                      · have hf' : Hid (Q2 = Q) := Lib.hid (by rw [hf]; simp [hx])
                        have hx' : (x == 0) = false := by simpa using hx
                        clear hf hQ hs hReq hbk
                        go_wp2
                        go_roundw
                        case rel => exact ⟨k + 1, _, rfl, by omega, by go_num, by rw [hQ2.out, hf'.out]; exact hO, hb⟩
                        case measure => first | (simp [intOf]; done) | (simp [intOf]; omega)
                · obtain ⟨q, hq⟩ : ∃ q, (nowOf nd st).length = q := ⟨_, rfl⟩
                  have hq0 : 0 < q := by rw [← hq]; exact List.length_pos_iff.2 hnow
                  have hqn : q ≤ n := by rw [← hq, ← hn']; exact now_len nd st
                  have hzs := zeros_step hE hn' hI'.out.sl
                  have hfz := hI'.out.zf
                  have htz := hI'.out.tz
                  obtain ⟨f', hf'⟩ : ∃ f', f = f' + 1 := ⟨f - 1, by omega⟩
                  have hReq := hI'.out.eq
                  rw [hf', rds_go hnow] at hReq
                  have hsl' : (putAll en st (nowOf nd st)).length = n := by rw [putAll_length]; exact hI'.out.sl
                  have hnm : Hid (∀ i ∈ nowOf nd st, i < n) := Lib.hid fun i hi => by have := (nowOf_mem.1 hi).1; omega
                  obtain ⟨L0, hL0⟩ : ∃ L, nowOf nd st = L := ⟨_, rfl⟩
                  rw [hL0] at hnm hReq hsl' hq hzs hO
                  obtain ⟨g12, c12, hv12, hg12, -, -⟩ := hO.form (by rw [List.length_map, hq]; exact hq0)
                  rw [List.length_map, hq] at hv12
                  subst hv12
                  have hq' := hq
                  rw [hq] at hzs
                  replace hq := Lib.hid hq
                  have hes := Lib.hid (hI'.out.es.below hb)
                  have hss := hI'.out.ss.below hb
                  have hO' := Lib.hid hO
                  have hby := Lib.hid hb
                  have hgR2 : Hid (gs < wx.heap.size) := Lib.hid (by have := hgR.out; omega)
                  have hfq := Lib.hid hf'
                  have hzs' := Lib.hid hzs
                  have hReq' := Lib.hid hReq
                  have hslp := Lib.hid hsl'
                  clear hL hR hnow hL0 hO hb hf' hzs hReq hsl' hq'
                  go_upto_region 24 with fail
                  go_loopw [14] (fun s14 wr => ∃ m2 : Nat, m2 ≤ q ∧ s14 = .int .i64 m2 ∧ Own wr gs 5 1 ((putAll en st (L0.take m2)).map urow) (.slice (some ⟨gs, 0, none⟩) n n) ∧ Fr wy.heap.size (fun b => b = gs) wy wr) (fun s14 _ => q - (intOf s14).toNat)
                  case atStart => exact ⟨0, by omega, rfl, by rw [List.take_zero]; exact hss, Fr.refl _ _ _⟩
                  case round =>
                    clear hss
                    obtain ⟨m2, hm2, rfl, hS, hX⟩ := hrel
                    obtain ⟨wz, rfl⟩ : ∃ x : World, x = wr := ⟨_, rfl⟩
                    have hOz := hO'.out.keep (w' := wz) (fun b e => hX.k b (hO'.out.lt b e).2 (fun e2 => by have e3 : g12 = b := Option.some.inj e; have := hgR2.out; omega))
                    by_cases hmq : m2 = q
                    · have hmq2 := hmq.symm
                      subst hmq2
                      rw [List.take_of_length_le (by rw [hq.out]; exact Nat.le_refl _)] at hS
                      have hk1 : ∀ g, R0 ≤ g → g < wx.heap.size → wz.heap[g]? = wx.heap[g]? := fun g h1 h2 => by
                        rw [hX.k g (by have := hby.out.size; omega) (fun e => by have := hgR.out; omega)]
                        exact hby.out.block g h2
                      have hTo := hI'.out.tb.o.keep (w' := wz) (fun g e => hk1 g (hI'.out.tb.o.lt g e).1 (hI'.out.tb.o.lt g e).2)
                      have hesz := Lib.hid (hes.out.keep (w' := wz) (fun b e => hX.k b (hes.out.lt b e).2 (fun e2 => by have e3 : ge = b := Option.some.inj e; have := hge2.out; omega)))
                      have hsxz : Hid (wx.heap.size ≤ wz.heap.size) := Lib.hid (Nat.le_trans hby.out.size hX.size)
                      have hvl : Hid ((vs.map fun x => [x]).length ≤ n) := Lib.hid (by rw [List.length_map, hI'.out.tb.l, List.length_map]; have := hI'.out.tz; omega)
                      have hbz : Hid (Below w.heap.size w wz) := Lib.hid (hI'.out.bw.trans ((hby.out.mono hI'.out.bw.size).trans (hX.below (Nat.le_trans hI'.out.bw.size hby.out.size) (fun b e => by have := hge2.out; omega))))
                      have hSz := Lib.hid hS
                      have hOz' := Lib.hid hOz
                      have hk1' := Lib.hid hk1
                      have hv10' := hv10.out
                      clear hX hS hOz hk1 hmq
                      clear hv10
                      subst hv10'
                      go_upto_region 16 with (first
                        | (at_builtin; refine wpList_push_at el22 rfl _ _ rfl rfl (hTo.alloc _) [.slice (some ⟨g12, 0, none⟩) q c12] wz.heap.size 23 rfl (heap_alloc_at _ _) rfl (by simp [Value.oneCell']) (by have := hvl.out; omega) (by have := hsxz.out; rw [size_al]; omega) ?_; intro v4' wa hoa hba hsa _ hga hata))
                      have hRk' := Lib.hid hRk
                      have hT2 : Tbl wa R0 23 3 1 ((tt ++ [L0]).map (·.map nrow)) v4' (vs ++ [.slice (some ⟨g12, 0, none⟩) q c12]) := by
                        rw [List.map_append]
                        exact hI'.out.tb.push2 hk1'.out hsxz.out hOz'.out hRk (below_al (Below.refl wz.heap.size wz) _) hoa hga hata
                      have hbxa : Below R0 wz wa := ((below_al (Below.refl wz.heap.size wz) _).mono (Nat.le_trans hRk hsxz.out)).trans hba
                      have hea := hesz.out.keep (w' := wa) fun b e => hbxa.block b (by have e : ge = b := Option.some.inj e; have := hge2.out; have := hgR.out; omega)
                      have hsa2 := hSz.out.keep (w' := wa) fun b e => hbxa.block b (by have e : gs = b := Option.some.inj e; have := hgR.out; omega)
                      have hm1 : Hid (slen v4' = tt.length + 1) := Lib.hid (by
                        obtain ⟨A', c', e, -⟩ := hT2.o.sl
                        rw [e]
                        show (List.map (fun x => [x]) (vs ++ [Value.slice (some ⟨g12, 0, none⟩) q c12])).length = _
                        have := hI'.out.tb.l
                        simp at this ⊢
                        exact this)
                      have hfin : Hid (RJ w ge gs n R0 nd en R wa (putAll en st L0) f' (tt ++ [L0]) v4' (vs ++ [.slice (some ⟨g12, 0, none⟩) q c12])) := Lib.hid
                        ⟨by rw [hReq'.out, List.append_assoc]; rfl, by have := hfq.out; have := hzs'.out; omega, by have := hzs'.out; rw [List.length_append, List.length_singleton]; omega, hslp.out, hea, hsa2, hT2, hbz.out.trans (hbxa.mono hRw.out.2)⟩
                      have hRa : Hid (R0 ≤ wa.heap.size) := Lib.hid (Nat.le_trans (Nat.le_trans hRk hsxz.out) hbxa.size)
                      clear hT2 hbxa hea hsa2 hoa hba hsa hga hata hTo
                      go_wp2
                      go_roundw
                      case rel => exact ⟨_, putAll en st L0, f', tt ++ [L0], _, rfl, hRa.out, hfin.out⟩
                      case measure =>
                        show n - slen v4' < n - tt.length
                        have h1 := hzs'.out
                        rw [hm1.out]
                        omega
                    · have hmlt : m2 < q := by omega
                      have hml : m2 < L0.length := by rw [hq.out]; exact hmlt
                      have cn := (hOz.cell1 (row := nrow) (val := fun x : Nat => .int .i64 x) (fun _ => rfl) hq.out hml).1
                      have hin := hnm.out _ (List.getElem_mem hml)
                      have hez := hes.out.keep (w' := wz) (fun b e => hX.k b (hes.out.lt b e).2 (fun e2 => by have e3 : ge = b := Option.some.inj e; have := hge2.out; omega))
                      have hsn := put_snoc en st (L0.take m2) L0[m2]
                      rw [List.take_append_getElem hml] at hsn
                      have hpl : (putAll en st (L0.take m2)).length = n := by rw [putAll_length]; exact hsl.out
                      generalize L0[m2] = i at *
                      have hie : i < en.length := by rw [hE.1]; exact hin
                      have ce := (hez.cell1 (val := fun x => .int .u8 x) (fun _ => rfl) hE.1 hie).1
                      have hgd : en.getD i 0 = en[i] := by simp [List.getD_eq_getElem?_getD, hie]
                      rw [hgd] at hsn
                      generalize en[i] = x at *
                      obtain ⟨cs, fs⟩ := hS.cell1 (val := fun x => .int .u8 x) (fun _ => rfl) hpl (k := i) (by rw [hpl]; exact hin)
                      generalize (putAll en st (L0.take m2))[i] = old at *
                      have hset := Lib.hid (hS.put1 (val := fun x => .int .u8 x) (fun _ => rfl) hpl hin x)
                      have hXs := Lib.hid (hX.set (p := ⟨gs, i, none⟩) (fun _ => rfl) (.int .u8 x))
                      have hsn' := Lib.hid hsn
                      have hin' : (i : Int) < (n : Int) := by omega
                      clear hS hX hsn hOz hez hgd hpl
                      go_upto_region 26 with fail
                      go_region
                      go_wp2
                      go_roundw
                      case rel => exact ⟨m2 + 1, by omega, by go_num, by rw [hsn'.out]; exact (hset.out.keep (fun _ _ => rfl)), hXs.out.drewN 1⟩
                      case measure => first | (simp [intOf]; done) | (simp [intOf]; omega)
              · have hlt : k < n := by omega
                have hkl : k < st.length := by rw [hsl.out]; exact hlt
                have hkd : k < nd.length := by rw [hn.out]; exact hlt
                obtain ⟨bb, oo, Ak, ck, rfl, -, cc, hI2, -⟩ := hrow.out wy hb k hkd
                have hU := hus.out wy hb
                have c1 := (hU.cell1 (val := fun x => .int .u8 x) (fun _ => rfl) hsl.out hkl).1
                have hrk := hr0 _ (List.getElem_mem hkd)
                rw [hn'] at hrk
                have KRd := rready_any nd[k] st Ak (some ⟨gs, 0, none⟩) ck n nd[k].length n wy hI2 hU.us rfl hsl.out hrk
                have hf := filter_snoc (fun i => st.getD i 0 == 0 && rdy st (nd.getD i [])) k
                have hfl := Lib.hid (filter_le (fun i => st.getD i 0 == 0 && rdy st (nd.getD i [])) k)
                have hgd : nd.getD k [] = nd[k] := by simp [List.getD_eq_getElem?_getD, hkd]
                rw [getD_at hkl, hgd] at hf
                generalize hQ : (List.range k).filter (fun i => st.getD i 0 == 0 && rdy st (nd.getD i [])) = Q at *
                generalize hQ2 : (List.range (k + 1)).filter (fun i => st.getD i 0 == 0 && rdy st (nd.getD i [])) = Q2 at *
                replace hQ2 := Lib.hid hQ2
                generalize rdy st nd[k] = rd at *
                generalize nd[k].length = lk at *
                generalize st[k] = x at *
                have hsz := Lib.hid hb.size
                clear hI2 hU hgd hrow hus hrk hQ hL
                by_cases hx : x = 0
                · subst hx
                  cases rd with
                  | true =>
                    have hf' : Hid (Q2 = Q ++ [k]) := Lib.hid (by simpa using hf)
                    have hb' := Lib.hid hb
                    clear hf hb
                    go_wp2_with (first
                      | (go_at_call 36; (with_reducible refine KRd.mono ?_); rintro e wq ⟨rfl, rfl⟩)
                      | (at_builtin; refine wpList_push el23 rfl _ _ rfl rfl (hO.alloc _) [.int .i64 k] wy.heap.size 3 rfl (heap_alloc_at _ _) rfl (by simp [Value.oneCell']) (by have := hfl.out; rw [List.length_map]; omega) (by have := hsz.out; rw [size_al]; omega) ?_; intro v' w6 ho6 hb6 hs6 _ _))
                    have e1 : Q.map nrow ++ [[.int .i64 k]] = Q2.map nrow := by rw [hf'.out, List.map_append]; rfl
                    rw [e1] at ho6
                    have hb7 := Lib.hid (((below_al hb'.out _)).trans hb6)
                    clear hO hb6 hs6 e1
                    go_roundw
                    case rel => exact ⟨k + 1, _, rfl, by omega, by go_num, by rw [hQ2.out]; exact ho6, hb7.out⟩
                    case measure => first | (simp [intOf]; done) | (simp [intOf]; omega)
                  | false =>
                    have hf' : Hid (Q2 = Q) := Lib.hid (by simpa using hf)
                    clear hf
                    go_wp2_with (go_at_call 36; (with_reducible refine KRd.mono ?_); rintro e wq ⟨rfl, rfl⟩)
                    go_roundw
                    case rel => exact ⟨k + 1, _, rfl, by omega, by go_num, by rw [hQ2.out, hf'.out]; exact hO, hb⟩
                    case measure => first | (simp [intOf]; done) | (simp [intOf]; omega)
                · have hf' : Hid (Q2 = Q) := Lib.hid (by rw [hf]; simp [hx])
                  have hx' : (x == 0) = false := by simpa using hx
                  clear hf KRd
                  go_wp2
                  go_roundw
                  case rel => exact ⟨k + 1, _, rfl, by omega, by go_num, by rw [hQ2.out, hf'.out]; exact hO, hb⟩
                  case measure => first | (simp [intOf]; done) | (simp [intOf]; omega)
        · have hlt : j < m := by omega
          have hjl : j < bd.length := by rw [hm.out]; exact hlt
          obtain ⟨b, o, rfl, -, cb⟩ := hbd.out j hjl wk hbw
          obtain ⟨u0, u1⟩ := hbu.out j hjl
          have hsn := en_snoc n (bd.take j) bd[j]
          rw [List.take_append_getElem hjl] at hsn
          have hfl := (enOf_ends n (bd.take j)).1
          generalize bd[j] = u at *
          obtain ⟨v, rfl⟩ := Int.eq_ofNat_of_zero_le u0
          rw [Int.toNat_natCast] at hsn
          have hvn : v < n := by omega
          have hset := Lib.hid (hf.put1 (val := fun x => .int .u8 x) (fun _ => rfl) hfl hvn 2)
          obtain ⟨c1, f1⟩ := hf.cell1 (val := fun x => .int .u8 x) (fun _ => rfl) hfl (k := v) (by rw [hfl]; exact hvn)
          generalize (enOf n (bd.take j))[v] = old at *
          have hsn' := Lib.hid hsn
          have hbw' := Lib.hid (hbw.setCell (p := ⟨ge, v, none⟩) (by show w.heap.size ≤ ge; rw [hge.out]; exact Nat.le_refl _) (.int .u8 2))
          clear hsn hf hbw
          go_wp2
          go_roundw
          case rel => exact ⟨j + 1, by omega, rfl, rfl, rfl, by go_num, by rw [hsn'.out]; exact hset.out, hbw'.out⟩
          case measure => first | (simp [intOf]; done) | (simp [intOf]; omega)
    · have hlt : j < n := by omega
      have hls : j < (List.replicate n (1 : Int)).length := by rw [hz1.out.1]; exact hlt
      have hlz : j < (List.replicate n (0 : Int)).length := by rw [hz1.out.2]; exact hlt
      have hmix := mix_set (a := List.replicate n (0 : Int)) (b := List.replicate n (1 : Int)) hlz hls
      rw [List.getElem_replicate] at hmix
      have hlen : ((List.replicate n (1 : Int)).take j ++ (List.replicate n (0 : Int)).drop j).length = n := by
        rw [List.length_append, List.length_take, List.length_drop, hz1.out.1, hz1.out.2]; omega
      have hset := Lib.hid (hf.put1 (val := fun x => .int .u8 x) (fun _ => rfl) hlen hlt 1)
      rw [hmix] at hset
      obtain ⟨c1, f1⟩ := hf.cell1 (val := fun x => .int .u8 x) (fun _ => rfl) hlen (k := j) (by rw [hlen]; exact hlt)
      generalize ((List.replicate n (1 : Int)).take j ++ (List.replicate n (0 : Int)).drop j)[j] = old at *
      have hbw' := Lib.hid (hbw.setCell (p := ⟨ge, j, none⟩) (by show w.heap.size ≤ ge; rw [hge.out]; exact Nat.le_refl _) (.int .u8 1))
      clear hf hbw hmix hlen hls hlz
      go_wp2
      go_roundw
      case rel => exact ⟨j + 1, by omega, by go_num, hset.out, hbw'.out⟩
      case measure => first | (simp [intOf]; done) | (simp [intOf]; omega)
end Go.Proofs.Ytcioejamohjdgaa
