/- Crowd: a task has ended: the program's ended, walked. -/
import Derived.Test.YtcioejamohjdgaaBd0
namespace Go.Proofs.Ytcioejamohjdgaa
open Go.RowKit Go.BigFrame

theorem Bd.setl {w : World} {P ps pl pa n : Nat} {xs : List Value} {st lk : List Int} {ab : List (List Nat)} (h : Bd w P ps pl pa n xs st lk ab) {k : Nat} (hk : k < n) (x : Int) :
    Bd (w.setCell ⟨pl, k, none⟩ (.int .i64 x)) P ps pl pa n xs st (lk.set k x) ab := by
  obtain ⟨l1, l2, l3, l4, l5, l6, l7, l8, l9⟩ := h.lo
  have hf : ∀ b, b ≠ pl → (w.setCell ⟨pl, k, none⟩ (.int .i64 x)).heap[b]? = w.heap[b]? := fun b hb => Below.heap_setCell _ _ _ b hb
  refine ⟨(hf _ (by omega)).trans h.hb, h.s.keep fun b e => hf b ?_, h.l.put1 (val := fun x => .int .i64 x) (fun _ => rfl) h.nl hk x, h.a.keep fun b e => hf b ?_, h.ns, by rw [List.length_set]; exact h.nl, h.na, h.nb, fun j y t h1 h2 => (h.r j y t h1 h2).keep fun b e => hf b ?_, h.dd, h.lo⟩
  · have e : ps = b := Option.some.inj e
    omega
  · have e : pa = b := Option.some.inj e
    omega
  · have := ((h.r j y t h1 h2).lt b e).1
    omega
theorem Bd.sets {w : World} {P ps pl pa n : Nat} {xs : List Value} {st lk : List Int} {ab : List (List Nat)} (h : Bd w P ps pl pa n xs st lk ab) {k : Nat} (hk : k < n) (x : Int) :
    Bd (w.setCell ⟨ps, k, none⟩ (.int .u8 x)) P ps pl pa n xs (st.set k x) lk ab := by
  obtain ⟨l1, l2, l3, l4, l5, l6, l7, l8, l9⟩ := h.lo
  have hf : ∀ b, b ≠ ps → (w.setCell ⟨ps, k, none⟩ (.int .u8 x)).heap[b]? = w.heap[b]? := fun b hb => Below.heap_setCell _ _ _ b hb
  refine ⟨(hf _ (by omega)).trans h.hb, h.s.put1 (val := fun x => .int .u8 x) (fun _ => rfl) h.ns hk x, h.l.keep fun b e => hf b ?_, h.a.keep fun b e => hf b ?_, by rw [List.length_set]; exact h.ns, h.nl, h.na, h.nb, fun j y t h1 h2 => (h.r j y t h1 h2).keep fun b e => hf b ?_, h.dd, h.lo⟩
  · have e : pl = b := Option.some.inj e
    omega
  · have e : pa = b := Option.some.inj e
    omega
  · have := ((h.r j y t h1 h2).lt b e).1
    omega
/-- all of it lies below H -/
def Top (H P : Nat) (xs : List Value) : Prop := P + 3 < H ∧ ∀ (k : Nat) (x : Value), xs[k]? = some x → ∀ b : Nat, x.ownBlock = some b → b < H
theorem Bd.top {w : World} {P ps pl pa n : Nat} {xs : List Value} {st lk : List Int} {ab : List (List Nat)} (h : Bd w P ps pl pa n xs st lk ab) : Top w.heap.size P xs :=
  ⟨heap_lt h.hb, fun k x hx b hb => by
    have hk : k < ab.length := by rw [h.nb, ← h.na]; exact (List.getElem?_eq_some_iff.1 hx).1
    exact ((h.r k x _ hx (List.getElem?_eq_getElem hk)).lt b hb).2⟩
theorem Bd.keepT {w w' : World} {P ps pl pa n H : Nat} {xs : List Value} {st lk : List Int} {ab : List (List Nat)} (h : Bd w P ps pl pa n xs st lk ab) (hT : Top H P xs) (hk : ∀ b, b < H → w'.heap[b]? = w.heap[b]?) : Bd w' P ps pl pa n xs st lk ab := by
  obtain ⟨l1, l2, l3, l4, l5, l6, l7, l8, l9⟩ := h.lo
  have hH := hT.1
  refine ⟨(hk _ hH).trans h.hb, h.s.keep fun b e => hk b ?_, h.l.keep fun b e => hk b ?_, h.a.keep fun b e => hk b ?_, h.ns, h.nl, h.na, h.nb, fun j y t h1 h2 => (h.r j y t h1 h2).keep fun b e => hk b (hT.2 j y h1 b e), h.dd, h.lo⟩
  · have e : ps = b := Option.some.inj e
    omega
  · have e : pl = b := Option.some.inj e
    omega
  · have e : pa = b := Option.some.inj e
    omega
theorem decs_snoc (p : List Int × List Nat) (ks : List Nat) (k : Nat) : decs p (ks ++ [k]) = dec1 (decs p ks) k := by unfold decs; rw [List.foldl_append]; rfl
theorem decs_len2 : ∀ (ks : List Nat) (p : List Int × List Nat), (decs p ks).2.length ≤ p.2.length + ks.length
  | [], p => by simp [decs]
  | k :: ks, p => by
    have := decs_len2 ks (dec1 p k)
    show (decs (dec1 p k) ks).2.length ≤ _
    have e : (dec1 p k).2.length ≤ p.2.length + 1 := by
      unfold dec1
      simp only
      split <;> simp
    simp only [List.length_cons]
    omega
/-- what of a task's end: who lacks how many, who is ready by that -/
def endq (s : Int) (lk : List Int) (ks : List Nat) : List Int × List Nat := if s = 1 then decs (lk, []) ks else (lk, [])
set_option maxHeartbeats 4000000 in
theorem ended_any {w : World} {P ps pl pa n : Nat} {xs : List Value} {st lk : List Int} {ab : List (List Nat)} (h : Bd w P ps pl pa n xs st lk ab) {i : Nat} (hi : i < n) (s : Int) (ks : List Nat) (hks : ab.getD i [] = ks) (hin : ∀ k ∈ ks, k < n)
    (hlk : ∀ k, k < n → (ks.count k : Int) ≤ lk.getD k 0 ∧ lk.getD k 0 ≤ 1048576) (hkl : ks.length ≤ 1048576) :
    Calls Try.prog 40 #[.pointer (some ⟨P + 3, 0, none⟩), .int .i64 i, .int .u8 s] w fun e w' => ∃ v, e = .returned v ∧ Bd w' P ps pl pa n xs (st.set i s) (endq s lk ks).1 ab ∧ Own w' w.heap.size 3 1 ((endq s lk ks).2.map nrow) v ∧ Fr w.heap.size (fun b => b = ps ∨ b = pl) w w' := by
  have hc := h.c0
  have his : i < st.length := by rw [h.ns]; exact hi
  have hss := h.s.cell1 (val := fun x => .int .u8 x) (fun _ => rfl) h.ns his
  generalize st[i] = old at *
  obtain ⟨c1, c2⟩ := hss
  obtain ⟨y0, -, -⟩ := hc
  have hB1 := Lib.hid (h.sets hi s)
  have hF1 := Lib.hid ((Fr.refl w.heap.size (fun b => b = ps ∨ b = pl) w).set (p := ⟨ps, i, none⟩) (fun _ => Or.inl rfl) (.int .u8 s))
  have hps : Hid (ps < w.heap.size ∧ pl < w.heap.size) := Lib.hid ⟨(h.s.lt ps rfl).2, (h.l.lt pl rfl).2⟩
  have hTp := Lib.hid h.top
  have hi' : (i : Int) < (n : Int) := by omega
  by_cases hs : s = 1
  · subst hs
    have hq : endq 1 lk ks = decs (lk, []) ks := rfl
    rw [hq]
    clear hq
    -- the row of those who wait
    have hib : i < ab.length := by rw [h.nb]; exact hi
    have hix : i < xs.length := by rw [h.na]; exact hi
    have hki : ab[i]? = some ks := by rw [List.getElem?_eq_getElem hib]; rw [List.getD_eq_getElem?_getD, List.getElem?_eq_getElem hib] at hks; exact congrArg some hks
    obtain ⟨x0, hx0⟩ : ∃ x, xs[i]? = some x := ⟨_, List.getElem?_eq_getElem hix⟩
    have hr0 := h.r i x0 ks hx0 hki
    obtain ⟨A0, d0, hxv, -⟩ := hr0.sl
    rw [List.length_map] at hxv
    obtain ⟨q, hq⟩ : ∃ q, ks.length = q := ⟨_, rfl⟩
    rw [hq] at hxv hkl
    subst hxv
    have hrow := Lib.hid fun (X : World) (D1 : List Int) (s1 : List Int) (hX : Bd X P ps pl pa n xs s1 D1 ab) (m : Nat) (hm : m < ks.length) => (by
      have hr := hX.r i _ ks hx0 hki
      obtain ⟨g, c', hv, hg1, -, -⟩ := hr.form (by rw [List.length_map]; omega)
      rw [List.length_map, hq] at hv
      have hA : A0 = some ⟨g, 0, none⟩ := (Value.slice.inj hv).1
      subst hA
      exact ⟨g, rfl, (hr.cell1 (row := nrow) (val := fun x : Nat => .int .i64 x) (fun _ => rfl) hq hm).1⟩ : ∃ g, A0 = some ⟨g, 0, none⟩ ∧ X.cell? ⟨g, m, none⟩ = some (.int .i64 ks[m]))
    have hcell := Lib.hid fun (X : World) (D1 s1 : List Int) (hX : Bd X P ps pl pa n xs s1 D1 ab) => (by
      have := (hX.a.cell1 (row := fun x => [x]) (val := fun x => x) (fun _ => rfl) hX.na hix).1
      rw [List.getElem?_eq_getElem hix] at hx0
      rw [Option.some.inj hx0] at this
      exact this : X.cell? ⟨pa, i, none⟩ = some (.slice A0 q d0))
    have hval : Hid (∀ m (hm : m < ks.length), ks[m] < n ∧ 1 ≤ (decs (lk, []) (ks.take m)).1.getD ks[m] 0 ∧ (decs (lk, []) (ks.take m)).1.getD ks[m] 0 ≤ 1048576) := Lib.hid fun m hm => by
      have hkn := hin _ (List.getElem_mem hm)
      refine ⟨hkn, ?_⟩
      rw [decs_get _ _ _ (fun k hk => by have := hin k (List.mem_of_mem_take hk); show k < lk.length; rw [h.nl]; exact this)]
      show 1 ≤ lk.getD _ 0 - _ ∧ lk.getD _ 0 - _ ≤ _
      have h1 := hlk _ hkn
      have h2 : (ks.take m).count ks[m] + 1 ≤ ks.count ks[m] := by
        have e : ks = ks.take m ++ ks[m] :: ks.drop (m + 1) := by rw [← List.drop_eq_getElem_cons hm, List.take_append_drop]
        have e2 : ks.count ks[m] = (ks.take m ++ ks[m] :: ks.drop (m + 1)).count ks[m] := congrArg (fun l => List.count ks[m] l) e
        rw [e2, List.count_append, List.count_cons_self]; omega
      omega
    replace hq := Lib.hid hq
    clear h hr0 hki hx0 hlk hin hks
    go_enter Try.func40, Try.ntmps40
    go_upto_region 5 with fail
    clear y0 c1 c2
    have hc1 := hB1.out.c0
    obtain ⟨y0, y1, y2⟩ := hc1
    have y3 := hcell.out _ _ _ hB1.out
    go_upto_region 6 with fail
    clear y0 y1 y2 y3
    generalize w.setCell ⟨ps, i, none⟩ (.int .u8 1) = w1 at *
    go_loopw [27, 7] (fun s27 s7 wr => ∃ (m : Nat) (v : Value), v = s7 ∧ m ≤ q ∧ s27 = .int .i64 m ∧ Bd wr P ps pl pa n xs (st.set i 1) (decs (lk, []) (ks.take m)).1 ab ∧ Own wr w.heap.size 3 1 ((decs (lk, []) (ks.take m)).2.map nrow) v ∧ Fr w.heap.size (fun b => b = ps ∨ b = pl) w wr) (fun s27 _ _ => q - (intOf s27).toNat)
    case atStart => exact ⟨0, _, rfl, by omega, rfl, by rw [List.take_zero]; exact hB1.out, by rw [List.take_zero]; exact Own.nil _ _ _ _, hF1.out⟩
    case round =>
      clear hB1 hF1 hcell
      obtain ⟨m, v, rfl, hm, rfl, hB, hO, hF⟩ := hrel
      obtain ⟨wk, rfl⟩ : ∃ x : World, x = wr := ⟨_, rfl⟩
      by_cases hmq : m = q
      · subst hmq
        rw [List.take_of_length_le (by rw [hq.out]; exact Nat.le_refl _)] at hB hO
        clear hrow hval
        obtain ⟨A', c', rfl, -⟩ := hO.sl
        replace hO := Lib.hid hO
        replace hB := Lib.hid hB
        replace hF := Lib.hid hF
        go_wp2
        go_ret
        exact ⟨_, rfl, hB.out, hO.out, hF.out⟩
      · have hlt : m < q := by omega
        have hml : m < ks.length := by rw [hq.out]; exact hlt
        obtain ⟨g, rfl, ck⟩ := hrow.out wk _ _ hB m hml
        obtain ⟨v1, v2, v3⟩ := hval.out m hml
        have hsn := decs_snoc (lk, []) (ks.take m) ks[m]
        rw [List.take_append_getElem hml] at hsn
        have hl2 := decs_len2 (ks.take m) (lk, [])
        have hl3 : (ks.take m).length ≤ m := by rw [List.length_take]; omega
        obtain ⟨D1, hD1⟩ : ∃ D, (decs (lk, []) (ks.take m)).1 = D := ⟨_, rfl⟩
        obtain ⟨D2, hD2⟩ : ∃ D, (decs (lk, []) (ks.take m)).2 = D := ⟨_, rfl⟩
        unfold dec1 at hsn
        rw [hD1] at hB v2 v3 hsn
        rw [hD2] at hO hl2 hsn
        generalize ks[m] = k at *
        have hkl1 : k < D1.length := by rw [hB.nl]; exact v1
        obtain ⟨l1, l2⟩ := hB.l.cell1 (val := fun x => .int .i64 x) (fun _ => rfl) hB.nl hkl1
        have hgd := getD_at hkl1
        rw [hgd] at v2 v3 hsn
        have hset := Lib.hid (hB.setl v1 (D1[k] - 1))
        have hFs := Lib.hid (hF.set (p := ⟨pl, k, none⟩) (fun _ => Or.inr rfl) (.int .i64 (D1[k] - 1)))
        have hOs := Lib.hid (hO.keep (w' := wk.setCell ⟨pl, k, none⟩ (.int .i64 (D1[k] - 1))) (fun b e => Below.heap_setCell _ _ _ b (fun e2 => by
          have e3 : b = pl := e2
          have := (hO.lt b e).1
          have := hps.out.2
          omega)))
        obtain ⟨y0, y1, y2⟩ := hB.c0
        have hD2l : Hid (D2.length ≤ 1048576) := Lib.hid (by have e : ((lk, []) : List Int × List Nat).2.length = 0 := rfl; omega)
        have zl := (hset.out.l.cell1 (val := fun x => .int .i64 x) (fun _ => rfl) hset.out.nl (k := k) (by rw [List.length_set]; exact hkl1)).1
        rw [List.getElem_set_self] at zl
        generalize D1[k] = x at *
        have hv1 : (k : Int) < (n : Int) := by omega
        have hw64 : wrap64 (x - 1) = x - 1 := by unfold wrap64; omega
        obtain ⟨z0, z1, z2⟩ := hset.out.c0
        replace hsn := Lib.hid hsn
        clear hB hO hF hrow hval hgd hl2 hl3 hkl1 hmq hD1 hD2
        have hsz := Lib.hid hFs.out.size
        by_cases hx : x - 1 = 0
        · have hx' : (x - 1 == 0) = true := by simpa using hx
          have hsn' : Hid (decs (lk, []) (ks.take (m + 1)) = (D1.set k (x - 1), D2 ++ [k])) := Lib.hid (by rw [hsn.out, if_pos hx])
          clear hsn hx
          go_upto_region 10 with fail
          generalize wk.setCell ⟨pl, k, none⟩ (.int .i64 (x - 1)) = w2 at *
          have hO2 := hOs.out
          go_wp2_with (at_builtin; refine wpList_push el23 rfl _ _ rfl rfl (hO2.alloc _) [.int .i64 k] w2.heap.size 3 rfl (heap_alloc_at _ _) rfl (by simp [Value.oneCell']) (by have := hD2l.out; rw [List.length_map]; omega) (by have := hsz.out; rw [size_al]; omega) ?_; intro v' w6 ho6 hb6 hs6 _ _)
          have e1 : D2.map nrow ++ [[.int .i64 k]] = (D2 ++ [k]).map nrow := by rw [List.map_append]; rfl
          rw [e1] at ho6
          have hb26 : Below w.heap.size w2 w6 := ((below_al (Below.refl w2.heap.size w2) _).mono hsz.out).trans hb6
          have hB6 : Bd w6 P ps pl pa n xs (st.set i 1) (D1.set k (x - 1)) ab := hset.out.keepT hTp.out fun b hb => hb26.block b hb
          have hF6 := hFs.out.trans (Fr.of hb26)
          clear hb6 hs6 e1 hO2
          go_roundw
          case rel => exact ⟨m + 1, _, rfl, by omega, by go_num, by rw [hsn'.out]; exact hB6, by rw [hsn'.out]; exact ho6, hF6⟩
          case measure => first | (simp [intOf]; done) | (simp [intOf]; omega)
        · have hx' : (x - 1 == 0) = false := by simpa using hx
          have hsn' : Hid (decs (lk, []) (ks.take (m + 1)) = (D1.set k (x - 1), D2)) := Lib.hid (by rw [hsn.out, if_neg hx])
          clear hsn hx
          go_wp2
          go_roundw
          case rel => exact ⟨m + 1, _, rfl, by omega, by go_num, by rw [hsn'.out]; exact hset.out, by rw [hsn'.out]; exact hOs.out, hFs.out⟩
          case measure => first | (simp [intOf]; done) | (simp [intOf]; omega)
  · have hq : endq s lk ks = (lk, []) := by unfold endq; rw [if_neg hs]
    rw [hq]
    have hs' : (s != 1) = true := by simpa using hs
    clear hq h
    go_enter Try.func40, Try.ntmps40
    go_wp2
    go_ret
    exact ⟨_, rfl, hB1.out, Own.nil _ _ _ _, hF1.out⟩
end Go.Proofs.Ytcioejamohjdgaa
