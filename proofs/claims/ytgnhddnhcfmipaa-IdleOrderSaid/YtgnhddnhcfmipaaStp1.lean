/- Idle: two books of the program's in memory; what each call makes of them. -/
import Derived.Test.YtgnhddnhcfmipaaStp0
import Derived.Test.YtgnhddnhcfmipaaSng
namespace Go.Proofs.Ytgnhddnhcfmipaa
open Go.RowKit Go.BigFrame

/-- no device was left later than now -/
def SN (ds : List Dv) (now : Int) : Prop := ∀ (i : Nat) (x : Dv), ds[i]? = some x → x.s ≤ now
theorem SN.set {ds : List Dv} {now : Int} (h : SN ds now) (i : Nat) {x : Dv} (hx : x.s ≤ now) : SN (ds.set i x) now := fun j z hz => by
  rcases get_set hz with ⟨_, rfl⟩ | ⟨_, hz⟩
  · exact hx
  · exact h j z hz
theorem SN.getD {ds : List Dv} {now : Int} (h : SN ds now) (h0 : 0 ≤ now) (i : Nat) : (ds.getD i zd).s ≤ now := by
  rw [List.getD_eq_getElem?_getD]
  cases e : ds[i]? with
  | none => exact h0
  | some x => exact h i x e
theorem sn_wk {now : Int} (h0 : 0 ≤ now) : ∀ (f : Nat) (ds : List Dv) (i : Nat), SN ds now → SN (wk f ds now i).1 now
  | 0, _, _, h => h
  | f + 1, ds, i, h => by
    unfold wk
    simp only
    split
    · exact h
    · split
      · have q := sn_wk h0 f ds (ds.getD i zd).p.toNat h
        exact (q.set _ (x := { (wk f ds now (ds.getD i zd).p.toNat).1.getD (ds.getD i zd).p.toNat zd with k := wrap64 (((wk f ds now (ds.getD i zd).p.toNat).1.getD (ds.getD i zd).p.toNat zd).k + 1) }) (q.getD h0 _)).set i (x := { ds.getD i zd with a := true }) (h.getD h0 i)
      · exact h.set i (x := { ds.getD i zd with a := true }) (h.getD h0 i)
theorem sn_get {ds : List Dv} {now : Int} (h0 : 0 ≤ now) (h : SN ds now) (i : Int) : SN (getd ds now i).1 now := by
  unfold getd
  split
  · simp only
    split
    · exact h
    · exact sn_wk h0 _ _ _ (h.set _ (x := { ds.getD i.toNat zd with t := wrap64 ((ds.getD i.toNat zd).t + 1) }) (h.getD h0 _))
  · exact h
theorem sn_put {ds : List Dv} {now : Int} (h0 : 0 ≤ now) (h : SN ds now) (i : Int) : SN (putd ds now i).1 now := by
  unfold putd
  split
  · simp only
    split
    · exact h
    · refine h.set _ ?_
      split
      · exact Int.le_refl _
      · exact h.getD h0 _
  · exact h
theorem sn_fall {ds : List Dv} {up due : Int} (h0 : 0 ≤ up) (hd : due ≤ up) (h : SN ds up) (j : Nat) : SN (fall ds j due) up := by
  unfold fall
  simp only
  have h1 := h.set j (x := { ds.getD j zd with a := false }) (h.getD h0 j)
  split
  · refine h1.set _ ?_
    split
    · exact hd
    · exact h1.getD h0 _
  · exact h1
theorem sn_tk {up : Int} (h0 : 0 ≤ up) : ∀ (f : Nat) (ds : List Dv), SN ds up → SN (tk f ds up).1 up
  | 0, _, h => h
  | f + 1, ds, h => by
    unfold tk
    simp only
    rcases scn_all ds up with ⟨e, _⟩ | ⟨j, x, _, _, e, hk, _⟩
    · rw [e, if_pos (show (-1 : Int) < 0 by decide)]; exact h
    · rw [e, if_neg (show ¬ (j : Int) < 0 by omega)]
      exact sn_tk h0 f _ (sn_fall h0 hk h _)
theorem SN.mono {ds : List Dv} {n m : Int} (h : SN ds n) (hm : n ≤ m) : SN ds m := fun i x hx => Int.le_trans (h i x hx) hm
theorem sn_devs (ps qs : List Int) (n : Nat) : SN (devs ps qs n) 0 := fun i x hx => by
  have hl := (List.getElem?_eq_some_iff.1 hx).1
  rw [devs_len] at hl
  unfold devs at hx
  rw [List.getElem?_map, List.getElem?_range hl] at hx
  cases hx
  exact Int.le_refl _
theorem SN.soon {ps qs : List Int} {ds : List Dv} {now : Int} (h : SN ds now) (hi : Inv ps qs No No ds now) : Soon qs now ds := fun i x hx => by
  have := h i x hx
  have := sumTo_nonneg (f := slept qs ds) ds.length (fun k hk => by
    have hz := List.getElem?_eq_getElem hk
    have := hi.bd k _ hz
    have := (hi.fx k _ hz).2
    unfold slept
    split <;> omega)
  omega
/-- what a call leaves but for the blocks from lo to hi -/
def Kx (lo hi : Nat) (W W' : World) : Prop := W.heap.size ≤ W'.heap.size ∧ ∀ b, (b < lo ∨ hi ≤ b) → b < W.heap.size → W'.heap[b]? = W.heap[b]?
theorem Kx.kb {lo hi M : Nat} {W W' : World} (h : Kx lo hi W W') (hM : hi ≤ M) : Kb M W W' := ⟨h.1, fun b h1 h2 => h.2 b (Or.inr (Nat.le_trans hM h1)) h2⟩
section
variable {w W W' : World} {M bb : Nat} {v : Value} {ds : List Dv} {now : Int}
theorem Sg.progx {d3 : List Dv} {n3 : Int} (h : Sg w W M bb v ds now) (hB : Bp W' bb bb v d3 n3) (hF : Fr W.heap.size (fun b => v.ownBlock = some b ∨ b = bb) W W') : Sg w W' M bb v d3 n3 ∧ Kx bb M W W' := by
  have lb := h.lb
  have hS : ∀ b, (v.ownBlock = some b ∨ b = bb) → bb ≤ b ∧ b < M := fun b hb => by
    rcases hb with q | rfl
    · exact ⟨(h.bk.own.lt b q).1, h.lv b q⟩
    · exact ⟨Nat.le_refl _, lb⟩
  exact ⟨(h.prog hB hF).1, hF.size, fun b h1 h2 => hF.k b h2 (fun q => by have := hS b q; omega)⟩
theorem Sg.keepx {lo hi : Nat} (h : Sg w W M bb v ds now) (k : Kx lo hi W W') (hd : M ≤ lo ∨ hi ≤ bb) (hb : Below w.heap.size w W') : Sg w W' M bb v ds now := by
  have lb := h.lb
  exact ⟨h.bk.keep (k.2 _ (by omega) h.bk.lt) (fun g hg => k.2 g (by have := (h.bk.own.lt g hg).1; have := h.lv g hg; omega) (h.bk.own.lt g hg).2), lb, h.lv, h.lo, Nat.le_trans h.hM k.1, hb⟩
end
structure Bth (w W : World) (M1 b1 : Nat) (v1 : Value) (M2 b2 : Nat) (v2 : Value) (ds1 : List Dv) (n1 : Int) (ds2 : List Dv) (n2 : Int) : Prop where
  s1 : Sg w W M1 b1 v1 ds1 n1
  s2 : Sg w W M2 b2 v2 ds2 n2
  hd : M1 ≤ b2
section
variable {w W W' : World} {M1 b1 M2 b2 : Nat} {v1 v2 : Value} {ds1 ds2 : List Dv} {n1 n2 : Int}
theorem Bth.b (h : Bth w W M1 b1 v1 M2 b2 v2 ds1 n1 ds2 n2) : Below w.heap.size w W := h.s1.b
theorem Bth.hm (h : Bth w W M1 b1 v1 M2 b2 v2 ds1 n1 ds2 n2) : M1 ≤ M2 ∧ M2 ≤ W.heap.size := ⟨by have := h.hd; have := h.s2.lb; omega, h.s2.hM⟩
theorem Bth.one {d : List Dv} {n : Int} (h : Bth w W M1 b1 v1 M2 b2 v2 ds1 n1 ds2 n2) (hB : Bp W' b1 b1 v1 d n) (hF : Fr W.heap.size (fun b => v1.ownBlock = some b ∨ b = b1) W W') : Bth w W' M1 b1 v1 M2 b2 v2 d n ds2 n2 ∧ Kb M2 W W' := by
  obtain ⟨q1, q2⟩ := h.s1.progx hB hF
  exact ⟨⟨q1, h.s2.keepx q2 (Or.inr h.hd) q1.b, h.hd⟩, q2.kb h.hm.1⟩
theorem Bth.two {d : List Dv} {n : Int} (h : Bth w W M1 b1 v1 M2 b2 v2 ds1 n1 ds2 n2) (hB : Bp W' b2 b2 v2 d n) (hF : Fr W.heap.size (fun b => v2.ownBlock = some b ∨ b = b2) W W') : Bth w W' M1 b1 v1 M2 b2 v2 ds1 n1 d n ∧ Kb M2 W W' := by
  obtain ⟨q1, q2⟩ := h.s2.progx hB hF
  exact ⟨⟨h.s1.keepx q2 (Or.inl h.hd) q1.b, q1, h.hd⟩, q2.kb (Nat.le_refl _)⟩
theorem Bth.above (h : Bth w W M1 b1 v1 M2 b2 v2 ds1 n1 ds2 n2) (d : Below M2 W W') : Bth w W' M1 b1 v1 M2 b2 v2 ds1 n1 ds2 n2 := ⟨h.s1.above (d.mono h.hm.1), h.s2.above d, h.hd⟩
theorem Bth.drawn (h : Bth w W M1 b1 v1 M2 b2 v2 ds1 n1 ds2 n2) (d : Drawn W W') : Bth w W' M1 b1 v1 M2 b2 v2 ds1 n1 ds2 n2 := ⟨h.s1.drawn d, h.s2.drawn d, h.hd⟩
theorem bth_get1 (h : Bth w W M1 b1 v1 M2 b2 v2 ds1 n1 ds2 n2) (hp : Par ds1) (hl : ds1.length ≤ 512) (i : Int) : Calls Try.prog 28 #[.pointer (some ⟨b1, 0, none⟩), .int .i64 i] W fun e w' => ∃ vo, e = .returned (.tuple #[vo, .int .i64 (getd ds1 n1 i).2.2]) ∧ Bth w w' M1 b1 v1 M2 b2 v2 (getd ds1 n1 i).1 n1 ds2 n2 :=
  (bget_any h.s1.bk hp hl i).mono fun _ _ ⟨vo, h1, h2, _, h4⟩ => ⟨vo, h1, (h.one h2 (h4.mono (Nat.le_refl _) fun _ _ q => Or.inl q)).1⟩
theorem bth_get2 (h : Bth w W M1 b1 v1 M2 b2 v2 ds1 n1 ds2 n2) (hp : Par ds2) (hl : ds2.length ≤ 512) (i : Int) : Calls Try.prog 28 #[.pointer (some ⟨b2, 0, none⟩), .int .i64 i] W fun e w' => ∃ vo, e = .returned (.tuple #[vo, .int .i64 (getd ds2 n2 i).2.2]) ∧ Bth w w' M1 b1 v1 M2 b2 v2 ds1 n1 (getd ds2 n2 i).1 n2 :=
  (bget_any h.s2.bk hp hl i).mono fun _ _ ⟨vo, h1, h2, _, h4⟩ => ⟨vo, h1, (h.two h2 (h4.mono (Nat.le_refl _) fun _ _ q => Or.inl q)).1⟩
theorem bth_put1 (h : Bth w W M1 b1 v1 M2 b2 v2 ds1 n1 ds2 n2) (i : Int) : Calls Try.prog 30 #[.pointer (some ⟨b1, 0, none⟩), .int .i64 i] W fun e w' => e = .returned (.tuple #[.slice none 0 0, .int .i64 (putd ds1 n1 i).2]) ∧ Bth w w' M1 b1 v1 M2 b2 v2 (putd ds1 n1 i).1 n1 ds2 n2 :=
  (bput_any h.s1.bk i).mono fun _ _ ⟨h1, h2, h4⟩ => ⟨h1, (h.one h2 (h4.mono (Nat.le_refl _) fun _ _ q => Or.inl q)).1⟩
theorem bth_put2 (h : Bth w W M1 b1 v1 M2 b2 v2 ds1 n1 ds2 n2) (i : Int) : Calls Try.prog 30 #[.pointer (some ⟨b2, 0, none⟩), .int .i64 i] W fun e w' => e = .returned (.tuple #[.slice none 0 0, .int .i64 (putd ds2 n2 i).2]) ∧ Bth w w' M1 b1 v1 M2 b2 v2 ds1 n1 (putd ds2 n2 i).1 n2 :=
  (bput_any h.s2.bk i).mono fun _ _ ⟨h1, h2, h4⟩ => ⟨h1, (h.two h2 (h4.mono (Nat.le_refl _) fun _ _ q => Or.inl q)).1⟩
theorem bth_tick1 (h : Bth w W M1 b1 v1 M2 b2 v2 ds1 n1 ds2 n2) (hp : Par ds1) (hl : ds1.length ≤ 512) (i : Int) (hi : okTick i ∧ n1 ≤ i) : Calls Try.prog 32 #[.pointer (some ⟨b1, 0, none⟩), .int .i64 i] W fun e w' => ∃ vo, e = .returned (.tuple #[vo, .int .i64 0]) ∧ Bth w w' M1 b1 v1 M2 b2 v2 (tkk ds1 i).1 i ds2 n2 ∧ Own w' W.heap.size 84 3 ((tkk ds1 i).2.map erow) vo ∧ Kb M2 W w' := by
  have q := btick_any h.s1.bk hp hl i
  rw [tickd_tkk hi] at q
  exact q.mono fun _ _ ⟨vo, h1, h2, h3, h4⟩ => ⟨vo, h1, (h.one h2 h4).1, h3, (h.one h2 h4).2⟩
theorem bth_tick2 (h : Bth w W M1 b1 v1 M2 b2 v2 ds1 n1 ds2 n2) (hp : Par ds2) (hl : ds2.length ≤ 512) (i : Int) (hi : okTick i ∧ n2 ≤ i) : Calls Try.prog 32 #[.pointer (some ⟨b2, 0, none⟩), .int .i64 i] W fun e w' => ∃ vo, e = .returned (.tuple #[vo, .int .i64 0]) ∧ Bth w w' M1 b1 v1 M2 b2 v2 ds1 n1 (tkk ds2 i).1 i ∧ Own w' W.heap.size 84 3 ((tkk ds2 i).2.map erow) vo ∧ Kb M2 W w' := by
  have q := btick_any h.s2.bk hp hl i
  rw [tickd_tkk hi] at q
  exact q.mono fun _ _ ⟨vo, h1, h2, h3, h4⟩ => ⟨vo, h1, (h.two h2 h4).1, h3, (h.two h2 h4).2⟩
end
/-- the form of a list of the call's own, to be appended -/
theorem own_app {W : World} {B : Nat} {e : TypeId} {s : Nat} {xs : List (List Value)} {v : Value} (h : Own W B e s xs v) : ∃ A c, v = .slice A xs.length c ∧ Sl (fun b => v.ownBlock = some b) W A s xs ∧ (A = none → c = 0) := by
  obtain ⟨A, c, hv, hs⟩ := h.sl
  refine ⟨A, c, hv, hs, fun hA => ?_⟩
  rcases h.1.2 with ⟨e1, _⟩ | ⟨g, cap, cur, e1, _⟩
  · rw [hv] at e1
    exact (Value.slice.inj e1).2.2
  · rw [hv, hA] at e1
    cases (Value.slice.inj e1).1
theorem one_evs (l : List Ev) : ∀ r ∈ l.map erow, ∀ u ∈ r, u.oneCell' = true := by
  intro r hr u hu
  obtain ⟨n, _, rfl⟩ := List.mem_map.1 hr
  simp only [erow, List.mem_cons, List.not_mem_nil, or_false] at hu
  rcases hu with rfl | rfl | rfl <;> rfl
/-- how many uses a device has, in memory -/
def tkOf (g k : Nat) (W : World) : Nat := match W.cell? ⟨g, k * 6 + 2, none⟩ with | some (.int _ t) => t.toNat | _ => 0
theorem tkOf_eq {W : World} {B bb g c m k : Nat} {ds : List Dv} {now : Int} {x : Dv} (h : Bp W B bb (.slice (some ⟨g, 0, none⟩) m c) ds now) (hx : ds[k]? = some x) : tkOf g k W = x.t.toNat := by
  unfold tkOf
  rw [(h.dv hx).2.2.1]
theorem fields_all {P : Program} {t : TypeId} {L : List (TypeId × Nat)} (h : ((Program.fieldsOf P t).toList.map fun f => (f.type, f.offset)) = L) {f : Field} (hf : f ∈ (Program.fieldsOf P t).toList) : (f.type, f.offset) ∈ L := by
  rw [← h]; exact List.mem_map_of_mem hf
theorem eqFields_self {P : Program} (w : World) (d : Nat) (xs : Array Value) : ∀ (fs : List Field), (∀ f ∈ fs, ∃ v, (part f.type xs f.offset).run P w = .ok v w ∧ (Op.equalIn (d + 1) f.type v v).run P w = .ok true w) → (Op.eqFields (d + 1) xs xs fs).run P w = .ok true w
  | [], _ => by simp [Op.eqFields]
  | f :: fs, h => by
    obtain ⟨v, h1, h2⟩ := h f (by simp)
    have ih := eqFields_self w d xs fs fun g hg => h g (by simp [hg])
    unfold Op.eqFields
    split
    · simp [h1, h2, ih]
    · exact ih
theorem part_one (W : World) (T : TypeId) (hT : (isAgg T).run Try.prog W = .ok false W) (xs : Array Value) (i : Nat) (v : Value) (hv : xs[i]? = some v) : (part T xs i).run Try.prog W = .ok v W := by
  simp [part, hT, hv]
theorem eq_ev (W : World) (x : Ev) : (Op.equalIn 10000 84 (.agg #[.int .i64 x.t, .int .i64 x.d, .bool x.a]) (.agg #[.int .i64 x.t, .int .i64 x.d, .bool x.a])).run Try.prog W = .ok true W := by
  rw [show (10000 : Nat) = 9998 + 1 + 1 from rfl, run_equalIn_struct W (9998 + 1) 84 _ _ (by kernel_rfl) (by kernel_rfl)]
  refine eqFields_self W 9998 _ _ fun f hf => ?_
  have hm := fields_all (P := Try.prog) (t := 84) (L := [(3, 0), (3, 1), (4, 2)]) (by kernel_rfl) hf
  simp only [List.mem_cons, Prod.mk.injEq, List.not_mem_nil, or_false] at hm
  rcases hm with ⟨e1, e2⟩ | ⟨e1, e2⟩ | ⟨e1, e2⟩
  · rw [e1, e2]; exact ⟨.int .i64 x.t, part_one W _ (by kernel_rfl) _ _ _ rfl, by rw [run_equalIn_int W 9998 3 .i64 .i64 _ _ Try.underlying3]; simp⟩
  · rw [e1, e2]; exact ⟨.int .i64 x.d, part_one W _ (by kernel_rfl) _ _ _ rfl, by rw [run_equalIn_int W 9998 3 .i64 .i64 _ _ Try.underlying3]; simp⟩
  · rw [e1, e2]; exact ⟨.bool x.a, part_one W _ (by kernel_rfl) _ _ _ rfl, by rw [run_equalIn_bool' W 9998 4 _ _ Try.underlying4]; simp⟩
theorem putd_t {ps qs : List Int} {ds : List Dv} {now : Int} (h : Inv ps qs No No ds now) {k : Nat} {x : Dv} (hx : ds[k]? = some x) : (x.t = 0 ∧ putd ds now k = (ds, 230)) ∨ (0 < x.t ∧ ∃ y : Dv, putd ds now k = (ds.set k y, 0) ∧ y.t = x.t - 1) := by
  have hk := (List.getElem?_eq_some_iff.1 hx).1
  have hb := h.bd k x hx
  unfold putd
  rw [if_pos (inb_nat.2 hk)]
  simp only
  rw [Int.toNat_natCast]
  have e : ds.getD k ⟨0, 0, 0, 0, false, 0⟩ = x := getD_of hx
  rw [e]
  have hw : wrap64 (x.t - 1) = x.t - 1 := wrap_id (by omega)
  rw [hw]
  by_cases ht : x.t = 0
  · rw [if_pos ht]
    exact Or.inl ⟨ht, rfl⟩
  · rw [if_neg ht]
    refine Or.inr ⟨by omega, _, rfl, ?_⟩
    split <;> rfl
theorem sumTo_bd {f : Nat → Int} {b : Int} : ∀ n, (∀ i, i < n → 0 ≤ f i ∧ f i ≤ b) → 0 ≤ sumTo f n ∧ sumTo f n ≤ b * n
  | 0, _ => by simp [sumTo]
  | n + 1, h => by
    have q := sumTo_bd (f := f) (b := b) n (fun i hi => h i (by omega))
    have := h n (by omega)
    have e : b * ((n + 1 : Nat) : Int) = b * (n : Int) + b := by rw [Int.natCast_add, Int.mul_add]; simp
    unfold sumTo
    omega
end Go.Proofs.Ytgnhddnhcfmipaa
