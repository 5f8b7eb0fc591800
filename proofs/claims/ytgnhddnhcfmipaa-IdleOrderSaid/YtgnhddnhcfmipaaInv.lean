/- Idle: what holds of every book: above what is awake all is awake; events by turns, not back in time. Plain: no program here. -/
import Derived.Test.YtgnhddnhcfmipaaTwo
namespace Go.Proofs.Ytgnhddnhcfmipaa
open Go.RowKit

/-- how many are awake right beneath -/
def kidsOf (ds : List Dv) (j : Nat) : Nat := ds.countP fun x => x.a && decide (x.p = (j : Int))
theorem kids_le (ds : List Dv) (j : Nat) : kidsOf ds j ≤ ds.length := List.countP_le_length
theorem kids_set {ds : List Dv} {i : Nat} {x y : Dv} (h : ds[i]? = some y) (j : Nat) : kidsOf (ds.set i x) j + (if (y.a && decide (y.p = (j : Int))) = true then 1 else 0) = kidsOf ds j + (if (x.a && decide (x.p = (j : Int))) = true then 1 else 0) := by
  unfold kidsOf
  induction ds generalizing i with
  | nil => cases h
  | cons z ds ih =>
    cases i with
    | zero =>
      cases h
      simp only [List.set_cons_zero, List.countP_cons]
      omega
    | succ i =>
      simp only [List.set_cons_succ, List.countP_cons]
      have := ih (i := i) h
      omega
theorem kids_same {ds : List Dv} {i : Nat} {x y : Dv} (h : ds[i]? = some y) (ha : x.a = y.a) (hp : x.p = y.p) (j : Nat) : kidsOf (ds.set i x) j = kidsOf ds j := by
  have := kids_set (x := x) h j
  rw [ha, hp] at this
  omega
theorem kids_pos {ds : List Dv} {j : Nat} (h : 0 < kidsOf ds j) : ∃ (i : Nat) (x : Dv), ds[i]? = some x ∧ x.a = true ∧ x.p = (j : Int) := by
  unfold kidsOf at h
  obtain ⟨x, hx, hc⟩ := List.countP_pos_iff.1 h
  obtain ⟨i, hi, rfl⟩ := List.getElem_of_mem hx
  simp only [Bool.and_eq_true, decide_eq_true_eq] at hc
  exact ⟨i, _, List.getElem?_eq_getElem hi, hc.1, hc.2⟩
theorem kids_mem {ds : List Dv} {j i : Nat} {x : Dv} (hx : ds[i]? = some x) (ha : x.a = true) (hp : x.p = (j : Int)) : 0 < kidsOf ds j := by
  unfold kidsOf
  refine List.countP_pos_iff.2 ⟨x, List.mem_of_getElem? hx, ?_⟩
  rw [ha, hp]
  simp
theorem get_set {ds : List Dv} {i j : Nat} {x z : Dv} (hz : (ds.set i x)[j]? = some z) : (j = i ∧ z = x) ∨ (j ≠ i ∧ ds[j]? = some z) := by
  by_cases e : j = i
  · subst e
    have hl : j < ds.length := by
      have := (List.getElem?_eq_some_iff.1 hz).1
      rwa [List.length_set] at this
    rw [List.getElem?_set_self hl] at hz
    exact Or.inl ⟨rfl, (Option.some.inj hz).symm⟩
  · rw [List.getElem?_set_ne (fun q => e q.symm)] at hz
    exact Or.inr ⟨e, hz⟩
/-- a place that was there is there behind a write -/
theorem has_set {ds : List Dv} {i j : Nat} {x y z : Dv} (hi : ds[i]? = some y) (hz : ds[j]? = some z) : (ds.set i x)[j]? = some (if j = i then x else z) := by
  by_cases e : j = i
  · subst e
    rw [if_pos rfl, List.getElem?_set_self (List.getElem?_eq_some_iff.1 hi).1]
  · rw [if_neg e, List.getElem?_set_ne (fun q => e q.symm), hz]
/-- what holds of a book; but for the places eu that have uses and may be asleep, and ed that may be past due -/
structure Inv (ps qs : List Int) (eu ed : Nat → Prop) (ds : List Dv) (now : Int) : Prop where
  par : Par ds
  len : ds.length ≤ 512
  nw : 0 ≤ now ∧ now ≤ 2147483647
  fx : ∀ (i : Nat) (x : Dv), ds[i]? = some x → x.p = ps.getD i 0 ∧ x.d = qs.getD i 0
  bd : ∀ (i : Nat) (x : Dv), ds[i]? = some x → (0 ≤ x.t ∧ x.t ≤ 65535) ∧ (0 ≤ x.d ∧ x.d ≤ 2147483647) ∧ 0 ≤ x.s ∧ x.s ≤ 2147483647
  up : ∀ (i : Nat) (x : Dv), ds[i]? = some x → x.a = true → 0 ≤ x.p → ∃ y, ds[x.p.toNat]? = some y ∧ y.a = true
  us : ∀ (i : Nat) (x : Dv), ds[i]? = some x → ¬ eu i → 0 < x.t → x.a = true
  kd : ∀ (i : Nat) (x : Dv), ds[i]? = some x → x.k = (kidsOf ds i : Int)
  du : ∀ (i : Nat) (x : Dv), ds[i]? = some x → ¬ ed i → x.a = true → x.t = 0 → x.k = 0 → now ≤ x.s + x.d
abbrev No : Nat → Prop := fun _ => False
theorem wrap_id {n : Int} (h : -9223372036854775808 ≤ n ∧ n ≤ 9223372036854775807) : wrap64 n = n := by unfold wrap64; omega
theorem Inv.uses {ps qs : List Int} {eu ed : Nat → Prop} {ds : List Dv} {now : Int} (h : Inv ps qs eu ed ds now) {i : Nat} {x : Dv} (hx : ds[i]? = some x) : x.uses = x.t + x.k ∧ 0 ≤ x.k ∧ x.k ≤ 512 := by
  have h1 := h.kd i x hx
  have h2 := (h.bd i x hx).1
  have h3 := kids_le ds i
  have h4 := h.len
  refine ⟨?_, by omega, by omega⟩
  unfold Dv.uses
  exact wrap_id (by omega)
theorem Inv.key {ps qs : List Int} {eu ed : Nat → Prop} {ds : List Dv} {now : Int} (h : Inv ps qs eu ed ds now) {i : Nat} {x : Dv} (hx : ds[i]? = some x) : wrap64 (x.s + x.d) = x.s + x.d := by
  have h2 := (h.bd i x hx).2
  exact wrap_id (by omega)
/-- what has uses is awake -/
theorem Inv.above {ps qs : List Int} {ed : Nat → Prop} {ds : List Dv} {now : Int} (h : Inv ps qs No ed ds now) {i : Nat} {x : Dv} (hx : ds[i]? = some x) (hu : 0 < x.uses) : x.a = true := by
  obtain ⟨h1, h2, _⟩ := h.uses hx
  rw [h1] at hu
  rcases Int.lt_or_le 0 x.t with q | q
  · exact h.us i x hx id q
  · have hk := h.kd i x hx
    obtain ⟨j, y, hy, hya, hyp⟩ := kids_pos (ds := ds) (j := i) (by omega)
    obtain ⟨z, hz, hza⟩ := h.up j y hy hya (by omega)
    rw [hyp, Int.toNat_natCast, hx] at hz
    cases hz
    exact hza
/-- events, by turns and not back in time -/
def evOk : List Ev → List Bool → Int → Prop
  | [], _, _ => True
  | e :: es, was, last => (0 ≤ e.d ∧ e.d < (was.length : Int) ∧ was.getD e.d.toNat e.a ≠ e.a ∧ last ≤ e.t) ∧ evOk es (was.set e.d.toNat e.a) e.t
def evWas : List Ev → List Bool → List Bool
  | [], w => w
  | e :: es, w => evWas es (w.set e.d.toNat e.a)
def evLast : List Ev → Int → Int
  | [], l => l
  | e :: es, _ => evLast es e.t
theorem evOk_app : ∀ (es : List Ev) (e : Ev) (was : List Bool) (last : Int), evOk es was last → (0 ≤ e.d ∧ e.d < ((evWas es was).length : Int) ∧ (evWas es was).getD e.d.toNat e.a ≠ e.a ∧ evLast es last ≤ e.t) → evOk (es ++ [e]) was last
  | [], _, _, _, _, h2 => ⟨h2, trivial⟩
  | _ :: es, e, _, _, h1, h2 => ⟨h1.1, evOk_app es e _ _ h1.2 h2⟩
theorem evWas_app : ∀ (es : List Ev) (e : Ev) (was : List Bool), evWas (es ++ [e]) was = (evWas es was).set e.d.toNat e.a
  | [], _, _ => rfl
  | _ :: es, e, _ => evWas_app es e _
theorem evLast_app : ∀ (es : List Ev) (e : Ev) (last : Int), evLast (es ++ [e]) last = e.t
  | [], _, _ => rfl
  | _ :: es, e, _ => evLast_app es e _
theorem evWas_len : ∀ (es : List Ev) (was : List Bool), (evWas es was).length = was.length
  | [], _ => rfl
  | e :: es, was => by
    unfold evWas
    rw [evWas_len es, List.length_set]
theorem map_a_set {ds : List Dv} {i : Nat} {x y : Dv} (h : ds[i]? = some y) (ha : x.a = y.a) : (ds.set i x).map (·.a) = ds.map (·.a) := by
  rw [List.map_set, ha]
  apply List.ext_getElem?
  intro j
  by_cases e : j = i
  · subst e
    rw [List.getElem?_set_self (by rw [List.length_map]; exact (List.getElem?_eq_some_iff.1 h).1), List.getElem?_map, h]
    rfl
  · rw [List.getElem?_set_ne (fun q => e q.symm)]
theorem Inv.put {ps qs : List Int} {ds : List Dv} {now : Int} (h : Inv ps qs No No ds now) (i : Int) : Inv ps qs No No (putd ds now i).1 now ∧ (putd ds now i).1.map (·.a) = ds.map (·.a) := by
  unfold putd
  split
  · rename_i hi
    simp only
    split
    · exact ⟨h, rfl⟩
    · rename_i ht
      have hn : i.toNat < ds.length := by have := hi.1; have := hi.2; omega
      have hx := List.getElem?_eq_getElem hn
      have e : ds.getD i.toNat ⟨0, 0, 0, 0, false, 0⟩ = ds[i.toNat] := getD_of hx
      rw [e] at ht ⊢
      obtain ⟨hu1, hu2, hu3⟩ := h.uses hx
      have hb := h.bd _ _ hx
      have hw : wrap64 (ds[i.toNat].t - 1) = ds[i.toNat].t - 1 := wrap_id (by omega)
      rw [hw]
      have hus : ({ ds[i.toNat] with t := ds[i.toNat].t - 1 } : Dv).uses = ds[i.toNat].t - 1 + ds[i.toNat].k := wrap_id (by show _ ≤ ds[i.toNat].t - 1 + ds[i.toNat].k ∧ ds[i.toNat].t - 1 + ds[i.toNat].k ≤ _; omega)
      rw [hus]
      generalize hy : (if ds[i.toNat].t - 1 + ds[i.toNat].k = 0 then ({ ds[i.toNat] with t := ds[i.toNat].t - 1, s := now } : Dv) else { ds[i.toNat] with t := ds[i.toNat].t - 1 }) = y
      have ya : y.a = ds[i.toNat].a := by rw [← hy]; split <;> rfl
      have yp : y.p = ds[i.toNat].p := by rw [← hy]; split <;> rfl
      have yd : y.d = ds[i.toNat].d := by rw [← hy]; split <;> rfl
      have yk : y.k = ds[i.toNat].k := by rw [← hy]; split <;> rfl
      have yt : y.t = ds[i.toNat].t - 1 := by rw [← hy]; split <;> rfl
      have ys : (y.s = now ∧ y.t + y.k = 0) ∨ (y.s = ds[i.toNat].s ∧ ¬ y.t + y.k = 0) := by
        rw [yt, yk, ← hy]
        split
        · rename_i q; exact Or.inl ⟨rfl, q⟩
        · rename_i q; exact Or.inr ⟨rfl, q⟩
      generalize ds[i.toNat] = x at *
      refine ⟨⟨h.par.set hx yp, by rw [List.length_set]; exact h.len, h.nw, fun j z hz => ?_, fun j z hz => ?_, fun j z hz ha hp => ?_, fun j z hz he ht => ?_, fun j z hz => ?_, fun j z hz he ha ht hk => ?_⟩, map_a_set hx ya⟩
      · rcases get_set hz with ⟨rfl, rfl⟩ | ⟨_, hz⟩
        · rw [yp, yd]; exact h.fx _ _ hx
        · exact h.fx _ _ hz
      · rcases get_set hz with ⟨rfl, rfl⟩ | ⟨_, hz⟩
        · have := h.nw
          rw [yt, yd]
          refine ⟨by omega, hb.2.1, ?_⟩
          rcases ys with q | q <;> omega
        · exact h.bd _ _ hz
      · have key : ∀ z', ds[z.p.toNat]? = some z' → z'.a = true → ∃ w, (ds.set i.toNat y)[z.p.toNat]? = some w ∧ w.a = true := fun z' h1 h2 => by
          refine ⟨_, has_set hx h1, ?_⟩
          split
          · rename_i q
            rw [q, hx] at h1
            cases h1
            rw [ya]; exact h2
          · exact h2
        rcases get_set hz with ⟨rfl, rfl⟩ | ⟨_, hz⟩
        · rw [ya] at ha
          rw [yp] at hp
          obtain ⟨z', h1, h2⟩ := h.up _ _ hx ha hp
          exact key z' (by rw [yp]; exact h1) h2
        · obtain ⟨z', h1, h2⟩ := h.up _ _ hz ha hp
          exact key z' h1 h2
      · rcases get_set hz with ⟨rfl, rfl⟩ | ⟨_, hz⟩
        · rw [ya]; exact h.us _ _ hx id (by omega)
        · exact h.us _ _ hz id ht
      · rw [kids_same hx ya yp]
        rcases get_set hz with ⟨rfl, rfl⟩ | ⟨_, hz⟩
        · rw [yk]; exact h.kd _ _ hx
        · exact h.kd _ _ hz
      · rcases get_set hz with ⟨rfl, rfl⟩ | ⟨_, hz⟩
        · rcases ys with ⟨q, _⟩ | ⟨_, q⟩
          · rw [q, yd]; omega
          · omega
        · exact h.du _ _ hz id ha ht hk
  · exact ⟨h, rfl⟩
end Go.Proofs.Ytgnhddnhcfmipaa
