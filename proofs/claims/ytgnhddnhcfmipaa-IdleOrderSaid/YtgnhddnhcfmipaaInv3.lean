/- Idle: what holds of every book, behind a Tick. Plain: no program here. -/
import Derived.Test.YtgnhddnhcfmipaaInv2
namespace Go.Proofs.Ytgnhddnhcfmipaa
open Go.RowKit

/-- awake, and nobody uses it -/
def pend (x : Dv) : Prop := x.a = true ∧ x.uses = 0
theorem dueBy_iff (x : Dv) (due : Int) : dueBy x due = true ↔ pend x ∧ x.key ≤ due := by
  unfold dueBy pend Dv.key
  simp only [Bool.and_eq_true, decide_eq_true_eq]
theorem scn_spec (ds : List Dv) : ∀ (t i : Nat) (a due : Int), (scn ds t i a due).2 ≤ due ∧ (∀ k, i ≤ k → k < i + t → pend (ds.getD k zd) → (scn ds t i a due).2 ≤ (ds.getD k zd).key) ∧
    ((scn ds t i a due = (a, due) ∧ ∀ k, i ≤ k → k < i + t → pend (ds.getD k zd) → due < (ds.getD k zd).key) ∨ ∃ j : Nat, i ≤ j ∧ j < i + t ∧ (scn ds t i a due).1 = (j : Int) ∧ pend (ds.getD j zd) ∧ (scn ds t i a due).2 = (ds.getD j zd).key)
  | 0, i, a, due => ⟨Int.le_refl _, fun k h1 h2 => by omega, Or.inl ⟨rfl, fun k h1 h2 => by omega⟩⟩
  | t + 1, i, a, due => by
    unfold scn
    by_cases h : dueBy (ds.getD i zd) due = true
    · rw [if_pos h]
      obtain ⟨hp, hk⟩ := (dueBy_iff _ _).1 h
      obtain ⟨q1, q2, q3⟩ := scn_spec ds t (i + 1) i (ds.getD i zd).key
      show (scn ds t (i + 1) i (ds.getD i zd).key).2 ≤ due ∧ (∀ k, i ≤ k → k < i + (t + 1) → pend (ds.getD k zd) → (scn ds t (i + 1) i (ds.getD i zd).key).2 ≤ (ds.getD k zd).key) ∧
        ((scn ds t (i + 1) i (ds.getD i zd).key = (a, due) ∧ ∀ k, i ≤ k → k < i + (t + 1) → pend (ds.getD k zd) → due < (ds.getD k zd).key) ∨ ∃ j : Nat, i ≤ j ∧ j < i + (t + 1) ∧ (scn ds t (i + 1) i (ds.getD i zd).key).1 = (j : Int) ∧ pend (ds.getD j zd) ∧ (scn ds t (i + 1) i (ds.getD i zd).key).2 = (ds.getD j zd).key)
      refine ⟨Int.le_trans q1 hk, fun k h1 h2 hpk => ?_, Or.inr ?_⟩
      · by_cases e : k = i
        · subst e; exact q1
        · exact q2 k (by omega) (by omega) hpk
      · rcases q3 with ⟨e, _⟩ | ⟨j, h1, h2, h3, h4, h5⟩
        · exact ⟨i, Nat.le_refl _, by omega, by rw [e], hp, by rw [e]⟩
        · exact ⟨j, by omega, by omega, h3, h4, h5⟩
    · rw [if_neg h]
      obtain ⟨q1, q2, q3⟩ := scn_spec ds t (i + 1) a due
      have hn : pend (ds.getD i zd) → due < (ds.getD i zd).key := fun hp => by
        rcases Int.lt_or_le due (ds.getD i zd).key with q | q
        · exact q
        · exact absurd ((dueBy_iff _ _).2 ⟨hp, q⟩) h
      refine ⟨q1, fun k h1 h2 hpk => ?_, ?_⟩
      · by_cases e : k = i
        · subst e; have := hn hpk; omega
        · exact q2 k (by omega) (by omega) hpk
      · rcases q3 with ⟨e, hf⟩ | ⟨j, h1, h2, h3, h4, h5⟩
        · refine Or.inl ⟨e, fun k h1 h2 hpk => ?_⟩
          by_cases e : k = i
          · subst e; exact hn hpk
          · exact hf k (by omega) (by omega) hpk
        · exact Or.inr ⟨j, by omega, by omega, h3, h4, h5⟩
theorem scn_all (ds : List Dv) (up : Int) : (scn ds ds.length 0 (-1) up = (-1, up) ∧ ∀ (k : Nat) (z : Dv), ds[k]? = some z → pend z → up < z.key) ∨
    ∃ (j : Nat) (x : Dv), ds[j]? = some x ∧ pend x ∧ scn ds ds.length 0 (-1) up = ((j : Int), x.key) ∧ x.key ≤ up ∧ ∀ (k : Nat) (z : Dv), ds[k]? = some z → pend z → x.key ≤ z.key := by
  obtain ⟨q1, q2, q3⟩ := scn_spec ds ds.length 0 (-1) up
  have hg : ∀ (k : Nat) (z : Dv), ds[k]? = some z → k < 0 + ds.length ∧ ds.getD k zd = z := fun k z hz => ⟨by have := (List.getElem?_eq_some_iff.1 hz).1; omega, getD_of hz⟩
  rcases q3 with ⟨e, hf⟩ | ⟨j, h1, h2, h3, h4, h5⟩
  · refine Or.inl ⟨e, fun k z hz hp => ?_⟩
    obtain ⟨g1, g2⟩ := hg k z hz
    have := hf k (Nat.zero_le _) g1 (by rw [g2]; exact hp)
    rwa [g2] at this
  · have hx : ds[j]? = some ds[j] := List.getElem?_eq_getElem (by omega)
    obtain ⟨_, g2⟩ := hg j _ hx
    rw [g2] at h4 h5
    refine Or.inr ⟨j, _, hx, h4, Prod.ext h3 h5, by rw [← h5]; exact q1, fun k z hz hp => ?_⟩
    obtain ⟨g1, g3⟩ := hg k z hz
    have := q2 k (Nat.zero_le _) g1 (by rw [g3]; exact hp)
    rw [g3, h5] at this
    exact this
set_option maxHeartbeats 2000000 in
theorem Inv.fall {ps qs : List Int} {ds : List Dv} {now due : Int} (h : Inv ps qs No No ds now) {j : Nat} {x : Dv} (hx : ds[j]? = some x) (hp : pend x) (hk : x.key = due) (hd : due ≤ 2147483647) (hm : ∀ (k : Nat) (z : Dv), ds[k]? = some z → pend z → due ≤ z.key) :
    Inv ps qs No No (fall ds j due) due ∧ (fall ds j due).map (·.a) = (ds.map (·.a)).set j false ∧ now ≤ due := by
  obtain ⟨ha, hu⟩ := hp
  obtain ⟨u1, u2, u3⟩ := h.uses hx
  have hb := h.bd _ _ hx
  have ht : x.t = 0 := by omega
  have hk0 : x.k = 0 := by omega
  have hkey : x.key = x.s + x.d := h.key hx
  have hnow : now ≤ due := by rw [← hk, hkey]; exact h.du _ _ hx id ha ht hk0
  have hnd : 0 ≤ due ∧ due ≤ 2147483647 := ⟨by have := h.nw; omega, hd⟩
  have hkid0 : kidsOf ds j = 0 := by have := h.kd _ _ hx; omega
  have hlate : ∀ (k : Nat) (z : Dv), ds[k]? = some z → z.a = true → z.t = 0 → z.k = 0 → due ≤ z.s + z.d := fun k z hz h1 h2 h3 => by
    have q := hm k z hz ⟨h1, by rw [(h.uses hz).1]; omega⟩
    have : z.key = z.s + z.d := h.key hz
    omega
  have hpx := h.par j x hx
  unfold Ytgnhddnhcfmipaa.fall
  simp only
  rw [getD_of hx]
  by_cases h0 : 0 ≤ x.p
  · rw [if_pos h0]
    obtain ⟨pn, hpn⟩ : ∃ pn : Nat, x.p = (pn : Int) := ⟨x.p.toNat, by omega⟩
    have hpt : x.p.toNat = pn := by omega
    rw [hpt]
    obtain ⟨y, hy, hya⟩ := h.up j x hx ha h0
    rw [hpt] at hy
    have hy1 : (ds.set j { x with a := false })[pn]? = some y := by rw [List.getElem?_set_ne (by omega)]; exact hy
    rw [getD_of hy1]
    have hkd := h.kd pn y hy
    have hkpos : 0 < kidsOf ds pn := kids_mem hx ha hpn
    have hle := kids_le ds pn
    have hlen := h.len
    have hby := h.bd _ _ hy
    have hw : wrap64 (y.k - 1) = y.k - 1 := wrap_id (by omega)
    rw [hw]
    have hus : ({ y with k := y.k - 1 } : Dv).uses = y.t + (y.k - 1) := wrap_id (by show _ ≤ y.t + (y.k - 1) ∧ y.t + (y.k - 1) ≤ _; omega)
    rw [hus]
    generalize hY : (if y.t + (y.k - 1) = 0 then ({ y with k := y.k - 1, s := due } : Dv) else { y with k := y.k - 1 }) = Y
    have Ya : Y.a = y.a := by rw [← hY]; split <;> rfl
    have Yp : Y.p = y.p := by rw [← hY]; split <;> rfl
    have Yd : Y.d = y.d := by rw [← hY]; split <;> rfl
    have Yt : Y.t = y.t := by rw [← hY]; split <;> rfl
    have Yk : Y.k = y.k - 1 := by rw [← hY]; split <;> rfl
    have Ys : (Y.s = due ∧ Y.t + Y.k = 0) ∨ (Y.s = y.s ∧ ¬ Y.t + Y.k = 0) := by
      rw [Yt, Yk, ← hY]
      split
      · rename_i q; exact Or.inl ⟨rfl, q⟩
      · rename_i q; exact Or.inr ⟨rfl, q⟩
    have hg : ∀ (m : Nat) (z : Dv), ((ds.set j { x with a := false }).set pn Y)[m]? = some z →
        (m = pn ∧ z = Y) ∨ (m ≠ pn ∧ m = j ∧ z = { x with a := false }) ∨ (m ≠ pn ∧ m ≠ j ∧ ds[m]? = some z) := fun m z hz => by
      rcases get_set hz with ⟨q1, q2⟩ | ⟨q1, q2⟩
      · exact Or.inl ⟨q1, q2⟩
      · rcases get_set q2 with ⟨q3, q4⟩ | ⟨q3, q4⟩
        · exact Or.inr (Or.inl ⟨q1, q3, q4⟩)
        · exact Or.inr (Or.inr ⟨q1, q3, q4⟩)
    have hkids : ∀ m, kidsOf ((ds.set j { x with a := false }).set pn Y) m + (if m = pn then 1 else 0) = kidsOf ds m := fun m => by
      rw [kids_same hy1 Ya Yp, ← kids_fall hx ha m, hpn]
      by_cases e : m = pn
      · subst e; simp
      · rw [if_neg e, if_neg (by omega)]
    refine ⟨⟨Par.set (x := Y) (Par.set (x := { x with a := false }) h.par hx rfl) hy1 Yp, by rw [List.length_set, List.length_set]; exact hlen, hnd, fun m z hz => ?_, fun m z hz => ?_, fun m z hz hza hzp => ?_, fun m z hz _ hzt => ?_, fun m z hz => ?_, fun m z hz _ hza hzt hzk => ?_⟩, ?_, hnow⟩
    · rcases hg m z hz with ⟨rfl, rfl⟩ | ⟨_, rfl, rfl⟩ | ⟨_, _, hz⟩
      · rw [Yp, Yd]; exact h.fx _ y hy
      · exact h.fx _ x hx
      · exact h.fx _ _ hz
    · rcases hg m z hz with ⟨rfl, rfl⟩ | ⟨_, rfl, rfl⟩ | ⟨_, _, hz⟩
      · rw [Yt, Yd]
        refine ⟨hby.1, hby.2.1, ?_⟩
        rcases Ys with q | q <;> omega
      · exact h.bd _ x hx
      · exact h.bd _ _ hz
    · have key : ∀ (k : Nat) (z' : Dv), k ≠ j → ds[k]? = some z' → z'.a = true → ∃ w, ((ds.set j { x with a := false }).set pn Y)[k]? = some w ∧ w.a = true := fun k z' q0 q1 q2 => by
        refine ⟨_, has_set hy1 (has_set hx q1), ?_⟩
        split
        · rw [Ya]; exact hya
        · first
            | exact q2
            | (rw [if_neg q0]; exact q2)
      have nk : ∀ (k : Nat) (z' : Dv), ds[k]? = some z' → z'.a = true → 0 ≤ z'.p → z'.p.toNat ≠ j := fun k z' q1 q2 q3 q4 => by
        have := kids_mem q1 q2 (j := j) (by omega)
        omega
      rcases hg m z hz with ⟨rfl, rfl⟩ | ⟨_, rfl, rfl⟩ | ⟨_, _, hz⟩
      · rw [Yp] at hzp ⊢
        obtain ⟨z', q1, q2⟩ := h.up _ _ hy hya hzp
        exact key _ z' (nk _ _ hy hya hzp) q1 q2
      · cases hza
      · obtain ⟨z', q1, q2⟩ := h.up _ _ hz hza hzp
        exact key _ z' (nk _ _ hz hza hzp) q1 q2
    · rcases hg m z hz with ⟨rfl, rfl⟩ | ⟨_, rfl, rfl⟩ | ⟨_, _, hz⟩
      · rw [Ya]; exact hya
      · have : 0 < x.t := hzt
        omega
      · exact h.us _ _ hz id hzt
    · have := hkids m
      rcases hg m z hz with ⟨rfl, rfl⟩ | ⟨q1, rfl, rfl⟩ | ⟨q1, q2, hz⟩
      · rw [if_pos rfl] at this
        rw [Yk]; omega
      · rw [if_neg q1] at this
        show x.k = _
        omega
      · rw [if_neg q1] at this
        have := h.kd _ _ hz
        omega
    · rcases hg m z hz with ⟨rfl, rfl⟩ | ⟨q1, rfl, rfl⟩ | ⟨q1, q2, hz⟩
      · rcases Ys with ⟨q, _⟩ | ⟨_, q⟩
        · rw [q, Yd]; omega
        · omega
      · cases hza
      · exact hlate _ _ hz hza hzt hzk
    · rw [map_a_set hy1 Ya, map_a_set']
  · rw [if_neg h0]
    have hkids : ∀ m, kidsOf (ds.set j { x with a := false }) m = kidsOf ds m := fun m => by
      have := kids_fall hx ha m
      rw [if_neg (by omega)] at this
      exact this
    refine ⟨⟨Par.set (x := { x with a := false }) h.par hx rfl, by rw [List.length_set]; exact h.len, hnd, fun m z hz => ?_, fun m z hz => ?_, fun m z hz hza hzp => ?_, fun m z hz _ hzt => ?_, fun m z hz => ?_, fun m z hz _ hza hzt hzk => ?_⟩, map_a_set', hnow⟩
    · rcases get_set hz with ⟨rfl, rfl⟩ | ⟨_, hz⟩
      · exact h.fx _ x hx
      · exact h.fx _ _ hz
    · rcases get_set hz with ⟨rfl, rfl⟩ | ⟨_, hz⟩
      · exact h.bd _ x hx
      · exact h.bd _ _ hz
    · rcases get_set hz with ⟨rfl, rfl⟩ | ⟨_, hz⟩
      · cases hza
      · obtain ⟨z', q1, q2⟩ := h.up _ _ hz hza hzp
        refine ⟨_, has_set hx q1, ?_⟩
        rw [if_neg (fun q4 => by
          have := kids_mem hz hza (j := j) (by omega)
          omega)]
        exact q2
    · rcases get_set hz with ⟨rfl, rfl⟩ | ⟨_, hz⟩
      · have : 0 < x.t := hzt
        omega
      · exact h.us _ _ hz id hzt
    · rw [hkids]
      rcases get_set hz with ⟨rfl, rfl⟩ | ⟨_, hz⟩
      · exact h.kd _ x hx
      · exact h.kd _ _ hz
    · rcases get_set hz with ⟨rfl, rfl⟩ | ⟨_, hz⟩
      · cases hza
      · exact hlate _ _ hz hza hzt hzk
theorem Inv.tk {ps qs : List Int} {up : Int} (hu : okTick up) : ∀ (f : Nat) (ds : List Dv) (now : Int), awk ds < f → Inv ps qs No No ds now → now ≤ up →
    Inv ps qs No No (tk f ds up).1 up ∧ (∀ last, last ≤ now → evOk (tk f ds up).2 (ds.map (·.a)) last ∧ evLast (tk f ds up).2 last ≤ up) ∧ evWas (tk f ds up).2 (ds.map (·.a)) = (tk f ds up).1.map (·.a) ∧
      ∀ (k : Nat) (z : Dv), (tk f ds up).1[k]? = some z → pend z → up < z.key := by
  intro f
  induction f with
  | zero => intro ds now h; omega
  | succ f ih =>
    intro ds now hf h hn
    unfold Ytgnhddnhcfmipaa.tk
    simp only
    rcases scn_all ds up with ⟨e, hno⟩ | ⟨j, x, hx, hp, e, hk, hm⟩
    · rw [e, if_pos (show (-1 : Int) < 0 by decide)]
      refine ⟨⟨h.par, h.len, hu, h.fx, h.bd, h.up, h.us, h.kd, fun k z hz _ ha ht hk => ?_⟩, fun last hl => ⟨trivial, Int.le_trans hl hn⟩, rfl, hno⟩
      have q := hno k z hz ⟨ha, by rw [(h.uses hz).1]; omega⟩
      have : z.key = z.s + z.d := h.key hz
      omega
    · rw [e, if_neg (show ¬ (j : Int) < 0 by omega), Int.toNat_natCast]
      obtain ⟨h1, h2, h3⟩ := h.fall hx hp rfl (by have := hu.2; omega) hm
      have hfa := fall_awk hx hp.1 h.par x.key
      obtain ⟨q1, q2, q3, q4⟩ := ih (Ytgnhddnhcfmipaa.fall ds j x.key) x.key (by omega) h1 hk
      rw [h2] at q2 q3
      refine ⟨q1, fun last hl => ?_, ?_, q4⟩
      · obtain ⟨r1, r2⟩ := q2 x.key (Int.le_refl _)
        have e2 : (j : Int).toNat = j := Int.toNat_natCast j
        refine ⟨⟨⟨by show (0 : Int) ≤ (j : Int); omega, ?_, ?_, Int.le_trans hl h3⟩, ?_⟩, r2⟩
        · rw [List.length_map]
          have := (List.getElem?_eq_some_iff.1 hx).1
          show (j : Int) < _
          omega
        · show List.getD _ (j : Int).toNat false ≠ false
          rw [e2, was_get hx, hp.1]
          decide
        · show evOk _ (List.set _ (j : Int).toNat false) _
          rw [e2]
          exact r1
      · show evWas _ (List.set _ (j : Int).toNat false) = _
        rw [Int.toNat_natCast]
        exact q3
theorem Inv.tick {ps qs : List Int} {ds : List Dv} {now : Int} (h : Inv ps qs No No ds now) (up : Int) : Inv ps qs No No (tickd ds now up).1 (tickd ds now up).2.1 ∧ now ≤ (tickd ds now up).2.1 ∧
    (∀ last, last ≤ now → evOk (tickd ds now up).2.2.1 (ds.map (·.a)) last ∧ evLast (tickd ds now up).2.2.1 last ≤ (tickd ds now up).2.1) ∧ evWas (tickd ds now up).2.2.1 (ds.map (·.a)) = (tickd ds now up).1.map (·.a) := by
  unfold tickd
  split
  · rename_i hu
    obtain ⟨q1, q2, q3, _⟩ := Inv.tk hu.1 (awk ds + 1) ds now (Nat.lt_succ_self _) h hu.2
    exact ⟨q1, hu.2, q2, q3⟩
  · exact ⟨h, Int.le_refl _, fun last hl => ⟨trivial, hl⟩, rfl⟩
theorem Inv.begin {ps qs : List Int} (h : openOk ps qs) : Inv ps qs No No (devs ps qs ps.length) 0 := by
  have hg : ∀ (i : Nat) (x : Dv), (devs ps qs ps.length)[i]? = some x → i < ps.length ∧ x = dv0 ps qs i := fun i x hx => by
    have hl := (List.getElem?_eq_some_iff.1 hx).1
    rw [devs_len] at hl
    unfold devs at hx
    rw [List.getElem?_map, List.getElem?_range hl] at hx
    cases hx
    exact ⟨hl, rfl⟩
  refine ⟨devs_par h, by rw [devs_len]; exact h.2.1, by decide, fun i x hx => ?_, fun i x hx => ?_, fun i x hx ha => ?_, fun i x hx _ ht => ?_, fun i x hx => ?_, fun i x hx _ ha => ?_⟩
  all_goals obtain ⟨hl, rfl⟩ := hg i x hx
  · exact ⟨rfl, rfl⟩
  · exact ⟨⟨Int.le_refl _, (by decide : (0 : Int) ≤ 65535)⟩, (h.2.2 i hl).2.2, Int.le_refl _, (by decide : (0 : Int) ≤ 2147483647)⟩
  · cases ha
  · exact absurd ht (by decide : ¬ (0 : Int) < 0)
  · have : kidsOf (devs ps qs ps.length) i = 0 := by
      unfold kidsOf
      rw [List.countP_eq_zero]
      intro y hy
      obtain ⟨k, hk, rfl⟩ := List.getElem_of_mem hy
      obtain ⟨_, e⟩ := hg k _ (List.getElem?_eq_getElem hk)
      rw [e]
      simp [dv0]
    rw [this]
    rfl
  · cases ha
end Go.Proofs.Ytgnhddnhcfmipaa
