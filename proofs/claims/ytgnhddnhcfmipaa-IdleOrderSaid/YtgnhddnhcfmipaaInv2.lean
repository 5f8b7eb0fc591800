/- Idle: what holds of every book, behind a Get and a Tick. Plain: no program here. -/
import Derived.Test.YtgnhddnhcfmipaaInv
namespace Go.Proofs.Ytgnhddnhcfmipaa
open Go.RowKit

theorem was_get {ds : List Dv} {i : Nat} {x : Dv} (h : ds[i]? = some x) (b : Bool) : (ds.map (·.a)).getD i b = x.a := by
  rw [List.getD_eq_getElem?_getD, List.getElem?_map, h]; rfl
theorem map_a_set' {ds : List Dv} {i : Nat} {x : Dv} : (ds.set i x).map (·.a) = (ds.map (·.a)).set i x.a := List.map_set
/-- what is kept of a place by a call -/
def Kp (ds ds' : List Dv) : Prop := ds'.length = ds.length ∧ ∀ (i : Nat) (x x' : Dv), ds[i]? = some x → ds'[i]? = some x' → x'.t = x.t
theorem Kp.refl (ds : List Dv) : Kp ds ds := ⟨rfl, fun i x x' h h' => by rw [h] at h'; cases h'; rfl⟩
theorem kids_wake {ds : List Dv} {i : Nat} {x : Dv} (hx : ds[i]? = some x) (ha : x.a = false) (j : Nat) : kidsOf (ds.set i { x with a := true }) j = kidsOf ds j + (if x.p = (j : Int) then 1 else 0) := by
  have := kids_set (x := { x with a := true }) hx j
  rw [ha] at this
  simp only [Bool.false_and, Bool.false_eq_true, if_false, Bool.true_and, decide_eq_true_eq] at this
  exact this
theorem kids_fall {ds : List Dv} {i : Nat} {x : Dv} (hx : ds[i]? = some x) (ha : x.a = true) (j : Nat) : kidsOf (ds.set i { x with a := false }) j + (if x.p = (j : Int) then 1 else 0) = kidsOf ds j := by
  have := kids_set (x := { x with a := false }) hx j
  rw [ha] at this
  simp only [Bool.false_and, Bool.false_eq_true, if_false, Bool.true_and, decide_eq_true_eq] at this
  omega
set_option maxHeartbeats 2000000 in
/-- a device wakes, its parents first -/
theorem Inv.wake {ps qs : List Int} (now : Int) : ∀ (f i : Nat) (eu : Nat → Prop) (ds : List Dv), i < f → i < ds.length → Inv ps qs eu No ds now →
    Inv ps qs (fun j => eu j ∧ j ≠ i) (fun j => j = i) (wk f ds now i).1 now ∧ Kp ds (wk f ds now i).1 ∧ (∃ y, (wk f ds now i).1[i]? = some y ∧ y.a = true) ∧
      (∀ last, last ≤ now → evOk (wk f ds now i).2 (ds.map (·.a)) last ∧ evLast (wk f ds now i).2 last ≤ now) ∧ evWas (wk f ds now i).2 (ds.map (·.a)) = (wk f ds now i).1.map (·.a) := by
  intro f
  induction f with
  | zero => intro i eu ds h; omega
  | succ f ih =>
    intro i eu ds hf hi h
    have hx : ds[i]? = some ds[i] := List.getElem?_eq_getElem hi
    unfold wk
    simp only
    rw [getD_of hx]
    generalize ds[i] = x at *
    by_cases ha : x.a = true
    · rw [if_pos ha]
      refine ⟨⟨h.par, h.len, h.nw, h.fx, h.bd, h.up, fun j z hz he ht => ?_, h.kd, fun j z hz _ => h.du j z hz id⟩, Kp.refl _, ⟨x, hx, ha⟩, fun last hl => ⟨trivial, hl⟩, rfl⟩
      by_cases e : j = i
      · subst e; rw [hx] at hz; cases hz; exact ha
      · exact h.us j z hz (fun q => he ⟨q, e⟩) ht
    · rw [if_neg ha]
      have ha' : x.a = false := by simpa using ha
      have hpx := h.par i x hx
      by_cases h0 : 0 ≤ x.p
      · rw [if_pos h0]
        obtain ⟨pn, hpn⟩ : ∃ pn : Nat, x.p = (pn : Int) := ⟨x.p.toNat, by omega⟩
        have hpt : x.p.toNat = pn := by omega
        rw [hpt]
        obtain ⟨h1, hk, ⟨y, hy, hya⟩, hev, hwas⟩ := ih pn eu ds (by omega) (by omega) h
        have hfar := wk_far f ds now pn h.par i (by omega)
        generalize wk f ds now pn = R at *
        obtain ⟨ds1, es1⟩ := R
        simp only at h1 hk hy hev hwas hfar ⊢
        have hx1 : ds1[i]? = some x := hfar.trans hx
        rw [getD_of hy]
        have hkd := h1.kd pn y hy
        have hle := kids_le ds1 pn
        have hlen := h1.len
        have hw : wrap64 (y.k + 1) = y.k + 1 := wrap_id (by omega)
        rw [hw]
        have hx2 : (ds1.set pn { y with k := y.k + 1 })[i]? = some x := by rw [List.getElem?_set_ne (by omega)]; exact hx1
        have hg : ∀ (j : Nat) (z : Dv), ((ds1.set pn { y with k := y.k + 1 }).set i { x with a := true })[j]? = some z →
            (j = i ∧ z = { x with a := true }) ∨ (j ≠ i ∧ j = pn ∧ z = { y with k := y.k + 1 }) ∨ (j ≠ i ∧ j ≠ pn ∧ ds1[j]? = some z) := fun j z hz => by
          rcases get_set hz with ⟨q1, q2⟩ | ⟨q1, q2⟩
          · exact Or.inl ⟨q1, q2⟩
          · rcases get_set q2 with ⟨q3, q4⟩ | ⟨q3, q4⟩
            · exact Or.inr (Or.inl ⟨q1, q3, q4⟩)
            · exact Or.inr (Or.inr ⟨q1, q3, q4⟩)
        have hkids : ∀ j, kidsOf ((ds1.set pn { y with k := y.k + 1 }).set i { x with a := true }) j = kidsOf ds1 j + (if j = pn then 1 else 0) := fun j => by
          rw [kids_wake hx2 ha', kids_same (x := { y with k := y.k + 1 }) hy rfl rfl, hpn]
          by_cases e : j = pn
          · subst e; simp
          · rw [if_neg e, if_neg (by omega)]
        refine ⟨⟨Par.set (x := { x with a := true }) (Par.set (x := { y with k := y.k + 1 }) h1.par hy rfl) hx2 rfl, by rw [List.length_set, List.length_set]; exact hlen, h.nw, fun j z hz => ?_, fun j z hz => ?_, fun j z hz ha hp => ?_, fun j z hz he ht => ?_, fun j z hz => ?_, fun j z hz he ha ht hkk => ?_⟩, ⟨by rw [List.length_set, List.length_set]; exact hk.1, fun j z z' hz hz' => ?_⟩, ⟨_, List.getElem?_set_self (List.getElem?_eq_some_iff.1 hx2).1, rfl⟩, fun last hl => ?_, ?_⟩
        · rcases hg j z hz with ⟨rfl, rfl⟩ | ⟨_, rfl, rfl⟩ | ⟨_, _, hz⟩
          · exact h1.fx _ x hx1
          · exact h1.fx _ y hy
          · exact h1.fx _ _ hz
        · rcases hg j z hz with ⟨rfl, rfl⟩ | ⟨_, rfl, rfl⟩ | ⟨_, _, hz⟩
          · exact h1.bd _ x hx1
          · exact h1.bd _ y hy
          · exact h1.bd _ _ hz
        · have key : ∀ (m : Nat) (z' : Dv), ds1[m]? = some z' → z'.a = true → ∃ w, ((ds1.set pn { y with k := y.k + 1 }).set i { x with a := true })[m]? = some w ∧ w.a = true := fun m z' q1 q2 => by
            refine ⟨_, has_set hx2 (has_set hy q1), ?_⟩
            split
            · rfl
            · split
              · exact hya
              · exact q2
          rcases hg j z hz with ⟨rfl, rfl⟩ | ⟨_, rfl, rfl⟩ | ⟨_, _, hz⟩
          · have e : ({ x with a := true } : Dv).p.toNat = pn := by show x.p.toNat = pn; omega
            rw [e]
            exact key pn y hy hya
          · obtain ⟨z', q1, q2⟩ := h1.up _ _ hy hya hp
            exact key _ z' q1 q2
          · obtain ⟨z', q1, q2⟩ := h1.up _ _ hz ha hp
            exact key _ z' q1 q2
        · rcases hg j z hz with ⟨rfl, rfl⟩ | ⟨_, rfl, rfl⟩ | ⟨q1, q2, hz⟩
          · rfl
          · exact hya
          · exact h1.us _ _ hz (fun q => he ⟨q.1, q1⟩) ht
        · rw [hkids]
          rcases hg j z hz with ⟨rfl, rfl⟩ | ⟨q1, rfl, rfl⟩ | ⟨q1, q2, hz⟩
          · rw [if_neg (by omega)]
            exact h1.kd _ x hx1
          · rw [if_pos rfl]
            show y.k + 1 = _
            omega
          · rw [if_neg q2]
            exact h1.kd _ _ hz
        · rcases hg j z hz with ⟨rfl, rfl⟩ | ⟨q1, rfl, rfl⟩ | ⟨q1, q2, hz⟩
          · exact absurd rfl he
          · have : y.k + 1 = 0 := hkk
            omega
          · exact h1.du _ _ hz q2 ha ht hkk
        · have hz1 : ∃ w, ds1[j]? = some w := ⟨_, List.getElem?_eq_getElem (by rw [hk.1]; exact (List.getElem?_eq_some_iff.1 hz).1)⟩
          obtain ⟨w, hw1⟩ := hz1
          have q := hk.2 j z w hz hw1
          rcases hg j z' hz' with ⟨rfl, rfl⟩ | ⟨_, rfl, rfl⟩ | ⟨_, _, hz2⟩
          · rw [hx1] at hw1; cases hw1; exact q
          · rw [hy] at hw1; cases hw1; exact q
          · rw [hw1] at hz2; cases hz2; exact q
        · obtain ⟨e1, e2⟩ := hev last hl
          refine ⟨evOk_app _ _ _ _ e1 ⟨by show (0 : Int) ≤ (i : Int); omega, ?_, ?_, e2⟩, by rw [evLast_app]; exact Int.le_refl _⟩
          · rw [evWas_len, List.length_map]
            show (i : Int) < _
            omega
          · show List.getD _ (i : Int).toNat true ≠ true
            rw [hwas, Int.toNat_natCast, was_get hx1, ha']
            decide
        · rw [evWas_app, hwas, Int.toNat_natCast, map_a_set', map_a_set (x := { y with k := y.k + 1 }) hy rfl]
      · rw [if_neg h0]
        have hkids : ∀ j, kidsOf (ds.set i { x with a := true }) j = kidsOf ds j := fun j => by
          rw [kids_wake hx ha', if_neg (by omega)]
          rfl
        refine ⟨⟨Par.set (x := { x with a := true }) h.par hx rfl, by rw [List.length_set]; exact h.len, h.nw, fun j z hz => ?_, fun j z hz => ?_, fun j z hz ha hp => ?_, fun j z hz he ht => ?_, fun j z hz => ?_, fun j z hz he ha ht hkk => ?_⟩, ⟨by rw [List.length_set], fun j z z' hz hz' => ?_⟩, ⟨_, List.getElem?_set_self hi, rfl⟩, fun last hl => ?_, ?_⟩
        · rcases get_set hz with ⟨rfl, rfl⟩ | ⟨_, hz⟩
          · exact h.fx _ x hx
          · exact h.fx _ _ hz
        · rcases get_set hz with ⟨rfl, rfl⟩ | ⟨_, hz⟩
          · exact h.bd _ x hx
          · exact h.bd _ _ hz
        · rcases get_set hz with ⟨rfl, rfl⟩ | ⟨_, hz⟩
          · exact absurd hp h0
          · obtain ⟨z', q1, q2⟩ := h.up _ _ hz ha hp
            refine ⟨_, has_set hx q1, ?_⟩
            split
            · rfl
            · exact q2
        · rcases get_set hz with ⟨rfl, rfl⟩ | ⟨q1, hz⟩
          · rfl
          · exact h.us _ _ hz (fun q => he ⟨q, q1⟩) ht
        · rw [hkids]
          rcases get_set hz with ⟨rfl, rfl⟩ | ⟨_, hz⟩
          · exact h.kd _ x hx
          · exact h.kd _ _ hz
        · rcases get_set hz with ⟨rfl, rfl⟩ | ⟨_, hz⟩
          · exact absurd rfl he
          · exact h.du _ _ hz id ha ht hkk
        · rcases get_set hz' with ⟨rfl, rfl⟩ | ⟨_, hz2⟩
          · rw [hx] at hz; cases hz; rfl
          · rw [hz] at hz2; cases hz2; rfl
        · refine ⟨⟨⟨by show (0 : Int) ≤ (i : Int); omega, ?_, ?_, hl⟩, trivial⟩, Int.le_refl _⟩
          · rw [List.length_map]
            show (i : Int) < _
            omega
          · show (ds.map (·.a)).getD (i : Int).toNat true ≠ true
            rw [Int.toNat_natCast, was_get hx, ha']
            decide
        · show (ds.map (·.a)).set (i : Int).toNat true = _
          rw [Int.toNat_natCast, map_a_set']
theorem Inv.get {ps qs : List Int} {ds : List Dv} {now : Int} (h : Inv ps qs No No ds now) (i : Int) : Inv ps qs No No (getd ds now i).1 now ∧
    (∀ last, last ≤ now → evOk (getd ds now i).2.1 (ds.map (·.a)) last ∧ evLast (getd ds now i).2.1 last ≤ now) ∧ evWas (getd ds now i).2.1 (ds.map (·.a)) = (getd ds now i).1.map (·.a) := by
  unfold getd
  split
  · rename_i hi
    simp only
    split
    · exact ⟨h, fun last hl => ⟨trivial, hl⟩, rfl⟩
    · rename_i ht
      have hn : i.toNat < ds.length := by have := hi.1; have := hi.2; omega
      have hx := List.getElem?_eq_getElem hn
      rw [getD_of hx] at ht ⊢
      generalize i.toNat = n at *
      generalize ds[n] = x at *
      have hb := h.bd _ _ hx
      have hw : wrap64 (x.t + 1) = x.t + 1 := wrap_id (by omega)
      rw [hw]
      have h1 : Inv ps qs (fun j => j = n) No (ds.set n { x with t := x.t + 1 }) now := by
        refine ⟨Par.set (x := { x with t := x.t + 1 }) h.par hx rfl, by rw [List.length_set]; exact h.len, h.nw, fun j z hz => ?_, fun j z hz => ?_, fun j z hz ha hp => ?_, fun j z hz he ht => ?_, fun j z hz => ?_, fun j z hz he ha ht hkk => ?_⟩
        · rcases get_set hz with ⟨rfl, rfl⟩ | ⟨_, hz⟩
          · exact h.fx _ x hx
          · exact h.fx _ _ hz
        · rcases get_set hz with ⟨rfl, rfl⟩ | ⟨_, hz⟩
          · exact ⟨⟨by show 0 ≤ x.t + 1; omega, by show x.t + 1 ≤ 65535; omega⟩, hb.2⟩
          · exact h.bd _ _ hz
        · have key : ∀ (m : Nat) (z' : Dv), ds[m]? = some z' → z'.a = true → ∃ w, (ds.set n { x with t := x.t + 1 })[m]? = some w ∧ w.a = true := fun m z' q1 q2 => by
            refine ⟨_, has_set hx q1, ?_⟩
            split
            · rename_i q
              rw [q, hx] at q1
              cases q1
              exact q2
            · exact q2
          rcases get_set hz with ⟨rfl, rfl⟩ | ⟨_, hz⟩
          · obtain ⟨z', q1, q2⟩ := h.up _ _ hx ha hp
            exact key _ z' q1 q2
          · obtain ⟨z', q1, q2⟩ := h.up _ _ hz ha hp
            exact key _ z' q1 q2
        · rcases get_set hz with ⟨rfl, rfl⟩ | ⟨_, hz⟩
          · exact absurd rfl he
          · exact h.us _ _ hz id ht
        · rw [kids_same (x := { x with t := x.t + 1 }) hx rfl rfl]
          rcases get_set hz with ⟨rfl, rfl⟩ | ⟨_, hz⟩
          · exact h.kd _ x hx
          · exact h.kd _ _ hz
        · rcases get_set hz with ⟨rfl, rfl⟩ | ⟨_, hz⟩
          · have : x.t + 1 = 0 := ht
            omega
          · exact h.du _ _ hz id ha ht hkk
      have hn1 : n < (ds.set n { x with t := x.t + 1 }).length := by rw [List.length_set]; exact hn
      obtain ⟨q, hk, ⟨y, hy, hya⟩, hev, hwas⟩ := Inv.wake now (n + 1) n _ _ (Nat.lt_succ_self n) hn1 h1
      have hma : (ds.set n { x with t := x.t + 1 }).map (·.a) = ds.map (·.a) := map_a_set (x := { x with t := x.t + 1 }) hx rfl
      rw [hma] at hev hwas
      have hyt : y.t = x.t + 1 := hk.2 n _ y (List.getElem?_set_self hn) hy
      refine ⟨⟨q.par, q.len, q.nw, q.fx, q.bd, q.up, fun j z hz _ ht => q.us j z hz (fun e => e.2 e.1) ht, q.kd, fun j z hz _ ha ht hkk => ?_⟩, hev, hwas⟩
      by_cases e : j = n
      · subst e
        rw [hy] at hz
        cases hz
        omega
      · exact q.du j z hz e ha ht hkk
  · exact ⟨h, fun last hl => ⟨trivial, hl⟩, rfl⟩
end Go.Proofs.Ytgnhddnhcfmipaa
