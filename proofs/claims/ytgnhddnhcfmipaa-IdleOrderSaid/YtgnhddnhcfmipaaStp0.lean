/- Idle: small steps and one; with no uses left and time enough all sleep. Plain: no program here. -/
import Derived.Test.YtgnhddnhcfmipaaInv3
namespace Go.Proofs.Ytgnhddnhcfmipaa
open Go.RowKit

theorem tk_fuel : ∀ (f f' : Nat) (ds : List Dv) (up : Int), Par ds → awk ds < f → awk ds < f' → tk f ds up = tk f' ds up
  | 0, _, _, _, _, h, _ => by omega
  | _ + 1, 0, _, _, _, _, h => by omega
  | f + 1, f' + 1, ds, up, hp, h1, h2 => by
    unfold tk
    simp only
    rcases scn_all ds up with ⟨e, _⟩ | ⟨j, x, hx, hpd, e, _, _⟩
    · rw [e, if_pos (show (-1 : Int) < 0 by decide), if_pos (show (-1 : Int) < 0 by decide)]
    · rw [e, if_neg (show ¬ (j : Int) < 0 by omega), if_neg (show ¬ (j : Int) < 0 by omega), Int.toNat_natCast]
      have := fall_awk hx hpd.1 hp x.key
      rw [tk_fuel f f' (fall ds j x.key) up (fall_par hx hp _) (by omega) (by omega)]
/-- the devices behind a Tick, and what it tells -/
def tkk (ds : List Dv) (up : Int) : List Dv × List Ev := tk (awk ds + 1) ds up
theorem tkk_none {ds : List Dv} {up : Int} (h : scn ds ds.length 0 (-1) up = (-1, up)) : tkk ds up = (ds, []) := by
  unfold tkk tk
  simp only
  rw [h, if_pos (show (-1 : Int) < 0 by decide)]
theorem tkk_some {ds : List Dv} {up : Int} {j : Nat} {x : Dv} (hp : Par ds) (hx : ds[j]? = some x) (ha : x.a = true) (h : scn ds ds.length 0 (-1) up = ((j : Int), x.key)) : tkk ds up = ((tkk (fall ds j x.key) up).1, ⟨x.key, j, false⟩ :: (tkk (fall ds j x.key) up).2) := by
  have hf := fall_awk hx ha hp x.key
  have e : tk (awk ds) (fall ds j x.key) up = tkk (fall ds j x.key) up := tk_fuel _ _ _ _ (fall_par hx hp _) (by omega) (by omega)
  conv => lhs; unfold tkk tk
  simp only
  rw [h, if_neg (show ¬ (j : Int) < 0 by omega), Int.toNat_natCast, e]
theorem scn_last (ds : List Dv) : ∀ (t i : Nat) (a due : Int), scn ds t i a due = (a, due) ∨ ∃ j : Nat, i ≤ j ∧ j < i + t ∧ (scn ds t i a due).1 = (j : Int) ∧ (scn ds t i a due).2 = (ds.getD j zd).key ∧ ∀ k, j < k → k < i + t → pend (ds.getD k zd) → (ds.getD j zd).key < (ds.getD k zd).key
  | 0, _, _, _ => Or.inl rfl
  | t + 1, i, a, due => by
    unfold scn
    by_cases h : dueBy (ds.getD i zd) due = true
    · rw [if_pos h]
      obtain ⟨_, _, q3⟩ := scn_spec ds t (i + 1) i (ds.getD i zd).key
      show scn ds t (i + 1) i (ds.getD i zd).key = (a, due) ∨ ∃ j : Nat, i ≤ j ∧ j < i + (t + 1) ∧ (scn ds t (i + 1) i (ds.getD i zd).key).1 = (j : Int) ∧ (scn ds t (i + 1) i (ds.getD i zd).key).2 = (ds.getD j zd).key ∧ ∀ k, j < k → k < i + (t + 1) → pend (ds.getD k zd) → (ds.getD j zd).key < (ds.getD k zd).key
      right
      rcases scn_last ds t (i + 1) i (ds.getD i zd).key with e | ⟨j, h1, h2, h3, h4, h5⟩
      · rcases q3 with ⟨_, hf⟩ | ⟨j, h1, _, h3, _, _⟩
        · exact ⟨i, Nat.le_refl _, by omega, by rw [e], by rw [e], fun k k1 k2 => hf k (by omega) (by omega)⟩
        · rw [e] at h3
          have h3' : (i : Int) = (j : Int) := h3
          omega
      · exact ⟨j, by omega, by omega, h3, h4, fun k k1 k2 => h5 k k1 (by omega)⟩
    · rw [if_neg h]
      rcases scn_last ds t (i + 1) a due with e | ⟨j, h1, h2, h3, h4, h5⟩
      · exact Or.inl e
      · exact Or.inr ⟨j, by omega, by omega, h3, h4, fun k k1 k2 => h5 k k1 (by omega)⟩
/-- a later time finds the same device first -/
theorem scn_later {ds : List Dv} {up1 up2 : Int} (hu : up1 ≤ up2) {j : Nat} {x : Dv} (hx : ds[j]? = some x) (hp : pend x) (e : scn ds ds.length 0 (-1) up1 = ((j : Int), x.key)) (hk : x.key ≤ up1) (hm : ∀ (k : Nat) (z : Dv), ds[k]? = some z → pend z → x.key ≤ z.key) : scn ds ds.length 0 (-1) up2 = ((j : Int), x.key) := by
  have hjl := (List.getElem?_eq_some_iff.1 hx).1
  rcases scn_all ds up2 with ⟨_, hno⟩ | ⟨j2, x2, hx2, hp2, e2, _, hm2⟩
  · have := hno j x hx hp
    omega
  · have k1 := hm j2 x2 hx2 hp2
    have k2 := hm2 j x hx hp
    have ek : x.key = x2.key := by omega
    have hj2l := (List.getElem?_eq_some_iff.1 hx2).1
    have l1 : ∀ k, j < k → k < ds.length → pend (ds.getD k zd) → x.key < (ds.getD k zd).key := by
      rcases scn_last ds ds.length 0 (-1) up1 with q | ⟨j', _, _, h3, _, h5⟩
      · rw [e] at q
        have q' : (j : Int) = -1 := (Prod.mk.inj q).1
        omega
      · rw [e] at h3
        have h3' : (j : Int) = (j' : Int) := h3
        have : j' = j := by omega
        subst this
        rw [getD_of hx] at h5
        exact fun k a b => h5 k a (by omega)
    have l2 : ∀ k, j2 < k → k < ds.length → pend (ds.getD k zd) → x2.key < (ds.getD k zd).key := by
      rcases scn_last ds ds.length 0 (-1) up2 with q | ⟨j', _, _, h3, _, h5⟩
      · rw [e2] at q
        have q' : (j2 : Int) = -1 := (Prod.mk.inj q).1
        omega
      · rw [e2] at h3
        have h3' : (j2 : Int) = (j' : Int) := h3
        have : j' = j2 := by omega
        subst this
        rw [getD_of hx2] at h5
        exact fun k a b => h5 k a (by omega)
    have ej : j = j2 := by
      rcases Nat.lt_trichotomy j j2 with q | q | q
      · have := l1 j2 q hj2l (by rw [getD_of hx2]; exact hp2)
        rw [getD_of hx2] at this
        omega
      · exact q
      · have := l2 j q hjl (by rw [getD_of hx]; exact hp)
        rw [getD_of hx] at this
        omega
    subst ej
    rw [hx] at hx2
    cases hx2
    exact e2
/-- one Tick, and one to later, tell what one to later tells -/
theorem tkk_split {up1 up2 : Int} (hu : up1 ≤ up2) : ∀ (n : Nat) (ds : List Dv), awk ds = n → Par ds → tkk ds up2 = ((tkk (tkk ds up1).1 up2).1, (tkk ds up1).2 ++ (tkk (tkk ds up1).1 up2).2)
  | n, ds, hn, hp => by
    rcases scn_all ds up1 with ⟨e, _⟩ | ⟨j, x, hx, hpd, e, hk, hm⟩
    · rw [tkk_none e]
      rfl
    · have hf := fall_awk hx hpd.1 hp x.key
      rw [tkk_some hp hx hpd.1 e, tkk_some hp hx hpd.1 (scn_later hu hx hpd e hk hm)]
      simp only
      rw [tkk_split hu (n - 1) (fall ds j x.key) (by omega) (fall_par hx hp _)]
      rfl
  termination_by n => n
  decreasing_by omega
theorem tickd_tkk {ds : List Dv} {now up : Int} (hu : okTick up ∧ now ≤ up) : tickd ds now up = ((tkk ds up).1, up, (tkk ds up).2, 0) := by
  unfold tickd
  rw [if_pos hu]
  rfl
theorem tkk_par {ds : List Dv} (h : Par ds) (up : Int) : Par (tkk ds up).1 ∧ (tkk ds up).1.length = ds.length := tk_par _ _ _ h
theorem tkk_ev (ds : List Dv) (up : Int) : (tkk ds up).2.length ≤ ds.length + 1 := by
  have := tk_ev (awk ds + 1) ds up
  have := awk_le ds
  unfold tkk
  omega
/-! ### all sleep -/
def sumTo (f : Nat → Int) : Nat → Int
  | 0 => 0
  | k + 1 => sumTo f k + f k
theorem sumTo_upd {f g : Nat → Int} {i : Nat} : ∀ n, i < n → (∀ j, j ≠ i → g j = f j) → sumTo g n = sumTo f n - f i + g i
  | 0, h, _ => by omega
  | n + 1, h, he => by
    unfold sumTo
    by_cases e : n = i
    · subst e
      have : ∀ m, m ≤ n → sumTo g m = sumTo f m := fun m hm => by
        induction m with
        | zero => rfl
        | succ m ih => unfold sumTo; rw [ih (by omega), he m (by omega)]
      rw [this n (Nat.le_refl _)]
      omega
    · have := sumTo_upd (f := f) (g := g) n (by omega) he
      rw [this, he n e]
      omega
theorem sumTo_le {f g : Nat → Int} : ∀ n, (∀ i, i < n → f i ≤ g i) → sumTo f n ≤ sumTo g n
  | 0, _ => Int.le_refl _
  | n + 1, h => by
    unfold sumTo
    have := sumTo_le (f := f) (g := g) n (fun i hi => h i (by omega))
    have := h n (by omega)
    omega
theorem sumTo_nonneg {f : Nat → Int} : ∀ n, (∀ i, i < n → 0 ≤ f i) → 0 ≤ sumTo f n
  | 0, _ => Int.le_refl _
  | n + 1, h => by
    unfold sumTo
    have := sumTo_nonneg (f := f) n (fun i hi => h i (by omega))
    have := h n (by omega)
    omega
def slept (qs : List Int) (ds : List Dv) (i : Nat) : Int := if (ds.getD i zd).a = true then 0 else qs.getD i 0
/-- the ones that are awake have slept no later than by the delays of those that sleep -/
def Soon (qs : List Int) (N : Int) (ds : List Dv) : Prop := ∀ (i : Nat) (x : Dv), ds[i]? = some x → x.s ≤ N + sumTo (slept qs ds) ds.length
def Idle (ds : List Dv) : Prop := ∀ (i : Nat) (x : Dv), ds[i]? = some x → x.t = 0
theorem slept_set {qs : List Int} {ds : List Dv} {i : Nat} {x y : Dv} (hx : ds[i]? = some y) (j : Nat) : slept qs (ds.set i x) j = if j = i then (if x.a = true then 0 else qs.getD i 0) else slept qs ds j := by
  unfold slept
  by_cases e : j = i
  · subst e
    rw [if_pos rfl, getD_of (List.getElem?_set_self (List.getElem?_eq_some_iff.1 hx).1)]
  · rw [if_neg e]
    have : (ds.set i x).getD j zd = ds.getD j zd := by
      rw [List.getD_eq_getElem?_getD, List.getElem?_set_ne (fun q => e q.symm), ← List.getD_eq_getElem?_getD]
    rw [this]
theorem fall_idle {ds : List Dv} {j : Nat} {x : Dv} (hx : ds[j]? = some x) (hp : Par ds) (h : Idle ds) (due : Int) : Idle (fall ds j due) := by
  unfold fall
  simp only
  rw [getD_of hx]
  have h1 : Idle (ds.set j { x with a := false }) := fun i z hz => by
    rcases get_set hz with ⟨_, rfl⟩ | ⟨_, hz⟩
    · exact h j x hx
    · exact h i z hz
  split
  · rename_i h0
    have hyl : x.p.toNat < (ds.set j { x with a := false }).length := by
      have := (hp j x hx).2
      have := (List.getElem?_eq_some_iff.1 hx).1
      rw [List.length_set]; omega
    have hy := List.getElem?_eq_getElem hyl
    rw [getD_of hy]
    intro i z hz
    rcases get_set hz with ⟨_, rfl⟩ | ⟨_, hz⟩
    · have := h1 _ _ hy
      split <;> exact this
    · exact h1 i z hz
  · exact h1
theorem fall_soon {ps qs : List Int} {ds : List Dv} {now N : Int} (h : Inv ps qs No No ds now) {j : Nat} {x : Dv} (hx : ds[j]? = some x) (hp : pend x) (hs : Soon qs N ds) : Soon qs N (fall ds j x.key) := by
  have hd := (h.fx j x hx).2
  have hb := h.bd j x hx
  have hkey : x.key = x.s + x.d := h.key hx
  have hjl := (List.getElem?_eq_some_iff.1 hx).1
  have hl1 : (ds.set j { x with a := false }).length = ds.length := List.length_set
  have hsum : sumTo (slept qs (ds.set j { x with a := false })) ds.length = sumTo (slept qs ds) ds.length + x.d := by
    have e1 : slept qs ds j = 0 := by unfold slept; rw [getD_of hx, if_pos hp.1]
    have e2 : slept qs (ds.set j { x with a := false }) j = x.d := by rw [slept_set hx, if_pos rfl, if_neg (show ¬ false = true by decide), hd]
    rw [sumTo_upd (f := slept qs ds) ds.length hjl (fun k hk => by rw [slept_set hx, if_neg hk]), e1, e2]
    omega
  have hx0 := hs j x hx
  have h1 : Soon qs N (ds.set j { x with a := false }) := fun i z hz => by
    rw [hl1, hsum]
    rcases get_set hz with ⟨_, rfl⟩ | ⟨_, hz⟩
    · show x.s ≤ _
      omega
    · have := hs i z hz
      omega
  unfold fall
  simp only
  rw [getD_of hx]
  split
  · rename_i h0
    have hyl : x.p.toNat < (ds.set j { x with a := false }).length := by
      have := (h.par j x hx).2
      rw [List.length_set]; omega
    have hy := List.getElem?_eq_getElem hyl
    rw [getD_of hy]
    generalize (ds.set j { x with a := false })[x.p.toNat] = y at *
    generalize hY : (if ({ y with k := wrap64 (y.k - 1) } : Dv).uses = 0 then ({ y with k := wrap64 (y.k - 1), s := x.key } : Dv) else { y with k := wrap64 (y.k - 1) }) = Y
    have Ya : Y.a = y.a := by rw [← hY]; split <;> rfl
    have Ys : Y.s = x.key ∨ Y.s = y.s := by
      rw [← hY]
      split
      · exact Or.inl rfl
      · exact Or.inr rfl
    have hsl : ∀ k, slept qs ((ds.set j { x with a := false }).set x.p.toNat Y) k = slept qs (ds.set j { x with a := false }) k := fun k => by
      rw [slept_set hy]
      by_cases e : k = x.p.toNat
      · subst e
        rw [if_pos rfl, Ya]
        unfold slept
        rw [getD_of hy]
      · rw [if_neg e]
    have hs2 : sumTo (slept qs ((ds.set j { x with a := false }).set x.p.toNat Y)) ds.length = sumTo (slept qs ds) ds.length + x.d := by
      rw [← hsum]
      congr 1
      funext k
      exact hsl k
    intro i z hz
    rw [List.length_set, hl1, hs2]
    rcases get_set hz with ⟨_, rfl⟩ | ⟨_, hz⟩
    · rcases Ys with q | q
      · rw [q, hkey]; omega
      · rw [q]
        have := h1 _ _ hy
        rw [hl1, hsum] at this
        exact this
    · have := h1 i z hz
      rw [hl1, hsum] at this
      exact this
  · exact h1
/-- the last one that is awake has nobody beneath -/
theorem last_awake {ds : List Dv} (hp : Par ds) : ∀ (n : Nat), (∀ (i : Nat) (x : Dv), n ≤ i → ds[i]? = some x → x.a = false) → (∀ (i : Nat) (x : Dv), ds[i]? = some x → x.a = false) ∨ ∃ (i : Nat) (x : Dv), ds[i]? = some x ∧ x.a = true ∧ kidsOf ds i = 0
  | 0, h => Or.inl fun i x hx => h i x (Nat.zero_le _) hx
  | n + 1, h => by
    by_cases hn : ∃ x, ds[n]? = some x ∧ x.a = true
    · obtain ⟨x, hx, ha⟩ := hn
      refine Or.inr ⟨n, x, hx, ha, ?_⟩
      rcases Nat.eq_zero_or_pos (kidsOf ds n) with q | q
      · exact q
      · obtain ⟨i, y, hy, hya, hyp⟩ := kids_pos q
        have := (hp i y hy).2
        have := h i y (by omega) hy
        rw [hya] at this
        cases this
    · refine last_awake hp n fun i x hi hx => ?_
      by_cases e : i = n
      · subst e
        cases hxa : x.a
        · rfl
        · exact absurd ⟨x, hx, hxa⟩ hn
      · exact h i x (by omega) hx
theorem all_sleep {ps qs : List Int} {N up : Int} (hu : okTick up) : ∀ (f : Nat) (ds : List Dv) (now : Int), awk ds < f → Inv ps qs No No ds now → now ≤ up → Soon qs N ds → Idle ds → N + sumTo (fun i => qs.getD i 0) ds.length ≤ up →
    ∀ (i : Nat) (x : Dv), (tk f ds up).1[i]? = some x → x.a = false := by
  intro f
  induction f with
  | zero => intro ds now h; omega
  | succ f ih =>
    intro ds now hf h hn hs hi hN
    unfold tk
    simp only
    rcases scn_all ds up with ⟨e, hno⟩ | ⟨j, x, hx, hp, e, hk, hm⟩
    · rw [e, if_pos (show (-1 : Int) < 0 by decide)]
      rcases last_awake h.par ds.length (fun i x hi hx => by rw [List.getElem?_eq_none hi] at hx; cases hx) with q | ⟨i, x, hx, ha, hk⟩
      · exact q
      · exfalso
        have hkd := h.kd i x hx
        have ht := hi i x hx
        have hpd : pend x := ⟨ha, by rw [(h.uses hx).1]; omega⟩
        have q1 := hno i x hx hpd
        have hkey : x.key = x.s + x.d := h.key hx
        have q2 := hs i x hx
        have hd := (h.fx i x hx).2
        have hil := (List.getElem?_eq_some_iff.1 hx).1
        have q3 : sumTo (slept qs ds) ds.length + x.d ≤ sumTo (fun i => qs.getD i 0) ds.length := by
          have e1 := sumTo_upd (f := slept qs ds) (g := fun k => if k = i then x.d else slept qs ds k) ds.length hil (fun k hk => by simp only [if_neg hk])
          have e2 : slept qs ds i = 0 := by unfold slept; rw [getD_of hx, if_pos ha]
          simp only [if_pos] at e1
          rw [e2] at e1
          have e3 := sumTo_le (f := fun k => if k = i then x.d else slept qs ds k) (g := fun i => qs.getD i 0) ds.length (fun k hk => by
            show (if k = i then x.d else slept qs ds k) ≤ qs.getD k 0
            split
            · rename_i q; rw [q, hd]; exact Int.le_refl _
            · have hzk := List.getElem?_eq_getElem hk
              have b := h.bd k _ hzk
              have fxk := (h.fx k _ hzk).2
              unfold slept
              rw [getD_of hzk]
              split
              · omega
              · exact Int.le_refl _)
          omega
        omega
    · rw [e, if_neg (show ¬ (j : Int) < 0 by omega), Int.toNat_natCast]
      obtain ⟨h1, _, _⟩ := h.fall hx hp rfl (by have := hu.2; omega) hm
      have hfa := fall_awk hx hp.1 h.par x.key
      exact ih (fall ds j x.key) x.key (by omega) h1 hk (fall_soon h hx hp hs) (fall_idle hx h.par hi _) (by rw [fall_len]; exact hN)
end Go.Proofs.Ytgnhddnhcfmipaa
