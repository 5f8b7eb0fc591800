/- Rails: the moves that lead from volts that hold to others: behind each they hold; plain. -/
import Derived.Test.YtbbjnhajmckjoaaChn
namespace Go.Proofs.Ytbbjnhajmckjoaa

theorem fok_of : ∀ (l : List Pt) (k : Nat), (∀ i (h : i < l.length), fgood (k + i) l[i]) → fok k l = true
  | [], _, _ => rfl
  | p :: t, k, h => by
    have h0 : fgood k p := h 0 (by simp)
    unfold fok
    rw [if_pos h0]
    exact fok_of t (k + 1) fun i hi => by
      have := h (i + 1) (by simpa using hi)
      rw [show k + (i + 1) = k + 1 + i by omega] at this
      simpa using this
theorem vgo_none {l : List Pt} {v : List Int} : ∀ (n k : Nat), (∀ i, k ≤ i → i < k + n → ¬ vbad l v i) → vgo l v n k = none
  | 0, _, _ => rfl
  | n + 1, k, h => by
    unfold vgo
    rw [if_neg (h k (Nat.le_refl _) (by omega))]
    exact vgo_none n (k + 1) fun i h1 h2 => h i (by omega) (by omega)
def okf (f : List Pt) (g : Nat → Int) : Prop := ∀ i, i < f.length → 0 ≤ g i ∧ g i ≤ 1000000000000 ∧ (g i ≠ 0 → 0 ≤ (f.getD i (0, 0)).1 → g i + (f.getD i (0, 0)).2 ≤ g (f.getD i (0, 0)).1.toNat)
def Is (n : Nat) (w : List Int) (g : Nat → Int) : Prop := w.length = n ∧ ∀ j, j < n → w.getD j 0 = g j
def Low (f : List Pt) : Prop := ∀ i, i < f.length → (f.getD i (0, 0)).1 < (i : Int)
theorem holds_is {f : List Pt} {w : List Int} {g : Nat → Int} (hm : may f = true) (hlow : Low f) (h : Is f.length w g) (ho : okf f g) : (holds f w).2 = 0 := by
  have hv : vgo f w (min f.length w.length) 0 = none := vgo_none _ _ fun i _ hi => by
    rw [h.1, Nat.min_self, Nat.zero_add] at hi
    obtain ⟨h1, h2, h3⟩ := ho i hi
    have hl := hlow i hi
    unfold vbad
    rw [h.2 i hi]
    intro hb
    rcases hb with hb | hb | ⟨hb1, hb2, hb3⟩
    · omega
    · omega
    · rw [h.2 _ (by omega)] at hb3
      have := h3 hb1 hb2
      omega
  rw [holds_end hm hv, if_pos h.1.symm]
theorem Is.set {n : Nat} {w : List Int} {g : Nat → Int} (h : Is n w g) (r : Nat) (x : Int) (hr : r < n) : Is n (w.set r x) (fun j => if j = r then x else g j) := by
  refine ⟨by rw [List.length_set]; exact h.1, fun j hj => ?_⟩
  have := h.2 j hj
  simp only [List.getD, List.getElem?_set] at this ⊢
  by_cases e : r = j
  · rw [if_pos e, if_pos (by rw [h.1]; exact hr)]; rw [if_pos e.symm]; rfl
  · rw [if_neg e, if_neg (fun q => e q.symm)]; exact this
theorem Is.congr {n : Nat} {w : List Int} {g g' : Nat → Int} (h : Is n w g) (e : ∀ j, j < n → g j = g' j) : Is n w g' := ⟨h.1, fun j hj => (h.2 j hj).trans (e j hj)⟩
def Ms (n : Nat) (w : List Bool) (g : Nat → Bool) : Prop := w.length = n ∧ ∀ j, j < n → w.getD j true = g j
theorem Ms.set {n : Nat} {w : List Bool} {g : Nat → Bool} (h : Ms n w g) (r : Nat) (hr : r < n) : Ms n (w.set r true) (fun j => if j = r then true else g j) := by
  refine ⟨by rw [List.length_set]; exact h.1, fun j hj => ?_⟩
  have := h.2 j hj
  simp only [List.getD, List.getElem?_set] at this ⊢
  by_cases e : r = j
  · rw [if_pos e, if_pos (by rw [h.1]; exact hr)]; rw [if_pos e.symm]; rfl
  · rw [if_neg e, if_neg (fun q => e q.symm)]; exact this
theorem Ms.congr {n : Nat} {w : List Bool} {g g' : Nat → Bool} (h : Ms n w g) (e : ∀ j, j < n → g j = g' j) : Ms n w g' := ⟨h.1, fun j hj => (h.2 j hj).trans (e j hj)⟩

/-- moves that may be made, one behind the other -/
def Way (f : List Pt) (b : List Int) : List Pt → List Bool → List Int → Prop
  | [], _, now => now = b
  | p :: ms, mv, now => 0 ≤ p.1 ∧ p.1 < f.length ∧ mv.getD p.1.toNat true = false ∧ (holds f (now.set p.1.toNat p.2)).2 = 0 ∧ Way f b ms (mv.set p.1.toNat true) (now.set p.1.toNat p.2)

section
variable (f : List Pt) (a b : List Int)
def Up (k j : Nat) : Int := if j < k then max (a.getD j 0) (b.getD j 0) else a.getD j 0
def Dn (k j : Nat) : Int := if j < k then max (a.getD j 0) (b.getD j 0) else b.getD j 0
def mU (k j : Nat) : Bool := decide (j < k ∧ a.getD j 0 < b.getD j 0)
def mD (k j : Nat) : Bool := decide (a.getD j 0 < b.getD j 0 ∨ (k ≤ j ∧ b.getD j 0 < a.getD j 0))
variable {f a b}
theorem up_ok (hlow : Low f) (ha : okf f (a.getD · 0)) (hb : okf f (b.getD · 0)) (hab : ∀ i, i < f.length → 0 ≤ (f.getD i (0, 0)).2) (k : Nat) : okf f (Up a b k) := by
  intro i hi
  obtain ⟨a1, a2, a3⟩ := ha i hi
  obtain ⟨b1, b2, b3⟩ := hb i hi
  have hl := hlow i hi
  have hn := hab i hi
  have pa : 0 ≤ (f.getD i (0, 0)).1 → 0 ≤ a.getD (f.getD i (0, 0)).1.toNat 0 := fun q => (ha _ (by omega)).1
  have pb : 0 ≤ (f.getD i (0, 0)).1 → 0 ≤ b.getD (f.getD i (0, 0)).1.toNat 0 := fun q => (hb _ (by omega)).1
  simp only at a1 a2 a3 b1 b2 b3
  unfold Up
  generalize f.getD i (0, 0) = p at *
  generalize a.getD i 0 = x at *
  generalize b.getD i 0 = y at *
  generalize a.getD p.1.toNat 0 = px at *
  generalize b.getD p.1.toNat 0 = py at *
  refine ⟨by split <;> omega, by split <;> omega, fun h1 h2 => ?_⟩
  have qa := pa h2
  have qb := pb h2
  by_cases hk : i < k
  · rw [if_pos hk] at h1 ⊢
    rw [if_pos (by omega)]
    by_cases hx : x = 0
    · have := b3 (by omega) h2; omega
    · have := a3 hx h2
      by_cases hy : y = 0
      · omega
      · have := b3 hy h2; omega
  · rw [if_neg hk] at h1 ⊢
    have := a3 h1 h2
    split <;> omega
theorem dn_ok (hlow : Low f) (ha : okf f (a.getD · 0)) (hb : okf f (b.getD · 0)) (hab : ∀ i, i < f.length → 0 ≤ (f.getD i (0, 0)).2) (k : Nat) : okf f (Dn a b k) := by
  have := up_ok (a := b) (b := a) hlow hb ha hab k
  have e : Up b a k = Dn a b k := by
    funext j
    unfold Up Dn
    by_cases h : j < k
    · rw [if_pos h, if_pos h, Int.max_comm]
    · rw [if_neg h, if_neg h]
  rw [e] at this
  exact this
theorem up_way (hm : may f = true) (hlow : Low f) (ha : okf f (a.getD · 0)) (hb : okf f (b.getD · 0)) (hab : ∀ i, i < f.length → 0 ≤ (f.getD i (0, 0)).2) :
    ∀ (k : Nat), k ≤ f.length → ∀ ms, (∀ mv now, Ms f.length mv (mU a b k) → Is f.length now (Up a b k) → Way f b ms mv now) → ∀ mv now, Ms f.length mv (mU a b 0) → Is f.length now (Up a b 0) → Way f b (ups a b k ++ ms) mv now
  | 0, _, ms, h, mv, now, h1, h2 => h mv now h1 h2
  | k + 1, hk, ms, h, mv, now, h1, h2 => by
    rw [show ups a b (k + 1) = ups a b k ++ (if a.getD k 0 < b.getD k 0 then [((k : Int), b.getD k 0)] else []) from rfl, List.append_assoc]
    refine up_way hm hlow ha hb hab k (by omega) _ (fun mv now h1 h2 => ?_) mv now h1 h2
    by_cases hc : a.getD k 0 < b.getD k 0
    · rw [if_pos hc, List.singleton_append]
      have hnow := (h2.set k (b.getD k 0) (by omega)).congr (g' := Up a b (k + 1)) fun j hj => by
        unfold Up
        by_cases e : j = k
        · subst e; rw [if_pos rfl, if_pos (by omega)]; omega
        · rw [if_neg e]
          by_cases q : j < k
          · rw [if_pos q, if_pos (by omega)]
          · rw [if_neg q, if_neg (by omega)]
      have hmv := (h1.set k (by omega)).congr (g' := mU a b (k + 1)) fun j hj => by
        unfold mU
        by_cases e : j = k
        · subst e; rw [if_pos rfl, decide_eq_true]; exact ⟨by omega, hc⟩
        · rw [if_neg e]
          by_cases q : j < k
          · simp [q, show j < k + 1 by omega]
          · simp [q, show ¬ j < k + 1 by omega]
      refine ⟨by simp, by simp only; omega, ?_, ?_, ?_⟩
      · show mv.getD (k : Int).toNat true = false
        rw [Int.toNat_natCast, h1.2 k (by omega)]
        simp [mU]
      · show (holds f (now.set (k : Int).toNat (b.getD k 0))).2 = 0
        rw [Int.toNat_natCast]
        exact holds_is hm hlow hnow (up_ok hlow ha hb hab _)
      · show Way f b ms (mv.set (k : Int).toNat true) (now.set (k : Int).toNat (b.getD k 0))
        rw [Int.toNat_natCast]
        exact h _ _ hmv hnow
    · rw [if_neg hc, List.nil_append]
      refine h mv now (h1.congr fun j hj => ?_) (h2.congr fun j hj => ?_)
      · unfold mU
        by_cases e : j = k
        · subst e; exact decide_eq_decide.2 (by constructor <;> intro q <;> omega)
        · by_cases q : j < k
          · simp [q, show j < k + 1 by omega]
          · simp [q, show ¬ j < k + 1 by omega]
      · unfold Up
        by_cases e : j = k
        · subst e; rw [if_neg (by omega), if_pos (by omega)]; omega
        · by_cases q : j < k
          · rw [if_pos q, if_pos (by omega)]
          · rw [if_neg q, if_neg (by omega)]
theorem dn_way (hm : may f = true) (hlow : Low f) (ha : okf f (a.getD · 0)) (hb : okf f (b.getD · 0)) (hab : ∀ i, i < f.length → 0 ≤ (f.getD i (0, 0)).2) (hbl : b.length = f.length) :
    ∀ (k : Nat), k ≤ f.length → ∀ mv now, Ms f.length mv (mD a b k) → Is f.length now (Dn a b k) → Way f b (dns a b k).reverse mv now
  | 0, _, mv, now, h1, h2 => by
    show now = b
    refine List.ext_getElem (by rw [h2.1, hbl]) fun i p q => ?_
    have := h2.2 i (by rw [h2.1] at p; exact p)
    simp only [Dn, Nat.not_lt_zero, if_false, List.getD] at this
    rw [List.getElem?_eq_getElem p, List.getElem?_eq_getElem q] at this
    simpa using this
  | k + 1, hk, mv, now, h1, h2 => by
    rw [show dns a b (k + 1) = dns a b k ++ (if b.getD k 0 < a.getD k 0 then [((k : Int), b.getD k 0)] else []) from rfl, List.reverse_append]
    by_cases hc : b.getD k 0 < a.getD k 0
    · rw [if_pos hc, List.reverse_singleton, List.singleton_append]
      have hnow := (h2.set k (b.getD k 0) (by omega)).congr (g' := Dn a b k) fun j hj => by
        unfold Dn
        by_cases e : j = k
        · subst e; rw [if_pos rfl, if_neg (by omega)]
        · rw [if_neg e]
          by_cases q : j < k
          · rw [if_pos q, if_pos (by omega)]
          · rw [if_neg q, if_neg (by omega)]
      have hmv := (h1.set k (by omega)).congr (g' := mD a b k) fun j hj => by
        unfold mD
        by_cases e : j = k
        · subst e; rw [if_pos rfl, decide_eq_true]; exact Or.inr ⟨Nat.le_refl _, hc⟩
        · rw [if_neg e]
          by_cases q : k ≤ j
          · simp [q, show k + 1 ≤ j by omega]
          · simp [q, show ¬ k + 1 ≤ j by omega]
      refine ⟨by simp, by simp only; omega, ?_, ?_, ?_⟩
      · show mv.getD (k : Int).toNat true = false
        rw [Int.toNat_natCast, h1.2 k (by omega)]
        simp only [mD, decide_eq_false_iff_not]
        omega
      · show (holds f (now.set (k : Int).toNat (b.getD k 0))).2 = 0
        rw [Int.toNat_natCast]
        exact holds_is hm hlow hnow (dn_ok hlow ha hb hab _)
      · show Way f b _ (mv.set (k : Int).toNat true) (now.set (k : Int).toNat (b.getD k 0))
        rw [Int.toNat_natCast]
        exact dn_way hm hlow ha hb hab hbl k (by omega) _ _ hmv hnow
    · rw [if_neg hc, List.reverse_nil, List.nil_append]
      refine dn_way hm hlow ha hb hab hbl k (by omega) mv now (h1.congr fun j hj => ?_) (h2.congr fun j hj => ?_)
      · unfold mD
        by_cases e : j = k
        · subst e; exact decide_eq_decide.2 (by constructor <;> intro q <;> omega)
        · by_cases q : k ≤ j
          · simp [q, show k + 1 ≤ j by omega]
          · simp [q, show ¬ k + 1 ≤ j by omega]
      · unfold Dn
        by_cases e : j = k
        · subst e; rw [if_pos (by omega), if_neg (by omega)]; omega
        · by_cases q : j < k
          · rw [if_pos q, if_pos (by omega)]
          · rw [if_neg q, if_neg (by omega)]
theorem ups_dns : ∀ k, (ups a b k).length = (dns b a k).length
  | 0 => rfl
  | k + 1 => by
    unfold ups dns
    rw [List.length_append, List.length_append, ups_dns k]
    by_cases hc : a.getD k 0 < b.getD k 0
    · rw [if_pos hc, if_pos hc]; rfl
    · rw [if_neg hc, if_neg hc]
end
/-- the chained rails -/
theorem chl_at (l : List Pt) : ∀ (m i : Nat), i < m → (chl l m).getD i (0, 0) = chp l i
  | m + 1, i, h => by
    rw [show chl l (m + 1) = chl l m ++ [chp l m] from rfl]
    rcases Nat.lt_or_ge i m with q | q
    · rw [List.getD, List.getElem?_append_left (by rw [chl_len]; exact q)]
      exact chl_at l m i q
    · obtain rfl : i = m := by omega
      rw [List.getD, List.getElem?_append_right (by rw [chl_len]; exact Nat.le_refl _), chl_len, Nat.sub_self]
      rfl
theorem chv_at (l : List Pt) (v : List Int) : ∀ (m i : Nat), i < m → (chv l v m).getD i 0 = chx l v (chv l v i) i
  | m + 1, i, h => by
    rw [show chv l v (m + 1) = chv l v m ++ [chx l v (chv l v m) m] from rfl]
    rcases Nat.lt_or_ge i m with q | q
    · rw [List.getD, List.getElem?_append_left (by rw [chv_len]; exact q)]
      exact chv_at l v m i q
    · obtain rfl : i = m := by omega
      rw [List.getD, List.getElem?_append_right (by rw [chv_len]; exact Nat.le_refl _), chv_len, Nat.sub_self]
      rfl
theorem ch_may (l : List Pt) (m : Nat) (hm : m ≤ 30) : may (chl l m) = true := by
  unfold may
  rw [chl_len, if_pos (by omega)]
  refine fok_of _ _ fun i hi => ?_
  rw [chl_len] at hi
  have := chl_at l m i hi
  rw [List.getD, List.getElem?_eq_getElem (by rw [chl_len]; exact hi)] at this
  simp only [Option.getD_some] at this
  rw [this]
  have h := chp_lo l i
  unfold fgood
  omega
theorem ch_low (l : List Pt) (m : Nat) : Low (chl l m) := fun i hi => by
  rw [chl_len] at hi
  rw [chl_at l m i hi]
  exact (chp_lo l i).2.1
theorem ch_above (l : List Pt) (m : Nat) : ∀ i, i < (chl l m).length → 0 ≤ ((chl l m).getD i (0, 0)).2 := fun i hi => by
  rw [chl_len] at hi
  rw [chl_at l m i hi]
  exact (chp_lo l i).2.2.1
theorem ch_ok (l : List Pt) (v : List Int) (m : Nat) : okf (chl l m) ((chv l v m).getD · 0) := fun i hi => by
  rw [chl_len] at hi
  have hc := chx_lo l v (chv l v i) i
  have hp := chp_lo l i
  simp only
  rw [chl_at l m i hi, chv_at l v m i hi]
  refine ⟨hc.1, by omega, fun h1 h2 => ?_⟩
  rw [chv_at l v m _ (by omega)]
  have e := chv_at l v i (chp l i).1.toNat (by omega)
  rw [← e]
  have hx : chx l v (chv l v i) i = min (ch0 v i) (max 0 ((chv l v i).getD (chp l i).1.toNat 0 - (chp l i).2)) := by unfold chx; rw [if_pos h2]
  have h0 := ch0_lo v i
  omega
theorem ways (l : List Pt) (u v : List Int) (m : Nat) (hm : m ≤ 30) :
    (moves (chl l m) (chv l u m) (chv l v m)).2 = 0 ∧ (moves (chl l m) (chv l v m) (chv l u m)).2 = 0 ∧
    (moves (chl l m) (chv l u m) (chv l v m)).1.length = (moves (chl l m) (chv l v m) (chv l u m)).1.length ∧
    Way (chl l m) (chv l v m) (moves (chl l m) (chv l u m) (chv l v m)).1 (List.replicate m false) (chv l u m) := by
  have hmay := ch_may l m hm
  have hlow := ch_low l m
  have hab := ch_above l m
  have ha := ch_ok l u m
  have hb := ch_ok l v m
  have h1 : (holds (chl l m) (chv l u m)).2 = 0 := holds_is hmay hlow ⟨by rw [chv_len, chl_len], fun _ _ => rfl⟩ ha
  have h2 : (holds (chl l m) (chv l v m)).2 = 0 := holds_is hmay hlow ⟨by rw [chv_len, chl_len], fun _ _ => rfl⟩ hb
  unfold moves
  rw [if_neg (by simp [h1]), if_neg (by simp [h2]), if_neg (by simp [h2]), if_neg (by simp [h1])]
  refine ⟨rfl, rfl, ?_, ?_⟩
  · simp only [List.length_append, List.length_reverse]
    rw [ups_dns, ← ups_dns (a := chv l v m) (b := chv l u m)]
    omega
  · refine up_way hmay hlow ha hb hab _ (Nat.le_refl _) _ (fun mv now h3 h4 => ?_) _ _ ⟨by rw [List.length_replicate, chl_len], fun j hj => ?_⟩ ⟨by rw [chv_len, chl_len], fun j hj => by simp [Up]⟩
    · refine dn_way hmay hlow ha hb hab (by rw [chv_len, chl_len]) _ (Nat.le_refl _) mv now (h3.congr fun j hj => ?_) (h4.congr fun j hj => ?_)
      · simp [mU, mD, hj, show ¬ (chl l m).length ≤ j by omega]
      · simp [Up, Dn, hj]
    · rw [chl_len] at hj
      simp [List.getD, hj, mU]
end Go.Proofs.Ytbbjnhajmckjoaa
