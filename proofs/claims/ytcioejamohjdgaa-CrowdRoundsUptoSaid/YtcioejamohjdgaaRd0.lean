/- The rounds of crowd.Rounds and of the document's answer: plain lists; no program here. -/
import Derived.Test.YtcioejamohjdgaaLaw
namespace Go.Proofs.Ytcioejamohjdgaa

/-! ### which tasks may be; which are ready -/
def mayN (nd : List (List Int)) : Bool := decide (nd.length ≤ 4096) && nd.all (fun l => l.all (fun u => decide (0 ≤ u) && decide (u < (nd.length : Int))))
def rdy (st : List Int) (l : List Int) : Bool := l.all (fun u => st.getD u.toNat 0 == 1)
def nowOf (nd : List (List Int)) (st : List Int) : List Nat := (List.range nd.length).filter (fun i => st.getD i 0 == 0 && rdy st (nd.getD i []))
def putAll (en : List Int) (st : List Int) (now : List Nat) : List Int := now.foldl (fun s k => s.set k (en.getD k 0)) st
def rds (nd : List (List Int)) (en : List Int) : Nat → List Int → List (List Nat) × List Int
  | 0, st => ([], st)
  | f + 1, st => if nowOf nd st = [] then ([], st) else ((nowOf nd st) :: (rds nd en f (putAll en st (nowOf nd st))).1, (rds nd en f (putAll en st (nowOf nd st))).2)
def leftOf (st : List Int) : List Nat := (List.range st.length).filter (fun i => st.getD i 0 == 0)
def zeros (st : List Int) : Nat := st.countP (· == 0)
/-- how a task ends: 2 for a bad one, 1 else -/
def enOf (n : Nat) (bad : List Int) : List Int := bad.foldl (fun e b => e.set b.toNat 2) (List.replicate n 1)

theorem putAll_length (en : List Int) : ∀ (now : List Nat) (st : List Int), (putAll en st now).length = st.length
  | [], st => rfl
  | k :: now, st => by
    show (putAll en (st.set k (en.getD k 0)) now).length = _
    rw [putAll_length en now, List.length_set]
theorem getD_set {α : Type} (l : List α) (k i : Nat) (v d : α) : (l.set k v).getD i d = if k = i ∧ i < l.length then v else l.getD i d := by
  simp only [List.getD_eq_getElem?_getD, List.getElem?_set]
  by_cases h : k = i
  · subst h
    by_cases h2 : k < l.length
    · simp [h2]
    · simp [h2]
  · simp [h]
theorem putAll_get (en : List Int) (i : Nat) : ∀ (now : List Nat) (st : List Int), (putAll en st now).getD i 0 = if i ∈ now ∧ i < st.length then en.getD i 0 else st.getD i 0
  | [], st => by simp [putAll]
  | k :: now, st => by
    show (putAll en (st.set k (en.getD k 0)) now).getD i 0 = _
    rw [putAll_get en i now, List.length_set, getD_set]
    by_cases h : i ∈ now
    · simp only [h, List.mem_cons, or_true, true_and]
      by_cases h2 : i < st.length
      · simp [h2]
      · simp [h2]
    · simp only [h, List.mem_cons, or_false, false_and, if_false]
      by_cases h2 : k = i
      · subst h2; simp
      · have h3 : ¬ i = k := fun e => h2 e.symm
        simp [h2, h3]
theorem nowOf_mem {nd : List (List Int)} {st : List Int} {i : Nat} : i ∈ nowOf nd st ↔ i < nd.length ∧ st.getD i 0 = 0 ∧ rdy st (nd.getD i []) = true := by
  unfold nowOf
  rw [List.mem_filter, List.mem_range, Bool.and_eq_true, beq_iff_eq]
theorem nowOf_nodup (nd : List (List Int)) (st : List Int) : (nowOf nd st).Nodup := List.Nodup.sublist List.filter_sublist List.nodup_range

/-- the ends are 1 or 2 -/
def Ends (n : Nat) (en : List Int) : Prop := en.length = n ∧ ∀ i, i < n → en.getD i 0 = 1 ∨ en.getD i 0 = 2
theorem enOf_fold (n : Nat) : ∀ (bad : List Int) (e : List Int), Ends n e → Ends n (bad.foldl (fun e b => e.set b.toNat 2) e)
  | [], e, h => h
  | b :: bad, e, h => by
    refine enOf_fold n bad _ ⟨by rw [List.length_set]; exact h.1, fun i hi => ?_⟩
    rw [getD_set]
    split
    · exact .inr rfl
    · exact h.2 i hi
theorem enOf_ends (n : Nat) (bad : List Int) : Ends n (enOf n bad) :=
  enOf_fold n bad _ ⟨by simp, fun i hi => .inl (by simp [List.getD_eq_getElem?_getD, hi])⟩

theorem countP_set_lt (p : Int → Bool) : ∀ (l : List Int) (k : Nat) (v : Int), k < l.length → p (l.getD k 0) = true → p v = false → (l.set k v).countP p + 1 = l.countP p
  | [], k, v, h, _, _ => by simp at h
  | x :: l, 0, v, _, h1, h2 => by
    have h1' : p x = true := by simpa using h1
    simp [h1', h2]
  | x :: l, k + 1, v, h, h1, h2 => by
    have := countP_set_lt p l k v (by simpa using h) (by simpa using h1) h2
    simp only [List.set_cons_succ, List.countP_cons]
    omega
/-- a round lowers the number of those that are open -/
theorem zeros_putAll {n : Nat} {en : List Int} (hE : Ends n en) : ∀ (now : List Nat) (st : List Int), st.length = n → now.Nodup → (∀ i ∈ now, i < n ∧ st.getD i 0 = 0) → zeros (putAll en st now) + now.length = zeros st
  | [], st, _, _, _ => by simp [putAll]
  | k :: now, st, hl, hd, h => by
    show zeros (putAll en (st.set k (en.getD k 0)) now) + _ = _
    have hk := h k (by simp)
    have hnk : k ∉ now := (List.nodup_cons.1 hd).1
    have h1 := zeros_putAll hE now (st.set k (en.getD k 0)) (by rw [List.length_set]; exact hl) (List.nodup_cons.1 hd).2 (fun i hi => ⟨(h i (by simp [hi])).1, by
      rw [getD_set, if_neg (fun (hh : k = i ∧ _) => hnk (by rw [hh.1]; exact hi))]
      exact (h i (by simp [hi])).2⟩)
    have h2 := countP_set_lt (· == 0) st k (en.getD k 0) (by omega) (by rw [hk.2]; rfl) (by rcases hE.2 k hk.1 with h | h <;> rw [h] <;> rfl)
    simp only [List.length_cons]
    unfold zeros at *
    omega
theorem zeros_step {n : Nat} {nd : List (List Int)} {en st : List Int} (hE : Ends n en) (hn : nd.length = n) (hl : st.length = n) : zeros (putAll en st (nowOf nd st)) + (nowOf nd st).length = zeros st :=
  zeros_putAll hE _ _ hl (nowOf_nodup _ _) (fun i hi => by have := nowOf_mem.1 hi; exact ⟨by omega, this.2.1⟩)
/-- fuel beyond what is open says nothing -/
theorem rds_fuel {n : Nat} {nd : List (List Int)} {en : List Int} (hE : Ends n en) (hn : nd.length = n) : ∀ (f g : Nat) (st : List Int), st.length = n → zeros st < f → zeros st < g → rds nd en f st = rds nd en g st
  | 0, _, _, _, h, _ => absurd h (by omega)
  | _, 0, _, _, _, h => absurd h (by omega)
  | f + 1, g + 1, st, hl, hf, hg => by
    unfold rds
    by_cases h : nowOf nd st = []
    · simp [h]
    · have hz := zeros_step hE hn hl
      have hpos : 0 < (nowOf nd st).length := List.length_pos_iff.2 h
      rw [if_neg h, if_neg h, rds_fuel hE hn f g _ (by rw [putAll_length]; exact hl) (by omega) (by omega)]

/-! ### the program's board: who waits for how many, and for whom -/
def lkOf (nd : List (List Int)) (st : List Int) (k : Nat) : Nat := (nd.getD k []).countP (fun u => !(st.getD u.toNat 0 == 1))
def lks (nd : List (List Int)) (st : List Int) : List Int := (List.range nd.length).map (fun k => (lkOf nd st k : Int))
def up (i : Nat) (ab : List (List Nat)) (u : Int) : List (List Nat) := ab.set u.toNat (ab.getD u.toNat [] ++ [i])
def ups (ab : List (List Nat)) (i : Nat) (l : List Int) : List (List Nat) := l.foldl (up i) ab
def abv (nd : List (List Int)) : Nat → List (List Nat)
  | 0 => List.replicate nd.length []
  | j + 1 => ups (abv nd j) j (nd.getD j [])
theorem ups_length (i : Nat) : ∀ (l : List Int) (ab : List (List Nat)), (ups ab i l).length = ab.length
  | [], ab => rfl
  | u :: l, ab => by
    show (ups (up i ab u) i l).length = _
    rw [ups_length i l]
    simp [up]
theorem abv_length (nd : List (List Int)) : ∀ j, (abv nd j).length = nd.length
  | 0 => by simp [abv]
  | j + 1 => by
    show (ups _ _ _).length = _
    rw [ups_length, abv_length nd j]
def Rng (n : Nat) (l : List Int) : Prop := ∀ u ∈ l, 0 ≤ u ∧ u < (n : Int)
theorem ups_count {n : Nat} (i : Nat) (x k : Nat) : ∀ (l : List Int) (ab : List (List Nat)), Rng n l → ab.length = n → ((ups ab i l).getD x []).count k = (ab.getD x []).count k + if i = k then l.count (x : Int) else 0
  | [], ab, _, _ => by simp [ups]
  | u :: l, ab, h, hl => by
    have hu := h u (by simp)
    show ((ups (up i ab u) i l).getD x []).count k = _
    rw [ups_count i x k l (up i ab u) (fun v hv => h v (by simp [hv])) (by simp [up, hl])]
    unfold up
    rw [getD_set]
    by_cases hx : u.toNat = x
    · have hux : u = (x : Int) := by omega
      have hlt : x < ab.length := by omega
      rw [if_pos ⟨hx, hlt⟩, hx, List.count_append, hux, List.count_cons_self]
      by_cases hik : i = k
      · subst hik; simp; omega
      · simp [hik]
    · have hux : ¬ u = (x : Int) := by omega
      rw [if_neg (fun hh => hx hh.1), List.count_cons_of_ne hux]
theorem abv_count {nd : List (List Int)} (h : ∀ l ∈ nd, Rng nd.length l) (x k : Nat) : ∀ j, j ≤ nd.length → ((abv nd j).getD x []).count k = if k < j then (nd.getD k []).count (x : Int) else 0
  | 0, _ => by
    simp only [abv, List.getD_eq_getElem?_getD, List.getElem?_replicate]
    split <;> simp
  | j + 1, hj => by
    show ((ups (abv nd j) j (nd.getD j [])).getD x []).count k = _
    rw [ups_count (n := nd.length) j x k _ _ (by
      have : nd.getD j [] = nd[j] := by simp [List.getD_eq_getElem?_getD, List.getElem?_eq_getElem (show j < nd.length by omega)]
      rw [this]; exact h _ (List.getElem_mem _)) (abv_length nd j), abv_count h x k j (by omega)]
    by_cases hk : j = k
    · subst hk; simp
    · by_cases hk2 : k < j
      · have : k < j + 1 := by omega
        simp [hk, hk2, this]
      · have : ¬ k < j + 1 := by omega
        simp [hk, hk2, this]
theorem ups_mem (i : Nat) (x k : Nat) : ∀ (l : List Int) (ab : List (List Nat)), k ∈ (ups ab i l).getD x [] → k ∈ ab.getD x [] ∨ k = i
  | [], ab, h => .inl h
  | u :: l, ab, h => by
    rcases ups_mem i x k l (up i ab u) h with h | h
    · unfold up at h
      rw [getD_set] at h
      split at h
      · rename_i hh
        rw [← hh.1]
        rcases List.mem_append.1 h with h | h
        · exact .inl h
        · exact .inr (by simpa using h)
      · exact .inl h
    · exact .inr h
theorem abv_mem {nd : List (List Int)} (x k : Nat) : ∀ j, k ∈ (abv nd j).getD x [] → k < j
  | 0, h => by
    simp only [abv, List.getD_eq_getElem?_getD, List.getElem?_replicate] at h
    split at h <;> simp at h
  | j + 1, h => by
    rcases ups_mem j x k _ _ h with h | h
    · have := abv_mem x k j h; omega
    · omega

/-! ### a task has ended -/
def dec1 (p : List Int × List Nat) (k : Nat) : List Int × List Nat := (p.1.set k (p.1.getD k 0 - 1), if p.1.getD k 0 - 1 = 0 then p.2 ++ [k] else p.2)
def decs (p : List Int × List Nat) (ks : List Nat) : List Int × List Nat := ks.foldl dec1 p
theorem decs_length : ∀ (ks : List Nat) (p : List Int × List Nat), (decs p ks).1.length = p.1.length
  | [], p => rfl
  | k :: ks, p => by
    show (decs (dec1 p k) ks).1.length = _
    rw [decs_length ks]
    simp [dec1]
theorem decs_get (i : Nat) : ∀ (ks : List Nat) (p : List Int × List Nat), (∀ k ∈ ks, k < p.1.length) → (decs p ks).1.getD i 0 = p.1.getD i 0 - (ks.count i : Int)
  | [], p, _ => by simp [decs]
  | k :: ks, p, h => by
    have hk := h k (by simp)
    show (decs (dec1 p k) ks).1.getD i 0 = _
    rw [decs_get i ks (dec1 p k) (fun x hx => by simp only [dec1, List.length_set]; exact h x (by simp [hx]))]
    simp only [dec1, getD_set]
    by_cases hi : k = i
    · subst hi
      rw [if_pos ⟨rfl, hk⟩, List.count_cons_self]
      omega
    · rw [if_neg (fun hh => hi hh.1), List.count_cons_of_ne hi]
theorem decs_mem (i : Nat) : ∀ (ks : List Nat) (p : List Int × List Nat), (∀ k ∈ ks, k < p.1.length) → (ks.count i : Int) ≤ p.1.getD i 0 → (i ∈ (decs p ks).2 ↔ i ∈ p.2 ∨ (0 < ks.count i ∧ p.1.getD i 0 = (ks.count i : Int)))
  | [], p, _, _ => by simp [decs]
  | k :: ks, p, h, hc => by
    have hk := h k (by simp)
    show i ∈ (decs (dec1 p k) ks).2 ↔ _
    have e := getD_set p.1 k i (p.1.getD k 0 - 1) 0
    by_cases hi : k = i
    · subst hi
      rw [if_pos ⟨rfl, hk⟩] at e
      rw [List.count_cons_self] at hc ⊢
      rw [decs_mem k ks (dec1 p k) (fun x hx => by simp only [dec1, List.length_set]; exact h x (by simp [hx])) (by simp only [dec1]; rw [e]; omega)]
      simp only [dec1, e]
      by_cases h0 : p.1.getD k 0 - 1 = 0
      · rw [if_pos h0, List.mem_append]
        constructor
        · intro _; exact .inr ⟨by omega, by omega⟩
        · intro _; exact .inl (.inr (by simp))
      · rw [if_neg h0]
        constructor
        · rintro (h | h)
          · exact .inl h
          · exact .inr ⟨by omega, by omega⟩
        · rintro (h | h)
          · exact .inl h
          · exact .inr ⟨by omega, by omega⟩
    · rw [if_neg (fun hh => hi hh.1)] at e
      rw [List.count_cons_of_ne hi] at hc ⊢
      rw [decs_mem i ks (dec1 p k) (fun x hx => by simp only [dec1, List.length_set]; exact h x (by simp [hx])) (by simp only [dec1]; rw [e]; exact hc)]
      simp only [dec1, e]
      have : (i ∈ if p.1.getD k 0 - 1 = 0 then p.2 ++ [k] else p.2) ↔ i ∈ p.2 := by
        split
        · rw [List.mem_append]
          constructor
          · rintro (h | h)
            · exact h
            · exact absurd (by simpa using h) (fun e => hi (Eq.symm e))
          · exact .inl
        · rfl
      rw [this]
def marks (nx : List Bool) (ks : List Nat) : List Bool := ks.foldl (fun l k => l.set k true) nx
theorem marks_length : ∀ (ks : List Nat) (nx : List Bool), (marks nx ks).length = nx.length
  | [], nx => rfl
  | k :: ks, nx => by
    show (marks (nx.set k true) ks).length = _
    rw [marks_length ks, List.length_set]
theorem marks_get (i : Nat) : ∀ (ks : List Nat) (nx : List Bool), i < nx.length → ((marks nx ks).getD i false = true ↔ nx.getD i false = true ∨ i ∈ ks)
  | [], nx, _ => by simp [marks]
  | k :: ks, nx, h => by
    show ((marks (nx.set k true) ks).getD i false = true) ↔ _
    rw [marks_get i ks _ (by rw [List.length_set]; exact h), getD_set]
    by_cases hi : k = i
    · subst hi; simp [h]
    · have : ¬ i = k := fun e => hi e.symm
      simp [hi, this]

/-- one task of a round -/
def one1 (ab : List (List Nat)) (en : List Int) (p : List Int × List Int × List Bool) (i : Nat) : List Int × List Int × List Bool :=
  (p.1.set i (en.getD i 0), if en.getD i 0 = 1 then ((decs (p.2.1, []) (ab.getD i [])).1, marks p.2.2 (decs (p.2.1, []) (ab.getD i [])).2) else (p.2.1, p.2.2))
def ones (ab : List (List Nat)) (en : List Int) (p : List Int × List Int × List Bool) (l : List Nat) : List Int × List Int × List Bool := l.foldl (one1 ab en) p

/-- how many of a task's needs are no longer lacking -/
theorem lkOf_set {n : Nat} {nd : List (List Int)} {st : List Int} {i k : Nat} (hr : ∀ l ∈ nd, Rng nd.length l) (hn : nd.length = n) (hl : st.length = n) (hi : i < n) (h0 : st.getD i 0 = 0) :
    lkOf nd (st.set i 1) k + (nd.getD k []).count (i : Int) = lkOf nd st k ∧ lkOf nd (st.set i 2) k = lkOf nd st k := by
  unfold lkOf
  have hrk : Rng n (nd.getD k []) := by
    by_cases hk : k < nd.length
    · have : nd.getD k [] = nd[k] := by simp [List.getD_eq_getElem?_getD, List.getElem?_eq_getElem hk]
      rw [this, ← hn]; exact hr _ (List.getElem_mem _)
    · rw [List.getD_eq_getElem?_getD, List.getElem?_eq_none (by omega)]; intro u hu; simp at hu
  generalize nd.getD k [] = l at hrk ⊢
  induction l with
  | nil => simp
  | cons u l ih =>
    have ih := ih (fun v hv => hrk v (by simp [hv]))
    have hu := hrk u (by simp)
    have a1 := getD_set st i u.toNat (1 : Int) 0
    have a2 := getD_set st i u.toNat (2 : Int) 0
    by_cases hui : i = u.toNat
    · have hux : u = (i : Int) := by omega
      have hlt : u.toNat < st.length := by omega
      have h0' : st.getD u.toNat 0 = 0 := by rw [← hui]; exact h0
      rw [if_pos ⟨hui, hlt⟩] at a1 a2
      have c1 : (!((1 : Int) == 1)) = false := by decide
      have c2 : (!((2 : Int) == 1)) = true := by decide
      have c0 : (!((0 : Int) == 1)) = true := by decide
      simp only [List.countP_cons, a1, a2, h0', c0, c1, c2, if_true, Bool.false_eq_true, if_false]
      have e1 : (u :: l).count (i : Int) = l.count (i : Int) + 1 := by rw [hux, List.count_cons_self]
      rw [e1]
      constructor
      · have := ih.1; omega
      · have := ih.2; omega
    · have hux : ¬ u = (i : Int) := by omega
      rw [if_neg (fun hh => hui hh.1)] at a1 a2
      simp only [List.countP_cons, a1, a2]
      rw [List.count_cons_of_ne hux]
      constructor
      · have := ih.1; omega
      · have := ih.2; omega
theorem lks_get {nd : List (List Int)} {st : List Int} {k : Nat} (hk : k < nd.length) : (lks nd st).getD k 0 = (lkOf nd st k : Int) := by
  simp [lks, List.getD_eq_getElem?_getD, hk]
theorem lks_length (nd : List (List Int)) (st : List Int) : (lks nd st).length = nd.length := by simp [lks]
theorem lks_ext {nd : List (List Int)} {st : List Int} {l : List Int} (hl : l.length = nd.length) (h : ∀ k, k < nd.length → l.getD k 0 = (lkOf nd st k : Int)) : l = lks nd st := by
  refine List.ext_getElem (by rw [hl, lks_length]) fun k h1 h2 => ?_
  have := h k (by omega)
  rw [← lks_get (by omega : k < nd.length)] at this
  simpa [List.getD_eq_getElem?_getD, h1, h2] using this
theorem rdy_lk {nd : List (List Int)} {st : List Int} {k : Nat} : rdy st (nd.getD k []) = true ↔ lkOf nd st k = 0 := by
  unfold rdy lkOf
  rw [List.countP_eq_zero, List.all_eq_true]
  constructor
  · intro h u hu; simpa using h u hu
  · intro h u hu; simpa using h u hu

/-- part of a round: those of 'l' have ended, the others of the round not yet -/
theorem ones_spec {n : Nat} {nd : List (List Int)} {en : List Int} (hr : ∀ l ∈ nd, Rng nd.length l) (hn : nd.length = n) (hE : Ends n en) :
    ∀ (l : List Nat) (st : List Int) (nx : List Bool), st.length = n → nx.length = n → l.Nodup → (∀ i ∈ l, i < n ∧ st.getD i 0 = 0) →
      (ones (abv nd n) en (st, lks nd st, nx) l).1 = putAll en st l ∧ (ones (abv nd n) en (st, lks nd st, nx) l).2.1 = lks nd (putAll en st l) ∧ (ones (abv nd n) en (st, lks nd st, nx) l).2.2.length = n ∧
      (∀ k, k < n → lkOf nd (putAll en st l) k ≤ lkOf nd st k) ∧
      ∀ k, k < n → ((ones (abv nd n) en (st, lks nd st, nx) l).2.2.getD k false = true ↔ nx.getD k false = true ∨ (0 < lkOf nd st k ∧ lkOf nd (putAll en st l) k = 0))
  | [], st, nx, _, hx, _, _ => by
    refine ⟨rfl, rfl, hx, fun k _ => Nat.le_refl _, fun k _ => ?_⟩
    show nx.getD k false = true ↔ _ ∨ (_ ∧ lkOf nd st k = 0)
    constructor
    · exact .inl
    · rintro (h | ⟨h1, h2⟩)
      · exact h
      · omega
  | i :: l, st, nx, hl, hx, hd, h => by
    obtain ⟨hin, hi0⟩ := h i (by simp)
    have hnl : i ∉ l := (List.nodup_cons.1 hd).1
    have hlk := fun k => lkOf_set (k := k) hr hn hl hin hi0
    have hrest : ∀ j ∈ l, j < n ∧ (st.set i (en.getD i 0)).getD j 0 = 0 := fun j hj => ⟨(h j (by simp [hj])).1, by
      rw [getD_set, if_neg (fun (hh : i = j ∧ _) => hnl (by rw [hh.1]; exact hj))]; exact (h j (by simp [hj])).2⟩
    have hls : (st.set i (en.getD i 0)).length = n := by rw [List.length_set]; exact hl
    show (ones (abv nd n) en (one1 (abv nd n) en (st, lks nd st, nx) i) l).1 = putAll en (st.set i (en.getD i 0)) l ∧ (ones (abv nd n) en (one1 (abv nd n) en (st, lks nd st, nx) i) l).2.1 = lks nd (putAll en (st.set i (en.getD i 0)) l) ∧ (ones (abv nd n) en (one1 (abv nd n) en (st, lks nd st, nx) i) l).2.2.length = n ∧
      (∀ k, k < n → lkOf nd (putAll en (st.set i (en.getD i 0)) l) k ≤ lkOf nd st k) ∧
      ∀ k, k < n → ((ones (abv nd n) en (one1 (abv nd n) en (st, lks nd st, nx) i) l).2.2.getD k false = true ↔ nx.getD k false = true ∨ (0 < lkOf nd st k ∧ lkOf nd (putAll en (st.set i (en.getD i 0)) l) k = 0))
    rcases hE.2 i hin with he | he
    · -- bound
      have hcnt : ∀ k, ((abv nd n).getD i []).count k = if k < n then (nd.getD k []).count (i : Int) else 0 := fun k => abv_count hr i k n (by omega)
      have hin2 : ∀ k ∈ (abv nd n).getD i [], k < (lks nd st).length := fun k hk => by rw [lks_length, hn]; exact abv_mem i k n hk
      have hD : (decs (lks nd st, []) ((abv nd n).getD i [])).1 = lks nd (st.set i 1) := by
        refine lks_ext (by rw [decs_length]; exact lks_length _ _) fun k hk => ?_
        rw [decs_get k _ _ hin2]
        show (lks nd st).getD k 0 - _ = _
        rw [lks_get hk, hcnt k, if_pos (by omega)]
        have := (hlk k).1
        omega
      have hM : ∀ k, k < n → (k ∈ (decs (lks nd st, []) ((abv nd n).getD i [])).2 ↔ 0 < lkOf nd st k ∧ lkOf nd (st.set i 1) k = 0) := fun k hk => by
        have hc := hcnt k
        rw [if_pos hk] at hc
        have hs := (hlk k).1
        rw [decs_mem k _ _ hin2 (by show _ ≤ (lks nd st).getD k 0; rw [lks_get (by omega), hc]; omega)]
        show _ ∨ (_ ∧ (lks nd st).getD k 0 = _) ↔ _
        rw [lks_get (by omega), hc]
        simp only [List.not_mem_nil, false_or]
        omega
      have e1 : one1 (abv nd n) en (st, lks nd st, nx) i = (st.set i (en.getD i 0), lks nd (st.set i (en.getD i 0)), marks nx (decs (lks nd st, []) ((abv nd n).getD i [])).2) := by
        simp only [one1, he, if_true, hD]
      rw [e1]
      obtain ⟨a1, a2, a3, a4, a5⟩ := ones_spec hr hn hE l (st.set i (en.getD i 0)) (marks nx (decs (lks nd st, []) ((abv nd n).getD i [])).2) hls (by rw [marks_length]; exact hx) (List.nodup_cons.1 hd).2 hrest
      rw [he] at a1 a2 a3 a4 a5 ⊢
      refine ⟨a1, a2, a3, fun k hk => ?_, fun k hk => ?_⟩
      · have := a4 k hk; have := (hlk k).1; omega
      · rw [a5 k hk, marks_get k _ _ (by omega), hM k hk]
        have h4 := a4 k hk
        have hs := (hlk k).1
        constructor
        · rintro ((h | ⟨h1, h2⟩) | ⟨h1, h2⟩)
          · exact .inl h
          · exact .inr ⟨h1, by omega⟩
          · exact .inr ⟨by omega, h2⟩
        · rintro (h | ⟨h1, h2⟩)
          · exact .inl (.inl h)
          · by_cases h3 : lkOf nd (st.set i 1) k = 0
            · exact .inl (.inr ⟨h1, h3⟩)
            · exact .inr ⟨by omega, h2⟩
    · -- failed
      have hlks : lks nd st = lks nd (st.set i 2) := lks_ext (lks_length _ _) fun k hk => by rw [lks_get hk, (hlk k).2]
      have e1 : one1 (abv nd n) en (st, lks nd st, nx) i = (st.set i (en.getD i 0), lks nd (st.set i (en.getD i 0)), nx) := by
        simp only [one1, he, show ((2 : Int) = 1) = False by simp, if_false, ← hlks]
      rw [e1]
      obtain ⟨a1, a2, a3, a4, a5⟩ := ones_spec hr hn hE l (st.set i (en.getD i 0)) nx hls hx (List.nodup_cons.1 hd).2 hrest
      rw [he] at a1 a2 a3 a4 a5 ⊢
      refine ⟨a1, a2, a3, fun k hk => ?_, fun k hk => ?_⟩
      · have := a4 k hk; have := (hlk k).2; omega
      · rw [a5 k hk, (hlk k).2]

/-- what has ended lacked nothing -/
def Done (nd : List (List Int)) (st : List Int) : Prop := ∀ k, k < nd.length → st.getD k 0 ≠ 0 → lkOf nd st k = 0
/-- A ROUND OF THE PROGRAM's IS ONE OF THE DOCUMENT's. -/
theorem round_spec {n : Nat} {nd : List (List Int)} {en st : List Int} (hr : ∀ l ∈ nd, Rng nd.length l) (hn : nd.length = n) (hE : Ends n en) (hl : st.length = n) (hD : Done nd st) :
    ∃ nx : List Bool, ones (abv nd n) en (st, lks nd st, List.replicate n false) (nowOf nd st) = (putAll en st (nowOf nd st), lks nd (putAll en st (nowOf nd st)), nx) ∧ nx.length = n ∧
      (List.range n).filter (fun i => nx.getD i false) = nowOf nd (putAll en st (nowOf nd st)) ∧ Done nd (putAll en st (nowOf nd st)) := by
  have hmem : ∀ i ∈ nowOf nd st, i < n ∧ st.getD i 0 = 0 := fun i hi => by have := nowOf_mem.1 hi; exact ⟨by omega, this.2.1⟩
  obtain ⟨a1, a2, a3, a4, a5⟩ := ones_spec hr hn hE (nowOf nd st) st (List.replicate n false) hl (by simp) (nowOf_nodup _ _) hmem
  generalize ones (abv nd n) en (st, lks nd st, List.replicate n false) (nowOf nd st) = q at a1 a2 a3 a5
  obtain ⟨q1, q2, nx⟩ := q
  simp only at a1 a2 a3 a5
  subst a1 a2
  have hput := fun i => putAll_get en i (nowOf nd st) st
  have hDn : Done nd (putAll en st (nowOf nd st)) := fun k hk h0 => by
    have h4 := a4 k (by omega)
    rw [hput k] at h0
    by_cases hm : k ∈ nowOf nd st
    · have := rdy_lk.1 (nowOf_mem.1 hm).2.2
      omega
    · rw [if_neg (fun hh => hm hh.1)] at h0
      have := hD k hk h0
      omega
  refine ⟨nx, rfl, a3, ?_, hDn⟩
  have hdef : ∀ s, nowOf nd s = (List.range n).filter (fun i => s.getD i 0 == 0 && rdy s (nd.getD i [])) := fun s => by unfold nowOf; rw [hn]
  rw [hdef (putAll en st (nowOf nd st))]
  refine List.filter_congr fun i hi => ?_
  have hi : i < n := List.mem_range.1 hi
  have h5 := a5 i hi
  have hnx0 : (List.replicate n false).getD i false = false := by simp [List.getD_eq_getElem?_getD, hi]
  rw [hnx0] at h5
  show nx.getD i false = ((putAll en st (nowOf nd st)).getD i 0 == 0 && rdy (putAll en st (nowOf nd st)) (nd.getD i []))
  rw [Bool.eq_iff_iff, h5, Bool.and_eq_true, beq_iff_eq, rdy_lk]
  simp only [Bool.false_eq_true, false_or]
  have hput := hput i
  constructor
  · rintro ⟨h1, h2⟩
    refine ⟨?_, h2⟩
    have hnm : i ∉ nowOf nd st := fun hm => by have := rdy_lk.1 (nowOf_mem.1 hm).2.2; omega
    rw [hput, if_neg (fun hh => hnm hh.1)]
    exact Classical.byContradiction fun h0 => by have := hD i (by omega) h0; omega
  · rintro ⟨h1, h2⟩
    refine ⟨?_, h2⟩
    rw [hput] at h1
    by_cases hm : i ∈ nowOf nd st
    · rw [if_pos ⟨hm, by omega⟩] at h1
      rcases hE.2 i hi with he | he <;> rw [he] at h1 <;> cases h1
    · rw [if_neg (fun hh => hm hh.1)] at h1
      refine Nat.pos_of_ne_zero fun hz => hm (nowOf_mem.2 ⟨by omega, h1, rdy_lk.2 hz⟩)
end Go.Proofs.Ytcioejamohjdgaa
