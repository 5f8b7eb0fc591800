/- Idle: races, plain: the order in which the calls are done, and the same calls one behind the other. No program here. -/
import Derived.Test.YtgnhddnhcfmipaaRc0
namespace Go.Proofs.Ytgnhddnhcfmipaa
open Go.RowKit

/-- one call behind the other, on a word -/
def does1 (D : Int) (cs : List (Int × Int)) (v : VW) (i : Int) : VW × Int := act (callAt cs i.toNat).1 D (callAt cs i.toNat).2 v
def seqw (D : Int) (cs : List (Int × Int)) : VW → List Int → VW
  | v, [] => v
  | v, i :: is => seqw D cs (does1 D cs v i).1 is
theorem seqw_snoc (D : Int) (cs : List (Int × Int)) : ∀ (l : List Int) (v : VW) (i : Int), seqw D cs v (l ++ [i]) = (does1 D cs (seqw D cs v l) i).1
  | [], _, _ => rfl
  | _ :: l, _, i => seqw_snoc D cs l _ i
/-- what a race keeps of its order -/
structure Oi (D : Int) (cs : List (Int × Int)) (n : Nat) (s : Rs) : Prop where
  len : s.l.length = n
  w : s.w = seqw D cs zv s.ord
  rng : ∀ i ∈ s.ord, 0 ≤ i ∧ i < (n : Int) ∧ (s.l.getD i.toNat pa0).o = true
  code : ∀ j i, s.ord[j]? = some i → (s.l.getD i.toNat pa0).c = (does1 D cs (seqw D cs zv (s.ord.take j)) i).2
  zero : ∀ k, (s.l.getD k pa0).o = false → (s.l.getD k pa0).c = 0
  read : ∀ k, (s.l.getD k pa0).h = true → (act (callAt cs k).1 D (callAt cs k).2 (s.l.getD k pa0).r).1 ≠ (s.l.getD k pa0).r
  cnt : s.ord.length = s.l.countP (fun p => p.o)
theorem oi0 (D : Int) (cs : List (Int × Int)) (n : Nat) : Oi D cs n (rs0 n) :=
  ⟨by simp [rs0], rfl, by simp [rs0], by simp [rs0], fun k _ => by rw [rs0_get]; rfl, fun k h => (by rw [rs0_get] at h; cases h), by
    show 0 = _
    symm
    rw [List.countP_eq_zero]
    intro p hp
    have : p = pa0 := (List.mem_replicate.1 (by simpa [rs0] using hp)).2
    subst this
    decide⟩
theorem countP_step {l : List Pa} {k : Nat} (h : k < l.length) (p : Pa) (hk : (l.getD k pa0).o = false) : (l.set k p).countP (fun p => p.o) = l.countP (fun p => p.o) + (if p.o = true then 1 else 0) := by
  induction l generalizing k with
  | nil => simp at h
  | cons x l ih =>
    cases k with
    | zero =>
      have hx : x.o = false := by simpa using hk
      simp only [List.set_cons_zero, List.countP_cons, hx]
      simp
    | succ k =>
      simp only [List.set_cons_succ, List.countP_cons]
      rw [ih (by simpa using h) (by simpa using hk)]
      omega
/-- a call that is done -/
theorem Oi.done {D : Int} {cs : List (Int × Int)} {n : Nat} {s : Rs} (h : Oi D cs n s) {k : Nat} (hk : k < n) (hn : (s.l.getD k pa0).o = false) (w : VW) (p : Pa) (ho : p.o = true) (hw : w = (does1 D cs s.w (k : Int)).1) (hc : p.c = (does1 D cs s.w (k : Int)).2) (hr : p.h = false) :
    Oi D cs n ⟨w, s.l.set k p, s.ord ++ [(k : Int)]⟩ := by
  have hkl : k < s.l.length := by rw [h.len]; exact hk
  have far : ∀ i ∈ s.ord, i.toNat ≠ k := fun i hi e => by
    have := (h.rng i hi).2.2
    rw [e, hn] at this
    cases this
  refine ⟨by rw [List.length_set]; exact h.len, ?_, fun i hi => ?_, fun j i hj => ?_, fun j hj => ?_, fun j hj => ?_, ?_⟩
  · show w = _
    rw [seqw_snoc, ← h.w]
    exact hw
  · rcases List.mem_append.1 hi with q | q
    · have := h.rng i q
      exact ⟨this.1, this.2.1, by show ((s.l.set k p).getD _ _).o = _; rw [getP_far (far i q)]; exact this.2.2⟩
    · have : i = (k : Int) := by simpa using q
      subst this
      exact ⟨by omega, by omega, by show ((s.l.set k p).getD _ _).o = _; rw [Int.toNat_natCast, getP_set hkl]; exact ho⟩
  · have hj' : (s.ord ++ [(k : Int)])[j]? = some i := hj
    rcases Nat.lt_or_ge j s.ord.length with q | q
    · rw [List.getElem?_append_left q] at hj'
      show ((s.l.set k p).getD _ _).c = (does1 D cs (seqw D cs zv ((s.ord ++ [(k : Int)]).take j)) i).2
      rw [getP_far (far i (List.mem_of_getElem? hj')), List.take_append_of_le_length (Nat.le_of_lt q)]
      exact h.code j i hj'
    · rw [List.getElem?_append_right q] at hj'
      have e : j - s.ord.length = 0 ∧ i = (k : Int) := by
        cases hq : j - s.ord.length with
        | zero => rw [hq] at hj'; exact ⟨rfl, by simpa using hj'.symm⟩
        | succ m => rw [hq] at hj'; simp at hj'
      obtain ⟨e1, rfl⟩ := e
      have e2 : j = s.ord.length := by omega
      subst e2
      show ((s.l.set k p).getD _ _).c = (does1 D cs (seqw D cs zv ((s.ord ++ [(k : Int)]).take s.ord.length)) _).2
      rw [List.take_left' rfl, Int.toNat_natCast, getP_set hkl, ← h.w]
      exact hc
  · by_cases e : j = k
    · subst e
      rw [show (⟨w, s.l.set j p, s.ord ++ [(j : Int)]⟩ : Rs).l.getD j pa0 = p from getP_set hkl p] at hj
      rw [ho] at hj
      cases hj
    · have e2 : (⟨w, s.l.set k p, s.ord ++ [(k : Int)]⟩ : Rs).l.getD j pa0 = s.l.getD j pa0 := getP_far e p
      rw [e2] at hj ⊢
      exact h.zero j hj
  · by_cases e : j = k
    · subst e
      rw [show (⟨w, s.l.set j p, s.ord ++ [(j : Int)]⟩ : Rs).l.getD j pa0 = p from getP_set hkl p, hr] at hj
      cases hj
    · have e2 : (⟨w, s.l.set k p, s.ord ++ [(k : Int)]⟩ : Rs).l.getD j pa0 = s.l.getD j pa0 := getP_far e p
      rw [e2] at hj ⊢
      exact h.read j hj
  · show (s.ord ++ [(k : Int)]).length = (s.l.set k p).countP _
    rw [countP_step hkl p hn, if_pos ho, List.length_append, h.cnt]
    rfl
/-- a call that goes on -/
theorem Oi.more {D : Int} {cs : List (Int × Int)} {n : Nat} {s : Rs} (h : Oi D cs n s) {k : Nat} (hk : k < n) (hn : (s.l.getD k pa0).o = false) (p : Pa) (ho : p.o = false) (hc : p.c = 0) (hr : p.h = true → (act (callAt cs k).1 D (callAt cs k).2 p.r).1 ≠ p.r) :
    Oi D cs n ⟨s.w, s.l.set k p, s.ord⟩ := by
  have hkl : k < s.l.length := by rw [h.len]; exact hk
  have far : ∀ i ∈ s.ord, i.toNat ≠ k := fun i hi e => by
    have := (h.rng i hi).2.2
    rw [e, hn] at this
    cases this
  refine ⟨by rw [List.length_set]; exact h.len, h.w, fun i hi => ?_, fun j i hj => ?_, fun j hj => ?_, fun j hj => ?_, ?_⟩
  · have := h.rng i hi
    exact ⟨this.1, this.2.1, by show ((s.l.set k p).getD _ _).o = _; rw [getP_far (far i hi)]; exact this.2.2⟩
  · show ((s.l.set k p).getD _ _).c = _
    rw [getP_far (far i (List.mem_of_getElem? hj))]
    exact h.code j i hj
  · by_cases e : j = k
    · subst e
      rw [show (⟨s.w, s.l.set j p, s.ord⟩ : Rs).l.getD j pa0 = p from getP_set hkl p]
      exact hc
    · have e2 : (⟨s.w, s.l.set k p, s.ord⟩ : Rs).l.getD j pa0 = s.l.getD j pa0 := getP_far e p
      rw [e2] at hj ⊢
      exact h.zero j hj
  · by_cases e : j = k
    · subst e
      rw [show (⟨s.w, s.l.set j p, s.ord⟩ : Rs).l.getD j pa0 = p from getP_set hkl p] at hj ⊢
      exact hr hj
    · have e2 : (⟨s.w, s.l.set k p, s.ord⟩ : Rs).l.getD j pa0 = s.l.getD j pa0 := getP_far e p
      rw [e2] at hj ⊢
      exact h.read j hj
  · show s.ord.length = (s.l.set k p).countP _
    rw [countP_step hkl p hn, ho, h.cnt]
    simp
theorem Oi.step {D : Int} {cs : List (Int × Int)} {n : Nat} {s : Rs} (h : Oi D cs n s) {k : Nat} (hk : k < n) : Oi D cs n (rstep D cs s k) := by
  have hz := h.zero k
  have e : does1 D cs s.w (k : Int) = act (callAt cs k).1 D (callAt cs k).2 s.w := by unfold does1; rw [Int.toNat_natCast]
  unfold rstep
  simp only
  cases ho : (s.l.getD k pa0).o with
  | true => simp only [if_true]; exact h
  | false =>
    have hc0 := hz ho
    simp only [Bool.false_eq_true, if_false]
    by_cases hh : (s.l.getD k pa0).h = true
    · simp only [hh, if_true]
      have hrd := h.read k hh
      by_cases hw : s.w = (s.l.getD k pa0).r
      · rw [← hw] at hrd
        rw [if_pos hw]
        refine h.done hk ho _ _ rfl (by rw [e]) ?_ rfl
        rw [e, act_code hrd]
        exact hc0
      · rw [if_neg hw]
        exact h.more hk ho _ rfl hc0 (fun q => by cases q)
    · rw [if_neg hh]
      by_cases hw : (act (callAt cs k).1 D (callAt cs k).2 s.w).1 = s.w
      · rw [if_pos hw]
        exact h.done hk ho _ _ rfl (by rw [e, hw]) (by rw [e]) (by simpa using hh)
      · rw [if_neg hw]
        exact h.more hk ho _ rfl hc0 (fun _ => hw)
theorem Oi.go {D : Int} {cs : List (Int × Int)} {n : Nat} {s : Rs} (h : Oi D cs n s) (i : Int) : Oi D cs n (rgo D cs s i) := by
  unfold rgo
  split
  · rename_i q
    exact h.step (by have := h.len; omega)
  · exact h
theorem Oi.sched {D : Int} {cs : List (Int × Int)} {n : Nat} : ∀ (l : List Int) {s : Rs}, Oi D cs n s → Oi D cs n (rsched D cs s l)
  | [], _, h => h
  | i :: l, _, h => Oi.sched l (h.go i)
theorem Oi.fin {D : Int} {cs : List (Int × Int)} {n : Nat} : ∀ (m k : Nat) {s : Rs}, k + m ≤ n → Oi D cs n s → Oi D cs n (rfin D cs m k s)
  | 0, _, _, _, h => h
  | m + 1, k, _, hk, h => Oi.fin m (k + 1) (by omega) (((h.step (k := k) (by omega)).step (k := k) (by omega)).step (k := k) (by omega))
theorem over_fin1 {D : Int} {cs : List (Int × Int)} {s : Rs} {k j : Nat} (h : (s.l.getD j pa0).o = true) : ((rfin1 D cs s k).l.getD j pa0).o = true := by
  by_cases e : j = k
  · subst e; rw [rfin1_done h]; exact h
  · unfold rfin1
    rw [rstep_far e, rstep_far e, rstep_far e]
    exact h
theorem over_fin (D : Int) (cs : List (Int × Int)) : ∀ (m k : Nat) (s : Rs), k + m = s.l.length → (∀ j, j < k → (s.l.getD j pa0).o = true) → ∀ j, j < s.l.length → ((rfin D cs m k s).l.getD j pa0).o = true
  | 0, k, s, hk, h, j, hj => h j (by omega)
  | m + 1, k, s, hk, h, j, hj => by
    show ((rfin D cs m (k + 1) (rfin1 D cs s k)).l.getD j pa0).o = true
    refine over_fin D cs m (k + 1) _ (by rw [rfin1_len]; omega) (fun i hi => ?_) j (by rw [rfin1_len]; exact hj)
    by_cases e : i = k
    · subst e; exact rfin1_over D cs (by omega)
    · exact over_fin1 (h i (by omega))
/-- all calls are over: so many are done -/
theorem Oi.all {D : Int} {cs : List (Int × Int)} {n : Nat} {s : Rs} (h : Oi D cs n s) (ha : ∀ j, j < s.l.length → (s.l.getD j pa0).o = true) : s.ord.length = n := by
  rw [h.cnt, ← h.len, List.countP_eq_length]
  intro p hp
  obtain ⟨j, hj, rfl⟩ := List.mem_iff_getElem.1 hp
  have := ha j hj
  rwa [List.getD_eq_getElem?_getD, List.getElem?_eq_getElem hj] at this
/-- a race that has been run: its order, its codes, its word -/
structure Ord (D : Int) (cs : List (Int × Int)) (n : Nat) (s : Rs) : Prop where
  len : s.l.length = n
  ol : s.ord.length = n
  w : s.w = seqw D cs zv s.ord
  rng : ∀ i ∈ s.ord, 0 ≤ i ∧ i < (n : Int)
  code : ∀ j i, s.ord[j]? = some i → (s.l.getD i.toNat pa0).c = (does1 D cs (seqw D cs zv (s.ord.take j)) i).2
theorem ord_of (D : Int) (cs : List (Int × Int)) (sch : List Int) (n : Nat) : Ord D cs n (rfin D cs n 0 (rsched D cs (rs0 n) sch)) := by
  have h1 := Oi.sched sch (oi0 D cs n)
  have h2 := Oi.fin n 0 (by omega) h1
  exact ⟨h2.len, h2.all (fun j hj => over_fin D cs n 0 _ (by rw [h1.len]; omega) (fun j hj => by omega) j (by rw [h1.len]; rw [h2.len] at hj; exact hj)), h2.w, fun i hi => ⟨(h2.rng i hi).1, (h2.rng i hi).2.1⟩, h2.code⟩
/-- what a call does to the uses -/
def du (kind code u : Int) : Int := if kind = 1 then (if code = 0 then u + 1 else u) else if kind = 2 then (if code = 0 then u - 1 else u) else u
theorem act_uses (kind D now : Int) (v : VW) : (act kind D now v).1.u = du kind (act kind D now v).2 v.u := by
  unfold act du
  by_cases h1 : kind = 1
  · simp only [h1, if_true]
    split <;> simp
  · simp only [h1, if_false]
    by_cases h2 : kind = 2
    · simp only [h2, if_true]
      split <;> simp
    · simp only [h2, if_false]
      split
      · split <;> rfl
      · rfl
end Go.Proofs.Ytgnhddnhcfmipaa
