/- Rails, plain: who holds a rail, as a rising list, and as the map's datum. No program here but the reader of a window. -/
import Derived.Maps.OwnSet
import Derived.Maps.Ext
import Derived.Test.YtbbjnhajmckjoaaMeet3
namespace Go.Proofs.Ytbbjnhajmckjoaa
open Go.RowKit Go.Maps

abbrev Hl := List (Int × Pt)
def wdat (p : Pt) : DataW Unit := .agg [.lit (.int .i64 p.1), .lit (.int .i64 p.2)]
def rdW : Value → Option (DataW Unit × List MemPlace)
  | .agg ⟨[.int .i64 a, .int .i64 b]⟩ => some (wdat (a, b), [])
  | _ => none
theorem rdW_mk (p : Pt) : rdW (.agg #[.int .i64 p.1, .int .i64 p.2]) = some (wdat p, []) := rfl
theorem rdW_inv {v : Value} {z : DataW Unit × List MemPlace} (h : rdW v = some z) : ∃ p : Pt, v = .agg #[.int .i64 p.1, .int .i64 p.2] ∧ z = (wdat p, []) := by
  unfold rdW at h
  split at h
  · rename_i a b
    exact ⟨(a, b), rfl, (Option.some.inj h).symm⟩
  · cases h
theorem wdat_inj {p q : Pt} (h : wdat p = wdat q) : p = q := by
  unfold wdat at h
  simp only [DataW.agg.injEq, List.cons.injEq, DataW.lit.injEq, Lit.int.injEq, true_and, and_true] at h
  exact Prod.ext h.1 h.2
abbrev kd (k : Int) : Lit := .int .i64 k
def ent (q : Int × Pt) : Lit × DataW Unit := (kd q.1, wdat q.2)
def dmap (m : Hl) : DataW Unit := .map (m.map ent)
def Rising (m : Hl) : Prop := m.Pairwise fun a b => a.1 < b.1
def ins (k : Int) (p : Pt) : Hl → Hl
  | [] => [(k, p)]
  | x :: m => if x.1 < k then x :: ins k p m else if x.1 = k then (k, p) :: m else (k, p) :: x :: m
def del (k : Int) (m : Hl) : Hl := m.filter fun q => !decide (q.1 = k)
theorem same_kd (a b : Int) : (kd a).sameKey (kd b) = decide (a = b) := by simp [Lit.sameKey]
theorem filter_ent (k : Int) (m : Hl) : (m.map ent).filter (fun p => !p.1.sameKey (kd k)) = (del k m).map ent := by
  rw [List.filter_map]
  unfold del
  congr 1
  refine List.filter_congr fun q _ => ?_
  show (!(kd q.1).sameKey (kd k)) = _
  rw [same_kd]
theorem del_above {k : Int} {m : Hl} (h : ∀ q ∈ m, k < q.1) : del k m = m := by
  refine List.filter_eq_self.2 fun q hq => ?_
  have := h q hq
  simp only [Bool.not_eq_true', decide_eq_false_iff_not]
  omega
theorem insert_above {k : Int} {p : Pt} {m : Hl} (h : ∀ q ∈ m, k < q.1) : DataW.insert (ent (k, p)) (m.map ent) = ent (k, p) :: m.map ent := by
  cases m with
  | nil => rfl
  | cons x m =>
    have := h x (by simp)
    simp only [List.map_cons, DataW.insert]
    rw [if_pos (by simp [ent, Lit.before, this])]
theorem put_ins (k : Int) (p : Pt) : ∀ (m : Hl), Rising m → DataW.insert (ent (k, p)) ((m.map ent).filter fun q => !q.1.sameKey (kd k)) = (ins k p m).map ent
  | [], _ => rfl
  | x :: m, h => by
    obtain ⟨h1, h2⟩ := List.pairwise_cons.1 h
    have ih := put_ins k p m h2
    have hrest : ∀ q ∈ m, x.1 < q.1 := h1
    unfold ins
    split
    · rename_i hx
      have hne : (!((ent x).1.sameKey (kd k))) = true := by rw [show (ent x).1 = kd x.1 from rfl, same_kd]; simp; omega
      rw [List.map_cons, List.filter_cons, if_pos hne]
      unfold DataW.insert
      rw [if_neg (by simp [ent, Lit.before]; omega), ih]
      rfl
    · split
      · rename_i _ hx
        have hne : ¬ (!((ent x).1.sameKey (kd k))) = true := by rw [show (ent x).1 = kd x.1 from rfl, same_kd]; simp [hx]
        rw [List.map_cons, List.filter_cons, if_neg hne, filter_ent, del_above (fun q hq => by have := hrest q hq; omega), insert_above (fun q hq => by have := hrest q hq; omega)]
        rfl
      · rename_i hx1 hx2
        have habove : ∀ q ∈ x :: m, k < q.1 := fun q hq => by
          rcases List.mem_cons.1 hq with rfl | hq
          · omega
          · have := hrest q hq; omega
        rw [filter_ent, del_above habove, insert_above habove]
        rfl
theorem dmap_put (k : Int) (p : Pt) {m : Hl} (h : Rising m) : (dmap m).put (kd k) (wdat p) = dmap (ins k p m) := by
  show DataW.map (DataW.insert (ent (k, p)) ((m.map ent).filter fun q => !q.1.sameKey (kd k))) = _
  rw [put_ins k p m h]
  rfl
theorem dmap_del (k : Int) (m : Hl) : (dmap m).del (kd k) = dmap (del k m) := by
  show DataW.map ((m.map ent).filter fun q => !q.1.sameKey (kd k)) = _
  rw [filter_ent]
  rfl
theorem dmap_size (m : Hl) : Maps.size (dmap m) = m.length := by
  unfold dmap
  rw [Maps.size_eq, List.length_map]
theorem ins_mem {k : Int} {p : Pt} : ∀ {m : Hl} {q : Int × Pt}, q ∈ ins k p m → q = (k, p) ∨ q ∈ m
  | [], q, h => by
    simp [ins] at h
    exact Or.inl h
  | x :: m, q, h => by
    unfold ins at h
    split at h
    · rcases List.mem_cons.1 h with rfl | h
      · exact Or.inr (by simp)
      · rcases ins_mem h with h | h
        · exact Or.inl h
        · exact Or.inr (List.mem_cons_of_mem _ h)
    · split at h
      · rcases List.mem_cons.1 h with h | h
        · exact Or.inl h
        · exact Or.inr (List.mem_cons_of_mem _ h)
      · rcases List.mem_cons.1 h with h | h
        · exact Or.inl h
        · exact Or.inr h
theorem ins_rising {k : Int} {p : Pt} : ∀ {m : Hl}, Rising m → Rising (ins k p m)
  | [], _ => by simp [ins, Rising]
  | x :: m, h => by
    obtain ⟨h1, h2⟩ := List.pairwise_cons.1 h
    unfold ins
    split
    · rename_i hx
      refine List.pairwise_cons.2 ⟨fun q hq => ?_, ins_rising h2⟩
      rcases ins_mem hq with rfl | hq
      · exact hx
      · exact h1 q hq
    · split
      · rename_i _ hx
        exact List.pairwise_cons.2 ⟨fun q hq => by have := h1 q hq; show k < q.1; omega, h2⟩
      · rename_i hx1 hx2
        refine List.pairwise_cons.2 ⟨fun q hq => ?_, h⟩
        rcases List.mem_cons.1 hq with rfl | hq
        · show k < q.1; omega
        · have := h1 q hq; show k < q.1; omega
theorem del_rising {k : Int} {m : Hl} (h : Rising m) : Rising (del k m) := List.Pairwise.filter _ h
theorem ins_ne (k : Int) (p : Pt) (m : Hl) : ins k p m ≠ [] := by
  cases m with
  | nil => simp [ins]
  | cons x m =>
    unfold ins
    split
    · simp
    · split <;> simp
/-- all keys are numbers of somebody -/
def Whos (m : Hl) : Prop := ∀ q ∈ m, 0 ≤ q.1 ∧ q.1 ≤ 4095
theorem ins_whos {k : Int} {p : Pt} {m : Hl} (hk : 0 ≤ k ∧ k ≤ 4095) (h : Whos m) : Whos (ins k p m) := fun q hq => by
  rcases ins_mem hq with rfl | hq
  · exact hk
  · exact h q hq
theorem del_whos {k : Int} {m : Hl} (h : Whos m) : Whos (del k m) := fun q hq => h q (List.mem_filter.1 hq).1
theorem rising_len : ∀ (m : Hl) (lo : Int), Rising m → (∀ q ∈ m, lo ≤ q.1 ∧ q.1 ≤ 4095) → (m.length : Int) ≤ 4096 - lo ∨ m = []
  | [], _, _, _ => Or.inr rfl
  | x :: m, lo, h, hb => by
    left
    obtain ⟨h1, h2⟩ := List.pairwise_cons.1 h
    have hx := hb x (by simp)
    rcases rising_len m (x.1 + 1) h2 (fun q hq => ⟨by have := h1 q hq; omega, (hb q (List.mem_cons_of_mem _ hq)).2⟩) with q | q
    · simp only [List.length_cons]
      omega
    · subst q
      simp only [List.length_cons, List.length_nil]
      omega
theorem whos_len {m : Hl} (h : Rising m) (hw : Whos m) : m.length ≤ 4096 := by
  rcases rising_len m 0 h hw with q | q
  · omega
  · rw [q]; simp
/-- what is at a key -/
theorem atKey_mem {m : Hl} {k : Int} {d : DataW Unit} (h : ∀ z, (dmap m).atKey (kd k) z = d) : ∃ p, d = wdat p ∧ (k, p) ∈ m := by
  unfold dmap DataW.atKey at h
  simp only at h
  cases hf : (m.map ent).find? (fun p => p.1.sameKey (kd k)) with
  | none =>
    rw [hf] at h
    simp only at h
    have h1 := h (wdat (0, 0))
    have h2 := h (wdat (1, 0))
    exact absurd (wdat_inj (h1.trans h2.symm)) (by decide)
  | some x =>
    rw [hf] at h
    simp only at h
    have hx := List.mem_of_find?_eq_some hf
    have hk := List.find?_some hf
    obtain ⟨q, hq, rfl⟩ := List.mem_map.1 hx
    rw [show (ent q).1 = kd q.1 from rfl, same_kd, decide_eq_true_eq] at hk
    exact ⟨q.2, (h d).symm, by rw [← hk]; exact hq⟩
/-- what is still to come -/
def lft (left : Lit → Bool) (m : Hl) : Hl := m.filter fun q => left (kd q.1)
theorem lft_step {left : Lit → Bool} {k : Int} {p : Pt} : ∀ {m : Hl}, Rising m → (k, p) ∈ m → left (kd k) = true → (lft left m).Perm ((k, p) :: lft (fun z => left z && !z.sameKey (kd k)) m)
  | [], _, h, _ => by simp at h
  | x :: m, hr, h, hl => by
    obtain ⟨h1, h2⟩ := List.pairwise_cons.1 hr
    rcases List.mem_cons.1 h with rfl | h
    · have e1 : lft left ((k, p) :: m) = (k, p) :: lft left m := by unfold lft; rw [List.filter_cons, if_pos hl]
      have e2 : lft (fun z => left z && !z.sameKey (kd k)) ((k, p) :: m) = lft (fun z => left z && !z.sameKey (kd k)) m := by unfold lft; rw [List.filter_cons, if_neg (by simp [same_kd])]
      have e3 : lft (fun z => left z && !z.sameKey (kd k)) m = lft left m := by
        unfold lft
        refine List.filter_congr fun q hq => ?_
        have := h1 q hq
        show (left (kd q.1) && !(kd q.1).sameKey (kd k)) = left (kd q.1)
        rw [same_kd, decide_eq_false (by simp only at this; omega)]
        simp
      rw [e1, e2, e3]
    · have hne : x.1 < k := h1 (k, p) h
      have e2 : ∀ b : Bool, (left (kd x.1) = b) → lft left (x :: m) = (if b then x :: lft left m else lft left m) ∧ lft (fun z => left z && !z.sameKey (kd k)) (x :: m) = (if b then x :: lft (fun z => left z && !z.sameKey (kd k)) m else lft (fun z => left z && !z.sameKey (kd k)) m) := fun b hb => by
        unfold lft
        simp only [List.filter_cons, hb, same_kd]
        rw [decide_eq_false (by omega)]
        simp
      obtain ⟨a1, a2⟩ := e2 _ rfl
      rw [a1, a2]
      have ih := lft_step h2 h hl
      split
      · exact (List.Perm.cons x ih).trans (List.Perm.swap _ _ _)
      · exact ih
theorem lft_start {m : Hl} : lft (Maps.has (dmap m)) m = m := by
  refine List.filter_eq_self.2 fun q hq => ?_
  unfold dmap
  rw [Maps.has_eq, List.any_eq_true]
  exact ⟨ent q, List.mem_map_of_mem hq, by rw [show (ent q).1 = kd q.1 from rfl, same_kd]; simp⟩
theorem lft_none {left : Lit → Bool} {m : Hl} (h : ∀ k, left k = false) : lft left m = [] := List.filter_eq_nil_iff.2 fun q _ => by rw [h]; simp
/-- the windows' order says nothing -/
theorem meet_perm {lo hi st : Int} {ws ws' : List Pt} (h : ws.Perm ws') : meet lo hi st ws = meet lo hi st ws' := by
  have h1 := h.length_eq
  have h2 : wbad ws = wbad ws' := by unfold wbad; exact Bool.eq_iff_iff.2 (by simp only [List.any_eq_true]; exact ⟨fun ⟨x, a, b⟩ => ⟨x, h.mem_iff.1 a, b⟩, fun ⟨x, a, b⟩ => ⟨x, h.mem_iff.2 a, b⟩⟩)
  have h3 : ∀ v, fits ws v = fits ws' v := fun v => by unfold fits; exact Bool.eq_iff_iff.2 (by simp only [List.all_eq_true]; exact ⟨fun a x q => a x (h.mem_iff.2 q), fun a x q => a x (h.mem_iff.1 q)⟩)
  have h4 : mgo lo st (rn lo hi st) ws = mgo lo st (rn lo hi st) ws' := by unfold mgo; simp only [h3]
  unfold meet
  rw [h1, h2, h4]
end Go.Proofs.Ytbbjnhajmckjoaa
