/- Heat, plain: turning on and off in turns. No program here. -/
import Derived.Test.YtdjdkhbagoideaaBroken
namespace Go.Proofs.Ytdjdkhbagoideaa
open flt Ieee

theorem evs_mem : ∀ (a b : List Bool) (i : Nat), a.length = b.length → ∀ e ∈ evs i a b, i ≤ e.1 ∧ e.1 < i + a.length ∧ a[e.1 - i]? = some (!e.2)
  | [], [], _, _, e, h => by simp [evs] at h
  | x :: a, y :: b, i, hl, e, h => by
    simp only [evs, List.mem_append] at h
    rcases h with h | h
    · split at h
      · simp at h
      · rename_i hne
        simp only [List.mem_singleton] at h
        subst h
        refine ⟨Nat.le_refl _, by simp, ?_⟩
        simp only [Nat.sub_self, List.getElem?_cons_zero, Option.some.injEq]
        cases x <;> cases y <;> simp_all
    · obtain ⟨h1, h2, h3⟩ := evs_mem a b (i + 1) (by simpa using hl) e h
      refine ⟨by omega, by simp only [List.length_cons]; omega, ?_⟩
      rw [show e.1 - i = (e.1 - (i + 1)) + 1 by omega, List.getElem?_cons_succ]
      exact h3
  | [], _ :: _, _, hl, _, _ => by simp at hl
  | _ :: _, [], _, hl, _, _ => by simp at hl
theorem evs_sorted : ∀ (a b : List Bool) (i : Nat), a.length = b.length → (evs i a b).Pairwise (fun x y => x.1 < y.1)
  | [], [], _, _ => by simp [evs]
  | x :: a, y :: b, i, hl => by
    have hl' : a.length = b.length := by simpa using hl
    simp only [evs]
    refine List.pairwise_append.2 ⟨by split <;> simp, evs_sorted a b (i + 1) hl', fun p hp q hq => ?_⟩
    have := (evs_mem a b (i + 1) hl' q hq).1
    split at hp
    · simp at hp
    · simp only [List.mem_singleton] at hp
      subst hp
      show i < q.1
      omega
  | [], _ :: _, _, hl => by simp at hl
  | _ :: _, [], _, hl => by simp at hl
theorem evs_hit : ∀ (a b : List Bool) (i : Nat), a.length = b.length → ∀ e ∈ evs i a b, b[e.1 - i]? = some e.2
  | [], [], _, _, e, h => by simp [evs] at h
  | x :: a, y :: b, i, hl, e, h => by
    have hl' : a.length = b.length := by simpa using hl
    simp only [evs, List.mem_append] at h
    rcases h with h | h
    · split at h
      · simp at h
      · simp only [List.mem_singleton] at h
        subst h
        simp
    · have h1 := (evs_mem a b (i + 1) hl' e h).1
      rw [show e.1 - i = (e.1 - (i + 1)) + 1 by omega, List.getElem?_cons_succ]
      exact evs_hit a b (i + 1) hl' e h
  | [], _ :: _, _, hl, _, _ => by simp at hl
  | _ :: _, [], _, hl, _, _ => by simp at hl
theorem evs_miss : ∀ (a b : List Bool) (i : Nat), a.length = b.length → ∀ j, (∀ e ∈ evs i a b, e.1 ≠ i + j) → a[j]? = b[j]?
  | [], [], _, _, _, _ => rfl
  | x :: a, y :: b, i, hl, 0, h => by
    simp only [List.getElem?_cons_zero, Option.some.injEq]
    rcases Decidable.em (y = x) with q | q
    · exact q.symm
    · exact absurd rfl (h (i, y) (by simp [evs, q]))
  | x :: a, y :: b, i, hl, j + 1, h => by
    simp only [List.getElem?_cons_succ]
    refine evs_miss a b (i + 1) (by simpa using hl) j fun e he => ?_
    have := h e (by simp only [evs, List.mem_append]; exact Or.inr he)
    omega
  | [], _ :: _, _, hl, _, _ => by simp at hl
  | _ :: _, [], _, hl, _, _ => by simp at hl
def putb (o : List Bool) (ev : List (Nat × Bool)) : List Bool := ev.foldl (fun o p => o.set p.1 p.2) o
theorem putb_len : ∀ (ev : List (Nat × Bool)) (o : List Bool), (putb o ev).length = o.length
  | [], _ => rfl
  | e :: ev, o => by
    show (putb (o.set e.1 e.2) ev).length = _
    rw [putb_len ev, List.length_set]
theorem putb_miss : ∀ (ev : List (Nat × Bool)) (o : List Bool) (j : Nat), (∀ e ∈ ev, e.1 ≠ j) → (putb o ev)[j]? = o[j]?
  | [], _, _, _ => rfl
  | e :: ev, o, j, h => by
    show (putb (o.set e.1 e.2) ev)[j]? = _
    rw [putb_miss ev _ j fun x hx => h x (List.mem_cons_of_mem _ hx), List.getElem?_set_ne (h e (by simp))]
theorem putb_hit : ∀ (ev : List (Nat × Bool)) (o : List Bool), ev.Pairwise (fun x y => x.1 < y.1) → ∀ e ∈ ev, e.1 < o.length → (putb o ev)[e.1]? = some e.2
  | [], _, _, _, h, _ => by simp at h
  | d :: ev, o, hp, e, h, hl => by
    show (putb (o.set d.1 d.2) ev)[e.1]? = _
    obtain ⟨p1, p2⟩ := List.pairwise_cons.1 hp
    rcases List.mem_cons.1 h with rfl | h
    · rw [putb_miss ev _ _ fun x hx => by have := p1 x hx; omega, List.getElem?_set_self hl]
    · exact putb_hit ev _ p2 e h (by rw [List.length_set]; exact hl)
theorem putb_evs (a b : List Bool) (h : a.length = b.length) : putb a (evs 0 a b) = b := by
  refine List.ext_getElem? fun j => ?_
  rcases Classical.em (∃ e ∈ evs 0 a b, e.1 = j) with ⟨e, he, rfl⟩ | q
  · have h1 := evs_mem a b 0 h e he
    rw [putb_hit _ _ (evs_sorted a b 0 h) e he (by omega)]
    simpa using (evs_hit a b 0 h e he).symm
  · rw [putb_miss _ _ _ fun e he e' => q ⟨e, he, e'⟩]
    exact evs_miss a b 0 h j fun e he e' => q ⟨e, he, by omega⟩
theorem putb_take {o : List Bool} {ev : List (Nat × Bool)} {k : Nat} (h : k < ev.length) : putb o (ev.take (k + 1)) = (putb o (ev.take k)).set ev[k].1 ev[k].2 := by
  unfold putb
  rw [← List.take_append_getElem h, List.foldl_append]
  rfl
/-- what is turned next is not what it is -/
theorem putb_next {a b : List Bool} (h : a.length = b.length) {k : Nat} (hk : k < (evs 0 a b).length) : (evs 0 a b)[k].1 < a.length ∧ (putb a ((evs 0 a b).take k))[(evs 0 a b)[k].1]? = some (!(evs 0 a b)[k].2) := by
  obtain ⟨_, h2, h3⟩ := evs_mem a b 0 h _ (List.getElem_mem hk)
  refine ⟨by omega, ?_⟩
  rw [putb_miss _ _ _ fun e he => ?_]
  · simpa using h3
  · obtain ⟨i, hi, rfl⟩ := List.mem_iff_getElem.1 he
    rw [List.length_take] at hi
    have := List.pairwise_iff_getElem.1 (evs_sorted a b 0 h) i k (by omega) hk (by omega)
    rw [List.getElem_take]
    omega
theorem evs_lt {a b : List Bool} (h : a.length = b.length) {k : Nat} (hk : k + 1 < (evs 0 a b).length) : ((evs 0 a b)[k]'(by omega)).1 < (evs 0 a b)[k + 1].1 :=
  List.pairwise_iff_getElem.1 (evs_sorted a b 0 h) k (k + 1) (by omega) hk (by omega)
/-- below where it falls off, it is below where it goes on -/
theorem back_le {a b : Nat} (ha : Bt (-1000000) 1000000 a) (hb : Bt 0 1000000 b) : key (fsub a b) ≤ key a := by
  obtain ⟨_, s, m, e, h1, h2, h3⟩ := fsub_spec ha.1 hb.1
  rw [h1]
  refine round_le h2 ha.1 ?_
  rw [h3]
  have q := hb.l
  rw [Int.zero_mul] at q
  omega
theorem on_right {h : Nat} {t : Tp} {b : Bool} (hh : Bt (-1048576) 1048576 h) (ha : Bt (-1000000) 1000000 t.a) (hb : Bt 0 1000000 t.b) :
    (isOn h t b = true → lt h (fsub t.a t.b) = false) ∧ (isOn h t b = false → ge h t.a = false) := by
  have hs := (Bt.sub ha hb (by unfold In53; omega)).2
  have hk := back_le ha hb
  unfold isOn
  rw [lt_val hh.nn hs.nn, ge_val hh.nn ha.nn]
  cases b with
  | true => simp only [if_true, Bool.not_eq_true', Bool.not_eq_false', decide_eq_false_iff_not, decide_eq_true_eq]; constructor <;> intro <;> omega
  | false => simp only [Bool.false_eq_true, if_false, decide_eq_false_iff_not, decide_eq_true_eq]; constructor <;> intro <;> omega
theorem anyk_take (q : Int) : ∀ (l : List Tp) (on : List Bool) (k : Nat) (h1 : k < l.length) (h2 : k < on.length), anyk q (l.take (k + 1)) (on.take (k + 1)) = (anyk q (l.take k) (on.take k) || (on[k] && l[k].k == q))
  | t :: ts, b :: bs, 0, _, _ => by simp [anyk]
  | t :: ts, b :: bs, k + 1, h1, h2 => by
    simp only [List.take_succ_cons, anyk, List.getElem_cons_succ]
    rw [anyk_take q ts bs k (by simpa using h1) (by simpa using h2), Bool.or_assoc]
  | [], _, _, h1, _ => by simp at h1
  | _ :: _, [], _, _, h2 => by simp at h2
end Go.Proofs.Ytdjdkhbagoideaa
