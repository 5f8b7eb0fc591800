/- Idle: races, plain: what a step makes of a race; how it ends. No program here. -/
import Derived.Test.YtgnhddnhcfmipaaAct
namespace Go.Proofs.Ytgnhddnhcfmipaa
open Go.RowKit

/-- a call under way: has it read, is it over, what it read, its code, how often it tried -/
structure Pa where
  h : Bool
  o : Bool
  r : VW
  c : Int
  t : Int
def zv : VW := ⟨0, false, 0, 0⟩
def pa0 : Pa := ⟨false, false, zv, 0, 0⟩
/-- a race: the word, the calls, which are done in which order -/
structure Rs where
  w : VW
  l : List Pa
  ord : List Int
def callAt (cs : List (Int × Int)) (k : Nat) : Int × Int := cs.getD k (1, 0)
def rstep (D : Int) (cs : List (Int × Int)) (s : Rs) (k : Nat) : Rs :=
  let p := s.l.getD k pa0
  if p.o = true then s
  else
    let a := act (callAt cs k).1 D (callAt cs k).2 s.w
    if p.h = true then
      if s.w = p.r then ⟨a.1, s.l.set k { p with t := p.t + 1, h := false, o := true }, s.ord ++ [(k : Int)]⟩
      else ⟨s.w, s.l.set k { p with t := p.t + 1, h := false }, s.ord⟩
    else
      if a.1 = s.w then ⟨s.w, s.l.set k { p with c := a.2, o := true }, s.ord ++ [(k : Int)]⟩
      else ⟨s.w, s.l.set k { p with r := s.w, h := true }, s.ord⟩
def rgo (D : Int) (cs : List (Int × Int)) (s : Rs) (i : Int) : Rs := if 0 ≤ i ∧ i < (s.l.length : Int) then rstep D cs s i.toNat else s
def rsched (D : Int) (cs : List (Int × Int)) : Rs → List Int → Rs
  | s, [] => s
  | s, i :: is => rsched D cs (rgo D cs s i) is
/-- a call is carried to its end: three steps at most -/
def rfin1 (D : Int) (cs : List (Int × Int)) (s : Rs) (k : Nat) : Rs := rstep D cs (rstep D cs (rstep D cs s k) k) k
def rfin (D : Int) (cs : List (Int × Int)) : Nat → Nat → Rs → Rs
  | 0, _, s => s
  | n + 1, k, s => rfin D cs n (k + 1) (rfin1 D cs s k)
/-- how many steps a call has still to take, if nobody else moves -/
def rleft (s : Rs) (k : Nat) : Nat :=
  let p := s.l.getD k pa0
  if p.o = true then 0 else if p.h = true then (if s.w = p.r then 1 else 3) else 2
theorem rstep_len (D : Int) (cs : List (Int × Int)) (s : Rs) (k : Nat) : (rstep D cs s k).l.length = s.l.length := by
  unfold rstep
  simp only
  split
  · rfl
  · split
    · split <;> simp only [List.length_set]
    · split <;> simp only [List.length_set]
theorem getP_set {l : List Pa} {k : Nat} (h : k < l.length) (p : Pa) : (l.set k p).getD k pa0 = p := by
  rw [List.getD_eq_getElem?_getD, List.getElem?_set_self h]; rfl
theorem getP_far {l : List Pa} {k j : Nat} (h : j ≠ k) (p : Pa) : (l.set k p).getD j pa0 = l.getD j pa0 := by
  rw [List.getD_eq_getElem?_getD, List.getElem?_set_ne (fun e => h e.symm), ← List.getD_eq_getElem?_getD]
theorem rstep_over {D : Int} {cs : List (Int × Int)} {s : Rs} {k : Nat} (h : (s.l.getD k pa0).o = true) : rstep D cs s k = s := by
  unfold rstep
  simp only
  rw [if_pos h]
/-- a step of a call that is not over lowers what it has still to take -/
theorem rleft_lt {D : Int} {cs : List (Int × Int)} {s : Rs} {k : Nat} (hk : k < s.l.length) (h : (s.l.getD k pa0).o = false) : rleft (rstep D cs s k) k < rleft s k := by
  unfold rleft rstep
  simp only
  rw [h]
  simp only [Bool.false_eq_true, if_false]
  cases hh : (s.l.getD k pa0).h
  · simp only [Bool.false_eq_true, if_false]
    split
    · rw [getP_set hk]
      simp
    · rw [getP_set hk]
      simp [h]
  · simp only [if_true]
    split
    · rw [getP_set hk]
      simp
    · rw [getP_set hk]
      simp [h]
theorem rleft_over {s : Rs} {k : Nat} : rleft s k = 0 ↔ (s.l.getD k pa0).o = true := by
  unfold rleft
  simp only
  cases (s.l.getD k pa0).o
  · simp only [Bool.false_eq_true, if_false, iff_false]
    split
    · split <;> decide
    · decide
  · simp
theorem rleft_le (s : Rs) (k : Nat) : rleft s k ≤ 3 := by
  unfold rleft
  simp only
  split
  · decide
  · split
    · split <;> decide
    · decide
theorem rfin1_over (D : Int) (cs : List (Int × Int)) {s : Rs} {k : Nat} (hk : k < s.l.length) : ((rfin1 D cs s k).l.getD k pa0).o = true := by
  have step : ∀ (s : Rs), k < s.l.length → rleft (rstep D cs s k) k ≤ rleft s k - 1 := fun s hk => by
    cases h : (s.l.getD k pa0).o
    · have := rleft_lt (D := D) (cs := cs) hk h
      omega
    · rw [rstep_over h, rleft_over.2 h]
      omega
  have h1 := step s hk
  have hk1 : k < (rstep D cs s k).l.length := by rw [rstep_len]; exact hk
  have h2 := step _ hk1
  have hk2 : k < (rstep D cs (rstep D cs s k) k).l.length := by rw [rstep_len]; exact hk1
  have h3 := step _ hk2
  have := rleft_le s k
  exact rleft_over.1 (by unfold rfin1; omega)
/-- to go on till it is over is what three steps are -/
theorem rfin1_step {D : Int} {cs : List (Int × Int)} {s : Rs} {k : Nat} (hk : k < s.l.length) (h : (s.l.getD k pa0).o = false) : rfin1 D cs (rstep D cs s k) k = rfin1 D cs s k := by
  have hk1 : k < (rstep D cs s k).l.length := by rw [rstep_len]; exact hk
  have := rfin1_over D cs hk
  show rstep D cs (rfin1 D cs s k) k = rfin1 D cs s k
  exact rstep_over this
theorem rfin1_done {D : Int} {cs : List (Int × Int)} {s : Rs} {k : Nat} (h : (s.l.getD k pa0).o = true) : rfin1 D cs s k = s := by
  unfold rfin1
  rw [rstep_over h, rstep_over h, rstep_over h]
/-- what a race keeps: the word is one, what was read is one, tries are so many at most -/
structure Rok (s : Rs) (N : Int) : Prop where
  w : s.w.ok
  r : ∀ k, (s.l.getD k pa0).r.ok
  t : ∀ k, 0 ≤ (s.l.getD k pa0).t ∧ (s.l.getD k pa0).t ≤ N
theorem zv_ok : zv.ok := ⟨by decide, by decide, by decide, by decide, by decide, by decide⟩
theorem Rok.step {D : Int} {cs : List (Int × Int)} {s : Rs} {N : Int} (h : Rok s N) (hc : ∀ k, 0 ≤ (callAt cs k).2 ∧ (callAt cs k).2 ≤ 2147483647) (k : Nat) : Rok (rstep D cs s k) (N + 1) := by
  have hup : Rok s (N + 1) := ⟨h.w, h.r, fun k => by have := h.t k; omega⟩
  rcases Nat.lt_or_ge k s.l.length with hk | hk
  · have ha := act_ok (kind := (callAt cs k).1) (delay := D) h.w (hc k)
    have key : ∀ (w : VW) (p : Pa) (o : List Int), w.ok → p.r.ok → (0 ≤ p.t ∧ p.t ≤ N + 1) → Rok ⟨w, s.l.set k p, o⟩ (N + 1) := fun w p o hw hr ht => by
      refine ⟨hw, fun j => ?_, fun j => ?_⟩
      · by_cases e : j = k
        · subst e; rw [getP_set hk]; exact hr
        · rw [getP_far e]; exact h.r j
      · by_cases e : j = k
        · subst e; rw [getP_set hk]; exact ht
        · rw [getP_far e]; have := h.t j; omega
    have h1 := h.t k
    have h2 := h.r k
    unfold rstep
    simp only
    split
    · exact hup
    · split
      · split
        · exact key _ _ _ ha h2 (by simp only; omega)
        · exact key _ _ _ h.w h2 (by simp only; omega)
      · split
        · exact key _ _ _ h.w h2 (by simp only; omega)
        · exact key _ _ _ h.w h.w (by simp only; omega)
  · have e : ∀ p : Pa, s.l.set k p = s.l := fun p => List.set_eq_of_length_le hk
    have ha := act_ok (kind := (callAt cs k).1) (delay := D) h.w (hc k)
    unfold rstep
    simp only [e]
    split
    · exact hup
    · split
      · split
        · exact ⟨ha, h.r, hup.t⟩
        · exact hup
      · split
        · exact ⟨h.w, h.r, hup.t⟩
        · exact hup
theorem Rok.mono {s : Rs} {N M : Int} (h : Rok s N) (hm : N ≤ M) : Rok s M := ⟨h.w, h.r, fun k => by have := h.t k; omega⟩
theorem rstep_far {D : Int} {cs : List (Int × Int)} {s : Rs} {k j : Nat} (h : j ≠ k) : (rstep D cs s k).l.getD j pa0 = s.l.getD j pa0 := by
  unfold rstep
  simp only
  split
  · rfl
  · split
    · split <;> simp only [getP_far h]
    · split <;> simp only [getP_far h]
theorem rstep_take {D : Int} {cs : List (Int × Int)} {s : Rs} {k j : Nat} (h : j ≤ k) : (rstep D cs s k).l.take j = s.l.take j := by
  unfold rstep
  simp only
  split
  · rfl
  · split
    · split <;> simp only [List.take_set_of_le h]
    · split <;> simp only [List.take_set_of_le h]
theorem rfin1_len (D : Int) (cs : List (Int × Int)) (s : Rs) (k : Nat) : (rfin1 D cs s k).l.length = s.l.length := by
  unfold rfin1
  rw [rstep_len, rstep_len, rstep_len]
theorem rfin1_take {D : Int} {cs : List (Int × Int)} {s : Rs} {k j : Nat} (h : j ≤ k) : (rfin1 D cs s k).l.take j = s.l.take j := by
  unfold rfin1
  rw [rstep_take h, rstep_take h, rstep_take h]
theorem rgo_len (D : Int) (cs : List (Int × Int)) (s : Rs) (i : Int) : (rgo D cs s i).l.length = s.l.length := by
  unfold rgo
  split
  · exact rstep_len _ _ _ _
  · rfl
theorem rsched_len (D : Int) (cs : List (Int × Int)) : ∀ (is : List Int) (s : Rs), (rsched D cs s is).l.length = s.l.length
  | [], _ => rfl
  | i :: is, s => by
    unfold rsched
    rw [rsched_len D cs is, rgo_len]
theorem rfin_len (D : Int) (cs : List (Int × Int)) : ∀ (n k : Nat) (s : Rs), (rfin D cs n k s).l.length = s.l.length
  | 0, _, _ => rfl
  | n + 1, k, s => by
    unfold rfin
    rw [rfin_len D cs n, rfin1_len]
def rs0 (n : Nat) : Rs := ⟨zv, List.replicate n pa0, []⟩
theorem rs0_get (n k : Nat) : (rs0 n).l.getD k pa0 = pa0 := by
  unfold rs0
  simp only
  rw [List.getD_eq_getElem?_getD, List.getElem?_replicate]
  split <;> rfl
theorem rs0_ok (n : Nat) : Rok (rs0 n) 0 := ⟨zv_ok, fun k => by rw [rs0_get]; exact zv_ok, fun k => by rw [rs0_get]; decide⟩
end Go.Proofs.Ytgnhddnhcfmipaa
