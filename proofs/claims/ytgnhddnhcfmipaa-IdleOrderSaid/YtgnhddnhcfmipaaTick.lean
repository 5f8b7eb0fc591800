/- Idle: Tick of a book, walked. -/
import Derived.Test.YtgnhddnhcfmipaaGet
namespace Go.Proofs.Ytgnhddnhcfmipaa
open Go.RowKit Go.BigFrame

/-- is a device due at a time? -/
def dueBy (x : Dv) (due : Int) : Bool := x.a && decide (x.uses = 0) && decide (wrap64 (x.s + x.d) ≤ due)
/-- the last one that is due first, from a place on -/
def scn (ds : List Dv) : Nat → Nat → Int → Int → Int × Int
  | 0, _, at_, due => (at_, due)
  | t + 1, i, at_, due => if dueBy (ds.getD i zd) due = true then scn ds t (i + 1) i (wrap64 ((ds.getD i zd).s + (ds.getD i zd).d)) else scn ds t (i + 1) at_ due
/-- a device falls asleep -/
def fall (ds : List Dv) (i : Nat) (due : Int) : List Dv :=
  let x := ds.getD i zd
  let ds1 := ds.set i { x with a := false }
  if 0 ≤ x.p then
    let y := ds1.getD x.p.toNat zd
    let y1 : Dv := { y with k := wrap64 (y.k - 1) }
    ds1.set x.p.toNat (if y1.uses = 0 then { y1 with s := due } else y1)
  else ds1
def tk : Nat → List Dv → Int → List Dv × List Ev
  | 0, ds, _ => (ds, [])
  | f + 1, ds, up =>
    let r := scn ds ds.length 0 (-1) up
    if r.1 < 0 then (ds, [])
    else ((tk f (fall ds r.1.toNat r.2) up).1, ⟨r.2, r.1, false⟩ :: (tk f (fall ds r.1.toNat r.2) up).2)
theorem scn_at (ds : List Dv) : ∀ (t i : Nat) (a due : Int), (scn ds t i a due).1 = a ∨ ∃ j, i ≤ j ∧ j < i + t ∧ (scn ds t i a due).1 = (j : Int) ∧ (ds.getD j zd).a = true
  | 0, _, _, _ => Or.inl rfl
  | t + 1, i, a, due => by
    unfold scn
    by_cases h : dueBy (ds.getD i zd) due = true
    · rw [if_pos h]
      have ha : (ds.getD i zd).a = true := by
        unfold dueBy at h
        simp only [Bool.and_eq_true] at h
        exact h.1.1
      rcases scn_at ds t (i + 1) i (wrap64 ((ds.getD i zd).s + (ds.getD i zd).d)) with q | ⟨j, h1, h2, h3, h4⟩
      · exact Or.inr ⟨i, Nat.le_refl _, by omega, q, ha⟩
      · exact Or.inr ⟨j, by omega, by omega, h3, h4⟩
    · rw [if_neg h]
      rcases scn_at ds t (i + 1) a due with q | ⟨j, h1, h2, h3, h4⟩
      · exact Or.inl q
      · exact Or.inr ⟨j, by omega, by omega, h3, h4⟩
theorem fall_len (ds : List Dv) (i : Nat) (due : Int) : (fall ds i due).length = ds.length := by
  unfold fall
  simp only
  split <;> simp only [List.length_set]
/-- how many are awake -/
def awk (ds : List Dv) : Nat := ds.countP (·.a)
theorem awk_set {ds : List Dv} {i : Nat} {x y : Dv} (h : ds[i]? = some y) : awk (ds.set i x) + (if y.a then 1 else 0) = awk ds + (if x.a then 1 else 0) := by
  unfold awk
  induction ds generalizing i with
  | nil => cases h
  | cons z ds ih =>
    cases i with
    | zero =>
      cases h
      simp only [List.set_cons_zero, List.countP_cons]
      omega
    | succ i =>
      simp only [List.set_cons_succ, List.countP_cons]
      have := ih (i := i) h
      omega
theorem awk_le (ds : List Dv) : awk ds ≤ ds.length := List.countP_le_length
theorem fall_awk {ds : List Dv} {i : Nat} {x : Dv} (hx : ds[i]? = some x) (ha : x.a = true) (hp : Par ds) (due : Int) : awk (fall ds i due) + 1 = awk ds := by
  unfold fall
  simp only
  rw [getD_of hx]
  have h1 := awk_set (x := { x with a := false }) hx
  rw [ha] at h1
  simp only [Bool.false_eq_true, if_false, if_true] at h1
  split
  · rename_i h0
    have hpl := (hp i x hx).2
    have hil := (List.getElem?_eq_some_iff.1 hx).1
    have hyl : x.p.toNat < (ds.set i { x with a := false }).length := by rw [List.length_set]; omega
    have hy := List.getElem?_eq_getElem hyl
    rw [getD_of hy]
    generalize (ds.set i { x with a := false })[x.p.toNat] = y at *
    have h2 := awk_set (x := if ({ y with k := wrap64 (y.k - 1) } : Dv).uses = 0 then ({ y with k := wrap64 (y.k - 1), s := due } : Dv) else { y with k := wrap64 (y.k - 1) }) hy
    have e : (if ({ y with k := wrap64 (y.k - 1) } : Dv).uses = 0 then ({ y with k := wrap64 (y.k - 1), s := due } : Dv) else { y with k := wrap64 (y.k - 1) }).a = y.a := by split <;> rfl
    rw [e] at h2
    omega
  · exact h1
theorem fall_par {ds : List Dv} {i : Nat} {x : Dv} (hx : ds[i]? = some x) (hp : Par ds) (due : Int) : Par (fall ds i due) := by
  unfold fall
  simp only
  rw [getD_of hx]
  have h1 : Par (ds.set i { x with a := false }) := hp.set hx rfl
  split
  · rename_i h0
    have hpl := (hp i x hx).2
    have hil := (List.getElem?_eq_some_iff.1 hx).1
    have hyl : x.p.toNat < (ds.set i { x with a := false }).length := by rw [List.length_set]; omega
    have hy := List.getElem?_eq_getElem hyl
    rw [getD_of hy]
    exact h1.set hy (by split <;> rfl)
  · exact h1
theorem tk_ev : ∀ (f : Nat) (ds : List Dv) (up : Int), (tk f ds up).2.length ≤ f
  | 0, _, _ => Nat.le_refl _
  | f + 1, ds, up => by
    unfold tk
    simp only
    split
    · simp
    · simp only [List.length_cons]
      have := tk_ev f (fall ds (scn ds ds.length 0 (-1) up).1.toNat (scn ds ds.length 0 (-1) up).2) up
      omega
/-- the awake ones, counted in memory -/
def lft (g n : Nat) (W : World) : Nat := (List.range n).countP fun i => match W.cell? ⟨g, i * 6 + 4, none⟩ with | some (.bool b) => b | _ => false
theorem lft_eq {W : World} {B bb g c m : Nat} {ds : List Dv} {now : Int} (h : Bp W B bb (.slice (some ⟨g, 0, none⟩) m c) ds now) : lft g ds.length W = awk ds := by
  unfold lft awk
  have e : ds = (List.range ds.length).map (fun i => ds.getD i zd) := by
    apply List.ext_getElem?
    intro i
    rw [List.getElem?_map]
    rcases Nat.lt_or_ge i ds.length with q | q
    · rw [List.getElem?_range q, List.getElem?_eq_getElem q]
      simp [List.getD_eq_getElem?_getD, List.getElem?_eq_getElem q]
    · rw [List.getElem?_eq_none q, List.getElem?_eq_none (by simpa using q)]; rfl
  have e2 : ds.countP (·.a) = ((List.range ds.length).map (fun i => ds.getD i zd)).countP (·.a) := by rw [← e]
  rw [e2, List.countP_map]
  apply List.countP_congr
  intro i hi
  have hil := List.mem_range.1 hi
  have hx : ds[i]? = some ds[i] := List.getElem?_eq_getElem hil
  have hd := (h.dv hx).2.2.2.2.1
  rw [hd]
  simp only [Function.comp, getD_of hx]
end Go.Proofs.Ytgnhddnhcfmipaa
