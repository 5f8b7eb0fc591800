/- Points: the plain law of PointsNever; pick. -/
import Derived.Test.YthmdhmknadhjeaaTame
import Derived.Test.YthmdhmknadhjeaaChange3
namespace Go.Proofs.Ythmdhmknadhjeaa
open Go.RowKit Go.BigFrame

theorem tp_lt (l : List Pt) : ∀ {i j : Nat}, i < j → (tp l i).1 < (tp l j).1 ∧ (tp l i).2 ≤ (tp l j).2
  | i, 0, h => by omega
  | i, j + 1, h => by
    have h1 := tp_step l j
    rcases Nat.lt_or_ge i j with q | q
    · have := tp_lt l q; omega
    · obtain rfl : i = j := by omega
      exact h1
theorem fst_of : ∀ (l : List Pt) (r : Int) (k i : Nat) (h : i < l.length), r ≤ l[i].1 → (∀ j (hj : j < i), l[j].1 < r) → fst k l r = ((k + i : Nat) : Int)
  | p :: t, r, k, 0, _, h1, _ => by
    have h1' : r ≤ p.1 := h1
    unfold fst; rw [if_pos h1']; rfl
  | p :: t, r, k, i + 1, h, h1, h2 => by
    have h0 : p.1 < r := h2 0 (by omega)
    unfold fst
    rw [if_neg (by omega), fst_of t r (k + 1) i (by simpa using h) h1 (fun j hj => h2 (j + 1) (by omega))]
    congr 1; omega
theorem tame_fst (l : List Pt) {k : Nat} (hk : k < (tame l).length) : fst 0 (tame l) (tp l k).1 = k := by
  have := fst_of (tame l) (tp l k).1 0 k hk (by rw [tame_at]; exact Int.le_refl _) (fun j hj => by rw [tame_at]; exact (tp_lt l hj).1)
  rw [this]; simp
theorem tame_safe (l : List Pt) {k : Nat} (hk : k < (tame l).length) (v : Int) : safep (tame l) (tp l k).1 v = (decide ((tp l k).2 ≤ v), 0) := by
  unfold safep
  rw [if_neg (by rw [tame_check]; simp), tame_fst l hk, if_neg (by omega)]
  simp [List.getD, hk, tame_at]

/-- the steps, gone through as PointsNever goes -/
def nev (t : List Pt) (y : Int) (up : Bool) : List Pt → Int → Int → Int → Option (Int × Int × Int)
  | [], r, v, c => some (r, v, c)
  | (s, x) :: rest, r, v, c =>
    if s = 2 then (if safep t x v = (true, 0) then nev t y up rest x v (c + 1) else none)
    else if s = 1 then (if x - v ≤ y ∧ -y ≤ x - v ∧ x - v ≠ 0 ∧ decide (0 < x - v) = up ∧ safep t r x = (true, 0) then nev t y up rest r x c else none)
    else none
theorem nev_cons (t : List Pt) (y : Int) (up : Bool) (s x : Int) (rest : List Pt) (r v c : Int) : nev t y up ((s, x) :: rest) r v c =
    if s = 2 then (if safep t x v = (true, 0) then nev t y up rest x v (c + 1) else none)
    else if s = 1 then (if x - v ≤ y ∧ -y ≤ x - v ∧ x - v ≠ 0 ∧ decide (0 < x - v) = up ∧ safep t r x = (true, 0) then nev t y up rest r x c else none)
    else none := rfl
theorem nev_append (t : List Pt) (y : Int) (up : Bool) : ∀ (a b : List Pt) (r v c : Int), nev t y up (a ++ b) r v c = (nev t y up a r v c).bind fun p => nev t y up b p.1 p.2.1 p.2.2
  | [], b, r, v, c => rfl
  | (s, x) :: a, b, r, v, c => by
    rw [List.cons_append, nev_cons, nev_cons]
    split
    · split
      · exact nev_append t y up a b _ _ _
      · rfl
    · split
      · split
        · exact nev_append t y up a b _ _ _
        · rfl
      · rfl
theorem nev_volts {t : List Pt} {a b y : Int} {up : Bool} {r c : Int} (hy : 1 ≤ y) (hup : up = decide (a < b)) (hs : ∀ v, min a b ≤ v → safep t r v = (true, 0)) :
    ∀ k, k ≤ nst a b y → nev t y up (volts a b y (nst a b y) k) r a c = some (r, lev a b y (nst a b y) k, c)
  | 0, _ => rfl
  | k + 1, hk => by
    rw [volts_succ, nev_append, nev_volts hy hup hs k (by omega)]
    have st := lev_step (a := a) (b := b) (k := k) hy (by omega)
    have rg := lev_range (a := a) (b := b) hy (k + 1) hk
    have e : volt a b y (nst a b y) (k + 1) = lev a b y (nst a b y) (k + 1) := by unfold lev; rw [if_neg (by omega)]
    rw [e]
    show nev t y up [(1, lev a b y (nst a b y) (k + 1))] r (lev a b y (nst a b y) k) c = _
    generalize lev a b y (nst a b y) (k + 1) = x at *
    generalize lev a b y (nst a b y) k = z at *
    unfold nev
    rw [if_neg (by decide), if_pos rfl, if_pos]
    · rfl
    · subst hup
      by_cases hab : a < b
      · obtain ⟨h1, h2⟩ := st.2.1 hab
        have := rg.1 hab
        refine ⟨by omega, by omega, by omega, ?_, hs x (by omega)⟩
        rw [decide_eq_true hab, decide_eq_true (by omega)]
      · obtain ⟨h1, h2⟩ := st.2.2 hab
        have := rg.2 hab
        refine ⟨by omega, by omega, by omega, ?_, hs x (by omega)⟩
        rw [decide_eq_false hab, decide_eq_false (by omega)]
theorem lev_end {a b y : Int} (hy : 1 ≤ y) : lev a b y (nst a b y) (nst a b y) = b := by
  by_cases e : lev a b y (nst a b y) (nst a b y) = b
  · exact e
  · exact absurd (lev_lt hy e (Nat.le_refl _)) (Nat.lt_irrefl _)
theorem nst_symm (a b y : Int) : nst a b y = nst b a y := by
  have : gap a b = gap b a := by unfold gap; split <;> split <;> omega
  unfold nst; rw [this]
theorem nst_zero {a b y : Int} (h : a = b) : nst a b y = 0 := by
  subst h
  have : gap a a = 0 := by unfold gap; split <;> omega
  unfold nst; rw [this]; simp
theorem nst_le {a b y : Int} (hy : 20 ≤ y) (hg : gap a b ≤ 41943) : nst a b y ≤ 2100 := by
  have h0 : 0 ≤ gap a b := by unfold gap; split <;> omega
  have h1 : gap a b / y ≤ 2098 := by
    have : gap a b / y ≤ gap a b / 20 := by
      have h2 : y * (gap a b / y) ≤ gap a b := Int.mul_ediv_self_le (by omega)
      have h3 : 0 ≤ gap a b / y := Int.ediv_nonneg h0 (by omega)
      have h4 : 20 * (gap a b / y) ≤ y * (gap a b / y) := Int.mul_le_mul_of_nonneg_right hy h3
      omega
    omega
  unfold nst
  split <;> omega

/-- what PointsNever finds -/
theorem never_plain (l : List Pt) {i j : Nat} (hi : i < (tame l).length) (hj : j < (tame l).length) {y : Int} (hy : 20 ≤ y) :
    (chg (tame l) i j y).2 = 0 ∧ (chg (tame l) j i y).2 = 0 ∧ (chg (tame l) i j y).1.length = (chg (tame l) j i y).1.length ∧ (i = j → (chg (tame l) i j y).1 = []) ∧
      ∃ c, nev (tame l) y (decide (i < j)) (chg (tame l) i j y).1 (tp l i).1 (tp l i).2 0 = some ((tp l j).1, (tp l j).2, c) ∧ (c = 1 ∨ i = j) := by
  have hc : (check (tame l)).2 = 0 := by rw [tame_check]
  have hp : ∀ k, k < (tame l).length → pt (tame l) (k : Int) = tp l k := fun k hk => by rw [pt_at hk, tame_at]
  have hlen := tame_len l
  have hb : ∀ a b : Nat, a < (tame l).length → b < (tame l).length → ¬ badArg (tame l) a b y := fun a b ha hb h => by unfold badArg at h; omega
  have hgap : ∀ a b : Nat, a < (tame l).length → b < (tame l).length → gap (tp l a).2 (tp l b).2 ≤ 41943 := fun a b ha hb => by
    have h1 := tp_range l a
    have h2 := tp_range l b
    unfold gap; split <;> omega
  by_cases hij : i = j
  · subst hij
    have e := chg_same (y := y) hc (hb i i hi hi)
    rw [e]
    refine ⟨rfl, rfl, rfl, fun _ => rfl, 0, ?_, Or.inr rfl⟩
    rfl
  have hne : (i : Int) ≠ j := by omega
  have hN := nst_le (a := (tp l i).2) (b := (tp l j).2) hy (hgap i j hi hj)
  have e1 := chg_turn (y := y) hc (hb i j hi hj) hne (by rw [hp i hi, hp j hj]; omega)
  have e2 := chg_turn (y := y) hc (hb j i hj hi) (fun e => hne e.symm) (by rw [hp i hi, hp j hj, nst_symm]; omega)
  rw [hp i hi, hp j hj] at e1 e2
  rw [nst_symm (tp l j).2] at e2
  have hup : decide (i < j) = decide ((tp l i).2 < (tp l j).2) ∨ nst (tp l i).2 (tp l j).2 y = 0 := by
    rcases Nat.lt_trichotomy i j with q | q | q
    · rcases Int.lt_trichotomy (tp l i).2 (tp l j).2 with r | r | r
      · left; rw [decide_eq_true q, decide_eq_true r]
      · right; exact nst_zero r
      · exact absurd (tp_lt l q).2 (by omega)
    · exact absurd q hij
    · left
      rw [decide_eq_false (by omega), decide_eq_false (by have := (tp_lt l q).2; omega)]
  refine ⟨by rw [e1], by rw [e2], ?_, fun h => absurd h hij, 1, ?_, Or.inl rfl⟩
  · rw [e1, e2]
    unfold turn
    simp only [List.length_append, volts_length]
    rcases Nat.lt_or_ge i j with q | q
    · simp only [show ¬ (j : Int) < i by omega, show (i : Int) < j by omega, if_true, if_false, List.length_nil, List.length_singleton]; omega
    · simp only [show (j : Int) < i by omega, show ¬ (i : Int) < j by omega, if_true, if_false, List.length_nil, List.length_singleton]; omega
  · rw [e1]
    unfold turn
    rw [hp i hi, hp j hj]
    have V : ∀ r c, (∀ v, min (tp l i).2 (tp l j).2 ≤ v → safep (tame l) r v = (true, 0)) → nev (tame l) y (decide (i < j)) (volts (tp l i).2 (tp l j).2 y (nst (tp l i).2 (tp l j).2 y) (nst (tp l i).2 (tp l j).2 y)) r (tp l i).2 c = some (r, (tp l j).2, c) := by
      intro r c hs
      rcases hup with q | q
      · have := nev_volts (t := tame l) (y := y) (c := c) (by omega) q hs _ (Nat.le_refl _)
        rw [this, lev_end (by omega)]
      · have e := lev_end (a := (tp l i).2) (b := (tp l j).2) (y := y) (by omega)
        rw [q] at e ⊢
        show some (r, (tp l i).2, c) = _
        rw [show (tp l i).2 = (tp l j).2 from e]
    rcases Nat.lt_or_ge i j with q | q
    · rw [if_neg (by omega), if_pos (by omega), List.nil_append, nev_append, V _ _ (fun v hv => by
        rw [tame_safe l hi, decide_eq_true (by have := (tp_lt l q).2; omega)])]
      show nev _ _ _ [(2, (tp l j).1)] (tp l i).1 (tp l j).2 0 = _
      unfold nev
      rw [if_pos rfl, if_pos (by rw [tame_safe l hj, decide_eq_true (Int.le_refl _)])]
      rfl
    · have q' : j < i := by omega
      rw [if_pos (by omega), if_neg (by omega), List.append_nil, nev_append]
      have e3 : nev (tame l) y (decide (i < j)) [(2, (tp l j).1)] (tp l i).1 (tp l i).2 0 = some ((tp l j).1, (tp l i).2, 1) := by
        unfold nev
        rw [if_pos rfl, if_pos (by rw [tame_safe l hj, decide_eq_true (by have := (tp_lt l q').2; omega)])]
        rfl
      rw [e3]
      exact V _ _ (fun v hv => by rw [tame_safe l hj, decide_eq_true (by have := (tp_lt l q').2; omega)])

theorem tmod_cases (k n : Int) (hn : 0 < n) : (k.tmod n < 0 → k % n = k.tmod n + n) ∧ (0 ≤ k.tmod n → k % n = k.tmod n) := by
  have h3 := Int.mul_tdiv_add_tmod k n
  have h4 : k % n = (k.tmod n) % n := by
    conv => lhs; rw [← h3]
    rw [Int.add_comm, Int.add_mul_emod_self_left]
  have h5 := Int.tmod_lt_of_pos k hn
  have h6 : -n < k.tmod n := by
    have := Int.tmod_lt_of_pos (-k) hn
    rw [Int.neg_tmod] at this
    omega
  rw [h4]
  refine ⟨fun h => ?_, fun h => Int.emod_eq_of_lt h h5⟩
  rw [← Int.add_emod_right, Int.emod_eq_of_lt (by omega) (by omega)]
theorem pick_any (k n : Int) (w : World) (hn : 0 < n) (hn2 : n ≤ 9223372036854775807) :
    Calls Try.prog 27 #[.int .i64 k, .int .i64 n] w fun e w' => e = .returned (.int .i64 (k % n)) ∧ w = w' := by
  have h1 := Int.emod_nonneg k (show n ≠ 0 by omega)
  have h2 := Int.emod_lt_of_pos k hn
  have h3 := tmod_cases k n hn
  have h4 : n ≠ 0 := by omega
  by_cases hk : k.tmod n < 0
  · have e := Lib.hid (h3.1 hk)
    have h5 : 0 ≤ k.tmod n + n := by have := h3.1 hk; omega
    clear h3 h1 h2
    go_enter Try.func27, Try.ntmps27
    go_wp2
    go_ret
    exact ⟨ret_i64 (by rw [e.out]), rfl⟩
  · have e := Lib.hid (h3.2 (by omega))
    clear h3 h1 h2
    go_enter Try.func27, Try.ntmps27
    go_wp2
    go_ret
    exact ⟨ret_i64 (by rw [e.out]), rfl⟩
end Go.Proofs.Ythmdhmknadhjeaa
