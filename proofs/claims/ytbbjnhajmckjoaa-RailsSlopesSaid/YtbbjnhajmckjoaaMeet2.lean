/- Rails: the program's Meet, walked. -/
import Derived.Test.YtbbjnhajmckjoaaMeet
namespace Go.Proofs.Ytbbjnhajmckjoaa
open Go.RowKit Go.BigFrame

/-- the least rung that is not below L, and whether it serves -/
def mt (lo hi st L H : Int) : Int × Bool :=
  if 1000000000 < L then (0, false) else
  if lo < L then (lo + (L - lo + st - 1).tdiv st * st, decide (lo + (L - lo + st - 1).tdiv st * st ≤ hi) && decide (lo + (L - lo + st - 1).tdiv st * st ≤ H))
  else (lo, decide (lo ≤ hi) && decide (lo ≤ H))
theorem ret_ib {p : Int × Bool} {a : Int} {b : Bool} (h : p = (a, b)) : Ending.returned (.tuple #[.int .i64 a, .bool b]) = .returned (.tuple #[.int .i64 p.1, .bool p.2]) := by rw [h]
theorem up_bounds {lo st L : Int} (h : lo < L) (h1 : 1 ≤ st) : 0 ≤ (L - lo + st - 1).tdiv st ∧ (L - lo + st - 1).tdiv st * st ≤ L - lo + st - 1 ∧ L - lo ≤ (L - lo + st - 1).tdiv st * st ∧ (L - lo + st - 1).tdiv st ≤ L - lo + st - 1 := by
  rw [Int.tdiv_eq_ediv_of_nonneg (by omega)]
  have e := Int.mul_ediv_add_emod (L - lo + st - 1) st
  have m1 := Int.emod_nonneg (L - lo + st - 1) (show st ≠ 0 by omega)
  have m2 := Int.emod_lt_of_pos (L - lo + st - 1) (show 0 < st by omega)
  rw [Int.mul_comm] at e
  exact ⟨Int.ediv_nonneg (by omega) (by omega), by omega, by omega, Int.ediv_le_self _ (by omega)⟩

set_option maxHeartbeats 4000000 in
set_option maxRecDepth 100000 in
theorem mt_any (lo hi st L H : Int) (hR : RG lo hi st) (w : World) :
    Calls Try.prog 51 #[.agg #[.int .i64 lo, .int .i64 hi, .int .i64 st], .int .i64 L, .int .i64 H] w fun e w' => e = .returned (.tuple #[.int .i64 (mt lo hi st L H).1, .bool (mt lo hi st L H).2]) ∧ Below w.heap.size w w' := by
  have hB : ∀ o, Below w.heap.size w (w.alloc o) := fun o => below_al (Below.refl _ _) o
  obtain ⟨h1, h2, h3, h4, h5⟩ := hR
  by_cases hL : 1000000000 < L
  · have e0 := Lib.hid (show mt lo hi st L H = (0, false) by unfold mt; rw [if_pos hL])
    go_enter Try.func51, Try.ntmps51
    go_wp2
    go_ret2
    exact ⟨ret_ib e0.out, hB _⟩
  by_cases hl : lo < L
  case neg =>
    have e0 := Lib.hid (show mt lo hi st L H = (lo, decide (lo ≤ hi) && decide (lo ≤ H)) by unfold mt; rw [if_neg hL, if_neg hl])
    rw [decide_eq_true h2] at e0
    by_cases hH : lo ≤ H
    · rw [decide_eq_true hH] at e0
      go_enter Try.func51, Try.ntmps51
      go_wp2
      go_ret2
      exact ⟨ret_ib e0.out, hB _⟩
    · rw [decide_eq_false hH] at e0
      go_enter Try.func51, Try.ntmps51
      go_wp2
      go_ret2
      exact ⟨ret_ib e0.out, hB _⟩
  have hz : (st == 0) = false := by simpa using (by omega : st ≠ 0)
  obtain ⟨b0, b1, b2, b3⟩ := up_bounds hl h4
  have e0 := Lib.hid (show mt lo hi st L H = (lo + (L - lo + st - 1).tdiv st * st, decide (lo + (L - lo + st - 1).tdiv st * st ≤ hi) && decide (lo + (L - lo + st - 1).tdiv st * st ≤ H)) by unfold mt; rw [if_neg hL, if_pos hl])
  have hq1 := Lib.hid (show L - lo + st - 1 ≤ 2000000000 by omega)
  generalize hq : (L - lo + st - 1).tdiv st = q at *
  generalize hp : q * st = p at *
  have hp2 : p ≤ 2000000000 := by omega
  have hp3 : lo + p ≤ 3000000000 := by omega
  have hp4 : 1 ≤ lo + p := by omega
  by_cases r1 : lo + p ≤ hi
  case neg =>
    rw [decide_eq_false r1] at e0
    go_enter Try.func51, Try.ntmps51
    go_wp2
    go_big_quiet (fail)
    go_wp2
    go_ret2
    exact ⟨ret_ib e0.out, below_drewN' (hB _) _⟩
  rw [decide_eq_true r1] at e0
  by_cases r2 : lo + p ≤ H
  · rw [decide_eq_true r2] at e0
    go_enter Try.func51, Try.ntmps51
    go_wp2
    go_big_quiet (fail)
    go_wp2
    go_ret2
    exact ⟨ret_ib e0.out, below_drewN' (hB _) _⟩
  · rw [decide_eq_false r2] at e0
    go_enter Try.func51, Try.ntmps51
    go_wp2
    go_big_quiet (fail)
    go_wp2
    go_ret2
    exact ⟨by rw [show decide (lo + p ≤ H) = false from decide_eq_false (by omega)]; exact ret_ib e0.out, below_drewN' (hB _) _⟩

/-- the windows' least top and greatest bottom, of the first k -/
def mlo (ws : List Pt) : Nat → Int
  | 0 => -9223372036854775808
  | k + 1 => max (mlo ws k) (ws.getD k (0, 0)).1
def mhi (ws : List Pt) : Nat → Int
  | 0 => 9223372036854775807
  | k + 1 => min (mhi ws k) (ws.getD k (0, 0)).2
theorem fits_mt {ws : List Pt} {v : Int} (hv : -9223372036854775808 ≤ v ∧ v ≤ 9223372036854775807) : ∀ k, k ≤ ws.length → (fits (ws.take k) v = true ↔ mlo ws k ≤ v ∧ v ≤ mhi ws k)
  | 0, _ => by simp [fits, mlo, mhi]; omega
  | k + 1, hk => by
    have ih := fits_mt (ws := ws) hv k (by omega)
    have hkl : k < ws.length := by omega
    rw [fits_take ws v hkl, Bool.and_eq_true, ih]
    simp only [mlo, mhi, show ws.getD k (0, 0) = ws[k] by simp [List.getD, hkl], decide_eq_true_eq]
    omega
theorem mt_meet {lo hi st : Int} {ws : List Pt} (hn : rn lo hi st ≠ 0) (hl : ¬ 4096 < ws.length) (hb : ∀ i (hk : i < ws.length), ws[i].1 ≤ ws[i].2) :
    meet lo hi st ws = if (mt lo hi st (mlo ws ws.length) (mhi ws ws.length)).2 = true then ((mt lo hi st (mlo ws ws.length) (mhi ws ws.length)).1, 0) else (0, 191) := by
  have hR : RG lo hi st := (rn_at (i := 0) (by omega)).1
  rw [meet_go hn hl hb]
  have hf : ∀ v, -9223372036854775808 ≤ v ∧ v ≤ 9223372036854775807 → (fits ws v = true ↔ mlo ws ws.length ≤ v ∧ v ≤ mhi ws ws.length) := fun v hv => by
    have := fits_mt (ws := ws) hv ws.length (Nat.le_refl _)
    rwa [List.take_length] at this
  have hrun : ∀ j, j < rn lo hi st → 1 ≤ lo + (j : Int) * st ∧ lo + (j : Int) * st ≤ hi := fun j hj => by
    refine ⟨?_, (rn_at hj).2⟩
    have := Int.mul_nonneg (show (0 : Int) ≤ j by omega) (show (0 : Int) ≤ st by obtain ⟨_, _, _, _, _⟩ := hR; omega)
    obtain ⟨_, _, _, _, _⟩ := hR; omega
  have hmem : ∀ k : Nat, lo + (k : Int) * st ≤ hi → k < rn lo hi st := fun k hk => by
    have := (q_le hR k).2 hk
    have hn' := hn
    unfold rn at hn' ⊢
    rw [if_pos hR] at hn' ⊢
    by_cases h9 : (hi - lo).tdiv st + 1 ≤ 1024
    · rw [if_pos h9]; omega
    · rw [if_neg h9] at hn'; exact absurd rfl hn'
  obtain ⟨h1, h2, h3, h4, h5⟩ := hR
  generalize mlo ws ws.length = L at *
  generalize mhi ws ws.length = H at *
  -- the least rung k0 that is not below L
  have key : ∀ k0 : Nat, ∀ v, v = lo + (k0 : Int) * st → L ≤ v → (∀ j : Nat, j < k0 → lo + (j : Int) * st < L) →
      (match mgo lo st (rn lo hi st) ws with | some k => (lo + (k : Int) * st, (0 : Int)) | none => (0, 191)) = if (decide (v ≤ hi) && decide (v ≤ H)) = true then (v, 0) else (0, 191) := by
    intro k0 v hv hLv hlow
    by_cases hh : v ≤ hi ∧ v ≤ H
    · rw [if_pos (by simpa using hh)]
      have hk := hmem k0 (by rw [← hv]; exact hh.1)
      have hr0 := hrun k0 hk
      rw [mgo_hit hk ((hf _ (by omega)).2 ⟨by rw [← hv]; exact hLv, by rw [← hv]; exact hh.2⟩) (fun j hj => by
        have := hrun j (by omega)
        have := hlow j hj
        cases hq : fits ws (lo + (j : Int) * st) with
        | false => rfl
        | true => have := (hf _ (by omega)).1 hq; omega)]
      rw [hv]
    · rw [if_neg (by simpa using hh)]
      rw [mgo_none (fun j hj => by
        have hj2 := hrun j hj
        cases hq : fits ws (lo + (j : Int) * st) with
        | false => rfl
        | true =>
          have h8 := (hf _ (by omega)).1 hq
          exfalso
          have hjk : k0 ≤ j := by
            rcases Nat.lt_or_ge j k0 with q | q
            · have := hlow j q; omega
            · exact q
          have : (k0 : Int) * st ≤ (j : Int) * st := Int.mul_le_mul_of_nonneg_right (by omega) (by omega)
          exact hh ⟨by omega, by omega⟩)]
  unfold mt
  by_cases hL : 1000000000 < L
  · rw [if_pos hL, if_neg (by simp)]
    rw [mgo_none (fun j hj => by
      have hj2 := hrun j hj
      cases hq : fits ws (lo + (j : Int) * st) with
      | false => rfl
      | true => have h8 := (hf _ (by omega)).1 hq; omega)]
  rw [if_neg hL]
  by_cases hl2 : lo < L
  · rw [if_pos hl2]
    obtain ⟨b0, b1, b2, b3⟩ := up_bounds hl2 h4
    have e : (((L - lo + st - 1).tdiv st).toNat : Int) = (L - lo + st - 1).tdiv st := Int.toNat_of_nonneg b0
    refine key ((L - lo + st - 1).tdiv st).toNat _ (by rw [e]) (by omega) fun j hj => ?_
    generalize (L - lo + st - 1).tdiv st = q at *
    have : ((j : Int) + 1) * st ≤ q * st := Int.mul_le_mul_of_nonneg_right (by omega) (by omega)
    rw [Int.add_mul] at this
    omega
  · rw [if_neg hl2]
    exact key 0 lo (by simp) (by omega) fun j hj => absurd hj (by omega)
end Go.Proofs.Ytbbjnhajmckjoaa
