/- Rails: windows, plain; tame, walked. -/
import Derived.Test.YtbbjnhajmckjoaaMem6
import Derived.Test.YtbbjnhajmckjoaaChn
import Derived.Test.YtbbjnhajmckjoaaWks
import Derived.Laws.ResultCell
namespace Go.Proofs.Ytbbjnhajmckjoaa
open Go.RowKit Go.BigFrame Go.Maps

theorem m255 (x : Int) : bits .and .i64 x 255 = x % 256 := and_mask x 8 (by decide)
def tlo (a b : Int) : Int := 1 + min (a % 1024) (b % 1024)
def thi (a b : Int) : Int := 1 + max (a % 1024) (b % 1024)
def tst (c : Int) : Int := 1 + c % 256
theorem tame_rg (a b c : Int) : RG (tlo a b) (thi a b) (tst c) := by
  unfold RG tlo thi tst
  omega
theorem tame_rn (a b c : Int) : rn (tlo a b) (thi a b) (tst c) ≠ 0 := by
  have h := tame_rg a b c
  have hq := q_bounds h
  have hb : thi a b - tlo a b ≤ 1023 := by unfold tlo thi; omega
  have h1 : 1 ≤ tst c := by unfold tst; omega
  have h2 : (thi a b - tlo a b).tdiv (tst c) ≤ 1023 := by
    obtain ⟨e1, e2, e3, e4, e5⟩ := h
    rw [Int.tdiv_eq_ediv_of_nonneg (by omega)]
    refine Int.le_trans (Int.ediv_le_self _ (by omega)) hb
  unfold rn
  rw [if_pos h, if_pos (by omega)]
  omega
/-- windows that may be -/
def Okw (ws : List Pt) : Prop := ∀ x ∈ ws, x.1 ≤ x.2
theorem meet_ok {lo hi st : Int} {ws : List Pt} (hn : rn lo hi st ≠ 0) (hl : ws.length ≤ 4096) (hw : Okw ws) :
    ((meet lo hi st ws).2 = 0 ∧ ∃ k, k < rn lo hi st ∧ (meet lo hi st ws).1 = lo + (k : Int) * st ∧ fits ws (lo + (k : Int) * st) = true ∧ ∀ j, j < k → fits ws (lo + (j : Int) * st) = false) ∨
    ((meet lo hi st ws).2 = 191 ∧ ∀ j, j < rn lo hi st → fits ws (lo + (j : Int) * st) = false) := by
  rw [meet_go hn (by omega) (fun i hk => hw _ (List.getElem_mem hk))]
  cases h : mgo lo st (rn lo hi st) ws with
  | none =>
    refine Or.inr ⟨rfl, fun j hj => ?_⟩
    unfold mgo at h
    rw [List.find?_eq_none] at h
    simpa using h j (List.mem_range.2 hj)
  | some k =>
    unfold mgo at h
    rw [List.find?_range_eq_some] at h
    exact Or.inl ⟨rfl, k, List.mem_range.1 h.2.1, rfl, h.1, fun j hj => by simpa using h.2.2 j hj⟩
/-- among the first rungs: is one that is v in all windows? -/
def anyk (lo st v : Int) (ws : List Pt) (k : Nat) : Bool := (List.range k).any fun j => fits ws (lo + (j : Int) * st) && decide (lo + (j : Int) * st = v)
theorem anyk_succ (lo st v : Int) (ws : List Pt) (k : Nat) : anyk lo st v ws (k + 1) = (anyk lo st v ws k || (fits ws (lo + (k : Int) * st) && decide (lo + (k : Int) * st = v))) := by
  unfold anyk
  rw [List.range_succ, List.any_append]
  simp
theorem anyk_end {lo hi st : Int} {ws : List Pt} (hn : rn lo hi st ≠ 0) (hl : ws.length ≤ 4096) (hw : Okw ws) : anyk lo st (meet lo hi st ws).1 ws (rn lo hi st) = decide ((meet lo hi st ws).2 = 0) := by
  rcases meet_ok hn hl hw with ⟨h1, k, hk, h2, h3, h4⟩ | ⟨h1, h2⟩
  · rw [h1, h2]
    unfold anyk
    rw [List.any_eq_true.2 ⟨k, List.mem_range.2 hk, by simp [h3]⟩]
    rfl
  · rw [h1]
    unfold anyk
    rw [List.any_eq_false.2 fun j hj => by simp [h2 j (List.mem_range.1 hj)]]
    rfl
/-- a rung in all windows: something meets, and not above it -/
theorem rung_in {lo hi st : Int} {ws : List Pt} (hn : rn lo hi st ≠ 0) (hl : ws.length ≤ 4096) (hw : Okw ws) (hs : 0 ≤ st) {k : Nat} (hk : k < rn lo hi st) (hf : fits ws (lo + (k : Int) * st) = true) :
    (meet lo hi st ws).2 = 0 ∧ (meet lo hi st ws).1 ≤ lo + (k : Int) * st := by
  rcases meet_ok hn hl hw with ⟨h1, k0, hk0, h2, h3, h4⟩ | ⟨h1, h2⟩
  · refine ⟨h1, ?_⟩
    rw [h2]
    have : k0 ≤ k := by
      rcases Nat.lt_or_ge k k0 with q | q
      · rw [h4 k q] at hf; cases hf
      · exact q
    have := Int.mul_le_mul_of_nonneg_right (show (k0 : Int) ≤ k by omega) hs
    omega
  · rw [h2 k hk] at hf; cases hf
theorem fits_more (ws : List Pt) (x : Pt) (v : Int) (h : fits (ws ++ [x]) v = true) : fits ws v = true := by
  unfold fits at h ⊢
  rw [List.all_append, Bool.and_eq_true] at h
  exact h.1
/-- of more windows it is not less -/
theorem meet_mono {lo hi st : Int} {ws : List Pt} {x : Pt} (hn : rn lo hi st ≠ 0) (hl : ws.length + 1 ≤ 4096) (hw : Okw (ws ++ [x])) (hs : 0 ≤ st) (h : (meet lo hi st (ws ++ [x])).2 = 0) : (meet lo hi st ws).2 = 0 ∧ (meet lo hi st ws).1 ≤ (meet lo hi st (ws ++ [x])).1 := by
  rcases meet_ok hn (by rw [List.length_append]; exact hl) hw with ⟨h1, k0, hk0, h2, h3, h4⟩ | ⟨h1, h2⟩
  · rw [h2]
    exact rung_in hn (by omega) (fun y hy => hw y (List.mem_append_left _ hy)) hs hk0 (fits_more _ _ _ h3)
  · rw [h1] at h; cases h
theorem meet_pos {lo hi st : Int} {ws : List Pt} (hn : rn lo hi st ≠ 0) (hl : ws.length ≤ 4096) (hw : Okw ws) (hlo : 0 ≤ lo) (hs : 0 ≤ st) (h : (meet lo hi st ws).2 = 0) : 0 ≤ (meet lo hi st ws).1 := by
  rcases meet_ok hn hl hw with ⟨h1, k0, hk0, h2, h3, h4⟩ | ⟨h1, h2⟩
  · rw [h2]
    have := Int.mul_nonneg (show (0 : Int) ≤ k0 by omega) hs
    omega
  · rw [h1] at h; cases h
theorem ins_end (k : Int) (p : Pt) : ∀ {m : Hl}, (∀ q ∈ m, q.1 < k) → ins k p m = m ++ [(k, p)]
  | [], _ => rfl
  | x :: m, h => by
    rw [ins, if_pos (h x (by simp)), ins_end k p (m := m) fun q hq => h q (List.mem_cons_of_mem _ hq)]
    rfl
theorem del_end (k : Int) (p : Pt) {m : Hl} (h : ∀ q ∈ m, q.1 < k) : del k (m ++ [(k, p)]) = m := by
  unfold del
  rw [List.filter_append, List.filter_eq_self.2 fun q hq => by simpa using Int.ne_of_lt (h q hq)]
  simp
theorem setRow_at {w : World} {n : Nat} {cs old : Array Value} {t : TypeId} {fr : Nat × Nat} (h : w.heap[n]? = some (.cells old t fr)) : (w.setRow n cs).heap[n]? = some (.cells cs t fr) := by
  unfold World.setRow
  simp only [Array.getElem?_modify, if_true, h]
  rfl
theorem ret_agg3 {a b c a' b' c' : Int} (h1 : a = a') (h2 : b = b') (h3 : c = c') : Ending.returned (.agg #[.int .i64 a, .int .i64 b, .int .i64 c]) = .returned (.agg #[.int .i64 a', .int .i64 b', .int .i64 c']) := by rw [h1, h2, h3]
set_option maxHeartbeats 4000000 in
theorem tame_any (a b c : Int) (w : World) :
    Calls Try.prog 33 #[.agg #[.int .i64 a, .int .i64 b, .int .i64 c]] w fun e w' => e = .returned (.agg #[.int .i64 (tlo a b), .int .i64 (thi a b), .int .i64 (tst c)]) ∧ Below w.heap.size w w' := by
  have e1 := m1023 a
  have e2 := m1023 b
  have e3 := m255 c
  go_enter Try.func33, Try.ntmps33
  go_wp2
  all_goals (refine bodyPost_ret (results_cell_row rfl _ _ (w.heap.size + 1) 49 _ (0, 0) _ rfl (heap_alloc_at' _ _ _ (size_al _ _).symm) Try.underlying49 rfl (by kernel_rfl)) rfl ⟨ret_agg3 ?_ ?_ ?_, below_al (below_al (Below.refl _ _) _) _⟩ <;> (first | rfl | (unfold tlo; omega) | (unfold thi; omega)))
end Go.Proofs.Ytbbjnhajmckjoaa
