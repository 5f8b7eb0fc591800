/- Heat: a watch's Step; On; walked. -/
import Derived.Test.YtdjdkhbagoideaaDoorGov
namespace Go.Proofs.YtdjdkhbagoideaaDoor
open Go.RowKit Go.BigFrame flt Ieee

theorem results2 {P : Program} {fn : Func} {p u1 : Tmp} {ty : TypeId} (h : fn.results = #[.cell p ty, .tmp u1]) (tmps : Array Value) (w : World) (g : Nat) (t : TypeId) (cs : Array Value) (fr : Nat × Nat) (d : TypeDesc) {x : Value}
    (h1 : tmps.getD u1 undef = x) (hp : tmps.getD p undef = .pointer (some ⟨g, 0, none⟩)) (hg : w.heap[g]? = some (.cells cs t fr))
    (hu : P.underlying ty = some d) (hd : (match d with | .struct _ | .array _ _ => true | _ => false) = true) (hi : (P.info? ty).map (·.size) = some cs.size) :
    (results fn tmps).run P w = .ok (.tuple #[.agg cs, x]) w := by
  subst h1
  have hp' : tmps[p]?.getD undef = .pointer (some ⟨g, 0, none⟩) := by simpa using hp
  simp [results, h, hp', asAddr, run_loadVar_row w g t ty cs fr d hg hu hd hi]
theorem setRow_at {w : World} {n : Nat} {cs old : Array Value} {t : TypeId} {fr : Nat × Nat} (h : w.heap[n]? = some (.cells old t fr)) : (w.setRow n cs).heap[n]? = some (.cells cs t fr) := by
  unfold World.setRow
  simp only [Array.getElem?_modify, if_true, h]
  rfl
theorem setRow_far {w : World} {n b : Nat} {cs : Array Value} (h : b ≠ n) : (w.setRow n cs).heap[b]? = w.heap[b]? := by
  unfold World.setRow
  simp only [Array.getElem?_modify]
  rw [if_neg (fun e => h e.symm)]
theorem below_setRow {B : Nat} {w0 w : World} (h : Below B w0 w) {n : Nat} (hn : B ≤ n) (cs : Array Value) : Below B w0 (w.setRow n cs) := by
  refine ⟨h.os, h.tape, h.output, ?_, fun b hb => ?_⟩
  · have := h.size
    unfold World.setRow
    simpa using this
  · rw [setRow_far (by omega)]
    exact h.block b hb
/-- a state told: degrees, broken, level, shut, what was turned -/
def sarr (d : Nat) (br : Bool) (lv : Int) (sh : Bool) (tv : Value) : Array Value := #[.float .f64 d, .bool br, .int .i64 lv, .bool sh, tv]
def badArg (x secs : Nat) : Bool := (!near x && !isNaN x) || !seconds secs
theorem sec_bt {x : Nat} (h : seconds x = true) : Bt 0 1000000 x := by
  unfold seconds at h
  rw [Bool.and_eq_true] at h
  refine part_bt ?_
  unfold part
  rw [h.2, Bool.and_true]
  have h1 := h.1
  unfold gt at h1
  unfold ge
  rw [h1]; rfl
theorem near_nan {x : Nat} (h : near x = true) : isNaN x = false := by
  have hn := (near_bt h).nn
  unfold isNaN
  rw [order_key hn hn]
  rcases cmp_cases (key x) (key x) with ⟨h, _⟩ | ⟨_, e⟩ | ⟨h, _⟩
  · omega
  · rw [e]; rfl
  · omega
set_option maxHeartbeats 4000000 in
set_option maxRecDepth 100000 in
theorem step_no {W : World} {B g : Nat} {Z : Zn} {v vo : Value} {s : Hs} (hW : Wt W B g Z v vo s) (x secs : Nat) (hsh : s.sh = true ∨ badArg x secs = true) :
    Calls Tryd.prog 5 #[.pointer (some ⟨g, 0, none⟩), .float .f64 x, .float .f64 secs] W fun e w' => e = .returned (.tuple #[.agg (sarr 0 false 0 false (.slice none 0 0)), .int .i64 (if s.sh then 5 else 1)]) ∧ Below W.heap.size W w' := by
  have K1 := nan_any x
  have K2 := near_any x
  have hg := heap_lt hW.hb
  have y12 : (W.alloc (.cells #[.float .f64 0, .bool false, .int .i64 0, .bool false, .slice none 0 0] 26)).cell? ⟨g, 12, none⟩ = some (.bool s.sh) := ((hW.below (below_al (Below.refl _ _) _)).cl 12 rfl)
  have hx := heap_alloc_at W (.cells #[.float .f64 0, .bool false, .int .i64 0, .bool false, .slice none 0 0] 26)
  have hb := below_al (Below.refl W.heap.size W) (.cells #[.float .f64 0, .bool false, .int .i64 0, .bool false, .slice none 0 0] 26)
  clear hW
  obtain ⟨a1, h1⟩ : ∃ b, (FloatKind.f64.format.order secs 0 == some .gt) = b := ⟨_, rfl⟩
  obtain ⟨a2, h2⟩ : ∃ b, (FloatKind.f64.format.order secs 4696837146684686336 == some .lt || FloatKind.f64.format.order secs 4696837146684686336 == some .eq) = b := ⟨_, rfl⟩
  have hse : seconds secs = (a1 && a2) := by rw [← h1, ← h2]; rfl
  unfold badArg at hsh
  rw [hse] at hsh
  generalize near x = nr at *
  generalize isNaN x = nan at *
  clear hse
  have hfl : ∀ b : Bool, s.sh = b → (if b = true then (5 : Int) else 1) = if s.sh then 5 else 1 := fun b h => by rw [h]
  generalize s.sh = sh at *
  cases sh with
  | true =>
    clear hsh hfl
    go_enter Tryd.func5, Tryd.ntmps5
    go_upto_region 1 with fail
    generalize W.alloc _ = w1 at *
    go_wp2_with (first
      | (go_at_call 23; (with_reducible refine (K1 _).mono ?_); rintro e wq ⟨rfl, rfl⟩)
      | (refine wpList_store_row rfl 26 _ _ rfl W.heap.size #[.float .f64 0, .bool false, .int .i64 0, .bool false, .slice none 0 0] rfl rfl 26 _ hx (by kernel_rfl) (by kernel_rfl) (by kernel_rfl) ?_))
    (try simp only [Exit.inBlock, Exit.then])
    refine bodyPost_ret (results2 rfl _ _ W.heap.size 26 _ (0, 0) _ rfl rfl (setRow_at hx) Tryd.underlying26 rfl (by kernel_rfl)) rfl ?_
    exact ⟨rfl, below_setRow hb (Nat.le_refl _) _⟩
  | false =>
    clear hfl
    have hsh' : ((!nr && !nan) || !(a1 && a2)) = true := by
      rcases hsh with h | h
      · cases h
      · exact h
    clear hsh
    cases nr <;> cases nan <;> cases a1 <;> cases a2 <;> first | (exact absurd hsh' (by decide)) | skip
    all_goals clear hsh'
    all_goals go_enter Tryd.func5, Tryd.ntmps5
    all_goals go_upto_region 1 with fail
    all_goals generalize W.alloc _ = w1 at *
    all_goals go_wp2_with (first
      | (go_at_call 23; (with_reducible refine (K1 _).mono ?_); rintro e wq ⟨rfl, rfl⟩)
      | (go_at_call 24; (with_reducible refine (K2 _).mono ?_); rintro e wq ⟨rfl, rfl⟩)
      | (refine wpList_store_row rfl 26 _ _ rfl W.heap.size #[.float .f64 0, .bool false, .int .i64 0, .bool false, .slice none 0 0] rfl rfl 26 _ hx (by kernel_rfl) (by kernel_rfl) (by kernel_rfl) ?_))
    all_goals (try simp only [Exit.inBlock, Exit.then])
    all_goals refine bodyPost_ret (results2 rfl _ _ W.heap.size 26 _ (0, 0) _ rfl rfl (setRow_at hx) Tryd.underlying26 rfl (by kernel_rfl)) rfl ?_
    all_goals exact ⟨rfl, below_setRow hb (Nat.le_refl _) _⟩
end Go.Proofs.YtdjdkhbagoideaaDoor
