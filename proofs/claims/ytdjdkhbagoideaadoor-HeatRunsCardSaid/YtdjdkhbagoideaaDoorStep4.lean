/- Heat: a watch's Step, whole. -/
import Derived.Test.YtdjdkhbagoideaaDoorStep3
namespace Go.Proofs.YtdjdkhbagoideaaDoor
open Go.RowKit Go.BigFrame flt Ieee

/-- what a step tells -/
structure Tl where
  d : Nat
  br : Bool
  lv : Int
  sh : Bool
  ev : List (Nat × Bool)
def code (s : Hs) (x secs : Nat) : Int := if s.sh then 5 else if badArg x secs then 1 else 0
def nxt (Z : Zn) (s : Hs) (x secs : Nat) : Hs := if s.sh || badArg x secs || isNaN x then s else stepd Z s x secs
def told (Z : Zn) (s : Hs) (x secs : Nat) : Tl :=
  if s.sh || badArg x secs then ⟨0, false, 0, false, []⟩
  else if isNaN x then ⟨s.h, true, s.lv, false, []⟩
  else ⟨(stepd Z s x secs).h, false, (stepd Z s x secs).lv, (stepd Z s x secs).sh, evs 0 s.on (stepd Z s x secs).on⟩
theorem good_arg {x secs : Nat} (h : badArg x secs = false) (hn : isNaN x = false) : near x = true ∧ seconds secs = true := by
  unfold badArg at h
  rw [hn] at h
  simpa using h
theorem good_secs {x secs : Nat} (h : badArg x secs = false) : seconds secs = true := by
  unfold badArg at h
  rw [Bool.or_eq_false_iff] at h
  simpa using h.2
theorem nxt_ok {Z : Zn} {s : Hs} (hZ : Zok Z) (hs : Hok Z s) (x secs : Nat) : Hok Z (nxt Z s x secs) := by
  unfold nxt
  split
  · exact hs
  · rename_i h
    simp only [Bool.or_eq_true, not_or, Bool.not_eq_true] at h
    obtain ⟨h1, h2⟩ := good_arg h.1.2 h.2
    exact hok_step hZ hs h1 h2
theorem step_any {W : World} {B g : Nat} {Z : Zn} {v vo : Value} {s : Hs} (hW : Wt W B g Z v vo s) (hZ : Zok Z) (hs : Hok Z s) (x secs : Nat) :
    Calls Tryd.prog 5 #[.pointer (some ⟨g, 0, none⟩), .float .f64 x, .float .f64 secs] W fun e w' => ∃ tv, e = .returned (.tuple #[.agg (sarr (told Z s x secs).d (told Z s x secs).br (told Z s x secs).lv (told Z s x secs).sh tv), .int .i64 (code s x secs)]) ∧
      Own w' W.heap.size 75 2 ((told Z s x secs).ev.map erow) tv ∧ Wt w' B g Z v vo (nxt Z s x secs) ∧ Fr W.heap.size (fun b => b = g ∨ vo.ownBlock = some b) W w' := by
  cases hsh : s.sh with
  | true =>
    have e1 : told Z s x secs = ⟨0, false, 0, false, []⟩ := by unfold told; rw [hsh]; rfl
    have e2 : nxt Z s x secs = s := by unfold nxt; rw [hsh]; rfl
    have e3 : code s x secs = if s.sh then 5 else 1 := by unfold code; rw [hsh]; rfl
    rw [e1, e2, e3]
    exact (step_no hW x secs (Or.inl hsh)).mono fun e w' ⟨h1, h2⟩ => ⟨_, h1, Own.nil _ _ _ _, hW.below h2, Fr.of h2⟩
  | false =>
    cases hb : badArg x secs with
    | true =>
      have e1 : told Z s x secs = ⟨0, false, 0, false, []⟩ := by unfold told; rw [hsh, hb]; rfl
      have e2 : nxt Z s x secs = s := by unfold nxt; rw [hsh, hb]; rfl
      have e3 : code s x secs = if s.sh then 5 else 1 := by unfold code; rw [hsh, hb]; rfl
      rw [e1, e2, e3]
      exact (step_no hW x secs (Or.inr hb)).mono fun e w' ⟨h1, h2⟩ => ⟨_, h1, Own.nil _ _ _ _, hW.below h2, Fr.of h2⟩
    | false =>
      have e3 : code s x secs = 0 := by unfold code; rw [hsh, hb]; rfl
      cases hn : isNaN x with
      | true =>
        have e1 : told Z s x secs = ⟨s.h, true, s.lv, false, []⟩ := by unfold told; rw [hsh, hb, hn]; rfl
        have e2 : nxt Z s x secs = s := by unfold nxt; rw [hsh, hb, hn]; rfl
        rw [e1, e2, e3]
        exact (step_nan hW x secs hsh hn (good_secs hb)).mono fun e w' ⟨h1, h2⟩ => ⟨_, h1, Own.nil _ _ _ _, hW.below h2, Fr.of h2⟩
      | false =>
        have e1 : told Z s x secs = ⟨(stepd Z s x secs).h, false, (stepd Z s x secs).lv, (stepd Z s x secs).sh, evs 0 s.on (stepd Z s x secs).on⟩ := by unfold told; rw [hsh, hb, hn]; rfl
        have e2 : nxt Z s x secs = stepd Z s x secs := by unfold nxt; rw [hsh, hb, hn]; rfl
        rw [e1, e2, e3]
        obtain ⟨h1, h2⟩ := good_arg hb hn
        exact step_yes hW hZ hs x secs hsh h1 h2
/-- the same float, a NaN as a NaN -/
theorem bits_run (b : Nat) (w : World) : (callFunc 38 #[.float .f64 b]).run Tryd.prog w = .ok (.value (.int .u64 b)) w := by kernel_rfl
set_option maxHeartbeats 1000000 in
theorem bits_same (x : Nat) (W : World) : Calls Tryd.prog 18 #[.float .f64 x, .float .f64 x] W fun e w' => e = .returned (.bool true) ∧ W = w' := by
  have h := bits_run x
  have hq : ((x : Int) == (x : Int)) = true := by simp
  generalize (x : Int) = y at *
  go_enter Tryd.func18, Tryd.ntmps18
  go_wp2
  go_ret
  exact ⟨rfl, rfl⟩
theorem nan_lit (W : World) : Calls Tryd.prog 8 #[] W fun e w' => e = .returned (.float .f64 9221120237041090561) ∧ W = w' := by
  have hf : ∀ W, (callFunc 29 #[.int .u64 9221120237041090561]).run Tryd.prog W = .ok (.value (.float .f64 9221120237041090561)) W := fun W => by kernel_rfl
  go_enter Tryd.func8, Tryd.ntmps8
  go_wp2
  go_ret
  exact ⟨rfl, rfl⟩
end Go.Proofs.YtdjdkhbagoideaaDoor
