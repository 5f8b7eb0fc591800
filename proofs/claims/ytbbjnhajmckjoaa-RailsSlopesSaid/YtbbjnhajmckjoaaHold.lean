/- Rails: do volts hold? the plain answer; the reference's may. -/
import Derived.Test.YtbbjnhajmckjoaaLists
namespace Go.Proofs.Ytbbjnhajmckjoaa
open Go.RowKit Go.BigFrame

def fgood (k : Nat) (p : Pt) : Prop := -1 ≤ p.1 ∧ p.1 < k ∧ 0 ≤ p.2 ∧ p.2 ≤ 1000000000
instance (k : Nat) (p : Pt) : Decidable (fgood k p) := by unfold fgood; infer_instance
def fok : Nat → List Pt → Bool
  | _, [] => true
  | k, p :: t => if fgood k p then fok (k + 1) t else false
def may (l : List Pt) : Bool := if l.length ≤ 1024 then fok 0 l else false
theorem fok_step {k : Nat} {l : List Pt} (hk : k < l.length) : fok k (l.drop k) = if fgood k l[k] then fok (k + 1) (l.drop (k + 1)) else false := by
  rw [List.drop_eq_getElem_cons hk]; rfl
theorem fok_end {k : Nat} {l : List Pt} (hk : l.length ≤ k) : fok k (l.drop k) = true := by
  rw [List.drop_eq_nil_of_le hk]; rfl
theorem fok_all : ∀ (l : List Pt) (k : Nat), fok k l = true → ∀ i (h : i < l.length), fgood (k + i) l[i]
  | [], _, _, i, h => by simp at h
  | p :: t, k, hf, i, h => by
    unfold fok at hf
    by_cases hg : fgood k p
    · rw [if_pos hg] at hf
      cases i with
      | zero => exact hg
      | succ i =>
        have := fok_all t (k + 1) hf i (by simpa using h)
        rw [show k + (i + 1) = k + 1 + i by omega]
        exact this
    · rw [if_neg hg] at hf; cases hf
theorem may_all {l : List Pt} (h : may l = true) : l.length ≤ 1024 ∧ ∀ i (h : i < l.length), fgood i l[i] := by
  unfold may at h
  by_cases hl : l.length ≤ 1024
  · rw [if_pos hl] at h
    refine ⟨hl, fun i hi => ?_⟩
    have := fok_all l 0 h i hi
    rwa [Nat.zero_add] at this
  · rw [if_neg hl] at h; cases h
theorem ret_b {b d : Bool} (h : b = d) : Ending.returned (.bool d) = .returned (.bool b) := by rw [h]

set_option maxHeartbeats 2000000 in
theorem may_any (l : List Pt) (A : Option Addr) (c : Nat) (w : World) (h : Pts w A l) :
    Calls Try.prog 47 #[.slice A l.length c] w fun e w' => e = .returned (.bool (may l)) ∧ w = w' := by
  have hlen := h.le
  by_cases hl : l.length ≤ 1024
  case neg =>
    have e := Lib.hid (show may l = false by unfold may; rw [if_neg hl])
    go_enter Try.func47, Try.ntmps47
    go_wp2
    go_ret
    exact ⟨ret_b e.out, rfl⟩
  have e := Lib.hid (show may l = fok 0 l by unfold may; rw [if_pos hl])
  go_enter Try.func47, Try.ntmps47
  go_wp2
  go_loop [3] (fun v => ∃ (k : Nat), k ≤ l.length ∧ v = .int .i64 k ∧ fok 0 l = fok k (l.drop k)) (fun v => l.length - (intOf v).toNat)
  case atStart => exact ⟨0, by omega, rfl, rfl⟩
  case round =>
    obtain ⟨k, hk, rfl, hf⟩ := hrel
    by_cases hkl : k = l.length
    · subst hkl
      have e := Lib.hid (e.out.trans (hf.trans (fok_end (Nat.le_refl _))))
      clear hf
      go_wp2
      go_ret
      exact ⟨ret_b e.out, rfl⟩
    have hkl : k < l.length := by omega
    obtain ⟨b, o, rfl, hb, c1, c2⟩ := h.at_ hkl
    rw [fok_step hkl] at hf
    by_cases hg : fgood k l[k]
    · rw [if_pos hg] at hf
      replace hf := Lib.hid hf
      obtain ⟨g1, g2, g3, g4⟩ := hg
      generalize l[k] = q at *
      obtain ⟨q1, q2⟩ := q
      simp only at g1 g2 g3 g4 c1 c2
      go_wp2
      go_round
      case rel => exact ⟨k + 1, by omega, by go_num, hf.out⟩
      case measure => simp [intOf]; omega
    · rw [if_neg hg] at hf
      have e := Lib.hid (e.out.trans hf)
      clear hf
      generalize l[k] = q at *
      obtain ⟨q1, q2⟩ := q
      simp only at c1 c2
      simp only [fgood] at hg
      by_cases g1 : -1 ≤ q1
      · by_cases g2 : q1 < k
        · by_cases g3 : 0 ≤ q2
          · have g4 : ¬ q2 ≤ 1000000000 := fun g4 => hg ⟨g1, g2, g3, g4⟩
            clear hg
            go_wp2
            go_ret
            exact ⟨ret_b e.out, rfl⟩
          · clear hg
            go_wp2
            go_ret
            exact ⟨ret_b e.out, rfl⟩
        · clear hg
          go_wp2
          go_ret
          exact ⟨ret_b e.out, rfl⟩
      · clear hg
        go_wp2
        go_ret
        exact ⟨ret_b e.out, rfl⟩

/-- the volts at i do not hold -/
def vbad (l : List Pt) (v : List Int) (i : Nat) : Prop :=
  v.getD i 0 < 0 ∨ 1000000000000 < v.getD i 0 ∨ (v.getD i 0 ≠ 0 ∧ 0 ≤ (l.getD i (0, 0)).1 ∧ v.getD (l.getD i (0, 0)).1.toNat 0 < v.getD i 0 + (l.getD i (0, 0)).2)
instance (l : List Pt) (v : List Int) (i : Nat) : Decidable (vbad l v i) := by unfold vbad; infer_instance
def vgo (l : List Pt) (v : List Int) : Nat → Nat → Option Nat
  | 0, _ => none
  | n + 1, i => if vbad l v i then some i else vgo l v n (i + 1)
def holds (l : List Pt) (v : List Int) : Int × Int :=
  if may l = false then (0, 190)
  else match vgo l v (min l.length v.length) 0 with
    | some i => ((i : Int), 192)
    | none => if l.length = v.length then (0, 0) else (((min l.length v.length : Nat) : Int), 192)
theorem vgo_step {l : List Pt} {v : List Int} {n k : Nat} (hk : k < n) : vgo l v (n - k) k = if vbad l v k then some k else vgo l v (n - (k + 1)) (k + 1) := by
  rw [show n - k = (n - (k + 1)) + 1 by omega]; rfl
theorem holds_no {l : List Pt} {v : List Int} (h : may l = false) : holds l v = (0, 190) := by unfold holds; rw [if_pos h]
theorem holds_at {l : List Pt} {v : List Int} (h : may l = true) {i : Nat} (hi : vgo l v (min l.length v.length) 0 = some i) : holds l v = ((i : Int), 192) := by unfold holds; rw [if_neg (by simp [h]), hi]
theorem holds_end {l : List Pt} {v : List Int} (h : may l = true) (hi : vgo l v (min l.length v.length) 0 = none) : holds l v = if l.length = v.length then (0, 0) else (((min l.length v.length : Nat) : Int), 192) := by unfold holds; rw [if_neg (by simp [h]), hi]
end Go.Proofs.Ytbbjnhajmckjoaa
