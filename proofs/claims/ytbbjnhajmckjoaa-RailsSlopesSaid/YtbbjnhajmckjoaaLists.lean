/- Rails: fed, sameMoves, same64. -/
import Derived.Test.YtbbjnhajmckjoaaBase
namespace Go.Proofs.Ytbbjnhajmckjoaa
open Go.RowKit Go.BigFrame

theorem elt24 : Elt Try.prog 24 42 2 16 := Elt.of (z := .agg #[.int .i64 0, .int .i64 0]) Try.underlying24 (by kernel_rfl) rfl (by decide) (by decide)
theorem prow_len (l : List Pt) : ∀ r ∈ l.map prow, r.length = 2 := by
  intro r hr
  obtain ⟨p, _, rfl⟩ := List.mem_map.1 hr
  rfl
theorem take_push (l : List Pt) {k : Nat} (hk : k < l.length) : (l.take k).map prow ++ [prow l[k]] = (l.take (k + 1)).map prow := by
  rw [List.take_succ_eq_append_getElem hk, List.map_append]; rfl

set_option maxHeartbeats 1000000 in
theorem fed_any (l : List Pt) (A : Option Addr) (c : Nat) (w : World) (h : Pts w A l) (hr : l.length * 16 ≤ 140737488351232) :
    Calls Try.prog 11 #[.slice A l.length c] w fun e w' => ∃ v, e = .returned v ∧ Own w' w.heap.size 42 2 (l.map prow) v ∧ Below w.heap.size w w' := by
  have hlen := h.le
  go_enter Try.func11, Try.ntmps11
  go_wp2
  go_loopw [3, 4] (fun v i wr => ∃ k : Nat, k ≤ l.length ∧ i = .int .i64 k ∧ Own wr w.heap.size 42 2 ((l.take k).map prow) v ∧ Below w.heap.size w wr) (fun _ i _ => l.length - (intOf i).toNat)
  case atStart => exact ⟨0, by omega, rfl, Own.nil _ _ _ _, Below.refl _ _⟩
  case round =>
    obtain ⟨k, hk, rfl, hown, hg⟩ := hrel
    by_cases hkl : k = l.length
    · subst hkl
      go_wp2
      go_ret
      rw [List.take_length] at hown
      exact ⟨_, rfl, hown, hg⟩
    have hkl : k < l.length := by omega
    obtain ⟨b, o, rfl, hb, c1, c2⟩ := (h.below hg).at_ hkl
    have hp : Hid (prow l[k] = [.int .i64 l[k].1, .int .i64 l[k].2]) := Lib.hid rfl
    have ht := Lib.hid (take_push l hkl)
    generalize prow l[k] = pr at *
    generalize l[k].1 = q1, l[k].2 = q2 at *
    have hB := hg.size
    have hlk : Hid (((l.take k).map prow).length = k) := Lib.hid (by simp; omega)
    go_wp2_with (at_builtin; refine wpList_push elt24 rfl _ _ rfl rfl (hown.alloc _) [.int .i64 q1, .int .i64 q2] wr.heap.size 42 rfl (heap_alloc_at _ _) rfl (by simp [Value.oneCell']) (by rw [hlk.out]; omega) (by rw [size_al]; omega) ?_; intro v' w1 ho' hb' hs' _ _)
    go_roundw
    case rel =>
      refine ⟨k + 1, by omega, by go_num, ?_, (below_al hg _).trans hb'⟩
      rw [← ht.out, hp.out]
      exact ho'
    case measure => simp [intOf]; omega
theorem eq_drop {α : Type} {a b : List α} (hl : a.length = b.length) {k : Nat} (h : ∀ j (_ : j < k) (h2 : j < a.length), a[j] = b[j]'(by omega)) (hk : a.length ≤ k) : a = b :=
  List.ext_getElem hl fun j h1 _ => h j (by omega) h1
theorem eq_step {α : Type} {a b : List α} (hl : a.length = b.length) {k : Nat} (h : ∀ j (_ : j < k) (h2 : j < a.length), a[j] = b[j]'(by omega)) (hk : k < a.length) (hab : a[k] = b[k]'(by omega)) :
    ∀ j (_ : j < k + 1) (h2 : j < a.length), a[j] = b[j]'(by omega) := by
  intro j h1 h2
  rcases Nat.lt_or_ge j k with e | e
  · exact h j e h2
  · obtain rfl : j = k := by omega
    exact hab

set_option maxHeartbeats 2000000 in
set_option maxRecDepth 100000 in
theorem sameMoves_any (a b : List Pt) (A B : Option Addr) (c d : Nat) (w : World) (ha : Pts w A a) (hb : Pts w B b) :
    Calls Try.prog 16 #[.slice A a.length c, .slice B b.length d] w fun e w' => e = .returned (.bool (decide (a = b))) ∧ Drawn w w' := by
  have hla := ha.le
  have hlb := hb.le
  by_cases hl : a.length = b.length
  case neg =>
    have hne : Hid (decide (a = b) = false) := Lib.hid (decide_eq_false (by rintro rfl; exact hl rfl))
    generalize decide (a = b) = D at *
    go_enter Try.func16, Try.ntmps16
    go_wp2
    go_ret
    exact ⟨ret_bool hne.out.symm, Drawn.refl _⟩
  generalize hD : decide (a = b) = D at *
  have hDh := Lib.hid hD
  clear hD
  have hlh := Lib.hid hl
  go_enter Try.func16, Try.ntmps16
  go_wp2
  go_loopw [5] (fun v wr => ∃ (k : Nat), k ≤ a.length ∧ v = .int .i64 k ∧ Drawn w wr ∧ ∀ j (_ : j < k) (h2 : j < a.length), a[j] = b[j]'(by omega)) (fun v _ => a.length - (intOf v).toNat)
  case atStart => exact ⟨0, by omega, rfl, Drawn.refl _, fun j h1 _ => absurd h1 (by omega)⟩
  case round =>
    obtain ⟨k, hk, rfl, hd, hj⟩ := hrel
    have hjh := Lib.hid hj
    clear hj
    by_cases hkl : k = a.length
    · subst hkl
      have hT : Hid (D = true) := Lib.hid (by rw [← hDh.out]; exact decide_eq_true (eq_drop hl hjh.out (Nat.le_refl _)))
      go_wp2
      go_ret
      exact ⟨ret_bool hT.out.symm, hd⟩
    have hka : k < a.length := by omega
    have hkb : k < b.length := by omega
    obtain ⟨b1, o1, rfl, _, c1, c2⟩ := Pts.at_ (Sl.drawn ha hd) hka
    obtain ⟨b2, o2, rfl, _, c3, c4⟩ := Pts.at_ (Sl.drawn hb hd) hkb
    have hno : Hid (a[k] ≠ b[k] → D = false) := Lib.hid fun hne => by
      rw [← hDh.out]
      refine decide_eq_false fun e => hne ?_
      subst e; rfl
    have hst := Lib.hid (eq_step hl hjh.out hka)
    clear hjh hDh
    obtain ⟨p1, p2, hp⟩ : ∃ p1 p2, a[k] = (p1, p2) := ⟨_, _, rfl⟩
    obtain ⟨q1, q2, hq⟩ : ∃ q1 q2, b[k] = (q1, q2) := ⟨_, _, rfl⟩
    rw [hp] at c1 c2
    rw [hq] at c3 c4
    simp only at c1 c2 c3 c4
    have hp := Lib.hid hp
    have hq := Lib.hid hq
    by_cases h1 : p1 = q1
    · by_cases h2 : p2 = q2
      · have hn := Lib.hid (hst.out (by rw [hp.out, hq.out, h1, h2]))
        clear hst hno hp hq
        subst h1 h2
        go_wp2
        go_big_quiet (fail)
        go_wp2
        go_roundw
        case rel => exact ⟨k + 1, by omega, by go_num, hd.drewN _, hn.out⟩
        case measure => simp [intOf]; omega
      · have hF : Hid (D = false) := Lib.hid (hno.out fun e => h2 (by rw [hp.out, hq.out] at e; cases e; rfl))
        clear hst hno hp hq
        subst h1
        go_wp2
        have g : (p2 != q2) = true := by simp [h2]
        go_big_quiet (fail)
        go_wp2
        go_ret
        exact ⟨ret_bool hF.out.symm, hd.drewN _⟩
    · have hF : Hid (D = false) := Lib.hid (hno.out fun e => h1 (by rw [hp.out, hq.out] at e; cases e; rfl))
      clear hst hno hp hq
      go_wp2
      have g : (p1 != q1) = true := by simp [h1]
      go_big_quiet (fail)
      go_wp2
      go_ret
      exact ⟨ret_bool hF.out.symm, hd.drewN _⟩

set_option maxHeartbeats 2000000 in
set_option maxRecDepth 100000 in
theorem same64_any (a b : List Int) (A B : Option Addr) (c d : Nat) (w : World) (ha : Ints w A a) (hb : Ints w B b) :
    Calls Try.prog 17 #[.slice A a.length c, .slice B b.length d] w fun e w' => e = .returned (.bool (decide (a = b))) ∧ Drawn w w' := by
  have hla := ha.le
  have hlb := hb.le
  by_cases hl : a.length = b.length
  case neg =>
    have hne : Hid (decide (a = b) = false) := Lib.hid (decide_eq_false (by rintro rfl; exact hl rfl))
    generalize decide (a = b) = D at *
    go_enter Try.func17, Try.ntmps17
    go_wp2
    go_ret
    exact ⟨ret_bool hne.out.symm, Drawn.refl _⟩
  generalize hD : decide (a = b) = D at *
  have hDh := Lib.hid hD
  clear hD
  have hlh := Lib.hid hl
  go_enter Try.func17, Try.ntmps17
  go_wp2
  go_loopw [5] (fun v wr => ∃ (k : Nat), k ≤ a.length ∧ v = .int .i64 k ∧ Drawn w wr ∧ ∀ j (_ : j < k) (h2 : j < a.length), a[j] = b[j]'(by omega)) (fun v _ => a.length - (intOf v).toNat)
  case atStart => exact ⟨0, by omega, rfl, Drawn.refl _, fun j h1 _ => absurd h1 (by omega)⟩
  case round =>
    obtain ⟨k, hk, rfl, hd, hj⟩ := hrel
    have hjh := Lib.hid hj
    clear hj
    by_cases hkl : k = a.length
    · subst hkl
      have hT : Hid (D = true) := Lib.hid (by rw [← hDh.out]; exact decide_eq_true (eq_drop hl hjh.out (Nat.le_refl _)))
      go_wp2
      go_ret
      exact ⟨ret_bool hT.out.symm, hd⟩
    have hka : k < a.length := by omega
    have hkb : k < b.length := by omega
    obtain ⟨b1, o1, rfl, _, c1⟩ := Ints.at_ (Sl.drawn ha hd) hka
    obtain ⟨b2, o2, rfl, _, c3⟩ := Ints.at_ (Sl.drawn hb hd) hkb
    have hno : Hid (a[k] ≠ b[k] → D = false) := Lib.hid fun hne => by
      rw [← hDh.out]
      refine decide_eq_false fun e => hne ?_
      subst e; rfl
    have hst := Lib.hid (eq_step hl hjh.out hka)
    clear hjh hDh
    generalize hp : a[k] = p1 at *
    generalize hq : b[k] = q1 at *
    have hp := Lib.hid hp
    have hq := Lib.hid hq
    by_cases h1 : p1 = q1
    · have hn := Lib.hid (hst.out h1)
      clear hst hno hp hq
      subst h1
      go_wp2
      go_big_quiet (fail)
      go_wp2
      go_roundw
      case rel => exact ⟨k + 1, by omega, by go_num, hd.drewN _, hn.out⟩
      case measure => simp [intOf]; omega
    · have hF : Hid (D = false) := Lib.hid (hno.out h1)
      clear hst hno hp hq
      go_wp2
      have g : (p1 != q1) = true := by simp [h1]
      go_big_quiet (fail)
      go_wp2
      go_ret
      exact ⟨ret_bool hF.out.symm, hd.drewN _⟩
end Go.Proofs.Ytbbjnhajmckjoaa
