/- Points: the plain table and Check. -/
import Derived.Test.YthmdhmknadhjeaaProg
import Derived.Test.YthmdhmknadhjeaaMem
import Derived.WalkKit
import Derived.WalkLawsBesides
import Derived.WalkSpells
import Derived.Lib.Hide
import Derived.Handy
import Derived.Deep.QuietTactic
import Derived.BigQuiet
namespace Go.Proofs.Ythmdhmknadhjeaa
open Go.RowKit

def prow (p : Int × Int) : List Value := [.int .i64 p.1, .int .i64 p.2]
abbrev Pt := Int × Int
def good (k : Nat) (a p : Pt) : Prop := k < 64 ∧ a.1 < p.1 ∧ p.1 ≤ 1000000000000 ∧ 1 ≤ p.2 ∧ a.2 ≤ p.2 ∧ p.2 ≤ 1000000000000
instance (k : Nat) (a p : Pt) : Decidable (good k a p) := by unfold good; infer_instance
def chk : Nat → Pt → List Pt → Int × Int
  | _, _, [] => (0, 0)
  | k, a, p :: t => if good k a p then chk (k + 1) p t else ((k : Int), 280)
def check (l : List Pt) : Int × Int := if l = [] then (0, 280) else chk 0 (0, 0) l

/-- a table of points in memory -/
def Pts (w : World) (A : Option Addr) (l : List Pt) : Prop := Sl (fun _ => True) w A 2 (l.map prow)
theorem Pts.at_ {w : World} {A : Option Addr} {l : List Pt} (h : Pts w A l) {k : Nat} (hk : k < l.length) :
    ∃ b o, A = some ⟨b, o, none⟩ ∧ b < w.heap.size ∧ w.cell? ⟨b, o + k * 2, none⟩ = some (.int .i64 l[k].1) ∧ w.cell? ⟨b, o + k * 2 + 1, none⟩ = some (.int .i64 l[k].2) := by
  obtain ⟨b, o, e, _, hl, hc⟩ := Sl.at_ h (k := k) (by simpa using hk)
  refine ⟨b, o, e, hl, ?_, ?_⟩
  · exact hc 0 _ (by simp [prow])
  · exact hc 1 _ (by simp [prow])
theorem Pts.le {w : World} {A : Option Addr} {l : List Pt} (h : Pts w A l) : l.length ≤ 9223372036854775807 := by
  have := Sl.le h; simpa using this
theorem Pts.below {w w' : World} {A : Option Addr} {l : List Pt} (h : Pts w A l) (d : Below w.heap.size w w') : Pts w' A l := Sl.below' h d

theorem chk_step {k : Nat} {a : Pt} {l : List Pt} (hk : k < l.length) : chk k a (l.drop k) = if good k a l[k] then chk (k + 1) l[k] (l.drop (k + 1)) else ((k : Int), 280) := by
  rw [List.drop_eq_getElem_cons hk]; rfl
theorem chk_end {k : Nat} {a : Pt} {l : List Pt} (hk : l.length ≤ k) : chk k a (l.drop k) = (0, 0) := by
  rw [List.drop_eq_nil_of_le hk]; rfl
theorem chk_bad {k : Nat} {a : Pt} {l : List Pt} (hk : k < l.length) (h : ¬ good k a l[k]) (hc : chk 0 (0, 0) l = chk k a (l.drop k)) : check l = ((k : Int), 280) := by
  rw [chk_step hk, if_neg h] at hc
  unfold check
  rw [if_neg (by rintro rfl; simp at hk), hc]
theorem chk_all {k : Nat} {a : Pt} {l : List Pt} (hk : l.length ≤ k) (hl : l ≠ []) (hc : chk 0 (0, 0) l = chk k a (l.drop k)) : check l = (0, 0) := by
  rw [chk_end hk] at hc
  unfold check
  rw [if_neg hl, hc]
theorem ret_chk {l : List Pt} {a b : Int} (h : check l = (a, b)) : Ending.returned (.tuple #[.int .i64 a, .int .i64 b]) = .returned (.tuple #[.int .i64 (check l).1, .int .i64 (check l).2]) := by rw [h]

set_option maxHeartbeats 4000000 in
theorem check_any (l : List Pt) (A : Option Addr) (c : Nat) (w : World) (h : Pts w A l) :
    Calls Try.prog 29 #[.slice A l.length c] w fun e w' => e = .returned (.tuple #[.int .i64 (check l).1, .int .i64 (check l).2]) ∧ Below w.heap.size w w' := by
  have hlen := h.le
  go_enter Try.func29, Try.ntmps29
  go_wp2
  go_loopw [10] (fun v wr => ∃ (k : Nat) (a : Pt), k ≤ l.length ∧ v = .int .i64 k ∧ Below w.heap.size w wr ∧ w.heap.size < wr.heap.size ∧ wr.heap[w.heap.size]? = some (.cells #[.int .i64 a.1, .int .i64 a.2] 36) ∧ 0 ≤ a.2 ∧
      chk 0 (0, 0) l = chk k a (l.drop k)) (fun v _ => l.length - (intOf v).toNat)
  case atStart => exact ⟨0, (0, 0), by omega, rfl, below_al (Below.refl _ _) _, by rw [size_al]; omega, heap_alloc_at _ _, by decide, rfl⟩
  case round =>
    obtain ⟨k, a, hk, rfl, hg, hB, ha, ha2, hc⟩ := hrel
    obtain ⟨ca, cb⟩ := cell_two ha
    have f0 := frozen_row ha 0
    have f1 := frozen_row ha 1
    by_cases hkl : k = l.length
    · subst hkl
      by_cases h0 : l = []
      · subst h0
        go_wp2
        go_ret2
        exact ⟨rfl, hg⟩
      · have e := Lib.hid (chk_all (Nat.le_refl _) h0 hc)
        have h0' : 0 < l.length := List.length_pos_iff.2 h0
        clear hc
        go_wp2
        go_ret2
        exact ⟨ret_chk e.out, hg⟩
    have hkl : k < l.length := by omega
    obtain ⟨b, o, rfl, hb, c1, c2⟩ := (h.below hg).at_ hkl
    by_cases hgd : good k a l[k]
    · have hc2 := Lib.hid (show chk 0 (0, 0) l = chk (k + 1) l[k] (l.drop (k + 1)) by rw [hc, chk_step hkl, if_pos hgd])
      obtain ⟨h1, h2, h3, h4, h5, h6⟩ := hgd
      clear hc
      have heq : Hid (l[k] = (l[k].1, l[k].2)) := Lib.hid rfl
      generalize l[k] = q at *
      obtain ⟨r, v⟩ := q
      simp only at h2 h3 h4 h5 h6 c1 c2
      by_cases h7 : 1 < a.2
      · go_wp2
        go_roundw
        case rel => exact ⟨k + 1, (r, v), by omega, by go_num, below_al (Below.setCell (Below.setCell hg (Nat.le_refl _) _) (Nat.le_refl _) _) _, by rw [size_al, size_set, size_set]; omega, heap_alloc (heap_set (heap_set ha 0 _) 1 _), by omega, hc2.out⟩
        case measure => simp [intOf]; omega
      · go_wp2
        go_roundw
        case rel => exact ⟨k + 1, (r, v), by omega, by go_num, below_al (Below.setCell (Below.setCell hg (Nat.le_refl _) _) (Nat.le_refl _) _) _, by rw [size_al, size_set, size_set]; omega, heap_alloc (heap_set (heap_set ha 0 _) 1 _), by omega, hc2.out⟩
        case measure => simp [intOf]; omega
    · have e := Lib.hid (chk_bad hkl hgd hc)
      clear hc
      generalize l[k] = q at *
      obtain ⟨r, v⟩ := q
      simp only [good] at hgd c1 c2
      by_cases h1 : k < 64
      · by_cases h2 : a.1 < r
        · by_cases h3 : r ≤ 1000000000000
          · by_cases h7 : 1 < a.2
            · by_cases h4 : a.2 ≤ v
              · have h6 : ¬ v ≤ 1000000000000 := fun h6 => hgd ⟨h1, h2, h3, by omega, h4, h6⟩
                clear hgd
                go_wp2
                go_ret2
                exact ⟨ret_chk e.out, below_al hg _⟩
              · clear hgd
                go_wp2
                go_ret2
                exact ⟨ret_chk e.out, below_al hg _⟩
            · by_cases h4 : 1 ≤ v
              · have h6 : ¬ v ≤ 1000000000000 := fun h6 => hgd ⟨h1, h2, h3, h4, by omega, h6⟩
                clear hgd
                go_wp2
                go_ret2
                exact ⟨ret_chk e.out, below_al hg _⟩
              · clear hgd
                go_wp2
                go_ret2
                exact ⟨ret_chk e.out, below_al hg _⟩
          · clear hgd
            go_wp2
            go_ret2
            exact ⟨ret_chk e.out, below_al hg _⟩
        · clear hgd
          go_wp2
          go_ret2
          exact ⟨ret_chk e.out, below_al hg _⟩
      · clear hgd
        go_wp2
        go_ret2
        exact ⟨ret_chk e.out, below_al hg _⟩
end Go.Proofs.Ythmdhmknadhjeaa
