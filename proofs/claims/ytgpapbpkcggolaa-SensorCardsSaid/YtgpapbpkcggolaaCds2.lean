/- Sensor: the same cards, one by one; walked. -/
import Derived.Test.YtgpapbpkcggolaaCds
namespace Go.Proofs.Ytgpapbpkcggolaa
open Go.RowKit Go.BigFrame

theorem Cds.at_ {w : World} {A : Option Addr} {l : List Cd} (h : Cds w A l) {k : Nat} (hk : k < l.length) :
    ∃ b o Ai ci, A = some ⟨b, o, none⟩ ∧ b < w.heap.size ∧ Txts w Ai l[k].cs ∧ w.cell? ⟨b, o + k * 7, none⟩ = some (.string l[k].n) ∧ w.cell? ⟨b, o + k * 7 + 1, none⟩ = some (.string l[k].f) ∧
      w.cell? ⟨b, o + k * 7 + 2, none⟩ = some (.int .u8 l[k].lv) ∧ w.cell? ⟨b, o + k * 7 + 3, none⟩ = some (.slice Ai l[k].cs.length ci) ∧ w.cell? ⟨b, o + k * 7 + 4, none⟩ = some (.int .i8 l[k].sc) ∧
      w.cell? ⟨b, o + k * 7 + 5, none⟩ = some (.string l[k].q) ∧ w.cell? ⟨b, o + k * 7 + 6, none⟩ = some (.int .i16 l[k].en) := by
  obtain ⟨b, o, Ai, ci, e, hb, hc, ht⟩ := h.2 k hk
  exact ⟨b, o, Ai, ci, e, hb, ht, hc 0 _ rfl, hc 1 _ rfl, hc 2 _ rfl, hc 3 _ rfl, hc 4 _ rfl, hc 5 _ rfl, hc 6 _ rfl⟩

set_option maxHeartbeats 4000000 in
set_option maxRecDepth 100000 in
theorem sameAll_any (l : List Cd) (A B : Option Addr) (ca cb : Nat) (w : World) (hA : Cds w A l) (hB : Cds w B l) :
    Calls Try.prog 7 #[.slice A l.length ca, .slice B l.length cb] w fun e w' => e = .returned (.bool true) ∧ Below w.heap.size w w' := by
  have hlen := hA.1
  have e6 : ((l.length : Int) != l.length) = false := by simp
  go_enter Try.func7, Try.ntmps7
  go_wp2
  go_loopw [5] (fun v wr => ∃ (k : Nat), k ≤ l.length ∧ v = .int .i64 k ∧ Below w.heap.size w wr) (fun v _ => l.length - (intOf v).toNat)
  case atStart => exact ⟨0, by omega, rfl, Below.refl _ _⟩
  case round =>
    obtain ⟨k, hk, rfl, hd⟩ := hrel
    by_cases hkl : k = l.length
    · subst hkl
      go_wp2
      go_ret
      exact ⟨rfl, hd⟩
    have hkl : k < l.length := by omega
    obtain ⟨b1, o1, A1, ci, rfl, hb1s, hT1, p0, p1, p2, p3, p4, p5, p6⟩ := (hA.below hd).at_ hkl
    obtain ⟨b2, o2, A2, cj, rfl, hb2s, hT2, q0, q1, q2, q3, q4, q5, q6⟩ := (hB.below hd).at_ hkl
    have hsz := hd.size
    have T := same_any l[k] A1 A2 ci cj wr.drew hT1 hT2
    clear hT1 hT2 hA hB
    generalize l[k] = p at *
    obtain ⟨n, f, lv, cs, sc, q, en⟩ := p
    simp only at *
    generalize hm : cs.length = m at *
    have hmh := Lib.hid hm
    clear hm
    have hdh := Lib.hid hd
    have k0 : (fun W : World => W.cell? ⟨b1, o1 + k * 7, none⟩ = some (.string n) ∧ W.cell? ⟨b1, o1 + k * 7 + 1, none⟩ = some (.string f) ∧
      W.cell? ⟨b1, o1 + k * 7 + 2, none⟩ = some (.int .u8 lv) ∧ W.cell? ⟨b1, o1 + k * 7 + 3, none⟩ = some (.slice A1 m ci) ∧ W.cell? ⟨b1, o1 + k * 7 + 4, none⟩ = some (.int .i8 sc) ∧
      W.cell? ⟨b1, o1 + k * 7 + 5, none⟩ = some (.string q) ∧ W.cell? ⟨b1, o1 + k * 7 + 6, none⟩ = some (.int .i16 en) ∧
      W.cell? ⟨b2, o2 + k * 7, none⟩ = some (.string n) ∧ W.cell? ⟨b2, o2 + k * 7 + 1, none⟩ = some (.string f) ∧
      W.cell? ⟨b2, o2 + k * 7 + 2, none⟩ = some (.int .u8 lv) ∧ W.cell? ⟨b2, o2 + k * 7 + 3, none⟩ = some (.slice A2 m cj) ∧ W.cell? ⟨b2, o2 + k * 7 + 4, none⟩ = some (.int .i8 sc) ∧
      W.cell? ⟨b2, o2 + k * 7 + 5, none⟩ = some (.string q) ∧ W.cell? ⟨b2, o2 + k * 7 + 6, none⟩ = some (.int .i16 en)) wr.drew := ⟨p0, p1, p2, p3, p4, p5, p6, q0, q1, q2, q3, q4, q5, q6⟩
    have hk0 : ∀ W, Below wr.heap.size wr.drew W → (fun W : World => W.cell? ⟨b1, o1 + k * 7, none⟩ = some (.string n) ∧ W.cell? ⟨b1, o1 + k * 7 + 1, none⟩ = some (.string f) ∧
      W.cell? ⟨b1, o1 + k * 7 + 2, none⟩ = some (.int .u8 lv) ∧ W.cell? ⟨b1, o1 + k * 7 + 3, none⟩ = some (.slice A1 m ci) ∧ W.cell? ⟨b1, o1 + k * 7 + 4, none⟩ = some (.int .i8 sc) ∧
      W.cell? ⟨b1, o1 + k * 7 + 5, none⟩ = some (.string q) ∧ W.cell? ⟨b1, o1 + k * 7 + 6, none⟩ = some (.int .i16 en) ∧
      W.cell? ⟨b2, o2 + k * 7, none⟩ = some (.string n) ∧ W.cell? ⟨b2, o2 + k * 7 + 1, none⟩ = some (.string f) ∧
      W.cell? ⟨b2, o2 + k * 7 + 2, none⟩ = some (.int .u8 lv) ∧ W.cell? ⟨b2, o2 + k * 7 + 3, none⟩ = some (.slice A2 m cj) ∧ W.cell? ⟨b2, o2 + k * 7 + 4, none⟩ = some (.int .i8 sc) ∧
      W.cell? ⟨b2, o2 + k * 7 + 5, none⟩ = some (.string q) ∧ W.cell? ⟨b2, o2 + k * 7 + 6, none⟩ = some (.int .i16 en)) W := fun W d => by
      have h1 : ∀ off, W.cell? ⟨b1, off, none⟩ = wr.drew.cell? ⟨b1, off, none⟩ := fun off => d.cell (p := ⟨b1, off, none⟩) hb1s
      have h2 : ∀ off, W.cell? ⟨b2, off, none⟩ = wr.drew.cell? ⟨b2, off, none⟩ := fun off => d.cell (p := ⟨b2, off, none⟩) hb2s
      simp only [h1, h2]
      exact k0
    clear p0 p1 p2 p3 p4 p5 p6 q0 q1 q2 q3 q4 q5 q6
    simp only at k0 hk0
    have g0 : Below w.heap.size w wr.drew := hdh.out.drew
    go_upto_region 6 with fail
    go_region_held3 (fun W => W.cell? ⟨b1, o1 + k * 7, none⟩ = some (.string n) ∧ W.cell? ⟨b1, o1 + k * 7 + 1, none⟩ = some (.string f) ∧
      W.cell? ⟨b1, o1 + k * 7 + 2, none⟩ = some (.int .u8 lv) ∧ W.cell? ⟨b1, o1 + k * 7 + 3, none⟩ = some (.slice A1 m ci) ∧ W.cell? ⟨b1, o1 + k * 7 + 4, none⟩ = some (.int .i8 sc) ∧
      W.cell? ⟨b1, o1 + k * 7 + 5, none⟩ = some (.string q) ∧ W.cell? ⟨b1, o1 + k * 7 + 6, none⟩ = some (.int .i16 en) ∧
      W.cell? ⟨b2, o2 + k * 7, none⟩ = some (.string n) ∧ W.cell? ⟨b2, o2 + k * 7 + 1, none⟩ = some (.string f) ∧
      W.cell? ⟨b2, o2 + k * 7 + 2, none⟩ = some (.int .u8 lv) ∧ W.cell? ⟨b2, o2 + k * 7 + 3, none⟩ = some (.slice A2 m cj) ∧ W.cell? ⟨b2, o2 + k * 7 + 4, none⟩ = some (.int .i8 sc) ∧
      W.cell? ⟨b2, o2 + k * 7 + 5, none⟩ = some (.string q) ∧ W.cell? ⟨b2, o2 + k * 7 + 6, none⟩ = some (.int .i16 en))
      (first | (with_reducible exact k0) | (with_reducible exact k1))
      (first | (go_at_call 13; (with_reducible refine T.mono ?_); rintro e w1 ⟨rfl, hb1⟩; have k1 := hk0 _ hb1; have hb2 : Below w.heap.size w w1 := g0.trans (hb1.mono hsz)))
    go_wp2
    go_roundw
    case rel => exact ⟨k + 1, by omega, by go_num, hb2⟩
    case measure => simp [intOf]; omega
end Go.Proofs.Ytgpapbpkcggolaa
