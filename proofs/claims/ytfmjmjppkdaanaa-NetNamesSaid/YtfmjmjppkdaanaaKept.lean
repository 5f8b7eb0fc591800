/- Net: whether parts that were handed in are what they were, walked. -/
import Derived.Test.YtfmjmjppkdaanaaParts
import Derived.Test.YtfmjmjppkdaanaaAsk
import Derived.BigQuiet
namespace Go.Proofs.Ytfmjmjppkdaanaa
open Go.RowKit Go.BigFrame flt Ieee

set_option maxHeartbeats 4000000 in
set_option maxRecDepth 100000 in
theorem kept_any (l : List Part) (A : Option Addr) (c B g cap : Nat) (gs : List (Nat × Nat)) (w : World) (hP : Parted w B l g cap gs) (hcap : l.length + 1 ≤ cap) (hC : Pcs w A l) :
    Calls Try.prog 22 #[.slice (some ⟨g, 0, none⟩) l.length cap, .slice A l.length c] w fun e w' => e = .returned (.bool true) ∧ Drawn w w' := by
  have hlast := hP.last
  have hlen := hC.1
  have hle1 : l.length + 1 ≤ 9223372036854775807 := by
    obtain ⟨_, _, _, hs⟩ := hP.row.sl
    have := hs.1
    rw [hP.rows] at this
    exact this
  have w1 : wrap64 ((l.length : Int) + 1) = ((l.length + 1 : Nat) : Int) := by
    rw [IntWalk.wrap64_in _ (by omega)]; omega
  have f99 : ((99 : Int) != 99) = false := rfl
  have f987 : ((987 : Int) != 987) = false := rfl
  have hB := bits_run
  go_enter Try.func22, Try.ntmps22
  go_wp2
  go_loopw [5] (fun s wr => ∃ k : Nat, k ≤ l.length ∧ s = .int .i64 k ∧ Drawn w wr) (fun s _ => l.length - (intOf s).toNat)
  case atStart => exact ⟨0, by omega, rfl, Drawn.refl _⟩
  case round =>
    obtain ⟨k, hk, rfl, hd⟩ := hrel
    obtain ⟨wo, rfl⟩ : ∃ wo : World, wo = wr := ⟨_, rfl⟩
    by_cases hkl : k = l.length
    · subst hkl
      go_wp2
      go_ret
      exact ⟨rfl, hd⟩
    have hlt : k < l.length := by omega
    obtain ⟨gk, ck, hgk, _, c0, c1, c2, _⟩ := hP.cell hlt
    obtain ⟨e0, _, e1, e2⟩ := hP.list hlt hgk
    obtain ⟨b, o, Ai, ci, rfl, _, d0, d1, d2, hI, _⟩ := hC.2 k hlt
    have hle2 : l[k].of.length + 1 ≤ 9223372036854775807 := by
      obtain ⟨_, _, _, hs⟩ := (hP.inn k _ _ (List.getElem?_eq_getElem hlt) hgk).1.sl
      have := hs.1
      rw [inner_len] at this
      exact this
    generalize l[k] = p at *
    clear hgk hC
    have c2' := c2
    have d2' := d2
    have c0 := (hd.cell _).trans c0
    have c1 := (hd.cell _).trans c1
    have c2 := (hd.cell _).trans c2
    have e2 := (hd.cell _).trans e2
    have d0 := (hd.cell _).trans d0
    have d1 := (hd.cell _).trans d1
    have d2 := (hd.cell _).trans d2
    go_upto_region 7 with fail
    have q0 : (p.kind != p.kind) = false := by simp
    have q1 : ((p.x : Int) != p.x) = false := by simp
    have q2 : ((p.of.length : Int) != p.of.length) = false := by simp
    have hB2 := hB p.x
    have w2 : (p.of.length : Int) + 1 ≤ 9223372036854775807 := by omega
    go_big_quiet (fail)
    clear c0 c1 d0 d1 e2 w2 q0 q1 q2
    go_wp2
    go_loopw [7] (fun s wr => ∃ j : Nat, j ≤ p.of.length ∧ s = .int .i64 j ∧ Drawn w wr) (fun s _ => p.of.length - (intOf s).toNat)
    case atStart => exact ⟨0, by omega, rfl, hd.drewN _⟩
    case round =>
      obtain ⟨j, hj, rfl, hdj⟩ := hrel
      obtain ⟨wi, rfl⟩ : ∃ wi : World, wi = wr := ⟨_, rfl⟩
      by_cases hjl : j = p.of.length
      · subst hjl
        go_wp2
        go_roundw
        case rel => exact ⟨k + 1, by omega, by go_num, hdj⟩
        case measure => simp [intOf]; omega
      have hjt : j < p.of.length := by omega
      obtain ⟨bi, oi, rfl, _, x1⟩ := hI.at_ hjt
      obtain ⟨bg, og, eg, _, x2⟩ := e1.at_ hjt
      cases eg
      rw [Nat.zero_add] at x2
      generalize p.of[j] = y at *
      have c2 := (hdj.cell _).trans c2'
      have d2 := (hdj.cell _).trans d2'
      have x1 := (hdj.cell _).trans x1
      have x2 := (hdj.cell _).trans x2
      have q3 : (y != y) = false := by simp
      go_upto_region 12 with fail
      go_big_quiet (fail)
      go_wp2
      go_roundw
      case rel => exact ⟨j + 1, by omega, by go_num, hdj.drewN _⟩
      case measure => simp [intOf]; omega
end Go.Proofs.Ytfmjmjppkdaanaa
