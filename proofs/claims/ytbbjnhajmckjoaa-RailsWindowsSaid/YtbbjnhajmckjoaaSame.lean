/- Rails: sameHolders; a nil set. -/
import Derived.Test.YtbbjnhajmckjoaaHld
namespace Go.Proofs.Ytbbjnhajmckjoaa
open Go.RowKit Go.BigFrame Go.Maps

set_option maxHeartbeats 4000000 in
set_option maxRecDepth 100000 in
theorem sameHolders_any {S : Nat → Prop} (m : Hl) (n : Nat) (hn : m.length = n) (A B : Option Addr) (c d : Nat) (w : World) (ha : Ints w A (m.map (·.1))) (hb : Hlr S w B m) :
    Calls Try.prog 31 #[.slice A n c, .slice B n d] w fun e w' => e = .returned (.bool true) ∧ Drawn w w' := by
  have hlen := hb.le
  rw [hn] at hlen
  have hA := Lib.hid (fun (X : World) (d : Drawn w X) (k : Nat) (hk : k < (m.map (·.1)).length) => (show Ints X A (m.map (·.1)) from Sl.drawn ha d).at_ hk)
  have hB := Lib.hid (fun (X : World) (d : Drawn w X) (k : Nat) (hk : k < m.length) => (show Hlr S X B m from Sl.drawn hb d).at_ hk)
  replace hn := Lib.hid hn
  clear ha hb
  go_enter Try.func31, Try.ntmps31
  go_upto_region 4 with fail
  go_loopw [5] (fun i wr => ∃ k : Nat, k ≤ n ∧ i = .int .i64 k ∧ Drawn w wr) (fun i _ => n - (RowKit.intOf i).toNat)
  case atStart => exact ⟨0, by omega, rfl, Drawn.refl _⟩
  case round =>
    obtain ⟨k, hk, rfl, hd⟩ := hrel
    obtain ⟨wk, rfl⟩ : ∃ y : World, y = wr := ⟨_, rfl⟩
    by_cases hkn : k = n
    · subst hkn
      go_wp2
      go_ret
      exact ⟨rfl, hd⟩
    · have hlt : k < n := by omega
      have hlt' : (k : Int) < (n : Int) := by omega
      have hkm : k < m.length := by rw [hn.out]; exact hlt
      obtain ⟨b1, o1, rfl, -, x0⟩ := hA.out wk hd k (by rw [List.length_map]; exact hkm)
      obtain ⟨b2, o2, rfl, -, -, y0, -, -⟩ := hB.out wk hd k hkm
      rw [List.getElem_map] at x0
      generalize (m[k]'hkm).1 = q at *
      have n1 : (q != q) = false := by simp
      clear hA hB
      go_wp2
      go_big_quiet (fail)
      go_wp2
      go_roundw
      case rel => exact ⟨k + 1, by omega, by go_num, hd.drewN _⟩
      case measure => first | (simp [RowKit.intOf]; done) | (simp [RowKit.intOf]; omega)
theorem ask_nil (k p1 p2 : Int) (w : World) : Calls Try.prog 24 #[.pointer none, .int .i64 k, .agg #[.int .i64 p1, .int .i64 p2]] w fun e w' => e = .returned (.int .i64 2) ∧ Below w.heap.size w w' := by
  go_enter Try.func24, Try.ntmps24
  go_wp2
  go_ret
  exact ⟨rfl, below_al (Below.refl _ _) _⟩
theorem drop_nil (k : Int) (w : World) : Calls Try.prog 25 #[.pointer none, .int .i64 k] w fun e w' => e = .returned (.int .i64 2) ∧ w' = w := by
  go_enter Try.func25, Try.ntmps25
  go_wp2
  go_ret
  exact ⟨rfl, rfl⟩
theorem volts_nil (w : World) : Calls Try.prog 26 #[.pointer none] w fun e w' => e = .returned (.int .i64 0) ∧ w' = w := by
  go_enter Try.func26, Try.ntmps26
  go_wp2
  go_ret
  exact ⟨rfl, rfl⟩
theorem holders_nil (w : World) : Calls Try.prog 27 #[.pointer none] w fun e w' => e = .returned (.slice none 0 0) ∧ w' = w := by
  go_enter Try.func27, Try.ntmps27
  go_wp2
  go_ret
  exact ⟨rfl, rfl⟩
theorem turns_nil (w : World) : Calls Try.prog 28 #[.pointer none] w fun e w' => e = .returned (.int .i64 0) ∧ w' = w := by
  go_enter Try.func28, Try.ntmps28
  go_wp2
  go_ret
  exact ⟨rfl, rfl⟩
end Go.Proofs.Ytbbjnhajmckjoaa
