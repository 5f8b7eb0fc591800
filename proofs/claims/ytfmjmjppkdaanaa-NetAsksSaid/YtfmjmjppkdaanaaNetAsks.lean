/- NetAsks, walked. -/
import Derived.Test.YtfmjmjppkdaanaaAsked
import Derived.Test.YtfmjmjppkdaanaaKept
namespace Go.Proofs.Ytfmjmjppkdaanaa
open Go.RowKit Go.BigFrame flt Ieee

set_option maxHeartbeats 4000000 in
theorem asks_walk (l : List Part) (A : Option Addr) (c : Nat) (rate : Int) (w : World) (h : Pcs w A l) (hL : Little l) :
    Calls Try.prog 4 #[.slice A l.length c, .int .u64 rate] w fun e w' => e = .returned (.bool true) ∧ Below w.heap.size w w' := by
  have hst : ∀ (p : Addr) (v : Nat) (W : World), (store p (.float .f64 v)).run Try.prog W = stored Try.prog W p (.float .f64 v) .plain := fun p v W => run_store Try.prog W p _ _ rfl
  obtain ⟨FA, GA, ha, cA⟩ := veil (op := .add) (Or.inl rfl) 23
  clear cA
  have ha1 := fun x => ha x 4607182418800017408
  have hfr : ∀ W, (callFunc 10 #[.int .u64 rate]).run Try.prog W = .ok (.value (.float .f64 rate.toNat)) W := fun W => from_run rate W
  have hP0 := parts_any l A c w h hL
  have hlen := h.1
  have K := fun (l' : List Part) (A' : Option Addr) (c' : Nat) (W : World) hp => asked_any l' A' c' rate.toNat W hp
  have hC := Lib.hid h
  clear h
  go_enter Try.func4, Try.ntmps4
  go_upto_region 3 with (go_at_call 20; (with_reducible refine (hP0).mono ?_); rintro e w1 ⟨g, cap, gs, rfl, hcap, hP, hb⟩)
  go_wp2_with (first
    | (go_at_call 21; (with_reducible refine (K l _ _ _ hP.pn).mono ?_); rintro e w2 ⟨rfl, hb2⟩; replace hP := hP.below hb2; replace hb := hb.trans (hb2.mono hb.size); clear hb2)
    | (go_at_call 22; (with_reducible refine (kept_any l A c _ g cap gs _ hP hcap (hC.out.below hb)).mono ?_); rintro e w3 ⟨rfl, hd⟩; replace hP := hP.below (hd.below _); replace hb := hd.after hb; clear hd))
  clear hC hP0
  obtain ⟨wo, rfl⟩ : ∃ wo : World, wo = w3 := ⟨_, rfl⟩
  go_loopw [7] (fun s wr => ∃ (k : Nat) (l' : List Part), k ≤ l.length ∧ s = .int .i64 k ∧ l'.length = l.length ∧ Parted wr w.heap.size l' g cap gs ∧ Below w.heap.size w wr) (fun s _ => l.length - (intOf s).toNat)
  case atStart => exact ⟨0, l, by omega, rfl, rfl, hP, hb⟩
  case round =>
    clear hP hb
    obtain ⟨k, l', hk, rfl, hll, hP, hb⟩ := hrel
    replace hll := Lib.hid hll
    by_cases hkl : k = l.length
    · subst hkl
      have K1 := K l' _ cap _ hP.pn
      rw [hll.out] at K1
      go_wp2_with (go_at_call 21; (with_reducible refine (K1).mono ?_); rintro e w4 ⟨rfl, hb4⟩)
      go_ret
      exact ⟨rfl, hb.trans (hb4.mono hb.size)⟩
    have hlt : k < l.length := by omega
    have hlt' : k < l'.length := by rw [hll.out]; exact hlt
    obtain ⟨gk, ck, hgk, hgl, c0, c1, c2, f1⟩ := hP.cell hlt'
    have hset := Lib.hid (fun n y => (hP.below (((Drawn.refl wr).drewN n).below wr.heap.size)).set hlt' y)
    have hPh := Lib.hid hP
    have hgw : Hid (w.heap.size ≤ g) := Lib.hid (hP.row.lt g rfl).1
    clear hgk c2 hP K
    generalize l'[k] = p at *
    by_cases h4 : p.kind < 4
    · go_wp2
      go_roundw
      case rel => exact ⟨k + 1, _, by omega, by go_num, by rw [List.length_set]; exact hll.out, hset.out _ _, Below.setCell (below_drewN' hb _) hgw.out _⟩
      case measure => simp [intOf]; omega
    · go_wp2
      go_roundw
      case rel => exact ⟨k + 1, _, by omega, by go_num, hll.out, hPh.out, hb⟩
      case measure => simp [intOf]; omega
end Go.Proofs.Ytfmjmjppkdaanaa
