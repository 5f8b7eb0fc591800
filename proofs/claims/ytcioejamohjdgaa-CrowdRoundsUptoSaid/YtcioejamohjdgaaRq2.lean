/- Crowd: the program's Rounds, refused; walked. -/
import Derived.Test.YtcioejamohjdgaaRq0
namespace Go.Proofs.Ytcioejamohjdgaa
open Go.RowKit Go.BigFrame

set_option maxHeartbeats 4000000 in
set_option maxRecDepth 100000 in
theorem rounds_no (nd : List (List Int)) (bd : List Int) (A A2 : Option Addr) (c c2 n m : Nat) (w : World) (h : Nds w A nd) (hn : nd.length = n) (hb : Ints w A2 bd) (hm : bd.length = m) (hno : (mayN nd && okB n bd) = false) :
    Calls Try.prog 12 #[.slice A n c, .slice A2 m c2] w fun e w' => e = .returned (.tuple #[.slice none 0 0, .slice none 0 0, .int .i64 1]) ∧ Below w.heap.size w w' := by
  have KM := may_any nd A c n w h hn
  have hbd := Lib.hid fun (k : Nat) (hk : k < bd.length) (X : World) (q : Below w.heap.size w X) => (hb.below q).at_ hk
  have hml := hb.le
  rw [hm] at hml
  have hnle := h.1
  rw [hn] at hnle
  cases hmay : mayN nd with
  | false =>
    rw [hmay] at KM
    clear hbd hb h hno hmay
    go_enter Try.func12, Try.ntmps12
    go_wp2_with (go_at_call 37; (with_reducible refine KM.mono ?_); rintro e w1 ⟨rfl, rfl⟩)
    go_ret3
    exact ⟨rfl, Below.refl _ _⟩
  | true =>
    rw [hmay] at KM hno
    obtain ⟨h96, -⟩ := may_rng hmay
    rw [hn] at h96
    have hno' : Hid (∃ k, ∃ hk : k < bd.length, okU n bd[k] = false) := Lib.hid (by
      rw [Bool.true_and] at hno
      unfold okB at hno
      rw [List.all_eq_false] at hno
      obtain ⟨x, hx, hp⟩ := hno
      obtain ⟨k, hk, rfl⟩ := List.getElem_of_mem hx
      exact ⟨k, hk, by simpa using hp⟩)
    have hmx : Hid (n ≤ maxLen ∧ 1 * n ≤ 281474976710656) := Lib.hid (by unfold maxLen; omega)
    replace hm := Lib.hid hm
    clear hb h hno hmay hn
    go_enter Try.func12, Try.ntmps12
    go_upto_region 4 with (first
      | (go_at_call 37; (with_reducible refine KM.mono ?_); rintro e w1 ⟨rfl, rfl⟩)
      | (refine wpList_made1 (bytes := 1) (z := .bool false) Try.underlying49 (by kernel_rfl) rfl rfl _ _ rfl n rfl rfl hmx.out.2 hmx.out.1 ?_; intro w1 hf1 hb1))
    rw [← rep_b0] at hf1
    obtain ⟨gf, hgf⟩ : ∃ g, w.heap.size = g := ⟨_, rfl⟩
    have hf1' : Own w1 gf 4 1 ((flagsOf n []).map brow) (.slice (some ⟨gf, 0, none⟩) n n) := by rw [← hgf]; exact hf1
    rw [show (Value.slice (some (⟨w.heap.size, 0, none⟩ : Addr)) n n) = Value.slice (some ⟨gf, 0, none⟩) n n by rw [hgf]]
    replace hgf := Lib.hid hgf
    clear hf1 KM
    go_upto_region 5 with fail
    go_loopw [30, 4, 5, 6] (fun s30 s4 s5 s6 wr => ∃ j : Nat, j ≤ m ∧ Value.slice none 0 0 = s4 ∧ Value.slice none 0 0 = s5 ∧ Value.int .i64 0 = s6 ∧ s30 = .int .i64 j ∧ (∀ k (hk : k < bd.length), k < j → okU n bd[k] = true) ∧ Own wr gf 4 1 ((flagsOf n (bd.take j)).map brow) (.slice (some ⟨gf, 0, none⟩) n n) ∧ Below w.heap.size w wr) (fun s30 _ _ _ _ => m - (intOf s30).toNat)
    case atStart => exact ⟨0, by omega, rfl, rfl, rfl, rfl, fun k _ h => absurd h (by omega), by rw [List.take_zero]; exact hf1', hb1⟩
    case round =>
      clear hf1' hb1
      obtain ⟨j, hj, rfl, rfl, rfl, rfl, hall, hf, hbw⟩ := hrel
      obtain ⟨wk, rfl⟩ : ∃ x : World, x = wr := ⟨_, rfl⟩
      by_cases hjm : j = m
      · exfalso
        obtain ⟨k, hk, hp⟩ := hno'.out
        rw [hall k hk (by have := hm.out; omega)] at hp
        cases hp
      · have hlt : j < m := by omega
        have hjl : j < bd.length := by rw [hm.out]; exact hlt
        obtain ⟨b, o, rfl, -, cb⟩ := hbd.out j hjl wk hbw
        have hy : okU n bd[j] = true → Hid (∀ k (hk : k < bd.length), k < j + 1 → okU n bd[k] = true) := fun e => Lib.hid fun k hk hk2 => by
          by_cases q : k = j
          · subst q; exact e
          · exact hall k hk (by omega)
        have hsn := flags_snoc n (bd.take j) bd[j]
        rw [List.take_append_getElem hjl] at hsn
        have hfl := flags_len n (bd.take j)
        clear hall hbd hno'
        generalize bd[j] = u at *
        unfold okU at hy
        by_cases hu0 : u < 0
        · clear hy hf hsn hfl
          go_wp2
          go_ret3
          exact ⟨rfl, hbw⟩
        · by_cases hun : u < (n : Int)
          · have hun' : ¬ (n : Int) ≤ u := by omega
            have hg := hy (by rw [decide_eq_true (by omega), decide_eq_true hun]; rfl)
            obtain ⟨v, rfl⟩ := Int.eq_ofNat_of_zero_le (by omega : 0 ≤ u)
            rw [Int.toNat_natCast] at hsn
            have hvn : v < n := by omega
            have hset := Lib.hid (hf.put1 (val := fun x => .bool x) (fun _ => rfl) hfl hvn true)
            obtain ⟨c1, f1⟩ := hf.cell1 (val := fun x => .bool x) (fun _ => rfl) hfl (k := v) (by rw [hfl]; exact hvn)
            generalize (flagsOf n (bd.take j))[v] = old at *
            have hsn' := Lib.hid hsn
            have hbw' := Lib.hid (hbw.setCell (p := ⟨gf, v, none⟩) (by show w.heap.size ≤ gf; rw [hgf.out]; exact Nat.le_refl _) (.bool true))
            clear hsn hf hbw hy
            go_wp2
            go_roundw
            case rel => exact ⟨j + 1, by omega, rfl, rfl, rfl, by go_num, hg.out, by rw [hsn'.out]; exact hset.out, hbw'.out⟩
            case measure => first | (simp [intOf]; done) | (simp [intOf]; omega)
          · have hun' : (n : Int) ≤ u := by omega
            clear hy hf hsn hfl
            go_wp2
            go_ret3
            exact ⟨rfl, hbw⟩
end Go.Proofs.Ytcioejamohjdgaa
