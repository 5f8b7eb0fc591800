/- Crowd: the document's Rounds, refused; walked. -/
import Derived.Test.YtcioejamohjdgaaRr0
namespace Go.Proofs.Ytcioejamohjdgaa
open Go.RowKit Go.BigFrame

set_option maxHeartbeats 4000000 in
set_option maxRecDepth 100000 in
theorem rrounds_no (nd : List (List Int)) (bd : List Int) (A A2 : Option Addr) (c c2 n m : Nat) (w : World) (h : Nds w A nd) (hn : nd.length = n) (hb : Ints w A2 bd) (hm : bd.length = m) (hno : (mayN nd && okB n bd) = false) :
    Calls Try.prog 11 #[.slice A n c, .slice A2 m c2] w fun e w' => e = .returned (.tuple #[.slice none 0 0, .slice none 0 0, .int .i64 1]) ∧ Below w.heap.size w w' := by
  have KM := rmay_any nd A c n w h hn
  have hbd := Lib.hid fun (k : Nat) (hk : k < bd.length) (X : World) (q : Below w.heap.size w X) => (hb.below q).at_ hk
  have hml := hb.le
  rw [hm] at hml
  have hnle := h.1
  rw [hn] at hnle
  cases hmay : mayN nd with
  | false =>
    rw [hmay] at KM
    clear hbd hb h hno hmay
    go_enter Try.func11, Try.ntmps11
    go_wp2_with (go_at_call 18; (with_reducible refine KM.mono ?_); rintro e w1 ⟨rfl, rfl⟩)
    go_ret3
    exact ⟨rfl, Below.refl _ _⟩
  | true =>
    rw [hmay] at KM hno
    obtain ⟨h96, -⟩ := may_rng hmay
    rw [hn] at h96
    have hno' : Hid (∃ k, ∃ hk : k < bd.length, okU n bd[k] = false) := Lib.hid (by
      rw [Bool.true_and] at hno
      unfold okB at hno
      rw [List.all_eq_false] at hno
      obtain ⟨x, hx, hp⟩ := hno
      obtain ⟨k, hk, rfl⟩ := List.getElem_of_mem hx
      exact ⟨k, hk, by simpa using hp⟩)
    have hmx : Hid (n ≤ maxLen ∧ 1 * n ≤ 281474976710656) := Lib.hid (by unfold maxLen; omega)
    replace hm := Lib.hid hm
    clear hb h hno hmay hn
    go_enter Try.func11, Try.ntmps11
    go_upto_region 4 with (first
      | (go_at_call 18; (with_reducible refine KM.mono ?_); rintro e w1 ⟨rfl, rfl⟩)
      | (refine wpList_made1 (bytes := 1) (z := .int .u8 0) Try.underlying35 (by kernel_rfl) rfl rfl _ _ rfl n rfl rfl hmx.out.2 hmx.out.1 ?_; intro w1 hf1 hb1))
    rw [← rep_u] at hf1
    obtain ⟨ge, hge⟩ : ∃ g, w.heap.size = g := ⟨_, rfl⟩
    have hf1' : Own w1 ge 5 1 ((List.replicate n (0 : Int)).map urow) (.slice (some ⟨ge, 0, none⟩) n n) := by rw [← hge]; exact hf1
    rw [show (Value.slice (some (⟨w.heap.size, 0, none⟩ : Addr)) n n) = Value.slice (some ⟨ge, 0, none⟩) n n by rw [hge]]
    replace hge := Lib.hid hge
    clear hf1 KM
    have hz1 : Hid ((List.replicate n (1 : Int)).length = n ∧ (List.replicate n (0 : Int)).length = n) := Lib.hid ⟨List.length_replicate, List.length_replicate⟩
    go_upto_region 5 with fail
    go_loopw [8] (fun s8 wr => ∃ j : Nat, j ≤ n ∧ s8 = .int .i64 j ∧ Own wr ge 5 1 (((List.replicate n (1 : Int)).take j ++ (List.replicate n (0 : Int)).drop j).map urow) (.slice (some ⟨ge, 0, none⟩) n n) ∧ Below w.heap.size w wr) (fun s8 _ => n - (intOf s8).toNat)
    case atStart => exact ⟨0, by omega, rfl, by rw [List.take_zero, List.drop_zero, List.nil_append]; exact hf1', hb1⟩
    case round =>
      clear hf1' hb1
      obtain ⟨j, hj, rfl, hf, hbw⟩ := hrel
      obtain ⟨wk, rfl⟩ : ∃ x : World, x = wr := ⟨_, rfl⟩
      by_cases hjn : j = n
      · rw [hjn, List.take_of_length_le (by rw [hz1.out.1]; exact Nat.le_refl _), List.drop_of_length_le (by rw [hz1.out.2]; exact Nat.le_refl _), List.append_nil] at hf
        have hf0 : Own wk ge 5 1 ((enOf n []).map urow) (.slice (some ⟨ge, 0, none⟩) n n) := hf
        have hjn2 := hjn.symm
        subst hjn2
        clear hf hz1
        go_upto_region 9 with fail
        go_loopw [9, 4, 5, 6] (fun s9 s4 s5 s6 wr => ∃ j : Nat, j ≤ m ∧ Value.slice none 0 0 = s4 ∧ Value.slice none 0 0 = s5 ∧ Value.int .i64 0 = s6 ∧ s9 = .int .i64 j ∧ (∀ k (hk : k < bd.length), k < j → okU n bd[k] = true) ∧ Own wr ge 5 1 ((enOf n (bd.take j)).map urow) (.slice (some ⟨ge, 0, none⟩) n n) ∧ Below w.heap.size w wr) (fun s9 _ _ _ _ => m - (intOf s9).toNat)
        case atStart => exact ⟨0, by omega, rfl, rfl, rfl, rfl, fun k _ h => absurd h (by omega), by rw [List.take_zero]; exact hf0, hbw⟩
        case round =>
          clear hf0 hbw
          obtain ⟨j, hj, rfl, rfl, rfl, rfl, hall, hf, hbw⟩ := hrel
          obtain ⟨wk, rfl⟩ : ∃ x : World, x = wr := ⟨_, rfl⟩
          by_cases hjm : j = m
          · exfalso
            obtain ⟨k, hk, hp⟩ := hno'.out
            rw [hall k hk (by have := hm.out; omega)] at hp
            cases hp
          · have hlt : j < m := by omega
            have hjl : j < bd.length := by rw [hm.out]; exact hlt
            obtain ⟨b, o, rfl, -, cb⟩ := hbd.out j hjl wk hbw
            have hy : okU n bd[j] = true → Hid (∀ k (hk : k < bd.length), k < j + 1 → okU n bd[k] = true) := fun e => Lib.hid fun k hk hk2 => by
              by_cases q : k = j
              · subst q; exact e
              · exact hall k hk (by omega)
            have hsn := en_snoc n (bd.take j) bd[j]
            rw [List.take_append_getElem hjl] at hsn
            have hfl := (enOf_ends n (bd.take j)).1
            clear hall hbd hno'
            generalize bd[j] = u at *
            unfold okU at hy
            by_cases hu0 : u < 0
            · clear hy hf hsn hfl
              go_wp2
              go_ret3
              exact ⟨rfl, hbw⟩
            · by_cases hun : u < (n : Int)
              · have hun' : ¬ (n : Int) ≤ u := by omega
                have hg := hy (by rw [decide_eq_true (by omega), decide_eq_true hun]; rfl)
                obtain ⟨v, rfl⟩ := Int.eq_ofNat_of_zero_le (by omega : 0 ≤ u)
                rw [Int.toNat_natCast] at hsn
                have hvn : v < n := by omega
                have hset := Lib.hid (hf.put1 (val := fun x => .int .u8 x) (fun _ => rfl) hfl hvn 2)
                obtain ⟨c1, f1⟩ := hf.cell1 (val := fun x => .int .u8 x) (fun _ => rfl) hfl (k := v) (by rw [hfl]; exact hvn)
                generalize (enOf n (bd.take j))[v] = old at *
                have hsn' := Lib.hid hsn
                have hbw' := Lib.hid (hbw.setCell (p := ⟨ge, v, none⟩) (by show w.heap.size ≤ ge; rw [hge.out]; exact Nat.le_refl _) (.int .u8 2))
                clear hsn hf hbw hy
                go_wp2
                go_roundw
                case rel => exact ⟨j + 1, by omega, rfl, rfl, rfl, by go_num, hg.out, by rw [hsn'.out]; exact hset.out, hbw'.out⟩
                case measure => first | (simp [intOf]; done) | (simp [intOf]; omega)
              · have hun' : (n : Int) ≤ u := by omega
                clear hy hf hsn hfl
                go_wp2
                go_ret3
                exact ⟨rfl, hbw⟩
      · have hlt : j < n := by omega
        have hls : j < (List.replicate n (1 : Int)).length := by rw [hz1.out.1]; exact hlt
        have hlz : j < (List.replicate n (0 : Int)).length := by rw [hz1.out.2]; exact hlt
        have hmix := mix_set (a := List.replicate n (0 : Int)) (b := List.replicate n (1 : Int)) hlz hls
        rw [List.getElem_replicate] at hmix
        have hlen : ((List.replicate n (1 : Int)).take j ++ (List.replicate n (0 : Int)).drop j).length = n := by
          rw [List.length_append, List.length_take, List.length_drop, hz1.out.1, hz1.out.2]; omega
        have hset := Lib.hid (hf.put1 (val := fun x => .int .u8 x) (fun _ => rfl) hlen hlt 1)
        rw [hmix] at hset
        obtain ⟨c1, f1⟩ := hf.cell1 (val := fun x => .int .u8 x) (fun _ => rfl) hlen (k := j) (by rw [hlen]; exact hlt)
        generalize ((List.replicate n (1 : Int)).take j ++ (List.replicate n (0 : Int)).drop j)[j] = old at *
        have hbw' := Lib.hid (hbw.setCell (p := ⟨ge, j, none⟩) (by show w.heap.size ≤ ge; rw [hge.out]; exact Nat.le_refl _) (.int .u8 1))
        clear hf hbw hmix hlen hls hlz
        go_wp2
        go_roundw
        case rel => exact ⟨j + 1, by omega, by go_num, hset.out, hbw'.out⟩
        case measure => first | (simp [intOf]; done) | (simp [intOf]; omega)
end Go.Proofs.Ytcioejamohjdgaa
