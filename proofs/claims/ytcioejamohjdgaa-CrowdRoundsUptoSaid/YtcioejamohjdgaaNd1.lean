/- Crowd: the document's May and ready; the law's numbers and lists, of what is the same: walked. -/
import Derived.Test.YtcioejamohjdgaaNd0
namespace Go.Proofs.Ytcioejamohjdgaa
open Go.RowKit Go.BigFrame

set_option maxHeartbeats 2000000 in
theorem rmay_any (nd : List (List Int)) (A : Option Addr) (c n : Nat) (w : World) (h : Nds w A nd) (hn : nd.length = n) :
    Calls Try.prog 18 #[.slice A n c] w fun e w' => e = .returned (.bool (mayN nd)) ∧ w = w' := by
  obtain ⟨B, hB⟩ : ∃ B, mayN nd = B := ⟨_, rfl⟩
  rw [hB]
  have hfail := Lib.hid fun (k m : Nat) (hk : k < nd.length) (hm : m < nd[k].length) (hb : okU n nd[k][m] = false) => (show B = false from hB ▸ may_bad hk hm (by rw [hn]; exact hb))
  have hgood : Hid (n ≤ 4096 → (∀ j (hj : j < nd.length), okR n nd[j] = true) → B = true) := Lib.hid fun h1 h2 => by
    rw [← hB, mayN_eq, hn, decide_eq_true h1, Bool.true_and]; exact all_of h2
  have hbig : Hid (4096 < n → B = false) := Lib.hid fun h1 => by rw [← hB, mayN_eq, hn, decide_eq_false (by omega)]; rfl
  have hle := h.1
  rw [hn] at hle
  have hcd := Lib.hid h.2
  replace hn := Lib.hid hn
  clear hB h
  by_cases h96 : 4096 < n
  · have hb := hbig.out h96
    subst hb
    have h96' : (4096 : Int) < (n : Int) := by omega
    clear hfail hgood hbig h96
    go_enter Try.func18, Try.ntmps18
    go_wp2
    go_ret
    exact ⟨rfl, rfl⟩
  · have h96' : ¬ (4096 : Int) < (n : Int) := by omega
    clear hbig
    go_enter Try.func18, Try.ntmps18
    go_upto_region 4 with fail
    go_loop [3] (fun s3 => ∃ k : Nat, k ≤ n ∧ s3 = .int .i64 k ∧ ∀ j (hj : j < nd.length), j < k → okR n nd[j] = true) (fun s3 => n - (intOf s3).toNat)
    case atStart => exact ⟨0, by omega, rfl, fun j _ h => absurd h (by omega)⟩
    case round =>
      obtain ⟨k, hk, rfl, hno⟩ := hrel
      replace hno := Lib.hid hno
      by_cases hkn : k = n
      · have hb := hgood.out (by omega) (fun j hj => hno.out j hj (by have := hn.out; omega))
        subst hb
        clear hfail hgood hcd hno
        go_wp2
        go_ret
        exact ⟨rfl, rfl⟩
      · have hlt : k < n := by omega
        have hkl : k < nd.length := by rw [hn.out]; exact hlt
        obtain ⟨b, o, Ak, ck, rfl, -, cc, hI, -⟩ := hcd.out k hkl
        have hF : Hid (∀ m (hm : m < nd[k].length), okU n nd[k][m] = false → B = false) := Lib.hid fun m hm hb => hfail.out k m hkl hm hb
        have hG : Hid ((∀ m (hm : m < nd[k].length), okU n nd[k][m] = true) → ∀ j (hj : j < nd.length), j < k + 1 → okR n nd[j] = true) := Lib.hid fun h1 j hj hj2 => by
          by_cases q : j = k
          · subst q; exact all_of h1
          · exact hno.out j hj (by omega)
        clear hfail hno hcd
        generalize nd[k] = l at *
        obtain ⟨q, hq⟩ : ∃ q, l.length = q := ⟨_, rfl⟩
        have hil := hI.le
        rw [hq] at hil cc
        replace hq := Lib.hid hq
        have hid := Lib.hid fun (m : Nat) (hm : m < l.length) => hI.at_ hm
        clear hI
        go_upto_region 7 with fail
        go_loop [4] (fun s4 => ∃ m : Nat, m ≤ q ∧ s4 = .int .i64 m ∧ ∀ j (hj : j < l.length), j < m → okU n l[j] = true) (fun s4 => q - (intOf s4).toNat)
        case atStart => exact ⟨0, by omega, rfl, fun j _ h => absurd h (by omega)⟩
        case round =>
          obtain ⟨m, hm, rfl, hno⟩ := hrel
          replace hno := Lib.hid hno
          by_cases hmq : m = q
          · have hg := Lib.hid (hG.out (fun j hj => hno.out j hj (by have := hq.out; omega)))
            clear hF hG hno hid
            subst hmq
            go_wp2
            go_round
            case rel => exact ⟨k + 1, by omega, by go_num, hg.out⟩
            case measure => first | (simp [intOf]; done) | (simp [intOf]; omega)
          · have hmlt : m < q := by omega
            have hml : m < l.length := by rw [hq.out]; exact hmlt
            obtain ⟨b2, o2, rfl, -, c2⟩ := hid.out m hml
            have hf := hF.out m hml
            have hy : okU n l[m] = true → Hid (∀ j (hj : j < l.length), j < m + 1 → okU n l[j] = true) := fun e => Lib.hid fun j hj hj2 => by
              by_cases q : j = m
              · subst q; exact e
              · exact hno.out j hj (by omega)
            clear hF hG hno hid
            generalize l[m] = u at *
            unfold okU at hf hy
            by_cases hu0 : u < 0
            · have hb := hf (by rw [decide_eq_false (by omega)]; rfl)
              subst hb
              clear hf hy
              go_wp2
              go_ret
              exact ⟨rfl, rfl⟩
            · by_cases hun : u < (n : Int)
              · have hun' : ¬ (n : Int) ≤ u := by omega
                have hg := hy (by rw [decide_eq_true (by omega), decide_eq_true hun]; rfl)
                clear hf hy
                go_wp2
                go_round
                case rel => exact ⟨m + 1, by omega, by go_num, hg.out⟩
                case measure => first | (simp [intOf]; done) | (simp [intOf]; omega)
              · have hun' : (n : Int) ≤ u := by omega
                have hb := hf (by rw [decide_eq_false hun]; simp)
                subst hb
                clear hf hy
                go_wp2
                go_ret
                exact ⟨rfl, rfl⟩
theorem Ints.drawn {w w' : World} {A : Option Addr} {l : List Int} (h : Ints w A l) (d : Drawn w w') : Ints w' A l := h.below (d.below _)
theorem Nds.drawn {w w' : World} {A : Option Addr} {nd : List (List Int)} (h : Nds w A nd) (d : Drawn w w') : Nds w' A nd := h.below (d.below _)
set_option maxHeartbeats 1000000 in
theorem numbers_same (l : List Int) (A B : Option Addr) (c d n : Nat) (w : World) (ha : Ints w A l) (hb : Ints w B l) (hn : l.length = n) :
    Calls Try.prog 14 #[.slice A n c, .slice B n d] w fun e w' => e = .returned (.bool true) ∧ Drawn w w' := by
  have hle := ha.le
  rw [hn] at hle
  have hA := Lib.hid fun (k : Nat) (hk : k < l.length) (X : World) (q : Drawn w X) => (ha.drawn q).at_ hk
  have hB := Lib.hid fun (k : Nat) (hk : k < l.length) (X : World) (q : Drawn w X) => (hb.drawn q).at_ hk
  replace hn := Lib.hid hn
  clear ha hb
  go_enter Try.func14, Try.ntmps14
  go_upto_region 4 with fail
  go_loopw [5] (fun s5 wr => ∃ k : Nat, k ≤ n ∧ s5 = .int .i64 k ∧ Drawn w wr) (fun s5 _ => n - (intOf s5).toNat)
  case atStart => exact ⟨0, by omega, rfl, Drawn.refl _⟩
  case round =>
    obtain ⟨k, hk, rfl, hd⟩ := hrel
    obtain ⟨wk, rfl⟩ : ∃ x : World, x = wr := ⟨_, rfl⟩
    by_cases hkn : k = n
    · clear hA hB
      go_wp2
      go_ret
      exact ⟨rfl, hd⟩
    · have hlt : k < n := by omega
      have hkl : k < l.length := by rw [hn.out]; exact hlt
      obtain ⟨b1, o1, rfl, -, c1⟩ := hA.out k hkl wk hd
      obtain ⟨b2, o2, rfl, -, c2⟩ := hB.out k hkl wk hd
      clear hA hB
      generalize l[k] = u at *
      have hq : (u != u) = false := by simp
      have hd' : Hid (∀ m, Drawn w (wk.drewN m)) := Lib.hid fun m => hd.drewN m
      clear hd
      go_upto_region 6 with fail
      go_big_quiet (fail)
      go_wp2
      go_roundw
      case rel => exact ⟨k + 1, by omega, by go_num, hd'.out _⟩
      case measure => first | (simp [intOf]; done) | (simp [intOf]; omega)
set_option maxHeartbeats 1000000 in
theorem lists_same (nd : List (List Int)) (A B : Option Addr) (c d n : Nat) (w : World) (ha : Nds w A nd) (hb : Nds w B nd) (hn : nd.length = n) :
    Calls Try.prog 13 #[.slice A n c, .slice B n d] w fun e w' => e = .returned (.bool true) ∧ Drawn w w' := by
  have hle := ha.1
  rw [hn] at hle
  have hA := Lib.hid fun (k : Nat) (hk : k < nd.length) (X : World) (q : Drawn w X) => (ha.drawn q).2 k hk
  have hB := Lib.hid fun (k : Nat) (hk : k < nd.length) (X : World) (q : Drawn w X) => (hb.drawn q).2 k hk
  replace hn := Lib.hid hn
  clear ha hb
  go_enter Try.func13, Try.ntmps13
  go_upto_region 4 with fail
  go_loopw [5] (fun s5 wr => ∃ k : Nat, k ≤ n ∧ s5 = .int .i64 k ∧ Drawn w wr) (fun s5 _ => n - (intOf s5).toNat)
  case atStart => exact ⟨0, by omega, rfl, Drawn.refl _⟩
  case round =>
    obtain ⟨k, hk, rfl, hd⟩ := hrel
    obtain ⟨wk, rfl⟩ : ∃ x : World, x = wr := ⟨_, rfl⟩
    by_cases hkn : k = n
    · clear hA hB
      go_wp2
      go_ret
      exact ⟨rfl, hd⟩
    · have hlt : k < n := by omega
      have hkl : k < nd.length := by rw [hn.out]; exact hlt
      obtain ⟨b1, o1, A1, d1, rfl, -, c1, hI1, -⟩ := hA.out k hkl wk hd
      obtain ⟨b2, o2, A2, d2, rfl, -, c2, hI2, -⟩ := hB.out k hkl wk hd
      clear hA hB
      generalize nd[k] = l at *
      have K := fun m => numbers_same l A1 A2 d1 d2 l.length (wk.drewN m) (hI1.drawn ⟨m, rfl⟩) (hI2.drawn ⟨m, rfl⟩) rfl
      generalize l.length = q at *
      have hd' : Hid (∀ m, Drawn w (wk.drewN m)) := Lib.hid fun m => hd.drewN m
      clear hI1 hI2 hd
      go_upto_region 6 with fail
      go_big_quiet ((go_at_call 14; (with_reducible exact quiet_drawn (K _))))
      go_wp2
      go_roundw
      case rel => exact ⟨k + 1, by omega, by go_num, hd'.out _⟩
      case measure => first | (simp [intOf]; done) | (simp [intOf]; omega)
/-- a slice of bytes -/
def Us (w : World) (A : Option Addr) (l : List Int) : Prop := Sl (fun _ => True) w A 1 (l.map urow)
theorem Us.at_ {w : World} {A : Option Addr} {l : List Int} (h : Us w A l) {k : Nat} (hk : k < l.length) : ∃ b o, A = some ⟨b, o, none⟩ ∧ b < w.heap.size ∧ w.cell? ⟨b, o + k, none⟩ = some (.int .u8 l[k]) := by
  obtain ⟨b, o, e, _, hl, hc⟩ := Sl.at_ h (k := k) (by rw [List.length_map]; exact hk)
  refine ⟨b, o, e, hl, ?_⟩
  have := hc 0 (.int .u8 l[k]) (by rw [List.getElem_map]; rfl)
  rwa [Nat.mul_one, Nat.add_zero] at this
theorem getD_at {l : List Int} {k : Nat} (hk : k < l.length) : l.getD k 0 = l[k] := by simp [List.getD_eq_getElem?_getD, hk]
set_option maxHeartbeats 1000000 in
theorem rready_any (l st : List Int) (A B : Option Addr) (c d m n : Nat) (w : World) (ha : Ints w A l) (hb : Us w B st) (hm : l.length = m) (hn : st.length = n) (hr : Rng n l) :
    Calls Try.prog 36 #[.slice A m c, .slice B n d] w fun e w' => e = .returned (.bool (rdy st l)) ∧ w = w' := by
  have hle := ha.le
  rw [hm] at hle
  have hA := Lib.hid fun (k : Nat) (hk : k < l.length) => ha.at_ hk
  have hB := Lib.hid fun (k : Nat) (hk : k < st.length) => hb.at_ hk
  obtain ⟨R, hR⟩ : ∃ R, rdy st l = R := ⟨_, rfl⟩
  rw [hR]
  have hgood : Hid ((∀ j (hj : j < l.length), st.getD l[j].toNat 0 = 1) → R = true) := Lib.hid fun h => by
    rw [← hR]; exact all_of (fun j hj => by rw [beq_iff_eq]; exact h j hj)
  have hbad : Hid (∀ j (hj : j < l.length), st.getD l[j].toNat 0 ≠ 1 → R = false) := Lib.hid fun j hj h => by
    rw [← hR]; unfold rdy; rw [List.all_eq_false]; exact ⟨_, List.getElem_mem hj, by simpa using h⟩
  have hrg : Hid (∀ j (hj : j < l.length), 0 ≤ l[j] ∧ l[j] < (n : Int)) := Lib.hid fun j hj => hr _ (List.getElem_mem hj)
  replace hn := Lib.hid hn
  replace hm := Lib.hid hm
  clear ha hb hR hr
  go_enter Try.func36, Try.ntmps36
  go_upto_region 2 with fail
  go_loop [5] (fun s5 => ∃ k : Nat, k ≤ m ∧ s5 = .int .i64 k ∧ ∀ j (hj : j < l.length), j < k → st.getD l[j].toNat 0 = 1) (fun s5 => m - (intOf s5).toNat)
  case atStart => exact ⟨0, by omega, rfl, fun j _ h => absurd h (by omega)⟩
  case round =>
    obtain ⟨k, hk, rfl, hno⟩ := hrel
    replace hno := Lib.hid hno
    by_cases hkm : k = m
    · have hb := hgood.out (fun j hj => hno.out j hj (by have := hm.out; omega))
      subst hb
      clear hA hB hgood hbad hno hrg
      go_wp2
      go_ret
      exact ⟨rfl, rfl⟩
    · have hlt : k < m := by omega
      have hkl : k < l.length := by rw [hm.out]; exact hlt
      obtain ⟨b1, o1, rfl, -, c1⟩ := hA.out k hkl
      obtain ⟨h0, h1⟩ := hrg.out k hkl
      have hf := hbad.out k hkl
      have hy : st.getD l[k].toNat 0 = 1 → Hid (∀ j (hj : j < l.length), j < k + 1 → st.getD l[j].toNat 0 = 1) := fun e => Lib.hid fun j hj hj2 => by
        by_cases q : j = k
        · subst q; exact e
        · exact hno.out j hj (by omega)
      clear hA hgood hbad hno hrg
      generalize l[k] = u at *
      obtain ⟨v, rfl⟩ := Int.eq_ofNat_of_zero_le h0
      rw [Int.toNat_natCast] at hf hy
      have hv : v < st.length := by rw [hn.out]; omega
      obtain ⟨b2, o2, rfl, -, c2⟩ := hB.out v hv
      rw [getD_at hv] at hf hy
      clear hB
      generalize st[v] = x at *
      by_cases hx : x = 1
      · subst hx
        have hg := hy rfl
        clear hf hy
        go_wp2
        go_round
        case rel => exact ⟨k + 1, by omega, by go_num, hg.out⟩
        case measure => first | (simp [intOf]; done) | (simp [intOf]; omega)
      · have hb := hf hx
        subst hb
        have hx' : (x != 1) = true := by simpa using hx
        clear hf hy
        go_wp2
        go_ret
        exact ⟨rfl, rfl⟩
end Go.Proofs.Ytcioejamohjdgaa
