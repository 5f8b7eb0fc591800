/- Idle: Wrong; the calls are given; what was run is compared. -/
import Derived.Test.YtgnhddnhcfmipaaRc3
namespace Go.Proofs.Ytgnhddnhcfmipaa
open Go.RowKit Go.BigFrame

theorem el58 : Elt Try.prog 43 58 2 16 := Elt.of (z := .agg #[.int .u8 0, .int .i64 0]) Try.underlying43 (by kernel_rfl) rfl (by decide) (by decide)
theorem crow_len (l : List (Int × Int)) : ∀ r ∈ l.map crow, r.length = 2 := by
  intro r hr
  obtain ⟨p, _, rfl⟩ := List.mem_map.1 hr
  rfl
theorem ctake_push (l : List (Int × Int)) {k : Nat} (hk : k < l.length) : (l.take k).map crow ++ [crow l[k]] = (l.take (k + 1)).map crow := by
  rw [List.take_succ_eq_append_getElem hk, List.map_append]; rfl
theorem okc_at {cs : List (Int × Int)} {k : Nat} (hk : k < cs.length) : callAt cs k = cs[k] := by
  unfold callAt; rw [List.getD_eq_getElem?_getD, List.getElem?_eq_getElem hk]; rfl
theorem own_cap {w : World} {base : Nat} {e : TypeId} {size : Nat} {xs : List (List Value)} {r : List Value} {v : Value} (h : Own w base e size (xs ++ [r]) v) : ∃ g c, v = .slice (some ⟨g, 0, none⟩) (xs.length + 1) c ∧ xs.length + 1 ≤ c ∧ c ≤ maxLen := by
  obtain ⟨⟨_, h2⟩, _⟩ := h
  rcases h2 with ⟨_, h0⟩ | ⟨g, cap, cur, e, _, _, hc, hm, _, _⟩
  · rw [List.length_append] at h0; simp at h0
  · rw [List.length_append] at e hc
    exact ⟨g, cap, e, hc, hm⟩
def nine : List Value := [.int .u8 0, .int .i64 (-9)]
/-- the calls, given: of the call's own, with one more behind -/
def Giv (W w : World) (B : Nat) (cs : List (Int × Int)) (A : Option Addr) (c : Nat) : Prop :=
  Own w B 58 2 (cs.map crow ++ [nine]) (.slice A (cs.length + 1) c) ∧ Below B W w
set_option maxHeartbeats 1000000 in
theorem calls_any (l : List (Int × Int)) (n : Nat) (A : Option Addr) (c : Nat) (w : World) (h : Cls w A l) (hn : l.length = n) (hr : l.length * 16 ≤ 140737488351232) :
    Calls Try.prog 19 #[.slice A n c] w fun e w' => ∃ g d, e = .returned (.slice (some ⟨g, 0, none⟩) n d) ∧ Own w' w.heap.size 58 2 (l.map crow ++ [nine]) (.slice (some ⟨g, 0, none⟩) (n + 1) d) ∧ Below w.heap.size w w' := by
  have hlen := h.le
  rw [hn] at hlen hr
  have hcd := Lib.hid (fun (k : Nat) (hk : k < l.length) (W' : World) (hd : Below w.heap.size w W') => (h.below hd).at_ hk)
  clear h
  replace hn := Lib.hid hn
  go_enter Try.func19, Try.ntmps19
  go_wp2
  go_loopw [3, 4] (fun v i wr => ∃ k : Nat, k ≤ n ∧ i = .int .i64 k ∧ Own wr w.heap.size 58 2 ((l.take k).map crow) v ∧ Below w.heap.size w wr) (fun _ i _ => n - (intOf i).toNat)
  case atStart => exact ⟨0, by omega, rfl, Own.nil _ _ _ _, Below.refl _ _⟩
  case round =>
    obtain ⟨k, hk, rfl, hown, hg⟩ := hrel
    have hB := hg.size
    by_cases hkl : k = n
    · subst hkl
      rw [← hn.out, List.take_length] at hown
      have hll : Hid ((l.map crow).length = k) := Lib.hid (by rw [List.length_map]; exact hn.out)
      go_wp2_with (at_builtin; refine wpList_push el58 rfl _ _ rfl rfl (hown.alloc _) [.int .u8 0, .int .i64 (-9)] wr.heap.size 58 rfl (heap_alloc_at _ _) rfl (by simp [Value.oneCell']) (by rw [hll.out]; omega) (by rw [size_al]; omega) ?_; intro v' w1 ho' hb' hs' hnn _; obtain ⟨g, d, rfl, hcd1, hcd2⟩ := own_cap ho'; rw [hll.out] at hcd1 ho'; unfold maxLen at hcd2)
      go_ret
      refine ⟨g, d, rfl, ?_, (below_al hg _).trans hb'⟩
      exact ho'
    have hlt : k < n := by omega
    have hkl : k < l.length := by rw [hn.out]; exact hlt
    obtain ⟨b, o, rfl, hb, c1, c2⟩ := hcd.out k hkl wr hg
    have hp : Hid (crow l[k] = [.int .u8 l[k].1, .int .i64 l[k].2]) := Lib.hid rfl
    have ht := Lib.hid (ctake_push l hkl)
    generalize crow l[k] = pr at *
    generalize l[k].1 = q1, l[k].2 = q2 at *
    have hlk : Hid (((l.take k).map crow).length = k) := Lib.hid (by simp; omega)
    have hwr : Hid (w.heap.size ≤ wr.heap.size) := Lib.hid hB
    go_wp2
    go_region_law (first
      | (refine step_push_at el58 rfl (.tmp 11) (.tmp 23) rfl rfl ((hown.drawn ((Drawn.refl _).drew)).alloc _) [.int .u8 q1, .int .i64 q2] wr.heap.size 58 rfl (heap_alloc_at wr _) rfl (by simp [Value.oneCell']) (by rw [hlk.out]; omega) ?hb (fun v' w3 ho3 hb3 hg3 hat3 => ?_); (case hb => (have q := size_al wr (.cells #[.int .u8 q1, .int .i64 q2] 58); have qq2 := hwr.out; (show _ ≤ (wr.alloc (.cells #[.int .u8 q1, .int .i64 q2] 58)).heap.size); omega))))
    all_goals go_wp2
    all_goals refine ⟨⟨k + 1, by omega, by go_num, ?_, (below_al hg _).drew.trans hb3⟩, ?_⟩
    all_goals first
      | (rw [← ht.out, hp.out]; exact ho3)
      | (simp [intOf]; omega)
def Qs (w : World) (A : Option Addr) (l : List Pa) : Prop := Sl (fun _ => True) w A 2 (l.map qrow)
theorem Qs.at_ {w : World} {A : Option Addr} {l : List Pa} (h : Qs w A l) {k : Nat} (hk : k < l.length) :
    ∃ b o, A = some ⟨b, o, none⟩ ∧ b < w.heap.size ∧ w.cell? ⟨b, o + k * 2, none⟩ = some (.int .i64 l[k].c) ∧ w.cell? ⟨b, o + k * 2 + 1, none⟩ = some (.int .i64 l[k].t) := by
  obtain ⟨b, o, e, _, hl, hc⟩ := Sl.at_ h (k := k) (by simpa using hk)
  exact ⟨b, o, e, hl, hc 0 _ (by simp [qrow]), hc 1 _ (by simp [qrow])⟩
theorem Qs.le {w : World} {A : Option Addr} {l : List Pa} (h : Qs w A l) : l.length ≤ 9223372036854775807 := by
  have := Sl.le h; simpa using this
theorem own_qs {w : World} {B T : Nat} {l : List Pa} {v : Value} (h : Own w B T 2 (l.map qrow) v) : ∃ A c, v = .slice A l.length c ∧ Qs w A l := by
  obtain ⟨A, c, e, hs⟩ := h.sl
  rw [List.length_map] at e
  exact ⟨A, c, e, hs.mono fun _ _ => trivial⟩
set_option maxHeartbeats 4000000 in
set_option maxRecDepth 100000 in
theorem ran_same (l : List Pa) (n : Nat) (A1 A2 : Option Addr) (c1 c2 : Nat) (W : World) (h1 : Qs W A1 l) (h2 : Qs W A2 l) (hn : l.length = n) :
    Calls Try.prog 24 #[.slice A1 n c1, .slice A2 n c2] W fun e w' => e = .returned (.bool true) ∧ Drawn W w' := by
  have hl := h1.le
  rw [hn] at hl
  replace hn := Lib.hid hn
  have hq : ((n : Int) != n) = false := by simp
  have hd1 := Lib.hid (fun (k : Nat) (hk : k < l.length) (W' : World) (hd : Drawn W W') => Qs.at_ (Sl.drawn h1 hd) hk)
  have hd2 := Lib.hid (fun (k : Nat) (hk : k < l.length) (W' : World) (hd : Drawn W W') => Qs.at_ (Sl.drawn h2 hd) hk)
  clear h1 h2
  go_enter Try.func24, Try.ntmps24
  go_upto_region 4 with fail
  go_loopw [5] (fun s5 wr => ∃ k : Nat, k ≤ n ∧ s5 = .int .i64 k ∧ Drawn W wr) (fun s5 _ => n - (intOf s5).toNat)
  case atStart => exact ⟨0, by omega, rfl, Drawn.refl _⟩
  case round =>
    obtain ⟨k, hk, rfl, hd⟩ := hrel
    obtain ⟨wi, rfl⟩ : ∃ x : World, x = wr := ⟨_, rfl⟩
    by_cases hkn : k = n
    · subst hkn
      go_wp2
      go_ret
      exact ⟨rfl, hd⟩
    · have hlt : k < n := by omega
      have hkl : k < l.length := by rw [hn.out]; exact hlt
      obtain ⟨b1, o1, rfl, _, x0, x1⟩ := hd1.out k hkl wi hd
      obtain ⟨b2, o2, rfl, _, y0, y1⟩ := hd2.out k hkl wi hd
      generalize l[k] = x at *
      clear hkn
      go_wp2
      go_big_quiet (fail)
      go_wp2
      go_roundw
      case rel => exact ⟨k + 1, by omega, by go_num, hd.drewN _⟩
      case measure => simp [intOf]; omega
set_option maxHeartbeats 4000000 in
set_option maxRecDepth 100000 in
theorem wrong_yes (D : Int) (cs : List (Int × Int)) (n : Nat) (A : Option Addr) (a : Nat) (W : World) (h : Cls W A cs) (hn : cs.length = n) (hr : okr D cs) :
    Calls Try.prog 21 #[.int .i64 D, .slice A n a] W fun e w' => e = .returned (.int .i64 0) ∧ W = w' := by
  have hcd := Lib.hid (fun (k : Nat) (hk : k < cs.length) => h.at_ hk)
  have KD := rtick_any D
  rw [isTick_yes hr.1] at KD
  have hn5 : n ≤ 1000 := by rw [← hn]; exact hr.2.1
  have hnb : ¬ (1000 : Int) < (n : Int) := by omega
  have hok := Lib.hid hr.2.2
  clear h hr
  replace hn := Lib.hid hn
  go_enter Try.func21, Try.ntmps21
  go_upto_region 4 with (go_at_call 12; (with_reducible refine (KD _).mono ?_); rintro e w1 ⟨rfl, rfl⟩)
  go_loopw [5] (fun s5 wr => ∃ k : Nat, k ≤ n ∧ s5 = .int .i64 k ∧ wr = W) (fun s5 _ => n - (intOf s5).toNat)
  case atStart => exact ⟨0, by omega, rfl, rfl⟩
  case round =>
    clear KD
    obtain ⟨k, hk, rfl, rfl⟩ := hrel
    by_cases hkn : k = n
    · subst hkn
      go_wp2
      go_ret
      exact ⟨rfl, rfl⟩
    · have hlt : k < n := by omega
      have hkl : k < cs.length := by rw [hn.out]; exact hlt
      obtain ⟨b1, o1, rfl, _, x0, x1⟩ := hcd.out k hkl
      have hck := hok.out k hkl
      rw [okc_at hkl] at hck
      generalize cs[k] = x at *
      obtain ⟨kd, nw⟩ := x
      obtain ⟨⟨q1, q2⟩, q3⟩ := hck
      simp only at q1 q2 q3 x0 x1
      have KT := rtick_any nw
      rw [isTick_yes q3] at KT
      have n1 : ¬ kd < 1 := by omega
      have n2 : ¬ 3 < kd := by omega
      clear hkn
      go_wp2_with (go_at_call 12; (with_reducible refine (KT _).mono ?_); rintro e w1 ⟨rfl, rfl⟩)
      go_roundw
      case rel => exact ⟨k + 1, by omega, by go_num, trivial⟩
      case measure => simp [intOf]; omega
set_option maxHeartbeats 4000000 in
set_option maxRecDepth 100000 in
theorem wrong_no (D : Int) (cs : List (Int × Int)) (n : Nat) (A : Option Addr) (a : Nat) (W : World) (h : Cls W A cs) (hn : cs.length = n) (hr : ¬ okr D cs) :
    Calls Try.prog 21 #[.int .i64 D, .slice A n a] W fun e w' => e = .returned (.int .i64 1) ∧ W = w' := by
  have hcd := Lib.hid (fun (k : Nat) (hk : k < cs.length) => h.at_ hk)
  have KD := rtick_any D
  have hrd := Lib.hid hr
  have hlen := h.le
  rw [hn] at hlen
  clear h hr
  replace hn := Lib.hid hn
  by_cases hD : okTick D
  · rw [isTick_yes hD] at KD
    by_cases hn5 : n ≤ 1000
    · have hnb : ¬ (1000 : Int) < (n : Int) := by omega
      go_enter Try.func21, Try.ntmps21
      go_upto_region 4 with (go_at_call 12; (with_reducible refine (KD _).mono ?_); rintro e w1 ⟨rfl, rfl⟩)
      go_loopw [5] (fun s5 wr => ∃ k : Nat, k ≤ n ∧ s5 = .int .i64 k ∧ wr = W ∧ (∀ j, j < k → okc (callAt cs j))) (fun s5 _ => n - (intOf s5).toNat)
      case atStart => exact ⟨0, by omega, rfl, rfl, fun j h => by omega⟩
      case round =>
        clear KD
        obtain ⟨k, hk, rfl, rfl, hall⟩ := hrel
        by_cases hkn : k = n
        · exact absurd ⟨hD, by rw [hn.out]; exact hn5, fun j hj => hall j (by rw [hkn, ← hn.out]; exact hj)⟩ hrd.out
        · have hlt : k < n := by omega
          have hkl : k < cs.length := by rw [hn.out]; exact hlt
          obtain ⟨b1, o1, rfl, _, x0, x1⟩ := hcd.out k hkl
          have hca : Hid (callAt cs k = cs[k]) := Lib.hid (okc_at hkl)
          generalize cs[k] = x at *
          obtain ⟨kd, nw⟩ := x
          simp only at x0 x1
          have KT := rtick_any nw
          by_cases hck : okc (kd, nw)
          · have hall' : Hid (∀ j, j < k + 1 → okc (callAt cs j)) := Lib.hid fun j hj => by
              by_cases e : j = k
              · subst e; rw [hca.out]; exact hck
              · exact hall j (by omega)
            obtain ⟨⟨q1, q2⟩, q3⟩ := hck
            simp only at q1 q2 q3
            rw [isTick_yes q3] at KT
            have n1 : ¬ kd < 1 := by omega
            have n2 : ¬ 3 < kd := by omega
            clear hkn hca hall hrd
            go_wp2_with (go_at_call 12; (with_reducible refine (KT _).mono ?_); rintro e w1 ⟨rfl, rfl⟩)
            go_roundw
            case rel => exact ⟨k + 1, by omega, by go_num, trivial, hall'.out⟩
            case measure => simp [intOf]; omega
          · have hbad : kd < 1 ∨ (¬ kd < 1 ∧ 3 < kd) ∨ (¬ kd < 1 ∧ ¬ 3 < kd ∧ ¬ okTick nw) := by
              unfold okc at hck
              simp only at hck
              by_cases q1 : kd < 1
              · exact Or.inl q1
              · by_cases q2 : 3 < kd
                · exact Or.inr (Or.inl ⟨q1, q2⟩)
                · exact Or.inr (Or.inr ⟨q1, q2, fun q3 => hck ⟨⟨by omega, by omega⟩, q3⟩⟩)
            clear hkn hca hall hrd hck
            rcases hbad with n1 | ⟨n1, n2⟩ | ⟨n1, n2, n3⟩
            · go_wp2
              go_ret
              exact ⟨rfl, rfl⟩
            · go_wp2
              go_ret
              exact ⟨rfl, rfl⟩
            · rw [isTick_no n3] at KT
              go_wp2_with (go_at_call 12; (with_reducible refine (KT _).mono ?_); rintro e w1 ⟨rfl, rfl⟩)
              go_ret
              exact ⟨rfl, rfl⟩
    · have hnb : (1000 : Int) < (n : Int) := by omega
      clear hcd hrd hD hn5
      go_enter Try.func21, Try.ntmps21
      go_wp2_with (go_at_call 12; (with_reducible refine (KD _).mono ?_); rintro e w1 ⟨rfl, rfl⟩)
      go_ret
      exact ⟨rfl, rfl⟩
  · rw [isTick_no hD] at KD
    clear hcd hrd hD
    go_enter Try.func21, Try.ntmps21
    go_wp2_with (go_at_call 12; (with_reducible refine (KD _).mono ?_); rintro e w1 ⟨rfl, rfl⟩)
    go_ret
    exact ⟨rfl, rfl⟩
end Go.Proofs.Ytgnhddnhcfmipaa
