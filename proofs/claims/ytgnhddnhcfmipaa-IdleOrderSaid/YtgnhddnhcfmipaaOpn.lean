/- Idle: Open, walked; a Tick of an empty book. -/
import Derived.Test.YtgnhddnhcfmipaaTick2
namespace Go.Proofs.Ytgnhddnhcfmipaa
open Go.RowKit Go.BigFrame

def irow (n : Int) : List Value := [.int .i64 n]
def Ints (w : World) (A : Option Addr) (l : List Int) : Prop := Sl (fun _ => True) w A 1 (l.map irow)
theorem Ints.at_ {w : World} {A : Option Addr} {l : List Int} (h : Ints w A l) {k : Nat} (hk : k < l.length) :
    ∃ b o, A = some ⟨b, o, none⟩ ∧ b < w.heap.size ∧ w.cell? ⟨b, o + k, none⟩ = some (.int .i64 l[k]) := by
  obtain ⟨b, o, e, _, hl, hc⟩ := Sl.at_ h (k := k) (by simpa using hk)
  refine ⟨b, o, e, hl, ?_⟩
  have := hc 0 (.int .i64 l[k]) (by simp [irow])
  simpa using this
theorem Ints.le {w : World} {A : Option Addr} {l : List Int} (h : Ints w A l) : l.length ≤ 9223372036854775807 := by
  have := Sl.le h; simpa using this
theorem Ints.below {w w' : World} {A : Option Addr} {l : List Int} (h : Ints w A l) (d : Below w.heap.size w w') : Ints w' A l := Sl.below' h d
/-- may a device be? -/
def okd (p d : Int) (i : Nat) : Prop := -1 ≤ p ∧ p < (i : Int) ∧ okTick d
instance (p d : Int) (i : Nat) : Decidable (okd p d i) := by unfold okd; infer_instance
def dv0 (ps qs : List Int) (i : Nat) : Dv := ⟨ps.getD i 0, qs.getD i 0, 0, 0, false, 0⟩
def devs (ps qs : List Int) (n : Nat) : List Dv := (List.range n).map (dv0 ps qs)
theorem devs_len (ps qs : List Int) (n : Nat) : (devs ps qs n).length = n := by unfold devs; simp
theorem devs_succ (ps qs : List Int) (n : Nat) : devs ps qs (n + 1) = devs ps qs n ++ [dv0 ps qs n] := by unfold devs; rw [List.range_succ, List.map_append]; rfl
def openOk (ps qs : List Int) : Prop := ps.length = qs.length ∧ ps.length ≤ 512 ∧ ∀ i, i < ps.length → okd (ps.getD i 0) (qs.getD i 0) i
theorem devs_par {ps qs : List Int} (h : openOk ps qs) : Par (devs ps qs ps.length) := fun i x hx => by
  have hl := (List.getElem?_eq_some_iff.1 hx).1
  rw [devs_len] at hl
  unfold devs at hx
  rw [List.getElem?_map, List.getElem?_range hl] at hx
  cases hx
  exact ⟨(h.2.2 i hl).1, (h.2.2 i hl).2.1⟩
theorem el109 : Elt Try.prog 109 113 6 48 := Elt.of (z := .agg #[.int .i64 0, .int .i64 0, .int .i64 0, .int .i64 0, .bool false, .int .i64 0]) Try.underlying109 (by kernel_rfl) rfl (by decide) (by decide)
theorem getI {l : List Int} {k : Nat} (h : k < l.length) : l.getD k 0 = l[k] := by rw [List.getD_eq_getElem?_getD, List.getElem?_eq_getElem h]; rfl
theorem open_len (ps qs : List Int) (A1 A2 : Option Addr) (c1 c2 : Nat) (W : World) (h1 : Ints W A1 ps) (h2 : Ints W A2 qs) (hb : ¬ (ps.length = qs.length ∧ ps.length ≤ 512)) :
    Calls Try.prog 25 #[.slice A1 ps.length c1, .slice A2 qs.length c2] W fun e w' => e = .returned (.tuple #[.pointer none, .int .i64 1]) ∧ w' = W := by
  have hl1 := h1.le
  have hl2 := h2.le
  have hor : (¬ ps.length = qs.length) ∨ (ps.length = qs.length ∧ 512 < ps.length) := by omega
  clear h1 h2 hb
  generalize ps.length = n at *
  generalize qs.length = m at *
  rcases hor with h | ⟨rfl, h⟩
  · have hne : ((n : Int) != m) = true := bne_iff_ne.2 (by omega)
    go_enter Try.func25, Try.ntmps25
    go_wp2
    go_ret2
    exact ⟨rfl, rfl⟩
  · go_enter Try.func25, Try.ntmps25
    go_wp2
    go_ret2
    exact ⟨rfl, rfl⟩
set_option maxHeartbeats 8000000 in
set_option maxRecDepth 100000 in
theorem open_any (ps qs : List Int) (n : Nat) (A1 A2 : Option Addr) (c1 c2 : Nat) (W : World) (h1 : Ints W A1 ps) (h2 : Ints W A2 qs) (hn1 : ps.length = n) (hn2 : qs.length = n) (h5 : n ≤ 512) :
    Calls Try.prog 25 #[.slice A1 n c1, .slice A2 n c2] W fun e w' => Below W.heap.size W w' ∧
      ((openOk ps qs ∧ ∃ v, e = .returned (.tuple #[.pointer (some ⟨W.heap.size, 0, none⟩), .int .i64 0]) ∧ Bp w' W.heap.size W.heap.size v (devs ps qs n) 0) ∨ (¬ openOk ps qs ∧ e = .returned (.tuple #[.pointer none, .int .i64 1]))) := by
  have hW0 : Below W.heap.size W (W.alloc (.cells #[.slice none 0 0, .int .i64 0] 111)) := below_al (Below.refl _ _) _
  have hB0 : (W.alloc (.cells #[.slice none 0 0, .int .i64 0] 111)).heap[W.heap.size]? = some (.cells #[.slice none 0 0, .int .i64 0] 111) := heap_alloc_at _ _
  have KT := tick_any
  have hd1 := Lib.hid (fun (k : Nat) (hk : k < ps.length) (W' : World) (hd : Below W.heap.size W W') => (h1.below hd).at_ hk)
  have hd2 := Lib.hid (fun (k : Nat) (hk : k < qs.length) (W' : World) (hd : Below W.heap.size W W') => (h2.below hd).at_ hk)
  have hok : Hid (openOk ps qs ↔ ∀ i, i < n → okd (ps.getD i 0) (qs.getD i 0) i) := Lib.hid (by
    unfold openOk
    rw [hn1, hn2]
    exact ⟨fun h => h.2.2, fun h => ⟨rfl, h5, h⟩⟩)
  have hq : ((n : Int) != n) = false := by simp
  have hg1 := Lib.hid (fun k (hk : k < n) => getI (l := ps) (k := k) (by omega))
  have hg2 := Lib.hid (fun k (hk : k < n) => getI (l := qs) (k := k) (by omega))
  replace hn1 := Lib.hid hn1
  replace hn2 := Lib.hid hn2
  clear h1 h2
  go_enter Try.func25, Try.ntmps25
  go_upto_region 5 with fail
  generalize W.alloc (.cells #[.slice none 0 0, .int .i64 0] 111) = w0 at *
  go_loopw [23] (fun s23 wr => ∃ (k : Nat) (vk : Value), k ≤ n ∧ s23 = .int .i64 k ∧ wr.heap[W.heap.size]? = some (.cells #[vk, .int .i64 0] 111) ∧ Own wr (W.heap.size + 1) 113 6 ((devs ps qs k).map drow) vk ∧ Below W.heap.size W wr ∧ ∀ i, i < k → okd (ps.getD i 0) (qs.getD i 0) i) (fun s23 _ => n - (intOf s23).toNat)
  case atStart => exact ⟨0, .slice none 0 0, by omega, rfl, hB0, Own.nil _ _ _ _, hW0, fun i h => by omega⟩
  case round =>
    clear hB0 hW0
    obtain ⟨k, vk, hk, rfl, hbox, ho, hd, hall⟩ := hrel
    obtain ⟨wi, rfl⟩ : ∃ x : World, x = wr := ⟨_, rfl⟩
    by_cases hkn : k = n
    · subst hkn
      have hyes := Lib.hid (hok.out.2 hall)
      go_wp2
      go_ret2
      exact ⟨hd, Or.inl ⟨hyes.out, vk, rfl, ⟨hbox, ho.mono (Nat.le_succ _), fun e => by have := (ho.lt _ e).1; omega⟩⟩⟩
    have hlt : k < n := by omega
    obtain ⟨b1, o1, rfl, hb1, c1'⟩ := hd1.out k (by rw [hn1.out]; exact hlt) wi hd
    obtain ⟨b2, o2, rfl, hb2, c2'⟩ := hd2.out k (by rw [hn2.out]; exact hlt) wi hd
    rw [← hg1.out k hlt] at c1'
    rw [← hg2.out k hlt] at c2'
    have hdev : Hid (dv0 ps qs k = ⟨ps.getD k 0, qs.getD k 0, 0, 0, false, 0⟩) := Lib.hid rfl
    have hokk : Hid (okd (ps.getD k 0) (qs.getD k 0) k → ∀ i, i < k + 1 → okd (ps.getD i 0) (qs.getD i 0) i) := Lib.hid (fun h i hi => by
      by_cases e : i = k
      · subst e; exact h
      · exact hall i (by omega))
    have hno : Hid (¬ okd (ps.getD k 0) (qs.getD k 0) k → ¬ openOk ps qs) := Lib.hid (fun h q => h (hok.out.1 q k hlt))
    generalize ps.getD k 0 = p at *
    generalize qs.getD k 0 = q at *
    have x0 : wi.cell? ⟨W.heap.size, 0, none⟩ = some vk := cell_of_row _ _ 0 _ 111 (0, 0) hbox
    have KTq := KT q
    by_cases hp1 : p < -1
    · have hn' := Lib.hid (hno.out (fun h => by have := h.1; omega))
      clear hokk hno hok hall
      go_wp2_with (go_at_call 41; (with_reducible refine (KTq _).mono ?_); rintro e w1 ⟨rfl, rfl⟩)
      go_ret2
      exact ⟨hd, Or.inr ⟨hn'.out, rfl⟩⟩
    by_cases hp2 : (k : Int) ≤ p
    · have hn' := Lib.hid (hno.out (fun h => by have := h.2.1; omega))
      clear hokk hno hok hall
      go_wp2_with (go_at_call 41; (with_reducible refine (KTq _).mono ?_); rintro e w1 ⟨rfl, rfl⟩)
      go_ret2
      exact ⟨hd, Or.inr ⟨hn'.out, rfl⟩⟩
    by_cases hp3 : okTick q
    · have hd' := isTick_yes hp3
      rw [hd'] at KTq
      have hall' := hokk.out ⟨by omega, by omega, hp3⟩
      have hwl : W.heap.size < wi.heap.size := heap_lt hbox
      have hlk : Hid (((devs ps qs k).map drow).length = k) := Lib.hid (by rw [List.length_map, devs_len])
      have hdk : Hid ((devs ps qs (k + 1)).map drow = (devs ps qs k).map drow ++ [drow ⟨p, q, 0, 0, false, 0⟩]) := Lib.hid (by rw [devs_succ, List.map_append, hdev.out]; rfl)
      have hboxk := Lib.hid hbox
      have hallk := Lib.hid hall'
      clear hokk hno hok hall hall' hd' hp3 hdev
      go_upto_region 9 with (go_at_call 41; (with_reducible refine (KTq _).mono ?_); rintro e w1 ⟨rfl, rfl⟩)
      go_region_law (first
        | (refine step_push_at el109 rfl (.tmp 47) (.tmp 54) rfl rfl ((ho.drawn ((Drawn.refl _).drew)).alloc _) (drow ⟨p, q, 0, 0, false, 0⟩) wi.heap.size 113 rfl (heap_alloc_at wi _) rfl (by simp [drow, Value.oneCell']) (by rw [hlk.out]; omega) ?hb (fun v' w3 ho3 hb3 hg3 hat3 => ?_); (case hb => (have q1 := size_al wi (.cells (drow ⟨p, q, 0, 0, false, 0⟩).toArray 113); (show _ ≤ (wi.alloc (.cells (drow ⟨p, q, 0, 0, false, 0⟩).toArray 113)).heap.size); omega)); obtain ⟨g3, cap3, rfl, hg3a, hg3b⟩ := own_form ho3; rw [hlk.out] at ho3 ⊢; have z3 : w3.heap[W.heap.size]? = some (.cells #[vk, .int .i64 0] 111) := (hb3.block _ (Nat.lt_succ_self _)).trans ((Below.heap_alloc wi _ _ hwl).trans hboxk.out); have y2 : w3.cell? ⟨W.heap.size, 0, none⟩ = some vk := cell_of_row _ _ 0 _ 111 (0, 0) z3; have yf : w3.frozen? ⟨W.heap.size, 0, none⟩ = false := frozen_row z3 0))
      all_goals go_wp2
      all_goals go_roundw
      all_goals first
        | exact ⟨k + 1, .slice (some ⟨g3, 0, none⟩) (k + 1) cap3, by omega, by go_num, heap_set z3 0 _, by
            rw [hdk.out]
            exact ho3.keep fun q hq => Below.heap_setCell w3 _ _ q (fun e => by have e2 : some g3 = some q := hq; have e3 := Option.some.inj e2; have e4 : q = W.heap.size := e; omega),
            (hd.trans (((below_al (Below.refl _ _) _).drew.mono (Nat.le_of_lt hwl)).trans (hb3.mono (Nat.le_succ _)))).setCell (Nat.le_refl _) _, hallk.out⟩
        | (simp [intOf]; omega)
    · have hd' := isTick_no hp3
      rw [hd'] at KTq
      have hn' := Lib.hid (hno.out (fun h => hp3 h.2.2))
      clear hokk hno hok hall hd' hp3
      go_wp2_with (go_at_call 41; (with_reducible refine (KTq _).mono ?_); rintro e w1 ⟨rfl, rfl⟩)
      go_ret2
      exact ⟨hd, Or.inr ⟨hn'.out, rfl⟩⟩
end Go.Proofs.Ytgnhddnhcfmipaa
