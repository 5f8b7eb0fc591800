/- Rails: moves, the plain answer; the reference's Moves, walked. -/
import Derived.Test.YtbbjnhajmckjoaaHold3
namespace Go.Proofs.Ytbbjnhajmckjoaa
open Go.RowKit Go.BigFrame

/-- what goes up, and what goes down, among the first k -/
def ups (f t : List Int) : Nat → List Pt
  | 0 => []
  | k + 1 => ups f t k ++ if f.getD k 0 < t.getD k 0 then [((k : Int), t.getD k 0)] else []
def dns (f t : List Int) : Nat → List Pt
  | 0 => []
  | k + 1 => dns f t k ++ if t.getD k 0 < f.getD k 0 then [((k : Int), t.getD k 0)] else []
theorem ups_len (f t : List Int) : ∀ k, (ups f t k).length ≤ k
  | 0 => by simp [ups]
  | k + 1 => by
    have := ups_len f t k
    unfold ups
    rw [List.length_append]
    by_cases h : f.getD k 0 < t.getD k 0
    · rw [if_pos h]; simp; omega
    · rw [if_neg h]; simp; omega
theorem dns_len (f t : List Int) : ∀ k, (dns f t k).length ≤ k
  | 0 => by simp [dns]
  | k + 1 => by
    have := dns_len f t k
    unfold dns
    rw [List.length_append]
    by_cases h : t.getD k 0 < f.getD k 0
    · rw [if_pos h]; simp; omega
    · rw [if_neg h]; simp; omega
def moves (l : List Pt) (f t : List Int) : List Pt × Int :=
  if (holds l f).2 ≠ 0 then ([], (holds l f).2)
  else if (holds l t).2 ≠ 0 then ([], (holds l t).2)
  else (ups f t l.length ++ (dns f t l.length).reverse, 0)
theorem holds_ok {l : List Pt} {v : List Int} (h : (holds l v).2 = 0) : l.length = v.length ∧ l.length ≤ 1024 := by
  cases hm : may l with
  | false => rw [holds_no hm] at h; simp at h
  | true =>
    cases hg : vgo l v (min l.length v.length) 0 with
    | some i => rw [holds_at hm hg] at h; simp at h
    | none =>
      rw [holds_end hm hg] at h
      by_cases hl : l.length = v.length
      · exact ⟨hl, (may_all hm).1⟩
      · rw [if_neg hl] at h; simp at h
theorem ret_v {p : List Pt × Int} {v : Value} {x : List Pt} {n : Int} (h : p = (x, n)) : Ending.returned (.tuple #[v, .int .i64 n]) = .returned (.tuple #[v, .int .i64 p.2]) := by rw [h]
theorem elt33 : Elt Try.prog 33 101 2 16 := Elt.of (z := .agg #[.int .i64 0, .int .i64 0]) Try.underlying33 (by kernel_rfl) rfl (by decide) (by decide)
theorem elt30 : Elt Try.prog 30 39 2 16 := Elt.of (z := .agg #[.int .i64 0, .int .i64 0]) Try.underlying30 (by kernel_rfl) rfl (by decide) (by decide)

set_option maxHeartbeats 4000000 in
set_option maxRecDepth 100000 in
theorem rmoves_any (l : List Pt) (f t : List Int) (A B C : Option Addr) (a b c : Nat) (w : World) (h : Pts w A l) (hf : Ints w B f) (ht : Ints w C t) :
    Calls Try.prog 15 #[.slice A l.length a, .slice B f.length b, .slice C t.length c] w fun e w' => ∃ v, e = .returned (.tuple #[v, .int .i64 (moves l f t).2]) ∧ Own w' w.heap.size 101 2 ((moves l f t).1.map prow) v ∧ Below w.heap.size w w' := by
  have H1 := rholds_any l f A B a b w h hf
  have H2 := fun w' (hd : Drawn w w') => rholds_any l t A C a c w' (Sl.drawn h hd) (Sl.drawn ht hd)
  by_cases h1 : (holds l f).2 = 0
  case neg =>
    have e : Hid (moves l f t = ([], (holds l f).2)) := Lib.hid (by unfold moves; rw [if_pos h1])
    clear H2
    generalize holds l f = X at *
    obtain ⟨x1, x2⟩ := X
    simp only at h1
    go_enter Try.func15, Try.ntmps15
    go_wp2_with (go_at_call 13; refine H1.mono ?_; rintro e w1 ⟨rfl, hd1⟩)
    go_ret2
    exact ⟨.slice none 0 0, by rw [e.out]; rfl, by rw [e.out]; exact Own.nil _ _ _ _, hd1.after (Below.refl _ _)⟩
  by_cases h2 : (holds l t).2 = 0
  case neg =>
    have e : Hid (moves l f t = ([], (holds l t).2)) := Lib.hid (by unfold moves; rw [if_neg (by simp [h1]), if_pos h2])
    generalize holds l f = X at *
    generalize holds l t = Y at *
    obtain ⟨x1, x2⟩ := X
    obtain ⟨y1, y2⟩ := Y
    simp only at h1 h2
    subst h1
    go_enter Try.func15, Try.ntmps15
    go_wp2_with (first
      | (go_at_call 13; (with_reducible refine H1.mono ?_); rintro e w1 ⟨rfl, hd1⟩)
      | (go_at_call 13; (with_reducible refine (H2 _ hd1).mono ?_); rintro e w2 ⟨rfl, hd2⟩))
    go_ret2
    exact ⟨.slice none 0 0, by rw [e.out]; rfl, by rw [e.out]; exact Own.nil _ _ _ _, hd2.after (hd1.after (Below.refl _ _))⟩
  have e : Hid (moves l f t = (ups f t l.length ++ (dns f t l.length).reverse, 0)) := Lib.hid (by unfold moves; rw [if_neg (by simp [h1]), if_neg (by simp [h2])])
  have hl1 := Lib.hid (holds_ok h1)
  have hl2 := Lib.hid (holds_ok h2)
  generalize holds l f = X at *
  generalize holds l t = Y at *
  obtain ⟨x1, x2⟩ := X
  obtain ⟨y1, y2⟩ := Y
  simp only at h1 h2
  subst h1
  subst h2
  go_enter Try.func15, Try.ntmps15
  go_wp2_with (first
    | (go_at_call 13; (with_reducible refine H1.mono ?_); rintro e w1 ⟨rfl, hd1⟩)
    | (go_at_call 13; (with_reducible refine (H2 _ hd1).mono ?_); rintro e w2 ⟨rfl, hd2⟩))
  have hD : Below w.heap.size w w2 := hd2.after (hd1.after (Below.refl _ _))
  have hfw := Lib.hid (fun w' (hb : Below w.heap.size w w') => And.intro (Ints.below hf hb) (Ints.below ht hb))
  clear H1 H2 hd1 hd2 h hf ht
  go_loopw [10, 11] (fun v i wr => ∃ k : Nat, k ≤ l.length ∧ i = .int .i64 k ∧ Own wr w.heap.size 101 2 ((ups f t k).map prow) v ∧ Below w.heap.size w wr) (fun _ i _ => l.length - (intOf i).toNat)
  case atStart => exact ⟨0, by omega, rfl, Own.nil _ _ _ _, hD⟩
  case round =>
    clear hD
    obtain ⟨k, hk, rfl, hown, hg⟩ := hrel
    by_cases hkl : k = l.length
    · subst hkl
      clear hk
      have hn := hl1.out.2
      go_wp2
      go_loopw [10, 12] (fun v i wr => ∃ (m : Nat) (X : List Pt), m ≤ l.length ∧ i = .int .i64 ((m : Int) - 1) ∧ X ++ (dns f t m).reverse = (dns f t l.length).reverse ∧ Own wr w.heap.size 101 2 ((ups f t l.length ++ X).map prow) v ∧ Below w.heap.size w wr) (fun _ i _ => (intOf i + 1).toNat)
      case atStart => exact ⟨l.length, [], Nat.le_refl _, by go_num, rfl, by rw [List.append_nil]; exact hown, hg⟩
      case round =>
        clear hown hg
        obtain ⟨m, X, hm, rfl, hX, hown, hg⟩ := hrel
        cases m with
        | zero =>
          have hX : Hid (X = (dns f t l.length).reverse) := Lib.hid (by rw [← hX]; simp [dns])
          go_wp2
          go_ret2
          exact ⟨_, ret_v e.out, by rw [e.out]; show Own _ _ _ _ ((ups f t l.length ++ (dns f t l.length).reverse).map prow) _; rw [← hX.out]; exact hown, hg⟩
        | succ k =>
          have em : ((k + 1 : Nat) : Int) - 1 = (k : Int) := by omega
          rw [em]
          clear em
          have hkl : k < l.length := by omega
          have hkf : k < f.length := by have := hl1.out; omega
          have hkt : k < t.length := by have := hl2.out; omega
          have hn := hl1.out.2
          have hul := ups_len f t l.length
          have hXl : X.length ≤ 1024 := by
            have h1 := congrArg List.length hX
            have h2 := dns_len f t l.length
            rw [List.length_append, List.length_reverse, List.length_reverse] at h1
            omega
          have hu : Hid (X ++ ((if t[k] < f[k] then [((k : Int), t[k])] else []) ++ (dns f t k).reverse) = (dns f t l.length).reverse) := Lib.hid (by
            rw [← hX]
            show _ = X ++ (dns f t k ++ _).reverse
            rw [show f.getD k 0 = f[k] by simp [List.getD, hkf], show t.getD k 0 = t[k] by simp [List.getD, hkt], List.reverse_append]
            by_cases q : t[k] < f[k]
            · rw [if_pos q]; rfl
            · rw [if_neg q]; rfl)
          clear hX
          obtain ⟨hF, hT⟩ := hfw.out wr hg
          obtain ⟨b1, o1, rfl, _, c1⟩ := hF.at_ hkf
          obtain ⟨b2, o2, rfl, _, c2⟩ := hT.at_ hkt
          clear hF hT
          generalize f[k] = x at *
          generalize t[k] = y at *
          by_cases hxy : y < x
          · rw [if_pos hxy] at hu
            have hlk : Hid (((ups f t l.length ++ X).map prow).length ≤ 2048) := Lib.hid (by rw [List.length_map, List.length_append]; omega)
            have hz : Hid ((ups f t l.length ++ X).map prow ++ [[.int .i64 k, .int .i64 y]] = (ups f t l.length ++ (X ++ [((k : Int), y)])).map prow) := Lib.hid (by rw [← List.append_assoc, List.map_append (l₂ := [((k : Int), y)])]; rfl)
            clear hul hXl
            go_wp2
            go_big_quiet (fail)
            generalize hwd : wr.drewN _ = wd
            have hdr : Drawn wr wd := ⟨_, hwd⟩
            replace hown := hown.drawn hdr
            replace c2 := (hdr.cell _).trans c2
            replace hg := hdr.after hg
            have hB := hg.size
            clear c1 hwd hdr
            go_wp2_with (at_builtin; refine wpList_push elt33 rfl _ _ rfl rfl (hown.alloc _) [.int .i64 k, .int .i64 y] wd.heap.size 101 rfl (heap_alloc_at _ _) rfl (by simp [Value.oneCell']) (by have := hlk.out; omega) (by rw [size_al]; omega) ?_; intro v' w3 ho' hb' hs' _ _)
            go_roundw
            case rel => exact ⟨k, X ++ [((k : Int), y)], by omega, by go_num, by rw [← hu.out, List.append_assoc], by rw [← hz.out]; exact ho', (below_al hg _).trans hb'⟩
            case measure => simp [intOf]
          · rw [if_neg hxy, List.nil_append] at hu
            clear hul hXl
            go_wp2
            go_big_quiet (fail)
            go_wp2
            go_roundw
            case rel => exact ⟨k, X, by omega, by go_num, hu.out, hown.drawn ⟨_, rfl⟩, below_drewN' hg _⟩
            case measure => simp [intOf]
    have hkl : k < l.length := by omega
    have hkf : k < f.length := by have := hl1.out; omega
    have hkt : k < t.length := by have := hl2.out; omega
    have hn := hl1.out.2
    have hul := ups_len f t k
    have hu : Hid (ups f t (k + 1) = ups f t k ++ if f[k] < t[k] then [((k : Int), t[k])] else []) := Lib.hid (by
      show ups f t k ++ _ = _
      rw [show f.getD k 0 = f[k] by simp [List.getD, hkf], show t.getD k 0 = t[k] by simp [List.getD, hkt]])
    obtain ⟨hF, hT⟩ := hfw.out wr hg
    obtain ⟨b1, o1, rfl, _, c1⟩ := hF.at_ hkf
    obtain ⟨b2, o2, rfl, _, c2⟩ := hT.at_ hkt
    clear hF hT
    generalize f[k] = x at *
    generalize t[k] = y at *
    by_cases hxy : x < y
    · have hu : Hid ((ups f t k).map prow ++ [[.int .i64 k, .int .i64 y]] = (ups f t (k + 1)).map prow) := Lib.hid (by rw [hu.out, if_pos hxy, List.map_append]; rfl)
      have hlk : Hid (((ups f t k).map prow).length ≤ 1024) := Lib.hid (by rw [List.length_map]; omega)
      clear hul
      go_wp2
      go_big_quiet (fail)
      generalize hwd : wr.drewN _ = wd
      have hdr : Drawn wr wd := ⟨_, hwd⟩
      replace hown := hown.drawn hdr
      replace c2 := (hdr.cell _).trans c2
      replace hg := hdr.after hg
      have hB := hg.size
      clear c1 hwd hdr
      go_wp2_with (at_builtin; refine wpList_push elt33 rfl _ _ rfl rfl (hown.alloc _) [.int .i64 k, .int .i64 y] wd.heap.size 101 rfl (heap_alloc_at _ _) rfl (by simp [Value.oneCell']) (by have := hlk.out; omega) (by rw [size_al]; omega) ?_; intro v' w3 ho' hb' hs' _ _)
      go_roundw
      case rel => exact ⟨k + 1, by omega, by go_num, by rw [← hu.out]; exact ho', (below_al hg _).trans hb'⟩
      case measure => simp [intOf]; omega
    · have hu : Hid (ups f t (k + 1) = ups f t k) := Lib.hid (by rw [hu.out, if_neg hxy, List.append_nil])
      clear hul
      go_wp2
      go_big_quiet (fail)
      go_wp2
      go_roundw
      case rel => exact ⟨k + 1, by omega, by go_num, by rw [hu.out]; exact hown.drawn ⟨_, rfl⟩, below_drewN' hg _⟩
      case measure => simp [intOf]; omega
end Go.Proofs.Ytbbjnhajmckjoaa
