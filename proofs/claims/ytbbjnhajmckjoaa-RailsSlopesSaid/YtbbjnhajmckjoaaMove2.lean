/- Rails: Moves, walked. -/
import Derived.Test.YtbbjnhajmckjoaaRev
import Derived.Test.YtbbjnhajmckjoaaMem3
namespace Go.Proofs.Ytbbjnhajmckjoaa
open Go.RowKit Go.BigFrame

theorem Own.nil0 {w : World} {B : Nat} {e : TypeId} {size : Nat} {xs : List (List Value)} {A : Option Addr} {n c : Nat} (h : Own w B e size xs (.slice A n c)) : A = none → c = 0 := by
  rintro rfl
  rcases h.1.2 with ⟨h, _⟩ | ⟨g, cap, cur, h, _⟩
  · simp only [Value.slice.injEq] at h; exact h.2.2
  · simp at h
theorem own_sl_at {w : World} {B : Nat} {e : TypeId} {size : Nat} {xs : List (List Value)} {A : Option Addr} {n c : Nat} (h : Own w B e size xs (.slice A n c)) : Sl (fun _ => True) w A size xs := by
  obtain ⟨A', c', hv, hs⟩ := h.sl
  simp only [Value.slice.injEq] at hv
  obtain ⟨rfl, _, _⟩ := hv
  exact hs.mono fun _ _ => trivial
theorem prow_one (l : List Pt) : ∀ r ∈ l.map prow, ∀ u ∈ r, u.oneCell' = true := by
  intro r hr u hu
  obtain ⟨p, _, rfl⟩ := List.mem_map.1 hr
  simp only [prow, List.mem_cons, List.not_mem_nil, or_false] at hu
  rcases hu with rfl | rfl <;> rfl
/-- two slices of the call's own lie apart -/
def Apart (u d : Value) : Prop := ∀ g, u.ownBlock = some g → d.ownBlock ≠ some g
theorem Apart.ne {u d : Value} (h : Apart u d) : d.ownBlock = none ∨ d.ownBlock ≠ u.ownBlock := by
  cases e : d.ownBlock with
  | none => exact Or.inl rfl
  | some g => exact Or.inr fun q => h g q.symm e
theorem Apart.ne' {u d : Value} (h : Apart u d) : u.ownBlock = none ∨ u.ownBlock ≠ d.ownBlock := by
  cases e : u.ownBlock with
  | none => exact Or.inl rfl
  | some g => exact Or.inr fun q => h g e q.symm
theorem Apart.left {u d u' : Value} {n : Nat} (h : Apart u d) (hat : u'.ownBlock = u.ownBlock ∨ u'.ownBlock = some n) (hd : ∀ g, d.ownBlock = some g → g < n) : Apart u' d := by
  intro g hg e
  rcases hat with q | q
  · exact h g (by rw [← q]; exact hg) e
  · rw [q] at hg; cases hg; have := hd _ e; omega
theorem Apart.right {u d d' : Value} {n : Nat} (h : Apart u d) (hat : d'.ownBlock = d.ownBlock ∨ d'.ownBlock = some n) (hu : ∀ g, u.ownBlock = some g → g < n) : Apart u d' := by
  intro g hg e
  rcases hat with q | q
  · exact h g hg (by rw [← q]; exact e)
  · rw [q] at e; cases e; have := hu _ hg; omega

set_option maxHeartbeats 4000000 in
set_option maxRecDepth 100000 in
theorem moves_any (l : List Pt) (f t : List Int) (A B C : Option Addr) (a b c : Nat) (w : World) (h : Pts w A l) (hf : Ints w B f) (ht : Ints w C t) (hfb : f.length ≤ b) (htc : t.length ≤ c) :
    Calls Try.prog 14 #[.slice A l.length a, .slice B f.length b, .slice C t.length c] w fun e w' => ∃ v, e = .returned (.tuple #[v, .int .i64 (moves l f t).2]) ∧ Own w' w.heap.size 39 2 ((moves l f t).1.map prow) v ∧ Below w.heap.size w w' := by
  have H1 := holds_any l f A B a b w h hf hfb
  have H2 := fun w' (hd : Below w.heap.size w w') => holds_any l t A C a c w' (h.below hd) (ht.below hd) htc
  by_cases h1 : (holds l f).2 = 0
  case neg =>
    have e : Hid (moves l f t = ([], (holds l f).2)) := Lib.hid (by unfold moves; rw [if_pos h1])
    clear H2
    generalize holds l f = X at *
    obtain ⟨x1, x2⟩ := X
    simp only at h1
    go_enter Try.func14, Try.ntmps14
    go_wp2_with (go_at_call 12; refine H1.mono ?_; rintro e w1 ⟨rfl, hd1⟩)
    go_ret2
    exact ⟨.slice none 0 0, by rw [e.out]; rfl, by rw [e.out]; exact Own.nil _ _ _ _, hd1⟩
  by_cases h2 : (holds l t).2 = 0
  case neg =>
    have e : Hid (moves l f t = ([], (holds l t).2)) := Lib.hid (by unfold moves; rw [if_neg (by simp [h1]), if_pos h2])
    generalize holds l f = X at *
    generalize holds l t = Y at *
    obtain ⟨x1, x2⟩ := X
    obtain ⟨y1, y2⟩ := Y
    simp only at h1 h2
    subst h1
    go_enter Try.func14, Try.ntmps14
    go_wp2_with (first
      | (go_at_call 12; (with_reducible refine H1.mono ?_); rintro e w1 ⟨rfl, hd1⟩)
      | (go_at_call 12; (with_reducible refine (H2 _ hd1).mono ?_); rintro e w2 ⟨rfl, hd2⟩))
    go_ret2
    exact ⟨.slice none 0 0, by rw [e.out]; rfl, by rw [e.out]; exact Own.nil _ _ _ _, hd1.trans (hd2.mono hd1.size)⟩
  have e : Hid (moves l f t = (ups f t l.length ++ (dns f t l.length).reverse, 0)) := Lib.hid (by unfold moves; rw [if_neg (by simp [h1]), if_neg (by simp [h2])])
  have hl1 := Lib.hid (holds_ok h1)
  have hl2 := Lib.hid (holds_ok h2)
  generalize holds l f = X at *
  generalize holds l t = Y at *
  obtain ⟨x1, x2⟩ := X
  obtain ⟨y1, y2⟩ := Y
  simp only at h1 h2
  subst h1
  subst h2
  have hn := hl2.out.2
  have hnt : t.length ≤ 1024 := by have := hl2.out.1; omega
  go_enter Try.func14, Try.ntmps14
  go_wp2_with (first
    | (go_at_call 12; (with_reducible refine H1.mono ?_); rintro e w1 ⟨rfl, hd1⟩)
    | (go_at_call 12; (with_reducible refine (H2 _ hd1).mono ?_); rintro e w2 ⟨rfl, hd2⟩))
  have hD : Below w.heap.size w w2 := hd1.trans (hd2.mono hd1.size)
  have hfw := Lib.hid (fun w' (hb : Below w.heap.size w w') => And.intro (Ints.below hf hb) (Ints.below ht hb))
  clear H1 H2 hd1 hd2 h hf ht
  go_loopw [12, 13, 36] (fun u d i wr => ∃ k : Nat, k ≤ t.length ∧ i = .int .i64 k ∧ Own wr w.heap.size 39 2 ((ups f t k).map prow) u ∧ Own wr w.heap.size 39 2 ((dns f t k).map prow) d ∧ Apart u d ∧ Below w.heap.size w wr) (fun _ _ i _ => t.length - (intOf i).toNat)
  case atStart => exact ⟨0, by omega, rfl, Own.nil _ _ _ _, Own.nil _ _ _ _, fun g hg => by simp [Value.ownBlock] at hg, hD⟩
  case round =>
    clear hD
    obtain ⟨k, hk, rfl, hu, hd, hA, hg⟩ := hrel
    by_cases hkl : k = t.length
    · subst hkl
      clear hk
      have hul := ups_len f t t.length
      have hdl := dns_len f t t.length
      have hR := Lib.hid hl2.out.1
      rw [hR.out] at e
      generalize hUU : ups f t t.length = U at *
      generalize hDD : dns f t t.length = D at *
      clear hUU hDD
      obtain ⟨Ad, cd, hdv, _⟩ := hd.sl
      subst hdv
      rw [List.length_map] at hd hA ⊢
      have V1 := reverse_any D Ad D.length cd w.heap.size wr hd rfl (by omega)
      have hub := Lib.hid (fun g (hg : u12.ownBlock = some g) => hA g hg)
      clear hR
      have hrl : Hid (((D.reverse).map prow).length = D.length) := Lib.hid (by rw [List.length_map, List.length_reverse])
      have hUl : Hid ((U.map prow).length = U.length) := Lib.hid (by rw [List.length_map])
      have hB := hg.size
      go_wp2_with (first
        | (go_at_call 48; refine V1.mono ?_; rintro e w4 ⟨rfl, hd4, hk4, hs4, hb4⟩; have hu4 := hu.keep (fun g hg => hk4 g (hub.out g hg)))
        | (at_builtin; refine wpList_app_any elt30 rfl _ _ rfl rfl hu4 Ad cd D.length hrl.out.symm rfl hd4.nil0 (own_sl_at hd4) (prow_one D.reverse) (by rw [hrl.out, hUl.out]; omega) (by rw [hs4]; exact hB) ?_; intro v' w5 ho' hb5 hs5 _ _))
      go_ret2
      exact ⟨_, ret_v e.out, by rw [e.out]; show Own _ _ _ _ ((U ++ D.reverse).map prow) _; rw [List.map_append]; exact ho', (hg.trans hb4).trans hb5⟩
    have hkt : k < t.length := by omega
    have hkf : k < f.length := by have := hl1.out.1; have := hl2.out.1; omega
    have hul := ups_len f t k
    have hdl := dns_len f t k
    have eu : Hid (ups f t (k + 1) = ups f t k ++ if f[k] < t[k] then [((k : Int), t[k])] else []) := Lib.hid (by
      show ups f t k ++ _ = _
      rw [show f.getD k 0 = f[k] by simp [List.getD, hkf], show t.getD k 0 = t[k] by simp [List.getD, hkt]])
    have ed : Hid (dns f t (k + 1) = dns f t k ++ if t[k] < f[k] then [((k : Int), t[k])] else []) := Lib.hid (by
      show dns f t k ++ _ = _
      rw [show f.getD k 0 = f[k] by simp [List.getD, hkf], show t.getD k 0 = t[k] by simp [List.getD, hkt]])
    obtain ⟨hF, hT⟩ := hfw.out wr hg
    obtain ⟨b1, o1, rfl, _, c1⟩ := hF.at_ hkf
    obtain ⟨b2, o2, rfl, _, c2⟩ := hT.at_ hkt
    clear hF hT
    generalize f[k] = x at *
    generalize t[k] = y at *
    have hB := hg.size
    rcases Int.lt_trichotomy x y with hxy | hxy | hxy
    · have eu : Hid ((ups f t k).map prow ++ [[.int .i64 k, .int .i64 y]] = (ups f t (k + 1)).map prow) := Lib.hid (by rw [eu.out, if_pos hxy, List.map_append]; rfl)
      have ed : Hid (dns f t (k + 1) = dns f t k) := Lib.hid (by rw [ed.out, if_neg (by omega), List.append_nil])
      have hlk : Hid (((ups f t k).map prow).length ≤ 1024) := Lib.hid (by rw [List.length_map]; omega)
      clear hul hdl
      go_wp2_with (at_builtin; refine wpList_push_at elt30 rfl _ _ rfl rfl (hu.alloc _) [.int .i64 k, .int .i64 y] wr.heap.size 39 rfl (heap_alloc_at _ _) rfl (by simp [Value.oneCell']) (by have := hlk.out; omega) (by rw [size_al]; omega) ?_; intro v' w3 ho' hb' hs' _ hgr hat)
      go_roundw
      case rel => exact ⟨k + 1, by omega, by go_num, by rw [← eu.out]; exact ho', by rw [ed.out]; exact (hd.alloc _).grown hgr hA.ne, hA.left hat (fun g hg => ((hd.alloc _).lt g hg).2), (below_al hg _).trans hb'⟩
      case measure => simp [intOf]; omega
    · replace eu : Hid (ups f t (k + 1) = ups f t k) := Lib.hid (by rw [eu.out, if_neg (by omega), List.append_nil])
      replace ed : Hid (dns f t (k + 1) = dns f t k) := Lib.hid (by rw [ed.out, if_neg (by omega), List.append_nil])
      subst hxy
      clear hul hdl
      go_wp2
      go_roundw
      case rel => exact ⟨k + 1, by omega, by go_num, by rw [eu.out]; exact hu, by rw [ed.out]; exact hd, hA, hg⟩
      case measure => simp [intOf]; omega
    · have ed : Hid ((dns f t k).map prow ++ [[.int .i64 k, .int .i64 y]] = (dns f t (k + 1)).map prow) := Lib.hid (by rw [ed.out, if_pos hxy, List.map_append]; rfl)
      have eu : Hid (ups f t (k + 1) = ups f t k) := Lib.hid (by rw [eu.out, if_neg (by omega), List.append_nil])
      have hlk : Hid (((dns f t k).map prow).length ≤ 1024) := Lib.hid (by rw [List.length_map]; omega)
      clear hul hdl
      go_wp2_with (at_builtin; refine wpList_push_at elt30 rfl _ _ rfl rfl (hd.alloc _) [.int .i64 k, .int .i64 y] wr.heap.size 39 rfl (heap_alloc_at _ _) rfl (by simp [Value.oneCell']) (by have := hlk.out; omega) (by rw [size_al]; omega) ?_; intro v' w3 ho' hb' hs' _ hgr hat)
      go_roundw
      case rel => exact ⟨k + 1, by omega, by go_num, by rw [eu.out]; exact (hu.alloc _).grown hgr hA.ne', by rw [← ed.out]; exact ho', hA.right hat (fun g hg => ((hu.alloc _).lt g hg).2), (below_al hg _).trans hb'⟩
      case measure => simp [intOf]; omega
end Go.Proofs.Ytbbjnhajmckjoaa
