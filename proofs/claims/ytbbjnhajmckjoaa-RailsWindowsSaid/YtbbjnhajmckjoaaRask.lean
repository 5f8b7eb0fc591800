/- Rails: the reference's Ask, walked. -/
import Derived.Test.YtbbjnhajmckjoaaRdrop
namespace Go.Proofs.Ytbbjnhajmckjoaa
open Go.RowKit Go.BigFrame Go.Maps

theorem ins_low (k : Int) (p : Pt) (r : Hl) : ∀ (l : Hl), (∀ q ∈ l, q.1 < k) → ins k p (l ++ r) = l ++ ins k p r
  | [], _ => rfl
  | y :: l, h => by
    rw [List.cons_append, ins, if_pos (h y (by simp)), ins_low k p r l fun q hq => h q (List.mem_cons_of_mem _ hq)]
    rfl
theorem ins_high (k : Int) (p : Pt) (x : Int × Pt) : ∀ (l : Hl), (∃ q ∈ l, k ≤ q.1) → ins k p (l ++ [x]) = ins k p l ++ [x]
  | [], h => by obtain ⟨q, hq, _⟩ := h; simp at hq
  | y :: l, h => by
    rw [List.cons_append, ins, ins]
    by_cases h1 : y.1 < k
    · rw [if_pos h1, if_pos h1, List.cons_append, ins_high k p x l (by
        obtain ⟨q, hq, hk⟩ := h
        rcases List.mem_cons.1 hq with rfl | hq
        · omega
        · exact ⟨q, hq, hk⟩)]
    · rw [if_neg h1, if_neg h1]
      by_cases h2 : y.1 = k
      · rw [if_pos h2, if_pos h2]; rfl
      · rw [if_neg h2, if_neg h2]; rfl
def pt (k : Int) (l : Hl) : Bool := l.any fun q => decide (k ≤ q.1)
def ac (k : Int) (p : Pt) (l : Hl) : Hl := if pt k l then ins k p l else l
theorem pt_false {k : Int} {l : Hl} (h : pt k l = false) : ∀ q ∈ l, q.1 < k := fun q hq => by
  have := List.any_eq_false.1 h q hq
  simp only [decide_eq_true_eq] at this
  omega
theorem pt_true {k : Int} {l : Hl} (h : pt k l = true) : ∃ q ∈ l, k ≤ q.1 := by
  obtain ⟨q, hq, h⟩ := List.any_eq_true.1 h
  exact ⟨q, hq, by simpa using h⟩
theorem pt_snoc (k : Int) (l : Hl) (x : Int × Pt) : pt k (l ++ [x]) = (pt k l || decide (k ≤ x.1)) := by simp [pt, List.any_append]
theorem ac_end (k : Int) (p : Pt) (l : Hl) : (if pt k l then ac k p l else ac k p l ++ [(k, p)]) = ins k p l := by
  unfold ac
  cases h : pt k l with
  | true => simp
  | false =>
    have := ins_low k p [] l (pt_false h)
    rw [List.append_nil] at this
    simp [this, ins]
theorem ac_a {k : Int} {p : Pt} {l : Hl} {x : Int × Pt} (h : pt k l = false) (hx : x.1 < k) : ac k p (l ++ [x]) = ac k p l ++ [x] ∧ pt k (l ++ [x]) = false := by
  have h2 : pt k (l ++ [x]) = false := by rw [pt_snoc, h, decide_eq_false (by omega)]; rfl
  unfold ac
  rw [h2, h]
  exact ⟨rfl, rfl⟩
theorem ac_b {k : Int} {p : Pt} {l : Hl} {x : Int × Pt} (h : pt k l = false) (hx : x.1 = k) : ac k p (l ++ [x]) = ac k p l ++ [(k, p)] ∧ pt k (l ++ [x]) = true := by
  have h2 : pt k (l ++ [x]) = true := by rw [pt_snoc, h, decide_eq_true (by omega)]; rfl
  unfold ac
  rw [h2, h]
  refine ⟨?_, rfl⟩
  simp only [if_true, Bool.false_eq_true, if_false]
  rw [ins_low k p [x] l (pt_false h), ins, if_neg (by omega), if_pos hx]
theorem ac_c {k : Int} {p : Pt} {l : Hl} {x : Int × Pt} (h : pt k l = false) (hx : k < x.1) : ac k p (l ++ [x]) = (ac k p l ++ [(k, p)]) ++ [x] ∧ pt k (l ++ [x]) = true := by
  have h2 : pt k (l ++ [x]) = true := by rw [pt_snoc, h, decide_eq_true (by omega)]; rfl
  unfold ac
  rw [h2, h]
  refine ⟨?_, rfl⟩
  simp only [if_true, Bool.false_eq_true, if_false]
  rw [ins_low k p [x] l (pt_false h), ins, if_neg (by omega), if_neg (by omega), List.append_assoc]
  rfl
theorem ac_d {k : Int} {p : Pt} {l : Hl} {x : Int × Pt} (h : pt k l = true) : ac k p (l ++ [x]) = ac k p l ++ [x] ∧ pt k (l ++ [x]) = true := by
  have h2 : pt k (l ++ [x]) = true := by rw [pt_snoc, h]; rfl
  unfold ac
  rw [h2, h]
  exact ⟨ins_high k p x l (pt_true h), rfl⟩
theorem rising_take {m : Hl} (h : Rising m) {j : Nat} (hj : j < m.length) : ∀ q ∈ m.take j, q.1 < (m[j]'hj).1 := fun q hq => by
  have h1 := h
  rw [← List.take_append_drop j m] at h1
  refine (List.pairwise_append.1 h1).2.2 q hq _ ?_
  rw [List.drop_eq_getElem_cons hj]
  exact List.mem_cons_self ..
theorem ins_len (k : Int) (p : Pt) : ∀ (l : Hl), (ins k p l).length ≤ l.length + 1
  | [] => by simp [ins]
  | y :: l => by
    have ih := ins_len k p l
    rw [ins]
    by_cases h1 : y.1 < k
    · rw [if_pos h1]; simp only [List.length_cons]; omega
    · rw [if_neg h1]
      by_cases h2 : y.1 = k
      · rw [if_pos h2]; simp
      · rw [if_neg h2]; simp
theorem ac_len (k : Int) (p : Pt) (l : Hl) : (ac k p l).length ≤ l.length + 1 := by
  unfold ac
  by_cases h : pt k l
  · rw [if_pos h]; exact ins_len k p l
  · rw [if_neg h]; omega
set_option maxHeartbeats 8000000 in
set_option maxRecDepth 100000 in
theorem rask_any {S : Nat → Prop} {w : World} {g : Nat} {A : Option Addr} {c : Nat} {lo hi st : Int} {m : Hl} {v t : Int} (hR : Rt S w g A c lo hi st m v t) (hup : Rising m) (hlen : m.length ≤ 4096) (hnew : ∀ b, w.heap.size ≤ b → S b) (k p1 p2 : Int) :
    Calls Try.prog 29 #[.pointer (some ⟨g, 0, none⟩), .int .i64 k, .agg #[.int .i64 p1, .int .i64 p2]] w fun e w' => e = .returned (.int .i64 (askd lo hi st m v t k (p1, p2)).c) ∧ Fr w.heap.size (fun b => b = g) w w' ∧
      ∃ A' c', Rt S w' g A' c' lo hi st (askd lo hi st m v t k (p1, p2)).m (askd lo hi st m v t k (p1, p2)).v (askd lo hi st m v t k (p1, p2)).t := by
  have hgl := heap_lt hR.r
  have hx := heap_alloc_at w (.cells #[.int .i64 p1, .int .i64 p2] 57)
  have hb0 := below_al (Below.refl w.heap.size w) (.cells #[.int .i64 p1, .int .i64 p2] 57)
  obtain ⟨y0, y1, -, -⟩ := row2 hx
  by_cases hbad : k < 0 ∨ 4095 < k ∨ p2 < p1
  · have e : askd lo hi st m v t k (p1, p2) = ⟨1, m, v, t⟩ := if_pos hbad
    rw [e]
    have hfin : Hid (∀ X, Below w.heap.size w X → Fr w.heap.size (fun x => x = g) w X ∧ ∃ A' c', Rt S X g A' c' lo hi st m v t) := Lib.hid fun X q => ⟨Fr.of q, A, c, hR.keep fun b hl => q.block b hl⟩
    clear e hR hup hlen
    by_cases h1 : k < 0
    · go_enter Try.func29, Try.ntmps29
      go_wp2
      go_ret
      exact ⟨rfl, hfin.out _ hb0⟩
    · by_cases h2 : 4095 < k
      · go_enter Try.func29, Try.ntmps29
        go_wp2
        go_ret
        exact ⟨rfl, hfin.out _ hb0⟩
      · have h3 : p2 < p1 := by omega
        clear hbad
        go_enter Try.func29, Try.ntmps29
        go_wp2
        go_ret
        exact ⟨rfl, hfin.out _ hb0⟩
  have e : Hid (askd lo hi st m v t k (p1, p2) = layd lo hi st m v t (ins k (p1, p2) m)) := Lib.hid (if_neg hbad)
  have h1 : ¬ k < 0 := by omega
  have h2 : ¬ 4095 < k := by omega
  have h3 : ¬ p2 < p1 := by omega
  have hfw := Lib.hid (fun (X : World) (q : Below (w.heap.size + 1) (w.alloc (.cells #[.int .i64 p1, .int .i64 p2] 57)) X) => (show Hlr S X A m ∧ X.heap[g]? = some (.cells (rrow lo hi st (.slice A m.length c) v t) 68) ∧ X.heap[w.heap.size]? = some (.cells #[.int .i64 p1, .int .i64 p2] 57) ∧ Below w.heap.size w X by
    have q' := hb0.trans (q.mono (Nat.le_succ _))
    exact ⟨hR.l.below q', (q'.block _ hgl).trans hR.r, (q.block _ (Nat.lt_succ_self _)).trans hx, q'⟩))
  replace hR := Lib.hid hR
  replace hnew := Lib.hid hnew
  clear hbad hx hb0
  go_enter Try.func29, Try.ntmps29
  go_upto_region 6 with fail
  have hw0 : (w.alloc (.cells #[.int .i64 p1, .int .i64 p2] 57)).heap.size = w.heap.size + 1 := size_al _ _
  replace hw0 := Lib.hid hw0
  clear y0 y1
  generalize w.alloc (.cells #[.int .i64 p1, .int .i64 p2] 57) = w0 at *
  go_loopw [7, 8, 9] (fun u s8 i wr => ∃ j : Nat, j ≤ m.length ∧ i = .int .i64 j ∧ s8 = .bool (pt k (m.take j)) ∧ Own wr (w.heap.size + 1) 116 3 ((ac k (p1, p2) (m.take j)).map hrow) u ∧ Below (w.heap.size + 1) w0 wr) (fun _ _ i _ => m.length - (RowKit.intOf i).toNat)
  case atStart => exact ⟨0, by omega, rfl, rfl, Own.nil _ _ _ _, Below.refl _ _⟩
  case round =>
    obtain ⟨j, hj, rfl, rfl, hO, hb⟩ := hrel
    obtain ⟨wk, rfl⟩ : ∃ y : World, y = wr := ⟨_, rfl⟩
    obtain ⟨hLk, hrk, hxk, hbk⟩ := hfw.out wk hb
    have c3 : wk.cell? ⟨g, 3, none⟩ = some (.slice A m.length c) := by rw [cell_of_row _ _ 3 _ 68 (0, 0) hrk]; rfl
    obtain ⟨y0, y1, -, -⟩ := row2 hxk
    have hsz := hb.size
    rw [hw0.out] at hsz
    have hal := ac_len k (p1, p2) (m.take j)
    rw [List.length_take] at hal
    have hlk : Hid (((ac k (p1, p2) (m.take j)).map hrow).length ≤ 4097) := Lib.hid (by rw [List.length_map]; omega)
    clear hal
    by_cases hjm : j = m.length
    · subst hjm
      have hend := ac_end k (p1, p2) m
      rw [List.take_length] at hO hlk ⊢
      have KS := fun (X : World) (A2 : Option Addr) (c2 : Nat) (h1 : X.heap[g]? = some (.cells (rrow lo hi st (.slice A m.length c) v t) 68)) (h2 : Hlr S X A2 (ins k (p1, p2) m)) => rset_any h1 (ins k (p1, p2) m) A2 c2 h2 (by have := ins_len k (p1, p2) m; omega)
      cases hP : pt k m with
      | true =>
        rw [hP, if_pos rfl] at hend
        rw [hend] at hO
        obtain ⟨A2, c2, rfl, hL2⟩ := own_hlr hO (fun b hb => hnew.out b (by omega))
        have KSk := KS wk A2 c2 hrk hL2
        replace hbk := Lib.hid hbk
        replace hL2 := Lib.hid hL2
        clear hLk hfw hj KS hO hend hb hrk hxk
        go_wp2_with (go_at_call 56; (with_reducible refine (KSk).mono ?_); rintro e1 w1 ⟨rfl, hf, hy, hn⟩)
        go_ret
        obtain ⟨r1, r2⟩ := rset_to (c2 := c2) hR.out hbk.out hL2.out hf hy hn
        rw [e.out, layd_c]
        exact ⟨rfl, r1, r2⟩
      | false =>
        rw [hP, if_neg (by decide)] at hend
        have hend2 : Hid ((ac k (p1, p2) m).map hrow ++ [[.int .i64 k, .int .i64 p1, .int .i64 p2]] = (ins k (p1, p2) m).map hrow) := Lib.hid (by rw [← hend, List.map_append]; rfl)
        clear hLk hj hend hrk hxk
        go_wp2_with (first
          | (at_builtin; refine wpList_push elt66 rfl _ _ rfl rfl (hO.alloc _) [.int .i64 k, .int .i64 p1, .int .i64 p2] wk.heap.size 116 rfl (heap_alloc_at _ _) rfl (by simp [Value.oneCell']) (by have := hlk.out; omega) (by rw [size_al]; omega) ?_; intro v' w1 ho' hb' hs' _ _
             rw [hend2.out] at ho'
             obtain ⟨A2, c2, rfl, hL2⟩ := own_hlr ho' (fun b hb => hnew.out b (by omega))
             have hbn := (hb.alloc hsz (.cells #[.int .i64 k, .int .i64 p1, .int .i64 p2] 116)).trans hb'
             obtain ⟨-, hr1, -, hbk1⟩ := hfw.out w1 hbn
             have KSk := KS w1 A2 c2 hr1 hL2)
          | (go_at_call 56; (with_reducible refine (KSk).mono ?_); rintro e1 w2 ⟨rfl, hf, hy, hn⟩))
        go_ret
        obtain ⟨r1, r2⟩ := rset_to (c2 := c2) hR.out hbk1 hL2 hf hy hn
        rw [e.out, layd_c]
        exact ⟨rfl, r1, r2⟩
    · have hlt : j < m.length := by omega
      have hlt' : (j : Int) < (m.length : Int) := by omega
      have htk : m.take (j + 1) = m.take j ++ [m[j]'hlt] := (List.take_append_getElem hlt).symm
      have hris := rising_take hup hlt
      obtain ⟨b, o, rfl, -, hb1, x0, x1, x2⟩ := hLk.at_ hlt
      obtain ⟨q, hqv⟩ : ∃ q, m[j]'hlt = q := ⟨_, rfl⟩
      rw [hqv] at x0 x1 x2 htk hris
      obtain ⟨q0, q1, q2⟩ := q
      simp only at x0 x1 x2 hris
      replace hqv := Lib.hid hqv
      have ha := @ac_a k (p1, p2) (m.take j) (q0, q1, q2)
      have hbb := @ac_b k (p1, p2) (m.take j) (q0, q1, q2)
      have hc := @ac_c k (p1, p2) (m.take j) (q0, q1, q2)
      have hd := @ac_d k (p1, p2) (m.take j) (q0, q1, q2)
      rw [← htk] at ha hbb hc hd
      have hPx : pt k (m.take j) = true → k < q0 := fun h => by
        obtain ⟨q, hq, hk⟩ := pt_true h
        have := hris q hq
        omega
      clear hLk hrk hR e hxk hbk htk hris
      generalize ac k (p1, p2) (m.take j) = us at *
      generalize hU' : ac k (p1, p2) (m.take (j + 1)) = us' at *
      generalize hPn' : pt k (m.take (j + 1)) = Pn' at *
      generalize hPn : pt k (m.take j) = Pn at *
      simp only at ha hbb hc
      cases Pn with
      | true =>
        have hq := hPx rfl
        obtain ⟨e1, e2⟩ := hd rfl
        subst e2
        have n1 : (q0 != k) = true := by rw [bne_iff_ne]; omega
        have hend := Lib.hid (show us.map hrow ++ [[.int .i64 q0, .int .i64 q1, .int .i64 q2]] = us'.map hrow by rw [e1, List.map_append]; rfl)
        replace hPn' := Lib.hid hPn'
        replace hU' := Lib.hid hU'
        clear ha hbb hc hd hPx hPn hq hfw y0 y1 e1
        go_wp2_with (at_builtin; refine wpList_push elt66 rfl _ _ rfl rfl (hO.alloc _) [.int .i64 q0, .int .i64 q1, .int .i64 q2] wk.heap.size 116 rfl (heap_alloc_at _ _) rfl (by simp [Value.oneCell']) (by have := hlk.out; omega) (by rw [size_al]; omega) ?_; intro v' w1 ho' hb' hs' _ _)
        go_roundw
        case rel => exact ⟨j + 1, by omega, by go_num, by rw [hPn'.out], by rw [hU'.out, ← hend.out]; exact ho', (hb.alloc hsz _).trans hb'⟩
        case measure => first | (simp [RowKit.intOf]; done) | (simp [RowKit.intOf]; omega)
      | false =>
        rcases Int.lt_trichotomy q0 k with hq | hq | hq
        · obtain ⟨e1, e2⟩ := ha rfl hq
          subst e2
          have n1 : (q0 != k) = true := by rw [bne_iff_ne]; omega
          have n2 : ¬ k ≤ q0 := by omega
          have hend := Lib.hid (show us.map hrow ++ [[.int .i64 q0, .int .i64 q1, .int .i64 q2]] = us'.map hrow by rw [e1, List.map_append]; rfl)
          replace hPn' := Lib.hid hPn'
          replace hU' := Lib.hid hU'
          clear ha hbb hc hd hPx hPn hfw y0 y1 e1 hq
          go_wp2_with (at_builtin; refine wpList_push elt66 rfl _ _ rfl rfl (hO.alloc _) [.int .i64 q0, .int .i64 q1, .int .i64 q2] wk.heap.size 116 rfl (heap_alloc_at _ _) rfl (by simp [Value.oneCell']) (by have := hlk.out; omega) (by rw [size_al]; omega) ?_; intro v' w1 ho' hb' hs' _ _)
          go_roundw
          case rel => exact ⟨j + 1, by omega, by go_num, by rw [hPn'.out], by rw [hU'.out, ← hend.out]; exact ho', (hb.alloc hsz _).trans hb'⟩
          case measure => first | (simp [RowKit.intOf]; done) | (simp [RowKit.intOf]; omega)
        · obtain ⟨e1, e2⟩ := hbb rfl hq
          subst e2 hq
          have n1 : (q0 != q0) = false := by simp
          have n2 : q0 ≤ q0 := Int.le_refl _
          have hend := Lib.hid (show us.map hrow ++ [[.int .i64 q0, .int .i64 p1, .int .i64 p2]] = us'.map hrow by rw [e1, List.map_append]; rfl)
          replace hPn' := Lib.hid hPn'
          replace hU' := Lib.hid hU'
          clear ha hbb hc hd hPx hPn e1
          go_wp2_with (first
            | (at_builtin; refine wpList_push elt66 rfl _ _ rfl rfl (hO.alloc _) [.int .i64 q0, .int .i64 p1, .int .i64 p2] wk.heap.size 116 rfl (heap_alloc_at _ _) rfl (by simp [Value.oneCell']) (by have := hlk.out; omega) (by rw [size_al]; omega) ?_; intro v' w1 ho' hb' hs' _ _
               have hbn := (hb.alloc hsz (.cells #[.int .i64 q0, .int .i64 p1, .int .i64 p2] 116)).trans hb'
               obtain ⟨hL1, hr1, -, -⟩ := hfw.out w1 hbn
               have z3 : w1.cell? ⟨g, 3, none⟩ = some (.slice (some ⟨b, o, none⟩) m.length c) := (by rw [cell_of_row _ _ 3 _ 68 (0, 0) hr1]; rfl)
               obtain ⟨b', o', eb, -, -, z0, -, -⟩ := hL1.at_ hlt
               obtain ⟨rfl, rfl⟩ : b = b' ∧ o = o' := by simpa using eb
               rw [hqv.out] at z0
               simp only at z0))
          go_roundw
          case rel => exact ⟨j + 1, by omega, by go_num, by rw [hPn'.out], by rw [hU'.out, ← hend.out]; exact ho', (hb.alloc hsz _).trans hb'⟩
          case measure => first | (simp [RowKit.intOf]; done) | (simp [RowKit.intOf]; omega)
        · obtain ⟨e1, e2⟩ := hc rfl hq
          subst e2
          have n1 : (q0 != k) = true := by rw [bne_iff_ne]; omega
          have n2 : k ≤ q0 := by omega
          have hend := Lib.hid (show (us.map hrow ++ [[.int .i64 k, .int .i64 p1, .int .i64 p2]]) ++ [[.int .i64 q0, .int .i64 q1, .int .i64 q2]] = us'.map hrow by rw [e1, List.map_append, List.map_append]; rfl)
          have hlk2 : Hid ((us.map hrow ++ [[Value.int .i64 k, Value.int .i64 p1, Value.int .i64 p2]]).length ≤ 4098) := Lib.hid (by have := hlk.out; rw [List.length_append]; simp only [List.length_cons, List.length_nil]; omega)
          replace hPn' := Lib.hid hPn'
          replace hU' := Lib.hid hU'
          clear ha hbb hc hd hPx hPn e1 hq
          go_wp2_with (first
            | (at_builtin; refine wpList_push elt66 rfl _ _ rfl rfl (hO.alloc _) [.int .i64 k, .int .i64 p1, .int .i64 p2] wk.heap.size 116 rfl (heap_alloc_at _ _) rfl (by simp [Value.oneCell']) (by have := hlk.out; omega) (by rw [size_al]; omega) ?_; intro v' w1 ho' hb' hs' _ _
               have hbn := (hb.alloc hsz (.cells #[.int .i64 k, .int .i64 p1, .int .i64 p2] 116)).trans hb'
               obtain ⟨hL1, hr1, -, -⟩ := hfw.out w1 hbn
               have z3 : w1.cell? ⟨g, 3, none⟩ = some (.slice (some ⟨b, o, none⟩) m.length c) := (by rw [cell_of_row _ _ 3 _ 68 (0, 0) hr1]; rfl)
               obtain ⟨b', o', eb, -, -, z0, z1, z2⟩ := hL1.at_ hlt
               obtain ⟨rfl, rfl⟩ : b = b' ∧ o = o' := by simpa using eb
               rw [hqv.out] at z0 z1 z2
               simp only at z0 z1 z2
               have hsz1 := hbn.size
               rw [hw0.out] at hsz1)
            | (at_builtin; refine wpList_push elt66 rfl _ _ rfl rfl (ho'.alloc _) [.int .i64 q0, .int .i64 q1, .int .i64 q2] w1.heap.size 116 rfl (heap_alloc_at _ _) rfl (by simp [Value.oneCell']) (by have := hlk2.out; omega) (by rw [size_al]; omega) ?_; intro v2 w2 ho2 hb2 hs2 _ _))
          go_roundw
          case rel => exact ⟨j + 1, by omega, by go_num, by rw [hPn'.out], by rw [hU'.out, ← hend.out]; exact ho2, (hbn.alloc hsz1 _).trans hb2⟩
          case measure => first | (simp [RowKit.intOf]; done) | (simp [RowKit.intOf]; omega)
end Go.Proofs.Ytbbjnhajmckjoaa
