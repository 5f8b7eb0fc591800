/- Points: the reference's Change, walked. -/
import Derived.Test.YthmdhmknadhjeaaChange
import Derived.Deep.Cut
namespace Go.Proofs.Ythmdhmknadhjeaa
open Go.RowKit Go.BigFrame

/-- the voltage behind k small steps -/
def lev (a b y : Int) (n k : Nat) : Int := if k = 0 then a else volt a b y n k
theorem lev_lt {a b y : Int} {k : Nat} (hy : 1 ≤ y) (hk : lev a b y (nst a b y) k ≠ b) (hkn : k ≤ nst a b y) : k < nst a b y := by
  rcases Nat.lt_or_ge k (nst a b y) with h | h
  · exact h
  · obtain rfl : k = nst a b y := by omega
    exfalso
    apply hk
    unfold lev volt
    split
    · rename_i h0
      have : gap a b = 0 := by
        unfold nst at h0
        have h1 : gap a b % y = 0 := by
          by_cases hm : gap a b % y = 0
          · exact hm
          · rw [if_neg hm] at h0; omega
        rw [if_pos h1] at h0
        have h2 : 0 ≤ gap a b := by unfold gap; split <;> omega
        have h3 : gap a b / y = 0 := by
          have := Int.ediv_nonneg h2 (show 0 ≤ y by omega)
          omega
        have h4 := Int.mul_ediv_add_emod (gap a b) y
        rw [h3, h1] at h4
        omega
      unfold gap at this
      split at this <;> omega
    · rw [if_pos rfl]
/-- one step: by 'y', or to the end -/
theorem lev_step {a b y : Int} {k : Nat} (hy : 1 ≤ y) (hk : k < nst a b y) :
    (lev a b y (nst a b y) k ≠ b) ∧ (a < b → lev a b y (nst a b y) k < b ∧ lev a b y (nst a b y) (k + 1) = lev a b y (nst a b y) k + min y (b - lev a b y (nst a b y) k)) ∧
      (¬ a < b → b < lev a b y (nst a b y) k ∧ lev a b y (nst a b y) (k + 1) = lev a b y (nst a b y) k - min y (lev a b y (nst a b y) k - b)) := by
  have h2 : 0 ≤ gap a b := by unfold gap; split <;> omega
  have hq := Int.ediv_nonneg h2 (show 0 ≤ y by omega)
  have hm0 := Int.emod_nonneg (gap a b) (show y ≠ 0 by omega)
  have hm1 := Int.emod_lt_of_pos (gap a b) (show 0 < y by omega)
  have h4 := Int.mul_ediv_add_emod (gap a b) y
  -- k * y < gap, gap ≤ n * y, and gap - k*y ≤ y iff k + 1 = n
  have hk1 : (k : Int) * y < gap a b := by
    unfold nst at hk
    by_cases hm : gap a b % y = 0
    · rw [if_pos hm] at hk
      have : (k : Int) + 1 ≤ gap a b / y := by omega
      have h5 : ((k : Int) + 1) * y ≤ gap a b / y * y := Int.mul_le_mul_of_nonneg_right this (by omega)
      rw [Int.add_mul, Int.mul_comm (gap a b / y) y] at h5
      omega
    · rw [if_neg hm] at hk
      have : (k : Int) ≤ gap a b / y := by omega
      have h5 : (k : Int) * y ≤ gap a b / y * y := Int.mul_le_mul_of_nonneg_right this (by omega)
      rw [Int.mul_comm (gap a b / y) y] at h5
      omega
  have hlast : k + 1 = nst a b y → gap a b - k * y ≤ y := by
    intro h
    unfold nst at h
    by_cases hm : gap a b % y = 0
    · rw [if_pos hm] at h
      have h6 : gap a b / y = (k : Int) + 1 := by omega
      rw [h6, Int.mul_add, Int.mul_comm y (k : Int)] at h4
      omega
    · rw [if_neg hm] at h
      have h6 : gap a b / y = (k : Int) := by omega
      rw [h6, Int.mul_comm y (k : Int)] at h4
      omega
  have hmid : ¬ k + 1 = nst a b y → y < gap a b - k * y := by
    intro h
    have hlt : k + 1 < nst a b y := by omega
    unfold nst at hlt
    by_cases hm : gap a b % y = 0
    · rw [if_pos hm] at hlt
      have : (k : Int) + 2 ≤ gap a b / y := by omega
      have h5 : ((k : Int) + 2) * y ≤ gap a b / y * y := Int.mul_le_mul_of_nonneg_right this (by omega)
      rw [Int.add_mul, Int.mul_comm (gap a b / y) y] at h5
      omega
    · rw [if_neg hm] at hlt
      have : (k : Int) + 1 ≤ gap a b / y := by omega
      have h5 : ((k : Int) + 1) * y ≤ gap a b / y * y := Int.mul_le_mul_of_nonneg_right this (by omega)
      rw [Int.add_mul, Int.mul_comm (gap a b / y) y] at h5
      omega
  have hlev : lev a b y (nst a b y) k = if a < b then a + k * y else a - k * y := by
    unfold lev volt
    by_cases h0 : k = 0
    · subst h0; rw [if_pos rfl]; simp
    · rw [if_neg h0, if_neg (by omega)]
  have hlev1 : lev a b y (nst a b y) (k + 1) = if k + 1 = nst a b y then b else if a < b then a + k * y + y else a - k * y - y := by
    unfold lev volt
    rw [if_neg (by omega)]
    have : ((k + 1 : Nat) : Int) * y = k * y + y := by rw [Int.natCast_add, Int.add_mul]; simp
    rw [this]
    congr 2
    · omega
    · omega
  rw [hlev, hlev1]
  generalize (k : Int) * y = z at *
  unfold gap at hk1 hlast hmid
  refine ⟨?_, fun h => ?_, fun h => ?_⟩
  · split <;> (rename_i h; first | rw [if_pos h] at hk1 | rw [if_neg h] at hk1) <;> omega
  · rw [if_pos h] at hk1 hlast hmid
    rw [if_pos h, if_pos h]
    refine ⟨by omega, ?_⟩
    by_cases hl : k + 1 = nst a b y
    · rw [if_pos hl, Int.min_eq_right (by have := hlast hl; omega)]; omega
    · rw [if_neg hl, Int.min_eq_left (by have := hmid hl; omega)]
  · rw [if_neg h] at hk1 hlast hmid
    rw [if_neg h, if_neg h]
    refine ⟨by omega, ?_⟩
    by_cases hl : k + 1 = nst a b y
    · rw [if_pos hl, Int.min_eq_right (by have := hlast hl; omega)]; omega
    · rw [if_neg hl, Int.min_eq_left (by have := hmid hl; omega)]

theorem lev_range {a b y : Int} (hy : 1 ≤ y) : ∀ k, k ≤ nst a b y → (a < b → a ≤ lev a b y (nst a b y) k ∧ lev a b y (nst a b y) k ≤ b) ∧ (¬ a < b → b ≤ lev a b y (nst a b y) k ∧ lev a b y (nst a b y) k ≤ a)
  | 0, _ => ⟨fun h => ⟨Int.le_refl _, by show a ≤ b; omega⟩, fun h => ⟨by show b ≤ a; omega, Int.le_refl _⟩⟩
  | k + 1, hk => by
    have ih := lev_range (a := a) (b := b) hy k (Nat.le_of_succ_le hk)
    have st := lev_step (a := a) (b := b) (k := k) hy (Nat.lt_of_succ_le hk)
    refine ⟨fun h => ?_, fun h => ?_⟩
    · have := ih.1 h
      have := st.2.1 h
      omega
    · have := ih.2 h
      have := st.2.2 h
      omega

theorem gap_dec {x z b : Int} (h : (x < z ∧ z ≤ b) ∨ (b ≤ z ∧ z < x)) : (gap z b).toNat < (gap x b).toNat := by
  unfold gap; split <;> split <;> omega
/-- how the list stands in the midst of the reference's Change -/
structure Sr (wR : World) (R : Nat) (xs : List Pt) (u : Value) (wx : World) : Prop where
  o : Own wx (R + 1) 81 2 (xs.map srow) u
  g : Below (R + 1) wR wx
  s : R + 1 ≤ wx.heap.size
theorem Sr.row {wR wx : World} {R : Nat} {xs : List Pt} {u x y : Value} (h : Sr wR R xs u wx) (hR : wR.heap[R]? = some (.cells #[x, y] 81)) : wx.heap[R]? = some (.cells #[x, y] 81) :=
  (h.g.block R (Nat.lt_succ_self R)).trans hR
theorem Sr.push {wR wx w1 : World} {R : Nat} {xs : List Pt} {u v' : Value} {s t : Int} (h : Sr wR R xs u wx) (o : Obj) (ho : Own w1 (R + 1) 81 2 (xs.map srow ++ [[.int .u8 s, .int .i64 t]]) v') (hb : Below (R + 1) (wx.alloc o) w1) (hs : (wx.alloc o).heap.size ≤ w1.heap.size) : Sr wR R (xs ++ [(s, t)]) v' w1 :=
  ⟨by rw [List.map_append]; exact ho, (h.g.trans ((Below.refl _ wx).alloc h.s o)).trans hb, by rw [size_al] at hs; have := h.s; omega⟩
theorem Sr.len {wR wx : World} {R : Nat} {xs : List Pt} {u : Value} (h : Sr wR R xs u wx) : ∃ A n c, n = xs.length ∧ u = .slice A n c := by
  obtain ⟨A, c, e, _⟩ := h.o.sl
  exact ⟨A, _, c, List.length_map _, e⟩

set_option maxHeartbeats 8000000 in
set_option maxRecDepth 100000 in
theorem rchange_any (l : List Pt) (A : Option Addr) (c : Nat) (i j y : Int) (w : World) (h : Pts w A l) :
    Calls Try.prog 19 #[.slice A l.length c, .int .i64 i, .int .i64 j, .int .i64 y] w fun e w' => ∃ v, e = .returned (.tuple #[v, .int .i64 (chg l i j y).2]) ∧ Own w' w.heap.size 81 2 ((chg l i j y).1.map srow) v ∧ Below w.heap.size w w' := by
  have hlen := h.le
  by_cases hc : (check l).2 = 0
  case neg =>
    have e := Lib.hid (chg_none (i := i) (j := j) (y := y) hc)
    have ht : tab l = false := decide_eq_false hc
    have M := may_any l A c
    rw [ht] at M
    go_enter Try.func19, Try.ntmps19
    go_wp2_with fail
    refine (M _ h).mono ?_
    rintro e w1 ⟨rfl, hb⟩
    go_wp2
    go_ret2
    exact ⟨_, fin_chg e.out, own_chg e.out (Own.nil _ _ _ _), hb⟩
  have ht : tab l = true := decide_eq_true hc
  have M := may_any l A c
  rw [ht] at M
  by_cases hP : badArg l i j y
  case pos =>
    have e := Lib.hid (chg_arg hc hP)
    unfold badArg at hP
    have fin : ∀ w1, Below w.heap.size w w1 → ∃ v, Ending.returned (.tuple #[.slice none 0 0, .int .i64 1]) = .returned (.tuple #[v, .int .i64 (chg l i j y).2]) ∧ Own w1 w.heap.size 81 2 ((chg l i j y).1.map srow) v ∧ Below w.heap.size w w1 :=
      fun w1 hb => ⟨_, fin_chg e.out, own_chg e.out (Own.nil _ _ _ _), hb⟩
    have fin := Lib.hid fin
    go_enter Try.func19, Try.ntmps19
    go_wp2_with fail
    refine (M _ h).mono ?_
    rintro e w1 ⟨rfl, hb⟩
    by_cases q1 : i < 0
    · clear hP
      go_wp2
      go_ret2
      exact fin.out w1 hb
    by_cases q2 : (l.length : Int) ≤ i
    · clear hP
      go_wp2
      go_ret2
      exact fin.out w1 hb
    by_cases q3 : j < 0
    · clear hP
      go_wp2
      go_ret2
      exact fin.out w1 hb
    by_cases q4 : (l.length : Int) ≤ j
    · clear hP
      go_wp2
      go_ret2
      exact fin.out w1 hb
    have q5 : y < 1 := by omega
    clear hP
    go_wp2
    go_ret2
    exact fin.out w1 hb
  obtain ⟨f, t, a1, a2, b1, b2, rfl, rfl, S, ei, ej⟩ := step_of hc hP
  have hP := Lib.hid hP
  obtain ⟨b, o, rfl, _, _⟩ := h.at_ S.hi
  have hcell : Hid (∀ w1, Below w.heap.size w w1 → w1.cell? ⟨b, o + f * 2, none⟩ = some (.int .i64 a1) ∧ w1.cell? ⟨b, o + f * 2 + 1, none⟩ = some (.int .i64 a2) ∧ w1.cell? ⟨b, o + t * 2, none⟩ = some (.int .i64 b1) ∧ w1.cell? ⟨b, o + t * 2 + 1, none⟩ = some (.int .i64 b2) ∧ b < w1.heap.size) := Lib.hid (by
    intro w1 hb
    obtain ⟨b', o', e', hl, c1, c2⟩ := (h.below hb).at_ S.hi
    cases e'
    obtain ⟨b', o', e', _, c3, c4⟩ := (h.below hb).at_ S.hj
    cases e'
    have ea := S.ea
    have eb := S.eb
    rw [List.getElem?_eq_getElem S.hi] at ea
    rw [List.getElem?_eq_getElem S.hj] at eb
    rw [Option.some.inj ea] at c1 c2
    rw [Option.some.inj eb] at c3 c4
    exact ⟨c1, c2, c3, c4, hl⟩)
  have hi := S.hi
  have hj := S.hj
  have ry := S.ry
  have hra := S.ra2
  have hrb := S.rb2
  go_enter Try.func19, Try.ntmps19
  go_wp2_with fail
  refine (M _ h).mono ?_
  rintro e w1 ⟨rfl, hb⟩
  obtain ⟨c1, c2, c3, c4, hl⟩ := hcell.out w1 hb
  clear M ht hcell
  by_cases hij : f = t
  · subst hij
    have e := Lib.hid (chg_same hc hP.out)
    go_wp2
    go_ret2
    exact ⟨_, fin_chg e.out, own_chg e.out (Own.nil _ _ _ _), hb⟩
  have hij' : (f : Int) ≠ t := by omega
  have hmany := Lib.hid (fun (hN : 4096 < nst a2 b2 y + 1) => chg_many hc hP.out hij' (y := y) (by rw [ei, ej]; exact hN))
  have hturn := Lib.hid (fun (hN : ¬ 4096 < nst a2 b2 y + 1) => (chg_turn hc hP.out hij' (y := y) (by rw [ei, ej]; exact hN)).trans (show _ = ((if (t : Int) < f then [(2, b1)] else []) ++ volts a2 b2 y (nst a2 b2 y) (nst a2 b2 y) ++ (if (f : Int) < t then [(2, b1)] else []), 0) by
    rw [ei, ej]; unfold turn; rw [ei, ej]))
  have hS := Lib.hid S
  clear hc ei ej hP
  obtain ⟨R, hR⟩ : ∃ R, R = w1.heap.size := ⟨_, rfl⟩
  have S0 : Sr (w1.alloc (.cells #[.int .u8 2, .int .i64 b1] 81)) R [] (.slice none 0 0) (w1.alloc (.cells #[.int .u8 2, .int .i64 b1] 81)) := ⟨Own.nil _ _ _ _, Below.refl _ _, by rw [size_al]; omega⟩
  have hRr : (w1.alloc (.cells #[.int .u8 2, .int .i64 b1] 81)).heap[R]? = some (.cells #[.int .u8 2, .int .i64 b1] 81) := heap_alloc_at' _ _ _ hR
  have hRH := Lib.hid hRr
  clear hRr
  go_upto_if 60 with fail
  rw [← hR]
  generalize hwR : w1.alloc (.cells #[.int .u8 2, .int .i64 b1] 81) = wR at *
  have hbR : Below w.heap.size w wR := hwR ▸ below_al hb _
  have hRw : w.heap.size ≤ R := hR ▸ hb.size
  clear c1 c2 c3 c4 hb hl hR hwR
  go_cut [13] from 14 (fun s13 wx => Sr wR R (if (t : Int) < f then [(2, b1)] else []) s13 wx)
  case first =>
    by_cases q : (t : Int) < f
    · have hRr := S0.row hRH.out
      obtain ⟨c1, c2⟩ := cell_two hRr
      go_wp2_with (at_builtin; refine wpList_push elt42 rfl _ _ rfl rfl (S0.o.alloc _) [.int .u8 2, .int .i64 b1] wR.heap.size 81 rfl (heap_alloc_at _ _) rfl (by simp [Value.oneCell']) (by decide) (by rw [size_al]; have := S0.s; omega) ?_; intro v' w2 ho' hb' hs' _ _)
      go_meet
      case rel => rw [if_pos q]; exact S0.push _ ho' hb' hs'
    · go_wp2
      go_meet
      case rel => rw [if_neg (by omega)]; exact S0
  case rest =>
    clear S0
    have hpre : Hid (((if (t : Int) < f then [((2 : Int), b1)] else [])).length = (if (t : Int) < f then 1 else 0)) := Lib.hid (by split <;> simp)
    generalize (if (t : Int) < f then [((2 : Int), b1)] else []) = pre at *
    have hlt0 : Hid (∀ k, lev a2 b2 y (nst a2 b2 y) k ≠ b2 → k ≤ nst a2 b2 y → k < nst a2 b2 y) := Lib.hid fun k h1 h2 => lev_lt ry h1 h2
    have hst0 := Lib.hid (fun k hk => lev_step (a := a2) (b := b2) (k := k) ry hk)
    have hvn := Lib.hid (show lev a2 b2 y (nst a2 b2 y) 0 = a2 from rfl)
    have hend : Hid (lev a2 b2 y (nst a2 b2 y) (nst a2 b2 y) = b2) := Lib.hid (by
      by_cases e : lev a2 b2 y (nst a2 b2 y) (nst a2 b2 y) = b2
      · exact e
      · exact absurd (lev_lt ry e (Nat.le_refl _)) (Nat.lt_irrefl _))
    have hlv : Hid (∀ k, lev a2 b2 y (nst a2 b2 y) (k + 1) = volt a2 b2 y (nst a2 b2 y) (k + 1)) := Lib.hid fun k => by unfold lev; rw [if_neg (by omega)]
    have hrg0 := Lib.hid (fun k hk => lev_range (a := a2) (b := b2) ry k hk)
    generalize nst a2 b2 y = n at *
    go_wp2
    go_loopw [10, 13] (fun v u wr => ∃ k : Nat, k ≤ n ∧ pre.length + k ≤ 4096 ∧ v = .int .i64 (lev a2 b2 y n k) ∧ Sr wR R (pre ++ volts a2 b2 y n k) u wr) (fun v _ _ => (gap (intOf v) b2).toNat)
    case atStart => exact ⟨0, by omega, by have := hpre.out; split at this <;> omega, by rw [hvn.out], by simpa [volts] using hcut⟩
    case round =>
      obtain ⟨k, hk, hk2, rfl, hS⟩ := hrel
      obtain ⟨U, nn, uc, hnn, rfl⟩ := hS.len
      have hnnH := Lib.hid hnn
      rw [List.length_append, volts_length] at hnn
      have hnnP := Lib.hid hnn
      have hnn64 : nn ≤ 4096 := by omega
      clear hnn
      have hRr := hS.row hRH.out
      obtain ⟨r1, r2⟩ := cell_two hRr
      have hpl := hpre.out
      have hbelow : Below w.heap.size w wr := hbR.trans (hS.g.mono (by omega))
      by_cases hkn : k = n
      · subst hkn
        rw [hend.out]
        by_cases q : (f : Int) < t
        · have hp0 : pre.length = 0 := by rw [hpl, if_neg (by omega)]
          by_cases hN : 4096 < k + 1
          · have e := Lib.hid (hmany.out hN)
            clear hpl
            go_wp2_with (at_builtin; refine wpList_push elt42 rfl _ _ rfl rfl (hS.o.alloc _) [.int .u8 2, .int .i64 b1] wr.heap.size 81 rfl (heap_alloc_at _ _) rfl (by simp [Value.oneCell']) (by rw [List.length_map, ← hnnH.out]; omega) (by rw [size_al]; have := hS.s; omega) ?_; intro v' w2 ho' hb' hs' _ _; have S2 := hS.push _ ho' hb' hs'; obtain ⟨V, vn, vc, hvn', rfl⟩ := S2.len; rw [List.length_append, ← hnnH.out, List.length_singleton] at hvn'; have hvl : 4096 < vn := (by have := hnnP.out; omega); clear hvn')
            go_ret2
            exact ⟨_, fin_chg e.out, own_chg e.out (Own.nil _ _ _ _), hbR.trans (S2.g.mono (by omega))⟩
          · have e := Lib.hid ((hturn.out hN).trans (by rw [if_pos q]))
            clear hpl
            go_wp2_with (at_builtin; refine wpList_push elt42 rfl _ _ rfl rfl (hS.o.alloc _) [.int .u8 2, .int .i64 b1] wr.heap.size 81 rfl (heap_alloc_at _ _) rfl (by simp [Value.oneCell']) (by rw [List.length_map, ← hnnH.out]; omega) (by rw [size_al]; have := hS.s; omega) ?_; intro v' w2 ho' hb' hs' _ _; have S2 := hS.push _ ho' hb' hs'; obtain ⟨V, vn, vc, hvn', rfl⟩ := S2.len; rw [List.length_append, ← hnnH.out, List.length_singleton] at hvn'; have hvl : vn ≤ 4096 := (by have := hnnP.out; omega); clear hvn')
            go_ret2
            exact ⟨_, fin_chg e.out, own_chg e.out (S2.o.mono (show w.heap.size ≤ R + 1 by omega)), hbR.trans (S2.g.mono (by omega))⟩
        · have hp0 : pre.length = 1 := by rw [hpl, if_pos (by omega)]
          have e := Lib.hid ((hturn.out (by omega)).trans (by rw [if_neg q, List.append_nil]))
          clear hpl
          go_wp2
          go_ret2
          exact ⟨_, fin_chg e.out, own_chg e.out (hS.o.mono (show w.heap.size ≤ R + 1 by omega)), hbelow⟩
      have hkn : k < n := by omega
      have hst := hst0.out k hkn
      have hrg := hrg0.out k hk
      obtain ⟨x, hx⟩ : ∃ x, lev a2 b2 y n k = x := ⟨_, rfl⟩
      rw [hx] at hst hrg
      rw [hx]
      by_cases hfull : 4096 ≤ nn
      · have e := Lib.hid (hmany.out (by have := hnnP.out; split at hpl <;> omega))
        have hne := hst.1
        clear hst hrg hpl
        go_wp2
        go_ret2
        exact ⟨_, fin_chg e.out, own_chg e.out (Own.nil _ _ _ _), hbelow⟩
      clear hpl
      have hne := hst.1
      by_cases hab : a2 < b2
      · have hst := hst.2.1 hab
        have hrg := hrg.1 hab
        rcases Int.lt_trichotomy y (b2 - x) with hy | hy | hy
        · rw [Int.min_eq_left (by omega)] at hst
          have hx' := Lib.hid (show lev a2 b2 y n (k + 1) = x + y by omega)
          have hxb := hst.1
          clear hst hrg
          go_wp2_with (at_builtin; refine wpList_push elt42 rfl _ _ rfl rfl (hS.o.alloc _) [.int .u8 1, .int .i64 (x + y)] wr.heap.size 81 rfl (heap_alloc_at _ _) rfl (by simp [Value.oneCell']) (by rw [List.length_map, ← hnnH.out]; omega) (by rw [size_al]; have := hS.s; omega) ?_; intro v' w2 ho' hb' hs' _ _)
          go_roundw
          case rel =>
            refine ⟨k + 1, by omega, by have := hnnP.out; omega, by rw [hx'.out], ?_⟩
            have hp := hS.push _ ho' hb' hs'
            rw [volts_succ, ← hlv.out, hx'.out, ← List.append_assoc]
            exact hp
          case measure => simp only [intOf]; exact gap_dec (by omega)
        · rw [Int.min_eq_left (by omega)] at hst
          subst hy
          have hx' := Lib.hid (show lev a2 b2 (b2 - x) n (k + 1) = x + (b2 - x) by omega)
          have hxb := hst.1
          clear hst hrg
          go_wp2_with (at_builtin; refine wpList_push elt42 rfl _ _ rfl rfl (hS.o.alloc _) [.int .u8 1, .int .i64 (x + (b2 - x))] wr.heap.size 81 rfl (heap_alloc_at _ _) rfl (by simp [Value.oneCell']) (by rw [List.length_map, ← hnnH.out]; omega) (by rw [size_al]; have := hS.s; omega) ?_; intro v' w2 ho' hb' hs' _ _)
          go_roundw
          case rel =>
            refine ⟨k + 1, by omega, by have := hnnP.out; omega, by rw [hx'.out], ?_⟩
            have hp := hS.push _ ho' hb' hs'
            rw [volts_succ, ← hlv.out, hx'.out, ← List.append_assoc]
            exact hp
          case measure => simp only [intOf]; exact gap_dec (by omega)
        · rw [Int.min_eq_right (by omega)] at hst
          have hx' := Lib.hid (show lev a2 b2 y n (k + 1) = x + (b2 - x) by omega)
          have hxb := hst.1
          clear hst hrg
          go_wp2_with (at_builtin; refine wpList_push elt42 rfl _ _ rfl rfl (hS.o.alloc _) [.int .u8 1, .int .i64 (x + (b2 - x))] wr.heap.size 81 rfl (heap_alloc_at _ _) rfl (by simp [Value.oneCell']) (by rw [List.length_map, ← hnnH.out]; omega) (by rw [size_al]; have := hS.s; omega) ?_; intro v' w2 ho' hb' hs' _ _)
          go_roundw
          case rel =>
            refine ⟨k + 1, by omega, by have := hnnP.out; omega, by rw [hx'.out], ?_⟩
            have hp := hS.push _ ho' hb' hs'
            rw [volts_succ, ← hlv.out, hx'.out, ← List.append_assoc]
            exact hp
          case measure => simp only [intOf]; exact gap_dec (by omega)
      · have hst := hst.2.2 (by omega)
        have hrg := hrg.2 (by omega)
        rcases Int.lt_trichotomy y (x - b2) with hy | hy | hy
        · rw [Int.min_eq_left (by omega)] at hst
          have hx' := Lib.hid (show lev a2 b2 y n (k + 1) = x - y by omega)
          have hxb := hst.1
          clear hst hrg
          go_wp2_with (at_builtin; refine wpList_push elt42 rfl _ _ rfl rfl (hS.o.alloc _) [.int .u8 1, .int .i64 (x - y)] wr.heap.size 81 rfl (heap_alloc_at _ _) rfl (by simp [Value.oneCell']) (by rw [List.length_map, ← hnnH.out]; omega) (by rw [size_al]; have := hS.s; omega) ?_; intro v' w2 ho' hb' hs' _ _)
          go_roundw
          case rel =>
            refine ⟨k + 1, by omega, by have := hnnP.out; omega, by rw [hx'.out], ?_⟩
            have hp := hS.push _ ho' hb' hs'
            rw [volts_succ, ← hlv.out, hx'.out, ← List.append_assoc]
            exact hp
          case measure => simp only [intOf]; exact gap_dec (by omega)
        · rw [Int.min_eq_left (by omega)] at hst
          subst hy
          have hx' := Lib.hid (show lev a2 b2 (x - b2) n (k + 1) = x - (x - b2) by omega)
          have hxb := hst.1
          clear hst hrg
          go_wp2_with (at_builtin; refine wpList_push elt42 rfl _ _ rfl rfl (hS.o.alloc _) [.int .u8 1, .int .i64 (x - (x - b2))] wr.heap.size 81 rfl (heap_alloc_at _ _) rfl (by simp [Value.oneCell']) (by rw [List.length_map, ← hnnH.out]; omega) (by rw [size_al]; have := hS.s; omega) ?_; intro v' w2 ho' hb' hs' _ _)
          go_roundw
          case rel =>
            refine ⟨k + 1, by omega, by have := hnnP.out; omega, by rw [hx'.out], ?_⟩
            have hp := hS.push _ ho' hb' hs'
            rw [volts_succ, ← hlv.out, hx'.out, ← List.append_assoc]
            exact hp
          case measure => simp only [intOf]; exact gap_dec (by omega)
        · rw [Int.min_eq_right (by omega)] at hst
          have hx' := Lib.hid (show lev a2 b2 y n (k + 1) = x - (x - b2) by omega)
          have hxb := hst.1
          clear hst hrg
          go_wp2_with (at_builtin; refine wpList_push elt42 rfl _ _ rfl rfl (hS.o.alloc _) [.int .u8 1, .int .i64 (x - (x - b2))] wr.heap.size 81 rfl (heap_alloc_at _ _) rfl (by simp [Value.oneCell']) (by rw [List.length_map, ← hnnH.out]; omega) (by rw [size_al]; have := hS.s; omega) ?_; intro v' w2 ho' hb' hs' _ _)
          go_roundw
          case rel =>
            refine ⟨k + 1, by omega, by have := hnnP.out; omega, by rw [hx'.out], ?_⟩
            have hp := hS.push _ ho' hb' hs'
            rw [volts_succ, ← hlv.out, hx'.out, ← List.append_assoc]
            exact hp
          case measure => simp only [intOf]; exact gap_dec (by omega)
end Go.Proofs.Ythmdhmknadhjeaa
