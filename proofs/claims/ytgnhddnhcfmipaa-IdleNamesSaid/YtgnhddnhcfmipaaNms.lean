/- IdleNames, walked. -/
import Derived.Test.YtgnhddnhcfmipaaNil
namespace Go.Proofs.Ytgnhddnhcfmipaa
open Go.RowKit Go.BigFrame

/-- a word, a device, behind so many Gets -/
def wv (k : Nat) : VW := if k = 0 then ⟨0, false, 0, 0⟩ else ⟨k, true, 0, 1⟩
def dd (k : Nat) : Dv := if k = 0 then ⟨-1, 0, 0, 0, false, 0⟩ else ⟨-1, 0, k, 0, true, 0⟩
theorem wv_ok {k : Nat} (h : k ≤ 65535) : (wv k).ok := by
  unfold wv
  split
  · exact ⟨by decide, by decide, by decide, by decide, by decide, by decide⟩
  · exact ⟨by simp, by simp; omega, by simp, by simp, by simp, by simp⟩
theorem wv_num0 : (wv 0).num = 0 := by decide +kernel
theorem isTick0 : isTick 0 = true := by decide
theorem wv_get {k : Nat} (h : k < 65535) : wants 1 0 0 (wv k) = (wv (k + 1), 0) := by
  unfold wants
  rw [if_pos isTick0]
  unfold act wv
  rw [if_pos rfl, if_neg (show ¬ k + 1 = 0 by omega)]
  by_cases e : k = 0
  · subst e; rfl
  · rw [if_neg e]
    rw [if_neg (show ¬ ((⟨k, true, 0, 1⟩ : VW).u = 65535) by show ¬ ((k : Int) = 65535); omega)]
    simp
theorem wv_full : wants 1 0 0 (wv 65535) = (wv 65535, 3) := by decide +kernel
theorem wv_put : wants 2 0 0 (wv 65535) = (⟨65534, true, 0, 1⟩, 0) := by decide +kernel
theorem wv_again : wants 1 0 0 ⟨65534, true, 0, 1⟩ = (⟨65535, true, 0, 1⟩, 0) := by decide +kernel
theorem inb0 (x : Dv) : inb [x] 0 := ⟨by decide, by simp⟩
theorem dd_par (k : Nat) : Par [dd k] := fun i x hx => by
  match i, hx with
  | 0, hx => cases hx; unfold dd; split <;> simp
  | i + 1, hx => simp at hx
theorem dd_get {k : Nat} (h : k < 65535) : (getd [dd k] 0 0).1 = [dd (k + 1)] ∧ (getd [dd k] 0 0).2.2 = 0 := by
  have hw : wrap64 ((dd k).t + 1) = (k : Int) + 1 := by
    have : (dd k).t = k := by unfold dd; split <;> simp_all
    rw [this]
    unfold wrap64; omega
  have ht : ¬ (dd k).t = 65535 := by
    have : (dd k).t = k := by unfold dd; split <;> simp_all
    omega
  unfold getd
  rw [if_pos (inb0 _)]
  simp only [Int.toNat_zero, List.getD_cons_zero]
  rw [if_neg ht, hw]
  refine ⟨?_, rfl⟩
  unfold wk
  simp only [List.set_cons_zero, List.getD_cons_zero]
  unfold dd
  rw [if_neg (show ¬ k + 1 = 0 by omega)]
  by_cases e : k = 0
  · subst e; rfl
  · rw [if_neg e]
    simp
theorem dd_full : getd [dd 65535] 0 0 = ([dd 65535], [], 3) := by
  have ht : (dd 65535).t = 65535 := rfl
  unfold getd
  rw [if_pos (inb0 _)]
  simp only [Int.toNat_zero, List.getD_cons_zero]
  rw [if_pos ht]
theorem dd_uses : usesAt [dd 65535] 0 = 65535 := by
  unfold usesAt
  rw [if_pos (inb0 _)]
  decide +kernel
theorem new0 (W : World) : Calls Try.prog 11 #[.int .i64 0] W fun e w' => e = .returned (.tuple #[.pointer (some ⟨W.heap.size, 0, none⟩), .int .i64 0]) ∧ w' = W.alloc (.cells #[.int .i64 0, .int .u64 0] 100) :=
  (new_any 0 W).mono fun e w' h => by
    rcases h with ⟨h, _⟩ | ⟨_, h1, h2⟩
    · rw [isTick0] at h; cases h
    · exact ⟨h1, h2⟩
theorem ints_one (W : World) (g : Nat) (a : Int) (t : TypeId) (h : W.heap[g]? = some (.cells #[.int .i64 a] t)) : Ints W (some ⟨g, 0, none⟩) [a] := by
  refine ⟨by simp, fun r hr => ?_, fun _ => ⟨g, 0, rfl, trivial, heap_lt h, fun i r hr f u hu => ?_⟩⟩
  · obtain ⟨q, _, rfl⟩ := List.mem_map.1 hr; rfl
  · match i, hr with
    | 0, hr => cases hr; match f, hu with
      | 0, hu => cases hu; exact cell_of_row _ _ 0 _ t (0, 0) h
      | f + 1, hu => simp [irow] at hu
    | i + 1, hr => simp at hr
theorem open0 (W : World) : Calls Try.prog 25 #[.slice (some ⟨W.heap.size, 0, none⟩) 1 1, .slice (some ⟨W.heap.size + 1, 0, none⟩) 1 1] ((W.alloc (.cells #[.int .i64 (-1)] 3)).alloc (.cells #[.int .i64 0] 3)) fun e w' => ∃ v, e = .returned (.tuple #[.pointer (some ⟨W.heap.size + 2, 0, none⟩), .int .i64 0]) ∧ Bp w' (W.heap.size + 2) (W.heap.size + 2) v [dd 0] 0 ∧ Below W.heap.size W w' := by
  have h1 : ((W.alloc (.cells #[.int .i64 (-1)] 3)).alloc (.cells #[.int .i64 0] 3)).heap[W.heap.size]? = some (.cells #[.int .i64 (-1)] 3) := (Below.heap_alloc _ _ _ (by rw [size_al]; omega)).trans (heap_alloc_at _ _)
  have h2 : ((W.alloc (.cells #[.int .i64 (-1)] 3)).alloc (.cells #[.int .i64 0] 3)).heap[W.heap.size + 1]? = some (.cells #[.int .i64 0] 3) := heap_alloc_at' _ _ _ (by rw [size_al])
  have hs : ((W.alloc (.cells #[.int .i64 (-1)] 3)).alloc (.cells #[.int .i64 0] 3)).heap.size = W.heap.size + 2 := by rw [size_al, size_al]
  have hb : Below W.heap.size W ((W.alloc (.cells #[.int .i64 (-1)] 3)).alloc (.cells #[.int .i64 0] 3)) := below_al (below_al (Below.refl _ _) _) _
  have K := open_any [-1] [0] 1 _ _ 1 1 _ (ints_one _ _ _ 3 h1) (ints_one _ _ _ 3 h2) rfl rfl (by decide)
  have hok : openOk [-1] [0] := ⟨rfl, by decide, fun i hi => by
    obtain rfl : i = 0 := by simpa using hi
    exact ⟨by decide, by decide, by decide, by decide⟩⟩
  rw [hs] at K
  refine K.mono fun e w' h => ?_
  obtain ⟨q, ⟨_, v, he, hB⟩ | ⟨hn, _⟩⟩ := h
  · exact ⟨v, he, hB, hb.trans (q.mono (by omega))⟩
  · exact absurd hok hn
/-- the word at gw, the book at bb, behind so many Gets -/
structure Duo (w W : World) (gw bb : Nat) (v : Value) (x : VW) (d : Dv) : Prop where
  lo : w.heap.size ≤ gw
  lt : gw < bb
  word : W.heap[gw]? = some (.cells #[.int .i64 0, .int .u64 x.num] 100)
  book : Bp W bb bb v [d] 0
  b : Below w.heap.size w W
theorem Duo.fr {w W W' : World} {gw bb : Nat} {v : Value} {x : VW} {d d' : Dv} (h : Duo w W gw bb v x d) (hB : Bp W' bb bb v [d'] 0) (hF : Fr W.heap.size (fun b => v.ownBlock = some b) W W') : Duo w W' gw bb v x d' := by
  refine ⟨h.lo, h.lt, (hF.k gw (heap_lt h.word) (fun e => by have := (h.book.own.lt gw e).1; have := h.lt; omega)).trans h.word, hB, h.b.trans (hF.below h.b.size (fun b hb => by have := (h.book.own.lt b hb).1; have := h.lt; have := h.lo; omega))⟩
theorem Duo.set {w W W' : World} {gw bb : Nat} {v : Value} {x y : VW} {d : Dv} (h : Duo w W gw bb v x d) (hb : Below W.heap.size (W.setCell ⟨gw, 1, none⟩ (.int .u64 y.num)) W') : Duo w W' gw bb v y d := by
  have hlt := h.lt
  have hlo := h.lo
  have hs := size_set W ⟨gw, 1, none⟩ (.int .u64 y.num)
  have hk : ∀ b, b < W.heap.size → b ≠ gw → W'.heap[b]? = W.heap[b]? := fun b q1 q2 => (hb.block b q1).trans (Below.heap_setCell W _ _ b q2)
  refine ⟨hlo, hlt, (hb.block gw (heap_lt h.word)).trans (heap_set h.word 1 _), h.book.keep (hk _ h.book.lt (by omega)) (fun g hg => hk g (h.book.own.lt g hg).2 (by have := (h.book.own.lt g hg).1; omega)), (h.b.setCell (p := ⟨gw, 1, none⟩) hlo _).trans (hb.mono h.b.size)⟩
theorem Duo.below {w W W' : World} {gw bb : Nat} {v : Value} {x : VW} {d : Dv} (h : Duo w W gw bb v x d) (hb : Below W.heap.size W W') : Duo w W' gw bb v x d :=
  ⟨h.lo, h.lt, (hb.block gw (heap_lt h.word)).trans h.word, h.book.below hb, h.b.trans (hb.mono h.b.size)⟩
theorem two_get {w W : World} {gw bb : Nat} {v : Value} {x : VW} {k : Nat} (h : Duo w W gw bb v x (dd k)) (hk : k < 65535) : Calls Try.prog 28 #[.pointer (some ⟨bb, 0, none⟩), .int .i64 0] W fun e w' => ∃ vo, e = .returned (.tuple #[vo, .int .i64 0]) ∧ Duo w w' gw bb v x (dd (k + 1)) := by
  have q := bget_any h.book (dd_par k) (by simp) 0
  rw [(dd_get hk).1, (dd_get hk).2] at q
  exact q.mono fun e w' ⟨vo, h1, h2, _, h4⟩ => ⟨vo, h1, h.fr h2 h4⟩
theorem two_full {w W : World} {gw bb : Nat} {v : Value} {x : VW} (h : Duo w W gw bb v x (dd 65535)) : Calls Try.prog 28 #[.pointer (some ⟨bb, 0, none⟩), .int .i64 0] W fun e w' => ∃ vo, e = .returned (.tuple #[vo, .int .i64 3]) ∧ Duo w w' gw bb v x (dd 65535) := by
  have q := bget_any h.book (dd_par 65535) (by simp) 0
  rw [dd_full] at q
  exact q.mono fun e w' ⟨vo, h1, h2, _, h4⟩ => ⟨vo, h1, h.fr h2 h4⟩
theorem two_wget {w W : World} {gw bb : Nat} {v : Value} {x y : VW} {d : Dv} {code : Int} (h : Duo w W gw bb v x d) (hx : x.ok) (hw : wants 1 0 0 x = (y, code)) : Calls Try.prog 14 #[.pointer (some ⟨gw, 0, none⟩), .int .i64 0] W fun e w' => e = .returned (.int .i64 code) ∧ Duo w w' gw bb v y d := by
  have q := wget_any gw 0 0 x hx (by decide) W h.word
  rw [hw] at q
  exact q.mono fun e w' ⟨h1, h2⟩ => ⟨h1, h.set h2⟩
theorem two_wput {w W : World} {gw bb : Nat} {v : Value} {x y : VW} {d : Dv} {code : Int} (h : Duo w W gw bb v x d) (hx : x.ok) (hw : wants 2 0 0 x = (y, code)) : Calls Try.prog 15 #[.pointer (some ⟨gw, 0, none⟩), .int .i64 0] W fun e w' => e = .returned (.int .i64 code) ∧ Duo w w' gw bb v y d := by
  have q := wput_any gw 0 0 x hx (by decide) W h.word
  rw [hw] at q
  exact q.mono fun e w' ⟨h1, h2⟩ => ⟨h1, h.set h2⟩
theorem two_view {w W : World} {gw bb : Nat} {v : Value} {d : Dv} (h : Duo w W gw bb v (wv 65535) d) : Calls Try.prog 18 #[.pointer (some ⟨gw, 0, none⟩)] W fun e w' => e = .returned (.agg #[.int .i64 65535, .bool true, .int .i64 0, .int .i64 1]) ∧ Duo w w' gw bb v (wv 65535) d := by
  have q := wview_any gw (wv 65535) (wv_ok (Nat.le_refl _)) W (cell_of_row _ _ 1 _ 100 (0, 0) h.word)
  exact q.mono fun e w' ⟨h1, h2⟩ => ⟨h1, h.below h2⟩
theorem two_uses {w W : World} {gw bb : Nat} {v : Value} {x : VW} (h : Duo w W gw bb v x (dd 65535)) : Calls Try.prog 38 #[.pointer (some ⟨bb, 0, none⟩), .int .i64 0] W fun e w' => e = .returned (.int .i64 65535) ∧ Duo w w' gw bb v x (dd 65535) := by
  have q := usesb_any h.book 0
  rw [dd_uses] at q
  exact q.mono fun e w' ⟨h1, h2⟩ => ⟨h1, h.below (h2.below _)⟩
set_option maxHeartbeats 8000000 in
set_option maxRecDepth 100000 in
theorem names_walk (w : World) : Calls Try.prog 9 #[] w fun e w' => e = .returned (.bool true) ∧ Below w.heap.size w w' := by
  have hv0 := wv_num0
  go_enter Try.func9, Try.ntmps9
  go_upto_region 9 with (first
    | (go_at_call 28; (with_reducible refine (nil_get _ _).mono ?_); rintro e w1 ⟨rfl, hb1⟩)
    | (go_at_call 30; (with_reducible refine (nil_put _ _).mono ?_); rintro e w2 ⟨rfl, rfl⟩)
    | (go_at_call 32; (with_reducible refine (nil_tick _ _).mono ?_); rintro e w2 ⟨rfl, rfl⟩)
    | (go_at_call 14; (with_reducible refine (nil_wget _ _).mono ?_); rintro e w2 ⟨rfl, rfl⟩)
    | (go_at_call 15; (with_reducible refine (nil_wput _ _).mono ?_); rintro e w2 ⟨rfl, rfl⟩)
    | (go_at_call 16; (with_reducible refine (nil_wsweep _ _).mono ?_); rintro e w2 ⟨rfl, rfl⟩)
    | (go_at_call 18; (with_reducible refine (nil_view _).mono ?_); rintro e w3 ⟨rfl, hb3⟩)
    | (go_at_call 38; (with_reducible refine (nil_uses _ _).mono ?_); rintro e w2 ⟨rfl, rfl⟩)
    | (go_at_call 37; (with_reducible refine (nil_awake _ _).mono ?_); rintro e w2 ⟨rfl, rfl⟩)
    | (go_at_call 34; (with_reducible refine (nil_now _).mono ?_); rintro e w2 ⟨rfl, rfl⟩)
    | (go_at_call 11; (with_reducible refine (new0 _).mono ?_); rintro e w4 ⟨rfl, rfl⟩))
  refine wp_world ?_
  intro wN hX
  have hword : wN.heap[w2.heap.size]? = some (.cells #[.int .i64 0, .int .u64 (wv 0).num] 100) := by rw [hX, hv0]; exact heap_alloc_at _ _
  have hsN : wN.heap.size = w2.heap.size + 1 := by rw [hX]; exact size_al _ _
  have hb2 : Below w.heap.size w w2 := hb1.trans (hb3.mono hb1.size)
  have hbN : Below w.heap.size w wN := by rw [hX]; exact hb2.alloc hb2.size _
  have hlo := hb2.size
  generalize hgw : w2.heap.size = gw at *
  clear hX hb1 hb3 hb2 hv0 hgw
  replace hword := Lib.hid hword
  replace hsN := Lib.hid hsN
  go_upto_region 12 with (go_at_call 25; (with_reducible refine (open0 wN).mono ?_); rintro e w5 ⟨v, rfl, hB, hb5⟩)
  have hT : Duo w w5 gw (wN.heap.size + 2) v (wv 0) (dd 0) := ⟨hlo, by have := hsN.out; omega, (hb5.block gw (by have := hsN.out; omega)).trans hword.out, hB, hbN.trans (hb5.mono hbN.size)⟩
  generalize wN.heap.size + 2 = bb at *
  clear hB hb5 hword hsN hbN hlo
  go_wp2
  go_loopw [13] (fun s wr => ∃ k : Nat, k ≤ 65535 ∧ s = .int .i64 k ∧ Duo w wr gw bb v (wv k) (dd k)) (fun s _ => 65535 - (intOf s).toNat)
  case atStart => exact ⟨0, by omega, rfl, hT⟩
  case round =>
    clear hT
    obtain ⟨k, hk, rfl, hT⟩ := hrel
    obtain ⟨wi, rfl⟩ : ∃ x : World, x = wr := ⟨_, rfl⟩
    by_cases hk6 : k = 65535
    · have hkI : ¬ ((k : Int) < 65535) := by omega
      have hT' : Duo w wi gw bb v (wv 65535) (dd 65535) := by rw [← hk6]; exact hT
      clear hk hk6 hT
      have ok1 := wv_ok (Nat.le_refl 65535)
      have hfld : ∀ W, (Instr.field 38 (.agg #[.int .i64 65535, .bool true, .int .i64 0, .int .i64 1]) 0).run Try.prog W = .ok (.int .i64 65535) W := fun W => by kernel_rfl
      have ok2 : (⟨65534, true, 0, 1⟩ : VW).ok := ⟨by decide, by decide, by decide, by decide, by decide, by decide⟩
      go_wp2_with (first
        | (go_at_call 28; (with_reducible refine (two_full hT').mono ?_); rintro e w6 ⟨vo, rfl, hT6⟩)
        | (go_at_call 14; (with_reducible refine (two_wget hT6 ok1 wv_full).mono ?_); rintro e w7 ⟨rfl, hT7⟩)
        | (go_at_call 18; (with_reducible refine (two_view hT7).mono ?_); rintro e w8 ⟨rfl, hT8⟩)
        | (go_at_call 38; (with_reducible refine (two_uses hT8).mono ?_); rintro e w9 ⟨rfl, hT9⟩)
        | (go_at_call 15; (with_reducible refine (two_wput hT9 ok1 wv_put).mono ?_); rintro e w10 ⟨rfl, hT10⟩)
        | (go_at_call 14; (with_reducible refine (two_wget hT10 ok2 wv_again).mono ?_); rintro e w11 ⟨rfl, hT11⟩))
      go_ret
      exact ⟨rfl, hT11.b⟩
    have hlt := Lib.hid (show k < 65535 by omega)
    have hkI : (k : Int) < 65535 := by have := hlt.out; omega
    clear hk hk6
    go_wp2_with (first
      | (go_at_call 28; (with_reducible refine (two_get hT hlt.out).mono ?_); rintro e w6 ⟨vo, rfl, hT6⟩)
      | (go_at_call 14; (with_reducible refine (two_wget hT6 (wv_ok (Nat.le_of_lt hlt.out)) (wv_get hlt.out)).mono ?_); rintro e w7 ⟨rfl, hT7⟩))
    go_roundw
    case rel => exact ⟨k + 1, hlt.out, by go_num, hT7⟩
    case measure => have := hlt.out; simp only [intOf]; omega
end Go.Proofs.Ytgnhddnhcfmipaa
