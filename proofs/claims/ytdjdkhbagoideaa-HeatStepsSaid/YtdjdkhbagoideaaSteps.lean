/- Heat: HeatSteps, walked. Printed by tools/gen_steps.py. -/
import Derived.Test.YtdjdkhbagoideaaRf11
namespace Go.Proofs.Ytdjdkhbagoideaa
open Go.RowKit Go.BigFrame flt Ieee

theorem Duw.far {W wr w' : World} {Z : Zn} {B1 g1 B2 g2 gv : Nat} {v1 o1 v2 o2 : Value} {s1 s2 : Hs} (h : Duw W wr Z B1 g1 B2 g2 v1 o1 v2 o2 s1 s2) (hF : Fr wr.heap.size (fun b => b = gv) wr w') (hg : gv < B1) (hW : W.heap.size ≤ gv) : Duw W w' Z B1 g1 B2 g2 v1 o1 v2 o2 s1 s2 := by
  have e1 := h.l2
  have e2 := h.a.hB
  have e3 := h.b.hB
  refine ⟨h.a.keep (hF.k _ (heap_lt h.a.hb) (by omega)) (fun b e => hF.k b (h.a.tr.lt b e).2 (by have := (h.a.tr.lt b e).1; omega)) (fun b e => hF.k b (h.a.on.lt b e).2 (by have := (h.a.on.lt b e).1; omega)),
    h.b.keep (hF.k _ (heap_lt h.b.hb) (by omega)) (fun b e => hF.k b (h.b.tr.lt b e).2 (by have := (h.b.tr.lt b e).1; omega)) (fun b e => hF.k b (h.b.on.lt b e).2 (by have := (h.b.on.lt b e).1; omega)),
    h.w.trans (hF.below h.w.size (fun b e => by omega)), h.l1, h.l2⟩
theorem rows7 {T : TypeId} {w : World} {P : Nat} {a b c d e f g : Value} (h : w.heap[P]? = some (.cells #[a, b, c, d, e, f, g] T)) :
    w.cell? ⟨P, 0, none⟩ = some a ∧ w.cell? ⟨P, 1, none⟩ = some b ∧ w.cell? ⟨P, 2, none⟩ = some c ∧ w.cell? ⟨P, 3, none⟩ = some d ∧ w.cell? ⟨P, 4, none⟩ = some e ∧ w.cell? ⟨P, 5, none⟩ = some f ∧ w.cell? ⟨P, 6, none⟩ = some g := by
  refine ⟨?_, ?_, ?_, ?_, ?_, ?_, ?_⟩
  · rw [cell_of_row _ _ 0 _ T (0, 0) h]; rfl
  · rw [cell_of_row _ _ 1 _ T (0, 0) h]; rfl
  · rw [cell_of_row _ _ 2 _ T (0, 0) h]; rfl
  · rw [cell_of_row _ _ 3 _ T (0, 0) h]; rfl
  · rw [cell_of_row _ _ 4 _ T (0, 0) h]; rfl
  · rw [cell_of_row _ _ 5 _ T (0, 0) h]; rfl
  · rw [cell_of_row _ _ 6 _ T (0, 0) h]; rfl
theorem own_free {w : World} {B : Nat} {rows : List (List Value)} {g n c : Nat} (hl : rows.length = n + 1) (h : Own w B 27 3 rows (.slice (some ⟨g, 0, none⟩) (n + 1) c)) {k : Nat} (hk : k < n + 1) :
    ∃ a0 a1 a2, w.cell? ⟨g, k * 3, none⟩ = some a0 ∧ w.cell? ⟨g, k * 3 + 1, none⟩ = some a1 ∧ w.cell? ⟨g, k * 3 + 2, none⟩ = some a2 ∧ w.frozen? ⟨g, k * 3, none⟩ = false ∧ w.frozen? ⟨g, k * 3 + 1, none⟩ = false ∧ w.frozen? ⟨g, k * 3 + 2, none⟩ = false := by
  have hkr : k < rows.length := by omega
  have hlen := h.2 _ (List.getElem_mem hkr)
  obtain ⟨a0, a1, a2, e⟩ : ∃ a0 a1 a2, rows[k] = [a0, a1, a2] := by
    generalize rows[k] = r at hlen
    match r, hlen with
    | [x, y, z], _ => exact ⟨x, y, z, rfl⟩
  have hg : rows[k]? = some [a0, a1, a2] := by rw [List.getElem?_eq_getElem hkr, e]
  have q0 := h.cells hl hk hg (f := 0) rfl
  have q1 := h.cells hl hk hg (f := 1) rfl
  have q2 := h.cells hl hk hg (f := 2) rfl
  exact ⟨a0, a1, a2, q0.1, q1.1, q2.1, q0.2, q1.2, q2.2⟩
theorem own_three {w : World} {B : Nat} {rows : List (List Value)} {g n c : Nat} (hl : rows.length = n + 1) (h : Own w B 27 3 rows (.slice (some ⟨g, 0, none⟩) (n + 1) c)) {k : Nat} (hk : k < n + 1) (x y z : Value) :
    ∃ rows' : List (List Value), rows'.length = n + 1 ∧ Own (((w.setCell ⟨g, k * 3, none⟩ x).setCell ⟨g, k * 3 + 1, none⟩ y).setCell ⟨g, k * 3 + 2, none⟩ z) B 27 3 rows' (.slice (some ⟨g, 0, none⟩) (n + 1) c) := by
  rw [← hl] at h hk ⊢
  have h1 := h.set hk (f := 0) (by decide) x
  have h2 := Own.set (xs := rows.set k (rows[k].set 0 x)) (k := k) (f := 1) (by rw [List.length_set]; exact h1) (by rw [List.length_set]; exact hk) (by decide) y
  have h3 := Own.set (xs := (rows.set k (rows[k].set 0 x)).set k _) (k := k) (f := 2) (by rw [List.length_set]; exact h2) (by rw [List.length_set, List.length_set]; exact hk) (by decide) z
  simp only [List.length_set] at h3
  exact ⟨_, by simp only [List.length_set], h3⟩
theorem own_free2 {w : World} {B : Nat} {T : TypeId} {rows : List (List Value)} {g n c : Nat} (hl : rows.length = n) (h : Own w B T 2 rows (.slice (some ⟨g, 0, none⟩) n c)) {k : Nat} (hk : k < n) :
    ∃ a0 a1, w.cell? ⟨g, k * 2, none⟩ = some a0 ∧ w.cell? ⟨g, k * 2 + 1, none⟩ = some a1 ∧ w.frozen? ⟨g, k * 2, none⟩ = false ∧ w.frozen? ⟨g, k * 2 + 1, none⟩ = false := by
  have hkr : k < rows.length := by omega
  have hlen := h.2 _ (List.getElem_mem hkr)
  obtain ⟨a0, a1, e⟩ : ∃ a0 a1, rows[k] = [a0, a1] := by
    generalize rows[k] = r at hlen
    match r, hlen with
    | [x, y], _ => exact ⟨x, y, rfl⟩
  have hg : rows[k]? = some [a0, a1] := by rw [List.getElem?_eq_getElem hkr, e]
  have q0 := h.cells hl hk hg (f := 0) rfl
  have q1 := h.cells hl hk hg (f := 1) rfl
  exact ⟨a0, a1, q0.1, q1.1, q0.2, q1.2⟩
theorem own_two {w : World} {B : Nat} {T : TypeId} {rows : List (List Value)} {g n c : Nat} (hl : rows.length = n) (h : Own w B T 2 rows (.slice (some ⟨g, 0, none⟩) n c)) {k : Nat} (hk : k < n) (x y : Value) :
    ∃ rows' : List (List Value), rows'.length = n ∧ Own ((w.setCell ⟨g, k * 2, none⟩ x).setCell ⟨g, k * 2 + 1, none⟩ y) B T 2 rows' (.slice (some ⟨g, 0, none⟩) n c) := by
  rw [← hl] at h hk ⊢
  have h1 := h.set hk (f := 0) (by decide) x
  have h2 := Own.set (xs := rows.set k (rows[k].set 0 x)) (k := k) (f := 1) (by rw [List.length_set]; exact h1) (by rw [List.length_set]; exact hk) (by decide) y
  simp only [List.length_set] at h2
  exact ⟨_, by simp only [List.length_set], h2⟩
set_option maxHeartbeats 16000000 in
set_option maxRecDepth 100000 in
theorem steps_walk (Z : Zn) (l : List (Nat × Nat)) (A A1 : Option Addr) (c c1 : Nat) (W : World) (hT : Tps W A Z.tr) (hr : Z.tr.length * 24 ≤ 140737488351232) (hl : Fls W A1 l) :
    Calls Try.prog 4 #[.agg (zarr Z (.slice A Z.tr.length c)), .slice A1 l.length c1] W fun e w' => e = .returned (.bool true) ∧ Below W.heap.size W w' := by
  have KA := awake_any
  have KO := fun (X : World) (q : Below W.heap.size W X) => own_any Z A c Z.tr.length X (hT.below q) rfl hr
  have hcl := Lib.hid (fun (k : Nat) (hk : k < l.length) (X : World) (q : Below W.heap.size W X) => (show Fls X A1 l from Sl.below' hl q).at_ hk)
  obtain ⟨n, hn⟩ : ∃ n, Z.tr.length = n := ⟨_, rfl⟩
  have hlr : Hid ((Z.tr.map tprow ++ [markT]).length = n + 1) := Lib.hid (by simp [hn])
  have KK := fun (Bs gv cv : Nat) (X : World) (q : Below W.heap.size W X) (hO : Own X Bs 27 3 (Z.tr.map tprow ++ [markT]) (.slice (some ⟨gv, 0, none⟩) (n + 1) cv)) => kept_any Z A c n Bs gv cv X (hT.below q) hn (by rw [← hn]; exact hr) hO
  have KC := fun (g c : Nat) (X : World) (h : Tps X (some ⟨g, 0, none⟩) Z.tr) => check_any Z (some ⟨g, 0, none⟩) c X h
  have KN1 := fun (g c : Nat) (X : World) (h : Tps X (some ⟨g, 0, none⟩) Z.tr) (ho : okZ Z = false) => new_no Z (some ⟨g, 0, none⟩) c n X h hn ho
  have KN2 := fun (g c : Nat) (X : World) (h : Tps X (some ⟨g, 0, none⟩) Z.tr) (ho : okZ Z = true) => new_yes Z (some ⟨g, 0, none⟩) c n X h hn ho
  have KR1 := fun (X : World) (q : Below W.heap.size W X) (ho : okZ Z = false) => rnew_no Z A c n X (hT.below q) hn ho
  have KR2 := fun (X : World) (q : Below W.heap.size W X) (ho : okZ Z = true) => rnew_yes Z A c n X (hT.below q) hn ho
  have hnle : n ≤ 9223372036854775807 := by rw [← hn]; exact hT.le
  have hn9 : (n : Int) ≤ 9223372036854775807 := by omega
  rw [hn] at KO KC ⊢
  have hb0 := below_al (Below.refl W.heap.size W) (.cells (zarr Z (.slice A n c)) 44)
  have hx0 := heap_alloc_at W (.cells (zarr Z (.slice A n c)) 44)
  unfold zarr at KO KN1 KN2 KR1 KR2 KC KK hb0 hx0 ⊢
  clear hT hl
  cases ho : okZ Z with
  | false =>
    have KN := fun (g c : Nat) (X : World) (h : Tps X (some ⟨g, 0, none⟩) Z.tr) => KN1 g c X h ho
    have KR := fun (X : World) (q : Below W.heap.size W X) => KR1 X q ho
    simp only [ho, Bool.false_eq_true, if_false] at KC
    replace hn := Lib.hid hn
    clear KN1 KN2 KR1 KR2 ho hr
    generalize Z.al = al at *
    generalize Z.tg = tg at *
    generalize Z.kp = kp at *
    generalize Z.ki = ki at *
    generalize Z.cap = cap at *
    generalize Z.mo = mo at *
    go_enter Try.func4, Try.ntmps4
    go_upto_region 2 with (first
      | (refine wpList_load_row rfl 44 _ rfl W.heap.size rfl 44 _ (0, 0) _ hx0 Try.underlying44 rfl (by kernel_rfl) ?_)
      | (go_at_call 10; (with_reducible refine (KO _ hb0).mono ?_); rintro e w0 ⟨gv, cv, rfl, hO0, hb1⟩; have hB0 := hb0.trans (hb1.mono hb0.size); have hx1 := (hb1.block _ (heap_lt hx0)).trans hx0)
      | (refine wpList_store_row rfl 30 _ _ rfl w0.heap.size #[.float .f64 al, .float .f64 tg, .float .f64 kp, .float .f64 ki, .float .f64 cap, .int .i64 mo, (.slice (some ⟨gv, 0, none⟩) n cv)] rfl rfl 30 _ (heap_alloc_at _ _) (by kernel_rfl) (by kernel_rfl) (by kernel_rfl) ?_))
    rw [setRow_alloc _ _ _ _ _ rfl]
    simp only [Act.put]
    have hz1 := heap_alloc_at w0 (.cells #[.float .f64 al, .float .f64 tg, .float .f64 kp, .float .f64 ki, .float .f64 cap, .int .i64 mo, (.slice (some ⟨gv, 0, none⟩) n cv)] 30)
    have hO1 := hO0.alloc (.cells #[.float .f64 al, .float .f64 tg, .float .f64 kp, .float .f64 ki, .float .f64 cap, .int .i64 mo, (.slice (some ⟨gv, 0, none⟩) n cv)] 30)
    have h01 : Below W.heap.size W (w0.alloc (.cells #[.float .f64 al, .float .f64 tg, .float .f64 kp, .float .f64 ki, .float .f64 cap, .int .i64 mo, (.slice (some ⟨gv, 0, none⟩) n cv)] 30)) := below_al hB0 _
    have hx2 := ((below_al (Below.refl w0.heap.size w0) (.cells #[.float .f64 al, .float .f64 tg, .float .f64 kp, .float .f64 ki, .float .f64 cap, .int .i64 mo, (.slice (some ⟨gv, 0, none⟩) n cv)] 30)).block _ (heap_lt hx1)).trans hx1
    have hBg : Hid (gv < w0.heap.size ∧ gv < (w0.alloc (.cells #[.float .f64 al, .float .f64 tg, .float .f64 kp, .float .f64 ki, .float .f64 cap, .int .i64 mo, (.slice (some ⟨gv, 0, none⟩) n cv)] 30)).heap.size) := Lib.hid ⟨(hO0.lt gv rfl).2, (hO1.lt gv rfl).2⟩
    have hT1 := own_tps hO1
    have hgW : Hid (W.heap.size < gv) := Lib.hid (by have := (hO0.lt gv rfl).1; rw [size_al] at this; omega)
    obtain ⟨P, hP⟩ : ∃ P, w0.heap.size = P := ⟨_, rfl⟩
    rw [hP] at hz1 hBg ⊢
    generalize w0.alloc (.cells #[.float .f64 al, .float .f64 tg, .float .f64 kp, .float .f64 ki, .float .f64 cap, .int .i64 mo, (.slice (some ⟨gv, 0, none⟩) n cv)] 30) = w1 at *
    clear hx1 hO0 hB0 hb1 hP hx0 hb0 KO
    generalize (W.alloc _).heap.size = B0 at *
    replace hO1 := Lib.hid hO1
    go_upto_region 4 with (first
      | (refine wpList_load_row rfl 30 _ rfl P rfl 30 _ (0, 0) _ hz1 Try.underlying30 rfl (by kernel_rfl) ?_)
      | (go_at_call 7; (with_reducible refine (KN gv cv w1 hT1).mono ?_); rintro e w2 ⟨rfl, hb2⟩; have h02 := h01.trans (hb2.mono h01.size); have hz2 := (hb2.block _ (heap_lt hz1)).trans hz1; have hx3 := (hb2.block _ (heap_lt hx2)).trans hx2)
      | (refine wpList_load_row rfl 44 _ rfl W.heap.size rfl 44 _ (0, 0) _ hx3 Try.underlying44 rfl (by kernel_rfl) ?_)
      | (go_at_call 11; (with_reducible refine (KR w2 h02).mono ?_); rintro e w3 ⟨rfl, hb3⟩; have h03 := h02.trans (hb3.mono h02.size); have hz3 := (hb3.block _ (heap_lt hz2)).trans hz2))
    have hO3 := (hO1.out.below hb2).below hb3
    have hT3 := own_tps hO3
    have hx4 := (hb3.block _ (heap_lt hx3)).trans hx3
    clear hb2 hb3 h01 h02 hz1 hz2 hx2 hx3 hT1 hO1 KN KR
    have KC3 := KC gv cv w3 hT3
    have KK3 := fun (X : World) (q : Below w3.heap.size w3 X) => KK B0 gv cv X (h03.trans (q.mono h03.size)) (hO3.below q)
    clear KC KK hT3
    replace hO3 := Lib.hid hO3
    obtain ⟨y0, y1, y2, y3, y4, y5, y6⟩ := rows7 hz3
    go_upto_region 6 with (first
      | (go_at_call 12; (with_reducible refine (KC3).mono ?_); rintro e w4 ⟨rfl, hb4⟩; have hz4 := (hb4.block _ (heap_lt hz3)).trans hz3; have hx5 := (hb4.block _ (heap_lt hx4)).trans hx4; obtain ⟨s0, s1, s2, s3, s4, s5, s6⟩ := rows7 hz4; obtain ⟨t0, t1, t2, t3, t4, t5, t6⟩ := rows7 hx5)
      | (go_at_call 13; (with_reducible refine (KK3 _ hb4).mono ?_); rintro e w5 ⟨rfl, hb5⟩))
    clear y0 y1 y2 y3 y4 y5 y6 s0 s1 s2 s3 s4 s5 s6 t0 t1 t2 t3 t4 t5 t6
    have hO5 := (hO3.out.below hb4).below hb5
    have hz5 := (hb5.block _ (heap_lt hz4)).trans hz4
    have h05 : Below W.heap.size W w5 := (h03.trans (hb4.mono h03.size)).trans (hb5.mono (Nat.le_trans h03.size hb4.size))
    clear hb4 hb5 hz3 hz4 hx4 hx5 hO3 KC3 KK3 h03
    have hO6 : Hid (∃ rows : List (List Value), rows.length = n + 1 ∧ Own w5 B0 27 3 rows (.slice (some ⟨gv, 0, none⟩) (n + 1) cv)) := Lib.hid ⟨_, hlr.out, hO5⟩
    clear hO5
    have hgP : Hid (gv ≠ P) := Lib.hid (Nat.ne_of_lt hBg.out.1)
    go_upto_region 7 with fail
    go_loopw [10] (fun s10 wr => ∃ (k : Nat) (rows : List (List Value)), k ≤ n ∧ s10 = .int .i64 k ∧ rows.length = n + 1 ∧ Own wr B0 27 3 rows (.slice (some ⟨gv, 0, none⟩) (n + 1) cv) ∧ wr.heap[P]? = some (.cells #[.float .f64 al, .float .f64 tg, .float .f64 kp, .float .f64 ki, .float .f64 cap, .int .i64 mo, (.slice (some ⟨gv, 0, none⟩) n cv)] 30) ∧ Fr w5.heap.size (fun b => b = gv) w5 wr) (fun s10 _ => n - (intOf s10).toNat)
    case atStart =>
      obtain ⟨rows, h1, h2⟩ := hO6.out
      exact ⟨0, rows, by omega, rfl, h1, h2, hz5, Fr.refl _ _ _⟩
    case round =>
      clear hz5 hO6
      obtain ⟨k, rows, hk, rfl, hrl, hO, hz, hF⟩ := hrel
      obtain ⟨wk, rfl⟩ : ∃ x : World, x = wr := ⟨_, rfl⟩
      have z6 : wk.cell? ⟨P, 6, none⟩ = some (.slice (some ⟨gv, 0, none⟩) n cv) := by rw [cell_of_row _ _ 6 _ 30 (0, 0) hz]; rfl
      by_cases hkn : k < n
      · have hkn' : (k : Int) < (n : Int) := by omega
        have hset : Hid (∃ rows' : List (List Value), rows'.length = n + 1 ∧ Own (((wk.setCell ⟨gv, k * 3, none⟩ (.float .f64 13830554455654793216)).setCell ⟨gv, k * 3 + 1, none⟩ (.float .f64 0)).setCell ⟨gv, k * 3 + 2, none⟩ (.int .u8 3)) B0 27 3 rows' (.slice (some ⟨gv, 0, none⟩) (n + 1) cv)) := Lib.hid (own_three hrl hO (Nat.lt_succ_of_lt hkn) _ _ _)
        obtain ⟨a0, a1, a2, b0, b1, b2, c0, c1, c2⟩ := own_free hrl hO (Nat.lt_succ_of_lt hkn)
        have hF' : Hid (Fr w5.heap.size (fun b => b = gv) w5 (((wk.setCell ⟨gv, k * 3, none⟩ (.float .f64 13830554455654793216)).setCell ⟨gv, k * 3 + 1, none⟩ (.float .f64 0)).setCell ⟨gv, k * 3 + 2, none⟩ (.int .u8 3))) := Lib.hid (((hF.set (fun _ => rfl) _).set (fun _ => rfl) _).set (fun _ => rfl) _)
        have hz' : Hid ((((wk.setCell ⟨gv, k * 3, none⟩ (.float .f64 13830554455654793216)).setCell ⟨gv, k * 3 + 1, none⟩ (.float .f64 0)).setCell ⟨gv, k * 3 + 2, none⟩ (.int .u8 3)).heap[P]? = some (.cells #[.float .f64 al, .float .f64 tg, .float .f64 kp, .float .f64 ki, .float .f64 cap, .int .i64 mo, (.slice (some ⟨gv, 0, none⟩) n cv)] 30)) := Lib.hid (heap_set_far (heap_set_far (heap_set_far hz (Ne.symm hgP.out) _) (Ne.symm hgP.out) _) (Ne.symm hgP.out) _)
        have hst : ∀ (p : Addr) (v : Nat) (W : World), (store p (.float .f64 v)).run Try.prog W = stored Try.prog W p (.float .f64 v) .plain := fun p v W => run_store Try.prog W p _ _ rfl
        clear hO hz hF
        go_wp2
        go_roundw
        case rel =>
          obtain ⟨rows', h1, h2⟩ := hset.out
          exact ⟨k + 1, rows', by omega, by go_num, h1, h2, hz'.out, hF'.out⟩
        case measure => first | (simp [intOf]; done) | (simp [intOf]; omega)
      · obtain rfl : k = n := by omega
        have hkn' : ¬ (k : Int) < (k : Int) := by omega
        have KAw := KA wk
        have hbw : Hid (Below W.heap.size W wk) := Lib.hid (h05.trans (hF.below h05.size (fun b e => by rw [e]; exact Nat.le_of_lt hgW.out)))
        clear hO hz hF h05 KA hcl
        go_upto_region 11 with fail
        go_loopw [11] (fun s11 wr => s11 = .int .i64 0 ∧ wr = wk) (fun _ _ => 0)
        case atStart => exact ⟨rfl, rfl⟩
        case round =>
          obtain ⟨rfl, rfl⟩ := hrel
          go_wp2_with (go_at_call 9; (with_reducible refine (KAw).mono ?_); rintro e w9 ⟨rfl, hb9⟩)
          go_ret
          exact ⟨rfl, hbw.out.trans (hb9.mono hbw.out.size)⟩
  | true =>
    have hZ := okZ_zok ho
    have KN := fun (g c : Nat) (X : World) (h : Tps X (some ⟨g, 0, none⟩) Z.tr) => KN2 g c X h ho
    have KR := fun (X : World) (q : Below W.heap.size W X) => KR2 X q ho
    simp only [ho, if_true] at KC
    have hk0 : Hok Z (hs0 n) := by rw [← hn]; exact hok0 Z hZ
    replace hn := Lib.hid hn
    clear KN1 KN2 KR1 KR2 ho hr
    obtain ⟨al, hal⟩ : ∃ x, Z.al = x := ⟨_, rfl⟩
    obtain ⟨tg, htg⟩ : ∃ x, Z.tg = x := ⟨_, rfl⟩
    obtain ⟨kp, hkp⟩ : ∃ x, Z.kp = x := ⟨_, rfl⟩
    obtain ⟨ki, hki⟩ : ∃ x, Z.ki = x := ⟨_, rfl⟩
    obtain ⟨cap, hcap⟩ : ∃ x, Z.cap = x := ⟨_, rfl⟩
    obtain ⟨mo, hmo⟩ : ∃ x, Z.mo = x := ⟨_, rfl⟩
    rw [hal, htg, hkp, hki, hcap, hmo] at KN KR KC KK KO hx0 hb0 ⊢
    clear hal htg hkp hki hcap hmo
    go_enter Try.func4, Try.ntmps4
    go_upto_region 2 with (first
      | (refine wpList_load_row rfl 44 _ rfl W.heap.size rfl 44 _ (0, 0) _ hx0 Try.underlying44 rfl (by kernel_rfl) ?_)
      | (go_at_call 10; (with_reducible refine (KO _ hb0).mono ?_); rintro e w0 ⟨gv, cv, rfl, hO0, hb1⟩; have hB0 := hb0.trans (hb1.mono hb0.size); have hx1 := (hb1.block _ (heap_lt hx0)).trans hx0)
      | (refine wpList_store_row rfl 30 _ _ rfl w0.heap.size #[.float .f64 al, .float .f64 tg, .float .f64 kp, .float .f64 ki, .float .f64 cap, .int .i64 mo, (.slice (some ⟨gv, 0, none⟩) n cv)] rfl rfl 30 _ (heap_alloc_at _ _) (by kernel_rfl) (by kernel_rfl) (by kernel_rfl) ?_))
    rw [setRow_alloc _ _ _ _ _ rfl]
    simp only [Act.put]
    have hz1 := heap_alloc_at w0 (.cells #[.float .f64 al, .float .f64 tg, .float .f64 kp, .float .f64 ki, .float .f64 cap, .int .i64 mo, (.slice (some ⟨gv, 0, none⟩) n cv)] 30)
    have hO1 := hO0.alloc (.cells #[.float .f64 al, .float .f64 tg, .float .f64 kp, .float .f64 ki, .float .f64 cap, .int .i64 mo, (.slice (some ⟨gv, 0, none⟩) n cv)] 30)
    have h01 : Below W.heap.size W (w0.alloc (.cells #[.float .f64 al, .float .f64 tg, .float .f64 kp, .float .f64 ki, .float .f64 cap, .int .i64 mo, (.slice (some ⟨gv, 0, none⟩) n cv)] 30)) := below_al hB0 _
    have hx2 := ((below_al (Below.refl w0.heap.size w0) (.cells #[.float .f64 al, .float .f64 tg, .float .f64 kp, .float .f64 ki, .float .f64 cap, .int .i64 mo, (.slice (some ⟨gv, 0, none⟩) n cv)] 30)).block _ (heap_lt hx1)).trans hx1
    have hBg : Hid (gv < w0.heap.size ∧ gv < (w0.alloc (.cells #[.float .f64 al, .float .f64 tg, .float .f64 kp, .float .f64 ki, .float .f64 cap, .int .i64 mo, (.slice (some ⟨gv, 0, none⟩) n cv)] 30)).heap.size) := Lib.hid ⟨(hO0.lt gv rfl).2, (hO1.lt gv rfl).2⟩
    have hT1 := own_tps hO1
    have hgW : Hid (W.heap.size < gv) := Lib.hid (by have := (hO0.lt gv rfl).1; rw [size_al] at this; omega)
    obtain ⟨P, hP⟩ : ∃ P, w0.heap.size = P := ⟨_, rfl⟩
    rw [hP] at hz1 hBg ⊢
    generalize w0.alloc (.cells #[.float .f64 al, .float .f64 tg, .float .f64 kp, .float .f64 ki, .float .f64 cap, .int .i64 mo, (.slice (some ⟨gv, 0, none⟩) n cv)] 30) = w1 at *
    clear hx1 hO0 hB0 hb1 hP hx0 hb0 KO
    generalize (W.alloc _).heap.size = B0 at *
    replace hO1 := Lib.hid hO1
    go_upto_region 4 with (first
      | (refine wpList_load_row rfl 30 _ rfl P rfl 30 _ (0, 0) _ hz1 Try.underlying30 rfl (by kernel_rfl) ?_)
      | (go_at_call 7; (with_reducible refine (KN gv cv w1 hT1).mono ?_); rintro e w2 ⟨g1, v1, o1, rfl, hWa, hb2⟩; have h02 := h01.trans (hb2.mono h01.size); have hz2 := (hb2.block _ (heap_lt hz1)).trans hz1; have hx3 := (hb2.block _ (heap_lt hx2)).trans hx2)
      | (refine wpList_load_row rfl 44 _ rfl W.heap.size rfl 44 _ (0, 0) _ hx3 Try.underlying44 rfl (by kernel_rfl) ?_)
      | (go_at_call 11; (with_reducible refine (KR w2 h02).mono ?_); rintro e w3 ⟨g2, v2, o2, rfl, hWb, hb3⟩; have h03 := h02.trans (hb3.mono h02.size); have hz3 := (hb3.block _ (heap_lt hz2)).trans hz2))
    have hO3 := (hO1.out.below hb2).below hb3
    have hT3 := own_tps hO3
    have hx4 := (hb3.block _ (heap_lt hx3)).trans hx3
    have hD3 : Duw W w3 Z w1.heap.size g1 w2.heap.size g2 v1 o1 v2 o2 (hs0 n) (hs0 n) := ⟨hWa.below hb3, hWb, h03, h01.size, heap_lt hWa.hb⟩
    have hgB : Hid (gv < w1.heap.size) := Lib.hid hBg.out.2
    have hs13 : Hid (w1.heap.size ≤ w2.heap.size ∧ w2.heap.size ≤ w3.heap.size) := Lib.hid ⟨hb2.size, hb3.size⟩
    clear hWa hWb
    clear hb2 hb3 h01 h02 hz1 hz2 hx2 hx3 hT1 hO1 KN KR
    have KC3 := KC gv cv w3 hT3
    have KK3 := fun (X : World) (q : Below w3.heap.size w3 X) => KK B0 gv cv X (h03.trans (q.mono h03.size)) (hO3.below q)
    clear KC KK hT3
    replace hO3 := Lib.hid hO3
    obtain ⟨y0, y1, y2, y3, y4, y5, y6⟩ := rows7 hz3
    go_upto_region 6 with (first
      | (go_at_call 12; (with_reducible refine (KC3).mono ?_); rintro e w4 ⟨rfl, hb4⟩; have hz4 := (hb4.block _ (heap_lt hz3)).trans hz3; have hx5 := (hb4.block _ (heap_lt hx4)).trans hx4; obtain ⟨s0, s1, s2, s3, s4, s5, s6⟩ := rows7 hz4; obtain ⟨t0, t1, t2, t3, t4, t5, t6⟩ := rows7 hx5)
      | (go_at_call 13; (with_reducible refine (KK3 _ hb4).mono ?_); rintro e w5 ⟨rfl, hb5⟩))
    clear y0 y1 y2 y3 y4 y5 y6 s0 s1 s2 s3 s4 s5 s6 t0 t1 t2 t3 t4 t5 t6
    have hO5 := (hO3.out.below hb4).below hb5
    have hz5 := (hb5.block _ (heap_lt hz4)).trans hz4
    have h05 : Below W.heap.size W w5 := (h03.trans (hb4.mono h03.size)).trans (hb5.mono (Nat.le_trans h03.size hb4.size))
    have hD5 := Lib.hid ((hD3.below hb4).below hb5)
    clear hD3
    clear hb4 hb5 hz3 hz4 hx4 hx5 hO3 KC3 KK3 h03
    have hO6 : Hid (∃ rows : List (List Value), rows.length = n + 1 ∧ Own w5 B0 27 3 rows (.slice (some ⟨gv, 0, none⟩) (n + 1) cv)) := Lib.hid ⟨_, hlr.out, hO5⟩
    clear hO5
    have hgP : Hid (gv ≠ P) := Lib.hid (Nat.ne_of_lt hBg.out.1)
    go_upto_region 7 with fail
    go_loopw [10] (fun s10 wr => ∃ (k : Nat) (rows : List (List Value)), k ≤ n ∧ s10 = .int .i64 k ∧ rows.length = n + 1 ∧ Own wr B0 27 3 rows (.slice (some ⟨gv, 0, none⟩) (n + 1) cv) ∧ wr.heap[P]? = some (.cells #[.float .f64 al, .float .f64 tg, .float .f64 kp, .float .f64 ki, .float .f64 cap, .int .i64 mo, (.slice (some ⟨gv, 0, none⟩) n cv)] 30) ∧ Fr w5.heap.size (fun b => b = gv) w5 wr) (fun s10 _ => n - (intOf s10).toNat)
    case atStart =>
      obtain ⟨rows, h1, h2⟩ := hO6.out
      exact ⟨0, rows, by omega, rfl, h1, h2, hz5, Fr.refl _ _ _⟩
    case round =>
      clear hz5 hO6
      obtain ⟨k, rows, hk, rfl, hrl, hO, hz, hF⟩ := hrel
      obtain ⟨wk, rfl⟩ : ∃ x : World, x = wr := ⟨_, rfl⟩
      have z6 : wk.cell? ⟨P, 6, none⟩ = some (.slice (some ⟨gv, 0, none⟩) n cv) := by rw [cell_of_row _ _ 6 _ 30 (0, 0) hz]; rfl
      by_cases hkn : k < n
      · have hkn' : (k : Int) < (n : Int) := by omega
        have hset : Hid (∃ rows' : List (List Value), rows'.length = n + 1 ∧ Own (((wk.setCell ⟨gv, k * 3, none⟩ (.float .f64 13830554455654793216)).setCell ⟨gv, k * 3 + 1, none⟩ (.float .f64 0)).setCell ⟨gv, k * 3 + 2, none⟩ (.int .u8 3)) B0 27 3 rows' (.slice (some ⟨gv, 0, none⟩) (n + 1) cv)) := Lib.hid (own_three hrl hO (Nat.lt_succ_of_lt hkn) _ _ _)
        obtain ⟨a0, a1, a2, b0, b1, b2, c0, c1, c2⟩ := own_free hrl hO (Nat.lt_succ_of_lt hkn)
        have hF' : Hid (Fr w5.heap.size (fun b => b = gv) w5 (((wk.setCell ⟨gv, k * 3, none⟩ (.float .f64 13830554455654793216)).setCell ⟨gv, k * 3 + 1, none⟩ (.float .f64 0)).setCell ⟨gv, k * 3 + 2, none⟩ (.int .u8 3))) := Lib.hid (((hF.set (fun _ => rfl) _).set (fun _ => rfl) _).set (fun _ => rfl) _)
        have hz' : Hid ((((wk.setCell ⟨gv, k * 3, none⟩ (.float .f64 13830554455654793216)).setCell ⟨gv, k * 3 + 1, none⟩ (.float .f64 0)).setCell ⟨gv, k * 3 + 2, none⟩ (.int .u8 3)).heap[P]? = some (.cells #[.float .f64 al, .float .f64 tg, .float .f64 kp, .float .f64 ki, .float .f64 cap, .int .i64 mo, (.slice (some ⟨gv, 0, none⟩) n cv)] 30)) := Lib.hid (heap_set_far (heap_set_far (heap_set_far hz (Ne.symm hgP.out) _) (Ne.symm hgP.out) _) (Ne.symm hgP.out) _)
        have hst : ∀ (p : Addr) (v : Nat) (W : World), (store p (.float .f64 v)).run Try.prog W = stored Try.prog W p (.float .f64 v) .plain := fun p v W => run_store Try.prog W p _ _ rfl
        clear hO hz hF
        go_wp2
        go_roundw
        case rel =>
          obtain ⟨rows', h1, h2⟩ := hset.out
          exact ⟨k + 1, rows', by omega, by go_num, h1, h2, hz'.out, hF'.out⟩
        case measure => first | (simp [intOf]; done) | (simp [intOf]; omega)
      · obtain rfl : k = n := by omega
        have hkn' : ¬ (k : Int) < (k : Int) := by omega
        have hD := Duw.far hD5.out hF hgB.out (Nat.le_of_lt hgW.out)
        clear hD5 hF hO hz h05 hgW hBg hgB hs13 hgP hlr hkn hk
        go_upto_region 11 with fail
        clear z6 hkn'
        generalize w1.heap.size = B1 at *
        generalize w2.heap.size = B2 at *
        go_loopw [11] (fun s11 wr => ∃ (i : Nat) (s r : Hs), i ≤ l.length ∧ s11 = .int .i64 i ∧ Hok Z s ∧ Hok Z r ∧ Sim s r ∧ Duw W wr Z B1 g1 B2 g2 v1 o1 v2 o2 s r) (fun s11 _ => l.length - (intOf s11).toNat)
        case atStart => exact ⟨0, hs0 k, hs0 k, by omega, rfl, hk0, hk0, Sim.refl _, hD⟩
        case round =>
          clear hk0 hD
          obtain ⟨i, s, r, hi, rfl, hk, hkr, hS, hD⟩ := hrel
          obtain ⟨wn, rfl⟩ : ∃ x : World, x = wr := ⟨_, rfl⟩
          by_cases hend : i < l.length ∧ i < 80
          case neg =>
            have KAw := KA wn
            have hbw := Lib.hid hD.w
            clear hD hcl KA
            by_cases h1 : i < l.length
            · have h2 : ¬ i < 80 := fun q => hend ⟨h1, q⟩
              have h1' : (i : Int) < (l.length : Int) := by omega
              have h2' : ¬ (i : Int) < 80 := by omega
              clear hend h1 h2 hi
              go_wp2_with (go_at_call 9; (with_reducible refine (KAw).mono ?_); rintro e w9 ⟨rfl, hb9⟩)
              go_ret
              exact ⟨rfl, hbw.out.trans (hb9.mono hbw.out.size)⟩
            · have h1' : ¬ (i : Int) < (l.length : Int) := by omega
              clear hend h1 hi
              go_wp2_with (go_at_call 9; (with_reducible refine (KAw).mono ?_); rintro e w9 ⟨rfl, hb9⟩)
              go_ret
              exact ⟨rfl, hbw.out.trans (hb9.mono hbw.out.size)⟩
          obtain ⟨hil, hi8⟩ := hend
          have hil' : (i : Int) < (l.length : Int) := by omega
          have hi8' : (i : Int) < 80 := by omega
          go_upto_region 13 with fail
          go_cut [12, 13] from 78 to 93 (fun p q wc => q = .int .i64 (code s l[i].1 l[i].2) ∧ Tg 37 65 wc g2 (told Z s l[i].1 l[i].2) p ∧ Duw W wc Z B1 g1 B2 g2 v1 o1 v2 o2 (nxt Z s l[i].1 l[i].2) r)
          case first =>
            clear KA hi hi8 hi8' hS hkr
            obtain ⟨b, o, rfl, -⟩ := hcl.out i hil wn hD.w
            have hX := fun (X : World) (q : Below W.heap.size W X) => (show X.cell? ⟨b, o + i * 2, none⟩ = some (.float .f64 l[i].1) ∧ X.cell? ⟨b, o + i * 2 + 1, none⟩ = some (.float .f64 l[i].2) by
              obtain ⟨b', o', e, _, h1, h2⟩ := hcl.out i hil X q
              obtain ⟨rfl, rfl⟩ : b = b' ∧ o = o' := by simpa using e
              exact ⟨h1, h2⟩)
            obtain ⟨fx, hfx⟩ : ∃ x, l[i].1 = x := ⟨_, rfl⟩
            obtain ⟨fy, hfy⟩ : ∃ x, l[i].2 = x := ⟨_, rfl⟩
            rw [hfx, hfy] at hX
            have hid : Hid (l[i].1 = fx ∧ l[i].2 = fy) := Lib.hid ⟨hfx, hfy⟩
            clear hcl hfx hfy
            have hst : ∀ (p : Addr) (v : Nat) (W : World), (store p (.float .f64 v)).run Try.prog W = stored Try.prog W p (.float .f64 v) .plain := fun p v W => run_store Try.prog W p _ _ rfl
            have hlt := hD.lt
            have hda : Below (g2 + 1) wn wn.drew := (Below.refl _ _).drew
            have hdb : Below (g2 + 1) wn (wn.alloc (.cells z37 37)).drew := (below_al (Below.refl wn.heap.size wn) _).drew.mono hlt.1
            have hDa := hD.above hda
            have hDb := hD.above hdb
            have KTa := step_any hDa.a hZ hk fx fy
            have KTb := step_any hDb.a hZ hk fx fy
            obtain ⟨⟨td, tb, tl, ts, te⟩, ht⟩ : ∃ t, told Z s fx fy = t := ⟨_, rfl⟩
            obtain ⟨cd, hcd⟩ : ∃ t, code s fx fy = t := ⟨_, rfl⟩
            obtain ⟨s', hs'⟩ : ∃ t, nxt Z s fx fy = t := ⟨_, rfl⟩
            rw [ht, hcd, hs'] at KTa KTb
            simp only [sarr, z37] at KTa KTb hdb hDb
            have hid2 : Hid (told Z s fx fy = ⟨td, tb, tl, ts, te⟩ ∧ code s fx fy = cd ∧ nxt Z s fx fy = s') := Lib.hid ⟨ht, hcd, hs'⟩
            have hza := hX _ hDa.w
            have hzb := hX _ hDb.w
            have hrow0 : (wn.alloc (.cells #[.float .f64 0, .bool false, .int .i64 0, .bool false, .slice none 0 0] 37)).drew.heap[wn.heap.size]? = some (.cells #[.float .f64 0, .bool false, .int .i64 0, .bool false, .slice none 0 0] 37) := heap_alloc_at _ _
            have hPB : Hid (wn.heap.size < (wn.alloc (.cells #[.float .f64 0, .bool false, .int .i64 0, .bool false, .slice none 0 0] 37)).drew.heap.size) := Lib.hid (heap_lt hrow0)
            have hPA : Hid (g2 < wn.drew.heap.size) := Lib.hid hlt.1
            replace hrow0 := Lib.hid hrow0
            have hnot : Hid (∀ b, wn.heap.size ≤ b → ¬ (b = g1 ∨ o1.ownBlock = some b)) := Lib.hid fun b hb e => by
              rcases e with e | e
              · have := hlt.1; have := hlt.2; omega
              · have := (hD.a.og b e).1; have := hlt.1; have := hlt.2; omega
            replace hlt := Lib.hid hlt
            have hWs : Hid (W.heap.size ≤ wn.heap.size) := Lib.hid hD.w.size
            clear ht hcd hs' hD hk hZ
            generalize hne : te.length = ne at *
            replace hne := Lib.hid hne
            go_region_held3 (fun X => X.cell? ⟨b, o + i * 2, none⟩ = some (.float .f64 fx) ∧ X.cell? ⟨b, o + i * 2 + 1, none⟩ = some (.float .f64 fy))
              (first | (with_reducible exact hza) | (with_reducible exact hzb) | (refine hX _ ?_; with_reducible exact q1) | (refine hX _ ?_; with_reducible exact below_al q1 _) | (refine hX _ ?_; exact ((((q1.setCell hWs.out _).setCell hWs.out _).setCell hWs.out _).setCell hWs.out _).setCell hWs.out _))
              (first
                | (go_at_call 8; (with_reducible refine (KTa).mono ?_); rintro e w6 ⟨tv, rfl, hO, hW6, hF6⟩; obtain ⟨tA, tc, rfl, -⟩ := hO.sl; rw [List.length_map, hne.out] at hO ⊢; have hD2 := hDa.stepa hW6 hF6; have q1 : Below W.heap.size W w6 := hD2.w)
                | (go_at_call 8; (with_reducible refine (KTb).mono ?_); rintro e w6 ⟨tv, rfl, hO, hW6, hF6⟩; obtain ⟨tA, tc, rfl, -⟩ := hO.sl; rw [List.length_map, hne.out] at hO ⊢; have hD2 := hDb.stepa hW6 hF6; have q1 : Below W.heap.size W w6 := hD2.w; have hr6 : w6.heap[wn.heap.size]? = some (.cells #[.float .f64 0, .bool false, .int .i64 0, .bool false, .slice none 0 0] 37) := (hF6.k _ (heap_lt hrow0.out) (fun e => hnot.out _ (Nat.le_refl _) e)).trans hrow0.out; obtain ⟨y0, y1, y2, y3, y4, f0, f1, f2, f3, f4⟩ := rows37 hr6; replace hr6 := Lib.hid hr6))
            all_goals go_wp2
            all_goals go_meet
            all_goals obtain ⟨e1, e2⟩ := hid.out
            all_goals obtain ⟨e3, e4, e5⟩ := hid2.out
            all_goals rw [e1, e2, e3, e4, e5]
            all_goals (case rel => first
              | (have h6 := hr6.out
                 refine ⟨rfl, ?_⟩
                 exact fin_gb hD2 hO hlt.out.1 hPB.out hne.out h6)
              | (refine ⟨rfl, ?_⟩
                 exact fin_ga hD2 hO hPA.out hne.out))
          obtain ⟨rfl, hT1, hD⟩ := hcut
          obtain ⟨wm, rfl⟩ : ∃ x : World, x = wc := ⟨_, rfl⟩
          obtain ⟨pa, rfl⟩ : ∃ x : Value, x = u12 := ⟨_, rfl⟩
          have hN := sim_next hZ hk hkr hS l[i].1 l[i].2
          have hnn := Lib.hid (told_nn hZ hk l[i].1 l[i].2)
          have hfw := Lib.hid (told_few hZ hk l[i].1 l[i].2)
          have hk' := Lib.hid (nxt_ok hZ hk l[i].1 l[i].2)
          have hkr' := Lib.hid (rnxt_ok hZ hkr l[i].1 l[i].2)
          clear hS hk
          go_upto_region 14 with fail
          go_cut [14, 15] from 93 to 108 (fun p q wc => q = .int .i64 (code s l[i].1 l[i].2) ∧ Tg 56 80 wc g2 (told Z s l[i].1 l[i].2) p ∧ Duw W wc Z B1 g1 B2 g2 v1 o1 v2 o2 (nxt Z s l[i].1 l[i].2) (rnxt Z r l[i].1 l[i].2) ∧ Tg 37 65 wc g2 (told Z s l[i].1 l[i].2) pa)
          case first =>
            clear KA hi hi8 hi8' hnn hfw hk' hkr'
            obtain ⟨b, o, rfl, -⟩ := hcl.out i hil wm hD.w
            have hX := fun (X : World) (q : Below W.heap.size W X) => (show X.cell? ⟨b, o + i * 2, none⟩ = some (.float .f64 l[i].1) ∧ X.cell? ⟨b, o + i * 2 + 1, none⟩ = some (.float .f64 l[i].2) by
              obtain ⟨b', o', e, _, h1, h2⟩ := hcl.out i hil X q
              obtain ⟨rfl, rfl⟩ : b = b' ∧ o = o' := by simpa using e
              exact ⟨h1, h2⟩)
            obtain ⟨fx, hfx⟩ : ∃ x, l[i].1 = x := ⟨_, rfl⟩
            obtain ⟨fy, hfy⟩ : ∃ x, l[i].2 = x := ⟨_, rfl⟩
            rw [hfx, hfy] at hX
            have hid : Hid (l[i].1 = fx ∧ l[i].2 = fy) := Lib.hid ⟨hfx, hfy⟩
            have hpa : Hid (Tg 37 65 wm g2 (told Z s fx fy) pa) := Lib.hid (by rw [← hfx, ← hfy]; exact hT1)
            obtain ⟨sa, hsa⟩ : ∃ x, nxt Z s l[i].1 l[i].2 = x := ⟨_, rfl⟩
            rw [hsa] at hD
            rw [hfx, hfy] at hsa hN
            obtain ⟨-, hN2, hN3⟩ := hN
            clear hcl hfx hfy hT1
            have hst : ∀ (p : Addr) (v : Nat) (W : World), (store p (.float .f64 v)).run Try.prog W = stored Try.prog W p (.float .f64 v) .plain := fun p v W => run_store Try.prog W p _ _ rfl
            have hlt := hD.lt
            have hda : Below (g2 + 1) wm wm.drew := (Below.refl _ _).drew
            have hdb : Below (g2 + 1) wm (wm.alloc (.cells z37 56)).drew := (below_al (Below.refl wm.heap.size wm) _).drew.mono hlt.1
            have hDa := hD.above hda
            have hDb := hD.above hdb
            have KTa := rstep_any hDa.b hZ hkr fx fy
            have KTb := rstep_any hDb.b hZ hkr fx fy
            obtain ⟨⟨td, tb, tl, ts, te⟩, ht⟩ : ∃ t, told Z s fx fy = t := ⟨_, rfl⟩
            obtain ⟨cd, hcd⟩ : ∃ t, code s fx fy = t := ⟨_, rfl⟩
            obtain ⟨r', hs'⟩ : ∃ t, rnxt Z r fx fy = t := ⟨_, rfl⟩
            rw [hN2, hN3, ht, hcd, hs'] at KTa KTb
            simp only [sarr, z37] at KTa KTb hdb hDb
            have hid2 : Hid (told Z s fx fy = ⟨td, tb, tl, ts, te⟩ ∧ code s fx fy = cd ∧ nxt Z s fx fy = sa ∧ rnxt Z r fx fy = r') := Lib.hid ⟨ht, hcd, hsa, hs'⟩
            have hza := hX _ hDa.w
            have hzb := hX _ hDb.w
            have hrow0 : (wm.alloc (.cells #[.float .f64 0, .bool false, .int .i64 0, .bool false, .slice none 0 0] 56)).drew.heap[wm.heap.size]? = some (.cells #[.float .f64 0, .bool false, .int .i64 0, .bool false, .slice none 0 0] 56) := heap_alloc_at _ _
            have hPB : Hid (wm.heap.size < (wm.alloc (.cells #[.float .f64 0, .bool false, .int .i64 0, .bool false, .slice none 0 0] 56)).drew.heap.size) := Lib.hid (heap_lt hrow0)
            have hPA : Hid (g2 < wm.drew.heap.size) := Lib.hid hlt.1
            replace hrow0 := Lib.hid hrow0
            have hnot : Hid (∀ b, wm.heap.size ≤ b → ¬ (b = g2 ∨ o2.ownBlock = some b)) := Lib.hid fun b hb e => by
              rcases e with e | e
              · have := hlt.1; have := hlt.2; omega
              · have := (hD.b.og b e).1; have := hlt.1; have := hlt.2; omega
            have hno2 : Hid (∀ b, g2 < b → ¬ (b = g2 ∨ o2.ownBlock = some b)) := Lib.hid fun b hb e => by
              rcases e with e | e
              · omega
              · have := (hD.b.og b e).1; omega
            have hqb : Hid (∀ b, b < wm.heap.size → (wm.alloc (.cells #[.float .f64 0, .bool false, .int .i64 0, .bool false, .slice none 0 0] 56)).drew.heap[b]? = wm.heap[b]?) := Lib.hid fun b h => ((below_al (Below.refl wm.heap.size wm) _).drew).block b h
            replace hlt := Lib.hid hlt
            have hWs : Hid (W.heap.size ≤ wm.heap.size) := Lib.hid hD.w.size
            clear ht hcd hs' hD hkr hZ hsa hN2 hN3
            generalize hne : te.length = ne at *
            replace hne := Lib.hid hne
            go_region_held3 (fun X => X.cell? ⟨b, o + i * 2, none⟩ = some (.float .f64 fx) ∧ X.cell? ⟨b, o + i * 2 + 1, none⟩ = some (.float .f64 fy))
              (first | (with_reducible exact hza) | (with_reducible exact hzb) | (refine hX _ ?_; with_reducible exact q1) | (refine hX _ ?_; with_reducible exact below_al q1 _) | (refine hX _ ?_; exact ((((q1.setCell hWs.out _).setCell hWs.out _).setCell hWs.out _).setCell hWs.out _).setCell hWs.out _))
              (first
                | (go_at_call 14; (with_reducible refine (KTa).mono ?_); rintro e w6 ⟨tv, rfl, hO, hW6, hF6⟩; obtain ⟨tA, tc, rfl, -⟩ := hO.sl; rw [List.length_map, hne.out] at hO ⊢; have hD2 := hDa.stepb hW6 hF6; have q1 : Below W.heap.size W w6 := hD2.w)
                | (go_at_call 14; (with_reducible refine (KTb).mono ?_); rintro e w6 ⟨tv, rfl, hO, hW6, hF6⟩; obtain ⟨tA, tc, rfl, -⟩ := hO.sl; rw [List.length_map, hne.out] at hO ⊢; have hD2 := hDb.stepb hW6 hF6; have q1 : Below W.heap.size W w6 := hD2.w; have hr6 : w6.heap[wm.heap.size]? = some (.cells #[.float .f64 0, .bool false, .int .i64 0, .bool false, .slice none 0 0] 56) := (hF6.k _ (heap_lt hrow0.out) (fun e => hnot.out _ (Nat.le_refl _) e)).trans hrow0.out; obtain ⟨y0, y1, y2, y3, y4, f0, f1, f2, f3, f4⟩ := rowsT hr6; replace hr6 := Lib.hid hr6))
            all_goals go_wp2
            all_goals go_meet
            all_goals obtain ⟨e1, e2⟩ := hid.out
            all_goals obtain ⟨e3, e4, e5, e6⟩ := hid2.out
            all_goals rw [e1, e2, e3, e4, e5, e6]
            all_goals (case rel => first
              | (have h6 := hr6.out
                 refine ⟨rfl, ?_⟩
                 have hb := fin_gb (E := 80) (td := td) (tb := tb) (tl := tl) (ts := ts) hD2 hO hlt.out.1 hPB.out hne.out h6
                 refine ⟨hb.1, hb.2, ?_⟩
                 rw [e3] at hpa
                 exact hpa.out.keep fun b h1 h2 => (by
                   have hnb : b ≠ wm.heap.size := Nat.ne_of_lt h2
                   rw [Below.heap_setCell _ _ _ b hnb, Below.heap_setCell _ _ _ b hnb, Below.heap_setCell _ _ _ b hnb, Below.heap_setCell _ _ _ b hnb, Below.heap_setCell _ _ _ b hnb]
                   exact (hF6.k b (Nat.lt_trans h2 hPB.out) (hno2.out b h1)).trans (hqb.out b h2)))
              | (refine ⟨rfl, ?_⟩
                 have ha := fin_ga (T := 56) (E := 80) (td := td) (tb := tb) (tl := tl) (ts := ts) hD2 hO hPA.out hne.out
                 refine ⟨ha.1, ha.2, ?_⟩
                 rw [e3] at hpa
                 exact hpa.out.keep fun b h1 h2 => ((below_al (Below.refl w6.heap.size w6) _).block b (Nat.lt_of_lt_of_le h2 hF6.size)).trans (hF6.k b h2 (hno2.out b h1))))
          obtain ⟨rfl, hT2, hD, hT1⟩ := hcut
          obtain ⟨wq, rfl⟩ : ∃ x : World, x = wc := ⟨_, rfl⟩
          replace hN := hN.1
          replace hk' := hk'.out
          replace hkr' := hkr'.out
          replace hnn := hnn.out
          replace hfw := hfw.out
          generalize nxt Z s l[i].1 l[i].2 = sn at *
          generalize rnxt Z r l[i].1 l[i].2 = rn at *
          generalize code s l[i].1 l[i].2 = cd at *
          generalize told Z s l[i].1 l[i].2 = t at *
          obtain ⟨td, tb, tl, ts, te⟩ := t
          obtain ⟨P1, A3, d3, rfl, hP1, hr1, hO1, hq1⟩ := hT1
          obtain ⟨P2, A4, d4, rfl, hP2, hr2, hO2, hq2⟩ := hT2
          simp only [sarr] at hr1 hr2 hO1 hO2 hnn hfw hq1 hq2
          obtain ⟨ne, hne⟩ : ∃ x, te.length = x := ⟨_, rfl⟩
          have hS1 : Sl (fun _ => True) wq A3 2 (te.map erow) := by
            obtain ⟨A', c', e', hs⟩ := hO1.sl
            obtain rfl := (Value.slice.inj e').1
            exact hs.mono fun _ _ => trivial
          have hS2 : Sl (fun _ => True) wq A4 2 (te.map erow) := by
            obtain ⟨A', c', e', hs⟩ := hO2.sl
            obtain rfl := (Value.slice.inj e').1
            exact hs.mono fun _ _ => trivial
          rw [hne] at hr1 hr2 hO1 hO2 hfw hq1
          have hO1len : Hid ((te.map erow).length = ne) := Lib.hid (by rw [List.length_map]; exact hne)
          have hlon : sn.on.length = k := hk'.on.trans hn.out
          have hlor : rn.on.length = k := hkr'.on.trans hn.out
          have hk1 : 1 ≤ k := by have := hZ.n.1; have := hn.out; omega
          have hl1 : 1 ≤ sn.on.length := by omega
          obtain ⟨go_, co, hvo, -, -⟩ := own_form0 hD.b.on (by rw [List.length_map, hlor]; exact hk1)
          rw [List.length_map, hlor] at hvo
          have y9 := hD.b.cl 9 (x := o2) rfl
          rw [hvo] at y9
          have y12 := hD.b.cl 12 (x := .bool rn.sh) rfl
          rw [hN.sh] at y12
          have y12 : wq.cell? ⟨g2, 12, none⟩ = some (.bool sn.sh) := y12
          obtain ⟨x0, x1, x2, x3, x4, -⟩ := rowsT hr1
          obtain ⟨z0, z1, z2, z3, z4, -⟩ := rowsT hr2
          have hrP1 := heap_lt hr1
          have hrP2 := heap_lt hr2
          have hg2 := hD.lt.1
          have hbl := fun (X : World) (q : Below wq.heap.size wq X) (p : Addr) (h : p.block < wq.heap.size) => World.cell?_of_block (a := p) (q.block p.block h)
          go_upto_region 15 with fail
          go_cut [138] from 108 to 138 (fun v wc => v = .bool false ∧ Below wq.heap.size wq wc)
          case first =>
            clear KA hcl hil hil' hi hi8 hi8'
            have hdr : Below wq.heap.size wq wq.drew := (Below.refl _ _).drew
            have K15 := same15 td tb tl ts te ne hne hfw hnn A3 A4 d3 d4 wq.drew (hS1.drawn (Drawn.refl _).drew) (hS2.drawn (Drawn.refl _).drew)
            have KSh := fun (X : World) (q : Below wq.heap.size wq X) => shut_any (hD.a.below q)
            have KM : ∀ X, Below wq.heap.size wq X → Calls Try.prog 17 #[.pointer (some ⟨g1, 0, none⟩), .int .i64 (-1)] X fun e w' => e = .returned (.bool false) ∧ X = w' := fun X q => by
              have := on_any (hD.a.below q) hl1 (-1)
              rwa [if_neg (by decide)] at this
            have KE : ∀ X, Below wq.heap.size wq X → Calls Try.prog 17 #[.pointer (some ⟨g1, 0, none⟩), .int .i64 k] X fun e w' => e = .returned (.bool false) ∧ X = w' := fun X q => by
              have := on_any (hD.a.below q) hl1 (k : Int)
              rwa [if_pos (by omega), Int.toNat_natCast, List.getD_eq_getElem?_getD, List.getElem?_eq_none (by omega)] at this
            obtain ⟨bs, hbs⟩ : ∃ b, sn.sh = b := ⟨_, rfl⟩
            rw [hbs] at KSh y12
            have hX : ∀ X, Below wq.heap.size wq X → ((X.cell? ⟨P1, 0, none⟩ = some (.float .f64 td) ∧ X.cell? ⟨P1, 1, none⟩ = some (.bool tb) ∧ X.cell? ⟨P1, 2, none⟩ = some (.int .i64 tl) ∧ X.cell? ⟨P1, 3, none⟩ = some (.bool ts) ∧ X.cell? ⟨P1, 4, none⟩ = some (.slice A3 ne d3)) ∧ (X.cell? ⟨P2, 0, none⟩ = some (.float .f64 td) ∧ X.cell? ⟨P2, 1, none⟩ = some (.bool tb) ∧ X.cell? ⟨P2, 2, none⟩ = some (.int .i64 tl) ∧ X.cell? ⟨P2, 3, none⟩ = some (.bool ts) ∧ X.cell? ⟨P2, 4, none⟩ = some (.slice A4 ne d4)) ∧ X.cell? ⟨g2, 9, none⟩ = some (.slice (some ⟨go_, 0, none⟩) k co) ∧ X.cell? ⟨g2, 12, none⟩ = some (.bool bs)) := fun X q =>
              ⟨⟨(hbl X q _ hrP1).trans x0, (hbl X q _ hrP1).trans x1, (hbl X q _ hrP1).trans x2, (hbl X q _ hrP1).trans x3, (hbl X q _ hrP1).trans x4⟩, ⟨(hbl X q _ hrP2).trans z0, (hbl X q _ hrP2).trans z1, (hbl X q _ hrP2).trans z2, (hbl X q _ hrP2).trans z3, (hbl X q _ hrP2).trans z4⟩, (hbl X q _ hg2).trans y9, (hbl X q _ hg2).trans y12⟩
            have hz0 := hX _ hdr
            have n1 : (cd != cd) = false := by simp
            have n2 : (bs != bs) = false := by simp
            clear hD hr1 hr2 hO1 hO2 hq1 hq2 hS1 hS2 hvo hN hk' hkr' hkr hZ hbs hbl x0 x1 x2 x3 x4 z0 z1 z2 z3 z4 y9 y12 hne hnn hlon hlor hl1 hrl
            go_region_held3 (fun X => (X.cell? ⟨P1, 0, none⟩ = some (.float .f64 td) ∧ X.cell? ⟨P1, 1, none⟩ = some (.bool tb) ∧ X.cell? ⟨P1, 2, none⟩ = some (.int .i64 tl) ∧ X.cell? ⟨P1, 3, none⟩ = some (.bool ts) ∧ X.cell? ⟨P1, 4, none⟩ = some (.slice A3 ne d3)) ∧ (X.cell? ⟨P2, 0, none⟩ = some (.float .f64 td) ∧ X.cell? ⟨P2, 1, none⟩ = some (.bool tb) ∧ X.cell? ⟨P2, 2, none⟩ = some (.int .i64 tl) ∧ X.cell? ⟨P2, 3, none⟩ = some (.bool ts) ∧ X.cell? ⟨P2, 4, none⟩ = some (.slice A4 ne d4)) ∧ X.cell? ⟨g2, 9, none⟩ = some (.slice (some ⟨go_, 0, none⟩) k co) ∧ X.cell? ⟨g2, 12, none⟩ = some (.bool bs))
              (first | (with_reducible exact hz0) | (refine hX _ ?_; with_reducible exact q1))
              (first
                | (go_at_call 15; (with_reducible refine (K15).mono ?_); rintro e w6 ⟨rfl, hb6⟩; have q1 : Below wq.heap.size wq w6 := hdr.trans hb6; have KS6 := KSh _ q1; have KM6 := KM _ q1; have KE6 := KE _ q1)
                | (go_at_call 16; (with_reducible refine (KS6).mono ?_); rintro e w7 ⟨rfl, rfl⟩)
                | (go_at_call 17; (with_reducible refine (KM6).mono ?_); rintro e w7 ⟨rfl, rfl⟩)
                | (go_at_call 17; (with_reducible refine (KE6).mono ?_); rintro e w7 ⟨rfl, rfl⟩))
            all_goals go_wp2
            all_goals go_meet
            all_goals (case rel => exact ⟨rfl, q1⟩)
          obtain ⟨rfl, hbv⟩ := hcut
          obtain ⟨wv, rfl⟩ : ∃ x : World, x = wc := ⟨_, rfl⟩
          have hDv := hD.below hbv
          have hr1v := (hbv.block _ hrP1).trans hr1
          have hO1v := hO1.below hbv
          have y9v := (hbl wv hbv ⟨g2, 9, none⟩ hg2).trans y9
          have hrow : Hid (∀ (j : Nat) (hj : j < sn.on.length) (X : World), Drawn wv X → X.cell? ⟨g2, 9, none⟩ = some (.slice (some ⟨go_, 0, none⟩) k co) ∧ X.cell? ⟨go_, j, none⟩ = some (.bool sn.on[j])) := Lib.hid fun j hj X q => by
            have ho := hDv.b.on
            rw [hvo, hN.on] at ho
            have hc := ((ho.drawn q).cells (by rw [List.length_map]; exact hlon) (k := j) (by omega) (r := orow sn.on[j]) (by rw [List.getElem?_map, List.getElem?_eq_getElem hj]; rfl) (f := 0) (u := .bool sn.on[j]) rfl).1
            rw [Nat.mul_one, Nat.add_zero] at hc
            obtain ⟨m, rfl⟩ := q
            exact ⟨y9v, hc⟩
          have hKO : Hid (∀ (j : Nat) (hj : j < sn.on.length) (X : World), Drawn wv X → Calls Try.prog 17 #[.pointer (some ⟨g1, 0, none⟩), .int .i64 j] X fun e w' => e = .returned (.bool sn.on[j]) ∧ X = w') := Lib.hid fun j hj X q => by
            have := on_any (hDv.a.drawn q) hl1 (j : Int)
            rwa [if_pos (by omega), Int.toNat_natCast, List.getD_eq_getElem?_getD, List.getElem?_eq_getElem hj] at this
          replace hlon := Lib.hid hlon
          replace hDv := Lib.hid hDv
          replace hr1v := Lib.hid hr1v
          replace hO1v := Lib.hid hO1v
          replace hN := Lib.hid hN
          replace hk' := Lib.hid hk'
          replace hkr' := Lib.hid hkr'
          replace hq1 := Lib.hid hq1
          replace hbl := Lib.hid hbl
          have hne9 : Hid (ne ≤ 8) := Lib.hid hfw
          clear hD hr1 hr2 hO1 hO2 hq2 hS1 hS2 hvo hkr hbl x0 x1 x2 x3 x4 z0 z1 z2 z3 z4 y9 y12 hne hnn hlor hl1 hrl hbv hrP1 hrP2 hfw hk1 hcl KA y9v
          go_upto_region 18 with fail
          go_loopw [16] (fun s16 wr => ∃ j : Nat, j ≤ k ∧ s16 = .int .i64 j ∧ Drawn wv wr ∧ wr.cell? ⟨g2, 9, none⟩ = some (.slice (some ⟨go_, 0, none⟩) k co)) (fun s16 _ => k - (intOf s16).toNat)
          case atStart => exact ⟨0, by omega, rfl, Drawn.refl _, (hrow.out 0 (by have := hlon.out; have := hZ.n.1; have := hn.out; omega) wv (Drawn.refl _)).1⟩
          case round =>
            obtain ⟨j, hj, rfl, hd, y9⟩ := hrel
            obtain ⟨wz, rfl⟩ : ∃ x : World, x = wr := ⟨_, rfl⟩
            by_cases hjk : j < k
            · have hjk' : (j : Int) < (k : Int) := by omega
              have hjs : j < sn.on.length := by rw [hlon.out]; exact hjk
              have y0 := (hrow.out j hjs wz hd).2
              have KO := fun m => hKO.out j hjs (wz.drewN m) (hd.drewN m)
              generalize sn.on[j] = ob at *
              have n1 : (ob != ob) = false := by simp
              have hrel' : Hid (∀ m, Drawn wv (wz.drewN m) ∧ (wz.drewN m).cell? ⟨g2, 9, none⟩ = some (.slice (some ⟨go_, 0, none⟩) k co)) := Lib.hid fun m => ⟨hd.drewN m, y9⟩
              clear hrow hKO hd
              go_upto_region 20 with fail
              go_big_quiet ((go_at_call 17; (with_reducible exact quiet_same (KO _))))
              go_wp2
              go_roundw
              case rel => exact ⟨j + 1, by omega, by go_num, (hrel'.out _).1, (hrel'.out _).2⟩
              case measure => first | (simp [intOf]; done) | (simp [intOf]; omega)
            · have hjk' : ¬ (j : Int) < (k : Int) := by omega
              have hDz : Hid (Duw W wz Z B1 g1 B2 g2 v1 o1 v2 o2 sn rn) := Lib.hid (hDv.out.below (hd.below _))
              have hr1z := hr1v.out
              have hO1z : Hid (∃ rows : List (List Value), rows.length = ne ∧ Own wz (g2 + 1) 65 2 rows (.slice A3 ne d3)) := Lib.hid ⟨_, hO1len.out, hO1v.out.drawn hd⟩
              have hrz : Hid (wz.heap[P1]? = some (.cells #[.float .f64 td, .bool tb, .int .i64 tl, .bool ts, .slice A3 ne d3] 37)) := Lib.hid (by rw [hd.heap]; exact hr1z)
              clear hrow hKO hd hr1z hDv hr1v hO1v
              go_upto_region 23 with fail
              clear y9 hjk hjk' hj
              go_loopw [17] (fun s17 wr => ∃ (x : Nat) (rows : List (List Value)), x ≤ ne ∧ s17 = .int .i64 x ∧ rows.length = ne ∧ Own wr (g2 + 1) 65 2 rows (.slice A3 ne d3) ∧ wr.heap[P1]? = some (.cells #[.float .f64 td, .bool tb, .int .i64 tl, .bool ts, .slice A3 ne d3] 37) ∧ Duw W wr Z B1 g1 B2 g2 v1 o1 v2 o2 sn rn) (fun s17 _ => ne - (intOf s17).toNat)
              case atStart =>
                obtain ⟨rows, h1, h2⟩ := hO1z.out
                exact ⟨0, rows, by omega, rfl, h1, h2, hrz.out, hDz.out⟩
              case round =>
                obtain ⟨x, rows, hx, rfl, hrl, hO, hz, hD⟩ := hrel
                obtain ⟨wy, rfl⟩ : ∃ x : World, x = wr := ⟨_, rfl⟩
                have z4 : wy.cell? ⟨P1, 4, none⟩ = some (.slice A3 ne d3) := by rw [cell_of_row _ _ 4 _ 37 (0, 0) hz]; rfl
                clear hO1z hrz hDz
                by_cases hxe : x < ne
                · have hxe' : (x : Int) < (ne : Int) := by omega
                  obtain ⟨b1, e1, e2, hb1, hb2⟩ := own_form0 hO (by omega)
                  obtain rfl := (Value.slice.inj e2).1
                  have hbP := hq1.out b1 rfl
                  have hset : Hid (∃ rows' : List (List Value), rows'.length = ne ∧ Own ((wy.setCell ⟨b1, x * 2, none⟩ (.int .i64 (-1))).setCell ⟨b1, x * 2 + 1, none⟩ (.bool false)) (g2 + 1) 65 2 rows' (.slice (some ⟨b1, 0, none⟩) ne d3)) := Lib.hid (own_two hrl hO hxe _ _)
                  obtain ⟨a0, a1, q0, q1, f0, f1⟩ := own_free2 hrl hO hxe
                  have hz' : Hid (((wy.setCell ⟨b1, x * 2, none⟩ (.int .i64 (-1))).setCell ⟨b1, x * 2 + 1, none⟩ (.bool false)).heap[P1]? = some (.cells #[.float .f64 td, .bool tb, .int .i64 tl, .bool ts, .slice (some ⟨b1, 0, none⟩) ne d3] 37)) := Lib.hid (heap_set_far (heap_set_far hz (Ne.symm hbP) _) (Ne.symm hbP) _)
                  have hD' : Hid (Duw W ((wy.setCell ⟨b1, x * 2, none⟩ (.int .i64 (-1))).setCell ⟨b1, x * 2 + 1, none⟩ (.bool false)) Z B1 g1 B2 g2 v1 o1 v2 o2 sn rn) := Lib.hid (hD.above (((Below.refl _ _).setCell (p := ⟨b1, x * 2, none⟩) hb1 _).setCell (p := ⟨b1, x * 2 + 1, none⟩) hb1 _))
                  clear hO hz hD e2 hb1 hb2 hbP
                  have hx9 : (x : Int) < 8 := by have := hne9.out; omega
                  go_wp2
                  go_roundw
                  case rel =>
                    obtain ⟨rows', h1, h2⟩ := hset.out
                    exact ⟨x + 1, rows', by omega, by go_num, h1, h2, hz'.out, hD'.out⟩
                  case measure => first | (simp [intOf]; done) | (simp [intOf]; omega)
                · have hxe' : ¬ (x : Int) < (ne : Int) := by omega
                  replace hD := Lib.hid hD
                  clear hO hz
                  go_wp2
                  go_roundw
                  case rel => exact ⟨i + 1, sn, rn, by omega, by go_num, hk'.out, hkr'.out, hN.out, hD.out⟩
                  case measure => first | (simp [intOf]; done) | (simp [intOf]; omega)
end Go.Proofs.Ytdjdkhbagoideaa
