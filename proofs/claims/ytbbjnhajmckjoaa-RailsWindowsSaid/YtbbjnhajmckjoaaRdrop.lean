/- Rails: the reference's Drop, walked. -/
import Derived.Test.YtbbjnhajmckjoaaRset
namespace Go.Proofs.Ytbbjnhajmckjoaa
open Go.RowKit Go.BigFrame Go.Maps

/-- the document's set in memory -/
structure Rt (S : Nat → Prop) (w : World) (g : Nat) (A : Option Addr) (c : Nat) (lo hi st : Int) (m : Hl) (v t : Int) : Prop where
  r : w.heap[g]? = some (.cells (rrow lo hi st (.slice A m.length c) v t) 68)
  l : Hlr S w A m
  s : ∀ b, S b → b ≠ g
theorem Rt.fr {S : Nat → Prop} {w w' : World} {g : Nat} {A : Option Addr} {c : Nat} {lo hi st : Int} {m : Hl} {v t : Int} (h : Rt S w g A c lo hi st m v t) (f : Fr w.heap.size (fun b => b = g) w w') (hr : w'.heap[g]? = w.heap[g]?) : Rt S w' g A c lo hi st m v t :=
  ⟨hr.trans h.r, h.l.keep fun b hb hl => f.k b hl (h.s b hb), h.s⟩
theorem Rt.keep {S : Nat → Prop} {w w' : World} {g : Nat} {A : Option Addr} {c : Nat} {lo hi st : Int} {m : Hl} {v t : Int} (h : Rt S w g A c lo hi st m v t) (hk : ∀ b, b < w.heap.size → w'.heap[b]? = w.heap[b]?) : Rt S w' g A c lo hi st m v t :=
  ⟨(hk g (heap_lt h.r)).trans h.r, h.l.keep fun b _ hl => hk b hl, h.s⟩
theorem own_hlr {S : Nat → Prop} {w : World} {B : Nat} {e : TypeId} {l : Hl} {v : Value} (h : Own w B e 3 (l.map hrow) v) (hS : ∀ b, B ≤ b → S b) : ∃ A c, v = .slice A l.length c ∧ Hlr S w A l := by
  obtain ⟨A, c, hv, hs⟩ := h.sl
  exact ⟨A, c, by rw [hv, List.length_map], hs.mono fun b hb => hS b (h.lt b hb).1⟩
theorem del_same (k : Int) (m : Hl) : ((del k m).length = m.length) ↔ m.any (fun q => decide (q.1 = k)) = false := by
  unfold del
  rw [List.length_filter_eq_length_iff, List.any_eq_false]
  constructor
  · intro h q hq
    have := h q hq
    simpa using this
  · intro h q hq
    have := h q hq
    simpa using this
theorem del_step (k : Int) (m : Hl) {j : Nat} (hj : j < m.length) : del k (m.take (j + 1)) = del k (m.take j) ++ if (m[j]'hj).1 = k then [] else [m[j]'hj] := by
  rw [← List.take_append_getElem hj]
  unfold del
  rw [List.filter_append]
  congr 1
  by_cases h : (m[j]'hj).1 = k
  · rw [if_pos h]; simp [h]
  · rw [if_neg h]; simp [h]
/-- what set makes of a list of the call's own -/
theorem rset_to {S : Nat → Prop} {w wr w' : World} {g : Nat} {A A2 : Option Addr} {c c2 : Nat} {lo hi st : Int} {m m2 : Hl} {v t : Int} (hR : Rt S w g A c lo hi st m v t) (hb : Below w.heap.size w wr) (hL : Hlr S wr A2 m2)
    (hf : Fr wr.heap.size (fun b => b = g) wr w') (hy : (setr lo hi st m2).2 = 0 → w'.heap[g]? = some (.cells (rrow lo hi st (.slice A2 m2.length c2) (setr lo hi st m2).1 (turn v (setr lo hi st m2).1 t)) 68)) (hn : (setr lo hi st m2).2 ≠ 0 → w'.heap[g]? = some (.cells (rrow lo hi st (.slice A m.length c) v t) 68)) :
    Fr w.heap.size (fun b => b = g) w w' ∧ ∃ A' c', Rt S w' g A' c' lo hi st (layd lo hi st m v t m2).m (layd lo hi st m v t m2).v (layd lo hi st m v t m2).t := by
  refine ⟨(Fr.of hb).trans (hf.mono hb.size fun _ _ q => q), ?_⟩
  unfold layd
  by_cases hq : (setr lo hi st m2).2 = 0
  · rw [if_pos hq]
    exact ⟨A2, c2, hy hq, hL.keep fun b hb hl => hf.k b hl (hR.s b hb), hR.s⟩
  · rw [if_neg hq]
    exact ⟨A, c, hn hq, hR.l.keep fun b hb' hl => (hf.k b (Nat.lt_of_lt_of_le hl hb.size) (hR.s b hb')).trans (hb.block b hl), hR.s⟩
theorem layd_c (lo hi st : Int) (m : Hl) (v t : Int) (m2 : Hl) : (layd lo hi st m v t m2).c = (setr lo hi st m2).2 := by
  unfold layd
  by_cases hq : (setr lo hi st m2).2 = 0
  · rw [if_pos hq, hq]
  · rw [if_neg hq]
set_option maxHeartbeats 8000000 in
set_option maxRecDepth 100000 in
theorem rdrop_any {S : Nat → Prop} {w : World} {g : Nat} {A : Option Addr} {c : Nat} {lo hi st : Int} {m : Hl} {v t : Int} (hR : Rt S w g A c lo hi st m v t) (hlen : m.length ≤ 4096) (hnew : ∀ b, w.heap.size ≤ b → S b) (k : Int) :
    Calls Try.prog 30 #[.pointer (some ⟨g, 0, none⟩), .int .i64 k] w fun e w' => e = .returned (.int .i64 (dropd lo hi st m v t k).c) ∧ Fr w.heap.size (fun b => b = g) w w' ∧
      ∃ A' c', Rt S w' g A' c' lo hi st (dropd lo hi st m v t k).m (dropd lo hi st m v t k).v (dropd lo hi st m v t k).t := by
  have hgl := heap_lt hR.r
  have hfw := Lib.hid (fun (X : World) (q : Below w.heap.size w X) => And.intro (hR.l.below q) ((q.block _ hgl).trans hR.r))
  replace hR := Lib.hid hR
  replace hnew := Lib.hid hnew
  go_enter Try.func30, Try.ntmps30
  go_upto_region 3 with fail
  go_loopw [5, 6] (fun u i wr => ∃ j : Nat, j ≤ m.length ∧ i = .int .i64 j ∧ Own wr w.heap.size 116 3 ((del k (m.take j)).map hrow) u ∧ Below w.heap.size w wr) (fun _ i _ => m.length - (RowKit.intOf i).toNat)
  case atStart => exact ⟨0, by omega, rfl, Own.nil _ _ _ _, Below.refl _ _⟩
  case round =>
    obtain ⟨j, hj, rfl, hO, hb⟩ := hrel
    obtain ⟨wk, rfl⟩ : ∃ y : World, y = wr := ⟨_, rfl⟩
    obtain ⟨hLk, hrk⟩ := hfw.out wk hb
    have c3 : wk.cell? ⟨g, 3, none⟩ = some (.slice A m.length c) := by rw [cell_of_row _ _ 3 _ 68 (0, 0) hrk]; rfl
    by_cases hjm : j = m.length
    · subst hjm
      clear hj
      rw [List.take_length] at hO
      obtain ⟨A2, c2, rfl, hL2⟩ := own_hlr hO hnew.out
      have KS := rset_any hrk (del k m) A2 c2 hL2 (by have := del_len k m; omega)
      by_cases hs : (del k m).length = m.length
      · have hB := (del_same k m).1 hs
        have e : Hid (dropd lo hi st m v t k = ⟨6, m, v, t⟩) := Lib.hid (by unfold dropd; rw [hB]; rfl)
        rw [hs]
        clear KS hL2 hO hLk hrk hfw hs hB
        replace hb := Lib.hid hb
        go_wp2
        go_ret
        rw [e.out]
        exact ⟨rfl, Fr.of hb.out, A, c, hR.out.keep fun b hl => hb.out.block b hl⟩
      · have hB : m.any (fun q => decide (q.1 = k)) = true := by
          cases h : m.any (fun q => decide (q.1 = k)) with
          | false => exact absurd ((del_same k m).2 h) hs
          | true => rfl
        have e : Hid (dropd lo hi st m v t k = layd lo hi st m v t (del k m)) := Lib.hid (by unfold dropd; rw [hB]; rfl)
        have hs' : ¬ (((del k m).length : Nat) : Int) = ((m.length : Nat) : Int) := by omega
        have hs2 : (((del k m).length : Int) == (m.length : Int)) = false := by rw [beq_eq_false_iff_ne]; omega
        replace hb := Lib.hid hb
        replace hL2 := Lib.hid hL2
        clear hO hLk hrk hfw hs hB
        generalize hmm : del k m = mm at *
        go_wp2_with (go_at_call 56; (with_reducible refine (KS).mono ?_); rintro e1 w1 ⟨rfl, hf, hy, hn⟩)
        go_ret
        obtain ⟨r1, r2⟩ := rset_to (c2 := c2) hR.out hb.out hL2.out hf hy hn
        rw [e.out, layd_c]
        exact ⟨rfl, r1, r2⟩
    · have hlt : j < m.length := by omega
      have hlt' : (j : Int) < (m.length : Int) := by omega
      obtain ⟨b, o, rfl, -, hb1, x0, x1, x2⟩ := hLk.at_ hlt
      have hstep := del_step k m hlt
      have hlk : Hid (((del k (m.take j)).map hrow).length ≤ 4096) := Lib.hid (by
        have := del_len k (m.take j)
        rw [List.length_map]
        rw [List.length_take] at this
        omega)
      generalize hq : m[j]'hlt = q at *
      obtain ⟨q0, q1, q2⟩ := q
      simp only at x0 x1 x2 hstep
      have hB := hb.size
      clear hfw hLk hrk hR hq
      by_cases hqk : q0 = k
      · rw [if_pos hqk, List.append_nil] at hstep
        have n1 : (q0 != k) = false := by simpa using hqk
        replace hstep := Lib.hid hstep
        clear hqk x1 x2
        go_wp2
        go_roundw
        case rel => exact ⟨j + 1, by omega, by go_num, by rw [hstep.out]; exact hO, hb⟩
        case measure => first | (simp [RowKit.intOf]; done) | (simp [RowKit.intOf]; omega)
      · rw [if_neg hqk] at hstep
        have n1 : (q0 != k) = true := by simpa using hqk
        replace hstep := Lib.hid hstep
        clear hqk
        go_wp2_with (at_builtin; refine wpList_push elt66 rfl _ _ rfl rfl (hO.alloc _) [.int .i64 q0, .int .i64 q1, .int .i64 q2] wk.heap.size 116 rfl (heap_alloc_at _ _) rfl (by simp [Value.oneCell']) (by have := hlk.out; omega) (by rw [size_al]; omega) ?_; intro v' w1 ho' hb' hs' _ _)
        go_roundw
        case rel =>
          refine ⟨j + 1, by omega, by go_num, ?_, (below_al hb _).trans hb'⟩
          rw [hstep.out, List.map_append]
          exact ho'
        case measure => first | (simp [RowKit.intOf]; done) | (simp [RowKit.intOf]; omega)
end Go.Proofs.Ytbbjnhajmckjoaa
