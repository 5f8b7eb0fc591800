/- Rails: the reference's set: whoever holds it laid down; walked. -/
import Derived.Test.YtbbjnhajmckjoaaDrop
namespace Go.Proofs.Ytbbjnhajmckjoaa
open Go.RowKit Go.BigFrame Go.Maps

def hrow (q : Int × Pt) : List Value := [.int .i64 q.1, .int .i64 q.2.1, .int .i64 q.2.2]
def Hlr (S : Nat → Prop) (w : World) (A : Option Addr) (l : Hl) : Prop := Sl S w A 3 (l.map hrow)
theorem Hlr.at_ {S : Nat → Prop} {w : World} {A : Option Addr} {l : Hl} (h : Hlr S w A l) {k : Nat} (hk : k < l.length) :
    ∃ b o, A = some ⟨b, o, none⟩ ∧ S b ∧ b < w.heap.size ∧ w.cell? ⟨b, o + k * 3, none⟩ = some (.int .i64 (l[k]'hk).1) ∧ w.cell? ⟨b, o + k * 3 + 1, none⟩ = some (.int .i64 (l[k]'hk).2.1) ∧ w.cell? ⟨b, o + k * 3 + 2, none⟩ = some (.int .i64 (l[k]'hk).2.2) := by
  obtain ⟨b, o, e, hs, hl, hc⟩ := Sl.at_ h (k := k) (by simpa using hk)
  refine ⟨b, o, e, hs, hl, ?_, ?_, ?_⟩
  · have := hc 0 (.int .i64 (l[k]'hk).1) (by simp [hrow])
    rw [Nat.add_zero] at this; exact this
  · exact hc 1 (.int .i64 (l[k]'hk).2.1) (by simp [hrow])
  · exact hc 2 (.int .i64 (l[k]'hk).2.2) (by simp [hrow])
theorem Hlr.le {S : Nat → Prop} {w : World} {A : Option Addr} {l : Hl} (h : Hlr S w A l) : l.length ≤ 9223372036854775807 := by
  have := Sl.le h; simpa using this
theorem Hlr.below {S : Nat → Prop} {w w' : World} {A : Option Addr} {l : Hl} (h : Hlr S w A l) (d : Below w.heap.size w w') : Hlr S w' A l := Sl.below' h d
theorem elt66 : Elt Try.prog 66 116 3 24 := Elt.of (z := .agg #[.int .i64 0, .int .i64 0, .int .i64 0]) Try.underlying66 (by kernel_rfl) rfl (by decide) (by decide)
def rrow (lo hi st : Int) (x : Value) (v t : Int) : Array Value := #[.int .i64 lo, .int .i64 hi, .int .i64 st, x, .int .i64 v, .int .i64 t]
set_option maxHeartbeats 8000000 in
set_option maxRecDepth 100000 in
theorem rset_any {S : Nat → Prop} {w : World} {g : Nat} {lo hi st : Int} {x : Value} {v t : Int} (hr : w.heap[g]? = some (.cells (rrow lo hi st x v t) 68)) (m2 : Hl) (A : Option Addr) (c : Nat) (hL : Hlr S w A m2) (hlen : m2.length ≤ 5000) :
    Calls Try.prog 56 #[.pointer (some ⟨g, 0, none⟩), .slice A m2.length c] w fun e w' => e = .returned (.int .i64 (setr lo hi st m2).2) ∧ Fr w.heap.size (fun b => b = g) w w' ∧
      ((setr lo hi st m2).2 = 0 → w'.heap[g]? = some (.cells (rrow lo hi st (.slice A m2.length c) (setr lo hi st m2).1 (turn v (setr lo hi st m2).1 t)) 68)) ∧ ((setr lo hi st m2).2 ≠ 0 → w'.heap[g]? = some (.cells (rrow lo hi st x v t) 68)) := by
  have hfw := Lib.hid (fun (X : World) (q : Below w.heap.size w X) => hL.below q)
  have hgl := heap_lt hr
  replace hr := Lib.hid hr
  clear hL
  go_enter Try.func56, Try.ntmps56
  go_upto_region 3 with fail
  go_loopw [5, 6] (fun u i wr => ∃ k : Nat, k ≤ m2.length ∧ i = .int .i64 k ∧ Own wr w.heap.size 57 2 (((m2.map (·.2)).take k).map prow) u ∧ Below w.heap.size w wr) (fun _ i _ => m2.length - (RowKit.intOf i).toNat)
  case atStart => exact ⟨0, by omega, rfl, Own.nil _ _ _ _, Below.refl _ _⟩
  case round =>
    obtain ⟨k, hk, rfl, hO, hb⟩ := hrel
    obtain ⟨wk, rfl⟩ : ∃ y : World, y = wr := ⟨_, rfl⟩
    by_cases hkm : k = m2.length
    · subst hkm
      clear hk
      rw [List.take_of_length_le (by rw [List.length_map]; exact Nat.le_refl _)] at hO
      obtain ⟨A5, c5, rfl, hP⟩ := hO.pts
      have KM := rmeet_any lo hi st (m2.map (·.2)) A5 c5 wk hP
      rw [List.length_map] at KM ⊢
      have hrk := (hb.block _ hgl).trans hr.out
      have hst : Hid (∀ (X : World) (v' : Int) (_ : Below w.heap.size w X), Fr w.heap.size (fun b => b = g) w ((X.setCell ⟨g, 4, none⟩ (.int .i64 v')).setCell ⟨g, 3, none⟩ (.slice A m2.length c)) ∧
          ((X.setCell ⟨g, 4, none⟩ (.int .i64 v')).setCell ⟨g, 3, none⟩ (.slice A m2.length c)).heap[g]? = some (.cells (rrow lo hi st (.slice A m2.length c) v' t) 68)) := Lib.hid fun X v' q => by
        refine ⟨((Fr.of q : Fr _ (fun b => b = g) _ _).set (p := ⟨g, 4, none⟩) (fun _ => rfl) _).set (p := ⟨g, 3, none⟩) (fun _ => rfl) _, ?_⟩
        exact heap_set (heap_set ((q.block _ hgl).trans hr.out) 4 _) 3 _
      have hst5 : Hid (∀ (X : World) (v' t' : Int) (_ : Below w.heap.size w X), Fr w.heap.size (fun b => b = g) w (((X.setCell ⟨g, 5, none⟩ (.int .i64 t')).setCell ⟨g, 4, none⟩ (.int .i64 v')).setCell ⟨g, 3, none⟩ (.slice A m2.length c)) ∧
          (((X.setCell ⟨g, 5, none⟩ (.int .i64 t')).setCell ⟨g, 4, none⟩ (.int .i64 v')).setCell ⟨g, 3, none⟩ (.slice A m2.length c)).heap[g]? = some (.cells (rrow lo hi st (.slice A m2.length c) v' t') 68)) := Lib.hid fun X v' t' q => by
        refine ⟨(((Fr.of q : Fr _ (fun b => b = g) _ _).set (p := ⟨g, 5, none⟩) (fun _ => rfl) _).set (p := ⟨g, 4, none⟩) (fun _ => rfl) _).set (p := ⟨g, 3, none⟩) (fun _ => rfl) _, ?_⟩
        exact heap_set (heap_set (heap_set ((q.block _ hgl).trans hr.out) 5 _) 4 _) 3 _
      have c0 : wk.cell? ⟨g, 0, none⟩ = some (.int .i64 lo) := by rw [cell_of_row _ _ 0 _ 68 (0, 0) hrk]; rfl
      have c1 : wk.cell? ⟨g, 1, none⟩ = some (.int .i64 hi) := by rw [cell_of_row _ _ 1 _ 68 (0, 0) hrk]; rfl
      have c2 : wk.cell? ⟨g, 2, none⟩ = some (.int .i64 st) := by rw [cell_of_row _ _ 2 _ 68 (0, 0) hrk]; rfl
      have c3 : wk.cell? ⟨g, 3, none⟩ = some x := by rw [cell_of_row _ _ 3 _ 68 (0, 0) hrk]; rfl
      have c4 : wk.cell? ⟨g, 4, none⟩ = some (.int .i64 v) := by rw [cell_of_row _ _ 4 _ 68 (0, 0) hrk]; rfl
      have c5' : wk.cell? ⟨g, 5, none⟩ = some (.int .i64 t) := by rw [cell_of_row _ _ 5 _ 68 (0, 0) hrk]; rfl
      have f3 := frozen_row hrk 3
      have f4 := frozen_row hrk 4
      have f5 := frozen_row hrk 5
      replace hb := Lib.hid hb
      replace hrk := Lib.hid hrk
      clear hfw hr hO hP
      by_cases hm0 : m2 = []
      · subst hm0
        have e : Hid (setr lo hi st [] = (0, 0)) := Lib.hid rfl
        clear KM
        by_cases hv : 0 = v
        · subst hv
          clear hst5
          go_wp2
          go_ret
          rw [e.out]
          exact ⟨rfl, (hst.out wk 0 hb.out).1, fun _ => (hst.out wk 0 hb.out).2, fun q => absurd rfl q⟩
        · have hv' : ((0 : Int) != v) = true := by simpa using hv
          have htn : Hid (turn v 0 t = wrap64 (t + 1)) := Lib.hid (if_neg hv)
          clear hst hv
          go_wp2
          go_ret
          rw [e.out]
          exact ⟨rfl, (hst5.out wk 0 _ hb.out).1, fun _ => by rw [htn.out]; exact (hst5.out wk 0 _ hb.out).2, fun q => absurd rfl q⟩
      · have e : Hid (setr lo hi st m2 = meet lo hi st (m2.map (·.2))) := Lib.hid (if_neg hm0)
        have hpos : (0 : Int) < ((m2.length : Nat) : Int) := by
          have := List.length_pos_iff.2 hm0
          omega
        clear hm0
        generalize meet lo hi st (m2.map (·.2)) = q at *
        obtain ⟨q1, q2⟩ := q
        simp only at KM
        have hb2 : ∀ X, Below wk.heap.size wk X → Below w.heap.size w X := fun X d => hb.out.trans (d.mono hb.out.size)
        replace hb2 := Lib.hid hb2
        have hgk := heap_lt hrk.out
        go_upto_region 9 with (go_at_call 22; (with_reducible refine (KM).mono ?_); rintro e1 w1 ⟨rfl, hb1⟩)
        have d3 := (hb1.cell (p := ⟨g, 3, none⟩) hgk).trans c3
        have d4 := (hb1.cell (p := ⟨g, 4, none⟩) hgk).trans c4
        have d5 := (hb1.cell (p := ⟨g, 5, none⟩) hgk).trans c5'
        have hr1 := (hb1.block _ hgk).trans hrk.out
        have g3 := frozen_row hr1 3
        have g4 := frozen_row hr1 4
        have g5 := frozen_row hr1 5
        have hbw := Lib.hid (hb2.out _ hb1)
        replace hr1 := Lib.hid hr1
        clear c0 c1 c2 c3 c4 c5' f3 f4 f5 hb1 hb2 hpos hgk hrk hb
        by_cases hq : q2 = 0
        · subst hq
          by_cases hv : q1 = v
          · subst hv
            have htn : Hid (turn q1 q1 t = t) := Lib.hid (if_pos rfl)
            have hv' : (q1 != q1) = false := by simp
            clear hst5
            go_wp2
            go_ret
            rw [e.out]
            exact ⟨rfl, (hst.out _ _ hbw.out).1, fun _ => by simp only; rw [htn.out]; exact (hst.out _ _ hbw.out).2, fun q => absurd rfl q⟩
          · have hv' : (q1 != v) = true := by simpa using hv
            have htn : Hid (turn v q1 t = wrap64 (t + 1)) := Lib.hid (if_neg hv)
            clear hst hv
            go_wp2
            go_ret
            rw [e.out]
            exact ⟨rfl, (hst5.out _ _ _ hbw.out).1, fun _ => by simp only; rw [htn.out]; exact (hst5.out _ _ _ hbw.out).2, fun q => absurd rfl q⟩
        · have hq' : (q2 != 0) = true := by simpa using hq
          replace hq := Lib.hid hq
          go_wp2
          go_ret
          rw [e.out]
          exact ⟨rfl, Fr.of hbw.out, fun q => absurd q hq.out, fun _ => hr1.out⟩
    · have hlt : k < m2.length := by omega
      have hlt' : (k : Int) < (m2.length : Int) := by omega
      obtain ⟨b, o, rfl, -, hb1, -, c1, c2⟩ := (hfw.out wk hb).at_ hlt
      have hrow : Hid (((m2.map (·.2)).take (k + 1)).map prow = ((m2.map (·.2)).take k).map prow ++ [[.int .i64 (m2[k]'hlt).2.1, .int .i64 (m2[k]'hlt).2.2]]) := Lib.hid (by
        rw [← List.take_append_getElem (by rw [List.length_map]; exact hlt), List.map_append, List.getElem_map]; rfl)
      have hlk : Hid ((((m2.map (·.2)).take k).map prow).length = k) := Lib.hid (by rw [List.length_map, List.length_take, List.length_map]; omega)
      generalize (m2[k]'hlt).2.1 = y1 at *
      generalize (m2[k]'hlt).2.2 = y2 at *
      have hB := hb.size
      clear hfw hr
      go_wp2_with (at_builtin; refine wpList_push elt46 rfl _ _ rfl rfl (hO.alloc _) [.int .i64 y1, .int .i64 y2] wk.heap.size 57 rfl (heap_alloc_at _ _) rfl (by simp [Value.oneCell']) (by rw [hlk.out]; omega) (by rw [size_al]; omega) ?_; intro v' w1 ho' hb' hs' _ _)
      go_roundw
      case rel =>
        refine ⟨k + 1, by omega, by go_num, ?_, (below_al hb _).trans hb'⟩
        rw [hrow.out]
        exact ho'
      case measure => first | (simp [RowKit.intOf]; done) | (simp [RowKit.intOf]; omega)
end Go.Proofs.Ytbbjnhajmckjoaa
