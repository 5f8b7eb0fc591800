/- Heat: the reference's Same; walked. -/
import Derived.Test.YtdjdkhbagoideaaDoorRf6
namespace Go.Proofs.YtdjdkhbagoideaaDoor
open Go.RowKit Go.BigFrame flt Ieee

theorem eqFields_one {P : Program} (w : World) (d : Nat) (xs : Array Value) : ∀ (fs : List Field), (∀ f ∈ fs, ∃ v, (Go.part f.type xs f.offset).run P w = .ok v w ∧ (Op.equalIn (d + 1) f.type v v).run P w = .ok true w) → (Op.eqFields (d + 1) xs xs fs).run P w = .ok true w
  | [], _ => by simp [Op.eqFields]
  | f :: fs, h => by
    obtain ⟨v, h1, h2⟩ := h f (by simp)
    have ih := eqFields_one w d xs fs fun g hg => h g (by simp [hg])
    unfold Op.eqFields
    split
    · simp only [Sem.run_bind, h1, h2, Result.andThen_ok]
      simpa using ih
    · exact ih
theorem fields_all {P : Program} {t : TypeId} {L : List (TypeId × Nat)} (h : ((Program.fieldsOf P t).toList.map fun f => (f.type, f.offset)) = L) {f : Field} (hf : f ∈ (Program.fieldsOf P t).toList) : (f.type, f.offset) ∈ L := by
  rw [← h]; exact List.mem_map_of_mem hf
theorem part_one (W : World) (T : TypeId) (hT : (isAgg T).run Tryd.prog W = .ok false W) (xs : Array Value) (i : Nat) (v : Value) (hv : xs[i]? = some v) : (Go.part T xs i).run Tryd.prog W = .ok v W := by
  simp [Go.part, Sem.run_bind, hT, hv]
theorem eq_turn (W : World) (a : Int) (b : Bool) : (Op.equalIn 10000 103 (.agg #[.int .i64 a, .bool b]) (.agg #[.int .i64 a, .bool b])).run Tryd.prog W = .ok true W := by
  rw [show (10000 : Nat) = 9998 + 1 + 1 from rfl, run_equalIn_struct W (9998 + 1) 103 _ _ (by kernel_rfl) (by kernel_rfl)]
  refine eqFields_one W 9998 _ _ fun f hf => ?_
  have hm := fields_all (P := Tryd.prog) (t := 103) (L := [(3, 0), (4, 1)]) (by kernel_rfl) hf
  simp only [List.mem_cons, Prod.mk.injEq, List.not_mem_nil, or_false] at hm
  rcases hm with ⟨e1, e2⟩ | ⟨e1, e2⟩
  · rw [e1, e2]
    refine ⟨.int .i64 a, part_one W _ (by kernel_rfl) _ _ _ rfl, ?_⟩
    rw [run_equalIn_int W 9998 3 .i64 .i64 _ _ Tryd.underlying3]
    simp
  · rw [e1, e2]
    refine ⟨.bool b, part_one W _ (by kernel_rfl) _ _ _ rfl, ?_⟩
    rw [run_equalIn_bool' W 9998 4 _ _ Tryd.underlying4]
    simp
set_option maxHeartbeats 4000000 in
set_option maxRecDepth 100000 in
theorem same_any (d : Nat) (br : Bool) (lv : Int) (sh : Bool) (ev : List (Nat × Bool)) (n : Nat) (hn : ev.length = n) (hd : nn d) (A B : Option Addr) (c c2 : Nat) (w : World) (ha : Sl (fun _ => True) w A 2 (ev.map erow)) (hb : Sl (fun _ => True) w B 2 (ev.map erow)) :
    Calls Tryd.prog 51 #[.agg #[.float .f64 d, .bool br, .int .i64 lv, .bool sh, .slice A n c], .agg #[.float .f64 d, .bool br, .int .i64 lv, .bool sh, .slice B n c2]] w fun e w' => e = .returned (.bool true) ∧ Below w.heap.size w w' := by
  have hlen := ha.le
  rw [List.length_map, hn] at hlen
  have hA := Lib.hid (fun (X : World) (q : Below w.heap.size w X) (k : Nat) (hk : k < (ev.map erow).length) => (ha.below' q).at_ hk)
  have hB := Lib.hid (fun (X : World) (q : Below w.heap.size w X) (k : Nat) (hk : k < (ev.map erow).length) => (hb.below' q).at_ hk)
  replace hn := Lib.hid hn
  clear ha hb
  have e1 : (FloatKind.f64.format.order d d != some .eq) = false := by
    have := order_key hd hd
    rw [show FloatKind.f64.format.order d d = double.order d d from rfl, this]
    rcases cmp_cases (key d) (key d) with ⟨h, e⟩ | ⟨h, e⟩ | ⟨h, e⟩
    · omega
    · rw [e]; rfl
    · omega
  have e2 : (br != br) = false := by simp
  have e3 : (lv != lv) = false := by simp
  have e4 : (sh != sh) = false := by simp
  have e5 : ((n : Int) != (n : Int)) = false := by simp
  clear hd
  have hb0 := below_al (below_al (Below.refl w.heap.size w) (.cells #[.float .f64 d, .bool br, .int .i64 lv, .bool sh, .slice A n c] 89)) (.cells #[.float .f64 d, .bool br, .int .i64 lv, .bool sh, .slice B n c2] 89)
  have hx0 := heap_alloc (o := .cells #[.float .f64 d, .bool br, .int .i64 lv, .bool sh, .slice B n c2] 89) (heap_alloc_at w (.cells #[.float .f64 d, .bool br, .int .i64 lv, .bool sh, .slice A n c] 89))
  have hy0 := heap_alloc_at' (w.alloc (.cells #[.float .f64 d, .bool br, .int .i64 lv, .bool sh, .slice A n c] 89)) (.cells #[.float .f64 d, .bool br, .int .i64 lv, .bool sh, .slice B n c2] 89) (w.heap.size + 1) (by rw [size_al])
  go_enter Tryd.func51, Tryd.ntmps51
  go_upto_region 1 with fail
  generalize (w.alloc _).alloc _ = w0 at *
  have x0 : w0.cell? ⟨w.heap.size, 0, none⟩ = some (.float .f64 d) := by rw [cell_of_row _ _ 0 _ 89 (0, 0) hx0]; rfl
  have x1 : w0.cell? ⟨w.heap.size, 1, none⟩ = some (.bool br) := by rw [cell_of_row _ _ 1 _ 89 (0, 0) hx0]; rfl
  have x2 : w0.cell? ⟨w.heap.size, 2, none⟩ = some (.int .i64 lv) := by rw [cell_of_row _ _ 2 _ 89 (0, 0) hx0]; rfl
  have x3 : w0.cell? ⟨w.heap.size, 3, none⟩ = some (.bool sh) := by rw [cell_of_row _ _ 3 _ 89 (0, 0) hx0]; rfl
  have x4 : w0.cell? ⟨w.heap.size, 4, none⟩ = some (.slice A n c) := by rw [cell_of_row _ _ 4 _ 89 (0, 0) hx0]; rfl
  have y0 : w0.cell? ⟨w.heap.size + 1, 0, none⟩ = some (.float .f64 d) := by rw [cell_of_row _ _ 0 _ 89 (0, 0) hy0]; rfl
  have y1 : w0.cell? ⟨w.heap.size + 1, 1, none⟩ = some (.bool br) := by rw [cell_of_row _ _ 1 _ 89 (0, 0) hy0]; rfl
  have y2 : w0.cell? ⟨w.heap.size + 1, 2, none⟩ = some (.int .i64 lv) := by rw [cell_of_row _ _ 2 _ 89 (0, 0) hy0]; rfl
  have y3 : w0.cell? ⟨w.heap.size + 1, 3, none⟩ = some (.bool sh) := by rw [cell_of_row _ _ 3 _ 89 (0, 0) hy0]; rfl
  have y4 : w0.cell? ⟨w.heap.size + 1, 4, none⟩ = some (.slice B n c2) := by rw [cell_of_row _ _ 4 _ 89 (0, 0) hy0]; rfl
  clear hx0 hy0
  go_upto_region 4 with fail
  have hz := Lib.hid (fun (X : World) (q : Drawn w0 X) => (show X.cell? ⟨w.heap.size, 4, none⟩ = some (.slice A n c) ∧ X.cell? ⟨w.heap.size + 1, 4, none⟩ = some (.slice B n c2) by obtain ⟨m, rfl⟩ := q; exact ⟨x4, y4⟩))
  clear x0 x1 x2 x3 x4 y0 y1 y2 y3 y4 e1 e2 e3 e4 e5
  go_loopw [5] (fun i wr => ∃ k : Nat, k ≤ n ∧ i = .int .i64 k ∧ Drawn w0 wr) (fun i _ => n - (intOf i).toNat)
  case atStart => exact ⟨0, by omega, rfl, Drawn.refl _⟩
  case round =>
    obtain ⟨k, hk, rfl, hd⟩ := hrel
    obtain ⟨wk, rfl⟩ : ∃ y : World, y = wr := ⟨_, rfl⟩
    obtain ⟨x4, y4⟩ := hz.out wk hd
    by_cases hkn : k = n
    · subst hkn
      go_wp2
      go_ret
      exact ⟨rfl, hb0.trans (hd.below _)⟩
    · have hlt : k < n := by omega
      have hlt' : (k : Int) < (n : Int) := by omega
      have hkm : k < ev.length := by rw [hn.out]; exact hlt
      have hbk := hb0.trans (hd.below _)
      obtain ⟨b1, o1, rfl, -, -, q1⟩ := hA.out wk hbk k (by rw [List.length_map]; exact hkm)
      obtain ⟨b2, o2, rfl, -, -, q2⟩ := hB.out wk hbk k (by rw [List.length_map]; exact hkm)
      have p0 : wk.cell? ⟨b1, o1 + k * 2, none⟩ = some (.int .i64 ev[k].1) := q1 0 (.int .i64 ev[k].1) (by simp [erow])
      have p1 : wk.cell? ⟨b1, o1 + k * 2 + 1, none⟩ = some (.bool ev[k].2) := q1 1 (.bool ev[k].2) (by simp [erow])
      have r0 : wk.cell? ⟨b2, o2 + k * 2, none⟩ = some (.int .i64 ev[k].1) := q2 0 (.int .i64 ev[k].1) (by simp [erow])
      have r1 : wk.cell? ⟨b2, o2 + k * 2 + 1, none⟩ = some (.bool ev[k].2) := q2 1 (.bool ev[k].2) (by simp [erow])
      have E := fun W => eq_turn W (ev[k].1 : Int) ev[k].2
      clear q1 q2 hkn
      generalize (ev[k].1 : Int) = qa at *
      generalize ev[k].2 = qb at *
      clear hA hB hz
      go_upto_region 6 with fail
      go_big_quiet (fail)
      go_wp2
      go_roundw
      case rel => exact ⟨k + 1, by omega, by go_num, hd.drewN _⟩
      case measure => first | (simp [intOf]; done) | (simp [intOf]; omega)
end Go.Proofs.YtdjdkhbagoideaaDoor
