/- Rails: Drop. -/
import Derived.Test.YtbbjnhajmckjoaaSet
namespace Go.Proofs.Ytbbjnhajmckjoaa
open Go.RowKit Go.BigFrame Go.Maps

def dropd (lo hi st : Int) (m : Hl) (v t : Int) (k : Int) : Sr := if m.any (fun q => decide (q.1 = k)) then layd lo hi st m v t (del k m) else ⟨6, m, v, t⟩
theorem has_any (k : Int) (m : Hl) : Maps.has (dmap m) (kd k) = m.any (fun q => decide (q.1 = k)) := by
  show (m.map ent).any _ = _
  rw [List.any_map]
  congr 1
  funext q
  exact same_kd q.1 k
theorem rdW_at {m : Hl} {k : Int} {v : Value} {ps : List MemPlace} (h : rdW v = some ((dmap m).atKey (kd k) (wdat (0, 0)), ps)) : ∃ p : Pt, v = .agg #[.int .i64 p.1, .int .i64 p.2] := by
  obtain ⟨p, hv, _⟩ := rdW_inv h
  exact ⟨p, hv⟩
theorem del_len (k : Int) (m : Hl) : (del k m).length ≤ m.length := List.length_filter_le _ _
set_option maxHeartbeats 4000000 in
set_option maxRecDepth 100000 in
theorem drop_any {w : World} {g b : Nat} {lo hi st : Int} {m : Hl} {v t : Int} (hS : St w g b lo hi st m v t) (k : Int) (hk : (Lit.int .i64 k).wf = true) :
    Calls Try.prog 25 #[.pointer (some ⟨g, 0, none⟩), .int .i64 k] w fun e w' => e = .returned (.int .i64 (dropd lo hi st m v t k).c) ∧ Fr w.heap.size (fun x => x = g) w w' ∧
      ∃ b', St w' g b' lo hi st (dropd lo hi st m v t k).m (dropd lo hi st m v t k).v (dropd lo hi st m v t k).t ∧ (b' = b ∨ w.heap.size ≤ b') := by
  have hkey := keyOf_int_mk Try.underlying3 hk
  have c3 := hS.cl 3 (x := .map (some b)) rfl
  have hgl := heap_lt hS.r
  have ho := hS.o
  obtain ⟨B, hB⟩ : ∃ B, m.any (fun q => decide (q.1 = k)) = B := ⟨_, rfl⟩
  have hhas := has_any k m
  rw [hB] at hhas
  have hz : ∀ X : World, (zeroValue 58).run Try.prog X = .ok (.agg #[.int .i64 0, .int .i64 0]) X := zero58
  have hlen := whos_len hS.up hS.wh
  cases B with
  | false =>
    have e : Hid (dropd lo hi st m v t k = ⟨6, m, v, t⟩) := Lib.hid (by unfold dropd; rw [hB]; rfl)
    replace hS := Lib.hid hS
    go_enter Try.func25, Try.ntmps25
    go_wp2_with (first
      | (at_lookup; refine wpList_lookup_own_ok _ rfl _ _ 105 rfl 3 58 (int_keyed Try.underlying3) Try.underlying105 rdW (hz _) (wdat (0, 0)) [] (rdW_mk (0, 0)) b _ _ rfl ho _ _ rfl hkey ?_; intro v ps hv; obtain ⟨p, rfl⟩ := rdW_at hv; rw [hhas]))
    go_ret
    rw [e.out]
    exact ⟨rfl, Fr.of (below_al (Below.refl _ _) _), b, hS.out.below (below_al (Below.refl _ _) _), Or.inl rfl⟩
  | true =>
    have e : Hid (dropd lo hi st m v t k = layd lo hi st m v t (del k m)) := Lib.hid (by unfold dropd; rw [hB]; rfl)
    have KC := fun (X : World) (q : Below w.heap.size w X) => clone_any (hS.below q).o
    have KL := fun (X : World) (b2 : Nat) (h : X.ownsMap Try.prog 3 rdW b2 (del k m).length (dmap (del k m))) (q : Below w.heap.size w X) => lay_any (hS.below q) h (del_rising hS.up) (del_whos hS.wh)
    have hdel := Lib.hid (dmap_del k m)
    replace hS := Lib.hid hS
    generalize hmm : del k m = mm at *
    replace hmm := Lib.hid hmm
    clear hB
    go_enter Try.func25, Try.ntmps25
    go_wp2_with (first
      | (at_lookup; refine wpList_lookup_own_ok _ rfl _ _ 105 rfl 3 58 (int_keyed Try.underlying3) Try.underlying105 rdW (hz _) (wdat (0, 0)) [] (rdW_mk (0, 0)) b _ _ rfl ho _ _ rfl hkey ?_; intro v ps hv; obtain ⟨p, rfl⟩ := rdW_at hv; rw [hhas]
         have hb0 := below_al (Below.refl w.heap.size w) (.cells #[.int .i64 p.1, .int .i64 p.2] 58))
      | (go_at_call 52; (with_reducible refine (KC _ hb0).mono ?_); rintro e1 w1 ⟨rfl, ho1, hb1⟩
         have k1 : Below w.heap.size w w1 := hb0.trans (hb1.mono hb0.size)
         rw [size_al] at ho1
         have hlt1 := ho1.lt)
      | (at_delete; refine wpList_delete_own _ rfl _ _ 105 3 rfl 58 (int_keyed Try.underlying3) Try.underlying105 rdW _ m.length _ rfl ho1 _ _ rfl hkey ?_
         intro w2 ho2 hg2
         rw [hdel.out] at ho2
         have ho3 := omap_tight ho2
         have k2 : Below w.heap.size w w2 := k1.grown hg2.grown k1.size (fun j e => by cases e; omega))
      | (go_at_call 53; (with_reducible refine (KL _ _ ho3 k2).mono ?_); rintro e3 w3 ⟨rfl, hf3, hy3, hn3⟩))
    go_ret
    have hS := hS.out
    have hgb := hS.ne
    have hbl := hS.o.lt
    have hF : Fr w.heap.size (fun x => x = g) w w3 := (Fr.of k2).trans (hf3.mono k2.size fun _ _ q => q)
    have hl2 := ho3.lt
    rw [e.out]
    by_cases hq : (setr lo hi st mm).2 = 0
    · have e2 : layd lo hi st m v t mm = ⟨0, mm, (setr lo hi st mm).1, turn v (setr lo hi st mm).1 t⟩ := if_pos hq
      rw [e2, hq]
      refine ⟨rfl, hF, w.heap.size + 1, ⟨hy3 hq, omap_keep ho3 (hf3.k _ hl2 (by show ¬ w.heap.size + 1 = g; omega)), ?_, ?_⟩, Or.inr (by omega)⟩
      · rw [← hmm.out]; exact del_rising hS.up
      · rw [← hmm.out]; exact del_whos hS.wh
    · have e2 : layd lo hi st m v t mm = ⟨(setr lo hi st mm).2, m, v, t⟩ := if_neg hq
      rw [e2]
      exact ⟨rfl, hF, b, ⟨hn3 hq, omap_keep hS.o ((hf3.k b (Nat.lt_of_lt_of_le hbl k2.size) hgb).trans (k2.block _ hbl)), hS.up, hS.wh⟩, Or.inl rfl⟩
end Go.Proofs.Ytbbjnhajmckjoaa
