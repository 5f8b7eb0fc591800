/- Crowd: the program's board in memory; its ready: walked. -/
import Derived.Test.YtcioejamohjdgaaNd1
namespace Go.Proofs.Ytcioejamohjdgaa
open Go.RowKit Go.BigFrame

/-! ### what is left as it was below H but for S -/
structure Fr (H : Nat) (S : Nat → Prop) (w w' : World) : Prop where
  g : Below 0 w w'
  k : ∀ b, b < H → ¬ S b → w'.heap[b]? = w.heap[b]?
theorem Fr.refl (H : Nat) (S : Nat → Prop) (w : World) : Fr H S w w := ⟨Below.refl _ _, fun _ _ _ => rfl⟩
theorem Fr.trans {H : Nat} {S : Nat → Prop} {a b c : World} (h : Fr H S a b) (k : Fr H S b c) : Fr H S a c := ⟨h.g.trans k.g, fun x h1 h2 => (k.k x h1 h2).trans (h.k x h1 h2)⟩
theorem Fr.of {H : Nat} {S : Nat → Prop} {w w' : World} (h : Below H w w') : Fr H S w w' := ⟨h.mono (Nat.zero_le _), fun b hb _ => h.block b hb⟩
theorem Fr.mono {H H' : Nat} {S S' : Nat → Prop} {w w' : World} (h : Fr H S w w') (hH : H' ≤ H) (hS : ∀ b, b < H' → S b → S' b) : Fr H' S' w w' := ⟨h.g, fun b hb hn => h.k b (by omega) (fun q => hn (hS b hb q))⟩
theorem Fr.set {H : Nat} {S : Nat → Prop} {w w' : World} (h : Fr H S w w') {p : Addr} (hp : p.block < H → S p.block) (v : Value) : Fr H S w (w'.setCell p v) :=
  ⟨h.g.setCell (Nat.zero_le _) v, fun b hb hn => by
    rw [Below.heap_setCell w' p v b (fun e => hn (by rw [e] at hb ⊢; exact hp hb))]
    exact h.k b hb hn⟩
theorem Fr.drewN {H : Nat} {S : Nat → Prop} {w w' : World} (h : Fr H S w w') (n : Nat) : Fr H S w (w'.drewN n) := ⟨below_drewN' h.g n, h.k⟩
theorem Fr.drawn {H : Nat} {S : Nat → Prop} {w w' w'' : World} (h : Fr H S w w') (d : Drawn w' w'') : Fr H S w w'' := ⟨d.after h.g, fun b hb hn => by rw [d.heap]; exact h.k b hb hn⟩
theorem Fr.size {H : Nat} {S : Nat → Prop} {w w' : World} (h : Fr H S w w') : w.heap.size ≤ w'.heap.size := h.g.size
theorem Fr.below {H B : Nat} {S : Nat → Prop} {w w' : World} (h : Fr H S w w') (hH : B ≤ H) (hS : ∀ b, S b → B ≤ b) : Below B w w' :=
  ⟨h.g.os, h.g.tape, h.g.output, h.g.size, fun b hb => h.k b (by omega) (fun q => by have := hS b q; omega)⟩
theorem el23 : Elt Try.prog 23 3 1 8 := Elt.of (z := .int .i64 0) Try.underlying23 (by kernel_rfl) rfl (by decide) (by decide)
theorem Own.cells {w : World} {base : Nat} {e : TypeId} {size g n c : Nat} {rs : List (List Value)} (h : Own w base e size rs (.slice (some ⟨g, 0, none⟩) n c)) (hn : rs.length = n) {k : Nat} (hk : k < n) {r : List Value} (hr : rs[k]? = some r) {f : Nat} {u : Value} (hu : r[f]? = some u) :
    w.cell? ⟨g, k * size + f, none⟩ = some u ∧ w.frozen? ⟨g, k * size + f, none⟩ = false := by
  subst hn
  have e1 : rs[k] = r := by rw [List.getElem?_eq_getElem hk] at hr; exact Option.some.inj hr
  exact h.cell hk (by rw [e1]; exact hu)
theorem Own.cell1 {w : World} {base : Nat} {e : TypeId} {g n c : Nat} {α : Type} {row : α → List Value} {val : α → Value} (hrow : ∀ x, row x = [val x]) {l : List α} (h : Own w base e 1 (l.map row) (.slice (some ⟨g, 0, none⟩) n c)) (hn : l.length = n) {k : Nat} (hk : k < l.length) :
    w.cell? ⟨g, k, none⟩ = some (val l[k]) ∧ w.frozen? ⟨g, k, none⟩ = false := by
  have := h.cells (by rw [List.length_map]; exact hn) (k := k) (by omega) (r := row l[k]) (by rw [List.getElem?_map, List.getElem?_eq_getElem hk]; rfl) (f := 0) (u := val l[k]) (by rw [hrow]; rfl)
  rwa [Nat.mul_one, Nat.add_zero] at this
theorem Own.put1 {w : World} {base : Nat} {e : TypeId} {g n c : Nat} {α : Type} {row : α → List Value} {val : α → Value} (hrow : ∀ x, row x = [val x]) {l : List α} (h : Own w base e 1 (l.map row) (.slice (some ⟨g, 0, none⟩) n c)) (hn : l.length = n) {k : Nat} (hk : k < n) (x : α) :
    Own (w.setCell ⟨g, k, none⟩ (val x)) base e 1 ((l.set k x).map row) (.slice (some ⟨g, 0, none⟩) n c) := by
  obtain ⟨g', u0, e1, -, -, -, -, -, h2⟩ := h.row1 (by rw [List.length_map]; exact hn) hk
  cases e1
  have := h2 (val x)
  rwa [List.map_set, hrow x]
/-- the board: what became of each, who lacks how many, who waits for it -/
structure Bd (w : World) (P ps pl pa n : Nat) (xs : List Value) (st lk : List Int) (ab : List (List Nat)) : Prop where
  hb : w.heap[P + 3]? = some (.cells #[.slice (some ⟨ps, 0, none⟩) n n, .slice (some ⟨pl, 0, none⟩) n n, .slice (some ⟨pa, 0, none⟩) n n] 67)
  s : Own w P 5 1 (st.map urow) (.slice (some ⟨ps, 0, none⟩) n n)
  l : Own w P 3 1 (lk.map irow) (.slice (some ⟨pl, 0, none⟩) n n)
  a : Own w P 23 1 (xs.map fun x => [x]) (.slice (some ⟨pa, 0, none⟩) n n)
  ns : st.length = n
  nl : lk.length = n
  na : xs.length = n
  nb : ab.length = n
  r : ∀ (k : Nat) (x : Value) (t : List Nat), xs[k]? = some x → ab[k]? = some t → Own w (P + 4) 3 1 (t.map nrow) x
  dd : ∀ (i j : Nat) (x y : Value), xs[i]? = some x → xs[j]? = some y → i ≠ j → ∀ b : Nat, x.ownBlock = some b → y.ownBlock ≠ some b
  lo : P ≤ ps ∧ ps < P + 3 ∧ P ≤ pl ∧ pl < P + 3 ∧ P ≤ pa ∧ pa < P + 3 ∧ ps ≠ pl ∧ ps ≠ pa ∧ pl ≠ pa
theorem Bd.keep {w w' : World} {P ps pl pa n : Nat} {xs : List Value} {st lk : List Int} {ab : List (List Nat)} (h : Bd w P ps pl pa n xs st lk ab) (hk : ∀ b, P ≤ b → b < w.heap.size → w'.heap[b]? = w.heap[b]?) : Bd w' P ps pl pa n xs st lk ab :=
  ⟨(hk _ (by omega) (heap_lt h.hb)).trans h.hb, h.s.keep fun b e => hk b (h.s.lt b e).1 (h.s.lt b e).2, h.l.keep fun b e => hk b (h.l.lt b e).1 (h.l.lt b e).2, h.a.keep fun b e => hk b (h.a.lt b e).1 (h.a.lt b e).2, h.ns, h.nl, h.na, h.nb,
    fun k x t h1 h2 => (h.r k x t h1 h2).keep fun b e => hk b (by have := ((h.r k x t h1 h2).lt b e).1; omega) ((h.r k x t h1 h2).lt b e).2, h.dd, h.lo⟩
theorem Bd.below {w w' : World} {P ps pl pa n : Nat} {xs : List Value} {st lk : List Int} {ab : List (List Nat)} (h : Bd w P ps pl pa n xs st lk ab) (d : Below w.heap.size w w') : Bd w' P ps pl pa n xs st lk ab :=
  h.keep fun b _ hl => d.block b hl
theorem Bd.c0 {w : World} {P ps pl pa n : Nat} {xs : List Value} {st lk : List Int} {ab : List (List Nat)} (h : Bd w P ps pl pa n xs st lk ab) :
    w.cell? ⟨P + 3, 0, none⟩ = some (.slice (some ⟨ps, 0, none⟩) n n) ∧ w.cell? ⟨P + 3, 1, none⟩ = some (.slice (some ⟨pl, 0, none⟩) n n) ∧ w.cell? ⟨P + 3, 2, none⟩ = some (.slice (some ⟨pa, 0, none⟩) n n) := by
  refine ⟨?_, ?_, ?_⟩
  · rw [cell_of_row _ _ 0 _ 67 (0, 0) h.hb]; rfl
  · rw [cell_of_row _ _ 1 _ 67 (0, 0) h.hb]; rfl
  · rw [cell_of_row _ _ 2 _ 67 (0, 0) h.hb]; rfl
theorem filter_snoc (p : Nat → Bool) (k : Nat) : (List.range (k + 1)).filter p = (List.range k).filter p ++ (if p k then [k] else []) := by
  rw [List.range_succ, List.filter_append]
  cases h : p k <;> simp [h]
theorem filter_le (p : Nat → Bool) (k : Nat) : ((List.range k).filter p).length ≤ k := by
  have := List.length_filter_le p (List.range k)
  rwa [List.length_range] at this
def freeOf (lk : List Int) : List Nat := (List.range lk.length).filter (fun i => lk.getD i 0 == 0)
set_option maxHeartbeats 2000000 in
theorem ready_any {w : World} {P ps pl pa n : Nat} {xs : List Value} {st lk : List Int} {ab : List (List Nat)} (h : Bd w P ps pl pa n xs st lk ab) (hn : n ≤ 4096) :
    Calls Try.prog 39 #[.pointer (some ⟨P + 3, 0, none⟩)] w fun e w' => ∃ v, e = .returned v ∧ Own w' w.heap.size 3 1 ((freeOf lk).map nrow) v ∧ Below w.heap.size w w' := by
  have hcl := Lib.hid fun (k : Nat) (hk : k < lk.length) (X : World) (q : Below w.heap.size w X) => ((h.below q).l.cell1 (val := fun x => .int .i64 x) (fun _ => rfl) h.nl hk).1
  have y1 := h.c0.2.1
  have hnl := Lib.hid h.nl
  unfold freeOf
  rw [h.nl]
  clear h
  go_enter Try.func39, Try.ntmps39
  go_upto_region 3 with fail
  clear y1
  go_loopw [11, 3] (fun s11 s3 wr => ∃ (k : Nat) (v : Value), v = s3 ∧ k ≤ n ∧ s11 = .int .i64 k ∧ Own wr w.heap.size 3 1 (((List.range k).filter (fun i => lk.getD i 0 == 0)).map nrow) v ∧ Below w.heap.size w wr) (fun s11 _ _ => n - (intOf s11).toNat)
  case atStart => exact ⟨0, _, rfl, by omega, rfl, Own.nil _ _ _ _, Below.refl _ _⟩
  case round =>
    obtain ⟨k, v, rfl, hk, rfl, hO, hb⟩ := hrel
    obtain ⟨wk, rfl⟩ : ∃ x : World, x = wr := ⟨_, rfl⟩
    by_cases hkn : k = n
    · subst hkn
      clear hcl
      obtain ⟨A', c', rfl, -⟩ := hO.sl
      replace hO := Lib.hid hO
      go_wp2
      go_ret
      exact ⟨_, rfl, hO.out, hb⟩
    · have hlt : k < n := by omega
      have hkl : k < lk.length := by rw [hnl.out]; exact hlt
      have c1 := hcl.out k hkl wk hb
      have hf := filter_snoc (fun i => lk.getD i 0 == 0) k
      have hfl := Lib.hid (filter_le (fun i => lk.getD i 0 == 0) k)
      rw [getD_at hkl] at hf
      generalize hR : (List.range k).filter (fun i => lk.getD i 0 == 0) = R at *
      generalize hR2 : (List.range (k + 1)).filter (fun i => lk.getD i 0 == 0) = R2 at *
      replace hR2 := Lib.hid hR2
      generalize lk[k] = x at *
      have hsz := Lib.hid hb.size
      by_cases hx : x = 0
      · subst hx
        have hf' : Hid (R2 = R ++ [k]) := Lib.hid (by simpa using hf)
        clear hf hR hcl
        have hb' := Lib.hid hb
        clear hb
        go_wp2_with (at_builtin; refine wpList_push el23 rfl _ _ rfl rfl (hO.alloc _) [.int .i64 k] wk.heap.size 3 rfl (heap_alloc_at _ _) rfl (by simp [Value.oneCell']) (by have := hfl.out; rw [List.length_map]; omega) (by have := hsz.out; rw [size_al]; omega) ?_; intro v' w6 ho6 hb6 hs6 _ _)
        have e1 : R.map nrow ++ [[.int .i64 k]] = R2.map nrow := by rw [hf'.out, List.map_append]; rfl
        rw [e1] at ho6
        have hb7 := Lib.hid (((below_al hb'.out _)).trans hb6)
        clear hO hb6 hs6 e1
        go_roundw
        case rel => exact ⟨k + 1, _, rfl, by omega, by go_num, by rw [hR2.out]; exact ho6, hb7.out⟩
        case measure => first | (simp [intOf]; done) | (simp [intOf]; omega)
      · have hf' : Hid (R2 = R) := Lib.hid (by rw [hf]; simp [hx])
        have hx' : (x == 0) = false := by simpa using hx
        clear hf hR hcl
        go_wp2
        go_roundw
        case rel => exact ⟨k + 1, _, rfl, by omega, by go_num, by rw [hR2.out, hf'.out]; exact hO, hb⟩
        case measure => first | (simp [intOf]; done) | (simp [intOf]; omega)
end Go.Proofs.Ytcioejamohjdgaa
