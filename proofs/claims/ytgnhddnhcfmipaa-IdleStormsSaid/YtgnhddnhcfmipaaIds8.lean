/- IdleStorms: operations on own rows. -/
import Derived.Test.YtgnhddnhcfmipaaIds7
import Derived.Test.YtgnhddnhcfmipaaAct
import Derived.Conc.AppendEvents3
namespace Go.Proofs.Ytgnhddnhcfmipaa.Ids
open Go Go.Conc Go.RowKit Go.Proofs.Ytgnhddnhcfmipaa.Eg

theorem al_size (w : World) (o : Obj) : (w.alloc o).heap.size = w.heap.size + 1 := by
  show (w.heap.push o).size = _
  simp
theorem al_old (w : World) (o : Obj) (i : Nat) (h : i < w.heap.size) : (w.alloc o).heap[i]? = w.heap[i]? := by
  show (w.heap.push o)[i]? = w.heap[i]?
  rw [Array.getElem?_push, if_neg (Nat.ne_of_lt h)]
theorem al_new (w : World) (o : Obj) : (w.alloc o).heap[w.heap.size]? = some o := by
  show (w.heap.push o)[w.heap.size]? = some o
  simp

/-- A touch of an own block. -/
def OwnEv (own : Nat → Prop) (e : Event) : Prop := ∃ a : Addr, own a.block ∧ e.loc = .cell a
theorem OwnEv.ok {still shared : Loc → Prop} {own : Nat → Prop} {m : Prop} {e : Event} (h : OwnEv own e) : Eg.EvOk still shared own m e := by
  obtain ⟨l, wr, s⟩ := e
  obtain ⟨a, ho, hl⟩ := h
  simp only at hl
  subst hl
  refine ⟨fun x hx => ?_, fun b hb => by cases hb⟩
  cases hx
  exact ⟨fun hk => (by cases s <;> simp at hk), .inl ⟨a.block, rfl, ho⟩⟩
theorem own_deaf {own : Nat → Prop} {es : Array Event} (h : ∀ e ∈ es, OwnEv own e) (d : Nat) : deafBehind d es = d :=
  deafBehind_still (fun e he => by obtain ⟨a, _, hl⟩ := h e he; rw [hl]; exact ⟨by simp, by simp⟩) d

section
variable {N : Nat} {F : Nat → World → Prop} {m : Bool} {fn : FuncId} {Q : PostF (S N)} {K n : Nat} {y : Gh Role} {a : Act} {w : World} {l l' : List Row} {ops : Array Oper} {i : Nat} {rest : List Nat} {o : Oper}

theorem OF.pu {v : Value} (ho : ops[i]? = some o) (hw : Region.wanted o (yielded ops a.tmps) = true) (hr : ∀ w, (execOp a.eval o).run Try.prog w = .ok (.value v) w) (he : ∀ w, (execOp a.eval o).events Try.prog w #[] = #[])
    (h : OF (S N) m fn ops rest n Q K y (a.put o.dst v) w) : OF (S N) m fn ops (i :: rest) (n + 1) Q K y a w := OF.pure ho hw hr he h

/-- AN OPERATION THAT READS own rows. -/
theorem OF.rd {v : Value} (ho : ops[i]? = some o) (hw : Region.wanted o (yielded ops a.tmps) = true) (H : Ctx N F y K w l) (hq : y.role.quiet = false)
    (hr : ∀ w, Rows y.own w l → (execOp a.eval o).run Try.prog w = .ok (.value v) w) (he : ∀ w, Rows y.own w l → ∀ e ∈ (execOp a.eval o).events Try.prog w #[], OwnEv y.own e)
    (hn : ∀ K₁ w₁, K₁ ≤ K → R y K K₁ w w₁ → Ctx N F y K₁ w₁ l → OF (S N) m fn ops rest n Q K₁ y (a.put o.dst v) w₁) : OF (S N) m fn ops (i :: rest) (n + 1) Q K y a w := by
  refine OF.cons ho hw fun K₁ hK w₁ r => ?_
  have H₁ := H.rely r
  have hev : ∀ e ∈ listed Try.prog fn a o w₁, OwnEv y.own e := fun e hm => he _ H₁.rows e (mem_listed hm)
  show uponK o a _ ((execOp a.eval o).run Try.prog w₁)
  rw [hr _ H₁.rows]
  exact ⟨y, fun wk => .plain ⟨rfl, rfl, rfl, (own_deaf hev _).symm, Below.refl _ _, fun _ h => h, fun _ h => .inl h, fun _ _ _ => rfl, fun e hm => (hev e hm).ok, fun h => by rw [hq] at h; cases h⟩, hn K₁ w₁ hK r H₁⟩

/-- AN OPERATION THAT STORES INTO own rows. -/
theorem OF.st {v : Value} (ho : ops[i]? = some o) (hw : Region.wanted o (yielded ops a.tmps) = true) (H : Ctx N F y K w l) (hq : y.role.quiet = false)
    (hr : ∀ w, Rows y.own w l → ∃ w', (execOp a.eval o).run Try.prog w = .ok (.value v) w' ∧ Upd y.own w w' l') (he : ∀ w, Rows y.own w l → ∀ e ∈ (execOp a.eval o).events Try.prog w #[], OwnEv y.own e)
    (hn : ∀ K₁ w₁ w', K₁ ≤ K → R y K K₁ w w₁ → Upd y.own w₁ w' l' → Ctx N F y K₁ w' l' → OF (S N) m fn ops rest n Q K₁ y (a.put o.dst v) w') : OF (S N) m fn ops (i :: rest) (n + 1) Q K y a w := by
  refine OF.cons ho hw fun K₁ hK w₁ r => ?_
  have H₁ := H.rely r
  have hev : ∀ e ∈ listed Try.prog fn a o w₁, OwnEv y.own e := fun e hm => he _ H₁.rows e (mem_listed hm)
  obtain ⟨w', h1, h2⟩ := hr _ H₁.rows
  show uponK o a _ ((execOp a.eval o).run Try.prog w₁)
  rw [h1]
  have hb : Below N w₁ w' := ⟨h2.os, h2.tape, h2.output, by rw [h2.size]; exact Nat.le_refl _, fun k hk => h2.far k fun hx => by have := H.hi k hx; omega⟩
  refine ⟨y, fun wk => .plain ⟨rfl, rfl, rfl, (own_deaf hev _).symm, hb, fun _ h => h, fun _ h => .inl h, fun b _ h => h2.far b h, fun e hm => (hev e hm).ok, fun h => by rw [hq] at h; cases h⟩, hn K₁ w₁ w' hK r h2 ?_⟩
  exact ⟨h2.rows, H₁.st.kept rfl rfl (fun _ h => .inl h) (fun b _ h => h2.far b h) (by rw [h2.size]; exact Nat.le_refl _), H₁.hi, fun b hb => by rw [h2.size]; exact H₁.lo b hb, by rw [h2.size]; exact H₁.big, H₁.keeps, H₁.keeps.own _ _ _ _ rfl H₁.st (fun b _ h => h2.far b h) H₁.mem⟩

/-- AN OPERATION THAT MAKES A ROW. -/
theorem OF.al {vs : Array Value} {t : TypeId} (ho : ops[i]? = some o) (hw : Region.wanted o (yielded ops a.tmps) = true) (H : Ctx N F y K w l) (hq : y.role.quiet = false)
    (hr : ∀ w, (execOp a.eval o).run Try.prog w = .ok (.value (.pointer (some ⟨w.heap.size, 0, none⟩))) (w.alloc (.cells vs t))) (he : ∀ w, (execOp a.eval o).events Try.prog w #[] = #[])
    (hn : ∀ K₁ w₁ y' w' b, K₁ ≤ K → R y K K₁ w w₁ → Gr y y' → y'.role.quiet = false → b = w₁.heap.size → w' = w₁.alloc (.cells vs t) → Ctx N F y' K₁ w' ((b, vs, t) :: l) → OF (S N) m fn ops rest n Q K₁ y' (a.put o.dst (.pointer (some ⟨b, 0, none⟩))) w') : OF (S N) m fn ops (i :: rest) (n + 1) Q K y a w := by
  refine OF.cons ho hw fun K₁ hK w₁ r => ?_
  have H₁ := H.rely r
  have hev : listed Try.prog fn a o w₁ = #[] := by unfold listed; rw [he, seen_none]
  show uponK o a _ ((execOp a.eval o).run Try.prog w₁)
  rw [hr]
  have hsz : (w₁.alloc (.cells vs t)).heap.size = w₁.heap.size + 1 := al_size _ _
  have hold : ∀ b, b < w₁.heap.size → (w₁.alloc (.cells vs t)).heap[b]? = w₁.heap[b]? := fun b hb => al_old _ _ _ hb
  refine ⟨Gh.add y w₁.heap.size, fun wk => .plain ⟨rfl, rfl, rfl, by show y.deaf = _; rw [show listed (S N).P fn a o w₁ = #[] from hev]; rfl, ?_, fun _ h => .inl h, fun b h => h.imp id fun e => by subst e; omega, fun b hb _ => hold b hb, fun e hm => by rw [show listed (S N).P fn a o w₁ = #[] from hev] at hm; simp at hm, fun _ => hev⟩, hn K₁ w₁ _ _ _ hK r (gr_add y _) hq rfl rfl ?_⟩
  · exact ⟨rfl, rfl, rfl, by rw [hsz]; omega, fun k hk => hold k (by have := H₁.big; omega)⟩
  · refine ⟨⟨List.nodup_cons.2 ⟨fun hm => ?_, H₁.rows.nd⟩, fun p hp => ?_⟩, H₁.st.kept rfl rfl (fun b h => h.imp id fun e => by subst e; exact Nat.le_refl _) (fun b hb _ => hold b hb) (by rw [hsz]; omega), fun b hb => hb.elim (H₁.hi b) fun e => by subst e; exact H₁.big, fun b hb => ?_, by rw [hsz]; have := H₁.big; omega, H₁.keeps, H₁.keeps.own _ _ _ _ rfl H₁.st (fun b hb _ => hold b hb) H₁.mem⟩
    · obtain ⟨p, hp, e⟩ := List.mem_map.1 hm
      have := H₁.rows.lt hp
      simp only at e
      omega
    · rcases List.mem_cons.1 hp with rfl | hp
      · exact ⟨.inr rfl, al_new _ _⟩
      · have := H₁.rows.at_ p hp
        exact ⟨.inl this.1, (hold _ (H₁.rows.lt hp)).trans this.2⟩
    · rw [hsz]
      rcases hb with hb | rfl
      · have := H₁.lo b hb; omega
      · omega

/-! ### loads and stores, by the row -/
def aggD : TypeDesc → Bool
  | .struct _ | .array _ _ => true
  | _ => false
theorem run_ld1 {ty : TypeId} {x : Operand} {d : TypeDesc} {ad : Addr} {v : Value} (hop : o.op = .load ty x) (hx : a.eval x = .pointer (some ad)) (hu : Try.prog.underlying ty = some d) (hd : aggD d = false) (hc : w.cell? ad = some v) :
    (execOp a.eval o).run Try.prog w = .ok (.value v) w ∧ (execOp a.eval o).events Try.prog w #[] = #[⟨.cell ad, false, false⟩] := by
  have hagg : (isAgg ty).run Try.prog w = .ok false w := by
    unfold isAgg
    rw [Sem.run_bind, run_underlying hu w]
    cases d <;> simp_all [aggD]
  unfold execOp
  simp [hop, hx, Instr.loadAt, Instr.sureAddr, loadVar, Sem.run_bind, hagg, hc, events_load]
theorem run_ldr {ty t : TypeId} {x : Operand} {d : TypeDesc} {g : Nat} {cs : Array Value} (hop : o.op = .load ty x) (hx : a.eval x = .pointer (some ⟨g, 0, none⟩)) (hg : w.heap[g]? = some (.cells cs t)) (hu : Try.prog.underlying ty = some d)
    (hd : aggD d = true) (hi : (Try.prog.info? ty).map (·.size) = some cs.size) :
    (execOp a.eval o).run Try.prog w = .ok (.value (.agg cs)) w ∧ ∀ e ∈ (execOp a.eval o).events Try.prog w #[], ∃ a : Addr, a.block = g ∧ e.loc = .cell a := by
  have hagg : (isAgg ty).run Try.prog w = .ok true w := by
    unfold isAgg
    rw [Sem.run_bind, run_underlying hu w]
    cases d <;> simp_all [aggD]
  refine ⟨?_, ?_⟩
  · unfold execOp
    simp [hop, hx, Instr.loadAt, Instr.sureAddr, run_loadVar_row w g t ty cs (0, 0) d hg hu (by cases d <;> first | rfl | exact absurd hd (by simp [aggD])) hi]
  · intro e he
    unfold execOp at he
    cases hq : Try.prog.info? ty with
    | none => simp [hq] at hi
    | some inf =>
      have hs : inf.size = cs.size := by simpa [hq] using hi
      simp [hop, hx, Instr.loadAt, Instr.sureAddr, loadVar, hagg, sizeOf, typeInfo, hq, loadCells] at he
      have hcc : ∀ j, j < inf.size → (w.cell? ((⟨g, 0, none⟩ : Addr).add (0 + j))).isSome := fun j hj => by
        have hadd : (⟨g, 0, none⟩ : Addr).add (0 + j) = ⟨g, j, none⟩ := by unfold Addr.add; split <;> simp_all
        rw [hadd]
        have : j < cs.size := by omega
        simp [World.cell?, hg, this]
      rcases events_loadCellsFrom_at ⟨g, 0, none⟩ (· = g) rfl _ 0 #[] w #[] hcc e he with h | ⟨ad, h1, h2, h3⟩
      · simp at h
      · exact ⟨ad, h3, h1⟩
theorem run_str {ty t : TypeId} {x z : Operand} {g : Nat} {cs old : Array Value} (hop : o.op = .store ty x z) (hx : a.eval x = .pointer (some ⟨g, 0, none⟩)) (hz : a.eval z = .agg cs) (hg : w.heap[g]? = some (.cells old t)) (hi : (Try.prog.info? ty).map (·.size) = some cs.size)
    (ho : old.size = cs.size) (h1 : cs.all (·.oneCell') = true) :
    (execOp a.eval o).run Try.prog w = .ok .skip (w.setRow g cs) ∧ ∀ e ∈ (execOp a.eval o).events Try.prog w #[], ∃ a : Addr, a.block = g ∧ e.loc = .cell a := by
  refine ⟨?_, ?_⟩
  · unfold execOp
    simp [hop, hx, hz, Instr.storeAt, Instr.sureAddr, run_storeVar_row w g t ty old cs hg hi ho h1]
  · intro e he
    unfold execOp at he
    cases hq : Try.prog.info? ty with
    | none => simp [hq] at hi
    | some inf =>
      have hs : inf.size = cs.size := by simpa [hq] using hi
      simp [hop, hx, hz, Instr.storeAt, Instr.sureAddr, storeVar, sizeOf, typeInfo, hq, hs, Value.cells] at he
      rcases events_storeCells_at g 0 t cs.toList 0 old w #[] hg (by simp; omega) (fun v hv => (Array.all_eq_true_iff_forall_mem.1 h1) v (by simpa using hv)) e he with h | ⟨ad, h1, h2⟩
      · simp at h
      · exact ⟨ad, h2, h1⟩
theorem run_st1 {ty : TypeId} {x z : Operand} {ad : Addr} {v u : Value} (hop : o.op = .store ty x z) (hx : a.eval x = .pointer (some ad)) (hz : a.eval z = v) (h1 : v.oneCell' = true) (hi : (Try.prog.info? ty).map (·.size) = some 1) (hc : w.cell? ad = some u) (hf : w.frozen? ad = false) :
    (execOp a.eval o).run Try.prog w = .ok .skip (w.setCell ad v) ∧ (execOp a.eval o).events Try.prog w #[] = #[⟨.cell ad, true, false⟩] := by
  have hcs : v.cells = #[v] := by cases v <;> first | rfl | cases h1
  cases hq : Try.prog.info? ty with
  | none => simp [hq] at hi
  | some inf =>
    have hs : inf.size = 1 := by simpa [hq] using hi
    have hadd : ad.add 0 = ad := by unfold Addr.add; split <;> simp_all
    unfold execOp
    simp [hop, hx, hz, Instr.storeAt, Instr.sureAddr, storeVar, hcs, sizeOf, typeInfo, hq, hs, storeCells, hadd, run_store _ _ _ v _ h1, events_store _ _ _ _ v _ h1, hc, hf, Result.andThen, Result.evThen]

/-- A LOAD of one cell of row number k. -/
theorem OF.ld1 {ty t : TypeId} {x : Operand} {d : TypeDesc} {b : Nat} {vs : Array Value} {v : Value} (k j : Nat) (ho : ops[i]? = some o) (hw : Region.wanted o (yielded ops a.tmps) = true) (hop : o.op = .load ty x) (H : Ctx N F y K w l) (hq : y.role.quiet = false) (hx : a.eval x = .pointer (some ⟨b, j, none⟩))
    (hk : l[k]? = some (b, vs, t)) (hv : vs[j]? = some v) (hu : Try.prog.underlying ty = some d) (hd : aggD d = false) (hn : ∀ K₁ w₁, K₁ ≤ K → R y K K₁ w w₁ → Ctx N F y K₁ w₁ l → OF (S N) m fn ops rest n Q K₁ y (a.put o.dst v) w₁) : OF (S N) m fn ops (i :: rest) (n + 1) Q K y a w :=
  OF.rd ho hw H hq (fun _ hF => (run_ld1 hop hx hu hd (hF.cell k j hk hv)).1) (fun _ hF e he => by
    rw [(run_ld1 hop hx hu hd (hF.cell k j hk hv)).2] at he
    simp only [List.mem_toArray, List.mem_cons, List.not_mem_nil, or_false] at he
    subst he
    exact ⟨_, hF.mine k hk, rfl⟩) hn
/-- A LOAD of row number k, whole. -/
theorem OF.ldr {ty t : TypeId} {x : Operand} {d : TypeDesc} {b : Nat} {vs : Array Value} (k : Nat) (ho : ops[i]? = some o) (hw : Region.wanted o (yielded ops a.tmps) = true) (hop : o.op = .load ty x) (H : Ctx N F y K w l) (hq : y.role.quiet = false) (hx : a.eval x = .pointer (some ⟨b, 0, none⟩))
    (hk : l[k]? = some (b, vs, t)) (hu : Try.prog.underlying ty = some d) (hd : aggD d = true) (hi : (Try.prog.info? ty).map (·.size) = some vs.size) (hn : ∀ K₁ w₁, K₁ ≤ K → R y K K₁ w w₁ → Ctx N F y K₁ w₁ l → OF (S N) m fn ops rest n Q K₁ y (a.put o.dst (.agg vs)) w₁) : OF (S N) m fn ops (i :: rest) (n + 1) Q K y a w :=
  OF.rd ho hw H hq (fun _ hF => (run_ldr hop hx (hF.row k hk) hu hd hi).1) (fun _ hF e he => by
    obtain ⟨ad, h1, h2⟩ := (run_ldr hop hx (hF.row k hk) hu hd hi).2 e he
    exact ⟨ad, h1 ▸ hF.mine k hk, h2⟩) hn

theorem OF.st0 (ho : ops[i]? = some o) (hw : Region.wanted o (yielded ops a.tmps) = true) (H : Ctx N F y K w l) (hq : y.role.quiet = false)
    (hr : ∀ w, Rows y.own w l → ∃ w', (execOp a.eval o).run Try.prog w = .ok .skip w' ∧ Upd y.own w w' l') (he : ∀ w, Rows y.own w l → ∀ e ∈ (execOp a.eval o).events Try.prog w #[], OwnEv y.own e)
    (hn : ∀ K₁ w₁ w', K₁ ≤ K → R y K K₁ w w₁ → Upd y.own w₁ w' l' → Ctx N F y K₁ w' l' → OF (S N) m fn ops rest n Q K₁ y (a.put o.dst undef) w') : OF (S N) m fn ops (i :: rest) (n + 1) Q K y a w := by
  refine OF.cons ho hw fun K₁ hK w₁ r => ?_
  have H₁ := H.rely r
  have hev : ∀ e ∈ listed Try.prog fn a o w₁, OwnEv y.own e := fun e hm => he _ H₁.rows e (mem_listed hm)
  obtain ⟨w', h1, h2⟩ := hr _ H₁.rows
  show uponK o a _ ((execOp a.eval o).run Try.prog w₁)
  rw [h1]
  have hb : Below N w₁ w' := ⟨h2.os, h2.tape, h2.output, by rw [h2.size]; exact Nat.le_refl _, fun k hk => h2.far k fun hx => by have := H.hi k hx; omega⟩
  refine ⟨y, fun wk => .plain ⟨rfl, rfl, rfl, (own_deaf hev _).symm, hb, fun _ h => h, fun _ h => .inl h, fun b _ h => h2.far b h, fun e hm => (hev e hm).ok, fun h => by rw [hq] at h; cases h⟩, hn K₁ w₁ w' hK r h2 ?_⟩
  exact ⟨h2.rows, H₁.st.kept rfl rfl (fun _ h => .inl h) (fun b _ h => h2.far b h) (by rw [h2.size]; exact Nat.le_refl _), H₁.hi, fun b hb => by rw [h2.size]; exact H₁.lo b hb, by rw [h2.size]; exact H₁.big, H₁.keeps, H₁.keeps.own _ _ _ _ rfl H₁.st (fun b _ h => h2.far b h) H₁.mem⟩

/-- A STORE into one cell of row number k. -/
theorem OF.st1 {ty t : TypeId} {x z : Operand} {b : Nat} {vs : Array Value} {v u : Value} (k j : Nat) (ho : ops[i]? = some o) (hw : Region.wanted o (yielded ops a.tmps) = true) (hop : o.op = .store ty x z) (H : Ctx N F y K w l) (hq : y.role.quiet = false) (hx : a.eval x = .pointer (some ⟨b, j, none⟩)) (hz : a.eval z = v)
    (hk : l[k]? = some (b, vs, t)) (hv : vs[j]? = some u) (h1 : v.oneCell' = true) (hi : (Try.prog.info? ty).map (·.size) = some 1)
    (hn : ∀ K₁ w₁ w', K₁ ≤ K → R y K K₁ w w₁ → Upd y.own w₁ w' (l.set k (b, vs.setIfInBounds j v, t)) → Ctx N F y K₁ w' (l.set k (b, vs.setIfInBounds j v, t)) → OF (S N) m fn ops rest n Q K₁ y (a.put o.dst undef) w') : OF (S N) m fn ops (i :: rest) (n + 1) Q K y a w :=
  OF.st0 ho hw H hq (fun _ hF => ⟨_, (run_st1 hop hx hz h1 hi (hF.cell k j hk hv) (hF.free k j hk)).1, (Upd.refl hF).set k j hk v⟩) (fun _ hF e he => by
    rw [(run_st1 hop hx hz h1 hi (hF.cell k j hk hv) (hF.free k j hk)).2] at he
    simp only [List.mem_toArray, List.mem_cons, List.not_mem_nil, or_false] at he
    subst he
    exact ⟨_, hF.mine k hk, rfl⟩) hn
/-- A STORE of row number k, whole. -/
theorem OF.str {ty t : TypeId} {x z : Operand} {b : Nat} {vs cs : Array Value} (k : Nat) (ho : ops[i]? = some o) (hw : Region.wanted o (yielded ops a.tmps) = true) (hop : o.op = .store ty x z) (H : Ctx N F y K w l) (hq : y.role.quiet = false) (hx : a.eval x = .pointer (some ⟨b, 0, none⟩)) (hz : a.eval z = .agg cs)
    (hk : l[k]? = some (b, vs, t)) (hi : (Try.prog.info? ty).map (·.size) = some cs.size) (hs : vs.size = cs.size) (h1 : cs.all (·.oneCell') = true)
    (hn : ∀ K₁ w₁ w', K₁ ≤ K → R y K K₁ w w₁ → Upd y.own w₁ w' (l.set k (b, cs, t)) → Ctx N F y K₁ w' (l.set k (b, cs, t)) → OF (S N) m fn ops rest n Q K₁ y (a.put o.dst undef) w') : OF (S N) m fn ops (i :: rest) (n + 1) Q K y a w :=
  OF.st0 ho hw H hq (fun _ hF => ⟨_, (run_str hop hx hz (hF.row k hk) hi hs h1).1, (Upd.refl hF).row k hk cs⟩) (fun _ hF e he => by
    obtain ⟨ad, h2, h3⟩ := (run_str hop hx hz (hF.row k hk) hi hs h1).2 e he
    exact ⟨ad, h2 ▸ hF.mine k hk, h3⟩) hn

theorem ev_loadVar {ty t : TypeId} {d : TypeDesc} {g : Nat} {cs : Array Value} {es : Array Event} (hg : w.heap[g]? = some (.cells cs t)) (hu : Try.prog.underlying ty = some d) (hd : aggD d = true) (hi : (Try.prog.info? ty).map (·.size) = some cs.size) :
    ∀ e ∈ (loadVar ty ⟨g, 0, none⟩).events Try.prog w es, e ∈ es ∨ ∃ a : Addr, a.block = g ∧ e.loc = .cell a := by
  have hagg : (isAgg ty).run Try.prog w = .ok true w := by
    unfold isAgg
    rw [Sem.run_bind, run_underlying hu w]
    cases d <;> simp_all [aggD]
  intro e he
  cases hq : Try.prog.info? ty with
  | none => simp [hq] at hi
  | some inf =>
    have hs : inf.size = cs.size := by simpa [hq] using hi
    simp [loadVar, hagg, sizeOf, typeInfo, hq, loadCells] at he
    have hcc : ∀ j, j < inf.size → (w.cell? ((⟨g, 0, none⟩ : Addr).add (0 + j))).isSome := fun j hj => by
      have hadd : (⟨g, 0, none⟩ : Addr).add (0 + j) = ⟨g, j, none⟩ := by unfold Addr.add; split <;> simp_all
      rw [hadd]
      have : j < cs.size := by omega
      simp [World.cell?, hg, this]
    rcases events_loadCellsFrom_at ⟨g, 0, none⟩ (· = g) rfl _ 0 #[] w es hcc e he with h | ⟨ad, h1, h2, h3⟩
    · exact .inl h
    · exact .inr ⟨ad, h3, h1⟩

/-- The results lie in own rows. -/
theorem retG_own {f : FuncId} {fn : Func} {Post : Value → Nat → Gh Role → World → Prop} {v : Value} (hd : a.defers = []) (H : Ctx N F y K w l) (hq : y.role.quiet = false)
    (hr : ∀ w, Rows y.own w l → (results fn a.tmps).run Try.prog w = .ok v w) (he : ∀ w, Rows y.own w l → ∀ e ∈ (results fn a.tmps).events Try.prog w #[], OwnEv y.own e)
    (hp : ∀ K₁, K₁ ≤ K → ∀ w₁, R y K K₁ w w₁ → Ctx N F y K₁ w₁ l → Post v K₁ y w₁) : retG (S N) f fn Post .ret K y a w := by
  refine ⟨hd, fun K₁ hK w₁ r => ?_⟩
  have H₁ := H.rely r
  have hev : ∀ e ∈ seen Try.prog f ((results fn a.tmps).events Try.prog w₁ #[]), OwnEv y.own e := fun e hm => he _ H₁.rows e (mem_seen hm)
  exact ⟨v, y, hr _ H₁.rows, fun wk => .plain ⟨rfl, rfl, rfl, (own_deaf hev _).symm, Below.refl _ _, fun _ h => h, fun _ h => .inl h, fun _ _ _ => rfl, fun e hm => (hev e hm).ok, fun h => by rw [hq] at h; cases h⟩, hp K₁ hK w₁ r H₁⟩

/-- .. in one row. -/
theorem retG_cell {f : FuncId} {fn : Func} {Post : Value → Nat → Gh Role → World → Prop} {ty t : TypeId} {d : TypeDesc} {p : Tmp} {b : Nat} {vs : Array Value} (k : Nat) (hd : a.defers = []) (H : Ctx N F y K w l) (hq : y.role.quiet = false) (hres : fn.results = #[.cell p ty])
    (hp : a.tmps.getD p undef = .pointer (some ⟨b, 0, none⟩)) (hk : l[k]? = some (b, vs, t)) (hu : Try.prog.underlying ty = some d) (hagg : aggD d = true) (hi : (Try.prog.info? ty).map (·.size) = some vs.size)
    (hpost : ∀ K₁, K₁ ≤ K → ∀ w₁, R y K K₁ w w₁ → Ctx N F y K₁ w₁ l → Post (.agg vs) K₁ y w₁) : retG (S N) f fn Post .ret K y a w := by
  have hp' : a.tmps[p]?.getD undef = .pointer (some ⟨b, 0, none⟩) := by simpa using hp
  refine retG_own hd H hq (fun w hF => results_cell_row hres _ _ b t vs (0, 0) d hp (hF.row k hk) hu (by cases d <;> first | rfl | exact absurd hagg (by simp [aggD])) hi) (fun w hF e he => ?_) hpost
  simp [results, hres, hp', asAddr] at he
  rcases ev_loadVar (hF.row k hk) hu hagg hi e he with h | ⟨ad, h1, h2⟩
  · simp at h
  · exact ⟨ad, h1 ▸ hF.mine k hk, h2⟩
/-- .. in one row and a temporary. -/
theorem retG_cell_tmp {f : FuncId} {fn : Func} {Post : Value → Nat → Gh Role → World → Prop} {ty t : TypeId} {d : TypeDesc} {p u : Tmp} {b : Nat} {vs : Array Value} (k : Nat) (hd : a.defers = []) (H : Ctx N F y K w l) (hq : y.role.quiet = false) (hres : fn.results = #[.cell p ty, .tmp u])
    (hp : a.tmps.getD p undef = .pointer (some ⟨b, 0, none⟩)) (hk : l[k]? = some (b, vs, t)) (hu : Try.prog.underlying ty = some d) (hagg : aggD d = true) (hi : (Try.prog.info? ty).map (·.size) = some vs.size)
    (hpost : ∀ K₁, K₁ ≤ K → ∀ w₁, R y K K₁ w w₁ → Ctx N F y K₁ w₁ l → Post (.tuple #[.agg vs, a.tmps.getD u undef]) K₁ y w₁) : retG (S N) f fn Post .ret K y a w := by
  have hp' : a.tmps[p]?.getD undef = .pointer (some ⟨b, 0, none⟩) := by simpa using hp
  refine retG_own hd H hq (fun w hF => Go.Proofs.Ytgnhddnhcfmipaa.results_row_tmp hres _ _ b t vs (0, 0) d hp (hF.row k hk) hu (by cases d <;> first | rfl | exact absurd hagg (by simp [aggD])) hi) (fun w hF e he => ?_) hpost
  simp [results, hres, hp', asAddr] at he
  rcases ev_loadVar (hF.row k hk) hu hagg hi e he with h | ⟨ad, h1, h2⟩
  · simp at h
  · exact ⟨ad, h1 ▸ hF.mine k hk, h2⟩
end
end Go.Proofs.Ytgnhddnhcfmipaa.Ids
