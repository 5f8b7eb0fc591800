/- Idle: the program's book alone in memory: what each call makes of it. -/
import Derived.Test.YtgnhddnhcfmipaaInv3
import Derived.Test.YtgnhddnhcfmipaaBks
import Derived.Test.YtgnhddnhcfmipaaMem5
import Derived.Test.YtgnhddnhcfmipaaAwk
namespace Go.Proofs.Ytgnhddnhcfmipaa
open Go.RowKit Go.BigFrame

/-- the book at bb, all of it below M -/
structure Sg (w W : World) (M bb : Nat) (v : Value) (ds : List Dv) (now : Int) : Prop where
  bk : Bp W bb bb v ds now
  lb : bb < M
  lv : ∀ g, v.ownBlock = some g → g < M
  lo : w.heap.size ≤ bb
  hM : M ≤ W.heap.size
  b : Below w.heap.size w W
section
variable {w W W' : World} {M bb : Nat} {v : Value} {ds : List Dv} {now : Int}
theorem Sg.above (h : Sg w W M bb v ds now) (d : Below M W W') : Sg w W' M bb v ds now :=
  ⟨h.bk.keep (d.block _ h.lb) (fun g hg => d.block _ (h.lv g hg)), h.lb, h.lv, h.lo, Nat.le_trans h.hM d.size, h.b.trans (d.mono (by have := h.lo; have := h.lb; omega))⟩
theorem Sg.below (h : Sg w W M bb v ds now) (d : Below W.heap.size W W') : Sg w W' M bb v ds now := h.above (d.mono h.hM)
theorem Sg.drawn (h : Sg w W M bb v ds now) (d : Drawn W W') : Sg w W' M bb v ds now := h.below (d.below _)
/-- what a call leaves of what lies behind M -/
def Kb (M : Nat) (W W' : World) : Prop := W.heap.size ≤ W'.heap.size ∧ ∀ b, M ≤ b → b < W.heap.size → W'.heap[b]? = W.heap[b]?
theorem Kb.own {B T s : Nat} {xs : List (List Value)} {x : Value} (h : Kb M W W') (ho : Own W B T s xs x) (hB : M ≤ B) : Own W' B T s xs x := ho.keep fun g hg => h.2 g (Nat.le_trans hB (ho.lt g hg).1) (ho.lt g hg).2
theorem Kb.below (d : Below W.heap.size W W') : Kb M W W' := ⟨d.size, fun b _ h => d.block b h⟩
theorem Kb.drawn (d : Drawn W W') : Kb M W W' := Kb.below (d.below _)
theorem Sg.prog {d3 : List Dv} {n3 : Int} (h : Sg w W M bb v ds now) (hB : Bp W' bb bb v d3 n3) (hF : Fr W.heap.size (fun b => v.ownBlock = some b ∨ b = bb) W W') : Sg w W' M bb v d3 n3 ∧ Kb M W W' := by
  have lb := h.lb
  have lo := h.lo
  have hS : ∀ b, (v.ownBlock = some b ∨ b = bb) → bb ≤ b ∧ b < M := fun b hb => by
    rcases hb with q | rfl
    · exact ⟨(h.bk.own.lt b q).1, h.lv b q⟩
    · exact ⟨Nat.le_refl _, lb⟩
  exact ⟨⟨hB, lb, h.lv, lo, Nat.le_trans h.hM hF.size, h.b.trans (hF.below h.b.size (fun b hb => by have := hS b hb; omega))⟩, hF.size, fun b h1 h2 => hF.k b h2 (fun q => by have := hS b q; omega)⟩
theorem sg_get (h : Sg w W M bb v ds now) (hp : Par ds) (hl : ds.length ≤ 512) (i : Int) : Calls Try.prog 28 #[.pointer (some ⟨bb, 0, none⟩), .int .i64 i] W fun e w' => ∃ vo, e = .returned (.tuple #[vo, .int .i64 (getd ds now i).2.2]) ∧ Sg w w' M bb v (getd ds now i).1 now ∧ Own w' W.heap.size 84 3 ((getd ds now i).2.1.map erow) vo ∧ Kb M W w' :=
  (bget_any h.bk hp hl i).mono fun _ _ ⟨vo, h1, h2, h3, h4⟩ => ⟨vo, h1, (h.prog h2 (h4.mono (Nat.le_refl _) fun _ _ q => Or.inl q)).1, h3, (h.prog h2 (h4.mono (Nat.le_refl _) fun _ _ q => Or.inl q)).2⟩
theorem sg_put (h : Sg w W M bb v ds now) (i : Int) : Calls Try.prog 30 #[.pointer (some ⟨bb, 0, none⟩), .int .i64 i] W fun e w' => e = .returned (.tuple #[.slice none 0 0, .int .i64 (putd ds now i).2]) ∧ Sg w w' M bb v (putd ds now i).1 now ∧ Kb M W w' :=
  (bput_any h.bk i).mono fun _ _ ⟨h1, h2, h4⟩ => ⟨h1, (h.prog h2 (h4.mono (Nat.le_refl _) fun _ _ q => Or.inl q)).1, (h.prog h2 (h4.mono (Nat.le_refl _) fun _ _ q => Or.inl q)).2⟩
theorem sg_tick (h : Sg w W M bb v ds now) (hp : Par ds) (hl : ds.length ≤ 512) (i : Int) : Calls Try.prog 32 #[.pointer (some ⟨bb, 0, none⟩), .int .i64 i] W fun e w' => ∃ vo, e = .returned (.tuple #[vo, .int .i64 (tickd ds now i).2.2.2]) ∧ Sg w w' M bb v (tickd ds now i).1 (tickd ds now i).2.1 ∧ Own w' W.heap.size 84 3 ((tickd ds now i).2.2.1.map erow) vo ∧ Kb M W w' :=
  (btick_any h.bk hp hl i).mono fun _ _ ⟨vo, h1, h2, h3, h4⟩ => ⟨vo, h1, (h.prog h2 h4).1, h3, (h.prog h2 h4).2⟩
end
def brow (b : Bool) : List Value := [.bool b]
theorem ub4 : (Try.prog.info? 4).map (fun i => (i.zero, i.size, i.bytes)) = some (some (.bool false), 1, 1) := by kernel_rfl
theorem rep_brow (ps qs : List Int) (n : Nat) : List.replicate n [Value.bool false] = ((devs ps qs n).map (·.a)).map brow := by
  unfold devs
  rw [List.map_map, List.map_map]
  apply List.ext_getElem?
  intro i
  rw [List.getElem?_map, List.getElem?_replicate]
  by_cases h : i < n
  · rw [if_pos h, List.getElem?_range h]; rfl
  · rw [if_neg h, List.getElem?_eq_none (by simpa using h)]; rfl
/-- a place of a list of Bools of the call's own -/
theorem bools_at {W : World} {B : Nat} {T : TypeId} {bs : List Bool} {A : Option Addr} {n c : Nat} (h : Own W B T 1 (bs.map brow) (.slice A n c)) (hn : bs.length = n) {k : Nat} (hk : k < n) : ∃ g, A = some ⟨g, 0, none⟩ ∧ B ≤ g ∧ g < W.heap.size ∧ W.cell? ⟨g, k, none⟩ = some (.bool (bs[k]'(by omega))) ∧ W.frozen? ⟨g, k, none⟩ = false ∧
    ∀ x, Own (W.setCell ⟨g, k, none⟩ (.bool x)) B T 1 ((bs.set k x).map brow) (.slice A n c) := by
  obtain ⟨g, u, e, h1, h2, h3, h4, h5, h6⟩ := h.row1 (by rw [List.length_map]; exact hn) hk
  have hu : u = .bool (bs[k]'(by omega)) := by
    rw [List.getElem?_map, List.getElem?_eq_getElem (by omega)] at h5
    simp only [Option.map_some, brow, Option.some.injEq, List.cons.injEq, and_true] at h5
    exact h5.symm
  subst hu
  exact ⟨g, e, h1, h2, h3, h4, fun x => by rw [List.map_set]; exact h6 _⟩
theorem own_evs' {W : World} {B T n c : Nat} {A : Option Addr} {l : List Ev} (h : Own W B T 3 (l.map erow) (.slice A n c)) : Evs W A l := by
  obtain ⟨A', c', e, hE⟩ := own_evs h
  rw [(Value.slice.inj e).1]
  exact hE
end Go.Proofs.Ytgnhddnhcfmipaa
