/- IdleStorms: a storm begins. -/
import Derived.Test.YtgnhddnhcfmipaaIds28
import Derived.Test.YtgnhddnhcfmipaaIds29
import Derived.Test.YtgnhddnhcfmipaaIds20
namespace Go.Proofs.Ytgnhddnhcfmipaa.Ids
open Go Go.Conc Go.RowKit Go.Proofs.Ytgnhddnhcfmipaa.Eg Go.Proofs.Ytgnhddnhcfmipaa

section
variable {N : Nat} {F : Nat → World → Prop} {m : Bool} {fn : FuncId} {Q : PostF (S N)} {K n : Nat} {y : Gh Role} {a : Act} {w : World} {l l' : List Row} {ops : Array Oper} {i : Nat} {rest : List Nat} {o : Oper}

/-- A STORM BEGINS: four of goroutine 0's blocks are laid out. -/
theorem OF.start {v : Value} {c : Cfg} {p8 : Row} (ho : ops[i]? = some o) (hw : Region.wanted o (yielded ops a.tmps) = true) (hr : ∀ w, (execOp a.eval o).run Try.prog w = .ok (.value v) w) (he : ∀ w, (execOp a.eval o).events Try.prog w #[] = #[])
    (H : Ctx N T0 y K w ((c.wg, #[.int .u64 0, .int .u32 0], 124) :: (c.wb, #[.pointer (some ⟨c.wd, 0, none⟩)], 23) :: (c.wd, #[.int .i64 c.d, .int .u64 0], 100) :: p8 :: (c.tb, #[.int .i64 (c.T : Int)], 3) :: l)) (hrl : y.role = .alone c.shun) (hdf : y.deaf = 0)
    (hd : 0 ≤ c.d ∧ c.d ≤ 2147483647) (hT : c.T < 2147483648)
    (hn : ∀ K₁ y' w₁, K₁ ≤ K → y'.role = .boss c (.op 0 false) → y'.deaf = 0 → y'.rem = y.rem → Ctx N T0 y' K₁ w₁ (p8 :: l) → OF (S N) m fn ops rest n Q K₁ y' (a.put o.dst v) w₁) : OF (S N) m fn ops (i :: rest) (n + 1) Q K y a w := by
  refine OF.cons ho hw fun K₁ hK w₁ r => ?_
  have H₁ := H.rely r
  have hev : listed Try.prog fn a o w₁ = #[] := by unfold listed; rw [he, seen_none]
  show uponK o a _ ((execOp a.eval o).run Try.prog w₁)
  rw [hr]
  have hg := H₁.rows.get (k := 0) rfl
  have hb := H₁.rows.get (k := 1) rfl
  have hd' := H₁.rows.get (k := 2) rfl
  have ht := H₁.rows.get (k := 4) rfl
  have hnd := H₁.rows.nd
  simp only [List.map_cons, List.nodup_cons, List.mem_cons, not_or] at hnd
  obtain ⟨⟨e1, e2, e3, e4, e5⟩, ⟨e6, e7, e8, e9⟩, ⟨f1, f2, f3⟩, ⟨g1, g2⟩, h1, h2⟩ := hnd
  have hs : Still c w₁ := ⟨ht.2, hb.2, hd, hT⟩
  have hwd : w₁.heap[c.wd]? = some (wdO c 0 false) := hd'.2
  have hcl := H₁.st.2.1
  rw [hrl] at hcl
  refine ⟨⟨fun b => y.own b ∧ b ≠ c.wd ∧ b ≠ c.wg ∧ b ≠ c.tb ∧ b ≠ c.wb, y.rem, y.deaf, .boss c (.op 0 false)⟩, fun wk => ?_, hn K₁ _ w₁ hK rfl hdf rfl ⟨⟨?_, fun p hp => ?_⟩, ⟨H₁.st.1, ⟨hcl.1, fun b hb' => ?_⟩, ⟨hs, 0, false, hwd, 0, Nat.le_refl _, Nat.le_refl _, by decide, by simp [b2n]; exact hg.2, fun _ h => by omega⟩, fun b hb' => ⟨hb'.2.2.2.1, hb'.2.2.2.2, hb'.2.1, hb'.2.2.1⟩⟩, fun b hb' => H₁.hi b hb'.1, fun b hb' => H₁.lo b hb'.1, H₁.big, Keeps.triv _, trivial⟩⟩
  · rw [show listed (S N).P fn a o w₁ = #[] from hev]
    exact .start hrl hs hwd hg.2 ⟨hd'.1, hg.1, ht.1, hb.1⟩ ⟨e2, e4, e1, f2, fun e => e6 e.symm⟩ hdf
  · simp only [List.map_cons, List.nodup_cons]
    exact ⟨g2, h2⟩
  · have hno : ∀ b, b ∈ (p8 :: l).map (·.1) → b ≠ c.wd ∧ b ≠ c.wg ∧ b ≠ c.tb ∧ b ≠ c.wb := fun b hm => by
      simp only [List.map_cons, List.mem_cons] at hm
      rcases hm with rfl | hm
      · exact ⟨fun e => f1 e.symm, fun e => e3 e.symm, g1, fun e => e7 e.symm⟩
      · exact ⟨fun e => f3 (e ▸ hm), fun e => e5 (e ▸ hm), fun e => h1 (e ▸ hm), fun e => e9 (e ▸ hm)⟩
    have hp2 : p ∈ ((c.wg, #[.int .u64 0, .int .u32 0], 124) :: (c.wb, #[.pointer (some ⟨c.wd, 0, none⟩)], 23) :: (c.wd, #[.int .i64 c.d, .int .u64 0], 100) :: p8 :: (c.tb, #[.int .i64 (c.T : Int)], 3) :: l : List Row) := by
      simp only [List.mem_cons] at hp ⊢
      rcases hp with h | h <;> simp [h]
    have := H₁.rows.at_ p hp2
    exact ⟨⟨this.1, hno _ (List.mem_map.2 ⟨p, hp, rfl⟩)⟩, this.2⟩
  · rcases hb' with hb' | hb'
    · exact hcl.2 b (.inl hb'.1)
    · have ho : y.own b := by
        rcases hb' with rfl | rfl | rfl
        · exact hd'.1
        · exact ht.1
        · exact hb.1
      exact hcl.2 b (.inl ho)
end
end Go.Proofs.Ytgnhddnhcfmipaa.Ids
