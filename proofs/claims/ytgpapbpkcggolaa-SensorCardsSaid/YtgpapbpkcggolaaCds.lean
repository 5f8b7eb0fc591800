/- Sensor: cards in memory; the same card, the same cards; walked. -/
import Derived.Test.YtgpapbpkcggolaaProg
import Derived.Test.YtgpapbpkcggolaaMem4
import Derived.WalkKit
import Derived.WalkLawsBesides
import Derived.WalkSpells
import Derived.Lib.Hide
import Derived.Handy
import Derived.Deep.QuietTactic
import Derived.BigQuiet
import Derived.Deep.Cut
import Derived.Deep.CutRange
import Derived.Deep.RegionHeld3
import Derived.Deep.RegionLaw
namespace Go.Proofs.Ytgpapbpkcggolaa
open Go.RowKit Go.BigFrame

theorem wp_world {P : Program} {c : Code} {Q : Exit → Act → World → Prop} {a : Act} {W : World} (h : ∀ wX, wX = W → c.wp P Q a wX) : c.wp P Q a W := h _ rfl
def srow (s : ByteArray) : List Value := [.string s]
def Txts (w : World) (A : Option Addr) (l : List ByteArray) : Prop := Sl (fun _ => True) w A 1 (l.map srow)
theorem Txts.at_ {w : World} {A : Option Addr} {l : List ByteArray} (h : Txts w A l) {k : Nat} (hk : k < l.length) :
    ∃ b o, A = some ⟨b, o, none⟩ ∧ b < w.heap.size ∧ w.cell? ⟨b, o + k, none⟩ = some (.string l[k]) := by
  obtain ⟨b, o, e, _, hl, hc⟩ := Sl.at_ h (k := k) (by simpa using hk)
  refine ⟨b, o, e, hl, ?_⟩
  have := hc 0 (.string l[k]) (by simp [srow])
  simpa using this
theorem Txts.le {w : World} {A : Option Addr} {l : List ByteArray} (h : Txts w A l) : l.length ≤ 9223372036854775807 := by
  have := Sl.le h; simpa using this
theorem Txts.below {w w' : World} {A : Option Addr} {l : List ByteArray} (h : Txts w A l) (d : Below w.heap.size w w') : Txts w' A l := Sl.below' h d
/-- a card -/
structure Cd where
  n : ByteArray
  f : ByteArray
  lv : Int
  cs : List ByteArray
  sc : Int
  q : ByteArray
  en : Int
def crow (p : Cd) (A : Option Addr) (c : Nat) : List Value := [.string p.n, .string p.f, .int .u8 p.lv, .slice A p.cs.length c, .int .i8 p.sc, .string p.q, .int .i16 p.en]
/-- cards in memory, each with a list of texts behind it -/
def Cds (w : World) (A : Option Addr) (l : List Cd) : Prop :=
  l.length ≤ 9223372036854775807 ∧ ∀ k (h : k < l.length), ∃ b o Ai ci, A = some ⟨b, o, none⟩ ∧ b < w.heap.size ∧ (∀ f u, (crow l[k] Ai ci)[f]? = some u → w.cell? ⟨b, o + k * 7 + f, none⟩ = some u) ∧ Txts w Ai l[k].cs
theorem Cds.below {w w' : World} {A : Option Addr} {l : List Cd} (h : Cds w A l) (d : Below w.heap.size w w') : Cds w' A l :=
  ⟨h.1, fun k hk => by
    obtain ⟨b, o, Ai, ci, e, hb, hc, ht⟩ := h.2 k hk
    have := d.size
    exact ⟨b, o, Ai, ci, e, by omega, fun f u hu => (d.cell hb).trans (hc f u hu), ht.below d⟩⟩
def abox (p : Cd) (A : Option Addr) (c : Nat) : Array Value := (crow p A c).toArray
set_option maxHeartbeats 4000000 in
set_option maxRecDepth 100000 in
theorem same_any (p : Cd) (A B : Option Addr) (ca cb : Nat) (w : World) (hA : Txts w A p.cs) (hB : Txts w B p.cs) :
    Calls Try.prog 13 #[.agg #[.string p.n, .string p.f, .int .u8 p.lv, .slice A p.cs.length ca, .int .i8 p.sc, .string p.q, .int .i16 p.en], .agg #[.string p.n, .string p.f, .int .u8 p.lv, .slice B p.cs.length cb, .int .i8 p.sc, .string p.q, .int .i16 p.en]] w
      fun e w' => e = .returned (.bool true) ∧ Below w.heap.size w w' := by
  obtain ⟨n, f, lv, cs, sc, q, en⟩ := p
  simp only at hA hB ⊢
  have hlen := hA.le
  have e2 : (lv != lv) = false := by simp
  have e3 : (sc != sc) = false := by simp
  have e5 : (en != en) = false := by simp
  have e6 : ((cs.length : Int) != cs.length) = false := by simp
  go_enter Try.func13, Try.ntmps13
  go_upto_region 1 with fail
  refine wp_world ?_
  intro w0 hX
  have hb0 : Below w.heap.size w w0 := by rw [hX]; exact below_al (below_al (Below.refl _ _) _) _
  have r0 : w0.heap[w.heap.size]? = some (.cells #[.string n, .string f, .int .u8 lv, .slice A cs.length ca, .int .i8 sc, .string q, .int .i16 en] 29) := by rw [hX]; exact (Below.heap_alloc _ _ _ (by rw [size_al]; omega)).trans (heap_alloc_at _ _)
  have r1 : w0.heap[w.heap.size + 1]? = some (.cells #[.string n, .string f, .int .u8 lv, .slice B cs.length cb, .int .i8 sc, .string q, .int .i16 en] 29) := by rw [hX]; exact heap_alloc_at' _ _ _ (by rw [size_al])
  clear hX
  have hA' := hA.below hb0
  have hB' := hB.below hb0
  have p0 := cell_of_row _ _ 0 _ 29 (0, 0) r0
  have p1 := cell_of_row _ _ 1 _ 29 (0, 0) r0
  have p2 := cell_of_row _ _ 2 _ 29 (0, 0) r0
  have p3 := cell_of_row _ _ 3 _ 29 (0, 0) r0
  have p4 := cell_of_row _ _ 4 _ 29 (0, 0) r0
  have p5 := cell_of_row _ _ 5 _ 29 (0, 0) r0
  have p6 := cell_of_row _ _ 6 _ 29 (0, 0) r0
  have q0 := cell_of_row _ _ 0 _ 29 (0, 0) r1
  have q1 := cell_of_row _ _ 1 _ 29 (0, 0) r1
  have q2 := cell_of_row _ _ 2 _ 29 (0, 0) r1
  have q3 := cell_of_row _ _ 3 _ 29 (0, 0) r1
  have q4 := cell_of_row _ _ 4 _ 29 (0, 0) r1
  have q5 := cell_of_row _ _ 5 _ 29 (0, 0) r1
  have q6 := cell_of_row _ _ 6 _ 29 (0, 0) r1
  simp only [List.getElem?_toArray, List.getElem?_cons_zero, List.getElem?_cons_succ] at p0 p1 p2 p3 p4 p5 p6 q0 q1 q2 q3 q4 q5 q6
  clear r0 r1 hA hB
  go_upto_region 2 with fail
  go_loopw [5] (fun v wr => ∃ (k : Nat), k ≤ cs.length ∧ v = .int .i64 k ∧ Drawn w0 wr) (fun v _ => cs.length - (intOf v).toNat)
  case atStart => exact ⟨0, by omega, rfl, Drawn.refl _⟩
  case round =>
    obtain ⟨k, hk, rfl, hd⟩ := hrel
    have p3' := (hd.cell _).trans p3
    have q3' := (hd.cell _).trans q3
    by_cases hkl : k = cs.length
    · subst hkl
      go_wp2
      go_ret
      exact ⟨rfl, hd.after hb0⟩
    have hkl : k < cs.length := by omega
    obtain ⟨b1, o1, rfl, _, c1⟩ := hA'.at_ hkl
    obtain ⟨b2, o2, rfl, _, c2⟩ := hB'.at_ hkl
    replace c1 := (hd.cell _).trans c1
    replace c2 := (hd.cell _).trans c2
    clear p0 p1 p2 p3 p4 p5 p6 q0 q1 q2 q3 q4 q5 q6 hA' hB'
    generalize cs[k] = ct at *
    go_wp2
    go_quiet (fail)
    go_wp2
    go_roundw
    case rel => exact ⟨k + 1, by omega, by go_num, hd.drewN _⟩
    case measure => simp [intOf]; omega
end Go.Proofs.Ytgpapbpkcggolaa
