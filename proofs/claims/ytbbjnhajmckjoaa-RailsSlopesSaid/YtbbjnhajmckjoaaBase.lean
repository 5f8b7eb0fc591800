/- Rails: rows of two numbers; rows of one. -/
import Derived.Test.YtbbjnhajmckjoaaProg
import Derived.Test.YtbbjnhajmckjoaaMem
import Derived.WalkKit
import Derived.WalkLawsBesides
import Derived.WalkSpells
import Derived.Lib.Hide
import Derived.Handy
import Derived.Deep.QuietTactic
import Derived.BigQuiet
namespace Go.Proofs.Ytbbjnhajmckjoaa
open Go.RowKit

def prow (p : Int × Int) : List Value := [.int .i64 p.1, .int .i64 p.2]
abbrev Pt := Int × Int
/-- a slice of pairs in memory -/
def Pts (w : World) (A : Option Addr) (l : List Pt) : Prop := Sl (fun _ => True) w A 2 (l.map prow)
theorem Pts.at_ {w : World} {A : Option Addr} {l : List Pt} (h : Pts w A l) {k : Nat} (hk : k < l.length) :
    ∃ b o, A = some ⟨b, o, none⟩ ∧ b < w.heap.size ∧ w.cell? ⟨b, o + k * 2, none⟩ = some (.int .i64 l[k].1) ∧ w.cell? ⟨b, o + k * 2 + 1, none⟩ = some (.int .i64 l[k].2) := by
  obtain ⟨b, o, e, _, hl, hc⟩ := Sl.at_ h (k := k) (by simpa using hk)
  refine ⟨b, o, e, hl, ?_, ?_⟩
  · exact hc 0 _ (by simp [prow])
  · exact hc 1 _ (by simp [prow])
theorem Pts.le {w : World} {A : Option Addr} {l : List Pt} (h : Pts w A l) : l.length ≤ 9223372036854775807 := by
  have := Sl.le h; simpa using this
theorem Pts.below {w w' : World} {A : Option Addr} {l : List Pt} (h : Pts w A l) (d : Below w.heap.size w w') : Pts w' A l := Sl.below' h d

def irow (n : Int) : List Value := [.int .i64 n]
def Ints (w : World) (A : Option Addr) (l : List Int) : Prop := Sl (fun _ => True) w A 1 (l.map irow)
theorem Ints.at_ {w : World} {A : Option Addr} {l : List Int} (h : Ints w A l) {k : Nat} (hk : k < l.length) :
    ∃ b o, A = some ⟨b, o, none⟩ ∧ b < w.heap.size ∧ w.cell? ⟨b, o + k, none⟩ = some (.int .i64 l[k]) := by
  obtain ⟨b, o, e, _, hl, hc⟩ := Sl.at_ h (k := k) (by simpa using hk)
  refine ⟨b, o, e, hl, ?_⟩
  have := hc 0 _ (show _ = some (.int .i64 l[k]) by simp [irow])
  rw [Nat.mul_one, Nat.add_zero] at this
  exact this
theorem Ints.le {w : World} {A : Option Addr} {l : List Int} (h : Ints w A l) : l.length ≤ 9223372036854775807 := by
  have := Sl.le h; simpa using this

theorem size_drewN (w : World) (n : Nat) : (w.drewN n).heap.size = w.heap.size := rfl
theorem i64_in (n : Int) (h : -9223372036854775808 ≤ n ∧ n ≤ 9223372036854775807) : IntKind.i64.wrap n = n := by rw [IntKind.wrap_i64]; omega
theorem ret_ii {p : Int × Int} {a b : Int} (h : p = (a, b)) : Ending.returned (.tuple #[.int .i64 a, .int .i64 b]) = .returned (.tuple #[.int .i64 p.1, .int .i64 p.2]) := by rw [h]
end Go.Proofs.Ytbbjnhajmckjoaa
