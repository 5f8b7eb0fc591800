/- IdleStorms: a good run from every start. -/
import Derived.Test.YtgnhddnhcfmipaaIds32
namespace Go.Proofs.Ytgnhddnhcfmipaa.Ids
open Go Go.Conc Go.RowKit Go.Proofs.Ytgnhddnhcfmipaa.Eg Go.Proofs.Ytgnhddnhcfmipaa
open Go.ConcN (sumTo upd upd_ne upd_same PermW)

def y₀ : Gh Role := ⟨fun _ => False, 19266, 0, .alone fun _ => False⟩

theorem no_act (i : Nat) : Trace.act? (#[] : Trace) i = none := by simp [Trace.act?]
theorem no_touch (i : Nat) : touchAt (#[] : Trace) i = none := by simp [touchAt, no_act]

theorem cons0 (W : World) : Cons W 1 (fun _ => y₀) (fun _ => false) 19266 W #[] where
  gc := {
    dens := ⟨fun i b _ _ h => h.elim, fun i l _ _ h => (h.elim id id).elim, fun i j b _ _ _ _ _ h => h.elim, fun i j l _ _ _ _ ⟨_, _, h⟩ => h.elim, fun i j l _ _ _ _ ⟨_, _, h⟩ => h.elim, fun i j l _ _ _ _ h => h.elim⟩
    deaf := fun i _ _ => by exact Go.ConcN.Deaf_absent fun i op h => by simp at h
    ti := ⟨fun said ⟨i, j, _, ⟨a, b, h, _⟩, _⟩ => (by rw [no_act] at h; cases h), fun g l ⟨_, _, _, _, h⟩ => h.elim, fun g l ⟨_, _, h⟩ => h.elim, fun g l ⟨_, _, h⟩ => h.elim, fun i op a h => by simp at h⟩
    seen := fun i a b h => by rw [no_touch] at h; cases h
    gs := fun op h => by simp at h
    norel := fun a i => by rw [no_act]; simp }
  below := Below.refl _ _
  high := fun i b _ _ h => h.elim
  main := ⟨by decide, rfl⟩
  rem := by simp [sm, sumTo, y₀]
  clean := ⟨fun b h => h.elim, fun b _ h => h.elim⟩
  role := ⟨fun j hj hj0 => by omega, fun j hj i x h => by
    obtain ⟨op, h1, h2⟩ := g?_of h
    simp at h1⟩

theorem commOk (W : World) : CommOk (S W.heap.size) (L W) := fun _ _ _ _ _ _ _ _ _ _ _ _ _ _ _ _ _ _ _ _ _ _ h => h.elim

theorem storms_run (d wn tn kn : Int) (W : World) :
    ∃ N last o w' t', runNT Try.prog (N + 1) (solo (Conc.G (Frame.enter Try.prog 10 #[.int .i64 d, .int .i64 wn, .int .i64 tn, .int .i64 kn] .normal) []) W) #[] = (.ended o w', t') ∧ runN Try.prog N (solo (Conc.G (Frame.enter Try.prog 10 #[.int .i64 d, .int .i64 wn, .int .i64 tn, .int .i64 kn] .normal) []) W) = .next last ∧
      step Try.prog last = .ended o w' ∧ Conc.Good Try.prog (fun v w => v = .bool true ∧ Below W.heap.size W w) last o w' t' := by
  obtain ⟨n, h⟩ := law10
  exact eng_start (S := S W.heap.size) (L := L W) (n := fun _ => n) (y₀ := y₀) (K := 19266) (commOk W) rfl
    (h (fun _ => False) d wn tn kn rfl rfl (Nat.le_refl _) ⟨⟨List.nodup_nil, fun p hp => by simp at hp⟩, ⟨Nat.le_refl _, ⟨fun b hb => hb.elim, fun b _ hb => hb.elim⟩, trivial⟩, fun b hb => hb.elim, fun b hb => hb.elim, Nat.le_refl _, Keeps.triv _, trivial⟩)
    (cons0 W)
end Go.Proofs.Ytgnhddnhcfmipaa.Ids
