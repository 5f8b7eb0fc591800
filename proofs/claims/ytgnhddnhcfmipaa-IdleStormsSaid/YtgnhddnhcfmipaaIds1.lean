/- IdleStorms: who is who, what each knows, what each may do. -/
import Derived.Test.YtgnhddnhcfmipaaEg10
import Derived.Test.YtgnhddnhcfmipaaEg11
import Derived.Test.YtgnhddnhcfmipaaWord
import Derived.Test.YtgnhddnhcfmipaaProg
namespace Go.Proofs.Ytgnhddnhcfmipaa.Ids
open Go Go.Conc Go.RowKit Go.Proofs.Ytgnhddnhcfmipaa.Eg
open Go.Proofs.Ytgnhddnhcfmipaa (VW)

/-- A storm: the blocks of its group, its word, the two captured variables; the turns, the delay; the blocks that older storms have left shunned. -/
structure Cfg where
  wg : Nat
  wd : Nat
  tb : Nat
  wb : Nat
  T : Nat
  d : Int
  shun : Nat → Prop

/-- goroutine 0 in a storm: k are started (one more is counted already); it is registered as waiting; all have gone -/
inductive Bp where
  | op (k : Nat) (pend : Bool)
  | reg
  | free
/-- a worker: at work (it holds a use; it has taken one) · behind 'releaseMerge' · behind 'disable' · the last, with the count at 0 · behind 'Store(0)' -/
inductive Wp where
  | busy (held did : Bool)
  | rel
  | deaf
  | last
  | stored
  | gone
inductive Role where
  | alone (shun : Nat → Prop)
  | boss (c : Cfg) (p : Bp)
  | work (c : Cfg) (p : Wp)

def Role.cfg? : Role → Option Cfg
  | .alone _ => none
  | .boss c _ | .work c _ => some c

/-- the shunned blocks; those that go back to goroutine 0 -/
def Role.shun : Role → Nat → Prop
  | .alone s, b => s b
  | .boss c _, b => c.shun b
  | .work .., _ => False
def Role.kept : Role → Nat → Prop
  | .boss c _, b => b = c.wd ∨ b = c.tb ∨ b = c.wb
  | _, _ => False
/-- What is its own is not shunned. -/
def Clean (r : Role) (own : Nat → Prop) (n : Nat) : Prop := (∀ b, r.shun b → b < n) ∧ ∀ b, own b ∨ r.kept b → ¬ r.shun b

def sh : Sh Role where
  still r l := match r.cfg? with
    | none => False
    | some c => ∃ a : Addr, l = .cell a ∧ (a.block = c.tb ∨ a.block = c.wb ∨ (a.block = c.wd ∧ a.off ≠ 1))
  shared r l := match r.cfg? with
    | none => False
    | some c => ∃ a : Addr, l = .cell a ∧ (a.block = c.wg ∨ (a.block = c.wd ∧ a.off = 1))

/-- the word with u uses -/
def wdv (u : Int) (e : Bool) : VW := ⟨u, e, 0, if e then 1 else 0⟩
def wdO (c : Cfg) (u : Int) (e : Bool) : Obj := .cells #[.int .i64 c.d, .int .u64 (wdv u e).num] 100
def grO (s m : Int) : Obj := .cells #[.int .u64 s, .int .u32 m] 124

structure Still (c : Cfg) (w : World) : Prop where
  tb : w.heap[c.tb]? = some (.cells #[.int .i64 c.T] 3)
  wb : w.heap[c.wb]? = some (.cells #[.pointer (some ⟨c.wd, 0, none⟩)] 23)
  d : 0 ≤ c.d ∧ c.d ≤ 2147483647
  T : c.T < 2147483648

def b2n (b : Bool) : Nat := if b then 1 else 0

def Wp.cnt : Wp → Nat
  | .busy .. | .rel | .deaf => 1
  | _ => 0
def Wp.held : Wp → Nat
  | .busy true _ => 1
  | _ => 0
/-- it has room for a use more -/
def Wp.vac : Wp → Nat
  | .busy false _ => 1
  | _ => 0
def Wp.nl : Wp → Nat
  | .last => 1
  | _ => 0
def Wp.ns : Wp → Nat
  | .stored => 1
  | _ => 0
/-- that the word is awake is known to it -/
def Wp.sure (T : Nat) : Wp → Prop
  | .busy h d => h = true ∨ d = true
  | _ => 0 < T
/-- it has released -/
def Wp.out : Wp → Bool
  | .busy .. => false
  | _ => true

/-- What a worker knows. -/
def StW (c : Cfg) (p : Wp) (w : World) : Prop :=
  Still c w ∧ (∃ (u : Nat) (e : Bool), w.heap[c.wd]? = some (wdO c u e) ∧ p.held ≤ u ∧ u + p.vac ≤ 16 ∧ (p.sure c.T → e = true)) ∧
    match p with
    | .last => w.heap[c.wg]? = some (grO 1 0)
    | .stored => w.heap[c.wg]? = some (grO 0 0)
    | .gone => False
    | _ => ∃ v wt : Nat, v < 17 ∧ wt ≤ 1 ∧ w.heap[c.wg]? = some (grO ((v + 1 : Nat) * 4294967296 + wt) 0)

/-- All have gone: the word. -/
def Fin (c : Cfg) (u : Nat) (e : Bool) : Prop := u = 0 ∧ e = decide (0 < c.T)

/-- What goroutine 0 knows in a storm. -/
def StB (c : Cfg) (p : Bp) (w : World) : Prop :=
  Still c w ∧ ∃ (u : Nat) (e : Bool), w.heap[c.wd]? = some (wdO c u e) ∧
    match p with
    | .op k pend => ∃ n : Nat, u ≤ n ∧ n ≤ k ∧ k + b2n pend ≤ 16 ∧ w.heap[c.wg]? = some (grO ((n + b2n pend : Nat) * 4294967296) 0) ∧ (n = 0 → 0 < k → Fin c u e)
    | .reg => ∃ (s m : Int), w.heap[c.wg]? = some (grO s m) ∧ (m = 0 ∨ (m = 1 ∧ s = 0 ∧ Fin c u e))
    | .free => w.heap[c.wg]? = some (grO 0 0) ∧ Fin c u e

/-- What is its own lies apart. -/
def Ap (c : Cfg) (own : Nat → Prop) : Prop := ∀ b, own b → b ≠ c.tb ∧ b ≠ c.wb ∧ b ≠ c.wd ∧ b ≠ c.wg

def St (y : Gh Role) (K : Nat) (w : World) : Prop :=
  y.rem ≤ K ∧ Clean y.role y.own w.heap.size ∧ match y.role with
    | .alone _ => True
    | .boss c p => StB c p w ∧ Ap c y.own
    | .work c p => StW c p w ∧ Ap c y.own

/-- It is alone: nothing but draws. -/
def Role.solo : Role → Bool
  | .alone _ | .boss _ .free => true
  | _ => false

/-- What stands while the budget stands. -/
def stands : Role → World → World → Prop
  | .work c _, w, w₁ => w₁.heap[c.wd]? = w.heap[c.wd]?
  | .boss c (.op ..), w, w₁ => w₁.heap[c.wg]? = w.heap[c.wg]?
  | _, _, _ => True

def R (y : Gh Role) (K K₁ : Nat) (w w₁ : World) : Prop :=
  if y.role.solo then K₁ = K ∧ ∃ d, w₁ = w.at d
  else K₁ ≤ K ∧ w.heap.size ≤ w₁.heap.size ∧ (∀ b, y.own b → w₁.heap[b]? = w.heap[b]?) ∧ (St y K w → St y K₁ w₁) ∧ (K₁ = K → stands y.role w w₁)

def Role.main : Role → Prop
  | .work .. => False
  | _ => True
def Role.quiet : Role → Bool
  | .work _ (.busy ..) => false
  | .work .. => true
  | _ => false

/-- A step that touches own blocks, and shared ones atomically without turning them. -/
def Plain (N : Nat) (y : Gh Role) (K : Nat) (w : World) (y' : Gh Role) (K' : Nat) (w' : World) (es : Array Event) : Prop :=
  K' = K ∧ y'.role = y.role ∧ y'.rem = y.rem ∧ y'.deaf = deafBehind y.deaf es ∧ Below N w w' ∧ (∀ b, y.own b → y'.own b) ∧ (∀ b, y'.own b → y.own b ∨ (w.heap.size ≤ b ∧ b < w'.heap.size)) ∧
    (∀ b, b < w.heap.size → ¬ y.own b → w'.heap[b]? = w.heap[b]?) ∧ (∀ e ∈ es, EvOk (sh.still y.role) (sh.shared y.role) y'.own y.role.main e) ∧ (y.role.quiet = true → es = #[])

/-- A touch of cell i of block b, atomically. -/
def atm (b i : Nat) (e : Event) : Prop := e.loc = .cell ⟨b, i, none⟩ ∧ e.sync = true

inductive D (N : Nat) (y : Gh Role) (K : Nat) (w : World) : Gh Role → Nat → World → Array Event → Bool → Prop
  | plain {y' K' w' es wk} (h : Plain N y K w y' K' w' es) : D N y K w y' K' w' es wk
  | get {c d e K' es wk} {u : Nat} (hr : y.role = .work c (.busy false d)) (hT : 0 < c.T) (hw : w.heap[c.wd]? = some (wdO c u e)) (hu : u ≤ 16) (h1 : 0 < y.rem) (hK : K = K' + 1) (he : ∀ x ∈ es, atm c.wd 1 x) :
      D N y K w ⟨y.own, y.rem - 1, y.deaf, .work c (.busy true true)⟩ K' (w.setCell ⟨c.wd, 1, none⟩ (.int .u64 (wdv ((u + 1 : Nat) : Int) true).num)) es wk
  | put {c d K' es wk} {u : Nat} (hr : y.role = .work c (.busy true d)) (hw : w.heap[c.wd]? = some (wdO c ((u + 1 : Nat) : Int) true)) (hu : u ≤ 16) (h1 : 0 < y.rem) (hK : K = K' + 1) (he : ∀ x ∈ es, atm c.wd 1 x) :
      D N y K w ⟨y.own, y.rem - 1, y.deaf, .work c (.busy false d)⟩ K' (w.setCell ⟨c.wd, 1, none⟩ (.int .u64 (wdv (u : Int) true).num)) es wk
  | rel {c d wk} (hr : y.role = .work c (.busy false d)) (hd : 0 < c.T → d = true) (hdf : y.deaf = 0) :
      D N y K w ⟨y.own, y.rem, y.deaf, .work c .rel⟩ K w #[⟨.mark (.releaseMerge ⟨c.wg, 0, none⟩), false, true⟩] wk
  | deaf {c wk} (hr : y.role = .work c .rel) (hdf : y.deaf = 0) : D N y K w ⟨y.own, y.rem, 1, .work c .deaf⟩ K w #[⟨.mark .disable, false, true⟩] wk
  | last {c K' es wk} (hr : y.role = .work c .deaf) (hdf : y.deaf = 1) (hw : w.heap[c.wg]? = some (grO 4294967297 0)) (h1 : 0 < y.rem) (hK : K = K' + 1) (he : ∀ x ∈ es, atm c.wg 0 x) :
      D N y K w ⟨y.own, y.rem - 1, y.deaf, .work c .last⟩ K' (w.setCell ⟨c.wg, 0, none⟩ (.int .u64 1)) es wk
  | look {c es wk} (hr : y.role = .work c .last) (hdf : y.deaf = 1) (he : ∀ x ∈ es, atm c.wg 0 x) : D N y K w y K w es wk
  | store {c es wk} (hr : y.role = .work c .last) (hdf : y.deaf = 1) (he : ∀ x ∈ es, atm c.wg 0 x) :
      D N y K w ⟨y.own, y.rem, y.deaf, .work c .stored⟩ K (w.setCell ⟨c.wg, 0, none⟩ (.int .u64 0)) es wk
  | start {c wk} (hr : y.role = .alone c.shun) (hs : Still c w) (hwd : w.heap[c.wd]? = some (wdO c 0 false)) (hwg : w.heap[c.wg]? = some (grO 0 0)) (ho : y.own c.wd ∧ y.own c.wg ∧ y.own c.tb ∧ y.own c.wb)
      (hne : c.wg ≠ c.wd ∧ c.wg ≠ c.tb ∧ c.wg ≠ c.wb ∧ c.wd ≠ c.tb ∧ c.wd ≠ c.wb) (hdf : y.deaf = 0) :
      D N y K w ⟨fun b => y.own b ∧ b ≠ c.wd ∧ b ≠ c.wg ∧ b ≠ c.tb ∧ b ≠ c.wb, y.rem, y.deaf, .boss c (.op 0 false)⟩ K w #[] wk
  | add {c k es wk} {n : Nat} (hr : y.role = .boss c (.op k false)) (hk : k < 16) (hw : w.heap[c.wg]? = some (grO ((n : Nat) * 4294967296) 0)) (he : ∀ x ∈ es, atm c.wg 0 x) :
      D N y K w ⟨y.own, y.rem, y.deaf, .boss c (.op k true)⟩ K (w.setCell ⟨c.wg, 0, none⟩ (.int .u64 ((n + 1 : Nat) * 4294967296))) es wk
  | reg {c k K' es wk} {n : Nat} (hr : y.role = .boss c (.op k false)) (hk : 0 < k) (hw : w.heap[c.wg]? = some (grO ((n + 1 : Nat) * 4294967296) 0)) (h1 : 0 < y.rem) (hK : K = K' + 1) (he : ∀ x ∈ es, atm c.wg 0 x) :
      D N y K w ⟨y.own, y.rem - 1, y.deaf, .boss c .reg⟩ K' (w.setCell ⟨c.wg, 0, none⟩ (.int .u64 ((n + 1 : Nat) * 4294967296 + 1))) es wk
  | zero {c k es wk} (hr : y.role = .boss c (.op k false)) (hk : 0 < k) (hw : w.heap[c.wg]? = some (grO 0 0)) (he : ∀ x ∈ es, atm c.wg 0 x) :
      D N y K w ⟨y.own, y.rem, y.deaf, .boss c .free⟩ K w es wk
  | sem {c wk} (hr : y.role = .boss c .reg) (hw : w.heap[c.wg]? = some (grO 0 1)) :
      D N y K w ⟨y.own, y.rem, y.deaf, .boss c .free⟩ K (w.setCell ⟨c.wg, 1, none⟩ (.int .u32 0)) (semEvents ⟨c.wg, 1, none⟩) wk
  | acq {c wk} (hr : y.role = .boss c .free) (hdf : y.deaf = 0) :
      D N y K w ⟨fun b => N ≤ b ∧ b < w.heap.size ∧ ¬ c.shun b ∧ b ≠ c.wg, y.rem, y.deaf, .alone fun b => c.shun b ∨ b = c.wg⟩ K w #[⟨.mark (.acquire ⟨c.wg, 0, none⟩), false, true⟩] wk

def MayBlock (y : Gh Role) (w : World) : Prop := ∃ c s, y.role = .boss c .reg ∧ w.heap[c.wg]? = some (grO s 0)

def Fork (y : Gh Role) (K : Nat) (_ : World) (y' yc : Gh Role) (K' : Nat) : Prop :=
  ∃ c k, y.role = .boss c (.op k true) ∧ y.deaf = 0 ∧ y' = ⟨y.own, y'.rem, 0, .boss c (.op (k + 1) false)⟩ ∧ yc = ⟨fun _ => False, yc.rem, 0, .work c (.busy false false)⟩ ∧ y.rem = y'.rem + yc.rem + 1 ∧ K = K' + 1

inductive Exit (y : Gh Role) (K : Nat) (w : World) : Gh Role → Nat → World → Array Event → Bool → Nat → Prop
  | dec {c K' es wk} {v wt : Nat} (hr : y.role = .work c .deaf) (hdf : y.deaf = 1) (hw : w.heap[c.wg]? = some (grO ((v + 1 : Nat) * 4294967296 + (wt : Nat)) 0)) (h : 0 < v ∨ wt = 0) (hv : v < 17) (hwt : wt ≤ 1) (h1 : 0 < y.rem) (hK : K = K' + 1) (he : ∀ x ∈ es, atm c.wg 0 x) :
      Exit y K w ⟨fun _ => False, 0, 1, .work c .gone⟩ K' (w.setCell ⟨c.wg, 0, none⟩ (.int .u64 ((v : Nat) * 4294967296 + (wt : Nat)))) es wk 1
  | sem {c} (hr : y.role = .work c .stored) (hdf : y.deaf = 1) :
      Exit y K w ⟨fun _ => False, 0, 1, .work c .gone⟩ K (w.setCell ⟨c.wg, 1, none⟩ (.int .u32 1)) (semEvents ⟨c.wg, 1, none⟩) true 1

theorem at_heap (w : World) (d : Nat) : (w.at d).heap = w.heap := rfl

theorem St.of_heap {y : Gh Role} {K : Nat} {w w₁ : World} (h : St y K w) (e : w₁.heap = w.heap) : St y K w₁ := by
  have S : ∀ c, Still c w → Still c w₁ := fun c s => ⟨by rw [e]; exact s.tb, by rw [e]; exact s.wb, s.d, s.T⟩
  refine ⟨h.1, by rw [e]; exact h.2.1, ?_⟩
  have h2 := h.2.2
  revert h2
  cases y.role with
  | alone _ => exact fun x => x
  | boss c p => simp only [StB, e]; exact fun x => ⟨⟨S c x.1.1, x.1.2⟩, x.2⟩
  | work c p => simp only [StW, e]; exact fun x => ⟨⟨S c x.1.1, x.1.2⟩, x.2⟩

theorem stands_heap {r : Role} {w w₁ : World} (e : w₁.heap = w.heap) : stands r w w₁ := by
  cases r with
  | alone _ => trivial
  | boss c p => cases p <;> simp [stands, e]
  | work c p => simp [stands, e]

theorem stands_trans {r : Role} {w w₁ w₂ : World} (h : stands r w w₁) (k : stands r w₁ w₂) : stands r w w₂ := by
  cases r with
  | alone _ => trivial
  | boss c p => cases p <;> simp_all [stands]
  | work c p => simp_all [stands]

theorem R.at (y : Gh Role) (K : Nat) (w : World) (d : Nat) : R y K K w (w.at d) := by
  unfold R
  split
  · exact ⟨rfl, d, rfl⟩
  · exact ⟨Nat.le_refl _, Nat.le_refl _, fun _ _ => rfl, fun h => h.of_heap rfl, fun _ => stands_heap rfl⟩

theorem plain_idle (N : Nat) (y : Gh Role) (K : Nat) (w : World) : Plain N y K w y K w #[] :=
  ⟨rfl, rfl, rfl, rfl, Below.refl _ _, fun _ h => h, fun _ h => .inl h, fun _ _ _ => rfl, by simp, fun _ => rfl⟩

noncomputable def S (N : Nat) : Eg.Sys where
  P := Try.prog
  G := Gh Role
  R := R
  D := D N
  MayBlock := MayBlock
  Fork := Fork
  Offer := fun _ _ _ => False
  Out := fun _ _ _ _ _ _ => False
  Leave := fun _ _ => False
  Exit := Exit
  End := fun y _ _ v es => (∃ s, y.role = .alone s) ∧ v = .bool true ∧ es = #[]
  refl := fun y K w => by
    unfold R
    split
    · exact ⟨rfl, w.drawn, rfl⟩
    · exact ⟨Nat.le_refl _, Nat.le_refl _, fun _ _ => rfl, fun h => h, fun _ => stands_heap rfl⟩
  trans := fun y K K₁ K₂ w w₁ w₂ h k => by
    unfold R at *
    split at h
    · rename_i hs
      rw [if_pos hs] at k ⊢
      obtain ⟨rfl, d, rfl⟩ := h
      obtain ⟨rfl, d', rfl⟩ := k
      exact ⟨rfl, d', rfl⟩
    · rename_i hs
      rw [if_neg hs] at k ⊢
      obtain ⟨a1, a2, a3, a4, a5⟩ := h
      obtain ⟨b1, b2, b3, b4, b5⟩ := k
      refine ⟨Nat.le_trans b1 a1, Nat.le_trans a2 b2, fun b hb => (b3 b hb).trans (a3 b hb), fun x => b4 (a4 x), fun e => ?_⟩
      have e1 : K₁ = K := by omega
      exact stands_trans (a5 e1) (b5 (by omega))
  idle := fun y K w wk => .plain (plain_idle N y K w)
end Go.Proofs.Ytgnhddnhcfmipaa.Ids
