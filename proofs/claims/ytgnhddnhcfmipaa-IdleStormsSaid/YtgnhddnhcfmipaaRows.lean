/-
  No cell of these rows narrows 'for every input' (looked for: loops, veiled, ifaces, maps, wideKeys, modest, calm, conditions, laid).
  DERIVED. THE GIVEN ROWS OF THIS SEAT. 8 by the template 'for every input the law returns true; each argument reads behind the call as it read before'; 0 by the template 'total and deterministic' (their statements: YtgnhddnhcfmipaaTotals.lean).
  GIVEN WITH THE SEED: the statements are not yours to turn. If you find one false, say at which input.
  Laid BY PROGRAM, IN A SANDBOX (cutbox-rows.mjs): the forced cells as the released guide's own fill.sh prints them over the translation 84ad77bf1f4e1837… (all of the seat's roots in one cut). By AI agents, Wed Nov 11 2026. No macro, syntax, notation, axiom, sorry.
-/
import Derived.Test.YtgnhddnhcfmipaaChecked
import GoSem.Claim
import GoSem.ClaimJoined
import GoSem.ClaimMapViews
import Derived.JoinedTies
import Derived.KernelRfl
namespace Go.Proofs.Ytgnhddnhcfmipaa
/- THE CELL 'sum', in the pinned program and in every row, IS THE sha256 OF THE DUMP (.gsa) THAT YtgnhddnhcfmipaaProg.lean LOADS. Nothing in Lean hashes anything: it is a label: what it is worth is what the hold of that sum in a sandbox is worth. -/
noncomputable def Try.pinned : Pinned := { name := "ytgnhddnhcfmipaa", sum := "84ad77bf1f4e1837b47093887f36b74606dd0345fe68d43208b229b0b8a51d22", checked := Try.checked }
namespace Rows
def none {H : Type} : Left H := { results := [], args := [] }

/-- 'reveillelaw23.IdleWords': WHATEVER THE INPUT: true; the input reads as it did. -/
def idleWordsSpec : ChangeSpec := { name := "idleWords", fn := fun _ => fun
  | [d1, d2, d3] => { results := [.lit (.bool true)], args := [d1, d2, d3] }
  | _ => none }
def idleWordsRow : OpenClaim := { program := "ytgnhddnhcfmipaa", sum := "84ad77bf1f4e1837b47093887f36b74606dd0345fe68d43208b229b0b8a51d22", func := "reveille/reveillelaw23.IdleWords", spec := "idleWords", inPlace := ["sync/atomic.CompareAndSwapUint64", "sync/atomic.LoadUint64"], unfollowed := true, recurses := true, leaving := true, apart := false }
def IdleWordsSaid : Prop := idleWordsRow.holds Try.pinned (OpenSpec.ofChange idleWordsSpec)

/-- ITS FALSE NEIGHBOUR: 'it returns false'. Refute it at one input. -/
def idleWordsWrong : ChangeSpec := { name := "idleWords", fn := fun _ => fun
  | [d1, d2, d3] => { results := [.lit (.bool false)], args := [d1, d2, d3] }
  | _ => none }
def IdleWordsWrongFalsely : Prop := idleWordsRow.holds Try.pinned (OpenSpec.ofChange idleWordsWrong)

/-- 'reveillelaw23.IdleRaces': WHATEVER THE INPUT: true; the input reads as it did. -/
def idleRacesSpec : ChangeSpec := { name := "idleRaces", fn := fun _ => fun
  | [d1, d2, d3] => { results := [.lit (.bool true)], args := [d1, d2, d3] }
  | _ => none }
def idleRacesRow : OpenClaim := { program := "ytgnhddnhcfmipaa", sum := "84ad77bf1f4e1837b47093887f36b74606dd0345fe68d43208b229b0b8a51d22", func := "reveille/reveillelaw23.IdleRaces", spec := "idleRaces", inPlace := ["sync/atomic.CompareAndSwapUint64", "sync/atomic.LoadUint64"], unfollowed := true, recurses := true, leaving := true, apart := false }
def IdleRacesSaid : Prop := idleRacesRow.holds Try.pinned (OpenSpec.ofChange idleRacesSpec)

/-- ITS FALSE NEIGHBOUR: 'it returns false'. Refute it at one input. -/
def idleRacesWrong : ChangeSpec := { name := "idleRaces", fn := fun _ => fun
  | [d1, d2, d3] => { results := [.lit (.bool false)], args := [d1, d2, d3] }
  | _ => none }
def IdleRacesWrongFalsely : Prop := idleRacesRow.holds Try.pinned (OpenSpec.ofChange idleRacesWrong)

/-- 'reveillelaw23.IdleBooks': WHATEVER THE INPUT: true; the input reads as it did. -/
def idleBooksSpec : ChangeSpec := { name := "idleBooks", fn := fun _ => fun
  | [d1, d2, d3] => { results := [.lit (.bool true)], args := [d1, d2, d3] }
  | _ => none }
def idleBooksRow : OpenClaim := { program := "ytgnhddnhcfmipaa", sum := "84ad77bf1f4e1837b47093887f36b74606dd0345fe68d43208b229b0b8a51d22", func := "reveille/reveillelaw23.IdleBooks", spec := "idleBooks", unfollowed := true, recurses := true, leaving := true, apart := false }
def IdleBooksSaid : Prop := idleBooksRow.holds Try.pinned (OpenSpec.ofChange idleBooksSpec)

/-- ITS FALSE NEIGHBOUR: 'it returns false'. Refute it at one input. -/
def idleBooksWrong : ChangeSpec := { name := "idleBooks", fn := fun _ => fun
  | [d1, d2, d3] => { results := [.lit (.bool false)], args := [d1, d2, d3] }
  | _ => none }
def IdleBooksWrongFalsely : Prop := idleBooksRow.holds Try.pinned (OpenSpec.ofChange idleBooksWrong)

/-- 'reveillelaw23.IdleOrder': WHATEVER THE INPUT: true; the input reads as it did. -/
def idleOrderSpec : ChangeSpec := { name := "idleOrder", fn := fun _ => fun
  | [d1, d2, d3] => { results := [.lit (.bool true)], args := [d1, d2, d3] }
  | _ => none }
def idleOrderRow : OpenClaim := { program := "ytgnhddnhcfmipaa", sum := "84ad77bf1f4e1837b47093887f36b74606dd0345fe68d43208b229b0b8a51d22", func := "reveille/reveillelaw23.IdleOrder", spec := "idleOrder", inPlace := ["sync/atomic.CompareAndSwapUint64", "sync/atomic.LoadUint64"], unfollowed := true, recurses := true, leaving := true, apart := false }
def IdleOrderSaid : Prop := idleOrderRow.holds Try.pinned (OpenSpec.ofChange idleOrderSpec)

/-- ITS FALSE NEIGHBOUR: 'it returns false'. Refute it at one input. -/
def idleOrderWrong : ChangeSpec := { name := "idleOrder", fn := fun _ => fun
  | [d1, d2, d3] => { results := [.lit (.bool false)], args := [d1, d2, d3] }
  | _ => none }
def IdleOrderWrongFalsely : Prop := idleOrderRow.holds Try.pinned (OpenSpec.ofChange idleOrderWrong)

/-- 'reveillelaw23.IdleAbove': WHATEVER THE INPUT: true; the input reads as it did. -/
def idleAboveSpec : ChangeSpec := { name := "idleAbove", fn := fun _ => fun
  | [d1, d2, d3] => { results := [.lit (.bool true)], args := [d1, d2, d3] }
  | _ => none }
def idleAboveRow : OpenClaim := { program := "ytgnhddnhcfmipaa", sum := "84ad77bf1f4e1837b47093887f36b74606dd0345fe68d43208b229b0b8a51d22", func := "reveille/reveillelaw23.IdleAbove", spec := "idleAbove", inPlace := ["sync/atomic.CompareAndSwapUint64", "sync/atomic.LoadUint64"], unfollowed := true, recurses := true, leaving := true, apart := false }
def IdleAboveSaid : Prop := idleAboveRow.holds Try.pinned (OpenSpec.ofChange idleAboveSpec)

/-- ITS FALSE NEIGHBOUR: 'it returns false'. Refute it at one input. -/
def idleAboveWrong : ChangeSpec := { name := "idleAbove", fn := fun _ => fun
  | [d1, d2, d3] => { results := [.lit (.bool false)], args := [d1, d2, d3] }
  | _ => none }
def IdleAboveWrongFalsely : Prop := idleAboveRow.holds Try.pinned (OpenSpec.ofChange idleAboveWrong)

/-- 'reveillelaw23.IdleSteps': WHATEVER THE INPUT: true; the input reads as it did. -/
def idleStepsSpec : ChangeSpec := { name := "idleSteps", fn := fun _ => fun
  | [d1, d2, d3, d4] => { results := [.lit (.bool true)], args := [d1, d2, d3, d4] }
  | _ => none }
def idleStepsRow : OpenClaim := { program := "ytgnhddnhcfmipaa", sum := "84ad77bf1f4e1837b47093887f36b74606dd0345fe68d43208b229b0b8a51d22", func := "reveille/reveillelaw23.IdleSteps", spec := "idleSteps", inPlace := ["sync/atomic.CompareAndSwapUint64", "sync/atomic.LoadUint64"], unfollowed := true, recurses := true, leaving := true, apart := false }
def IdleStepsSaid : Prop := idleStepsRow.holds Try.pinned (OpenSpec.ofChange idleStepsSpec)

/-- ITS FALSE NEIGHBOUR: 'it returns false'. Refute it at one input. -/
def idleStepsWrong : ChangeSpec := { name := "idleSteps", fn := fun _ => fun
  | [d1, d2, d3, d4] => { results := [.lit (.bool false)], args := [d1, d2, d3, d4] }
  | _ => none }
def IdleStepsWrongFalsely : Prop := idleStepsRow.holds Try.pinned (OpenSpec.ofChange idleStepsWrong)

/-- 'reveillelaw23.IdleNames': WHATEVER THE INPUT: true; the input reads as it did. -/
def idleNamesSpec : ChangeSpec := { name := "idleNames", fn := fun _ => fun
  | [] => { results := [.lit (.bool true)], args := [] }
  | _ => none }
def idleNamesRow : OpenClaim := { program := "ytgnhddnhcfmipaa", sum := "84ad77bf1f4e1837b47093887f36b74606dd0345fe68d43208b229b0b8a51d22", func := "reveille/reveillelaw23.IdleNames", spec := "idleNames", inPlace := ["sync/atomic.CompareAndSwapUint64", "sync/atomic.LoadUint64"], unfollowed := true, recurses := true, leaving := true, apart := false }
def IdleNamesSaid : Prop := idleNamesRow.holds Try.pinned (OpenSpec.ofChange idleNamesSpec)

/-- ITS FALSE NEIGHBOUR: 'it returns false'. Refute it at one input. -/
def idleNamesWrong : ChangeSpec := { name := "idleNames", fn := fun _ => fun
  | [] => { results := [.lit (.bool false)], args := [] }
  | _ => none }
def IdleNamesWrongFalsely : Prop := idleNamesRow.holds Try.pinned (OpenSpec.ofChange idleNamesWrong)

/-- 'reveillelaw23.IdleStorms': WHATEVER THE INPUT: true; the input reads as it did. -/
def idleStormsSpec : ChangeSpec := { name := "idleStorms", fn := fun _ => fun
  | [d1, d2, d3, d4] => { results := [.lit (.bool true)], args := [d1, d2, d3, d4] }
  | _ => none }
def idleStormsRow : OpenClaim := { program := "ytgnhddnhcfmipaa", sum := "84ad77bf1f4e1837b47093887f36b74606dd0345fe68d43208b229b0b8a51d22", func := "reveille/reveillelaw23.IdleStorms", spec := "idleStorms", inPlace := ["(*sync.WaitGroup).Add", "internal/race.ReleaseMerge", "internal/race.Disable", "internal/race.Enable", "internal/synctest.IsInBubble", "internal/synctest.Associate[sync.WaitGroup]", "sync.fatal", "sync/atomic.OrUint64", "sync/atomic.AddUint64", "internal/race.Read", "sync/atomic.LoadUint64", "sync/atomic.StoreUint64", "internal/synctest.Disassociate[sync.WaitGroup]", "sync.runtime_Semrelease", "(*sync.WaitGroup).Done", "sync/atomic.CompareAndSwapUint64", "(*sync.WaitGroup).Wait", "internal/race.Acquire", "internal/synctest.IsAssociated[sync.WaitGroup]", "internal/race.Write", "sync.runtime_SemacquireWaitGroup"], unfollowed := true, recurses := true, leaving := true, apart := false }
def IdleStormsSaid : Prop := idleStormsRow.holds Try.pinned (OpenSpec.ofChange idleStormsSpec)

/-- ITS FALSE NEIGHBOUR: 'it returns false'. Refute it at one input. -/
def idleStormsWrong : ChangeSpec := { name := "idleStorms", fn := fun _ => fun
  | [d1, d2, d3, d4] => { results := [.lit (.bool false)], args := [d1, d2, d3, d4] }
  | _ => none }
def IdleStormsWrongFalsely : Prop := idleStormsRow.holds Try.pinned (OpenSpec.ofChange idleStormsWrong)

/- THE SECOND FORM. 'bulk': how many values and letters a reading holds, each counted each time it is reached (what is shared counts as often as it is met; a slice's spare places count too). A statement '..UptoSaid' is the law's where the arguments, and the package variables that the reading takes, are together of bulk at most 1048576: NARROWER than '..Said'. Prove '..Said' where nothing that the law and all that it calls make is longer than what came in: it says more and counts as full. Else prove '..UptoSaid'. A law counts once. -/
mutual
def uptoBulk {H : Type} : DataW H → Nat
  | .lit (.string bytes) => bytes.length + 1
  | .lit _ => 1
  | .nil => 1
  | .ptr d => uptoBulk d + 1
  | .slice elems spare => uptoBulkAll elems + uptoBulkAll spare + 1
  | .agg parts => uptoBulkAll parts + 1
  | .iface _ d => uptoBulk d + 1
  | .map entries => uptoBulkEntries entries + 1
  | .held _ => 1
def uptoBulkAll {H : Type} : List (DataW H) → Nat
  | [] => 0
  | d :: r => uptoBulk d + uptoBulkAll r
def uptoBulkEntries {H : Type} : List (Lit × DataW H) → Nat
  | [] => 0
  | x :: r => uptoBulkEntry x + uptoBulkEntries r
def uptoBulkEntry {H : Type} : Lit × DataW H → Nat
  | (.string bytes, d) => bytes.length + uptoBulk d + 1
  | (_, d) => uptoBulk d + 1
 end
def uptoSmall : (H : Type) → List (DataW H) → Bool := fun _ ds => decide (uptoBulkAll ds ≤ 1048576)
def OpenSpec.upto (s : _root_.Go.ChangeSpec) : _root_.Go.OpenSpec := { _root_.Go.OpenSpec.ofChange s with cond := some uptoSmall }

/-- 'reveillelaw23.IdleWords', WHERE WHAT IT READS IS OF BULK AT MOST 1048576: true; the input reads as it did. -/
def idleWordsUptoRow : OpenClaim := { program := "ytgnhddnhcfmipaa", sum := "84ad77bf1f4e1837b47093887f36b74606dd0345fe68d43208b229b0b8a51d22", func := "reveille/reveillelaw23.IdleWords", spec := "idleWords", inPlace := ["sync/atomic.CompareAndSwapUint64", "sync/atomic.LoadUint64"], unfollowed := true, recurses := true, leaving := true, apart := false, narrowed := true }
def IdleWordsUptoSaid : Prop := idleWordsUptoRow.holds Try.pinned (OpenSpec.upto idleWordsSpec)

/-- 'reveillelaw23.IdleRaces', WHERE WHAT IT READS IS OF BULK AT MOST 1048576: true; the input reads as it did. -/
def idleRacesUptoRow : OpenClaim := { program := "ytgnhddnhcfmipaa", sum := "84ad77bf1f4e1837b47093887f36b74606dd0345fe68d43208b229b0b8a51d22", func := "reveille/reveillelaw23.IdleRaces", spec := "idleRaces", inPlace := ["sync/atomic.CompareAndSwapUint64", "sync/atomic.LoadUint64"], unfollowed := true, recurses := true, leaving := true, apart := false, narrowed := true }
def IdleRacesUptoSaid : Prop := idleRacesUptoRow.holds Try.pinned (OpenSpec.upto idleRacesSpec)

/-- 'reveillelaw23.IdleBooks', WHERE WHAT IT READS IS OF BULK AT MOST 1048576: true; the input reads as it did. -/
def idleBooksUptoRow : OpenClaim := { program := "ytgnhddnhcfmipaa", sum := "84ad77bf1f4e1837b47093887f36b74606dd0345fe68d43208b229b0b8a51d22", func := "reveille/reveillelaw23.IdleBooks", spec := "idleBooks", unfollowed := true, recurses := true, leaving := true, apart := false, narrowed := true }
def IdleBooksUptoSaid : Prop := idleBooksUptoRow.holds Try.pinned (OpenSpec.upto idleBooksSpec)

/-- 'reveillelaw23.IdleOrder', WHERE WHAT IT READS IS OF BULK AT MOST 1048576: true; the input reads as it did. -/
def idleOrderUptoRow : OpenClaim := { program := "ytgnhddnhcfmipaa", sum := "84ad77bf1f4e1837b47093887f36b74606dd0345fe68d43208b229b0b8a51d22", func := "reveille/reveillelaw23.IdleOrder", spec := "idleOrder", inPlace := ["sync/atomic.CompareAndSwapUint64", "sync/atomic.LoadUint64"], unfollowed := true, recurses := true, leaving := true, apart := false, narrowed := true }
def IdleOrderUptoSaid : Prop := idleOrderUptoRow.holds Try.pinned (OpenSpec.upto idleOrderSpec)

/-- 'reveillelaw23.IdleAbove', WHERE WHAT IT READS IS OF BULK AT MOST 1048576: true; the input reads as it did. -/
def idleAboveUptoRow : OpenClaim := { program := "ytgnhddnhcfmipaa", sum := "84ad77bf1f4e1837b47093887f36b74606dd0345fe68d43208b229b0b8a51d22", func := "reveille/reveillelaw23.IdleAbove", spec := "idleAbove", inPlace := ["sync/atomic.CompareAndSwapUint64", "sync/atomic.LoadUint64"], unfollowed := true, recurses := true, leaving := true, apart := false, narrowed := true }
def IdleAboveUptoSaid : Prop := idleAboveUptoRow.holds Try.pinned (OpenSpec.upto idleAboveSpec)

/-- 'reveillelaw23.IdleSteps', WHERE WHAT IT READS IS OF BULK AT MOST 1048576: true; the input reads as it did. -/
def idleStepsUptoRow : OpenClaim := { program := "ytgnhddnhcfmipaa", sum := "84ad77bf1f4e1837b47093887f36b74606dd0345fe68d43208b229b0b8a51d22", func := "reveille/reveillelaw23.IdleSteps", spec := "idleSteps", inPlace := ["sync/atomic.CompareAndSwapUint64", "sync/atomic.LoadUint64"], unfollowed := true, recurses := true, leaving := true, apart := false, narrowed := true }
def IdleStepsUptoSaid : Prop := idleStepsUptoRow.holds Try.pinned (OpenSpec.upto idleStepsSpec)

/-- 'reveillelaw23.IdleNames', WHERE WHAT IT READS IS OF BULK AT MOST 1048576: true; the input reads as it did. -/
def idleNamesUptoRow : OpenClaim := { program := "ytgnhddnhcfmipaa", sum := "84ad77bf1f4e1837b47093887f36b74606dd0345fe68d43208b229b0b8a51d22", func := "reveille/reveillelaw23.IdleNames", spec := "idleNames", inPlace := ["sync/atomic.CompareAndSwapUint64", "sync/atomic.LoadUint64"], unfollowed := true, recurses := true, leaving := true, apart := false, narrowed := true }
def IdleNamesUptoSaid : Prop := idleNamesUptoRow.holds Try.pinned (OpenSpec.upto idleNamesSpec)

/-- 'reveillelaw23.IdleStorms', WHERE WHAT IT READS IS OF BULK AT MOST 1048576: true; the input reads as it did. -/
def idleStormsUptoRow : OpenClaim := { program := "ytgnhddnhcfmipaa", sum := "84ad77bf1f4e1837b47093887f36b74606dd0345fe68d43208b229b0b8a51d22", func := "reveille/reveillelaw23.IdleStorms", spec := "idleStorms", inPlace := ["(*sync.WaitGroup).Add", "internal/race.ReleaseMerge", "internal/race.Disable", "internal/race.Enable", "internal/synctest.IsInBubble", "internal/synctest.Associate[sync.WaitGroup]", "sync.fatal", "sync/atomic.OrUint64", "sync/atomic.AddUint64", "internal/race.Read", "sync/atomic.LoadUint64", "sync/atomic.StoreUint64", "internal/synctest.Disassociate[sync.WaitGroup]", "sync.runtime_Semrelease", "(*sync.WaitGroup).Done", "sync/atomic.CompareAndSwapUint64", "(*sync.WaitGroup).Wait", "internal/race.Acquire", "internal/synctest.IsAssociated[sync.WaitGroup]", "internal/race.Write", "sync.runtime_SemacquireWaitGroup"], unfollowed := true, recurses := true, leaving := true, apart := false, narrowed := true }
def IdleStormsUptoSaid : Prop := idleStormsUptoRow.holds Try.pinned (OpenSpec.upto idleStormsSpec)

end Rows
end Go.Proofs.Ytgnhddnhcfmipaa
