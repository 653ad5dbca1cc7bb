/-
  No cell of these rows narrows 'for every input' (looked for: loops, veiled, ifaces, maps, wideKeys, modest, calm, conditions, laid).
  DERIVED. THE GIVEN ROWS OF THIS SEAT. 9 by the template 'for every input the law returns true; each argument reads behind the call as it read before'; 0 by the template 'total and deterministic' (their statements: YtljkgnicmlhipaaTotals.lean).
  GIVEN WITH THE SEED: the statements are not yours to turn. If you find one false, say at which input.
  Laid BY PROGRAM, IN A SANDBOX (cutbox-rows.mjs): the forced cells as the released guide's own fill.sh prints them over the translation db89451ed9b1c574… (all of the seat's roots in one cut). By AI agents, Wed Nov 11 2026. No macro, syntax, notation, axiom, sorry.
-/
import Derived.Test.YtljkgnicmlhipaaChecked
import GoSem.Claim
import GoSem.ClaimJoined
import GoSem.ClaimMapViews
import Derived.JoinedTies
import Derived.KernelRfl
namespace Go.Proofs.Ytljkgnicmlhipaa
/- THE CELL 'sum', in the pinned program and in every row, IS THE sha256 OF THE DUMP (.gsa) THAT YtljkgnicmlhipaaProg.lean LOADS. Nothing in Lean hashes anything: it is a label: what it is worth is what the hold of that sum in a sandbox is worth. -/
noncomputable def Try.pinned : Pinned := { name := "ytljkgnicmlhipaa", sum := "db89451ed9b1c574e8c7fcb89103965d56b74f5ab638fde2e7bc8ae3e7a8c54b", checked := Try.checked }
namespace Rows
def none {H : Type} : Left H := { results := [], args := [] }

/-- 'windsocklaw05.WatchArrives': WHATEVER THE INPUT: true; the input reads as it did. -/
def watchArrivesSpec : ChangeSpec := { name := "watchArrives", fn := fun _ => fun
  | [d1, d2, d3] => { results := [.lit (.bool true)], args := [d1, d2, d3] }
  | _ => none }
def watchArrivesRow : OpenClaim := { program := "ytljkgnicmlhipaa", sum := "db89451ed9b1c574e8c7fcb89103965d56b74f5ab638fde2e7bc8ae3e7a8c54b", func := "windsock/windsocklaw05.WatchArrives", spec := "watchArrives", inPlace := ["maps.clone"], unfollowed := true, recurses := true, plainKeys := false, apart := false }
def WatchArrivesSaid : Prop := watchArrivesRow.holds Try.pinned (OpenSpec.ofChange watchArrivesSpec)

/-- ITS FALSE NEIGHBOUR: 'it returns false'. Refute it at one input. -/
def watchArrivesWrong : ChangeSpec := { name := "watchArrives", fn := fun _ => fun
  | [d1, d2, d3] => { results := [.lit (.bool false)], args := [d1, d2, d3] }
  | _ => none }
def WatchArrivesWrongFalsely : Prop := watchArrivesRow.holds Try.pinned (OpenSpec.ofChange watchArrivesWrong)

/-- 'windsocklaw05.WatchRoutes': WHATEVER THE INPUT: true; the input reads as it did. -/
def watchRoutesSpec : ChangeSpec := { name := "watchRoutes", fn := fun _ => fun
  | [d1, d2, d3, d4] => { results := [.lit (.bool true)], args := [d1, d2, d3, d4] }
  | _ => none }
def watchRoutesRow : OpenClaim := { program := "ytljkgnicmlhipaa", sum := "db89451ed9b1c574e8c7fcb89103965d56b74f5ab638fde2e7bc8ae3e7a8c54b", func := "windsock/windsocklaw05.WatchRoutes", spec := "watchRoutes", inPlace := ["maps.clone"], unfollowed := true, recurses := true, plainKeys := false, apart := false }
def WatchRoutesSaid : Prop := watchRoutesRow.holds Try.pinned (OpenSpec.ofChange watchRoutesSpec)

/-- ITS FALSE NEIGHBOUR: 'it returns false'. Refute it at one input. -/
def watchRoutesWrong : ChangeSpec := { name := "watchRoutes", fn := fun _ => fun
  | [d1, d2, d3, d4] => { results := [.lit (.bool false)], args := [d1, d2, d3, d4] }
  | _ => none }
def WatchRoutesWrongFalsely : Prop := watchRoutesRow.holds Try.pinned (OpenSpec.ofChange watchRoutesWrong)

/-- 'windsocklaw05.WatchOrder': WHATEVER THE INPUT: true; the input reads as it did. -/
def watchOrderSpec : ChangeSpec := { name := "watchOrder", fn := fun _ => fun
  | [d1, d2, d3, d4, d5] => { results := [.lit (.bool true)], args := [d1, d2, d3, d4, d5] }
  | _ => none }
def watchOrderRow : OpenClaim := { program := "ytljkgnicmlhipaa", sum := "db89451ed9b1c574e8c7fcb89103965d56b74f5ab638fde2e7bc8ae3e7a8c54b", func := "windsock/windsocklaw05.WatchOrder", spec := "watchOrder", inPlace := ["maps.clone"], unfollowed := true, recurses := true, plainKeys := false, apart := false }
def WatchOrderSaid : Prop := watchOrderRow.holds Try.pinned (OpenSpec.ofChange watchOrderSpec)

/-- ITS FALSE NEIGHBOUR: 'it returns false'. Refute it at one input. -/
def watchOrderWrong : ChangeSpec := { name := "watchOrder", fn := fun _ => fun
  | [d1, d2, d3, d4, d5] => { results := [.lit (.bool false)], args := [d1, d2, d3, d4, d5] }
  | _ => none }
def WatchOrderWrongFalsely : Prop := watchOrderRow.holds Try.pinned (OpenSpec.ofChange watchOrderWrong)

/-- 'windsocklaw05.WatchInTime': WHATEVER THE INPUT: true; the input reads as it did. -/
def watchInTimeSpec : ChangeSpec := { name := "watchInTime", fn := fun _ => fun
  | [d1, d2, d3] => { results := [.lit (.bool true)], args := [d1, d2, d3] }
  | _ => none }
def watchInTimeRow : OpenClaim := { program := "ytljkgnicmlhipaa", sum := "db89451ed9b1c574e8c7fcb89103965d56b74f5ab638fde2e7bc8ae3e7a8c54b", func := "windsock/windsocklaw05.WatchInTime", spec := "watchInTime", inPlace := ["maps.clone"], unfollowed := true, recurses := true, plainKeys := false, apart := false }
def WatchInTimeSaid : Prop := watchInTimeRow.holds Try.pinned (OpenSpec.ofChange watchInTimeSpec)

/-- ITS FALSE NEIGHBOUR: 'it returns false'. Refute it at one input. -/
def watchInTimeWrong : ChangeSpec := { name := "watchInTime", fn := fun _ => fun
  | [d1, d2, d3] => { results := [.lit (.bool false)], args := [d1, d2, d3] }
  | _ => none }
def WatchInTimeWrongFalsely : Prop := watchInTimeRow.holds Try.pinned (OpenSpec.ofChange watchInTimeWrong)

/-- 'windsocklaw05.WatchSweeps': WHATEVER THE INPUT: true; the input reads as it did. -/
def watchSweepsSpec : ChangeSpec := { name := "watchSweeps", fn := fun _ => fun
  | [d1, d2, d3] => { results := [.lit (.bool true)], args := [d1, d2, d3] }
  | _ => none }
def watchSweepsRow : OpenClaim := { program := "ytljkgnicmlhipaa", sum := "db89451ed9b1c574e8c7fcb89103965d56b74f5ab638fde2e7bc8ae3e7a8c54b", func := "windsock/windsocklaw05.WatchSweeps", spec := "watchSweeps", inPlace := ["maps.clone"], unfollowed := true, recurses := true, plainKeys := false, apart := false }
def WatchSweepsSaid : Prop := watchSweepsRow.holds Try.pinned (OpenSpec.ofChange watchSweepsSpec)

/-- ITS FALSE NEIGHBOUR: 'it returns false'. Refute it at one input. -/
def watchSweepsWrong : ChangeSpec := { name := "watchSweeps", fn := fun _ => fun
  | [d1, d2, d3] => { results := [.lit (.bool false)], args := [d1, d2, d3] }
  | _ => none }
def WatchSweepsWrongFalsely : Prop := watchSweepsRow.holds Try.pinned (OpenSpec.ofChange watchSweepsWrong)

/-- 'windsocklaw05.WatchSearch': WHATEVER THE INPUT: true; the input reads as it did. -/
def watchSearchSpec : ChangeSpec := { name := "watchSearch", fn := fun _ => fun
  | [d1, d2, d3, d4] => { results := [.lit (.bool true)], args := [d1, d2, d3, d4] }
  | _ => none }
def watchSearchRow : OpenClaim := { program := "ytljkgnicmlhipaa", sum := "db89451ed9b1c574e8c7fcb89103965d56b74f5ab638fde2e7bc8ae3e7a8c54b", func := "windsock/windsocklaw05.WatchSearch", spec := "watchSearch", inPlace := ["maps.clone"], unfollowed := true, recurses := true, plainKeys := false, apart := false }
def WatchSearchSaid : Prop := watchSearchRow.holds Try.pinned (OpenSpec.ofChange watchSearchSpec)

/-- ITS FALSE NEIGHBOUR: 'it returns false'. Refute it at one input. -/
def watchSearchWrong : ChangeSpec := { name := "watchSearch", fn := fun _ => fun
  | [d1, d2, d3, d4] => { results := [.lit (.bool false)], args := [d1, d2, d3, d4] }
  | _ => none }
def WatchSearchWrongFalsely : Prop := watchSearchRow.holds Try.pinned (OpenSpec.ofChange watchSearchWrong)

/-- 'windsocklaw05.WatchStages': WHATEVER THE INPUT: true; the input reads as it did. -/
def watchStagesSpec : ChangeSpec := { name := "watchStages", fn := fun _ => fun
  | [d1, d2, d3] => { results := [.lit (.bool true)], args := [d1, d2, d3] }
  | _ => none }
def watchStagesRow : OpenClaim := { program := "ytljkgnicmlhipaa", sum := "db89451ed9b1c574e8c7fcb89103965d56b74f5ab638fde2e7bc8ae3e7a8c54b", func := "windsock/windsocklaw05.WatchStages", spec := "watchStages", inPlace := ["maps.clone"], unfollowed := true, recurses := true, plainKeys := false, apart := false }
def WatchStagesSaid : Prop := watchStagesRow.holds Try.pinned (OpenSpec.ofChange watchStagesSpec)

/-- ITS FALSE NEIGHBOUR: 'it returns false'. Refute it at one input. -/
def watchStagesWrong : ChangeSpec := { name := "watchStages", fn := fun _ => fun
  | [d1, d2, d3] => { results := [.lit (.bool false)], args := [d1, d2, d3] }
  | _ => none }
def WatchStagesWrongFalsely : Prop := watchStagesRow.holds Try.pinned (OpenSpec.ofChange watchStagesWrong)

/-- 'windsocklaw05.WatchMore': WHATEVER THE INPUT: true; the input reads as it did. -/
def watchMoreSpec : ChangeSpec := { name := "watchMore", fn := fun _ => fun
  | [d1, d2, d3, d4, d5] => { results := [.lit (.bool true)], args := [d1, d2, d3, d4, d5] }
  | _ => none }
def watchMoreRow : OpenClaim := { program := "ytljkgnicmlhipaa", sum := "db89451ed9b1c574e8c7fcb89103965d56b74f5ab638fde2e7bc8ae3e7a8c54b", func := "windsock/windsocklaw05.WatchMore", spec := "watchMore", inPlace := ["maps.clone"], unfollowed := true, recurses := true, plainKeys := false, apart := false }
def WatchMoreSaid : Prop := watchMoreRow.holds Try.pinned (OpenSpec.ofChange watchMoreSpec)

/-- ITS FALSE NEIGHBOUR: 'it returns false'. Refute it at one input. -/
def watchMoreWrong : ChangeSpec := { name := "watchMore", fn := fun _ => fun
  | [d1, d2, d3, d4, d5] => { results := [.lit (.bool false)], args := [d1, d2, d3, d4, d5] }
  | _ => none }
def WatchMoreWrongFalsely : Prop := watchMoreRow.holds Try.pinned (OpenSpec.ofChange watchMoreWrong)

/-- 'windsocklaw05.WatchChecks': WHATEVER THE INPUT: true; the input reads as it did. -/
def watchChecksSpec : ChangeSpec := { name := "watchChecks", fn := fun _ => fun
  | [d1, d2, d3] => { results := [.lit (.bool true)], args := [d1, d2, d3] }
  | _ => none }
def watchChecksRow : OpenClaim := { program := "ytljkgnicmlhipaa", sum := "db89451ed9b1c574e8c7fcb89103965d56b74f5ab638fde2e7bc8ae3e7a8c54b", func := "windsock/windsocklaw05.WatchChecks", spec := "watchChecks", inPlace := ["maps.clone"], unfollowed := true, recurses := true, plainKeys := false, apart := false }
def WatchChecksSaid : Prop := watchChecksRow.holds Try.pinned (OpenSpec.ofChange watchChecksSpec)

/-- ITS FALSE NEIGHBOUR: 'it returns false'. Refute it at one input. -/
def watchChecksWrong : ChangeSpec := { name := "watchChecks", fn := fun _ => fun
  | [d1, d2, d3] => { results := [.lit (.bool false)], args := [d1, d2, d3] }
  | _ => none }
def WatchChecksWrongFalsely : Prop := watchChecksRow.holds Try.pinned (OpenSpec.ofChange watchChecksWrong)

/- THE SECOND FORM. 'bulk': how many values and letters a reading holds, each counted each time it is reached (what is shared counts as often as it is met; a slice's spare places count too). A statement '..UptoSaid' is the law's where the arguments, and the package variables that the reading takes, are together of bulk at most 1048576: NARROWER than '..Said'. Prove '..Said' where nothing that the law and all that it calls make is longer than what came in: it says more and counts as full. Else prove '..UptoSaid'. A law counts once. -/
mutual
def uptoBulk {H : Type} : DataW H → Nat
  | .lit (.string bytes) => bytes.length + 1
  | .lit _ => 1
  | .nil => 1
  | .ptr d => uptoBulk d + 1
  | .slice elems spare => uptoBulkAll elems + uptoBulkAll spare + 1
  | .agg parts => uptoBulkAll parts + 1
  | .iface _ d => uptoBulk d + 1
  | .map entries => uptoBulkEntries entries + 1
  | .held _ => 1
def uptoBulkAll {H : Type} : List (DataW H) → Nat
  | [] => 0
  | d :: r => uptoBulk d + uptoBulkAll r
def uptoBulkEntries {H : Type} : List (Lit × DataW H) → Nat
  | [] => 0
  | x :: r => uptoBulkEntry x + uptoBulkEntries r
def uptoBulkEntry {H : Type} : Lit × DataW H → Nat
  | (.string bytes, d) => bytes.length + uptoBulk d + 1
  | (_, d) => uptoBulk d + 1
 end
def uptoSmall : (H : Type) → List (DataW H) → Bool := fun _ ds => decide (uptoBulkAll ds ≤ 1048576)
def OpenSpec.upto (s : _root_.Go.ChangeSpec) : _root_.Go.OpenSpec := { _root_.Go.OpenSpec.ofChange s with cond := some uptoSmall }

/-- 'windsocklaw05.WatchArrives', WHERE WHAT IT READS IS OF BULK AT MOST 1048576: true; the input reads as it did. -/
def watchArrivesUptoRow : OpenClaim := { program := "ytljkgnicmlhipaa", sum := "db89451ed9b1c574e8c7fcb89103965d56b74f5ab638fde2e7bc8ae3e7a8c54b", func := "windsock/windsocklaw05.WatchArrives", spec := "watchArrives", inPlace := ["maps.clone"], unfollowed := true, recurses := true, plainKeys := false, apart := false, narrowed := true }
def WatchArrivesUptoSaid : Prop := watchArrivesUptoRow.holds Try.pinned (OpenSpec.upto watchArrivesSpec)

/-- 'windsocklaw05.WatchRoutes', WHERE WHAT IT READS IS OF BULK AT MOST 1048576: true; the input reads as it did. -/
def watchRoutesUptoRow : OpenClaim := { program := "ytljkgnicmlhipaa", sum := "db89451ed9b1c574e8c7fcb89103965d56b74f5ab638fde2e7bc8ae3e7a8c54b", func := "windsock/windsocklaw05.WatchRoutes", spec := "watchRoutes", inPlace := ["maps.clone"], unfollowed := true, recurses := true, plainKeys := false, apart := false, narrowed := true }
def WatchRoutesUptoSaid : Prop := watchRoutesUptoRow.holds Try.pinned (OpenSpec.upto watchRoutesSpec)

/-- 'windsocklaw05.WatchOrder', WHERE WHAT IT READS IS OF BULK AT MOST 1048576: true; the input reads as it did. -/
def watchOrderUptoRow : OpenClaim := { program := "ytljkgnicmlhipaa", sum := "db89451ed9b1c574e8c7fcb89103965d56b74f5ab638fde2e7bc8ae3e7a8c54b", func := "windsock/windsocklaw05.WatchOrder", spec := "watchOrder", inPlace := ["maps.clone"], unfollowed := true, recurses := true, plainKeys := false, apart := false, narrowed := true }
def WatchOrderUptoSaid : Prop := watchOrderUptoRow.holds Try.pinned (OpenSpec.upto watchOrderSpec)

/-- 'windsocklaw05.WatchInTime', WHERE WHAT IT READS IS OF BULK AT MOST 1048576: true; the input reads as it did. -/
def watchInTimeUptoRow : OpenClaim := { program := "ytljkgnicmlhipaa", sum := "db89451ed9b1c574e8c7fcb89103965d56b74f5ab638fde2e7bc8ae3e7a8c54b", func := "windsock/windsocklaw05.WatchInTime", spec := "watchInTime", inPlace := ["maps.clone"], unfollowed := true, recurses := true, plainKeys := false, apart := false, narrowed := true }
def WatchInTimeUptoSaid : Prop := watchInTimeUptoRow.holds Try.pinned (OpenSpec.upto watchInTimeSpec)

/-- 'windsocklaw05.WatchSweeps', WHERE WHAT IT READS IS OF BULK AT MOST 1048576: true; the input reads as it did. -/
def watchSweepsUptoRow : OpenClaim := { program := "ytljkgnicmlhipaa", sum := "db89451ed9b1c574e8c7fcb89103965d56b74f5ab638fde2e7bc8ae3e7a8c54b", func := "windsock/windsocklaw05.WatchSweeps", spec := "watchSweeps", inPlace := ["maps.clone"], unfollowed := true, recurses := true, plainKeys := false, apart := false, narrowed := true }
def WatchSweepsUptoSaid : Prop := watchSweepsUptoRow.holds Try.pinned (OpenSpec.upto watchSweepsSpec)

/-- 'windsocklaw05.WatchSearch', WHERE WHAT IT READS IS OF BULK AT MOST 1048576: true; the input reads as it did. -/
def watchSearchUptoRow : OpenClaim := { program := "ytljkgnicmlhipaa", sum := "db89451ed9b1c574e8c7fcb89103965d56b74f5ab638fde2e7bc8ae3e7a8c54b", func := "windsock/windsocklaw05.WatchSearch", spec := "watchSearch", inPlace := ["maps.clone"], unfollowed := true, recurses := true, plainKeys := false, apart := false, narrowed := true }
def WatchSearchUptoSaid : Prop := watchSearchUptoRow.holds Try.pinned (OpenSpec.upto watchSearchSpec)

/-- 'windsocklaw05.WatchStages', WHERE WHAT IT READS IS OF BULK AT MOST 1048576: true; the input reads as it did. -/
def watchStagesUptoRow : OpenClaim := { program := "ytljkgnicmlhipaa", sum := "db89451ed9b1c574e8c7fcb89103965d56b74f5ab638fde2e7bc8ae3e7a8c54b", func := "windsock/windsocklaw05.WatchStages", spec := "watchStages", inPlace := ["maps.clone"], unfollowed := true, recurses := true, plainKeys := false, apart := false, narrowed := true }
def WatchStagesUptoSaid : Prop := watchStagesUptoRow.holds Try.pinned (OpenSpec.upto watchStagesSpec)

/-- 'windsocklaw05.WatchMore', WHERE WHAT IT READS IS OF BULK AT MOST 1048576: true; the input reads as it did. -/
def watchMoreUptoRow : OpenClaim := { program := "ytljkgnicmlhipaa", sum := "db89451ed9b1c574e8c7fcb89103965d56b74f5ab638fde2e7bc8ae3e7a8c54b", func := "windsock/windsocklaw05.WatchMore", spec := "watchMore", inPlace := ["maps.clone"], unfollowed := true, recurses := true, plainKeys := false, apart := false, narrowed := true }
def WatchMoreUptoSaid : Prop := watchMoreUptoRow.holds Try.pinned (OpenSpec.upto watchMoreSpec)

/-- 'windsocklaw05.WatchChecks', WHERE WHAT IT READS IS OF BULK AT MOST 1048576: true; the input reads as it did. -/
def watchChecksUptoRow : OpenClaim := { program := "ytljkgnicmlhipaa", sum := "db89451ed9b1c574e8c7fcb89103965d56b74f5ab638fde2e7bc8ae3e7a8c54b", func := "windsock/windsocklaw05.WatchChecks", spec := "watchChecks", inPlace := ["maps.clone"], unfollowed := true, recurses := true, plainKeys := false, apart := false, narrowed := true }
def WatchChecksUptoSaid : Prop := watchChecksUptoRow.holds Try.pinned (OpenSpec.upto watchChecksSpec)

end Rows
end Go.Proofs.Ytljkgnicmlhipaa
