/-
  No cell of these rows narrows 'for every input' (looked for: loops, veiled, ifaces, maps, wideKeys, modest, calm, conditions, laid).
  DERIVED. THE GIVEN ROWS OF THIS SEAT. 4 by the template 'for every input the law returns true; each argument reads behind the call as it read before'; 0 by the template 'total and deterministic' (their statements: YtljkgnicmlhipaaGreatTotals.lean).
  GIVEN WITH THE SEED: the statements are not yours to turn. If you find one false, say at which input.
  Laid BY PROGRAM, IN A SANDBOX (cutbox-rows.mjs): the forced cells as the released guide's own fill.sh prints them over the translation 3b08c632ee576c89… (all of the seat's roots in one cut). By AI agents, Wed Nov 11 2026. No macro, syntax, notation, axiom, sorry.
-/
import Derived.Test.YtljkgnicmlhipaaGreatChecked
import GoSem.Claim
import GoSem.ClaimJoined
import GoSem.ClaimMapViews
import Derived.JoinedTies
import Derived.KernelRfl
namespace Go.Proofs.YtljkgnicmlhipaaGreat
/- THE CELL 'sum', in the pinned program and in every row, IS THE sha256 OF THE DUMP (.gsa) THAT YtljkgnicmlhipaaGreatProg.lean LOADS. Nothing in Lean hashes anything: it is a label: what it is worth is what the hold of that sum in a sandbox is worth. -/
noncomputable def Tryz.pinned : Pinned := { name := "ytljkgnicmlhipaagreat", sum := "3b08c632ee576c890ef89fff40b48061693cb27bc888822fde06404cd7aec3f2", checked := Tryz.checked }
namespace Rows
def none {H : Type} : Left H := { results := [], args := [] }

/-- 'windsocklaw05.WatchWhere': WHATEVER THE INPUT: true; the input reads as it did. -/
def watchWhereSpec : ChangeSpec := { name := "watchWhere", fn := fun _ => fun
  | [d1, d2, d3] => { results := [.lit (.bool true)], args := [d1, d2, d3] }
  | _ => none }
def watchWhereRow : OpenClaim := { program := "ytljkgnicmlhipaagreat", sum := "3b08c632ee576c890ef89fff40b48061693cb27bc888822fde06404cd7aec3f2", func := "windsock/windsocklaw05.WatchWhere", spec := "watchWhere", inPlace := ["maps.clone"], unfollowed := true, recurses := true, plainKeys := false, apart := false }
def WatchWhereSaid : Prop := watchWhereRow.holds Tryz.pinned (OpenSpec.ofChange watchWhereSpec)

/-- ITS FALSE NEIGHBOUR: 'it returns false'. Refute it at one input. -/
def watchWhereWrong : ChangeSpec := { name := "watchWhere", fn := fun _ => fun
  | [d1, d2, d3] => { results := [.lit (.bool false)], args := [d1, d2, d3] }
  | _ => none }
def WatchWhereWrongFalsely : Prop := watchWhereRow.holds Tryz.pinned (OpenSpec.ofChange watchWhereWrong)

/-- 'windsocklaw05.WatchSharp': WHATEVER THE INPUT: true; the input reads as it did. -/
def watchSharpSpec : ChangeSpec := { name := "watchSharp", fn := fun _ => fun
  | [d1, d2, d3] => { results := [.lit (.bool true)], args := [d1, d2, d3] }
  | _ => none }
def watchSharpRow : OpenClaim := { program := "ytljkgnicmlhipaagreat", sum := "3b08c632ee576c890ef89fff40b48061693cb27bc888822fde06404cd7aec3f2", func := "windsock/windsocklaw05.WatchSharp", spec := "watchSharp", inPlace := ["maps.clone"], unfollowed := true, recurses := true, plainKeys := false, apart := false }
def WatchSharpSaid : Prop := watchSharpRow.holds Tryz.pinned (OpenSpec.ofChange watchSharpSpec)

/-- ITS FALSE NEIGHBOUR: 'it returns false'. Refute it at one input. -/
def watchSharpWrong : ChangeSpec := { name := "watchSharp", fn := fun _ => fun
  | [d1, d2, d3] => { results := [.lit (.bool false)], args := [d1, d2, d3] }
  | _ => none }
def WatchSharpWrongFalsely : Prop := watchSharpRow.holds Tryz.pinned (OpenSpec.ofChange watchSharpWrong)

/-- 'windsocklaw05.WatchAgrees': WHATEVER THE INPUT: true; the input reads as it did. -/
def watchAgreesSpec : ChangeSpec := { name := "watchAgrees", fn := fun _ => fun
  | [d1, d2, d3] => { results := [.lit (.bool true)], args := [d1, d2, d3] }
  | _ => none }
def watchAgreesRow : OpenClaim := { program := "ytljkgnicmlhipaagreat", sum := "3b08c632ee576c890ef89fff40b48061693cb27bc888822fde06404cd7aec3f2", func := "windsock/windsocklaw05.WatchAgrees", spec := "watchAgrees", inPlace := ["maps.clone"], unfollowed := true, recurses := true, plainKeys := false, apart := false }
def WatchAgreesSaid : Prop := watchAgreesRow.holds Tryz.pinned (OpenSpec.ofChange watchAgreesSpec)

/-- ITS FALSE NEIGHBOUR: 'it returns false'. Refute it at one input. -/
def watchAgreesWrong : ChangeSpec := { name := "watchAgrees", fn := fun _ => fun
  | [d1, d2, d3] => { results := [.lit (.bool false)], args := [d1, d2, d3] }
  | _ => none }
def WatchAgreesWrongFalsely : Prop := watchAgreesRow.holds Tryz.pinned (OpenSpec.ofChange watchAgreesWrong)

/-- 'windsocklaw05.WatchTrue': WHATEVER THE INPUT: true; the input reads as it did. -/
def watchTrueSpec : ChangeSpec := { name := "watchTrue", fn := fun _ => fun
  | [d1, d2, d3] => { results := [.lit (.bool true)], args := [d1, d2, d3] }
  | _ => none }
def watchTrueRow : OpenClaim := { program := "ytljkgnicmlhipaagreat", sum := "3b08c632ee576c890ef89fff40b48061693cb27bc888822fde06404cd7aec3f2", func := "windsock/windsocklaw05.WatchTrue", spec := "watchTrue", inPlace := ["maps.clone"], unfollowed := true, recurses := true, plainKeys := false, apart := false }
def WatchTrueSaid : Prop := watchTrueRow.holds Tryz.pinned (OpenSpec.ofChange watchTrueSpec)

/-- ITS FALSE NEIGHBOUR: 'it returns false'. Refute it at one input. -/
def watchTrueWrong : ChangeSpec := { name := "watchTrue", fn := fun _ => fun
  | [d1, d2, d3] => { results := [.lit (.bool false)], args := [d1, d2, d3] }
  | _ => none }
def WatchTrueWrongFalsely : Prop := watchTrueRow.holds Tryz.pinned (OpenSpec.ofChange watchTrueWrong)

/- THE SECOND FORM. 'bulk': how many values and letters a reading holds, each counted each time it is reached (what is shared counts as often as it is met; a slice's spare places count too). A statement '..UptoSaid' is the law's where the arguments, and the package variables that the reading takes, are together of bulk at most 1048576: NARROWER than '..Said'. Prove '..Said' where nothing that the law and all that it calls make is longer than what came in: it says more and counts as full. Else prove '..UptoSaid'. A law counts once. -/
mutual
def uptoBulk {H : Type} : DataW H → Nat
  | .lit (.string bytes) => bytes.length + 1
  | .lit _ => 1
  | .nil => 1
  | .ptr d => uptoBulk d + 1
  | .slice elems spare => uptoBulkAll elems + uptoBulkAll spare + 1
  | .agg parts => uptoBulkAll parts + 1
  | .iface _ d => uptoBulk d + 1
  | .map entries => uptoBulkEntries entries + 1
  | .held _ => 1
def uptoBulkAll {H : Type} : List (DataW H) → Nat
  | [] => 0
  | d :: r => uptoBulk d + uptoBulkAll r
def uptoBulkEntries {H : Type} : List (Lit × DataW H) → Nat
  | [] => 0
  | x :: r => uptoBulkEntry x + uptoBulkEntries r
def uptoBulkEntry {H : Type} : Lit × DataW H → Nat
  | (.string bytes, d) => bytes.length + uptoBulk d + 1
  | (_, d) => uptoBulk d + 1
 end
def uptoSmall : (H : Type) → List (DataW H) → Bool := fun _ ds => decide (uptoBulkAll ds ≤ 1048576)
def OpenSpec.upto (s : _root_.Go.ChangeSpec) : _root_.Go.OpenSpec := { _root_.Go.OpenSpec.ofChange s with cond := some uptoSmall }

/-- 'windsocklaw05.WatchWhere', WHERE WHAT IT READS IS OF BULK AT MOST 1048576: true; the input reads as it did. -/
def watchWhereUptoRow : OpenClaim := { program := "ytljkgnicmlhipaagreat", sum := "3b08c632ee576c890ef89fff40b48061693cb27bc888822fde06404cd7aec3f2", func := "windsock/windsocklaw05.WatchWhere", spec := "watchWhere", inPlace := ["maps.clone"], unfollowed := true, recurses := true, plainKeys := false, apart := false, narrowed := true }
def WatchWhereUptoSaid : Prop := watchWhereUptoRow.holds Tryz.pinned (OpenSpec.upto watchWhereSpec)

/-- 'windsocklaw05.WatchSharp', WHERE WHAT IT READS IS OF BULK AT MOST 1048576: true; the input reads as it did. -/
def watchSharpUptoRow : OpenClaim := { program := "ytljkgnicmlhipaagreat", sum := "3b08c632ee576c890ef89fff40b48061693cb27bc888822fde06404cd7aec3f2", func := "windsock/windsocklaw05.WatchSharp", spec := "watchSharp", inPlace := ["maps.clone"], unfollowed := true, recurses := true, plainKeys := false, apart := false, narrowed := true }
def WatchSharpUptoSaid : Prop := watchSharpUptoRow.holds Tryz.pinned (OpenSpec.upto watchSharpSpec)

/-- 'windsocklaw05.WatchAgrees', WHERE WHAT IT READS IS OF BULK AT MOST 1048576: true; the input reads as it did. -/
def watchAgreesUptoRow : OpenClaim := { program := "ytljkgnicmlhipaagreat", sum := "3b08c632ee576c890ef89fff40b48061693cb27bc888822fde06404cd7aec3f2", func := "windsock/windsocklaw05.WatchAgrees", spec := "watchAgrees", inPlace := ["maps.clone"], unfollowed := true, recurses := true, plainKeys := false, apart := false, narrowed := true }
def WatchAgreesUptoSaid : Prop := watchAgreesUptoRow.holds Tryz.pinned (OpenSpec.upto watchAgreesSpec)

/-- 'windsocklaw05.WatchTrue', WHERE WHAT IT READS IS OF BULK AT MOST 1048576: true; the input reads as it did. -/
def watchTrueUptoRow : OpenClaim := { program := "ytljkgnicmlhipaagreat", sum := "3b08c632ee576c890ef89fff40b48061693cb27bc888822fde06404cd7aec3f2", func := "windsock/windsocklaw05.WatchTrue", spec := "watchTrue", inPlace := ["maps.clone"], unfollowed := true, recurses := true, plainKeys := false, apart := false, narrowed := true }
def WatchTrueUptoSaid : Prop := watchTrueUptoRow.holds Tryz.pinned (OpenSpec.upto watchTrueSpec)

end Rows
end Go.Proofs.YtljkgnicmlhipaaGreat
