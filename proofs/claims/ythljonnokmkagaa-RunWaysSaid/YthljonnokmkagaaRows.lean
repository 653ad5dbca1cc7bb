/-
  No cell of these rows narrows 'for every input' (looked for: loops, veiled, ifaces, maps, wideKeys, modest, calm, conditions, laid).
  DERIVED. THE GIVEN ROWS OF THIS SEAT. 11 by the template 'for every input the law returns true; each argument reads behind the call as it read before'; 0 by the template 'total and deterministic' (their statements: YthljonnokmkagaaTotals.lean).
  GIVEN WITH THE SEED: the statements are not yours to turn. If you find one false, say at which input.
  Laid BY PROGRAM, IN A SANDBOX (cutbox-rows.mjs): the forced cells as the released guide's own fill.sh prints them over the translation 915b47da253403d8… (all of the seat's roots in one cut). By AI agents, Wed Nov 11 2026. No macro, syntax, notation, axiom, sorry.
-/
import Derived.Test.YthljonnokmkagaaChecked
import GoSem.Claim
import GoSem.ClaimJoined
import GoSem.ClaimMapViews
import Derived.JoinedTies
import Derived.KernelRfl
namespace Go.Proofs.Ythljonnokmkagaa
/- THE CELL 'sum', in the pinned program and in every row, IS THE sha256 OF THE DUMP (.gsa) THAT YthljonnokmkagaaProg.lean LOADS. Nothing in Lean hashes anything: it is a label: what it is worth is what the hold of that sum in a sandbox is worth. -/
noncomputable def Try.pinned : Pinned := { name := "ythljonnokmkagaa", sum := "915b47da253403d8730462badde961a2a07278ca4772a79df23a502b50c63c46", checked := Try.checked }
namespace Rows
def none {H : Type} : Left H := { results := [], args := [] }

/-- 'windsocklaw03.RunDown': WHATEVER THE INPUT: true; the input reads as it did. -/
def runDownSpec : ChangeSpec := { name := "runDown", fn := fun _ => fun
  | [d1, d2, d3, d4, d5, d6, d7, d8] => { results := [.lit (.bool true)], args := [d1, d2, d3, d4, d5, d6, d7, d8] }
  | _ => none }
def runDownRow : OpenClaim := { program := "ythljonnokmkagaa", sum := "915b47da253403d8730462badde961a2a07278ca4772a79df23a502b50c63c46", func := "windsock/windsocklaw03.RunDown", spec := "runDown", unfollowed := true, recurses := true, apart := false }
def RunDownSaid : Prop := runDownRow.holds Try.pinned (OpenSpec.ofChange runDownSpec)

/-- ITS FALSE NEIGHBOUR: 'it returns false'. Refute it at one input. -/
def runDownWrong : ChangeSpec := { name := "runDown", fn := fun _ => fun
  | [d1, d2, d3, d4, d5, d6, d7, d8] => { results := [.lit (.bool false)], args := [d1, d2, d3, d4, d5, d6, d7, d8] }
  | _ => none }
def RunDownWrongFalsely : Prop := runDownRow.holds Try.pinned (OpenSpec.ofChange runDownWrong)

/-- 'windsocklaw03.RunRivals': WHATEVER THE INPUT: true; the input reads as it did. -/
def runRivalsSpec : ChangeSpec := { name := "runRivals", fn := fun _ => fun
  | [d1, d2, d3, d4, d5, d6] => { results := [.lit (.bool true)], args := [d1, d2, d3, d4, d5, d6] }
  | _ => none }
def runRivalsRow : OpenClaim := { program := "ythljonnokmkagaa", sum := "915b47da253403d8730462badde961a2a07278ca4772a79df23a502b50c63c46", func := "windsock/windsocklaw03.RunRivals", spec := "runRivals", unfollowed := true, recurses := true, apart := false }
def RunRivalsSaid : Prop := runRivalsRow.holds Try.pinned (OpenSpec.ofChange runRivalsSpec)

/-- ITS FALSE NEIGHBOUR: 'it returns false'. Refute it at one input. -/
def runRivalsWrong : ChangeSpec := { name := "runRivals", fn := fun _ => fun
  | [d1, d2, d3, d4, d5, d6] => { results := [.lit (.bool false)], args := [d1, d2, d3, d4, d5, d6] }
  | _ => none }
def RunRivalsWrongFalsely : Prop := runRivalsRow.holds Try.pinned (OpenSpec.ofChange runRivalsWrong)

/-- 'windsocklaw03.RunMore': WHATEVER THE INPUT: true; the input reads as it did. -/
def runMoreSpec : ChangeSpec := { name := "runMore", fn := fun _ => fun
  | [d1, d2, d3, d4, d5, d6] => { results := [.lit (.bool true)], args := [d1, d2, d3, d4, d5, d6] }
  | _ => none }
def runMoreRow : OpenClaim := { program := "ythljonnokmkagaa", sum := "915b47da253403d8730462badde961a2a07278ca4772a79df23a502b50c63c46", func := "windsock/windsocklaw03.RunMore", spec := "runMore", unfollowed := true, recurses := true, apart := false }
def RunMoreSaid : Prop := runMoreRow.holds Try.pinned (OpenSpec.ofChange runMoreSpec)

/-- ITS FALSE NEIGHBOUR: 'it returns false'. Refute it at one input. -/
def runMoreWrong : ChangeSpec := { name := "runMore", fn := fun _ => fun
  | [d1, d2, d3, d4, d5, d6] => { results := [.lit (.bool false)], args := [d1, d2, d3, d4, d5, d6] }
  | _ => none }
def RunMoreWrongFalsely : Prop := runMoreRow.holds Try.pinned (OpenSpec.ofChange runMoreWrong)

/-- 'windsocklaw03.RunNeeds': WHATEVER THE INPUT: true; the input reads as it did. -/
def runNeedsSpec : ChangeSpec := { name := "runNeeds", fn := fun _ => fun
  | [d1, d2, d3, d4, d5, d6] => { results := [.lit (.bool true)], args := [d1, d2, d3, d4, d5, d6] }
  | _ => none }
def runNeedsRow : OpenClaim := { program := "ythljonnokmkagaa", sum := "915b47da253403d8730462badde961a2a07278ca4772a79df23a502b50c63c46", func := "windsock/windsocklaw03.RunNeeds", spec := "runNeeds", unfollowed := true, recurses := true, apart := false }
def RunNeedsSaid : Prop := runNeedsRow.holds Try.pinned (OpenSpec.ofChange runNeedsSpec)

/-- ITS FALSE NEIGHBOUR: 'it returns false'. Refute it at one input. -/
def runNeedsWrong : ChangeSpec := { name := "runNeeds", fn := fun _ => fun
  | [d1, d2, d3, d4, d5, d6] => { results := [.lit (.bool false)], args := [d1, d2, d3, d4, d5, d6] }
  | _ => none }
def RunNeedsWrongFalsely : Prop := runNeedsRow.holds Try.pinned (OpenSpec.ofChange runNeedsWrong)

/-- 'windsocklaw03.RunLosses': WHATEVER THE INPUT: true; the input reads as it did. -/
def runLossesSpec : ChangeSpec := { name := "runLosses", fn := fun _ => fun
  | [d1, d2, d3, d4] => { results := [.lit (.bool true)], args := [d1, d2, d3, d4] }
  | _ => none }
def runLossesRow : OpenClaim := { program := "ythljonnokmkagaa", sum := "915b47da253403d8730462badde961a2a07278ca4772a79df23a502b50c63c46", func := "windsock/windsocklaw03.RunLosses", spec := "runLosses", unfollowed := true, recurses := true, apart := false }
def RunLossesSaid : Prop := runLossesRow.holds Try.pinned (OpenSpec.ofChange runLossesSpec)

/-- ITS FALSE NEIGHBOUR: 'it returns false'. Refute it at one input. -/
def runLossesWrong : ChangeSpec := { name := "runLosses", fn := fun _ => fun
  | [d1, d2, d3, d4] => { results := [.lit (.bool false)], args := [d1, d2, d3, d4] }
  | _ => none }
def RunLossesWrongFalsely : Prop := runLossesRow.holds Try.pinned (OpenSpec.ofChange runLossesWrong)

/-- 'windsocklaw03.RunBounds': WHATEVER THE INPUT: true; the input reads as it did. -/
def runBoundsSpec : ChangeSpec := { name := "runBounds", fn := fun _ => fun
  | [d1, d2, d3, d4, d5, d6] => { results := [.lit (.bool true)], args := [d1, d2, d3, d4, d5, d6] }
  | _ => none }
def runBoundsRow : OpenClaim := { program := "ythljonnokmkagaa", sum := "915b47da253403d8730462badde961a2a07278ca4772a79df23a502b50c63c46", func := "windsock/windsocklaw03.RunBounds", spec := "runBounds", unfollowed := true, recurses := true, apart := false }
def RunBoundsSaid : Prop := runBoundsRow.holds Try.pinned (OpenSpec.ofChange runBoundsSpec)

/-- ITS FALSE NEIGHBOUR: 'it returns false'. Refute it at one input. -/
def runBoundsWrong : ChangeSpec := { name := "runBounds", fn := fun _ => fun
  | [d1, d2, d3, d4, d5, d6] => { results := [.lit (.bool false)], args := [d1, d2, d3, d4, d5, d6] }
  | _ => none }
def RunBoundsWrongFalsely : Prop := runBoundsRow.holds Try.pinned (OpenSpec.ofChange runBoundsWrong)

/-- 'windsocklaw03.RunFits': WHATEVER THE INPUT: true; the input reads as it did. -/
def runFitsSpec : ChangeSpec := { name := "runFits", fn := fun _ => fun
  | [d1, d2, d3, d4, d5, d6, d7, d8] => { results := [.lit (.bool true)], args := [d1, d2, d3, d4, d5, d6, d7, d8] }
  | _ => none }
def runFitsRow : OpenClaim := { program := "ythljonnokmkagaa", sum := "915b47da253403d8730462badde961a2a07278ca4772a79df23a502b50c63c46", func := "windsock/windsocklaw03.RunFits", spec := "runFits", unfollowed := true, recurses := true, apart := false }
def RunFitsSaid : Prop := runFitsRow.holds Try.pinned (OpenSpec.ofChange runFitsSpec)

/-- ITS FALSE NEIGHBOUR: 'it returns false'. Refute it at one input. -/
def runFitsWrong : ChangeSpec := { name := "runFits", fn := fun _ => fun
  | [d1, d2, d3, d4, d5, d6, d7, d8] => { results := [.lit (.bool false)], args := [d1, d2, d3, d4, d5, d6, d7, d8] }
  | _ => none }
def RunFitsWrongFalsely : Prop := runFitsRow.holds Try.pinned (OpenSpec.ofChange runFitsWrong)

/-- 'windsocklaw03.RunLengths': WHATEVER THE INPUT: true; the input reads as it did. -/
def runLengthsSpec : ChangeSpec := { name := "runLengths", fn := fun _ => fun
  | [d1, d2, d3, d4, d5] => { results := [.lit (.bool true)], args := [d1, d2, d3, d4, d5] }
  | _ => none }
def runLengthsRow : OpenClaim := { program := "ythljonnokmkagaa", sum := "915b47da253403d8730462badde961a2a07278ca4772a79df23a502b50c63c46", func := "windsock/windsocklaw03.RunLengths", spec := "runLengths", unfollowed := true, recurses := true, apart := false }
def RunLengthsSaid : Prop := runLengthsRow.holds Try.pinned (OpenSpec.ofChange runLengthsSpec)

/-- ITS FALSE NEIGHBOUR: 'it returns false'. Refute it at one input. -/
def runLengthsWrong : ChangeSpec := { name := "runLengths", fn := fun _ => fun
  | [d1, d2, d3, d4, d5] => { results := [.lit (.bool false)], args := [d1, d2, d3, d4, d5] }
  | _ => none }
def RunLengthsWrongFalsely : Prop := runLengthsRow.holds Try.pinned (OpenSpec.ofChange runLengthsWrong)

/-- 'windsocklaw03.RunWays': WHATEVER THE INPUT: true; the input reads as it did. -/
def runWaysSpec : ChangeSpec := { name := "runWays", fn := fun _ => fun
  | [d1, d2, d3, d4, d5, d6, d7] => { results := [.lit (.bool true)], args := [d1, d2, d3, d4, d5, d6, d7] }
  | _ => none }
def runWaysRow : OpenClaim := { program := "ythljonnokmkagaa", sum := "915b47da253403d8730462badde961a2a07278ca4772a79df23a502b50c63c46", func := "windsock/windsocklaw03.RunWays", spec := "runWays", unfollowed := true, recurses := true, apart := false }
def RunWaysSaid : Prop := runWaysRow.holds Try.pinned (OpenSpec.ofChange runWaysSpec)

/-- ITS FALSE NEIGHBOUR: 'it returns false'. Refute it at one input. -/
def runWaysWrong : ChangeSpec := { name := "runWays", fn := fun _ => fun
  | [d1, d2, d3, d4, d5, d6, d7] => { results := [.lit (.bool false)], args := [d1, d2, d3, d4, d5, d6, d7] }
  | _ => none }
def RunWaysWrongFalsely : Prop := runWaysRow.holds Try.pinned (OpenSpec.ofChange runWaysWrong)

/-- 'windsocklaw03.RunTaxis': WHATEVER THE INPUT: true; the input reads as it did. -/
def runTaxisSpec : ChangeSpec := { name := "runTaxis", fn := fun _ => fun
  | [d1, d2] => { results := [.lit (.bool true)], args := [d1, d2] }
  | _ => none }
def runTaxisRow : OpenClaim := { program := "ythljonnokmkagaa", sum := "915b47da253403d8730462badde961a2a07278ca4772a79df23a502b50c63c46", func := "windsock/windsocklaw03.RunTaxis", spec := "runTaxis", unfollowed := true, recurses := true, apart := false }
def RunTaxisSaid : Prop := runTaxisRow.holds Try.pinned (OpenSpec.ofChange runTaxisSpec)

/-- ITS FALSE NEIGHBOUR: 'it returns false'. Refute it at one input. -/
def runTaxisWrong : ChangeSpec := { name := "runTaxis", fn := fun _ => fun
  | [d1, d2] => { results := [.lit (.bool false)], args := [d1, d2] }
  | _ => none }
def RunTaxisWrongFalsely : Prop := runTaxisRow.holds Try.pinned (OpenSpec.ofChange runTaxisWrong)

/-- 'windsocklaw03.RunLegs': WHATEVER THE INPUT: true; the input reads as it did. -/
def runLegsSpec : ChangeSpec := { name := "runLegs", fn := fun _ => fun
  | [d1, d2, d3, d4] => { results := [.lit (.bool true)], args := [d1, d2, d3, d4] }
  | _ => none }
def runLegsRow : OpenClaim := { program := "ythljonnokmkagaa", sum := "915b47da253403d8730462badde961a2a07278ca4772a79df23a502b50c63c46", func := "windsock/windsocklaw03.RunLegs", spec := "runLegs", unfollowed := true, recurses := true, apart := false }
def RunLegsSaid : Prop := runLegsRow.holds Try.pinned (OpenSpec.ofChange runLegsSpec)

/-- ITS FALSE NEIGHBOUR: 'it returns false'. Refute it at one input. -/
def runLegsWrong : ChangeSpec := { name := "runLegs", fn := fun _ => fun
  | [d1, d2, d3, d4] => { results := [.lit (.bool false)], args := [d1, d2, d3, d4] }
  | _ => none }
def RunLegsWrongFalsely : Prop := runLegsRow.holds Try.pinned (OpenSpec.ofChange runLegsWrong)

/- THE SECOND FORM. 'bulk': how many values and letters a reading holds, each counted each time it is reached (what is shared counts as often as it is met; a slice's spare places count too). A statement '..UptoSaid' is the law's where the arguments, and the package variables that the reading takes, are together of bulk at most 1048576: NARROWER than '..Said'. Prove '..Said' where nothing that the law and all that it calls make is longer than what came in: it says more and counts as full. Else prove '..UptoSaid'. A law counts once. -/
mutual
def uptoBulk {H : Type} : DataW H → Nat
  | .lit (.string bytes) => bytes.length + 1
  | .lit _ => 1
  | .nil => 1
  | .ptr d => uptoBulk d + 1
  | .slice elems spare => uptoBulkAll elems + uptoBulkAll spare + 1
  | .agg parts => uptoBulkAll parts + 1
  | .iface _ d => uptoBulk d + 1
  | .map entries => uptoBulkEntries entries + 1
  | .held _ => 1
def uptoBulkAll {H : Type} : List (DataW H) → Nat
  | [] => 0
  | d :: r => uptoBulk d + uptoBulkAll r
def uptoBulkEntries {H : Type} : List (Lit × DataW H) → Nat
  | [] => 0
  | x :: r => uptoBulkEntry x + uptoBulkEntries r
def uptoBulkEntry {H : Type} : Lit × DataW H → Nat
  | (.string bytes, d) => bytes.length + uptoBulk d + 1
  | (_, d) => uptoBulk d + 1
 end
def uptoSmall : (H : Type) → List (DataW H) → Bool := fun _ ds => decide (uptoBulkAll ds ≤ 1048576)
def OpenSpec.upto (s : _root_.Go.ChangeSpec) : _root_.Go.OpenSpec := { _root_.Go.OpenSpec.ofChange s with cond := some uptoSmall }

/-- 'windsocklaw03.RunDown', WHERE WHAT IT READS IS OF BULK AT MOST 1048576: true; the input reads as it did. -/
def runDownUptoRow : OpenClaim := { program := "ythljonnokmkagaa", sum := "915b47da253403d8730462badde961a2a07278ca4772a79df23a502b50c63c46", func := "windsock/windsocklaw03.RunDown", spec := "runDown", unfollowed := true, recurses := true, apart := false, narrowed := true }
def RunDownUptoSaid : Prop := runDownUptoRow.holds Try.pinned (OpenSpec.upto runDownSpec)

/-- 'windsocklaw03.RunRivals', WHERE WHAT IT READS IS OF BULK AT MOST 1048576: true; the input reads as it did. -/
def runRivalsUptoRow : OpenClaim := { program := "ythljonnokmkagaa", sum := "915b47da253403d8730462badde961a2a07278ca4772a79df23a502b50c63c46", func := "windsock/windsocklaw03.RunRivals", spec := "runRivals", unfollowed := true, recurses := true, apart := false, narrowed := true }
def RunRivalsUptoSaid : Prop := runRivalsUptoRow.holds Try.pinned (OpenSpec.upto runRivalsSpec)

/-- 'windsocklaw03.RunMore', WHERE WHAT IT READS IS OF BULK AT MOST 1048576: true; the input reads as it did. -/
def runMoreUptoRow : OpenClaim := { program := "ythljonnokmkagaa", sum := "915b47da253403d8730462badde961a2a07278ca4772a79df23a502b50c63c46", func := "windsock/windsocklaw03.RunMore", spec := "runMore", unfollowed := true, recurses := true, apart := false, narrowed := true }
def RunMoreUptoSaid : Prop := runMoreUptoRow.holds Try.pinned (OpenSpec.upto runMoreSpec)

/-- 'windsocklaw03.RunNeeds', WHERE WHAT IT READS IS OF BULK AT MOST 1048576: true; the input reads as it did. -/
def runNeedsUptoRow : OpenClaim := { program := "ythljonnokmkagaa", sum := "915b47da253403d8730462badde961a2a07278ca4772a79df23a502b50c63c46", func := "windsock/windsocklaw03.RunNeeds", spec := "runNeeds", unfollowed := true, recurses := true, apart := false, narrowed := true }
def RunNeedsUptoSaid : Prop := runNeedsUptoRow.holds Try.pinned (OpenSpec.upto runNeedsSpec)

/-- 'windsocklaw03.RunLosses', WHERE WHAT IT READS IS OF BULK AT MOST 1048576: true; the input reads as it did. -/
def runLossesUptoRow : OpenClaim := { program := "ythljonnokmkagaa", sum := "915b47da253403d8730462badde961a2a07278ca4772a79df23a502b50c63c46", func := "windsock/windsocklaw03.RunLosses", spec := "runLosses", unfollowed := true, recurses := true, apart := false, narrowed := true }
def RunLossesUptoSaid : Prop := runLossesUptoRow.holds Try.pinned (OpenSpec.upto runLossesSpec)

/-- 'windsocklaw03.RunBounds', WHERE WHAT IT READS IS OF BULK AT MOST 1048576: true; the input reads as it did. -/
def runBoundsUptoRow : OpenClaim := { program := "ythljonnokmkagaa", sum := "915b47da253403d8730462badde961a2a07278ca4772a79df23a502b50c63c46", func := "windsock/windsocklaw03.RunBounds", spec := "runBounds", unfollowed := true, recurses := true, apart := false, narrowed := true }
def RunBoundsUptoSaid : Prop := runBoundsUptoRow.holds Try.pinned (OpenSpec.upto runBoundsSpec)

/-- 'windsocklaw03.RunFits', WHERE WHAT IT READS IS OF BULK AT MOST 1048576: true; the input reads as it did. -/
def runFitsUptoRow : OpenClaim := { program := "ythljonnokmkagaa", sum := "915b47da253403d8730462badde961a2a07278ca4772a79df23a502b50c63c46", func := "windsock/windsocklaw03.RunFits", spec := "runFits", unfollowed := true, recurses := true, apart := false, narrowed := true }
def RunFitsUptoSaid : Prop := runFitsUptoRow.holds Try.pinned (OpenSpec.upto runFitsSpec)

/-- 'windsocklaw03.RunLengths', WHERE WHAT IT READS IS OF BULK AT MOST 1048576: true; the input reads as it did. -/
def runLengthsUptoRow : OpenClaim := { program := "ythljonnokmkagaa", sum := "915b47da253403d8730462badde961a2a07278ca4772a79df23a502b50c63c46", func := "windsock/windsocklaw03.RunLengths", spec := "runLengths", unfollowed := true, recurses := true, apart := false, narrowed := true }
def RunLengthsUptoSaid : Prop := runLengthsUptoRow.holds Try.pinned (OpenSpec.upto runLengthsSpec)

/-- 'windsocklaw03.RunWays', WHERE WHAT IT READS IS OF BULK AT MOST 1048576: true; the input reads as it did. -/
def runWaysUptoRow : OpenClaim := { program := "ythljonnokmkagaa", sum := "915b47da253403d8730462badde961a2a07278ca4772a79df23a502b50c63c46", func := "windsock/windsocklaw03.RunWays", spec := "runWays", unfollowed := true, recurses := true, apart := false, narrowed := true }
def RunWaysUptoSaid : Prop := runWaysUptoRow.holds Try.pinned (OpenSpec.upto runWaysSpec)

/-- 'windsocklaw03.RunTaxis', WHERE WHAT IT READS IS OF BULK AT MOST 1048576: true; the input reads as it did. -/
def runTaxisUptoRow : OpenClaim := { program := "ythljonnokmkagaa", sum := "915b47da253403d8730462badde961a2a07278ca4772a79df23a502b50c63c46", func := "windsock/windsocklaw03.RunTaxis", spec := "runTaxis", unfollowed := true, recurses := true, apart := false, narrowed := true }
def RunTaxisUptoSaid : Prop := runTaxisUptoRow.holds Try.pinned (OpenSpec.upto runTaxisSpec)

/-- 'windsocklaw03.RunLegs', WHERE WHAT IT READS IS OF BULK AT MOST 1048576: true; the input reads as it did. -/
def runLegsUptoRow : OpenClaim := { program := "ythljonnokmkagaa", sum := "915b47da253403d8730462badde961a2a07278ca4772a79df23a502b50c63c46", func := "windsock/windsocklaw03.RunLegs", spec := "runLegs", unfollowed := true, recurses := true, apart := false, narrowed := true }
def RunLegsUptoSaid : Prop := runLegsUptoRow.holds Try.pinned (OpenSpec.upto runLegsSpec)

end Rows
end Go.Proofs.Ythljonnokmkagaa
