/-
  DERIVED. GIVEN WITH THE SEED: THE CARDS: each row of YtjhoplbdpdbgaaaDoorRows.lean that lists a variable, with what it lists TIED to the program's text (the seventh form; the later family's looks); each row that meets fmt, with fmt's text TOLD by the authors' own Lean function (tested against real Go, not proved from fmt's source: count such statements apart). THE CARD IS WHAT COUNTS. Prove the row's statement (the work); the ties are given (YtjhoplbdpdbgaaaDoorTie.lean); close each card by the builder's one call (the guide's Derived/Test/ToyasCard.lean, 'card_holds'). Laid BY PROGRAM, IN A SANDBOX (cutbox-door.mjs). By AI agents, Wed Nov 11 2026. No macro, syntax, notation, axiom, sorry.
-/
import Derived.Test.YtjhoplbdpdbgaaaDoorRows
import GoSem.ClaimSeven
namespace Go.Proofs.YtjhoplbdpdbgaaaDoor
namespace Rows

/-- THE TIED CARD OF 'windsocklaw01.WaterChecks'. -/
def waterChecksCard : Claim7 := { stood := { row := waterChecksRow, standIns := [], harness := (true, "0c66a308cac021b034c9b6cb21849e1957bc713e78c646fd76fe92f3edc18209"), looks := false }, kinds := [], alts := [], laidByText := true, laidKinds := [.data, .data, .data], laidTests := true, laidLooks := .later }
def WaterChecksCardSaid : Prop := Claim7.holds Tryd.pinned (.plain (OpenSpec.ofChange waterChecksSpec)) waterChecksCard

/-- THE TIED CARD OF 'windsocklaw01.WaterBounds'. -/
def waterBoundsCard : Claim7 := { stood := { row := waterBoundsRow, standIns := [], harness := (true, "0c66a308cac021b034c9b6cb21849e1957bc713e78c646fd76fe92f3edc18209"), looks := false }, kinds := [], alts := [], laidByText := true, laidKinds := [.data, .data, .data], laidTests := true, laidLooks := .later }
def WaterBoundsCardSaid : Prop := Claim7.holds Tryd.pinned (.plain (OpenSpec.ofChange waterBoundsSpec)) waterBoundsCard

/-- THE TIED CARD OF 'windsocklaw01.WaterSharp'. -/
def waterSharpCard : Claim7 := { stood := { row := waterSharpRow, standIns := [], harness := (true, "0c66a308cac021b034c9b6cb21849e1957bc713e78c646fd76fe92f3edc18209"), looks := false }, kinds := [], alts := [], laidByText := true, laidKinds := [.data, .data, .data], laidTests := true, laidLooks := .later }
def WaterSharpCardSaid : Prop := Claim7.holds Tryd.pinned (.plain (OpenSpec.ofChange waterSharpSpec)) waterSharpCard

/-- THE TIED CARD OF 'windsocklaw01.WaterBlamed'. -/
def waterBlamedCard : Claim7 := { stood := { row := waterBlamedRow, standIns := [], harness := (true, "0c66a308cac021b034c9b6cb21849e1957bc713e78c646fd76fe92f3edc18209"), looks := false }, kinds := [], alts := [], laidByText := true, laidKinds := [.data, .data, .data], laidTests := true, laidLooks := .later }
def WaterBlamedCardSaid : Prop := Claim7.holds Tryd.pinned (.plain (OpenSpec.ofChange waterBlamedSpec)) waterBlamedCard

/-- THE SECOND FORM's CARD OF 'windsocklaw01.WaterChecks'. -/
def waterChecksUptoCard : Claim7 := { stood := { row := waterChecksUptoRow, standIns := [], harness := (true, "0c66a308cac021b034c9b6cb21849e1957bc713e78c646fd76fe92f3edc18209"), looks := false }, kinds := [], alts := [], laidByText := true, laidKinds := [.data, .data, .data], laidTests := true, laidLooks := .later }
def WaterChecksUptoCardSaid : Prop := Claim7.holds Tryd.pinned (.plain (OpenSpec.upto waterChecksSpec)) waterChecksUptoCard

/-- THE SECOND FORM's CARD OF 'windsocklaw01.WaterBounds'. -/
def waterBoundsUptoCard : Claim7 := { stood := { row := waterBoundsUptoRow, standIns := [], harness := (true, "0c66a308cac021b034c9b6cb21849e1957bc713e78c646fd76fe92f3edc18209"), looks := false }, kinds := [], alts := [], laidByText := true, laidKinds := [.data, .data, .data], laidTests := true, laidLooks := .later }
def WaterBoundsUptoCardSaid : Prop := Claim7.holds Tryd.pinned (.plain (OpenSpec.upto waterBoundsSpec)) waterBoundsUptoCard

/-- THE SECOND FORM's CARD OF 'windsocklaw01.WaterSharp'. -/
def waterSharpUptoCard : Claim7 := { stood := { row := waterSharpUptoRow, standIns := [], harness := (true, "0c66a308cac021b034c9b6cb21849e1957bc713e78c646fd76fe92f3edc18209"), looks := false }, kinds := [], alts := [], laidByText := true, laidKinds := [.data, .data, .data], laidTests := true, laidLooks := .later }
def WaterSharpUptoCardSaid : Prop := Claim7.holds Tryd.pinned (.plain (OpenSpec.upto waterSharpSpec)) waterSharpUptoCard

/-- THE SECOND FORM's CARD OF 'windsocklaw01.WaterBlamed'. -/
def waterBlamedUptoCard : Claim7 := { stood := { row := waterBlamedUptoRow, standIns := [], harness := (true, "0c66a308cac021b034c9b6cb21849e1957bc713e78c646fd76fe92f3edc18209"), looks := false }, kinds := [], alts := [], laidByText := true, laidKinds := [.data, .data, .data], laidTests := true, laidLooks := .later }
def WaterBlamedUptoCardSaid : Prop := Claim7.holds Tryd.pinned (.plain (OpenSpec.upto waterBlamedSpec)) waterBlamedUptoCard
end Rows
end Go.Proofs.YtjhoplbdpdbgaaaDoor
