/-
  DERIVED. GIVEN WITH THE SEED: THE CARDS: each row of YtjhoplbdpdbgaaaGreatDoorRows.lean that lists a variable, with what it lists TIED to the program's text (the seventh form; the later family's looks); each row that meets fmt, with fmt's text TOLD by the authors' own Lean function (tested against real Go, not proved from fmt's source: count such statements apart). THE CARD IS WHAT COUNTS. Prove the row's statement (the work); the ties are given (YtjhoplbdpdbgaaaGreatDoorTie.lean); close each card by the builder's one call (the guide's Derived/Test/ToyasCard.lean, 'card_holds'). Laid BY PROGRAM, IN A SANDBOX (cutbox-door.mjs). By AI agents, Wed Nov 11 2026. No macro, syntax, notation, axiom, sorry.
-/
import Derived.Test.YtjhoplbdpdbgaaaGreatDoorRows
import GoSem.ClaimSeven
namespace Go.Proofs.YtjhoplbdpdbgaaaGreatDoor
namespace Rows

/-- THE TIED CARD OF 'windsocklaw01.WaterBest'. -/
def waterBestCard : Claim7 := { stood := { row := waterBestRow, standIns := [], harness := (true, "1d872e3d5ad3538c95170d7274155d12e25ff72277eb4e34672755dd4fb834f9"), looks := true }, kinds := [], alts := [], laidByText := true, laidKinds := [.data, .data, .data], laidTests := true, laidLooks := .later }
def WaterBestCardSaid : Prop := Claim7.holds Tryz.pinned (.plain (OpenSpec.ofChange waterBestSpec)) waterBestCard

/-- THE TIED CARD OF 'windsocklaw01.WaterMinutes'. -/
def waterMinutesCard : Claim7 := { stood := { row := waterMinutesRow, standIns := [], harness := (true, "1d872e3d5ad3538c95170d7274155d12e25ff72277eb4e34672755dd4fb834f9"), looks := true }, kinds := [], alts := [], laidByText := true, laidKinds := [.data, .data, .data], laidTests := true, laidLooks := .later }
def WaterMinutesCardSaid : Prop := Claim7.holds Tryz.pinned (.plain (OpenSpec.ofChange waterMinutesSpec)) waterMinutesCard

/-- THE TIED CARD OF 'windsocklaw01.WaterTrue'. -/
def waterTrueCard : Claim7 := { stood := { row := waterTrueRow, standIns := [], harness := (true, "1d872e3d5ad3538c95170d7274155d12e25ff72277eb4e34672755dd4fb834f9"), looks := true }, kinds := [], alts := [], laidByText := true, laidKinds := [.data, .data, .data], laidTests := true, laidLooks := .later }
def WaterTrueCardSaid : Prop := Claim7.holds Tryz.pinned (.plain (OpenSpec.ofChange waterTrueSpec)) waterTrueCard

/-- THE TIED CARD OF 'windsocklaw01.WaterMore'. -/
def waterMoreCard : Claim7 := { stood := { row := waterMoreRow, standIns := [], harness := (true, "1d872e3d5ad3538c95170d7274155d12e25ff72277eb4e34672755dd4fb834f9"), looks := true }, kinds := [], alts := [], laidByText := true, laidKinds := [.data, .data, .data], laidTests := true, laidLooks := .later }
def WaterMoreCardSaid : Prop := Claim7.holds Tryz.pinned (.plain (OpenSpec.ofChange waterMoreSpec)) waterMoreCard

/-- THE TIED CARD OF 'windsocklaw01.WaterWindows'. -/
def waterWindowsCard : Claim7 := { stood := { row := waterWindowsRow, standIns := [], harness := (true, "1d872e3d5ad3538c95170d7274155d12e25ff72277eb4e34672755dd4fb834f9"), looks := true }, kinds := [], alts := [], laidByText := true, laidKinds := [.data, .data, .data], laidTests := true, laidLooks := .later }
def WaterWindowsCardSaid : Prop := Claim7.holds Tryz.pinned (.plain (OpenSpec.ofChange waterWindowsSpec)) waterWindowsCard

/-- THE TIED CARD OF 'windsocklaw01.WaterSame'. -/
def waterSameCard : Claim7 := { stood := { row := waterSameRow, standIns := [], harness := (true, "1d872e3d5ad3538c95170d7274155d12e25ff72277eb4e34672755dd4fb834f9"), looks := true }, kinds := [], alts := [], laidByText := true, laidKinds := [.data, .data, .data], laidTests := true, laidLooks := .later }
def WaterSameCardSaid : Prop := Claim7.holds Tryz.pinned (.plain (OpenSpec.ofChange waterSameSpec)) waterSameCard

/-- THE TIED CARD OF 'windsocklaw01.WaterMost'. -/
def waterMostCard : Claim7 := { stood := { row := waterMostRow, standIns := [], harness := (true, "1d872e3d5ad3538c95170d7274155d12e25ff72277eb4e34672755dd4fb834f9"), looks := true }, kinds := [], alts := [], laidByText := true, laidKinds := [.data, .data, .data], laidTests := true, laidLooks := .later }
def WaterMostCardSaid : Prop := Claim7.holds Tryz.pinned (.plain (OpenSpec.ofChange waterMostSpec)) waterMostCard

/-- THE TIED CARD OF 'windsocklaw01.WaterFiles'. -/
def waterFilesCard : Claim7 := { stood := { row := waterFilesRow, standIns := [], harness := (true, "1d872e3d5ad3538c95170d7274155d12e25ff72277eb4e34672755dd4fb834f9"), looks := true }, kinds := [], alts := [], laidByText := true, laidKinds := [.data, .data, .data, .data, .sentinel, .sentinel, .pinned], laidTests := true, laidLooks := .later }
def WaterFilesCardSaid : Prop := Claim7.holds Tryz.pinned (.plain (OpenSpec.ofChange waterFilesSpec)) waterFilesCard

/-- THE TIED CARD OF 'windsocklaw01.WaterReads'. -/
def waterReadsCard : Claim7 := { stood := { row := waterReadsRow, standIns := [], harness := (true, "1d872e3d5ad3538c95170d7274155d12e25ff72277eb4e34672755dd4fb834f9"), looks := true }, kinds := [], alts := [], laidByText := true, laidKinds := [.data, .data, .data, .data, .sentinel, .sentinel, .pinned], laidTests := true, laidLooks := .later }
def WaterReadsCardSaid : Prop := Claim7.holds Tryz.pinned (.plain (OpenSpec.ofChange waterReadsSpec)) waterReadsCard

/-- THE TIED CARD OF 'windsocklaw01.WaterSpoilt'. -/
def waterSpoiltCard : Claim7 := { stood := { row := waterSpoiltRow, standIns := [], harness := (true, "1d872e3d5ad3538c95170d7274155d12e25ff72277eb4e34672755dd4fb834f9"), looks := true }, kinds := [], alts := [], laidByText := true, laidKinds := [.data, .data, .data, .data, .sentinel, .sentinel, .pinned], laidTests := true, laidLooks := .later }
def WaterSpoiltCardSaid : Prop := Claim7.holds Tryz.pinned (.plain (OpenSpec.ofChange waterSpoiltSpec)) waterSpoiltCard

/-- THE SECOND FORM's CARD OF 'windsocklaw01.WaterBest'. -/
def waterBestUptoCard : Claim7 := { stood := { row := waterBestUptoRow, standIns := [], harness := (true, "1d872e3d5ad3538c95170d7274155d12e25ff72277eb4e34672755dd4fb834f9"), looks := true }, kinds := [], alts := [], laidByText := true, laidKinds := [.data, .data, .data], laidTests := true, laidLooks := .later }
def WaterBestUptoCardSaid : Prop := Claim7.holds Tryz.pinned (.plain (OpenSpec.upto waterBestSpec)) waterBestUptoCard

/-- THE SECOND FORM's CARD OF 'windsocklaw01.WaterMinutes'. -/
def waterMinutesUptoCard : Claim7 := { stood := { row := waterMinutesUptoRow, standIns := [], harness := (true, "1d872e3d5ad3538c95170d7274155d12e25ff72277eb4e34672755dd4fb834f9"), looks := true }, kinds := [], alts := [], laidByText := true, laidKinds := [.data, .data, .data], laidTests := true, laidLooks := .later }
def WaterMinutesUptoCardSaid : Prop := Claim7.holds Tryz.pinned (.plain (OpenSpec.upto waterMinutesSpec)) waterMinutesUptoCard

/-- THE SECOND FORM's CARD OF 'windsocklaw01.WaterTrue'. -/
def waterTrueUptoCard : Claim7 := { stood := { row := waterTrueUptoRow, standIns := [], harness := (true, "1d872e3d5ad3538c95170d7274155d12e25ff72277eb4e34672755dd4fb834f9"), looks := true }, kinds := [], alts := [], laidByText := true, laidKinds := [.data, .data, .data], laidTests := true, laidLooks := .later }
def WaterTrueUptoCardSaid : Prop := Claim7.holds Tryz.pinned (.plain (OpenSpec.upto waterTrueSpec)) waterTrueUptoCard

/-- THE SECOND FORM's CARD OF 'windsocklaw01.WaterMore'. -/
def waterMoreUptoCard : Claim7 := { stood := { row := waterMoreUptoRow, standIns := [], harness := (true, "1d872e3d5ad3538c95170d7274155d12e25ff72277eb4e34672755dd4fb834f9"), looks := true }, kinds := [], alts := [], laidByText := true, laidKinds := [.data, .data, .data], laidTests := true, laidLooks := .later }
def WaterMoreUptoCardSaid : Prop := Claim7.holds Tryz.pinned (.plain (OpenSpec.upto waterMoreSpec)) waterMoreUptoCard

/-- THE SECOND FORM's CARD OF 'windsocklaw01.WaterWindows'. -/
def waterWindowsUptoCard : Claim7 := { stood := { row := waterWindowsUptoRow, standIns := [], harness := (true, "1d872e3d5ad3538c95170d7274155d12e25ff72277eb4e34672755dd4fb834f9"), looks := true }, kinds := [], alts := [], laidByText := true, laidKinds := [.data, .data, .data], laidTests := true, laidLooks := .later }
def WaterWindowsUptoCardSaid : Prop := Claim7.holds Tryz.pinned (.plain (OpenSpec.upto waterWindowsSpec)) waterWindowsUptoCard

/-- THE SECOND FORM's CARD OF 'windsocklaw01.WaterSame'. -/
def waterSameUptoCard : Claim7 := { stood := { row := waterSameUptoRow, standIns := [], harness := (true, "1d872e3d5ad3538c95170d7274155d12e25ff72277eb4e34672755dd4fb834f9"), looks := true }, kinds := [], alts := [], laidByText := true, laidKinds := [.data, .data, .data], laidTests := true, laidLooks := .later }
def WaterSameUptoCardSaid : Prop := Claim7.holds Tryz.pinned (.plain (OpenSpec.upto waterSameSpec)) waterSameUptoCard

/-- THE SECOND FORM's CARD OF 'windsocklaw01.WaterMost'. -/
def waterMostUptoCard : Claim7 := { stood := { row := waterMostUptoRow, standIns := [], harness := (true, "1d872e3d5ad3538c95170d7274155d12e25ff72277eb4e34672755dd4fb834f9"), looks := true }, kinds := [], alts := [], laidByText := true, laidKinds := [.data, .data, .data], laidTests := true, laidLooks := .later }
def WaterMostUptoCardSaid : Prop := Claim7.holds Tryz.pinned (.plain (OpenSpec.upto waterMostSpec)) waterMostUptoCard

/-- THE SECOND FORM's CARD OF 'windsocklaw01.WaterFiles'. -/
def waterFilesUptoCard : Claim7 := { stood := { row := waterFilesUptoRow, standIns := [], harness := (true, "1d872e3d5ad3538c95170d7274155d12e25ff72277eb4e34672755dd4fb834f9"), looks := true }, kinds := [], alts := [], laidByText := true, laidKinds := [.data, .data, .data, .data, .sentinel, .sentinel, .pinned], laidTests := true, laidLooks := .later }
def WaterFilesUptoCardSaid : Prop := Claim7.holds Tryz.pinned (.plain (OpenSpec.upto waterFilesSpec)) waterFilesUptoCard

/-- THE SECOND FORM's CARD OF 'windsocklaw01.WaterReads'. -/
def waterReadsUptoCard : Claim7 := { stood := { row := waterReadsUptoRow, standIns := [], harness := (true, "1d872e3d5ad3538c95170d7274155d12e25ff72277eb4e34672755dd4fb834f9"), looks := true }, kinds := [], alts := [], laidByText := true, laidKinds := [.data, .data, .data, .data, .sentinel, .sentinel, .pinned], laidTests := true, laidLooks := .later }
def WaterReadsUptoCardSaid : Prop := Claim7.holds Tryz.pinned (.plain (OpenSpec.upto waterReadsSpec)) waterReadsUptoCard

/-- THE SECOND FORM's CARD OF 'windsocklaw01.WaterSpoilt'. -/
def waterSpoiltUptoCard : Claim7 := { stood := { row := waterSpoiltUptoRow, standIns := [], harness := (true, "1d872e3d5ad3538c95170d7274155d12e25ff72277eb4e34672755dd4fb834f9"), looks := true }, kinds := [], alts := [], laidByText := true, laidKinds := [.data, .data, .data, .data, .sentinel, .sentinel, .pinned], laidTests := true, laidLooks := .later }
def WaterSpoiltUptoCardSaid : Prop := Claim7.holds Tryz.pinned (.plain (OpenSpec.upto waterSpoiltSpec)) waterSpoiltUptoCard
end Rows
end Go.Proofs.YtjhoplbdpdbgaaaGreatDoor
