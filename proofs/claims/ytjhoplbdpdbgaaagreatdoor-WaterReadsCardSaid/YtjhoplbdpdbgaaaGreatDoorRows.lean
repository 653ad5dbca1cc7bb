/-
  NARROWER THAN 'FOR EVERY INPUT', by the rows' own cells (each row's printed sentence says how): WaterBest: laid · WaterMinutes: laid · WaterTrue: laid · WaterMore: laid · WaterWindows: laid · WaterSame: laid · WaterMost: laid · WaterFiles: laid · WaterReads: laid · WaterSpoilt: laid.
  DERIVED. THE GIVEN ROWS OF THIS SEAT. 10 by the template 'for every input the law returns true; each argument reads behind the call as it read before'; 0 by the template 'total and deterministic' (their statements: YtjhoplbdpdbgaaaGreatDoorTotals.lean).
  GIVEN WITH THE SEED: the statements are not yours to turn. If you find one false, say at which input.
  Laid BY PROGRAM, IN A SANDBOX (cutbox-rows.mjs): the forced cells as the released guide's own fill.sh prints them over the translation 8a79fdf53ebdd6d9… (all of the seat's roots in one cut). By AI agents, Wed Nov 11 2026. No macro, syntax, notation, axiom, sorry.
-/
import Derived.Test.YtjhoplbdpdbgaaaGreatDoorChecked
import GoSem.PinnedTables
import GoSem.Claim
import GoSem.ClaimJoined
import GoSem.ClaimMapViews
import Derived.JoinedTies
import Derived.KernelRfl
namespace Go.Proofs.YtjhoplbdpdbgaaaGreatDoor
/- THE CELL 'sum', in the pinned program and in every row, IS THE sha256 OF THE DUMP (.gsa) THAT YtjhoplbdpdbgaaaGreatDoorProg.lean LOADS. Nothing in Lean hashes anything: it is a label: what it is worth is what the hold of that sum in a sandbox is worth. -/
noncomputable def Tryz.pinned : Pinned := { name := "ytjhoplbdpdbgaaagreatdoor", sum := "8a79fdf53ebdd6d98f5b1c46c9945644507a0f81f547a6f875c8b49b19b0c115", checked := Tryz.checked }
namespace Rows
def none {H : Type} : Left H := { results := [], args := [] }

/- WHAT THE LISTED PACKAGE-LEVEL VARIABLES READ AS WHEN THE CALL BEGINS. Each datum BY PROGRAM (the guide's laid-datum.mjs) off the statement by which the dump's own 'gosem.cut.vars' lays the variable. In a bare row this is a premise. The card (YtjhoplbdpdbgaaaGreatDoorCards.lean) ties it to the program's text. -/
def laid_math_bits_deBruijn32tab {H : Type} : DataW H := .agg [.lit (.int .u8 0), .lit (.int .u8 1), .lit (.int .u8 28), .lit (.int .u8 2), .lit (.int .u8 29), .lit (.int .u8 14), .lit (.int .u8 24), .lit (.int .u8 3), .lit (.int .u8 30), .lit (.int .u8 22), .lit (.int .u8 20), .lit (.int .u8 15), .lit (.int .u8 25), .lit (.int .u8 17), .lit (.int .u8 4), .lit (.int .u8 8), .lit (.int .u8 31), .lit (.int .u8 27), .lit (.int .u8 13), .lit (.int .u8 23), .lit (.int .u8 21), .lit (.int .u8 19), .lit (.int .u8 16), .lit (.int .u8 7), .lit (.int .u8 26), .lit (.int .u8 12), .lit (.int .u8 18), .lit (.int .u8 6), .lit (.int .u8 11), .lit (.int .u8 5), .lit (.int .u8 10), .lit (.int .u8 9)]
def laid_math_bits_deBruijn64tab {H : Type} : DataW H := .agg [.lit (.int .u8 0), .lit (.int .u8 1), .lit (.int .u8 56), .lit (.int .u8 2), .lit (.int .u8 57), .lit (.int .u8 49), .lit (.int .u8 28), .lit (.int .u8 3), .lit (.int .u8 61), .lit (.int .u8 58), .lit (.int .u8 42), .lit (.int .u8 50), .lit (.int .u8 38), .lit (.int .u8 29), .lit (.int .u8 17), .lit (.int .u8 4), .lit (.int .u8 62), .lit (.int .u8 47), .lit (.int .u8 59), .lit (.int .u8 36), .lit (.int .u8 45), .lit (.int .u8 43), .lit (.int .u8 51), .lit (.int .u8 22), .lit (.int .u8 53), .lit (.int .u8 39), .lit (.int .u8 33), .lit (.int .u8 30), .lit (.int .u8 24), .lit (.int .u8 18), .lit (.int .u8 12), .lit (.int .u8 5), .lit (.int .u8 63), .lit (.int .u8 55), .lit (.int .u8 48), .lit (.int .u8 27), .lit (.int .u8 60), .lit (.int .u8 41), .lit (.int .u8 37), .lit (.int .u8 16), .lit (.int .u8 46), .lit (.int .u8 35), .lit (.int .u8 44), .lit (.int .u8 21), .lit (.int .u8 52), .lit (.int .u8 32), .lit (.int .u8 23), .lit (.int .u8 11), .lit (.int .u8 54), .lit (.int .u8 26), .lit (.int .u8 40), .lit (.int .u8 15), .lit (.int .u8 34), .lit (.int .u8 20), .lit (.int .u8 31), .lit (.int .u8 10), .lit (.int .u8 25), .lit (.int .u8 14), .lit (.int .u8 19), .lit (.int .u8 9), .lit (.int .u8 13), .lit (.int .u8 8), .lit (.int .u8 7), .lit (.int .u8 6)]
def laid_internal_strconv_uint64pow10 {H : Type} : DataW H := .agg [.lit (.int .u64 1), .lit (.int .u64 10), .lit (.int .u64 100), .lit (.int .u64 1000), .lit (.int .u64 10000), .lit (.int .u64 100000), .lit (.int .u64 1000000), .lit (.int .u64 10000000), .lit (.int .u64 100000000), .lit (.int .u64 1000000000), .lit (.int .u64 10000000000), .lit (.int .u64 100000000000), .lit (.int .u64 1000000000000), .lit (.int .u64 10000000000000), .lit (.int .u64 100000000000000), .lit (.int .u64 1000000000000000), .lit (.int .u64 10000000000000000), .lit (.int .u64 100000000000000000), .lit (.int .u64 1000000000000000000), .lit (.int .u64 10000000000000000000)]
def laid_unicode_utf8_acceptRanges {H : Type} : DataW H := .agg [.agg [.lit (.int .u8 128), .lit (.int .u8 191)], .agg [.lit (.int .u8 160), .lit (.int .u8 191)], .agg [.lit (.int .u8 128), .lit (.int .u8 159)], .agg [.lit (.int .u8 144), .lit (.int .u8 191)], .agg [.lit (.int .u8 128), .lit (.int .u8 143)], .agg [.lit (.int .u8 0), .lit (.int .u8 0)], .agg [.lit (.int .u8 0), .lit (.int .u8 0)], .agg [.lit (.int .u8 0), .lit (.int .u8 0)], .agg [.lit (.int .u8 0), .lit (.int .u8 0)], .agg [.lit (.int .u8 0), .lit (.int .u8 0)], .agg [.lit (.int .u8 0), .lit (.int .u8 0)], .agg [.lit (.int .u8 0), .lit (.int .u8 0)], .agg [.lit (.int .u8 0), .lit (.int .u8 0)], .agg [.lit (.int .u8 0), .lit (.int .u8 0)], .agg [.lit (.int .u8 0), .lit (.int .u8 0)], .agg [.lit (.int .u8 0), .lit (.int .u8 0)]]
def laid_strconv_ErrRange {H : Type} : DataW H := .iface "*errors.errorString" (.ptr (.agg [.lit (.string [118, 97, 108, 117, 101, 32, 111, 117, 116, 32, 111, 102, 32, 114, 97, 110, 103, 101])]))
def laid_strconv_ErrSyntax {H : Type} : DataW H := .iface "*errors.errorString" (.ptr (.agg [.lit (.string [105, 110, 118, 97, 108, 105, 100, 32, 115, 121, 110, 116, 97, 120])]))
/-- One of Go's own tables, pinned by name: the form's constant. -/
def laid_unicode_utf8_first : DataW Unit := Go.Pinned.utf8First

/-- 'windsocklaw01.WaterBest': WHATEVER THE INPUT: true; the input reads as it did. -/
def waterBestSpec : ChangeSpec := { name := "waterBest", fn := fun _ => fun
  | [d1, d2, d3] => { results := [.lit (.bool true)], args := [d1, d2, d3] }
  | _ => none }
def waterBestRow : OpenClaim := { program := "ytjhoplbdpdbgaaagreatdoor", sum := "8a79fdf53ebdd6d98f5b1c46c9945644507a0f81f547a6f875c8b49b19b0c115", func := "windsock/windsocklaw01.WaterBest", spec := "waterBest", unfollowed := true, recurses := true, named := ["internal/strconv.uint64pow10", "math/bits.deBruijn32tab", "math/bits.deBruijn64tab"], apart := false, laid := [("math/bits.deBruijn32tab", laid_math_bits_deBruijn32tab), ("math/bits.deBruijn64tab", laid_math_bits_deBruijn64tab), ("internal/strconv.uint64pow10", laid_internal_strconv_uint64pow10)] }
def WaterBestSaid : Prop := waterBestRow.holds Tryz.pinned (OpenSpec.ofChange waterBestSpec)

/-- ITS FALSE NEIGHBOUR: 'it returns false'. Refute it at one input. -/
def waterBestWrong : ChangeSpec := { name := "waterBest", fn := fun _ => fun
  | [d1, d2, d3] => { results := [.lit (.bool false)], args := [d1, d2, d3] }
  | _ => none }
def WaterBestWrongFalsely : Prop := waterBestRow.holds Tryz.pinned (OpenSpec.ofChange waterBestWrong)

/-- 'windsocklaw01.WaterMinutes': WHATEVER THE INPUT: true; the input reads as it did. -/
def waterMinutesSpec : ChangeSpec := { name := "waterMinutes", fn := fun _ => fun
  | [d1, d2, d3, d4, d5] => { results := [.lit (.bool true)], args := [d1, d2, d3, d4, d5] }
  | _ => none }
def waterMinutesRow : OpenClaim := { program := "ytjhoplbdpdbgaaagreatdoor", sum := "8a79fdf53ebdd6d98f5b1c46c9945644507a0f81f547a6f875c8b49b19b0c115", func := "windsock/windsocklaw01.WaterMinutes", spec := "waterMinutes", unfollowed := true, recurses := true, named := ["internal/strconv.uint64pow10", "math/bits.deBruijn32tab", "math/bits.deBruijn64tab"], apart := false, laid := [("math/bits.deBruijn32tab", laid_math_bits_deBruijn32tab), ("math/bits.deBruijn64tab", laid_math_bits_deBruijn64tab), ("internal/strconv.uint64pow10", laid_internal_strconv_uint64pow10)] }
def WaterMinutesSaid : Prop := waterMinutesRow.holds Tryz.pinned (OpenSpec.ofChange waterMinutesSpec)

/-- ITS FALSE NEIGHBOUR: 'it returns false'. Refute it at one input. -/
def waterMinutesWrong : ChangeSpec := { name := "waterMinutes", fn := fun _ => fun
  | [d1, d2, d3, d4, d5] => { results := [.lit (.bool false)], args := [d1, d2, d3, d4, d5] }
  | _ => none }
def WaterMinutesWrongFalsely : Prop := waterMinutesRow.holds Tryz.pinned (OpenSpec.ofChange waterMinutesWrong)

/-- 'windsocklaw01.WaterTrue': WHATEVER THE INPUT: true; the input reads as it did. -/
def waterTrueSpec : ChangeSpec := { name := "waterTrue", fn := fun _ => fun
  | [d1, d2, d3, d4] => { results := [.lit (.bool true)], args := [d1, d2, d3, d4] }
  | _ => none }
def waterTrueRow : OpenClaim := { program := "ytjhoplbdpdbgaaagreatdoor", sum := "8a79fdf53ebdd6d98f5b1c46c9945644507a0f81f547a6f875c8b49b19b0c115", func := "windsock/windsocklaw01.WaterTrue", spec := "waterTrue", unfollowed := true, recurses := true, named := ["internal/strconv.uint64pow10", "math/bits.deBruijn32tab", "math/bits.deBruijn64tab"], apart := false, laid := [("math/bits.deBruijn32tab", laid_math_bits_deBruijn32tab), ("math/bits.deBruijn64tab", laid_math_bits_deBruijn64tab), ("internal/strconv.uint64pow10", laid_internal_strconv_uint64pow10)] }
def WaterTrueSaid : Prop := waterTrueRow.holds Tryz.pinned (OpenSpec.ofChange waterTrueSpec)

/-- ITS FALSE NEIGHBOUR: 'it returns false'. Refute it at one input. -/
def waterTrueWrong : ChangeSpec := { name := "waterTrue", fn := fun _ => fun
  | [d1, d2, d3, d4] => { results := [.lit (.bool false)], args := [d1, d2, d3, d4] }
  | _ => none }
def WaterTrueWrongFalsely : Prop := waterTrueRow.holds Tryz.pinned (OpenSpec.ofChange waterTrueWrong)

/-- 'windsocklaw01.WaterMore': WHATEVER THE INPUT: true; the input reads as it did. -/
def waterMoreSpec : ChangeSpec := { name := "waterMore", fn := fun _ => fun
  | [d1, d2, d3, d4, d5, d6] => { results := [.lit (.bool true)], args := [d1, d2, d3, d4, d5, d6] }
  | _ => none }
def waterMoreRow : OpenClaim := { program := "ytjhoplbdpdbgaaagreatdoor", sum := "8a79fdf53ebdd6d98f5b1c46c9945644507a0f81f547a6f875c8b49b19b0c115", func := "windsock/windsocklaw01.WaterMore", spec := "waterMore", unfollowed := true, recurses := true, named := ["internal/strconv.uint64pow10", "math/bits.deBruijn32tab", "math/bits.deBruijn64tab"], apart := false, laid := [("math/bits.deBruijn32tab", laid_math_bits_deBruijn32tab), ("math/bits.deBruijn64tab", laid_math_bits_deBruijn64tab), ("internal/strconv.uint64pow10", laid_internal_strconv_uint64pow10)] }
def WaterMoreSaid : Prop := waterMoreRow.holds Tryz.pinned (OpenSpec.ofChange waterMoreSpec)

/-- ITS FALSE NEIGHBOUR: 'it returns false'. Refute it at one input. -/
def waterMoreWrong : ChangeSpec := { name := "waterMore", fn := fun _ => fun
  | [d1, d2, d3, d4, d5, d6] => { results := [.lit (.bool false)], args := [d1, d2, d3, d4, d5, d6] }
  | _ => none }
def WaterMoreWrongFalsely : Prop := waterMoreRow.holds Tryz.pinned (OpenSpec.ofChange waterMoreWrong)

/-- 'windsocklaw01.WaterWindows': WHATEVER THE INPUT: true; the input reads as it did. -/
def waterWindowsSpec : ChangeSpec := { name := "waterWindows", fn := fun _ => fun
  | [d1, d2, d3] => { results := [.lit (.bool true)], args := [d1, d2, d3] }
  | _ => none }
def waterWindowsRow : OpenClaim := { program := "ytjhoplbdpdbgaaagreatdoor", sum := "8a79fdf53ebdd6d98f5b1c46c9945644507a0f81f547a6f875c8b49b19b0c115", func := "windsock/windsocklaw01.WaterWindows", spec := "waterWindows", unfollowed := true, recurses := true, named := ["internal/strconv.uint64pow10", "math/bits.deBruijn32tab", "math/bits.deBruijn64tab"], apart := false, laid := [("math/bits.deBruijn32tab", laid_math_bits_deBruijn32tab), ("math/bits.deBruijn64tab", laid_math_bits_deBruijn64tab), ("internal/strconv.uint64pow10", laid_internal_strconv_uint64pow10)] }
def WaterWindowsSaid : Prop := waterWindowsRow.holds Tryz.pinned (OpenSpec.ofChange waterWindowsSpec)

/-- ITS FALSE NEIGHBOUR: 'it returns false'. Refute it at one input. -/
def waterWindowsWrong : ChangeSpec := { name := "waterWindows", fn := fun _ => fun
  | [d1, d2, d3] => { results := [.lit (.bool false)], args := [d1, d2, d3] }
  | _ => none }
def WaterWindowsWrongFalsely : Prop := waterWindowsRow.holds Tryz.pinned (OpenSpec.ofChange waterWindowsWrong)

/-- 'windsocklaw01.WaterSame': WHATEVER THE INPUT: true; the input reads as it did. -/
def waterSameSpec : ChangeSpec := { name := "waterSame", fn := fun _ => fun
  | [d1, d2, d3, d4] => { results := [.lit (.bool true)], args := [d1, d2, d3, d4] }
  | _ => none }
def waterSameRow : OpenClaim := { program := "ytjhoplbdpdbgaaagreatdoor", sum := "8a79fdf53ebdd6d98f5b1c46c9945644507a0f81f547a6f875c8b49b19b0c115", func := "windsock/windsocklaw01.WaterSame", spec := "waterSame", unfollowed := true, recurses := true, named := ["internal/strconv.uint64pow10", "math/bits.deBruijn32tab", "math/bits.deBruijn64tab"], apart := false, laid := [("math/bits.deBruijn32tab", laid_math_bits_deBruijn32tab), ("math/bits.deBruijn64tab", laid_math_bits_deBruijn64tab), ("internal/strconv.uint64pow10", laid_internal_strconv_uint64pow10)] }
def WaterSameSaid : Prop := waterSameRow.holds Tryz.pinned (OpenSpec.ofChange waterSameSpec)

/-- ITS FALSE NEIGHBOUR: 'it returns false'. Refute it at one input. -/
def waterSameWrong : ChangeSpec := { name := "waterSame", fn := fun _ => fun
  | [d1, d2, d3, d4] => { results := [.lit (.bool false)], args := [d1, d2, d3, d4] }
  | _ => none }
def WaterSameWrongFalsely : Prop := waterSameRow.holds Tryz.pinned (OpenSpec.ofChange waterSameWrong)

/-- 'windsocklaw01.WaterMost': WHATEVER THE INPUT: true; the input reads as it did. -/
def waterMostSpec : ChangeSpec := { name := "waterMost", fn := fun _ => fun
  | [d1, d2, d3, d4] => { results := [.lit (.bool true)], args := [d1, d2, d3, d4] }
  | _ => none }
def waterMostRow : OpenClaim := { program := "ytjhoplbdpdbgaaagreatdoor", sum := "8a79fdf53ebdd6d98f5b1c46c9945644507a0f81f547a6f875c8b49b19b0c115", func := "windsock/windsocklaw01.WaterMost", spec := "waterMost", unfollowed := true, recurses := true, named := ["internal/strconv.uint64pow10", "math/bits.deBruijn32tab", "math/bits.deBruijn64tab"], apart := false, laid := [("math/bits.deBruijn32tab", laid_math_bits_deBruijn32tab), ("math/bits.deBruijn64tab", laid_math_bits_deBruijn64tab), ("internal/strconv.uint64pow10", laid_internal_strconv_uint64pow10)] }
def WaterMostSaid : Prop := waterMostRow.holds Tryz.pinned (OpenSpec.ofChange waterMostSpec)

/-- ITS FALSE NEIGHBOUR: 'it returns false'. Refute it at one input. -/
def waterMostWrong : ChangeSpec := { name := "waterMost", fn := fun _ => fun
  | [d1, d2, d3, d4] => { results := [.lit (.bool false)], args := [d1, d2, d3, d4] }
  | _ => none }
def WaterMostWrongFalsely : Prop := waterMostRow.holds Tryz.pinned (OpenSpec.ofChange waterMostWrong)

/-- 'windsocklaw01.WaterFiles': WHATEVER THE INPUT: true; the input reads as it did. -/
def waterFilesSpec : ChangeSpec := { name := "waterFiles", fn := fun _ => fun
  | [d] => { results := [.lit (.bool true)], args := [d] }
  | _ => none }
def waterFilesRow : OpenClaim := { program := "ytjhoplbdpdbgaaagreatdoor", sum := "8a79fdf53ebdd6d98f5b1c46c9945644507a0f81f547a6f875c8b49b19b0c115", func := "windsock/windsocklaw01.WaterFiles", spec := "waterFiles", inPlace := ["internal/bytealg.CountString", "internal/bytealg.IndexByteString", "internal/bytealg.IndexString"], unfollowed := true, recurses := true, named := ["internal/strconv.uint64pow10", "math/bits.deBruijn32tab", "math/bits.deBruijn64tab", "unicode/utf8.first", "unicode/utf8.acceptRanges", "internal/bytealg.MaxLen", "strconv.ErrSyntax", "strconv.ErrRange"], apart := false, laid := [("math/bits.deBruijn32tab", laid_math_bits_deBruijn32tab), ("math/bits.deBruijn64tab", laid_math_bits_deBruijn64tab), ("internal/strconv.uint64pow10", laid_internal_strconv_uint64pow10), ("unicode/utf8.acceptRanges", laid_unicode_utf8_acceptRanges), ("strconv.ErrRange", laid_strconv_ErrRange), ("strconv.ErrSyntax", laid_strconv_ErrSyntax), ("unicode/utf8.first", laid_unicode_utf8_first)] }
def WaterFilesSaid : Prop := waterFilesRow.holds Tryz.pinned (OpenSpec.ofChange waterFilesSpec)

/-- ITS FALSE NEIGHBOUR: 'it returns false'. Refute it at one input. -/
def waterFilesWrong : ChangeSpec := { name := "waterFiles", fn := fun _ => fun
  | [d] => { results := [.lit (.bool false)], args := [d] }
  | _ => none }
def WaterFilesWrongFalsely : Prop := waterFilesRow.holds Tryz.pinned (OpenSpec.ofChange waterFilesWrong)

/-- 'windsocklaw01.WaterReads': WHATEVER THE INPUT: true; the input reads as it did. -/
def waterReadsSpec : ChangeSpec := { name := "waterReads", fn := fun _ => fun
  | [d] => { results := [.lit (.bool true)], args := [d] }
  | _ => none }
def waterReadsRow : OpenClaim := { program := "ytjhoplbdpdbgaaagreatdoor", sum := "8a79fdf53ebdd6d98f5b1c46c9945644507a0f81f547a6f875c8b49b19b0c115", func := "windsock/windsocklaw01.WaterReads", spec := "waterReads", inPlace := ["internal/bytealg.CountString", "internal/bytealg.IndexByteString", "internal/bytealg.IndexString"], unfollowed := true, recurses := true, named := ["internal/strconv.uint64pow10", "math/bits.deBruijn32tab", "math/bits.deBruijn64tab", "unicode/utf8.first", "unicode/utf8.acceptRanges", "internal/bytealg.MaxLen", "strconv.ErrSyntax", "strconv.ErrRange"], apart := false, laid := [("math/bits.deBruijn32tab", laid_math_bits_deBruijn32tab), ("math/bits.deBruijn64tab", laid_math_bits_deBruijn64tab), ("internal/strconv.uint64pow10", laid_internal_strconv_uint64pow10), ("unicode/utf8.acceptRanges", laid_unicode_utf8_acceptRanges), ("strconv.ErrRange", laid_strconv_ErrRange), ("strconv.ErrSyntax", laid_strconv_ErrSyntax), ("unicode/utf8.first", laid_unicode_utf8_first)] }
def WaterReadsSaid : Prop := waterReadsRow.holds Tryz.pinned (OpenSpec.ofChange waterReadsSpec)

/-- ITS FALSE NEIGHBOUR: 'it returns false'. Refute it at one input. -/
def waterReadsWrong : ChangeSpec := { name := "waterReads", fn := fun _ => fun
  | [d] => { results := [.lit (.bool false)], args := [d] }
  | _ => none }
def WaterReadsWrongFalsely : Prop := waterReadsRow.holds Tryz.pinned (OpenSpec.ofChange waterReadsWrong)

/-- 'windsocklaw01.WaterSpoilt': WHATEVER THE INPUT: true; the input reads as it did. -/
def waterSpoiltSpec : ChangeSpec := { name := "waterSpoilt", fn := fun _ => fun
  | [d1, d2, d3] => { results := [.lit (.bool true)], args := [d1, d2, d3] }
  | _ => none }
def waterSpoiltRow : OpenClaim := { program := "ytjhoplbdpdbgaaagreatdoor", sum := "8a79fdf53ebdd6d98f5b1c46c9945644507a0f81f547a6f875c8b49b19b0c115", func := "windsock/windsocklaw01.WaterSpoilt", spec := "waterSpoilt", inPlace := ["internal/bytealg.CountString", "internal/bytealg.IndexByteString", "internal/bytealg.IndexString"], unfollowed := true, recurses := true, named := ["internal/strconv.uint64pow10", "math/bits.deBruijn32tab", "math/bits.deBruijn64tab", "unicode/utf8.first", "unicode/utf8.acceptRanges", "internal/bytealg.MaxLen", "strconv.ErrSyntax", "strconv.ErrRange"], apart := false, laid := [("math/bits.deBruijn32tab", laid_math_bits_deBruijn32tab), ("math/bits.deBruijn64tab", laid_math_bits_deBruijn64tab), ("internal/strconv.uint64pow10", laid_internal_strconv_uint64pow10), ("unicode/utf8.acceptRanges", laid_unicode_utf8_acceptRanges), ("strconv.ErrRange", laid_strconv_ErrRange), ("strconv.ErrSyntax", laid_strconv_ErrSyntax), ("unicode/utf8.first", laid_unicode_utf8_first)] }
def WaterSpoiltSaid : Prop := waterSpoiltRow.holds Tryz.pinned (OpenSpec.ofChange waterSpoiltSpec)

/-- ITS FALSE NEIGHBOUR: 'it returns false'. Refute it at one input. -/
def waterSpoiltWrong : ChangeSpec := { name := "waterSpoilt", fn := fun _ => fun
  | [d1, d2, d3] => { results := [.lit (.bool false)], args := [d1, d2, d3] }
  | _ => none }
def WaterSpoiltWrongFalsely : Prop := waterSpoiltRow.holds Tryz.pinned (OpenSpec.ofChange waterSpoiltWrong)

/- THE SECOND FORM. 'bulk': how many values and letters a reading holds, each counted each time it is reached (what is shared counts as often as it is met; a slice's spare places count too). A statement '..UptoSaid' is the law's where the arguments, and the package variables that the reading takes, are together of bulk at most 1048576: NARROWER than '..Said'. Prove '..Said' where nothing that the law and all that it calls make is longer than what came in: it says more and counts as full. Else prove '..UptoSaid'. A law counts once. -/
mutual
def uptoBulk {H : Type} : DataW H → Nat
  | .lit (.string bytes) => bytes.length + 1
  | .lit _ => 1
  | .nil => 1
  | .ptr d => uptoBulk d + 1
  | .slice elems spare => uptoBulkAll elems + uptoBulkAll spare + 1
  | .agg parts => uptoBulkAll parts + 1
  | .iface _ d => uptoBulk d + 1
  | .map entries => uptoBulkEntries entries + 1
  | .held _ => 1
def uptoBulkAll {H : Type} : List (DataW H) → Nat
  | [] => 0
  | d :: r => uptoBulk d + uptoBulkAll r
def uptoBulkEntries {H : Type} : List (Lit × DataW H) → Nat
  | [] => 0
  | x :: r => uptoBulkEntry x + uptoBulkEntries r
def uptoBulkEntry {H : Type} : Lit × DataW H → Nat
  | (.string bytes, d) => bytes.length + uptoBulk d + 1
  | (_, d) => uptoBulk d + 1
 end
def uptoSmall : (H : Type) → List (DataW H) → Bool := fun _ ds => decide (uptoBulkAll ds ≤ 1048576)
def OpenSpec.upto (s : _root_.Go.ChangeSpec) : _root_.Go.OpenSpec := { _root_.Go.OpenSpec.ofChange s with cond := some uptoSmall }

/-- 'windsocklaw01.WaterBest', WHERE WHAT IT READS IS OF BULK AT MOST 1048576: true; the input reads as it did. -/
def waterBestUptoRow : OpenClaim := { program := "ytjhoplbdpdbgaaagreatdoor", sum := "8a79fdf53ebdd6d98f5b1c46c9945644507a0f81f547a6f875c8b49b19b0c115", func := "windsock/windsocklaw01.WaterBest", spec := "waterBest", unfollowed := true, recurses := true, named := ["internal/strconv.uint64pow10", "math/bits.deBruijn32tab", "math/bits.deBruijn64tab"], apart := false, laid := [("math/bits.deBruijn32tab", laid_math_bits_deBruijn32tab), ("math/bits.deBruijn64tab", laid_math_bits_deBruijn64tab), ("internal/strconv.uint64pow10", laid_internal_strconv_uint64pow10)], narrowed := true }
def WaterBestUptoSaid : Prop := waterBestUptoRow.holds Tryz.pinned (OpenSpec.upto waterBestSpec)

/-- 'windsocklaw01.WaterMinutes', WHERE WHAT IT READS IS OF BULK AT MOST 1048576: true; the input reads as it did. -/
def waterMinutesUptoRow : OpenClaim := { program := "ytjhoplbdpdbgaaagreatdoor", sum := "8a79fdf53ebdd6d98f5b1c46c9945644507a0f81f547a6f875c8b49b19b0c115", func := "windsock/windsocklaw01.WaterMinutes", spec := "waterMinutes", unfollowed := true, recurses := true, named := ["internal/strconv.uint64pow10", "math/bits.deBruijn32tab", "math/bits.deBruijn64tab"], apart := false, laid := [("math/bits.deBruijn32tab", laid_math_bits_deBruijn32tab), ("math/bits.deBruijn64tab", laid_math_bits_deBruijn64tab), ("internal/strconv.uint64pow10", laid_internal_strconv_uint64pow10)], narrowed := true }
def WaterMinutesUptoSaid : Prop := waterMinutesUptoRow.holds Tryz.pinned (OpenSpec.upto waterMinutesSpec)

/-- 'windsocklaw01.WaterTrue', WHERE WHAT IT READS IS OF BULK AT MOST 1048576: true; the input reads as it did. -/
def waterTrueUptoRow : OpenClaim := { program := "ytjhoplbdpdbgaaagreatdoor", sum := "8a79fdf53ebdd6d98f5b1c46c9945644507a0f81f547a6f875c8b49b19b0c115", func := "windsock/windsocklaw01.WaterTrue", spec := "waterTrue", unfollowed := true, recurses := true, named := ["internal/strconv.uint64pow10", "math/bits.deBruijn32tab", "math/bits.deBruijn64tab"], apart := false, laid := [("math/bits.deBruijn32tab", laid_math_bits_deBruijn32tab), ("math/bits.deBruijn64tab", laid_math_bits_deBruijn64tab), ("internal/strconv.uint64pow10", laid_internal_strconv_uint64pow10)], narrowed := true }
def WaterTrueUptoSaid : Prop := waterTrueUptoRow.holds Tryz.pinned (OpenSpec.upto waterTrueSpec)

/-- 'windsocklaw01.WaterMore', WHERE WHAT IT READS IS OF BULK AT MOST 1048576: true; the input reads as it did. -/
def waterMoreUptoRow : OpenClaim := { program := "ytjhoplbdpdbgaaagreatdoor", sum := "8a79fdf53ebdd6d98f5b1c46c9945644507a0f81f547a6f875c8b49b19b0c115", func := "windsock/windsocklaw01.WaterMore", spec := "waterMore", unfollowed := true, recurses := true, named := ["internal/strconv.uint64pow10", "math/bits.deBruijn32tab", "math/bits.deBruijn64tab"], apart := false, laid := [("math/bits.deBruijn32tab", laid_math_bits_deBruijn32tab), ("math/bits.deBruijn64tab", laid_math_bits_deBruijn64tab), ("internal/strconv.uint64pow10", laid_internal_strconv_uint64pow10)], narrowed := true }
def WaterMoreUptoSaid : Prop := waterMoreUptoRow.holds Tryz.pinned (OpenSpec.upto waterMoreSpec)

/-- 'windsocklaw01.WaterWindows', WHERE WHAT IT READS IS OF BULK AT MOST 1048576: true; the input reads as it did. -/
def waterWindowsUptoRow : OpenClaim := { program := "ytjhoplbdpdbgaaagreatdoor", sum := "8a79fdf53ebdd6d98f5b1c46c9945644507a0f81f547a6f875c8b49b19b0c115", func := "windsock/windsocklaw01.WaterWindows", spec := "waterWindows", unfollowed := true, recurses := true, named := ["internal/strconv.uint64pow10", "math/bits.deBruijn32tab", "math/bits.deBruijn64tab"], apart := false, laid := [("math/bits.deBruijn32tab", laid_math_bits_deBruijn32tab), ("math/bits.deBruijn64tab", laid_math_bits_deBruijn64tab), ("internal/strconv.uint64pow10", laid_internal_strconv_uint64pow10)], narrowed := true }
def WaterWindowsUptoSaid : Prop := waterWindowsUptoRow.holds Tryz.pinned (OpenSpec.upto waterWindowsSpec)

/-- 'windsocklaw01.WaterSame', WHERE WHAT IT READS IS OF BULK AT MOST 1048576: true; the input reads as it did. -/
def waterSameUptoRow : OpenClaim := { program := "ytjhoplbdpdbgaaagreatdoor", sum := "8a79fdf53ebdd6d98f5b1c46c9945644507a0f81f547a6f875c8b49b19b0c115", func := "windsock/windsocklaw01.WaterSame", spec := "waterSame", unfollowed := true, recurses := true, named := ["internal/strconv.uint64pow10", "math/bits.deBruijn32tab", "math/bits.deBruijn64tab"], apart := false, laid := [("math/bits.deBruijn32tab", laid_math_bits_deBruijn32tab), ("math/bits.deBruijn64tab", laid_math_bits_deBruijn64tab), ("internal/strconv.uint64pow10", laid_internal_strconv_uint64pow10)], narrowed := true }
def WaterSameUptoSaid : Prop := waterSameUptoRow.holds Tryz.pinned (OpenSpec.upto waterSameSpec)

/-- 'windsocklaw01.WaterMost', WHERE WHAT IT READS IS OF BULK AT MOST 1048576: true; the input reads as it did. -/
def waterMostUptoRow : OpenClaim := { program := "ytjhoplbdpdbgaaagreatdoor", sum := "8a79fdf53ebdd6d98f5b1c46c9945644507a0f81f547a6f875c8b49b19b0c115", func := "windsock/windsocklaw01.WaterMost", spec := "waterMost", unfollowed := true, recurses := true, named := ["internal/strconv.uint64pow10", "math/bits.deBruijn32tab", "math/bits.deBruijn64tab"], apart := false, laid := [("math/bits.deBruijn32tab", laid_math_bits_deBruijn32tab), ("math/bits.deBruijn64tab", laid_math_bits_deBruijn64tab), ("internal/strconv.uint64pow10", laid_internal_strconv_uint64pow10)], narrowed := true }
def WaterMostUptoSaid : Prop := waterMostUptoRow.holds Tryz.pinned (OpenSpec.upto waterMostSpec)

/-- 'windsocklaw01.WaterFiles', WHERE WHAT IT READS IS OF BULK AT MOST 1048576: true; the input reads as it did. -/
def waterFilesUptoRow : OpenClaim := { program := "ytjhoplbdpdbgaaagreatdoor", sum := "8a79fdf53ebdd6d98f5b1c46c9945644507a0f81f547a6f875c8b49b19b0c115", func := "windsock/windsocklaw01.WaterFiles", spec := "waterFiles", inPlace := ["internal/bytealg.CountString", "internal/bytealg.IndexByteString", "internal/bytealg.IndexString"], unfollowed := true, recurses := true, named := ["internal/strconv.uint64pow10", "math/bits.deBruijn32tab", "math/bits.deBruijn64tab", "unicode/utf8.first", "unicode/utf8.acceptRanges", "internal/bytealg.MaxLen", "strconv.ErrSyntax", "strconv.ErrRange"], apart := false, laid := [("math/bits.deBruijn32tab", laid_math_bits_deBruijn32tab), ("math/bits.deBruijn64tab", laid_math_bits_deBruijn64tab), ("internal/strconv.uint64pow10", laid_internal_strconv_uint64pow10), ("unicode/utf8.acceptRanges", laid_unicode_utf8_acceptRanges), ("strconv.ErrRange", laid_strconv_ErrRange), ("strconv.ErrSyntax", laid_strconv_ErrSyntax), ("unicode/utf8.first", laid_unicode_utf8_first)], narrowed := true }
def WaterFilesUptoSaid : Prop := waterFilesUptoRow.holds Tryz.pinned (OpenSpec.upto waterFilesSpec)

/-- 'windsocklaw01.WaterReads', WHERE WHAT IT READS IS OF BULK AT MOST 1048576: true; the input reads as it did. -/
def waterReadsUptoRow : OpenClaim := { program := "ytjhoplbdpdbgaaagreatdoor", sum := "8a79fdf53ebdd6d98f5b1c46c9945644507a0f81f547a6f875c8b49b19b0c115", func := "windsock/windsocklaw01.WaterReads", spec := "waterReads", inPlace := ["internal/bytealg.CountString", "internal/bytealg.IndexByteString", "internal/bytealg.IndexString"], unfollowed := true, recurses := true, named := ["internal/strconv.uint64pow10", "math/bits.deBruijn32tab", "math/bits.deBruijn64tab", "unicode/utf8.first", "unicode/utf8.acceptRanges", "internal/bytealg.MaxLen", "strconv.ErrSyntax", "strconv.ErrRange"], apart := false, laid := [("math/bits.deBruijn32tab", laid_math_bits_deBruijn32tab), ("math/bits.deBruijn64tab", laid_math_bits_deBruijn64tab), ("internal/strconv.uint64pow10", laid_internal_strconv_uint64pow10), ("unicode/utf8.acceptRanges", laid_unicode_utf8_acceptRanges), ("strconv.ErrRange", laid_strconv_ErrRange), ("strconv.ErrSyntax", laid_strconv_ErrSyntax), ("unicode/utf8.first", laid_unicode_utf8_first)], narrowed := true }
def WaterReadsUptoSaid : Prop := waterReadsUptoRow.holds Tryz.pinned (OpenSpec.upto waterReadsSpec)

/-- 'windsocklaw01.WaterSpoilt', WHERE WHAT IT READS IS OF BULK AT MOST 1048576: true; the input reads as it did. -/
def waterSpoiltUptoRow : OpenClaim := { program := "ytjhoplbdpdbgaaagreatdoor", sum := "8a79fdf53ebdd6d98f5b1c46c9945644507a0f81f547a6f875c8b49b19b0c115", func := "windsock/windsocklaw01.WaterSpoilt", spec := "waterSpoilt", inPlace := ["internal/bytealg.CountString", "internal/bytealg.IndexByteString", "internal/bytealg.IndexString"], unfollowed := true, recurses := true, named := ["internal/strconv.uint64pow10", "math/bits.deBruijn32tab", "math/bits.deBruijn64tab", "unicode/utf8.first", "unicode/utf8.acceptRanges", "internal/bytealg.MaxLen", "strconv.ErrSyntax", "strconv.ErrRange"], apart := false, laid := [("math/bits.deBruijn32tab", laid_math_bits_deBruijn32tab), ("math/bits.deBruijn64tab", laid_math_bits_deBruijn64tab), ("internal/strconv.uint64pow10", laid_internal_strconv_uint64pow10), ("unicode/utf8.acceptRanges", laid_unicode_utf8_acceptRanges), ("strconv.ErrRange", laid_strconv_ErrRange), ("strconv.ErrSyntax", laid_strconv_ErrSyntax), ("unicode/utf8.first", laid_unicode_utf8_first)], narrowed := true }
def WaterSpoiltUptoSaid : Prop := waterSpoiltUptoRow.holds Tryz.pinned (OpenSpec.upto waterSpoiltSpec)

end Rows
end Go.Proofs.YtjhoplbdpdbgaaaGreatDoor
