/- Facts of types, printed by program (FactsGen.lean). -/
import Derived.Test.YtjhoplbdpdbgaaaGreatDoorSxMc
import Derived.Test.YtjhoplbdpdbgaaaGreatDoorProg
set_option linter.unusedVariables false
set_option linter.unusedSimpArgs false
namespace Go.Sx.Fz
open Go.Proofs
theorem agg_0 : isAggT Tryz.prog 0 = some false := by kernel_rfl
theorem size_0 : sizeT Tryz.prog 0 = some 1 := by kernel_rfl
theorem agg_1 : isAggT Tryz.prog 1 = some false := by kernel_rfl
theorem size_1 : sizeT Tryz.prog 1 = some 1 := by kernel_rfl
theorem zero_1 : zeroD Tryz.prog 1 = some [.nilf] := by kernel_rfl
theorem agg_2 : isAggT Tryz.prog 2 = some false := by kernel_rfl
theorem size_2 : sizeT Tryz.prog 2 = some 1 := by kernel_rfl
theorem zero_2 : zeroD Tryz.prog 2 = some [.int .i64 0] := by kernel_rfl
theorem und_2 : Tryz.prog.underlying 2 = some (.int .i64) := by kernel_rfl
theorem agg_3 : isAggT Tryz.prog 3 = some false := by kernel_rfl
theorem size_3 : sizeT Tryz.prog 3 = some 1 := by kernel_rfl
theorem zero_3 : zeroD Tryz.prog 3 = some [.int .i64 0] := by kernel_rfl
theorem und_3 : Tryz.prog.underlying 3 = some (.int .i64) := by kernel_rfl
theorem agg_4 : isAggT Tryz.prog 4 = some false := by kernel_rfl
theorem size_4 : sizeT Tryz.prog 4 = some 1 := by kernel_rfl
theorem zero_4 : zeroD Tryz.prog 4 = some [.bool false] := by kernel_rfl
theorem agg_5 : isAggT Tryz.prog 5 = some false := by kernel_rfl
theorem size_5 : sizeT Tryz.prog 5 = some 1 := by kernel_rfl
theorem zero_5 : zeroD Tryz.prog 5 = some [.int .u8 0] := by kernel_rfl
theorem und_5 : Tryz.prog.underlying 5 = some (.int .u8) := by kernel_rfl
theorem agg_9 : isAggT Tryz.prog 9 = some false := by kernel_rfl
theorem size_9 : sizeT Tryz.prog 9 = some 1 := by kernel_rfl
theorem zero_9 : zeroD Tryz.prog 9 = some [.str ByteArray.empty] := by kernel_rfl
theorem und_9 : Tryz.prog.underlying 9 = some (.string) := by kernel_rfl
theorem agg_20 : isAggT Tryz.prog 20 = some false := by kernel_rfl
theorem size_20 : sizeT Tryz.prog 20 = some 1 := by kernel_rfl
theorem zero_20 : zeroD Tryz.prog 20 = some [.nili] := by kernel_rfl
theorem agg_21 : isAggT Tryz.prog 21 = some false := by kernel_rfl
theorem size_21 : sizeT Tryz.prog 21 = some 1 := by kernel_rfl
theorem zero_21 : zeroD Tryz.prog 21 = some [.int .i32 0] := by kernel_rfl
theorem und_21 : Tryz.prog.underlying 21 = some (.int .i32) := by kernel_rfl
theorem agg_22 : isAggT Tryz.prog 22 = some false := by kernel_rfl
theorem size_22 : sizeT Tryz.prog 22 = some 1 := by kernel_rfl
theorem zero_22 : zeroD Tryz.prog 22 = some [.nils] := by kernel_rfl
theorem und_22 : Tryz.prog.underlying 22 = some (.slice 70) := by kernel_rfl
theorem bytes_70_22 : Tryz.prog.bytesOf 70 = 16 := by kernel_rfl
theorem agg_24 : isAggT Tryz.prog 24 = some true := by kernel_rfl
theorem size_24 : sizeT Tryz.prog 24 = some 3 := by kernel_rfl
theorem zero_24 : zeroD Tryz.prog 24 = some [.int .i64 0, .int .i64 0, .nils] := by kernel_rfl
theorem place_24 : placesT Tryz.prog 24 = some [(0, 1), (1, 1), (2, 1)] := by kernel_rfl
theorem off_24_0 : fieldOff Tryz.prog 24 0 = some 0 := by kernel_rfl
theorem fty_24_0 : fieldTy Tryz.prog 24 0 = some (3, 0) := by kernel_rfl
theorem off_24_1 : fieldOff Tryz.prog 24 1 = some 1 := by kernel_rfl
theorem fty_24_1 : fieldTy Tryz.prog 24 1 = some (3, 1) := by kernel_rfl
theorem off_24_2 : fieldOff Tryz.prog 24 2 = some 2 := by kernel_rfl
theorem fty_24_2 : fieldTy Tryz.prog 24 2 = some (22, 2) := by kernel_rfl
theorem agg_25 : isAggT Tryz.prog 25 = some false := by kernel_rfl
theorem size_25 : sizeT Tryz.prog 25 = some 1 := by kernel_rfl
theorem zero_25 : zeroD Tryz.prog 25 = some [.nils] := by kernel_rfl
theorem und_25 : Tryz.prog.underlying 25 = some (.slice 75) := by kernel_rfl
theorem bytes_75_25 : Tryz.prog.bytesOf 75 = 32 := by kernel_rfl
theorem agg_27 : isAggT Tryz.prog 27 = some true := by kernel_rfl
theorem size_27 : sizeT Tryz.prog 27 = some 4 := by kernel_rfl
theorem zero_27 : zeroD Tryz.prog 27 = some [.int .i64 0, .int .i64 0, .int .i64 0, .nils] := by kernel_rfl
theorem place_27 : placesT Tryz.prog 27 = some [(0, 1), (1, 1), (2, 1), (3, 1)] := by kernel_rfl
theorem off_27_0 : fieldOff Tryz.prog 27 0 = some 0 := by kernel_rfl
theorem fty_27_0 : fieldTy Tryz.prog 27 0 = some (3, 0) := by kernel_rfl
theorem off_27_1 : fieldOff Tryz.prog 27 1 = some 1 := by kernel_rfl
theorem fty_27_1 : fieldTy Tryz.prog 27 1 = some (3, 1) := by kernel_rfl
theorem off_27_2 : fieldOff Tryz.prog 27 2 = some 2 := by kernel_rfl
theorem fty_27_2 : fieldTy Tryz.prog 27 2 = some (3, 2) := by kernel_rfl
theorem off_27_3 : fieldOff Tryz.prog 27 3 = some 3 := by kernel_rfl
theorem fty_27_3 : fieldTy Tryz.prog 27 3 = some (25, 3) := by kernel_rfl
theorem agg_29 : isAggT Tryz.prog 29 = some true := by kernel_rfl
theorem size_29 : sizeT Tryz.prog 29 = some 20 := by kernel_rfl
theorem zero_29 : zeroD Tryz.prog 29 = some [.int .i64 0, .int .i64 0, .int .i64 0, .nils, .int .i64 0, .int .i64 0, .int .i64 0, .nils, .int .i64 0, .int .i64 0, .int .i64 0, .nils, .int .i64 0, .int .i64 0, .int .i64 0, .nils, .int .i64 0, .int .i64 0, .int .i64 0, .nils] := by kernel_rfl
theorem place_29 : placesT Tryz.prog 29 = some [(0, 4), (4, 4), (8, 4), (12, 4), (16, 4)] := by kernel_rfl
theorem off_29_0 : fieldOff Tryz.prog 29 0 = some 0 := by kernel_rfl
theorem fty_29_0 : fieldTy Tryz.prog 29 0 = some (27, 0) := by kernel_rfl
theorem off_29_1 : fieldOff Tryz.prog 29 1 = some 4 := by kernel_rfl
theorem fty_29_1 : fieldTy Tryz.prog 29 1 = some (27, 4) := by kernel_rfl
theorem off_29_2 : fieldOff Tryz.prog 29 2 = some 8 := by kernel_rfl
theorem fty_29_2 : fieldTy Tryz.prog 29 2 = some (27, 8) := by kernel_rfl
theorem off_29_3 : fieldOff Tryz.prog 29 3 = some 12 := by kernel_rfl
theorem fty_29_3 : fieldTy Tryz.prog 29 3 = some (27, 12) := by kernel_rfl
theorem off_29_4 : fieldOff Tryz.prog 29 4 = some 16 := by kernel_rfl
theorem fty_29_4 : fieldTy Tryz.prog 29 4 = some (27, 16) := by kernel_rfl
theorem agg_30 : isAggT Tryz.prog 30 = some false := by kernel_rfl
theorem size_30 : sizeT Tryz.prog 30 = some 1 := by kernel_rfl
theorem zero_30 : zeroD Tryz.prog 30 = some [.nils] := by kernel_rfl
theorem und_30 : Tryz.prog.underlying 30 = some (.slice 72) := by kernel_rfl
theorem agg_31 : isAggT Tryz.prog 31 = some false := by kernel_rfl
theorem size_31 : sizeT Tryz.prog 31 = some 1 := by kernel_rfl
theorem zero_31 : zeroD Tryz.prog 31 = some [.nils] := by kernel_rfl
theorem und_31 : Tryz.prog.underlying 31 = some (.slice 106) := by kernel_rfl
theorem agg_33 : isAggT Tryz.prog 33 = some true := by kernel_rfl
theorem size_33 : sizeT Tryz.prog 33 = some 25 := by kernel_rfl
theorem zero_33 : zeroD Tryz.prog 33 = some [.int .i64 0, .int .i64 0, .nils, .int .i64 0, .int .i64 0, .int .i64 0, .nils, .int .i64 0, .int .i64 0, .int .i64 0, .nils, .int .i64 0, .int .i64 0, .int .i64 0, .nils, .int .i64 0, .int .i64 0, .int .i64 0, .nils, .int .i64 0, .int .i64 0, .int .i64 0, .nils, .nils, .nils] := by kernel_rfl
theorem place_33 : placesT Tryz.prog 33 = some [(0, 3), (3, 20), (23, 1), (24, 1)] := by kernel_rfl
theorem off_33_0 : fieldOff Tryz.prog 33 0 = some 0 := by kernel_rfl
theorem fty_33_0 : fieldTy Tryz.prog 33 0 = some (24, 0) := by kernel_rfl
theorem off_33_1 : fieldOff Tryz.prog 33 1 = some 3 := by kernel_rfl
theorem fty_33_1 : fieldTy Tryz.prog 33 1 = some (29, 3) := by kernel_rfl
theorem off_33_2 : fieldOff Tryz.prog 33 2 = some 23 := by kernel_rfl
theorem fty_33_2 : fieldTy Tryz.prog 33 2 = some (30, 23) := by kernel_rfl
theorem off_33_3 : fieldOff Tryz.prog 33 3 = some 24 := by kernel_rfl
theorem fty_33_3 : fieldTy Tryz.prog 33 3 = some (31, 24) := by kernel_rfl
theorem agg_36 : isAggT Tryz.prog 36 = some true := by kernel_rfl
theorem size_36 : sizeT Tryz.prog 36 = some 7 := by kernel_rfl
theorem zero_36 : zeroD Tryz.prog 36 = some [.int .i64 0, .int .i64 0, .int .i64 0, .int .i64 0, .int .i64 0, .int .i64 0, .int .i64 0] := by kernel_rfl
theorem place_36 : placesT Tryz.prog 36 = some [(0, 1), (1, 1), (2, 1), (3, 1), (4, 1), (5, 1), (6, 1)] := by kernel_rfl
theorem off_36_0 : fieldOff Tryz.prog 36 0 = some 0 := by kernel_rfl
theorem fty_36_0 : fieldTy Tryz.prog 36 0 = some (3, 0) := by kernel_rfl
theorem off_36_1 : fieldOff Tryz.prog 36 1 = some 1 := by kernel_rfl
theorem fty_36_1 : fieldTy Tryz.prog 36 1 = some (3, 1) := by kernel_rfl
theorem off_36_2 : fieldOff Tryz.prog 36 2 = some 2 := by kernel_rfl
theorem fty_36_2 : fieldTy Tryz.prog 36 2 = some (3, 2) := by kernel_rfl
theorem off_36_3 : fieldOff Tryz.prog 36 3 = some 3 := by kernel_rfl
theorem fty_36_3 : fieldTy Tryz.prog 36 3 = some (3, 3) := by kernel_rfl
theorem off_36_4 : fieldOff Tryz.prog 36 4 = some 4 := by kernel_rfl
theorem fty_36_4 : fieldTy Tryz.prog 36 4 = some (3, 4) := by kernel_rfl
theorem off_36_5 : fieldOff Tryz.prog 36 5 = some 5 := by kernel_rfl
theorem fty_36_5 : fieldTy Tryz.prog 36 5 = some (3, 5) := by kernel_rfl
theorem off_36_6 : fieldOff Tryz.prog 36 6 = some 6 := by kernel_rfl
theorem fty_36_6 : fieldTy Tryz.prog 36 6 = some (3, 6) := by kernel_rfl
theorem agg_38 : isAggT Tryz.prog 38 = some false := by kernel_rfl
theorem size_38 : sizeT Tryz.prog 38 = some 1 := by kernel_rfl
theorem zero_38 : zeroD Tryz.prog 38 = some [.nilf] := by kernel_rfl
theorem agg_39 : isAggT Tryz.prog 39 = some false := by kernel_rfl
theorem size_39 : sizeT Tryz.prog 39 = some 1 := by kernel_rfl
theorem zero_39 : zeroD Tryz.prog 39 = some [.int .i64 0] := by kernel_rfl
theorem agg_40 : isAggT Tryz.prog 40 = some false := by kernel_rfl
theorem size_40 : sizeT Tryz.prog 40 = some 1 := by kernel_rfl
theorem agg_44 : isAggT Tryz.prog 44 = some false := by kernel_rfl
theorem size_44 : sizeT Tryz.prog 44 = some 1 := by kernel_rfl
theorem zero_44 : zeroD Tryz.prog 44 = some [.int .i64 0] := by kernel_rfl
theorem agg_46 : isAggT Tryz.prog 46 = some true := by kernel_rfl
theorem size_46 : sizeT Tryz.prog 46 = some 4 := by kernel_rfl
theorem zero_46 : zeroD Tryz.prog 46 = some [.int .i64 0, .int .i64 0, .int .i64 0, .int .i64 0] := by kernel_rfl
theorem place_46 : placesT Tryz.prog 46 = some [(0, 1), (1, 1), (2, 1), (3, 1)] := by kernel_rfl
theorem off_46_0 : fieldOff Tryz.prog 46 0 = some 0 := by kernel_rfl
theorem fty_46_0 : fieldTy Tryz.prog 46 0 = some (3, 0) := by kernel_rfl
theorem off_46_1 : fieldOff Tryz.prog 46 1 = some 1 := by kernel_rfl
theorem fty_46_1 : fieldTy Tryz.prog 46 1 = some (3, 1) := by kernel_rfl
theorem off_46_2 : fieldOff Tryz.prog 46 2 = some 2 := by kernel_rfl
theorem fty_46_2 : fieldTy Tryz.prog 46 2 = some (44, 2) := by kernel_rfl
theorem off_46_3 : fieldOff Tryz.prog 46 3 = some 3 := by kernel_rfl
theorem fty_46_3 : fieldTy Tryz.prog 46 3 = some (3, 3) := by kernel_rfl
theorem agg_48 : isAggT Tryz.prog 48 = some false := by kernel_rfl
theorem size_48 : sizeT Tryz.prog 48 = some 1 := by kernel_rfl
theorem agg_51 : isAggT Tryz.prog 51 = some false := by kernel_rfl
theorem size_51 : sizeT Tryz.prog 51 = some 1 := by kernel_rfl
theorem agg_56 : isAggT Tryz.prog 56 = some false := by kernel_rfl
theorem size_56 : sizeT Tryz.prog 56 = some 1 := by kernel_rfl
theorem agg_62 : isAggT Tryz.prog 62 = some false := by kernel_rfl
theorem size_62 : sizeT Tryz.prog 62 = some 1 := by kernel_rfl
theorem zero_62 : zeroD Tryz.prog 62 = some [.nils] := by kernel_rfl
theorem und_62 : Tryz.prog.underlying 62 = some (.slice 3) := by kernel_rfl
theorem bytes_3_62 : Tryz.prog.bytesOf 3 = 8 := by kernel_rfl
theorem agg_70 : isAggT Tryz.prog 70 = some true := by kernel_rfl
theorem size_70 : sizeT Tryz.prog 70 = some 2 := by kernel_rfl
theorem zero_70 : zeroD Tryz.prog 70 = some [.int .i64 0, .int .i64 0] := by kernel_rfl
theorem place_70 : placesT Tryz.prog 70 = some [(0, 1), (1, 1)] := by kernel_rfl
theorem off_70_0 : fieldOff Tryz.prog 70 0 = some 0 := by kernel_rfl
theorem fty_70_0 : fieldTy Tryz.prog 70 0 = some (3, 0) := by kernel_rfl
theorem off_70_1 : fieldOff Tryz.prog 70 1 = some 1 := by kernel_rfl
theorem fty_70_1 : fieldTy Tryz.prog 70 1 = some (3, 1) := by kernel_rfl
theorem agg_72 : isAggT Tryz.prog 72 = some true := by kernel_rfl
theorem size_72 : sizeT Tryz.prog 72 = some 7 := by kernel_rfl
theorem zero_72 : zeroD Tryz.prog 72 = some [.int .i64 0, .int .i64 0, .int .i64 0, .int .i64 0, .int .i64 0, .int .i64 0, .bool false] := by kernel_rfl
theorem place_72 : placesT Tryz.prog 72 = some [(0, 2), (2, 2), (4, 2), (6, 1)] := by kernel_rfl
theorem off_72_0 : fieldOff Tryz.prog 72 0 = some 0 := by kernel_rfl
theorem fty_72_0 : fieldTy Tryz.prog 72 0 = some (70, 0) := by kernel_rfl
theorem off_72_1 : fieldOff Tryz.prog 72 1 = some 2 := by kernel_rfl
theorem fty_72_1 : fieldTy Tryz.prog 72 1 = some (70, 2) := by kernel_rfl
theorem off_72_2 : fieldOff Tryz.prog 72 2 = some 4 := by kernel_rfl
theorem fty_72_2 : fieldTy Tryz.prog 72 2 = some (70, 4) := by kernel_rfl
theorem off_72_3 : fieldOff Tryz.prog 72 3 = some 6 := by kernel_rfl
theorem fty_72_3 : fieldTy Tryz.prog 72 3 = some (4, 6) := by kernel_rfl
theorem agg_75 : isAggT Tryz.prog 75 = some true := by kernel_rfl
theorem size_75 : sizeT Tryz.prog 75 = some 4 := by kernel_rfl
theorem zero_75 : zeroD Tryz.prog 75 = some [.int .i64 0, .int .i64 0, .int .i64 0, .int .i64 0] := by kernel_rfl
theorem place_75 : placesT Tryz.prog 75 = some [(0, 1), (1, 2), (3, 1)] := by kernel_rfl
theorem off_75_0 : fieldOff Tryz.prog 75 0 = some 0 := by kernel_rfl
theorem fty_75_0 : fieldTy Tryz.prog 75 0 = some (3, 0) := by kernel_rfl
theorem off_75_1 : fieldOff Tryz.prog 75 1 = some 1 := by kernel_rfl
theorem fty_75_1 : fieldTy Tryz.prog 75 1 = some (70, 1) := by kernel_rfl
theorem off_75_2 : fieldOff Tryz.prog 75 2 = some 3 := by kernel_rfl
theorem fty_75_2 : fieldTy Tryz.prog 75 2 = some (3, 3) := by kernel_rfl
theorem agg_89 : isAggT Tryz.prog 89 = some false := by kernel_rfl
theorem size_89 : sizeT Tryz.prog 89 = some 1 := by kernel_rfl
theorem agg_92 : isAggT Tryz.prog 92 = some false := by kernel_rfl
theorem size_92 : sizeT Tryz.prog 92 = some 1 := by kernel_rfl
theorem agg_95 : isAggT Tryz.prog 95 = some false := by kernel_rfl
theorem size_95 : sizeT Tryz.prog 95 = some 1 := by kernel_rfl
theorem agg_98 : isAggT Tryz.prog 98 = some false := by kernel_rfl
theorem size_98 : sizeT Tryz.prog 98 = some 1 := by kernel_rfl
theorem zero_98 : zeroD Tryz.prog 98 = some [.nils] := by kernel_rfl
theorem und_98 : Tryz.prog.underlying 98 = some (.slice 5) := by kernel_rfl
theorem agg_106 : isAggT Tryz.prog 106 = some true := by kernel_rfl
theorem size_106 : sizeT Tryz.prog 106 = some 3 := by kernel_rfl
theorem zero_106 : zeroD Tryz.prog 106 = some [.int .i64 0, .int .i64 0, .int .i64 0] := by kernel_rfl
theorem place_106 : placesT Tryz.prog 106 = some [(0, 1), (1, 2)] := by kernel_rfl
theorem off_106_0 : fieldOff Tryz.prog 106 0 = some 0 := by kernel_rfl
theorem fty_106_0 : fieldTy Tryz.prog 106 0 = some (44, 0) := by kernel_rfl
theorem off_106_1 : fieldOff Tryz.prog 106 1 = some 1 := by kernel_rfl
theorem fty_106_1 : fieldTy Tryz.prog 106 1 = some (70, 1) := by kernel_rfl
theorem agg_109 : isAggT Tryz.prog 109 = some false := by kernel_rfl
theorem size_109 : sizeT Tryz.prog 109 = some 1 := by kernel_rfl
theorem agg_118 : isAggT Tryz.prog 118 = some true := by kernel_rfl
theorem size_118 : sizeT Tryz.prog 118 = some 37 := by kernel_rfl
theorem zero_118 : zeroD Tryz.prog 118 = some [.int .i64 0, .int .i64 0, .nils, .int .i64 0, .int .i64 0, .int .i64 0, .nils, .int .i64 0, .int .i64 0, .int .i64 0, .nils, .int .i64 0, .int .i64 0, .int .i64 0, .nils, .int .i64 0, .int .i64 0, .int .i64 0, .nils, .int .i64 0, .int .i64 0, .int .i64 0, .nils, .nils, .nils, .int .i64 0, .int .i64 0, .int .i64 0, .int .i64 0, .int .i64 0, .int .i64 0, .int .i64 0, .int .i64 0, .int .i64 0, .int .i64 0, .int .i64 0, .int .i64 0] := by kernel_rfl
theorem place_118 : placesT Tryz.prog 118 = some [(0, 25), (25, 4), (29, 7), (36, 1)] := by kernel_rfl
theorem off_118_0 : fieldOff Tryz.prog 118 0 = some 0 := by kernel_rfl
theorem fty_118_0 : fieldTy Tryz.prog 118 0 = some (33, 0) := by kernel_rfl
theorem off_118_1 : fieldOff Tryz.prog 118 1 = some 25 := by kernel_rfl
theorem fty_118_1 : fieldTy Tryz.prog 118 1 = some (46, 25) := by kernel_rfl
theorem off_118_2 : fieldOff Tryz.prog 118 2 = some 29 := by kernel_rfl
theorem fty_118_2 : fieldTy Tryz.prog 118 2 = some (36, 29) := by kernel_rfl
theorem off_118_3 : fieldOff Tryz.prog 118 3 = some 36 := by kernel_rfl
theorem fty_118_3 : fieldTy Tryz.prog 118 3 = some (3, 36) := by kernel_rfl
theorem agg_120 : isAggT Tryz.prog 120 = some false := by kernel_rfl
theorem size_120 : sizeT Tryz.prog 120 = some 1 := by kernel_rfl
theorem zero_120 : zeroD Tryz.prog 120 = some [.nils] := by kernel_rfl
theorem und_120 : Tryz.prog.underlying 120 = some (.slice 27) := by kernel_rfl
theorem bytes_27_120 : Tryz.prog.bytesOf 27 = 48 := by kernel_rfl
theorem agg_123 : isAggT Tryz.prog 123 = some false := by kernel_rfl
theorem size_123 : sizeT Tryz.prog 123 = some 1 := by kernel_rfl
theorem agg_126 : isAggT Tryz.prog 126 = some false := by kernel_rfl
theorem size_126 : sizeT Tryz.prog 126 = some 1 := by kernel_rfl
theorem zero_126 : zeroD Tryz.prog 126 = some [.nilf] := by kernel_rfl
theorem agg_139 : isAggT Tryz.prog 139 = some true := by kernel_rfl
theorem size_139 : sizeT Tryz.prog 139 = some 5 := by kernel_rfl
theorem zero_139 : zeroD Tryz.prog 139 = some [.str ByteArray.empty, .str ByteArray.empty, .str ByteArray.empty, .str ByteArray.empty, .str ByteArray.empty] := by kernel_rfl
theorem und_139 : Tryz.prog.underlying 139 = some (.array 5 9) := by kernel_rfl
theorem place_139 : placesT Tryz.prog 139 = some [(0, 1), (1, 1), (2, 1), (3, 1), (4, 1)] := by kernel_rfl
theorem agg_141 : isAggT Tryz.prog 141 = some false := by kernel_rfl
theorem size_141 : sizeT Tryz.prog 141 = some 1 := by kernel_rfl
theorem zero_141 : zeroD Tryz.prog 141 = some [.nilp] := by kernel_rfl
theorem agg_142 : isAggT Tryz.prog 142 = some false := by kernel_rfl
theorem size_142 : sizeT Tryz.prog 142 = some 1 := by kernel_rfl
theorem zero_142 : zeroD Tryz.prog 142 = some [.nilm] := by kernel_rfl
theorem agg_144 : isAggT Tryz.prog 144 = some false := by kernel_rfl
theorem size_144 : sizeT Tryz.prog 144 = some 1 := by kernel_rfl
theorem zero_144 : zeroD Tryz.prog 144 = some [.nilp] := by kernel_rfl
theorem agg_147 : isAggT Tryz.prog 147 = some false := by kernel_rfl
theorem size_147 : sizeT Tryz.prog 147 = some 1 := by kernel_rfl
theorem zero_147 : zeroD Tryz.prog 147 = some [.nils] := by kernel_rfl
theorem und_147 : Tryz.prog.underlying 147 = some (.slice 9) := by kernel_rfl
theorem bytes_9_147 : Tryz.prog.bytesOf 9 = 16 := by kernel_rfl
theorem agg_150 : isAggT Tryz.prog 150 = some true := by kernel_rfl
theorem size_150 : sizeT Tryz.prog 150 = some 1 := by kernel_rfl
theorem zero_150 : zeroD Tryz.prog 150 = some [.str ByteArray.empty] := by kernel_rfl
theorem place_150 : placesT Tryz.prog 150 = some [(0, 1)] := by kernel_rfl
theorem off_150_0 : fieldOff Tryz.prog 150 0 = some 0 := by kernel_rfl
theorem fty_150_0 : fieldTy Tryz.prog 150 0 = some (9, 0) := by kernel_rfl
theorem agg_153 : isAggT Tryz.prog 153 = some false := by kernel_rfl
theorem size_153 : sizeT Tryz.prog 153 = some 1 := by kernel_rfl
theorem agg_155 : isAggT Tryz.prog 155 = some false := by kernel_rfl
theorem size_155 : sizeT Tryz.prog 155 = some 1 := by kernel_rfl
theorem agg_160 : isAggT Tryz.prog 160 = some false := by kernel_rfl
theorem size_160 : sizeT Tryz.prog 160 = some 1 := by kernel_rfl
theorem zero_160 : zeroD Tryz.prog 160 = some [.nilf] := by kernel_rfl
theorem agg_162 : isAggT Tryz.prog 162 = some true := by kernel_rfl
theorem size_162 : sizeT Tryz.prog 162 = some 20 := by kernel_rfl
theorem zero_162 : zeroD Tryz.prog 162 = some [.int .i64 0, .int .i64 0, .int .i64 0, .nils, .int .i64 0, .int .i64 0, .int .i64 0, .nils, .int .i64 0, .int .i64 0, .int .i64 0, .nils, .int .i64 0, .int .i64 0, .int .i64 0, .nils, .int .i64 0, .int .i64 0, .int .i64 0, .nils] := by kernel_rfl
theorem und_162 : Tryz.prog.underlying 162 = some (.array 5 27) := by kernel_rfl
theorem place_162 : placesT Tryz.prog 162 = some [(0, 4), (4, 4), (8, 4), (12, 4), (16, 4)] := by kernel_rfl
theorem agg_163 : isAggT Tryz.prog 163 = some true := by kernel_rfl
theorem size_163 : sizeT Tryz.prog 163 = some 4 := by kernel_rfl
theorem zero_163 : zeroD Tryz.prog 163 = some [.nilf, .nilf, .nilf, .nilf] := by kernel_rfl
theorem und_163 : Tryz.prog.underlying 163 = some (.array 4 38) := by kernel_rfl
theorem place_163 : placesT Tryz.prog 163 = some [(0, 1), (1, 1), (2, 1), (3, 1)] := by kernel_rfl
theorem agg_165 : isAggT Tryz.prog 165 = some false := by kernel_rfl
theorem size_165 : sizeT Tryz.prog 165 = some 1 := by kernel_rfl
theorem zero_165 : zeroD Tryz.prog 165 = some [.nils] := by kernel_rfl
theorem und_165 : Tryz.prog.underlying 165 = some (.slice 38) := by kernel_rfl
theorem agg_170 : isAggT Tryz.prog 170 = some false := by kernel_rfl
theorem size_170 : sizeT Tryz.prog 170 = some 1 := by kernel_rfl
theorem agg_172 : isAggT Tryz.prog 172 = some false := by kernel_rfl
theorem size_172 : sizeT Tryz.prog 172 = some 1 := by kernel_rfl
theorem zero_172 : zeroD Tryz.prog 172 = some [.nilp] := by kernel_rfl
theorem agg_175 : isAggT Tryz.prog 175 = some true := by kernel_rfl
theorem size_175 : sizeT Tryz.prog 175 = some 1 := by kernel_rfl
theorem zero_175 : zeroD Tryz.prog 175 = some [.nils] := by kernel_rfl
theorem place_175 : placesT Tryz.prog 175 = some [(0, 1)] := by kernel_rfl
theorem off_175_0 : fieldOff Tryz.prog 175 0 = some 0 := by kernel_rfl
theorem fty_175_0 : fieldTy Tryz.prog 175 0 = some (147, 0) := by kernel_rfl
theorem agg_178 : isAggT Tryz.prog 178 = some false := by kernel_rfl
theorem size_178 : sizeT Tryz.prog 178 = some 1 := by kernel_rfl
theorem agg_181 : isAggT Tryz.prog 181 = some true := by kernel_rfl
theorem size_181 : sizeT Tryz.prog 181 = some 2 := by kernel_rfl
theorem zero_181 : zeroD Tryz.prog 181 = some [.int .i64 0, .int .i64 0] := by kernel_rfl
theorem und_181 : Tryz.prog.underlying 181 = some (.array 2 3) := by kernel_rfl
theorem place_181 : placesT Tryz.prog 181 = some [(0, 1), (1, 1)] := by kernel_rfl
theorem agg_182 : isAggT Tryz.prog 182 = some true := by kernel_rfl
theorem size_182 : sizeT Tryz.prog 182 = some 16 := by kernel_rfl
theorem zero_182 : zeroD Tryz.prog 182 = some [.int .i64 0, .int .i64 0, .int .i64 0, .int .i64 0, .int .i64 0, .int .i64 0, .int .i64 0, .int .i64 0, .int .i64 0, .int .i64 0, .int .i64 0, .int .i64 0, .int .i64 0, .int .i64 0, .int .i64 0, .int .i64 0] := by kernel_rfl
theorem und_182 : Tryz.prog.underlying 182 = some (.array 8 181) := by kernel_rfl
theorem place_182 : placesT Tryz.prog 182 = some [(0, 2), (2, 2), (4, 2), (6, 2), (8, 2), (10, 2), (12, 2), (14, 2)] := by kernel_rfl
theorem agg_193 : isAggT Tryz.prog 193 = some false := by kernel_rfl
theorem size_193 : sizeT Tryz.prog 193 = some 1 := by kernel_rfl
theorem zero_193 : zeroD Tryz.prog 193 = some [.nili] := by kernel_rfl
theorem agg_194 : isAggT Tryz.prog 194 = some false := by kernel_rfl
theorem size_194 : sizeT Tryz.prog 194 = some 1 := by kernel_rfl
theorem agg_196 : isAggT Tryz.prog 196 = some true := by kernel_rfl
theorem size_196 : sizeT Tryz.prog 196 = some 24 := by kernel_rfl
theorem zero_196 : zeroD Tryz.prog 196 = some [.int .u8 0, .int .u8 0, .int .u8 0, .int .u8 0, .int .u8 0, .int .u8 0, .int .u8 0, .int .u8 0, .int .u8 0, .int .u8 0, .int .u8 0, .int .u8 0, .int .u8 0, .int .u8 0, .int .u8 0, .int .u8 0, .int .u8 0, .int .u8 0, .int .u8 0, .int .u8 0, .int .u8 0, .int .u8 0, .int .u8 0, .int .u8 0] := by kernel_rfl
theorem und_196 : Tryz.prog.underlying 196 = some (.array 24 5) := by kernel_rfl
theorem place_196 : placesT Tryz.prog 196 = some [(0, 1), (1, 1), (2, 1), (3, 1), (4, 1), (5, 1), (6, 1), (7, 1), (8, 1), (9, 1), (10, 1), (11, 1), (12, 1), (13, 1), (14, 1), (15, 1), (16, 1), (17, 1), (18, 1), (19, 1), (20, 1), (21, 1), (22, 1), (23, 1)] := by kernel_rfl
theorem agg_197 : isAggT Tryz.prog 197 = some false := by kernel_rfl
theorem size_197 : sizeT Tryz.prog 197 = some 1 := by kernel_rfl
theorem zero_197 : zeroD Tryz.prog 197 = some [.int .u64 0] := by kernel_rfl
theorem und_197 : Tryz.prog.underlying 197 = some (.int .u64) := by kernel_rfl
theorem agg_200 : isAggT Tryz.prog 200 = some false := by kernel_rfl
theorem size_200 : sizeT Tryz.prog 200 = some 1 := by kernel_rfl
theorem agg_202 : isAggT Tryz.prog 202 = some false := by kernel_rfl
theorem size_202 : sizeT Tryz.prog 202 = some 1 := by kernel_rfl
theorem agg_208 : isAggT Tryz.prog 208 = some true := by kernel_rfl
theorem size_208 : sizeT Tryz.prog 208 = some 20 := by kernel_rfl
theorem zero_208 : zeroD Tryz.prog 208 = some [.int .u64 0, .int .u64 0, .int .u64 0, .int .u64 0, .int .u64 0, .int .u64 0, .int .u64 0, .int .u64 0, .int .u64 0, .int .u64 0, .int .u64 0, .int .u64 0, .int .u64 0, .int .u64 0, .int .u64 0, .int .u64 0, .int .u64 0, .int .u64 0, .int .u64 0, .int .u64 0] := by kernel_rfl
theorem und_208 : Tryz.prog.underlying 208 = some (.array 20 197) := by kernel_rfl
theorem place_208 : placesT Tryz.prog 208 = some [(0, 1), (1, 1), (2, 1), (3, 1), (4, 1), (5, 1), (6, 1), (7, 1), (8, 1), (9, 1), (10, 1), (11, 1), (12, 1), (13, 1), (14, 1), (15, 1), (16, 1), (17, 1), (18, 1), (19, 1)] := by kernel_rfl
theorem agg_209 : isAggT Tryz.prog 209 = some false := by kernel_rfl
theorem size_209 : sizeT Tryz.prog 209 = some 1 := by kernel_rfl
theorem zero_209 : zeroD Tryz.prog 209 = some [.int .u32 0] := by kernel_rfl
theorem und_209 : Tryz.prog.underlying 209 = some (.int .u32) := by kernel_rfl
theorem agg_210 : isAggT Tryz.prog 210 = some true := by kernel_rfl
theorem size_210 : sizeT Tryz.prog 210 = some 65 := by kernel_rfl
theorem und_210 : Tryz.prog.underlying 210 = some (.array 65 5) := by kernel_rfl
theorem agg_211 : isAggT Tryz.prog 211 = some false := by kernel_rfl
theorem size_211 : sizeT Tryz.prog 211 = some 1 := by kernel_rfl
theorem zero_211 : zeroD Tryz.prog 211 = some [.int .u64 0] := by kernel_rfl
theorem und_211 : Tryz.prog.underlying 211 = some (.int .u64) := by kernel_rfl
theorem agg_213 : isAggT Tryz.prog 213 = some false := by kernel_rfl
theorem size_213 : sizeT Tryz.prog 213 = some 1 := by kernel_rfl
theorem zero_213 : zeroD Tryz.prog 213 = some [.int .i64 0] := by kernel_rfl
theorem agg_214 : isAggT Tryz.prog 214 = some false := by kernel_rfl
theorem size_214 : sizeT Tryz.prog 214 = some 1 := by kernel_rfl
theorem agg_216 : isAggT Tryz.prog 216 = some false := by kernel_rfl
theorem size_216 : sizeT Tryz.prog 216 = some 1 := by kernel_rfl
theorem zero_216 : zeroD Tryz.prog 216 = some [.nilp] := by kernel_rfl
theorem agg_220 : isAggT Tryz.prog 220 = some true := by kernel_rfl
theorem size_220 : sizeT Tryz.prog 220 = some 256 := by kernel_rfl
theorem und_220 : Tryz.prog.underlying 220 = some (.array 256 5) := by kernel_rfl
theorem agg_222 : isAggT Tryz.prog 222 = some true := by kernel_rfl
theorem size_222 : sizeT Tryz.prog 222 = some 2 := by kernel_rfl
theorem zero_222 : zeroD Tryz.prog 222 = some [.int .u8 0, .int .u8 0] := by kernel_rfl
theorem place_222 : placesT Tryz.prog 222 = some [(0, 1), (1, 1)] := by kernel_rfl
theorem off_222_0 : fieldOff Tryz.prog 222 0 = some 0 := by kernel_rfl
theorem fty_222_0 : fieldTy Tryz.prog 222 0 = some (5, 0) := by kernel_rfl
theorem off_222_1 : fieldOff Tryz.prog 222 1 = some 1 := by kernel_rfl
theorem fty_222_1 : fieldTy Tryz.prog 222 1 = some (5, 1) := by kernel_rfl
theorem agg_223 : isAggT Tryz.prog 223 = some true := by kernel_rfl
theorem size_223 : sizeT Tryz.prog 223 = some 32 := by kernel_rfl
theorem zero_223 : zeroD Tryz.prog 223 = some [.int .u8 0, .int .u8 0, .int .u8 0, .int .u8 0, .int .u8 0, .int .u8 0, .int .u8 0, .int .u8 0, .int .u8 0, .int .u8 0, .int .u8 0, .int .u8 0, .int .u8 0, .int .u8 0, .int .u8 0, .int .u8 0, .int .u8 0, .int .u8 0, .int .u8 0, .int .u8 0, .int .u8 0, .int .u8 0, .int .u8 0, .int .u8 0, .int .u8 0, .int .u8 0, .int .u8 0, .int .u8 0, .int .u8 0, .int .u8 0, .int .u8 0, .int .u8 0] := by kernel_rfl
theorem und_223 : Tryz.prog.underlying 223 = some (.array 16 222) := by kernel_rfl
theorem place_223 : placesT Tryz.prog 223 = some [(0, 2), (2, 2), (4, 2), (6, 2), (8, 2), (10, 2), (12, 2), (14, 2), (16, 2), (18, 2), (20, 2), (22, 2), (24, 2), (26, 2), (28, 2), (30, 2)] := by kernel_rfl
theorem agg_224 : isAggT Tryz.prog 224 = some false := by kernel_rfl
theorem size_224 : sizeT Tryz.prog 224 = some 1 := by kernel_rfl
theorem agg_226 : isAggT Tryz.prog 226 = some false := by kernel_rfl
theorem size_226 : sizeT Tryz.prog 226 = some 1 := by kernel_rfl
theorem agg_229 : isAggT Tryz.prog 229 = some true := by kernel_rfl
theorem size_229 : sizeT Tryz.prog 229 = some 3 := by kernel_rfl
theorem zero_229 : zeroD Tryz.prog 229 = some [.str ByteArray.empty, .str ByteArray.empty, .nili] := by kernel_rfl
theorem place_229 : placesT Tryz.prog 229 = some [(0, 1), (1, 1), (2, 1)] := by kernel_rfl
theorem off_229_0 : fieldOff Tryz.prog 229 0 = some 0 := by kernel_rfl
theorem fty_229_0 : fieldTy Tryz.prog 229 0 = some (9, 0) := by kernel_rfl
theorem off_229_1 : fieldOff Tryz.prog 229 1 = some 1 := by kernel_rfl
theorem fty_229_1 : fieldTy Tryz.prog 229 1 = some (9, 1) := by kernel_rfl
theorem off_229_2 : fieldOff Tryz.prog 229 2 = some 2 := by kernel_rfl
theorem fty_229_2 : fieldTy Tryz.prog 229 2 = some (193, 2) := by kernel_rfl
theorem agg_231 : isAggT Tryz.prog 231 = some true := by kernel_rfl
theorem size_231 : sizeT Tryz.prog 231 = some 32 := by kernel_rfl
theorem zero_231 : zeroD Tryz.prog 231 = some [.int .u8 0, .int .u8 0, .int .u8 0, .int .u8 0, .int .u8 0, .int .u8 0, .int .u8 0, .int .u8 0, .int .u8 0, .int .u8 0, .int .u8 0, .int .u8 0, .int .u8 0, .int .u8 0, .int .u8 0, .int .u8 0, .int .u8 0, .int .u8 0, .int .u8 0, .int .u8 0, .int .u8 0, .int .u8 0, .int .u8 0, .int .u8 0, .int .u8 0, .int .u8 0, .int .u8 0, .int .u8 0, .int .u8 0, .int .u8 0, .int .u8 0, .int .u8 0] := by kernel_rfl
theorem und_231 : Tryz.prog.underlying 231 = some (.array 32 5) := by kernel_rfl
theorem place_231 : placesT Tryz.prog 231 = some [(0, 1), (1, 1), (2, 1), (3, 1), (4, 1), (5, 1), (6, 1), (7, 1), (8, 1), (9, 1), (10, 1), (11, 1), (12, 1), (13, 1), (14, 1), (15, 1), (16, 1), (17, 1), (18, 1), (19, 1), (20, 1), (21, 1), (22, 1), (23, 1), (24, 1), (25, 1), (26, 1), (27, 1), (28, 1), (29, 1), (30, 1), (31, 1)] := by kernel_rfl
theorem agg_232 : isAggT Tryz.prog 232 = some true := by kernel_rfl
theorem size_232 : sizeT Tryz.prog 232 = some 64 := by kernel_rfl
theorem und_232 : Tryz.prog.underlying 232 = some (.array 64 5) := by kernel_rfl
theorem agg_234 : isAggT Tryz.prog 234 = some false := by kernel_rfl
theorem size_234 : sizeT Tryz.prog 234 = some 1 := by kernel_rfl
theorem zero_234 : zeroD Tryz.prog 234 = some [.nilp] := by kernel_rfl
theorem agg_235 : isAggT Tryz.prog 235 = some false := by kernel_rfl
theorem size_235 : sizeT Tryz.prog 235 = some 1 := by kernel_rfl
theorem zero_235 : zeroD Tryz.prog 235 = some [.nilp] := by kernel_rfl
theorem agg_237 : isAggT Tryz.prog 237 = some true := by kernel_rfl
theorem size_237 : sizeT Tryz.prog 237 = some 1 := by kernel_rfl
theorem zero_237 : zeroD Tryz.prog 237 = some [.str ByteArray.empty] := by kernel_rfl
theorem place_237 : placesT Tryz.prog 237 = some [(0, 1)] := by kernel_rfl
theorem off_237_0 : fieldOff Tryz.prog 237 0 = some 0 := by kernel_rfl
theorem fty_237_0 : fieldTy Tryz.prog 237 0 = some (9, 0) := by kernel_rfl
end Go.Sx.Fz
