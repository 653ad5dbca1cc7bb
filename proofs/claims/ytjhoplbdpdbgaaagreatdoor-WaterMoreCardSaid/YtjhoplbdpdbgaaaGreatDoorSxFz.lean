/- Facts of types, printed by program (FactsGen.lean). -/
import Derived.Test.YtjhoplbdpdbgaaaGreatDoorSxMc
import Derived.Test.YtjhoplbdpdbgaaaGreatDoorProg
set_option linter.unusedVariables false
set_option linter.unusedSimpArgs false
namespace Go.Sx.Fz
open Go.Proofs
theorem agg_0 : isAggT Tryz.prog 0 = some false := by kernel_rfl
theorem size_0 : sizeT Tryz.prog 0 = some 1 := by kernel_rfl
theorem agg_1 : isAggT Tryz.prog 1 = some false := by kernel_rfl
theorem size_1 : sizeT Tryz.prog 1 = some 1 := by kernel_rfl
theorem zero_1 : zeroD Tryz.prog 1 = some [.nilf] := by kernel_rfl
theorem agg_2 : isAggT Tryz.prog 2 = some false := by kernel_rfl
theorem size_2 : sizeT Tryz.prog 2 = some 1 := by kernel_rfl
theorem zero_2 : zeroD Tryz.prog 2 = some [.int .i64 0] := by kernel_rfl
theorem und_2 : Tryz.prog.underlying 2 = some (.int .i64) := by kernel_rfl
theorem agg_3 : isAggT Tryz.prog 3 = some false := by kernel_rfl
theorem size_3 : sizeT Tryz.prog 3 = some 1 := by kernel_rfl
theorem zero_3 : zeroD Tryz.prog 3 = some [.int .i64 0] := by kernel_rfl
theorem und_3 : Tryz.prog.underlying 3 = some (.int .i64) := by kernel_rfl
theorem agg_4 : isAggT Tryz.prog 4 = some false := by kernel_rfl
theorem size_4 : sizeT Tryz.prog 4 = some 1 := by kernel_rfl
theorem zero_4 : zeroD Tryz.prog 4 = some [.bool false] := by kernel_rfl
theorem und_4 : Tryz.prog.underlying 4 = some (.bool) := by kernel_rfl
theorem agg_5 : isAggT Tryz.prog 5 = some false := by kernel_rfl
theorem size_5 : sizeT Tryz.prog 5 = some 1 := by kernel_rfl
theorem zero_5 : zeroD Tryz.prog 5 = some [.int .u8 0] := by kernel_rfl
theorem und_5 : Tryz.prog.underlying 5 = some (.int .u8) := by kernel_rfl
theorem agg_6 : isAggT Tryz.prog 6 = some false := by kernel_rfl
theorem size_6 : sizeT Tryz.prog 6 = some 1 := by kernel_rfl
theorem zero_6 : zeroD Tryz.prog 6 = some [.int .u8 0] := by kernel_rfl
theorem und_6 : Tryz.prog.underlying 6 = some (.int .u8) := by kernel_rfl
theorem agg_7 : isAggT Tryz.prog 7 = some true := by kernel_rfl
theorem size_7 : sizeT Tryz.prog 7 = some 4 := by kernel_rfl
theorem zero_7 : zeroD Tryz.prog 7 = some [.int .i64 0, .int .i64 0, .bool false, .int .u8 0] := by kernel_rfl
theorem place_7 : placesT Tryz.prog 7 = some [(0, 1), (1, 1), (2, 1), (3, 1)] := by kernel_rfl
theorem off_7_0 : fieldOff Tryz.prog 7 0 = some 0 := by kernel_rfl
theorem fty_7_0 : fieldTy Tryz.prog 7 0 = some (2, 0) := by kernel_rfl
theorem off_7_1 : fieldOff Tryz.prog 7 1 = some 1 := by kernel_rfl
theorem fty_7_1 : fieldTy Tryz.prog 7 1 = some (3, 1) := by kernel_rfl
theorem off_7_2 : fieldOff Tryz.prog 7 2 = some 2 := by kernel_rfl
theorem fty_7_2 : fieldTy Tryz.prog 7 2 = some (4, 2) := by kernel_rfl
theorem off_7_3 : fieldOff Tryz.prog 7 3 = some 3 := by kernel_rfl
theorem fty_7_3 : fieldTy Tryz.prog 7 3 = some (6, 3) := by kernel_rfl
theorem agg_8 : isAggT Tryz.prog 8 = some true := by kernel_rfl
theorem size_8 : sizeT Tryz.prog 8 = some 4 := by kernel_rfl
theorem zero_8 : zeroD Tryz.prog 8 = some [.int .i64 0, .int .i64 0, .bool false, .int .u8 0] := by kernel_rfl
theorem place_8 : placesT Tryz.prog 8 = some [(0, 1), (1, 1), (2, 1), (3, 1)] := by kernel_rfl
theorem off_8_0 : fieldOff Tryz.prog 8 0 = some 0 := by kernel_rfl
theorem fty_8_0 : fieldTy Tryz.prog 8 0 = some (2, 0) := by kernel_rfl
theorem off_8_1 : fieldOff Tryz.prog 8 1 = some 1 := by kernel_rfl
theorem fty_8_1 : fieldTy Tryz.prog 8 1 = some (3, 1) := by kernel_rfl
theorem off_8_2 : fieldOff Tryz.prog 8 2 = some 2 := by kernel_rfl
theorem fty_8_2 : fieldTy Tryz.prog 8 2 = some (4, 2) := by kernel_rfl
theorem off_8_3 : fieldOff Tryz.prog 8 3 = some 3 := by kernel_rfl
theorem fty_8_3 : fieldTy Tryz.prog 8 3 = some (6, 3) := by kernel_rfl
theorem agg_9 : isAggT Tryz.prog 9 = some false := by kernel_rfl
theorem size_9 : sizeT Tryz.prog 9 = some 1 := by kernel_rfl
theorem zero_9 : zeroD Tryz.prog 9 = some [.str ByteArray.empty] := by kernel_rfl
theorem und_9 : Tryz.prog.underlying 9 = some (.string) := by kernel_rfl
theorem agg_10 : isAggT Tryz.prog 10 = some false := by kernel_rfl
theorem size_10 : sizeT Tryz.prog 10 = some 1 := by kernel_rfl
theorem zero_10 : zeroD Tryz.prog 10 = some [.str ByteArray.empty] := by kernel_rfl
theorem und_10 : Tryz.prog.underlying 10 = some (.string) := by kernel_rfl
theorem agg_11 : isAggT Tryz.prog 11 = some false := by kernel_rfl
theorem size_11 : sizeT Tryz.prog 11 = some 1 := by kernel_rfl
theorem zero_11 : zeroD Tryz.prog 11 = some [.str ByteArray.empty] := by kernel_rfl
theorem und_11 : Tryz.prog.underlying 11 = some (.string) := by kernel_rfl
theorem agg_12 : isAggT Tryz.prog 12 = some false := by kernel_rfl
theorem size_12 : sizeT Tryz.prog 12 = some 1 := by kernel_rfl
theorem zero_12 : zeroD Tryz.prog 12 = some [.int .u64 0] := by kernel_rfl
theorem und_12 : Tryz.prog.underlying 12 = some (.int .u64) := by kernel_rfl
theorem agg_13 : isAggT Tryz.prog 13 = some true := by kernel_rfl
theorem size_13 : sizeT Tryz.prog 13 = some 2 := by kernel_rfl
theorem zero_13 : zeroD Tryz.prog 13 = some [.str ByteArray.empty, .int .u64 0] := by kernel_rfl
theorem place_13 : placesT Tryz.prog 13 = some [(0, 1), (1, 1)] := by kernel_rfl
theorem off_13_0 : fieldOff Tryz.prog 13 0 = some 0 := by kernel_rfl
theorem fty_13_0 : fieldTy Tryz.prog 13 0 = some (9, 0) := by kernel_rfl
theorem off_13_1 : fieldOff Tryz.prog 13 1 = some 1 := by kernel_rfl
theorem fty_13_1 : fieldTy Tryz.prog 13 1 = some (12, 1) := by kernel_rfl
theorem agg_14 : isAggT Tryz.prog 14 = some true := by kernel_rfl
theorem size_14 : sizeT Tryz.prog 14 = some 2 := by kernel_rfl
theorem zero_14 : zeroD Tryz.prog 14 = some [.str ByteArray.empty, .int .u64 0] := by kernel_rfl
theorem place_14 : placesT Tryz.prog 14 = some [(0, 1), (1, 1)] := by kernel_rfl
theorem off_14_0 : fieldOff Tryz.prog 14 0 = some 0 := by kernel_rfl
theorem fty_14_0 : fieldTy Tryz.prog 14 0 = some (9, 0) := by kernel_rfl
theorem off_14_1 : fieldOff Tryz.prog 14 1 = some 1 := by kernel_rfl
theorem fty_14_1 : fieldTy Tryz.prog 14 1 = some (12, 1) := by kernel_rfl
theorem agg_15 : isAggT Tryz.prog 15 = some false := by kernel_rfl
theorem size_15 : sizeT Tryz.prog 15 = some 1 := by kernel_rfl
theorem zero_15 : zeroD Tryz.prog 15 = some [.nilp] := by kernel_rfl
theorem und_15 : Tryz.prog.underlying 15 = some (.pointer 240) := by kernel_rfl
theorem agg_16 : isAggT Tryz.prog 16 = some false := by kernel_rfl
theorem size_16 : sizeT Tryz.prog 16 = some 1 := by kernel_rfl
theorem zero_16 : zeroD Tryz.prog 16 = some [.nilp] := by kernel_rfl
theorem und_16 : Tryz.prog.underlying 16 = some (.pointer 243) := by kernel_rfl
theorem agg_17 : isAggT Tryz.prog 17 = some false := by kernel_rfl
theorem size_17 : sizeT Tryz.prog 17 = some 1 := by kernel_rfl
theorem zero_17 : zeroD Tryz.prog 17 = some [.nilp] := by kernel_rfl
theorem und_17 : Tryz.prog.underlying 17 = some (.pointer 250) := by kernel_rfl
theorem agg_18 : isAggT Tryz.prog 18 = some true := by kernel_rfl
theorem size_18 : sizeT Tryz.prog 18 = some 1 := by kernel_rfl
theorem zero_18 : zeroD Tryz.prog 18 = some [.nilp] := by kernel_rfl
theorem place_18 : placesT Tryz.prog 18 = some [(0, 1)] := by kernel_rfl
theorem off_18_0 : fieldOff Tryz.prog 18 0 = some 0 := by kernel_rfl
theorem fty_18_0 : fieldTy Tryz.prog 18 0 = some (17, 0) := by kernel_rfl
theorem agg_19 : isAggT Tryz.prog 19 = some true := by kernel_rfl
theorem size_19 : sizeT Tryz.prog 19 = some 1 := by kernel_rfl
theorem zero_19 : zeroD Tryz.prog 19 = some [.nilp] := by kernel_rfl
theorem place_19 : placesT Tryz.prog 19 = some [(0, 1)] := by kernel_rfl
theorem off_19_0 : fieldOff Tryz.prog 19 0 = some 0 := by kernel_rfl
theorem fty_19_0 : fieldTy Tryz.prog 19 0 = some (17, 0) := by kernel_rfl
theorem agg_20 : isAggT Tryz.prog 20 = some false := by kernel_rfl
theorem size_20 : sizeT Tryz.prog 20 = some 1 := by kernel_rfl
theorem zero_20 : zeroD Tryz.prog 20 = some [.nili] := by kernel_rfl
theorem agg_21 : isAggT Tryz.prog 21 = some false := by kernel_rfl
theorem size_21 : sizeT Tryz.prog 21 = some 1 := by kernel_rfl
theorem zero_21 : zeroD Tryz.prog 21 = some [.int .i32 0] := by kernel_rfl
theorem und_21 : Tryz.prog.underlying 21 = some (.int .i32) := by kernel_rfl
theorem agg_22 : isAggT Tryz.prog 22 = some false := by kernel_rfl
theorem size_22 : sizeT Tryz.prog 22 = some 1 := by kernel_rfl
theorem zero_22 : zeroD Tryz.prog 22 = some [.nils] := by kernel_rfl
theorem und_22 : Tryz.prog.underlying 22 = some (.slice 70) := by kernel_rfl
theorem bytes_70_22 : Tryz.prog.bytesOf 70 = 16 := by kernel_rfl
theorem agg_23 : isAggT Tryz.prog 23 = some true := by kernel_rfl
theorem size_23 : sizeT Tryz.prog 23 = some 3 := by kernel_rfl
theorem zero_23 : zeroD Tryz.prog 23 = some [.int .i64 0, .int .i64 0, .nils] := by kernel_rfl
theorem place_23 : placesT Tryz.prog 23 = some [(0, 1), (1, 1), (2, 1)] := by kernel_rfl
theorem off_23_0 : fieldOff Tryz.prog 23 0 = some 0 := by kernel_rfl
theorem fty_23_0 : fieldTy Tryz.prog 23 0 = some (3, 0) := by kernel_rfl
theorem off_23_1 : fieldOff Tryz.prog 23 1 = some 1 := by kernel_rfl
theorem fty_23_1 : fieldTy Tryz.prog 23 1 = some (3, 1) := by kernel_rfl
theorem off_23_2 : fieldOff Tryz.prog 23 2 = some 2 := by kernel_rfl
theorem fty_23_2 : fieldTy Tryz.prog 23 2 = some (22, 2) := by kernel_rfl
theorem agg_24 : isAggT Tryz.prog 24 = some true := by kernel_rfl
theorem size_24 : sizeT Tryz.prog 24 = some 3 := by kernel_rfl
theorem zero_24 : zeroD Tryz.prog 24 = some [.int .i64 0, .int .i64 0, .nils] := by kernel_rfl
theorem place_24 : placesT Tryz.prog 24 = some [(0, 1), (1, 1), (2, 1)] := by kernel_rfl
theorem off_24_0 : fieldOff Tryz.prog 24 0 = some 0 := by kernel_rfl
theorem fty_24_0 : fieldTy Tryz.prog 24 0 = some (3, 0) := by kernel_rfl
theorem off_24_1 : fieldOff Tryz.prog 24 1 = some 1 := by kernel_rfl
theorem fty_24_1 : fieldTy Tryz.prog 24 1 = some (3, 1) := by kernel_rfl
theorem off_24_2 : fieldOff Tryz.prog 24 2 = some 2 := by kernel_rfl
theorem fty_24_2 : fieldTy Tryz.prog 24 2 = some (22, 2) := by kernel_rfl
theorem agg_25 : isAggT Tryz.prog 25 = some false := by kernel_rfl
theorem size_25 : sizeT Tryz.prog 25 = some 1 := by kernel_rfl
theorem zero_25 : zeroD Tryz.prog 25 = some [.nils] := by kernel_rfl
theorem und_25 : Tryz.prog.underlying 25 = some (.slice 75) := by kernel_rfl
theorem bytes_75_25 : Tryz.prog.bytesOf 75 = 32 := by kernel_rfl
theorem agg_26 : isAggT Tryz.prog 26 = some true := by kernel_rfl
theorem size_26 : sizeT Tryz.prog 26 = some 4 := by kernel_rfl
theorem zero_26 : zeroD Tryz.prog 26 = some [.int .i64 0, .int .i64 0, .int .i64 0, .nils] := by kernel_rfl
theorem place_26 : placesT Tryz.prog 26 = some [(0, 1), (1, 1), (2, 1), (3, 1)] := by kernel_rfl
theorem off_26_0 : fieldOff Tryz.prog 26 0 = some 0 := by kernel_rfl
theorem fty_26_0 : fieldTy Tryz.prog 26 0 = some (3, 0) := by kernel_rfl
theorem off_26_1 : fieldOff Tryz.prog 26 1 = some 1 := by kernel_rfl
theorem fty_26_1 : fieldTy Tryz.prog 26 1 = some (3, 1) := by kernel_rfl
theorem off_26_2 : fieldOff Tryz.prog 26 2 = some 2 := by kernel_rfl
theorem fty_26_2 : fieldTy Tryz.prog 26 2 = some (3, 2) := by kernel_rfl
theorem off_26_3 : fieldOff Tryz.prog 26 3 = some 3 := by kernel_rfl
theorem fty_26_3 : fieldTy Tryz.prog 26 3 = some (25, 3) := by kernel_rfl
theorem agg_27 : isAggT Tryz.prog 27 = some true := by kernel_rfl
theorem size_27 : sizeT Tryz.prog 27 = some 4 := by kernel_rfl
theorem zero_27 : zeroD Tryz.prog 27 = some [.int .i64 0, .int .i64 0, .int .i64 0, .nils] := by kernel_rfl
theorem place_27 : placesT Tryz.prog 27 = some [(0, 1), (1, 1), (2, 1), (3, 1)] := by kernel_rfl
theorem off_27_0 : fieldOff Tryz.prog 27 0 = some 0 := by kernel_rfl
theorem fty_27_0 : fieldTy Tryz.prog 27 0 = some (3, 0) := by kernel_rfl
theorem off_27_1 : fieldOff Tryz.prog 27 1 = some 1 := by kernel_rfl
theorem fty_27_1 : fieldTy Tryz.prog 27 1 = some (3, 1) := by kernel_rfl
theorem off_27_2 : fieldOff Tryz.prog 27 2 = some 2 := by kernel_rfl
theorem fty_27_2 : fieldTy Tryz.prog 27 2 = some (3, 2) := by kernel_rfl
theorem off_27_3 : fieldOff Tryz.prog 27 3 = some 3 := by kernel_rfl
theorem fty_27_3 : fieldTy Tryz.prog 27 3 = some (25, 3) := by kernel_rfl
theorem agg_28 : isAggT Tryz.prog 28 = some true := by kernel_rfl
theorem size_28 : sizeT Tryz.prog 28 = some 20 := by kernel_rfl
theorem zero_28 : zeroD Tryz.prog 28 = some [.int .i64 0, .int .i64 0, .int .i64 0, .nils, .int .i64 0, .int .i64 0, .int .i64 0, .nils, .int .i64 0, .int .i64 0, .int .i64 0, .nils, .int .i64 0, .int .i64 0, .int .i64 0, .nils, .int .i64 0, .int .i64 0, .int .i64 0, .nils] := by kernel_rfl
theorem place_28 : placesT Tryz.prog 28 = some [(0, 4), (4, 4), (8, 4), (12, 4), (16, 4)] := by kernel_rfl
theorem off_28_0 : fieldOff Tryz.prog 28 0 = some 0 := by kernel_rfl
theorem fty_28_0 : fieldTy Tryz.prog 28 0 = some (27, 0) := by kernel_rfl
theorem off_28_1 : fieldOff Tryz.prog 28 1 = some 4 := by kernel_rfl
theorem fty_28_1 : fieldTy Tryz.prog 28 1 = some (27, 4) := by kernel_rfl
theorem off_28_2 : fieldOff Tryz.prog 28 2 = some 8 := by kernel_rfl
theorem fty_28_2 : fieldTy Tryz.prog 28 2 = some (27, 8) := by kernel_rfl
theorem off_28_3 : fieldOff Tryz.prog 28 3 = some 12 := by kernel_rfl
theorem fty_28_3 : fieldTy Tryz.prog 28 3 = some (27, 12) := by kernel_rfl
theorem off_28_4 : fieldOff Tryz.prog 28 4 = some 16 := by kernel_rfl
theorem fty_28_4 : fieldTy Tryz.prog 28 4 = some (27, 16) := by kernel_rfl
theorem agg_29 : isAggT Tryz.prog 29 = some true := by kernel_rfl
theorem size_29 : sizeT Tryz.prog 29 = some 20 := by kernel_rfl
theorem zero_29 : zeroD Tryz.prog 29 = some [.int .i64 0, .int .i64 0, .int .i64 0, .nils, .int .i64 0, .int .i64 0, .int .i64 0, .nils, .int .i64 0, .int .i64 0, .int .i64 0, .nils, .int .i64 0, .int .i64 0, .int .i64 0, .nils, .int .i64 0, .int .i64 0, .int .i64 0, .nils] := by kernel_rfl
theorem place_29 : placesT Tryz.prog 29 = some [(0, 4), (4, 4), (8, 4), (12, 4), (16, 4)] := by kernel_rfl
theorem off_29_0 : fieldOff Tryz.prog 29 0 = some 0 := by kernel_rfl
theorem fty_29_0 : fieldTy Tryz.prog 29 0 = some (27, 0) := by kernel_rfl
theorem off_29_1 : fieldOff Tryz.prog 29 1 = some 4 := by kernel_rfl
theorem fty_29_1 : fieldTy Tryz.prog 29 1 = some (27, 4) := by kernel_rfl
theorem off_29_2 : fieldOff Tryz.prog 29 2 = some 8 := by kernel_rfl
theorem fty_29_2 : fieldTy Tryz.prog 29 2 = some (27, 8) := by kernel_rfl
theorem off_29_3 : fieldOff Tryz.prog 29 3 = some 12 := by kernel_rfl
theorem fty_29_3 : fieldTy Tryz.prog 29 3 = some (27, 12) := by kernel_rfl
theorem off_29_4 : fieldOff Tryz.prog 29 4 = some 16 := by kernel_rfl
theorem fty_29_4 : fieldTy Tryz.prog 29 4 = some (27, 16) := by kernel_rfl
theorem agg_30 : isAggT Tryz.prog 30 = some false := by kernel_rfl
theorem size_30 : sizeT Tryz.prog 30 = some 1 := by kernel_rfl
theorem zero_30 : zeroD Tryz.prog 30 = some [.nils] := by kernel_rfl
theorem und_30 : Tryz.prog.underlying 30 = some (.slice 72) := by kernel_rfl
theorem bytes_72_30 : Tryz.prog.bytesOf 72 = 56 := by kernel_rfl
theorem agg_31 : isAggT Tryz.prog 31 = some false := by kernel_rfl
theorem size_31 : sizeT Tryz.prog 31 = some 1 := by kernel_rfl
theorem zero_31 : zeroD Tryz.prog 31 = some [.nils] := by kernel_rfl
theorem und_31 : Tryz.prog.underlying 31 = some (.slice 106) := by kernel_rfl
theorem bytes_106_31 : Tryz.prog.bytesOf 106 = 24 := by kernel_rfl
theorem agg_32 : isAggT Tryz.prog 32 = some true := by kernel_rfl
theorem size_32 : sizeT Tryz.prog 32 = some 25 := by kernel_rfl
theorem zero_32 : zeroD Tryz.prog 32 = some [.int .i64 0, .int .i64 0, .nils, .int .i64 0, .int .i64 0, .int .i64 0, .nils, .int .i64 0, .int .i64 0, .int .i64 0, .nils, .int .i64 0, .int .i64 0, .int .i64 0, .nils, .int .i64 0, .int .i64 0, .int .i64 0, .nils, .int .i64 0, .int .i64 0, .int .i64 0, .nils, .nils, .nils] := by kernel_rfl
theorem place_32 : placesT Tryz.prog 32 = some [(0, 3), (3, 20), (23, 1), (24, 1)] := by kernel_rfl
theorem off_32_0 : fieldOff Tryz.prog 32 0 = some 0 := by kernel_rfl
theorem fty_32_0 : fieldTy Tryz.prog 32 0 = some (24, 0) := by kernel_rfl
theorem off_32_1 : fieldOff Tryz.prog 32 1 = some 3 := by kernel_rfl
theorem fty_32_1 : fieldTy Tryz.prog 32 1 = some (29, 3) := by kernel_rfl
theorem off_32_2 : fieldOff Tryz.prog 32 2 = some 23 := by kernel_rfl
theorem fty_32_2 : fieldTy Tryz.prog 32 2 = some (30, 23) := by kernel_rfl
theorem off_32_3 : fieldOff Tryz.prog 32 3 = some 24 := by kernel_rfl
theorem fty_32_3 : fieldTy Tryz.prog 32 3 = some (31, 24) := by kernel_rfl
theorem agg_33 : isAggT Tryz.prog 33 = some true := by kernel_rfl
theorem size_33 : sizeT Tryz.prog 33 = some 25 := by kernel_rfl
theorem zero_33 : zeroD Tryz.prog 33 = some [.int .i64 0, .int .i64 0, .nils, .int .i64 0, .int .i64 0, .int .i64 0, .nils, .int .i64 0, .int .i64 0, .int .i64 0, .nils, .int .i64 0, .int .i64 0, .int .i64 0, .nils, .int .i64 0, .int .i64 0, .int .i64 0, .nils, .int .i64 0, .int .i64 0, .int .i64 0, .nils, .nils, .nils] := by kernel_rfl
theorem place_33 : placesT Tryz.prog 33 = some [(0, 3), (3, 20), (23, 1), (24, 1)] := by kernel_rfl
theorem off_33_0 : fieldOff Tryz.prog 33 0 = some 0 := by kernel_rfl
theorem fty_33_0 : fieldTy Tryz.prog 33 0 = some (24, 0) := by kernel_rfl
theorem off_33_1 : fieldOff Tryz.prog 33 1 = some 3 := by kernel_rfl
theorem fty_33_1 : fieldTy Tryz.prog 33 1 = some (29, 3) := by kernel_rfl
theorem off_33_2 : fieldOff Tryz.prog 33 2 = some 23 := by kernel_rfl
theorem fty_33_2 : fieldTy Tryz.prog 33 2 = some (30, 23) := by kernel_rfl
theorem off_33_3 : fieldOff Tryz.prog 33 3 = some 24 := by kernel_rfl
theorem fty_33_3 : fieldTy Tryz.prog 33 3 = some (31, 24) := by kernel_rfl
theorem agg_34 : isAggT Tryz.prog 34 = some false := by kernel_rfl
theorem size_34 : sizeT Tryz.prog 34 = some 1 := by kernel_rfl
theorem zero_34 : zeroD Tryz.prog 34 = some [.nils] := by kernel_rfl
theorem und_34 : Tryz.prog.underlying 34 = some (.slice 46) := by kernel_rfl
theorem bytes_46_34 : Tryz.prog.bytesOf 46 = 32 := by kernel_rfl
theorem agg_35 : isAggT Tryz.prog 35 = some true := by kernel_rfl
theorem size_35 : sizeT Tryz.prog 35 = some 7 := by kernel_rfl
theorem zero_35 : zeroD Tryz.prog 35 = some [.int .i64 0, .int .i64 0, .int .i64 0, .int .i64 0, .int .i64 0, .int .i64 0, .int .i64 0] := by kernel_rfl
theorem place_35 : placesT Tryz.prog 35 = some [(0, 1), (1, 1), (2, 1), (3, 1), (4, 1), (5, 1), (6, 1)] := by kernel_rfl
theorem off_35_0 : fieldOff Tryz.prog 35 0 = some 0 := by kernel_rfl
theorem fty_35_0 : fieldTy Tryz.prog 35 0 = some (3, 0) := by kernel_rfl
theorem off_35_1 : fieldOff Tryz.prog 35 1 = some 1 := by kernel_rfl
theorem fty_35_1 : fieldTy Tryz.prog 35 1 = some (3, 1) := by kernel_rfl
theorem off_35_2 : fieldOff Tryz.prog 35 2 = some 2 := by kernel_rfl
theorem fty_35_2 : fieldTy Tryz.prog 35 2 = some (3, 2) := by kernel_rfl
theorem off_35_3 : fieldOff Tryz.prog 35 3 = some 3 := by kernel_rfl
theorem fty_35_3 : fieldTy Tryz.prog 35 3 = some (3, 3) := by kernel_rfl
theorem off_35_4 : fieldOff Tryz.prog 35 4 = some 4 := by kernel_rfl
theorem fty_35_4 : fieldTy Tryz.prog 35 4 = some (3, 4) := by kernel_rfl
theorem off_35_5 : fieldOff Tryz.prog 35 5 = some 5 := by kernel_rfl
theorem fty_35_5 : fieldTy Tryz.prog 35 5 = some (3, 5) := by kernel_rfl
theorem off_35_6 : fieldOff Tryz.prog 35 6 = some 6 := by kernel_rfl
theorem fty_35_6 : fieldTy Tryz.prog 35 6 = some (3, 6) := by kernel_rfl
theorem agg_36 : isAggT Tryz.prog 36 = some true := by kernel_rfl
theorem size_36 : sizeT Tryz.prog 36 = some 7 := by kernel_rfl
theorem zero_36 : zeroD Tryz.prog 36 = some [.int .i64 0, .int .i64 0, .int .i64 0, .int .i64 0, .int .i64 0, .int .i64 0, .int .i64 0] := by kernel_rfl
theorem place_36 : placesT Tryz.prog 36 = some [(0, 1), (1, 1), (2, 1), (3, 1), (4, 1), (5, 1), (6, 1)] := by kernel_rfl
theorem off_36_0 : fieldOff Tryz.prog 36 0 = some 0 := by kernel_rfl
theorem fty_36_0 : fieldTy Tryz.prog 36 0 = some (3, 0) := by kernel_rfl
theorem off_36_1 : fieldOff Tryz.prog 36 1 = some 1 := by kernel_rfl
theorem fty_36_1 : fieldTy Tryz.prog 36 1 = some (3, 1) := by kernel_rfl
theorem off_36_2 : fieldOff Tryz.prog 36 2 = some 2 := by kernel_rfl
theorem fty_36_2 : fieldTy Tryz.prog 36 2 = some (3, 2) := by kernel_rfl
theorem off_36_3 : fieldOff Tryz.prog 36 3 = some 3 := by kernel_rfl
theorem fty_36_3 : fieldTy Tryz.prog 36 3 = some (3, 3) := by kernel_rfl
theorem off_36_4 : fieldOff Tryz.prog 36 4 = some 4 := by kernel_rfl
theorem fty_36_4 : fieldTy Tryz.prog 36 4 = some (3, 4) := by kernel_rfl
theorem off_36_5 : fieldOff Tryz.prog 36 5 = some 5 := by kernel_rfl
theorem fty_36_5 : fieldTy Tryz.prog 36 5 = some (3, 5) := by kernel_rfl
theorem off_36_6 : fieldOff Tryz.prog 36 6 = some 6 := by kernel_rfl
theorem fty_36_6 : fieldTy Tryz.prog 36 6 = some (3, 6) := by kernel_rfl
theorem agg_37 : isAggT Tryz.prog 37 = some false := by kernel_rfl
theorem size_37 : sizeT Tryz.prog 37 = some 1 := by kernel_rfl
theorem zero_37 : zeroD Tryz.prog 37 = some [.nilf] := by kernel_rfl
theorem agg_38 : isAggT Tryz.prog 38 = some false := by kernel_rfl
theorem size_38 : sizeT Tryz.prog 38 = some 1 := by kernel_rfl
theorem zero_38 : zeroD Tryz.prog 38 = some [.nilf] := by kernel_rfl
theorem agg_39 : isAggT Tryz.prog 39 = some false := by kernel_rfl
theorem size_39 : sizeT Tryz.prog 39 = some 1 := by kernel_rfl
theorem zero_39 : zeroD Tryz.prog 39 = some [.int .i64 0] := by kernel_rfl
theorem und_39 : Tryz.prog.underlying 39 = some (.int .i64) := by kernel_rfl
theorem agg_40 : isAggT Tryz.prog 40 = some false := by kernel_rfl
theorem size_40 : sizeT Tryz.prog 40 = some 1 := by kernel_rfl
theorem agg_41 : isAggT Tryz.prog 41 = some false := by kernel_rfl
theorem size_41 : sizeT Tryz.prog 41 = some 1 := by kernel_rfl
theorem zero_41 : zeroD Tryz.prog 41 = some [.nilf] := by kernel_rfl
theorem agg_42 : isAggT Tryz.prog 42 = some false := by kernel_rfl
theorem size_42 : sizeT Tryz.prog 42 = some 1 := by kernel_rfl
theorem zero_42 : zeroD Tryz.prog 42 = some [.nilf] := by kernel_rfl
theorem agg_43 : isAggT Tryz.prog 43 = some false := by kernel_rfl
theorem size_43 : sizeT Tryz.prog 43 = some 1 := by kernel_rfl
theorem zero_43 : zeroD Tryz.prog 43 = some [.nilf] := by kernel_rfl
theorem agg_44 : isAggT Tryz.prog 44 = some false := by kernel_rfl
theorem size_44 : sizeT Tryz.prog 44 = some 1 := by kernel_rfl
theorem zero_44 : zeroD Tryz.prog 44 = some [.int .i64 0] := by kernel_rfl
theorem und_44 : Tryz.prog.underlying 44 = some (.int .i64) := by kernel_rfl
theorem agg_45 : isAggT Tryz.prog 45 = some true := by kernel_rfl
theorem size_45 : sizeT Tryz.prog 45 = some 4 := by kernel_rfl
theorem zero_45 : zeroD Tryz.prog 45 = some [.int .i64 0, .int .i64 0, .int .i64 0, .int .i64 0] := by kernel_rfl
theorem place_45 : placesT Tryz.prog 45 = some [(0, 1), (1, 1), (2, 1), (3, 1)] := by kernel_rfl
theorem off_45_0 : fieldOff Tryz.prog 45 0 = some 0 := by kernel_rfl
theorem fty_45_0 : fieldTy Tryz.prog 45 0 = some (3, 0) := by kernel_rfl
theorem off_45_1 : fieldOff Tryz.prog 45 1 = some 1 := by kernel_rfl
theorem fty_45_1 : fieldTy Tryz.prog 45 1 = some (3, 1) := by kernel_rfl
theorem off_45_2 : fieldOff Tryz.prog 45 2 = some 2 := by kernel_rfl
theorem fty_45_2 : fieldTy Tryz.prog 45 2 = some (44, 2) := by kernel_rfl
theorem off_45_3 : fieldOff Tryz.prog 45 3 = some 3 := by kernel_rfl
theorem fty_45_3 : fieldTy Tryz.prog 45 3 = some (3, 3) := by kernel_rfl
theorem agg_46 : isAggT Tryz.prog 46 = some true := by kernel_rfl
theorem size_46 : sizeT Tryz.prog 46 = some 4 := by kernel_rfl
theorem zero_46 : zeroD Tryz.prog 46 = some [.int .i64 0, .int .i64 0, .int .i64 0, .int .i64 0] := by kernel_rfl
theorem place_46 : placesT Tryz.prog 46 = some [(0, 1), (1, 1), (2, 1), (3, 1)] := by kernel_rfl
theorem off_46_0 : fieldOff Tryz.prog 46 0 = some 0 := by kernel_rfl
theorem fty_46_0 : fieldTy Tryz.prog 46 0 = some (3, 0) := by kernel_rfl
theorem off_46_1 : fieldOff Tryz.prog 46 1 = some 1 := by kernel_rfl
theorem fty_46_1 : fieldTy Tryz.prog 46 1 = some (3, 1) := by kernel_rfl
theorem off_46_2 : fieldOff Tryz.prog 46 2 = some 2 := by kernel_rfl
theorem fty_46_2 : fieldTy Tryz.prog 46 2 = some (44, 2) := by kernel_rfl
theorem off_46_3 : fieldOff Tryz.prog 46 3 = some 3 := by kernel_rfl
theorem fty_46_3 : fieldTy Tryz.prog 46 3 = some (3, 3) := by kernel_rfl
theorem agg_47 : isAggT Tryz.prog 47 = some false := by kernel_rfl
theorem size_47 : sizeT Tryz.prog 47 = some 1 := by kernel_rfl
theorem zero_47 : zeroD Tryz.prog 47 = some [.nilf] := by kernel_rfl
theorem agg_48 : isAggT Tryz.prog 48 = some false := by kernel_rfl
theorem size_48 : sizeT Tryz.prog 48 = some 1 := by kernel_rfl
theorem agg_49 : isAggT Tryz.prog 49 = some false := by kernel_rfl
theorem size_49 : sizeT Tryz.prog 49 = some 1 := by kernel_rfl
theorem zero_49 : zeroD Tryz.prog 49 = some [.nilf] := by kernel_rfl
theorem agg_50 : isAggT Tryz.prog 50 = some false := by kernel_rfl
theorem size_50 : sizeT Tryz.prog 50 = some 1 := by kernel_rfl
theorem zero_50 : zeroD Tryz.prog 50 = some [.nilf] := by kernel_rfl
theorem agg_51 : isAggT Tryz.prog 51 = some false := by kernel_rfl
theorem size_51 : sizeT Tryz.prog 51 = some 1 := by kernel_rfl
theorem agg_52 : isAggT Tryz.prog 52 = some false := by kernel_rfl
theorem size_52 : sizeT Tryz.prog 52 = some 1 := by kernel_rfl
theorem zero_52 : zeroD Tryz.prog 52 = some [.nilf] := by kernel_rfl
theorem agg_53 : isAggT Tryz.prog 53 = some false := by kernel_rfl
theorem size_53 : sizeT Tryz.prog 53 = some 1 := by kernel_rfl
theorem agg_54 : isAggT Tryz.prog 54 = some false := by kernel_rfl
theorem size_54 : sizeT Tryz.prog 54 = some 1 := by kernel_rfl
theorem zero_54 : zeroD Tryz.prog 54 = some [.nilf] := by kernel_rfl
theorem agg_55 : isAggT Tryz.prog 55 = some false := by kernel_rfl
theorem size_55 : sizeT Tryz.prog 55 = some 1 := by kernel_rfl
theorem zero_55 : zeroD Tryz.prog 55 = some [.nilf] := by kernel_rfl
theorem agg_56 : isAggT Tryz.prog 56 = some false := by kernel_rfl
theorem size_56 : sizeT Tryz.prog 56 = some 1 := by kernel_rfl
theorem agg_57 : isAggT Tryz.prog 57 = some false := by kernel_rfl
theorem size_57 : sizeT Tryz.prog 57 = some 1 := by kernel_rfl
theorem zero_57 : zeroD Tryz.prog 57 = some [.nilf] := by kernel_rfl
theorem agg_58 : isAggT Tryz.prog 58 = some false := by kernel_rfl
theorem size_58 : sizeT Tryz.prog 58 = some 1 := by kernel_rfl
theorem zero_58 : zeroD Tryz.prog 58 = some [.nilf] := by kernel_rfl
theorem agg_59 : isAggT Tryz.prog 59 = some false := by kernel_rfl
theorem size_59 : sizeT Tryz.prog 59 = some 1 := by kernel_rfl
theorem zero_59 : zeroD Tryz.prog 59 = some [.nilf] := by kernel_rfl
theorem agg_60 : isAggT Tryz.prog 60 = some false := by kernel_rfl
theorem size_60 : sizeT Tryz.prog 60 = some 1 := by kernel_rfl
theorem zero_60 : zeroD Tryz.prog 60 = some [.nilf] := by kernel_rfl
theorem agg_61 : isAggT Tryz.prog 61 = some false := by kernel_rfl
theorem size_61 : sizeT Tryz.prog 61 = some 1 := by kernel_rfl
theorem zero_61 : zeroD Tryz.prog 61 = some [.nilf] := by kernel_rfl
theorem agg_62 : isAggT Tryz.prog 62 = some false := by kernel_rfl
theorem size_62 : sizeT Tryz.prog 62 = some 1 := by kernel_rfl
theorem zero_62 : zeroD Tryz.prog 62 = some [.nils] := by kernel_rfl
theorem und_62 : Tryz.prog.underlying 62 = some (.slice 3) := by kernel_rfl
theorem bytes_3_62 : Tryz.prog.bytesOf 3 = 8 := by kernel_rfl
theorem agg_63 : isAggT Tryz.prog 63 = some false := by kernel_rfl
theorem size_63 : sizeT Tryz.prog 63 = some 1 := by kernel_rfl
theorem zero_63 : zeroD Tryz.prog 63 = some [.nils] := by kernel_rfl
theorem und_63 : Tryz.prog.underlying 63 = some (.slice 4) := by kernel_rfl
theorem bytes_4_63 : Tryz.prog.bytesOf 4 = 1 := by kernel_rfl
theorem agg_64 : isAggT Tryz.prog 64 = some true := by kernel_rfl
theorem size_64 : sizeT Tryz.prog 64 = some 8 := by kernel_rfl
theorem zero_64 : zeroD Tryz.prog 64 = some [.int .i64 0, .int .i64 0, .int .i64 0, .int .i64 0, .int .i64 0, .int .i64 0, .nils, .nils] := by kernel_rfl
theorem place_64 : placesT Tryz.prog 64 = some [(0, 1), (1, 1), (2, 1), (3, 1), (4, 1), (5, 1), (6, 1), (7, 1)] := by kernel_rfl
theorem off_64_0 : fieldOff Tryz.prog 64 0 = some 0 := by kernel_rfl
theorem fty_64_0 : fieldTy Tryz.prog 64 0 = some (3, 0) := by kernel_rfl
theorem off_64_1 : fieldOff Tryz.prog 64 1 = some 1 := by kernel_rfl
theorem fty_64_1 : fieldTy Tryz.prog 64 1 = some (3, 1) := by kernel_rfl
theorem off_64_2 : fieldOff Tryz.prog 64 2 = some 2 := by kernel_rfl
theorem fty_64_2 : fieldTy Tryz.prog 64 2 = some (3, 2) := by kernel_rfl
theorem off_64_3 : fieldOff Tryz.prog 64 3 = some 3 := by kernel_rfl
theorem fty_64_3 : fieldTy Tryz.prog 64 3 = some (3, 3) := by kernel_rfl
theorem off_64_4 : fieldOff Tryz.prog 64 4 = some 4 := by kernel_rfl
theorem fty_64_4 : fieldTy Tryz.prog 64 4 = some (3, 4) := by kernel_rfl
theorem off_64_5 : fieldOff Tryz.prog 64 5 = some 5 := by kernel_rfl
theorem fty_64_5 : fieldTy Tryz.prog 64 5 = some (3, 5) := by kernel_rfl
theorem off_64_6 : fieldOff Tryz.prog 64 6 = some 6 := by kernel_rfl
theorem fty_64_6 : fieldTy Tryz.prog 64 6 = some (62, 6) := by kernel_rfl
theorem off_64_7 : fieldOff Tryz.prog 64 7 = some 7 := by kernel_rfl
theorem fty_64_7 : fieldTy Tryz.prog 64 7 = some (63, 7) := by kernel_rfl
theorem agg_65 : isAggT Tryz.prog 65 = some true := by kernel_rfl
theorem size_65 : sizeT Tryz.prog 65 = some 8 := by kernel_rfl
theorem zero_65 : zeroD Tryz.prog 65 = some [.int .i64 0, .int .i64 0, .int .i64 0, .int .i64 0, .int .i64 0, .int .i64 0, .nils, .nils] := by kernel_rfl
theorem place_65 : placesT Tryz.prog 65 = some [(0, 1), (1, 1), (2, 1), (3, 1), (4, 1), (5, 1), (6, 1), (7, 1)] := by kernel_rfl
theorem off_65_0 : fieldOff Tryz.prog 65 0 = some 0 := by kernel_rfl
theorem fty_65_0 : fieldTy Tryz.prog 65 0 = some (3, 0) := by kernel_rfl
theorem off_65_1 : fieldOff Tryz.prog 65 1 = some 1 := by kernel_rfl
theorem fty_65_1 : fieldTy Tryz.prog 65 1 = some (3, 1) := by kernel_rfl
theorem off_65_2 : fieldOff Tryz.prog 65 2 = some 2 := by kernel_rfl
theorem fty_65_2 : fieldTy Tryz.prog 65 2 = some (3, 2) := by kernel_rfl
theorem off_65_3 : fieldOff Tryz.prog 65 3 = some 3 := by kernel_rfl
theorem fty_65_3 : fieldTy Tryz.prog 65 3 = some (3, 3) := by kernel_rfl
theorem off_65_4 : fieldOff Tryz.prog 65 4 = some 4 := by kernel_rfl
theorem fty_65_4 : fieldTy Tryz.prog 65 4 = some (3, 4) := by kernel_rfl
theorem off_65_5 : fieldOff Tryz.prog 65 5 = some 5 := by kernel_rfl
theorem fty_65_5 : fieldTy Tryz.prog 65 5 = some (3, 5) := by kernel_rfl
theorem off_65_6 : fieldOff Tryz.prog 65 6 = some 6 := by kernel_rfl
theorem fty_65_6 : fieldTy Tryz.prog 65 6 = some (62, 6) := by kernel_rfl
theorem off_65_7 : fieldOff Tryz.prog 65 7 = some 7 := by kernel_rfl
theorem fty_65_7 : fieldTy Tryz.prog 65 7 = some (63, 7) := by kernel_rfl
theorem agg_66 : isAggT Tryz.prog 66 = some false := by kernel_rfl
theorem size_66 : sizeT Tryz.prog 66 = some 1 := by kernel_rfl
theorem zero_66 : zeroD Tryz.prog 66 = some [.nilf] := by kernel_rfl
theorem agg_67 : isAggT Tryz.prog 67 = some false := by kernel_rfl
theorem size_67 : sizeT Tryz.prog 67 = some 1 := by kernel_rfl
theorem zero_67 : zeroD Tryz.prog 67 = some [.nilf] := by kernel_rfl
theorem agg_68 : isAggT Tryz.prog 68 = some false := by kernel_rfl
theorem size_68 : sizeT Tryz.prog 68 = some 1 := by kernel_rfl
theorem zero_68 : zeroD Tryz.prog 68 = some [.nilf] := by kernel_rfl
theorem agg_69 : isAggT Tryz.prog 69 = some true := by kernel_rfl
theorem size_69 : sizeT Tryz.prog 69 = some 2 := by kernel_rfl
theorem zero_69 : zeroD Tryz.prog 69 = some [.int .i64 0, .int .i64 0] := by kernel_rfl
theorem place_69 : placesT Tryz.prog 69 = some [(0, 1), (1, 1)] := by kernel_rfl
theorem off_69_0 : fieldOff Tryz.prog 69 0 = some 0 := by kernel_rfl
theorem fty_69_0 : fieldTy Tryz.prog 69 0 = some (3, 0) := by kernel_rfl
theorem off_69_1 : fieldOff Tryz.prog 69 1 = some 1 := by kernel_rfl
theorem fty_69_1 : fieldTy Tryz.prog 69 1 = some (3, 1) := by kernel_rfl
theorem agg_70 : isAggT Tryz.prog 70 = some true := by kernel_rfl
theorem size_70 : sizeT Tryz.prog 70 = some 2 := by kernel_rfl
theorem zero_70 : zeroD Tryz.prog 70 = some [.int .i64 0, .int .i64 0] := by kernel_rfl
theorem place_70 : placesT Tryz.prog 70 = some [(0, 1), (1, 1)] := by kernel_rfl
theorem off_70_0 : fieldOff Tryz.prog 70 0 = some 0 := by kernel_rfl
theorem fty_70_0 : fieldTy Tryz.prog 70 0 = some (3, 0) := by kernel_rfl
theorem off_70_1 : fieldOff Tryz.prog 70 1 = some 1 := by kernel_rfl
theorem fty_70_1 : fieldTy Tryz.prog 70 1 = some (3, 1) := by kernel_rfl
theorem agg_71 : isAggT Tryz.prog 71 = some true := by kernel_rfl
theorem size_71 : sizeT Tryz.prog 71 = some 7 := by kernel_rfl
theorem zero_71 : zeroD Tryz.prog 71 = some [.int .i64 0, .int .i64 0, .int .i64 0, .int .i64 0, .int .i64 0, .int .i64 0, .bool false] := by kernel_rfl
theorem place_71 : placesT Tryz.prog 71 = some [(0, 2), (2, 2), (4, 2), (6, 1)] := by kernel_rfl
theorem off_71_0 : fieldOff Tryz.prog 71 0 = some 0 := by kernel_rfl
theorem fty_71_0 : fieldTy Tryz.prog 71 0 = some (70, 0) := by kernel_rfl
theorem off_71_1 : fieldOff Tryz.prog 71 1 = some 2 := by kernel_rfl
theorem fty_71_1 : fieldTy Tryz.prog 71 1 = some (70, 2) := by kernel_rfl
theorem off_71_2 : fieldOff Tryz.prog 71 2 = some 4 := by kernel_rfl
theorem fty_71_2 : fieldTy Tryz.prog 71 2 = some (70, 4) := by kernel_rfl
theorem off_71_3 : fieldOff Tryz.prog 71 3 = some 6 := by kernel_rfl
theorem fty_71_3 : fieldTy Tryz.prog 71 3 = some (4, 6) := by kernel_rfl
theorem agg_72 : isAggT Tryz.prog 72 = some true := by kernel_rfl
theorem size_72 : sizeT Tryz.prog 72 = some 7 := by kernel_rfl
theorem zero_72 : zeroD Tryz.prog 72 = some [.int .i64 0, .int .i64 0, .int .i64 0, .int .i64 0, .int .i64 0, .int .i64 0, .bool false] := by kernel_rfl
theorem place_72 : placesT Tryz.prog 72 = some [(0, 2), (2, 2), (4, 2), (6, 1)] := by kernel_rfl
theorem off_72_0 : fieldOff Tryz.prog 72 0 = some 0 := by kernel_rfl
theorem fty_72_0 : fieldTy Tryz.prog 72 0 = some (70, 0) := by kernel_rfl
theorem off_72_1 : fieldOff Tryz.prog 72 1 = some 2 := by kernel_rfl
theorem fty_72_1 : fieldTy Tryz.prog 72 1 = some (70, 2) := by kernel_rfl
theorem off_72_2 : fieldOff Tryz.prog 72 2 = some 4 := by kernel_rfl
theorem fty_72_2 : fieldTy Tryz.prog 72 2 = some (70, 4) := by kernel_rfl
theorem off_72_3 : fieldOff Tryz.prog 72 3 = some 6 := by kernel_rfl
theorem fty_72_3 : fieldTy Tryz.prog 72 3 = some (4, 6) := by kernel_rfl
theorem agg_73 : isAggT Tryz.prog 73 = some false := by kernel_rfl
theorem size_73 : sizeT Tryz.prog 73 = some 1 := by kernel_rfl
theorem zero_73 : zeroD Tryz.prog 73 = some [.nilf] := by kernel_rfl
theorem agg_74 : isAggT Tryz.prog 74 = some true := by kernel_rfl
theorem size_74 : sizeT Tryz.prog 74 = some 4 := by kernel_rfl
theorem zero_74 : zeroD Tryz.prog 74 = some [.int .i64 0, .int .i64 0, .int .i64 0, .int .i64 0] := by kernel_rfl
theorem place_74 : placesT Tryz.prog 74 = some [(0, 1), (1, 2), (3, 1)] := by kernel_rfl
theorem off_74_0 : fieldOff Tryz.prog 74 0 = some 0 := by kernel_rfl
theorem fty_74_0 : fieldTy Tryz.prog 74 0 = some (3, 0) := by kernel_rfl
theorem off_74_1 : fieldOff Tryz.prog 74 1 = some 1 := by kernel_rfl
theorem fty_74_1 : fieldTy Tryz.prog 74 1 = some (70, 1) := by kernel_rfl
theorem off_74_2 : fieldOff Tryz.prog 74 2 = some 3 := by kernel_rfl
theorem fty_74_2 : fieldTy Tryz.prog 74 2 = some (3, 3) := by kernel_rfl
theorem agg_75 : isAggT Tryz.prog 75 = some true := by kernel_rfl
theorem size_75 : sizeT Tryz.prog 75 = some 4 := by kernel_rfl
theorem zero_75 : zeroD Tryz.prog 75 = some [.int .i64 0, .int .i64 0, .int .i64 0, .int .i64 0] := by kernel_rfl
theorem place_75 : placesT Tryz.prog 75 = some [(0, 1), (1, 2), (3, 1)] := by kernel_rfl
theorem off_75_0 : fieldOff Tryz.prog 75 0 = some 0 := by kernel_rfl
theorem fty_75_0 : fieldTy Tryz.prog 75 0 = some (3, 0) := by kernel_rfl
theorem off_75_1 : fieldOff Tryz.prog 75 1 = some 1 := by kernel_rfl
theorem fty_75_1 : fieldTy Tryz.prog 75 1 = some (70, 1) := by kernel_rfl
theorem off_75_2 : fieldOff Tryz.prog 75 2 = some 3 := by kernel_rfl
theorem fty_75_2 : fieldTy Tryz.prog 75 2 = some (3, 3) := by kernel_rfl
theorem agg_76 : isAggT Tryz.prog 76 = some false := by kernel_rfl
theorem size_76 : sizeT Tryz.prog 76 = some 1 := by kernel_rfl
theorem agg_77 : isAggT Tryz.prog 77 = some false := by kernel_rfl
theorem size_77 : sizeT Tryz.prog 77 = some 1 := by kernel_rfl
theorem zero_77 : zeroD Tryz.prog 77 = some [.nilf] := by kernel_rfl
theorem agg_78 : isAggT Tryz.prog 78 = some false := by kernel_rfl
theorem size_78 : sizeT Tryz.prog 78 = some 1 := by kernel_rfl
theorem zero_78 : zeroD Tryz.prog 78 = some [.nilf] := by kernel_rfl
theorem agg_79 : isAggT Tryz.prog 79 = some false := by kernel_rfl
theorem size_79 : sizeT Tryz.prog 79 = some 1 := by kernel_rfl
theorem agg_80 : isAggT Tryz.prog 80 = some false := by kernel_rfl
theorem size_80 : sizeT Tryz.prog 80 = some 1 := by kernel_rfl
theorem zero_80 : zeroD Tryz.prog 80 = some [.nilf] := by kernel_rfl
theorem agg_81 : isAggT Tryz.prog 81 = some false := by kernel_rfl
theorem size_81 : sizeT Tryz.prog 81 = some 1 := by kernel_rfl
theorem agg_82 : isAggT Tryz.prog 82 = some false := by kernel_rfl
theorem size_82 : sizeT Tryz.prog 82 = some 1 := by kernel_rfl
theorem zero_82 : zeroD Tryz.prog 82 = some [.nilf] := by kernel_rfl
theorem agg_83 : isAggT Tryz.prog 83 = some false := by kernel_rfl
theorem size_83 : sizeT Tryz.prog 83 = some 1 := by kernel_rfl
theorem zero_83 : zeroD Tryz.prog 83 = some [.nilf] := by kernel_rfl
theorem agg_84 : isAggT Tryz.prog 84 = some false := by kernel_rfl
theorem size_84 : sizeT Tryz.prog 84 = some 1 := by kernel_rfl
theorem zero_84 : zeroD Tryz.prog 84 = some [.nilf] := by kernel_rfl
theorem agg_85 : isAggT Tryz.prog 85 = some false := by kernel_rfl
theorem size_85 : sizeT Tryz.prog 85 = some 1 := by kernel_rfl
theorem zero_85 : zeroD Tryz.prog 85 = some [.nilf] := by kernel_rfl
theorem agg_86 : isAggT Tryz.prog 86 = some false := by kernel_rfl
theorem size_86 : sizeT Tryz.prog 86 = some 1 := by kernel_rfl
theorem zero_86 : zeroD Tryz.prog 86 = some [.nilf] := by kernel_rfl
theorem agg_87 : isAggT Tryz.prog 87 = some false := by kernel_rfl
theorem size_87 : sizeT Tryz.prog 87 = some 1 := by kernel_rfl
theorem zero_87 : zeroD Tryz.prog 87 = some [.nilf] := by kernel_rfl
theorem agg_88 : isAggT Tryz.prog 88 = some false := by kernel_rfl
theorem size_88 : sizeT Tryz.prog 88 = some 1 := by kernel_rfl
theorem zero_88 : zeroD Tryz.prog 88 = some [.nilf] := by kernel_rfl
theorem agg_89 : isAggT Tryz.prog 89 = some false := by kernel_rfl
theorem size_89 : sizeT Tryz.prog 89 = some 1 := by kernel_rfl
theorem agg_90 : isAggT Tryz.prog 90 = some false := by kernel_rfl
theorem size_90 : sizeT Tryz.prog 90 = some 1 := by kernel_rfl
theorem zero_90 : zeroD Tryz.prog 90 = some [.nilf] := by kernel_rfl
theorem agg_91 : isAggT Tryz.prog 91 = some false := by kernel_rfl
theorem size_91 : sizeT Tryz.prog 91 = some 1 := by kernel_rfl
theorem zero_91 : zeroD Tryz.prog 91 = some [.nilf] := by kernel_rfl
theorem agg_92 : isAggT Tryz.prog 92 = some false := by kernel_rfl
theorem size_92 : sizeT Tryz.prog 92 = some 1 := by kernel_rfl
theorem agg_93 : isAggT Tryz.prog 93 = some false := by kernel_rfl
theorem size_93 : sizeT Tryz.prog 93 = some 1 := by kernel_rfl
theorem zero_93 : zeroD Tryz.prog 93 = some [.nilf] := by kernel_rfl
theorem agg_94 : isAggT Tryz.prog 94 = some false := by kernel_rfl
theorem size_94 : sizeT Tryz.prog 94 = some 1 := by kernel_rfl
theorem zero_94 : zeroD Tryz.prog 94 = some [.nilf] := by kernel_rfl
theorem agg_95 : isAggT Tryz.prog 95 = some false := by kernel_rfl
theorem size_95 : sizeT Tryz.prog 95 = some 1 := by kernel_rfl
theorem agg_96 : isAggT Tryz.prog 96 = some false := by kernel_rfl
theorem size_96 : sizeT Tryz.prog 96 = some 1 := by kernel_rfl
theorem zero_96 : zeroD Tryz.prog 96 = some [.nilf] := by kernel_rfl
theorem agg_97 : isAggT Tryz.prog 97 = some false := by kernel_rfl
theorem size_97 : sizeT Tryz.prog 97 = some 1 := by kernel_rfl
theorem zero_97 : zeroD Tryz.prog 97 = some [.nilf] := by kernel_rfl
theorem agg_98 : isAggT Tryz.prog 98 = some false := by kernel_rfl
theorem size_98 : sizeT Tryz.prog 98 = some 1 := by kernel_rfl
theorem zero_98 : zeroD Tryz.prog 98 = some [.nils] := by kernel_rfl
theorem und_98 : Tryz.prog.underlying 98 = some (.slice 5) := by kernel_rfl
theorem bytes_5_98 : Tryz.prog.bytesOf 5 = 1 := by kernel_rfl
theorem agg_99 : isAggT Tryz.prog 99 = some false := by kernel_rfl
theorem size_99 : sizeT Tryz.prog 99 = some 1 := by kernel_rfl
theorem zero_99 : zeroD Tryz.prog 99 = some [.nilf] := by kernel_rfl
theorem agg_100 : isAggT Tryz.prog 100 = some false := by kernel_rfl
theorem size_100 : sizeT Tryz.prog 100 = some 1 := by kernel_rfl
theorem zero_100 : zeroD Tryz.prog 100 = some [.nilf] := by kernel_rfl
theorem agg_101 : isAggT Tryz.prog 101 = some false := by kernel_rfl
theorem size_101 : sizeT Tryz.prog 101 = some 1 := by kernel_rfl
theorem zero_101 : zeroD Tryz.prog 101 = some [.nilf] := by kernel_rfl
theorem agg_102 : isAggT Tryz.prog 102 = some false := by kernel_rfl
theorem size_102 : sizeT Tryz.prog 102 = some 1 := by kernel_rfl
theorem zero_102 : zeroD Tryz.prog 102 = some [.nilf] := by kernel_rfl
theorem agg_103 : isAggT Tryz.prog 103 = some false := by kernel_rfl
theorem size_103 : sizeT Tryz.prog 103 = some 1 := by kernel_rfl
theorem zero_103 : zeroD Tryz.prog 103 = some [.nilf] := by kernel_rfl
theorem agg_104 : isAggT Tryz.prog 104 = some false := by kernel_rfl
theorem size_104 : sizeT Tryz.prog 104 = some 1 := by kernel_rfl
theorem zero_104 : zeroD Tryz.prog 104 = some [.nilf] := by kernel_rfl
theorem agg_105 : isAggT Tryz.prog 105 = some true := by kernel_rfl
theorem size_105 : sizeT Tryz.prog 105 = some 3 := by kernel_rfl
theorem zero_105 : zeroD Tryz.prog 105 = some [.int .i64 0, .int .i64 0, .int .i64 0] := by kernel_rfl
theorem place_105 : placesT Tryz.prog 105 = some [(0, 1), (1, 2)] := by kernel_rfl
theorem off_105_0 : fieldOff Tryz.prog 105 0 = some 0 := by kernel_rfl
theorem fty_105_0 : fieldTy Tryz.prog 105 0 = some (44, 0) := by kernel_rfl
theorem off_105_1 : fieldOff Tryz.prog 105 1 = some 1 := by kernel_rfl
theorem fty_105_1 : fieldTy Tryz.prog 105 1 = some (70, 1) := by kernel_rfl
theorem agg_106 : isAggT Tryz.prog 106 = some true := by kernel_rfl
theorem size_106 : sizeT Tryz.prog 106 = some 3 := by kernel_rfl
theorem zero_106 : zeroD Tryz.prog 106 = some [.int .i64 0, .int .i64 0, .int .i64 0] := by kernel_rfl
theorem place_106 : placesT Tryz.prog 106 = some [(0, 1), (1, 2)] := by kernel_rfl
theorem off_106_0 : fieldOff Tryz.prog 106 0 = some 0 := by kernel_rfl
theorem fty_106_0 : fieldTy Tryz.prog 106 0 = some (44, 0) := by kernel_rfl
theorem off_106_1 : fieldOff Tryz.prog 106 1 = some 1 := by kernel_rfl
theorem fty_106_1 : fieldTy Tryz.prog 106 1 = some (70, 1) := by kernel_rfl
theorem agg_107 : isAggT Tryz.prog 107 = some false := by kernel_rfl
theorem size_107 : sizeT Tryz.prog 107 = some 1 := by kernel_rfl
theorem zero_107 : zeroD Tryz.prog 107 = some [.nilf] := by kernel_rfl
theorem agg_108 : isAggT Tryz.prog 108 = some false := by kernel_rfl
theorem size_108 : sizeT Tryz.prog 108 = some 1 := by kernel_rfl
theorem zero_108 : zeroD Tryz.prog 108 = some [.nilf] := by kernel_rfl
theorem agg_109 : isAggT Tryz.prog 109 = some false := by kernel_rfl
theorem size_109 : sizeT Tryz.prog 109 = some 1 := by kernel_rfl
theorem agg_110 : isAggT Tryz.prog 110 = some false := by kernel_rfl
theorem size_110 : sizeT Tryz.prog 110 = some 1 := by kernel_rfl
theorem zero_110 : zeroD Tryz.prog 110 = some [.nilf] := by kernel_rfl
theorem agg_111 : isAggT Tryz.prog 111 = some false := by kernel_rfl
theorem size_111 : sizeT Tryz.prog 111 = some 1 := by kernel_rfl
theorem zero_111 : zeroD Tryz.prog 111 = some [.nilf] := by kernel_rfl
theorem agg_112 : isAggT Tryz.prog 112 = some false := by kernel_rfl
theorem size_112 : sizeT Tryz.prog 112 = some 1 := by kernel_rfl
theorem zero_112 : zeroD Tryz.prog 112 = some [.nilf] := by kernel_rfl
theorem agg_113 : isAggT Tryz.prog 113 = some false := by kernel_rfl
theorem size_113 : sizeT Tryz.prog 113 = some 1 := by kernel_rfl
theorem zero_113 : zeroD Tryz.prog 113 = some [.nilf] := by kernel_rfl
theorem agg_114 : isAggT Tryz.prog 114 = some false := by kernel_rfl
theorem size_114 : sizeT Tryz.prog 114 = some 1 := by kernel_rfl
theorem zero_114 : zeroD Tryz.prog 114 = some [.nilf] := by kernel_rfl
theorem agg_115 : isAggT Tryz.prog 115 = some false := by kernel_rfl
theorem size_115 : sizeT Tryz.prog 115 = some 1 := by kernel_rfl
theorem zero_115 : zeroD Tryz.prog 115 = some [.nilf] := by kernel_rfl
theorem agg_116 : isAggT Tryz.prog 116 = some false := by kernel_rfl
theorem size_116 : sizeT Tryz.prog 116 = some 1 := by kernel_rfl
theorem zero_116 : zeroD Tryz.prog 116 = some [.nilf] := by kernel_rfl
theorem agg_117 : isAggT Tryz.prog 117 = some true := by kernel_rfl
theorem size_117 : sizeT Tryz.prog 117 = some 37 := by kernel_rfl
theorem zero_117 : zeroD Tryz.prog 117 = some [.int .i64 0, .int .i64 0, .nils, .int .i64 0, .int .i64 0, .int .i64 0, .nils, .int .i64 0, .int .i64 0, .int .i64 0, .nils, .int .i64 0, .int .i64 0, .int .i64 0, .nils, .int .i64 0, .int .i64 0, .int .i64 0, .nils, .int .i64 0, .int .i64 0, .int .i64 0, .nils, .nils, .nils, .int .i64 0, .int .i64 0, .int .i64 0, .int .i64 0, .int .i64 0, .int .i64 0, .int .i64 0, .int .i64 0, .int .i64 0, .int .i64 0, .int .i64 0, .int .i64 0] := by kernel_rfl
theorem place_117 : placesT Tryz.prog 117 = some [(0, 25), (25, 4), (29, 7), (36, 1)] := by kernel_rfl
theorem off_117_0 : fieldOff Tryz.prog 117 0 = some 0 := by kernel_rfl
theorem fty_117_0 : fieldTy Tryz.prog 117 0 = some (33, 0) := by kernel_rfl
theorem off_117_1 : fieldOff Tryz.prog 117 1 = some 25 := by kernel_rfl
theorem fty_117_1 : fieldTy Tryz.prog 117 1 = some (46, 25) := by kernel_rfl
theorem off_117_2 : fieldOff Tryz.prog 117 2 = some 29 := by kernel_rfl
theorem fty_117_2 : fieldTy Tryz.prog 117 2 = some (36, 29) := by kernel_rfl
theorem off_117_3 : fieldOff Tryz.prog 117 3 = some 36 := by kernel_rfl
theorem fty_117_3 : fieldTy Tryz.prog 117 3 = some (3, 36) := by kernel_rfl
theorem agg_118 : isAggT Tryz.prog 118 = some true := by kernel_rfl
theorem size_118 : sizeT Tryz.prog 118 = some 37 := by kernel_rfl
theorem zero_118 : zeroD Tryz.prog 118 = some [.int .i64 0, .int .i64 0, .nils, .int .i64 0, .int .i64 0, .int .i64 0, .nils, .int .i64 0, .int .i64 0, .int .i64 0, .nils, .int .i64 0, .int .i64 0, .int .i64 0, .nils, .int .i64 0, .int .i64 0, .int .i64 0, .nils, .int .i64 0, .int .i64 0, .int .i64 0, .nils, .nils, .nils, .int .i64 0, .int .i64 0, .int .i64 0, .int .i64 0, .int .i64 0, .int .i64 0, .int .i64 0, .int .i64 0, .int .i64 0, .int .i64 0, .int .i64 0, .int .i64 0] := by kernel_rfl
theorem place_118 : placesT Tryz.prog 118 = some [(0, 25), (25, 4), (29, 7), (36, 1)] := by kernel_rfl
theorem off_118_0 : fieldOff Tryz.prog 118 0 = some 0 := by kernel_rfl
theorem fty_118_0 : fieldTy Tryz.prog 118 0 = some (33, 0) := by kernel_rfl
theorem off_118_1 : fieldOff Tryz.prog 118 1 = some 25 := by kernel_rfl
theorem fty_118_1 : fieldTy Tryz.prog 118 1 = some (46, 25) := by kernel_rfl
theorem off_118_2 : fieldOff Tryz.prog 118 2 = some 29 := by kernel_rfl
theorem fty_118_2 : fieldTy Tryz.prog 118 2 = some (36, 29) := by kernel_rfl
theorem off_118_3 : fieldOff Tryz.prog 118 3 = some 36 := by kernel_rfl
theorem fty_118_3 : fieldTy Tryz.prog 118 3 = some (3, 36) := by kernel_rfl
theorem agg_119 : isAggT Tryz.prog 119 = some false := by kernel_rfl
theorem size_119 : sizeT Tryz.prog 119 = some 1 := by kernel_rfl
theorem zero_119 : zeroD Tryz.prog 119 = some [.nilf] := by kernel_rfl
theorem agg_120 : isAggT Tryz.prog 120 = some false := by kernel_rfl
theorem size_120 : sizeT Tryz.prog 120 = some 1 := by kernel_rfl
theorem zero_120 : zeroD Tryz.prog 120 = some [.nils] := by kernel_rfl
theorem und_120 : Tryz.prog.underlying 120 = some (.slice 27) := by kernel_rfl
theorem bytes_27_120 : Tryz.prog.bytesOf 27 = 48 := by kernel_rfl
theorem agg_121 : isAggT Tryz.prog 121 = some false := by kernel_rfl
theorem size_121 : sizeT Tryz.prog 121 = some 1 := by kernel_rfl
theorem zero_121 : zeroD Tryz.prog 121 = some [.nilf] := by kernel_rfl
theorem agg_122 : isAggT Tryz.prog 122 = some false := by kernel_rfl
theorem size_122 : sizeT Tryz.prog 122 = some 1 := by kernel_rfl
theorem zero_122 : zeroD Tryz.prog 122 = some [.nilf] := by kernel_rfl
theorem agg_123 : isAggT Tryz.prog 123 = some false := by kernel_rfl
theorem size_123 : sizeT Tryz.prog 123 = some 1 := by kernel_rfl
theorem agg_124 : isAggT Tryz.prog 124 = some false := by kernel_rfl
theorem size_124 : sizeT Tryz.prog 124 = some 1 := by kernel_rfl
theorem zero_124 : zeroD Tryz.prog 124 = some [.nilf] := by kernel_rfl
theorem agg_125 : isAggT Tryz.prog 125 = some false := by kernel_rfl
theorem size_125 : sizeT Tryz.prog 125 = some 1 := by kernel_rfl
theorem zero_125 : zeroD Tryz.prog 125 = some [.nilf] := by kernel_rfl
theorem agg_126 : isAggT Tryz.prog 126 = some false := by kernel_rfl
theorem size_126 : sizeT Tryz.prog 126 = some 1 := by kernel_rfl
theorem zero_126 : zeroD Tryz.prog 126 = some [.nilf] := by kernel_rfl
theorem agg_127 : isAggT Tryz.prog 127 = some false := by kernel_rfl
theorem size_127 : sizeT Tryz.prog 127 = some 1 := by kernel_rfl
theorem zero_127 : zeroD Tryz.prog 127 = some [.nilf] := by kernel_rfl
theorem agg_128 : isAggT Tryz.prog 128 = some false := by kernel_rfl
theorem size_128 : sizeT Tryz.prog 128 = some 1 := by kernel_rfl
theorem zero_128 : zeroD Tryz.prog 128 = some [.nilf] := by kernel_rfl
theorem agg_129 : isAggT Tryz.prog 129 = some false := by kernel_rfl
theorem size_129 : sizeT Tryz.prog 129 = some 1 := by kernel_rfl
theorem agg_130 : isAggT Tryz.prog 130 = some false := by kernel_rfl
theorem size_130 : sizeT Tryz.prog 130 = some 1 := by kernel_rfl
theorem zero_130 : zeroD Tryz.prog 130 = some [.nilf] := by kernel_rfl
theorem agg_131 : isAggT Tryz.prog 131 = some false := by kernel_rfl
theorem size_131 : sizeT Tryz.prog 131 = some 1 := by kernel_rfl
theorem zero_131 : zeroD Tryz.prog 131 = some [.nilf] := by kernel_rfl
theorem agg_132 : isAggT Tryz.prog 132 = some false := by kernel_rfl
theorem size_132 : sizeT Tryz.prog 132 = some 1 := by kernel_rfl
theorem zero_132 : zeroD Tryz.prog 132 = some [.nilf] := by kernel_rfl
theorem agg_133 : isAggT Tryz.prog 133 = some false := by kernel_rfl
theorem size_133 : sizeT Tryz.prog 133 = some 1 := by kernel_rfl
theorem zero_133 : zeroD Tryz.prog 133 = some [.nilf] := by kernel_rfl
theorem agg_134 : isAggT Tryz.prog 134 = some false := by kernel_rfl
theorem size_134 : sizeT Tryz.prog 134 = some 1 := by kernel_rfl
theorem zero_134 : zeroD Tryz.prog 134 = some [.nilf] := by kernel_rfl
theorem agg_135 : isAggT Tryz.prog 135 = some false := by kernel_rfl
theorem size_135 : sizeT Tryz.prog 135 = some 1 := by kernel_rfl
theorem zero_135 : zeroD Tryz.prog 135 = some [.nilf] := by kernel_rfl
theorem agg_136 : isAggT Tryz.prog 136 = some false := by kernel_rfl
theorem size_136 : sizeT Tryz.prog 136 = some 1 := by kernel_rfl
theorem zero_136 : zeroD Tryz.prog 136 = some [.nilf] := by kernel_rfl
theorem agg_137 : isAggT Tryz.prog 137 = some false := by kernel_rfl
theorem size_137 : sizeT Tryz.prog 137 = some 1 := by kernel_rfl
theorem zero_137 : zeroD Tryz.prog 137 = some [.nilf] := by kernel_rfl
theorem agg_138 : isAggT Tryz.prog 138 = some false := by kernel_rfl
theorem size_138 : sizeT Tryz.prog 138 = some 1 := by kernel_rfl
theorem zero_138 : zeroD Tryz.prog 138 = some [.nilf] := by kernel_rfl
theorem agg_139 : isAggT Tryz.prog 139 = some true := by kernel_rfl
theorem size_139 : sizeT Tryz.prog 139 = some 5 := by kernel_rfl
theorem zero_139 : zeroD Tryz.prog 139 = some [.str ByteArray.empty, .str ByteArray.empty, .str ByteArray.empty, .str ByteArray.empty, .str ByteArray.empty] := by kernel_rfl
theorem und_139 : Tryz.prog.underlying 139 = some (.array 5 9) := by kernel_rfl
theorem place_139 : placesT Tryz.prog 139 = some [(0, 1), (1, 1), (2, 1), (3, 1), (4, 1)] := by kernel_rfl
theorem agg_140 : isAggT Tryz.prog 140 = some false := by kernel_rfl
theorem size_140 : sizeT Tryz.prog 140 = some 1 := by kernel_rfl
theorem zero_140 : zeroD Tryz.prog 140 = some [.nilf] := by kernel_rfl
theorem agg_141 : isAggT Tryz.prog 141 = some false := by kernel_rfl
theorem size_141 : sizeT Tryz.prog 141 = some 1 := by kernel_rfl
theorem zero_141 : zeroD Tryz.prog 141 = some [.nilp] := by kernel_rfl
theorem und_141 : Tryz.prog.underlying 141 = some (.pointer 27) := by kernel_rfl
theorem agg_142 : isAggT Tryz.prog 142 = some false := by kernel_rfl
theorem size_142 : sizeT Tryz.prog 142 = some 1 := by kernel_rfl
theorem zero_142 : zeroD Tryz.prog 142 = some [.nilm] := by kernel_rfl
theorem agg_143 : isAggT Tryz.prog 143 = some false := by kernel_rfl
theorem size_143 : sizeT Tryz.prog 143 = some 1 := by kernel_rfl
theorem zero_143 : zeroD Tryz.prog 143 = some [.nilf] := by kernel_rfl
theorem agg_144 : isAggT Tryz.prog 144 = some false := by kernel_rfl
theorem size_144 : sizeT Tryz.prog 144 = some 1 := by kernel_rfl
theorem zero_144 : zeroD Tryz.prog 144 = some [.nilp] := by kernel_rfl
theorem und_144 : Tryz.prog.underlying 144 = some (.pointer 29) := by kernel_rfl
theorem agg_145 : isAggT Tryz.prog 145 = some false := by kernel_rfl
theorem size_145 : sizeT Tryz.prog 145 = some 1 := by kernel_rfl
theorem zero_145 : zeroD Tryz.prog 145 = some [.nilf] := by kernel_rfl
theorem agg_146 : isAggT Tryz.prog 146 = some false := by kernel_rfl
theorem size_146 : sizeT Tryz.prog 146 = some 1 := by kernel_rfl
theorem zero_146 : zeroD Tryz.prog 146 = some [.nilf] := by kernel_rfl
theorem agg_147 : isAggT Tryz.prog 147 = some false := by kernel_rfl
theorem size_147 : sizeT Tryz.prog 147 = some 1 := by kernel_rfl
theorem zero_147 : zeroD Tryz.prog 147 = some [.nils] := by kernel_rfl
theorem und_147 : Tryz.prog.underlying 147 = some (.slice 9) := by kernel_rfl
theorem bytes_9_147 : Tryz.prog.bytesOf 9 = 16 := by kernel_rfl
theorem agg_148 : isAggT Tryz.prog 148 = some false := by kernel_rfl
theorem size_148 : sizeT Tryz.prog 148 = some 1 := by kernel_rfl
theorem zero_148 : zeroD Tryz.prog 148 = some [.nilf] := by kernel_rfl
theorem agg_149 : isAggT Tryz.prog 149 = some true := by kernel_rfl
theorem size_149 : sizeT Tryz.prog 149 = some 1 := by kernel_rfl
theorem zero_149 : zeroD Tryz.prog 149 = some [.str ByteArray.empty] := by kernel_rfl
theorem place_149 : placesT Tryz.prog 149 = some [(0, 1)] := by kernel_rfl
theorem off_149_0 : fieldOff Tryz.prog 149 0 = some 0 := by kernel_rfl
theorem fty_149_0 : fieldTy Tryz.prog 149 0 = some (9, 0) := by kernel_rfl
theorem agg_150 : isAggT Tryz.prog 150 = some true := by kernel_rfl
theorem size_150 : sizeT Tryz.prog 150 = some 1 := by kernel_rfl
theorem zero_150 : zeroD Tryz.prog 150 = some [.str ByteArray.empty] := by kernel_rfl
theorem place_150 : placesT Tryz.prog 150 = some [(0, 1)] := by kernel_rfl
theorem off_150_0 : fieldOff Tryz.prog 150 0 = some 0 := by kernel_rfl
theorem fty_150_0 : fieldTy Tryz.prog 150 0 = some (9, 0) := by kernel_rfl
theorem agg_151 : isAggT Tryz.prog 151 = some false := by kernel_rfl
theorem size_151 : sizeT Tryz.prog 151 = some 1 := by kernel_rfl
theorem zero_151 : zeroD Tryz.prog 151 = some [.nilf] := by kernel_rfl
theorem agg_152 : isAggT Tryz.prog 152 = some false := by kernel_rfl
theorem size_152 : sizeT Tryz.prog 152 = some 1 := by kernel_rfl
theorem zero_152 : zeroD Tryz.prog 152 = some [.nilf] := by kernel_rfl
theorem agg_153 : isAggT Tryz.prog 153 = some false := by kernel_rfl
theorem size_153 : sizeT Tryz.prog 153 = some 1 := by kernel_rfl
theorem agg_154 : isAggT Tryz.prog 154 = some false := by kernel_rfl
theorem size_154 : sizeT Tryz.prog 154 = some 1 := by kernel_rfl
theorem zero_154 : zeroD Tryz.prog 154 = some [.nilf] := by kernel_rfl
theorem agg_155 : isAggT Tryz.prog 155 = some false := by kernel_rfl
theorem size_155 : sizeT Tryz.prog 155 = some 1 := by kernel_rfl
theorem agg_156 : isAggT Tryz.prog 156 = some false := by kernel_rfl
theorem size_156 : sizeT Tryz.prog 156 = some 1 := by kernel_rfl
theorem zero_156 : zeroD Tryz.prog 156 = some [.nilf] := by kernel_rfl
theorem agg_157 : isAggT Tryz.prog 157 = some false := by kernel_rfl
theorem size_157 : sizeT Tryz.prog 157 = some 1 := by kernel_rfl
theorem zero_157 : zeroD Tryz.prog 157 = some [.nilf] := by kernel_rfl
theorem agg_158 : isAggT Tryz.prog 158 = some false := by kernel_rfl
theorem size_158 : sizeT Tryz.prog 158 = some 1 := by kernel_rfl
theorem zero_158 : zeroD Tryz.prog 158 = some [.nilf] := by kernel_rfl
theorem agg_159 : isAggT Tryz.prog 159 = some false := by kernel_rfl
theorem size_159 : sizeT Tryz.prog 159 = some 1 := by kernel_rfl
theorem zero_159 : zeroD Tryz.prog 159 = some [.nilf] := by kernel_rfl
theorem agg_160 : isAggT Tryz.prog 160 = some false := by kernel_rfl
theorem size_160 : sizeT Tryz.prog 160 = some 1 := by kernel_rfl
theorem zero_160 : zeroD Tryz.prog 160 = some [.nilf] := by kernel_rfl
theorem agg_161 : isAggT Tryz.prog 161 = some false := by kernel_rfl
theorem size_161 : sizeT Tryz.prog 161 = some 1 := by kernel_rfl
theorem zero_161 : zeroD Tryz.prog 161 = some [.nilf] := by kernel_rfl
theorem agg_162 : isAggT Tryz.prog 162 = some true := by kernel_rfl
theorem size_162 : sizeT Tryz.prog 162 = some 20 := by kernel_rfl
theorem zero_162 : zeroD Tryz.prog 162 = some [.int .i64 0, .int .i64 0, .int .i64 0, .nils, .int .i64 0, .int .i64 0, .int .i64 0, .nils, .int .i64 0, .int .i64 0, .int .i64 0, .nils, .int .i64 0, .int .i64 0, .int .i64 0, .nils, .int .i64 0, .int .i64 0, .int .i64 0, .nils] := by kernel_rfl
theorem und_162 : Tryz.prog.underlying 162 = some (.array 5 27) := by kernel_rfl
theorem place_162 : placesT Tryz.prog 162 = some [(0, 4), (4, 4), (8, 4), (12, 4), (16, 4)] := by kernel_rfl
theorem agg_163 : isAggT Tryz.prog 163 = some true := by kernel_rfl
theorem size_163 : sizeT Tryz.prog 163 = some 4 := by kernel_rfl
theorem zero_163 : zeroD Tryz.prog 163 = some [.nilf, .nilf, .nilf, .nilf] := by kernel_rfl
theorem und_163 : Tryz.prog.underlying 163 = some (.array 4 38) := by kernel_rfl
theorem place_163 : placesT Tryz.prog 163 = some [(0, 1), (1, 1), (2, 1), (3, 1)] := by kernel_rfl
theorem agg_164 : isAggT Tryz.prog 164 = some false := by kernel_rfl
theorem size_164 : sizeT Tryz.prog 164 = some 1 := by kernel_rfl
theorem zero_164 : zeroD Tryz.prog 164 = some [.nilf] := by kernel_rfl
theorem agg_165 : isAggT Tryz.prog 165 = some false := by kernel_rfl
theorem size_165 : sizeT Tryz.prog 165 = some 1 := by kernel_rfl
theorem zero_165 : zeroD Tryz.prog 165 = some [.nils] := by kernel_rfl
theorem und_165 : Tryz.prog.underlying 165 = some (.slice 38) := by kernel_rfl
theorem bytes_38_165 : Tryz.prog.bytesOf 38 = 8 := by kernel_rfl
theorem agg_166 : isAggT Tryz.prog 166 = some false := by kernel_rfl
theorem size_166 : sizeT Tryz.prog 166 = some 1 := by kernel_rfl
theorem zero_166 : zeroD Tryz.prog 166 = some [.nilf] := by kernel_rfl
theorem agg_167 : isAggT Tryz.prog 167 = some false := by kernel_rfl
theorem size_167 : sizeT Tryz.prog 167 = some 1 := by kernel_rfl
theorem zero_167 : zeroD Tryz.prog 167 = some [.nilf] := by kernel_rfl
theorem agg_168 : isAggT Tryz.prog 168 = some false := by kernel_rfl
theorem size_168 : sizeT Tryz.prog 168 = some 1 := by kernel_rfl
theorem zero_168 : zeroD Tryz.prog 168 = some [.nilf] := by kernel_rfl
theorem agg_169 : isAggT Tryz.prog 169 = some false := by kernel_rfl
theorem size_169 : sizeT Tryz.prog 169 = some 1 := by kernel_rfl
theorem zero_169 : zeroD Tryz.prog 169 = some [.nilf] := by kernel_rfl
theorem agg_170 : isAggT Tryz.prog 170 = some false := by kernel_rfl
theorem size_170 : sizeT Tryz.prog 170 = some 1 := by kernel_rfl
theorem agg_171 : isAggT Tryz.prog 171 = some false := by kernel_rfl
theorem size_171 : sizeT Tryz.prog 171 = some 1 := by kernel_rfl
theorem zero_171 : zeroD Tryz.prog 171 = some [.nilf] := by kernel_rfl
theorem agg_172 : isAggT Tryz.prog 172 = some false := by kernel_rfl
theorem size_172 : sizeT Tryz.prog 172 = some 1 := by kernel_rfl
theorem zero_172 : zeroD Tryz.prog 172 = some [.nilp] := by kernel_rfl
theorem und_172 : Tryz.prog.underlying 172 = some (.pointer 175) := by kernel_rfl
theorem agg_173 : isAggT Tryz.prog 173 = some false := by kernel_rfl
theorem size_173 : sizeT Tryz.prog 173 = some 1 := by kernel_rfl
theorem zero_173 : zeroD Tryz.prog 173 = some [.nilf] := by kernel_rfl
theorem agg_174 : isAggT Tryz.prog 174 = some true := by kernel_rfl
theorem size_174 : sizeT Tryz.prog 174 = some 1 := by kernel_rfl
theorem zero_174 : zeroD Tryz.prog 174 = some [.nils] := by kernel_rfl
theorem place_174 : placesT Tryz.prog 174 = some [(0, 1)] := by kernel_rfl
theorem off_174_0 : fieldOff Tryz.prog 174 0 = some 0 := by kernel_rfl
theorem fty_174_0 : fieldTy Tryz.prog 174 0 = some (147, 0) := by kernel_rfl
theorem agg_175 : isAggT Tryz.prog 175 = some true := by kernel_rfl
theorem size_175 : sizeT Tryz.prog 175 = some 1 := by kernel_rfl
theorem zero_175 : zeroD Tryz.prog 175 = some [.nils] := by kernel_rfl
theorem place_175 : placesT Tryz.prog 175 = some [(0, 1)] := by kernel_rfl
theorem off_175_0 : fieldOff Tryz.prog 175 0 = some 0 := by kernel_rfl
theorem fty_175_0 : fieldTy Tryz.prog 175 0 = some (147, 0) := by kernel_rfl
theorem agg_176 : isAggT Tryz.prog 176 = some false := by kernel_rfl
theorem size_176 : sizeT Tryz.prog 176 = some 1 := by kernel_rfl
theorem zero_176 : zeroD Tryz.prog 176 = some [.nilf] := by kernel_rfl
theorem agg_177 : isAggT Tryz.prog 177 = some false := by kernel_rfl
theorem size_177 : sizeT Tryz.prog 177 = some 1 := by kernel_rfl
theorem zero_177 : zeroD Tryz.prog 177 = some [.nilf] := by kernel_rfl
theorem agg_178 : isAggT Tryz.prog 178 = some false := by kernel_rfl
theorem size_178 : sizeT Tryz.prog 178 = some 1 := by kernel_rfl
theorem agg_179 : isAggT Tryz.prog 179 = some false := by kernel_rfl
theorem size_179 : sizeT Tryz.prog 179 = some 1 := by kernel_rfl
theorem zero_179 : zeroD Tryz.prog 179 = some [.nilf] := by kernel_rfl
theorem agg_180 : isAggT Tryz.prog 180 = some false := by kernel_rfl
theorem size_180 : sizeT Tryz.prog 180 = some 1 := by kernel_rfl
theorem zero_180 : zeroD Tryz.prog 180 = some [.nilf] := by kernel_rfl
theorem agg_181 : isAggT Tryz.prog 181 = some true := by kernel_rfl
theorem size_181 : sizeT Tryz.prog 181 = some 2 := by kernel_rfl
theorem zero_181 : zeroD Tryz.prog 181 = some [.int .i64 0, .int .i64 0] := by kernel_rfl
theorem und_181 : Tryz.prog.underlying 181 = some (.array 2 3) := by kernel_rfl
theorem place_181 : placesT Tryz.prog 181 = some [(0, 1), (1, 1)] := by kernel_rfl
theorem agg_182 : isAggT Tryz.prog 182 = some true := by kernel_rfl
theorem size_182 : sizeT Tryz.prog 182 = some 16 := by kernel_rfl
theorem zero_182 : zeroD Tryz.prog 182 = some [.int .i64 0, .int .i64 0, .int .i64 0, .int .i64 0, .int .i64 0, .int .i64 0, .int .i64 0, .int .i64 0, .int .i64 0, .int .i64 0, .int .i64 0, .int .i64 0, .int .i64 0, .int .i64 0, .int .i64 0, .int .i64 0] := by kernel_rfl
theorem und_182 : Tryz.prog.underlying 182 = some (.array 8 181) := by kernel_rfl
theorem place_182 : placesT Tryz.prog 182 = some [(0, 2), (2, 2), (4, 2), (6, 2), (8, 2), (10, 2), (12, 2), (14, 2)] := by kernel_rfl
theorem agg_183 : isAggT Tryz.prog 183 = some false := by kernel_rfl
theorem size_183 : sizeT Tryz.prog 183 = some 1 := by kernel_rfl
theorem zero_183 : zeroD Tryz.prog 183 = some [.nilf] := by kernel_rfl
theorem agg_184 : isAggT Tryz.prog 184 = some false := by kernel_rfl
theorem size_184 : sizeT Tryz.prog 184 = some 1 := by kernel_rfl
theorem zero_184 : zeroD Tryz.prog 184 = some [.nilf] := by kernel_rfl
theorem agg_185 : isAggT Tryz.prog 185 = some false := by kernel_rfl
theorem size_185 : sizeT Tryz.prog 185 = some 1 := by kernel_rfl
theorem zero_185 : zeroD Tryz.prog 185 = some [.nilf] := by kernel_rfl
theorem agg_186 : isAggT Tryz.prog 186 = some false := by kernel_rfl
theorem size_186 : sizeT Tryz.prog 186 = some 1 := by kernel_rfl
theorem zero_186 : zeroD Tryz.prog 186 = some [.nilf] := by kernel_rfl
theorem agg_187 : isAggT Tryz.prog 187 = some false := by kernel_rfl
theorem size_187 : sizeT Tryz.prog 187 = some 1 := by kernel_rfl
theorem zero_187 : zeroD Tryz.prog 187 = some [.nilf] := by kernel_rfl
theorem agg_188 : isAggT Tryz.prog 188 = some false := by kernel_rfl
theorem size_188 : sizeT Tryz.prog 188 = some 1 := by kernel_rfl
theorem zero_188 : zeroD Tryz.prog 188 = some [.nilf] := by kernel_rfl
theorem agg_189 : isAggT Tryz.prog 189 = some false := by kernel_rfl
theorem size_189 : sizeT Tryz.prog 189 = some 1 := by kernel_rfl
theorem zero_189 : zeroD Tryz.prog 189 = some [.nilf] := by kernel_rfl
theorem agg_190 : isAggT Tryz.prog 190 = some false := by kernel_rfl
theorem size_190 : sizeT Tryz.prog 190 = some 1 := by kernel_rfl
theorem zero_190 : zeroD Tryz.prog 190 = some [.nilf] := by kernel_rfl
theorem agg_191 : isAggT Tryz.prog 191 = some false := by kernel_rfl
theorem size_191 : sizeT Tryz.prog 191 = some 1 := by kernel_rfl
theorem zero_191 : zeroD Tryz.prog 191 = some [.nilf] := by kernel_rfl
theorem agg_192 : isAggT Tryz.prog 192 = some false := by kernel_rfl
theorem size_192 : sizeT Tryz.prog 192 = some 1 := by kernel_rfl
theorem zero_192 : zeroD Tryz.prog 192 = some [.nili] := by kernel_rfl
theorem agg_193 : isAggT Tryz.prog 193 = some false := by kernel_rfl
theorem size_193 : sizeT Tryz.prog 193 = some 1 := by kernel_rfl
theorem zero_193 : zeroD Tryz.prog 193 = some [.nili] := by kernel_rfl
theorem agg_194 : isAggT Tryz.prog 194 = some false := by kernel_rfl
theorem size_194 : sizeT Tryz.prog 194 = some 1 := by kernel_rfl
theorem agg_195 : isAggT Tryz.prog 195 = some false := by kernel_rfl
theorem size_195 : sizeT Tryz.prog 195 = some 1 := by kernel_rfl
theorem zero_195 : zeroD Tryz.prog 195 = some [.nilf] := by kernel_rfl
theorem agg_196 : isAggT Tryz.prog 196 = some true := by kernel_rfl
theorem size_196 : sizeT Tryz.prog 196 = some 24 := by kernel_rfl
theorem zero_196 : zeroD Tryz.prog 196 = some [.int .u8 0, .int .u8 0, .int .u8 0, .int .u8 0, .int .u8 0, .int .u8 0, .int .u8 0, .int .u8 0, .int .u8 0, .int .u8 0, .int .u8 0, .int .u8 0, .int .u8 0, .int .u8 0, .int .u8 0, .int .u8 0, .int .u8 0, .int .u8 0, .int .u8 0, .int .u8 0, .int .u8 0, .int .u8 0, .int .u8 0, .int .u8 0] := by kernel_rfl
theorem und_196 : Tryz.prog.underlying 196 = some (.array 24 5) := by kernel_rfl
theorem place_196 : placesT Tryz.prog 196 = some [(0, 1), (1, 1), (2, 1), (3, 1), (4, 1), (5, 1), (6, 1), (7, 1), (8, 1), (9, 1), (10, 1), (11, 1), (12, 1), (13, 1), (14, 1), (15, 1), (16, 1), (17, 1), (18, 1), (19, 1), (20, 1), (21, 1), (22, 1), (23, 1)] := by kernel_rfl
theorem agg_197 : isAggT Tryz.prog 197 = some false := by kernel_rfl
theorem size_197 : sizeT Tryz.prog 197 = some 1 := by kernel_rfl
theorem zero_197 : zeroD Tryz.prog 197 = some [.int .u64 0] := by kernel_rfl
theorem und_197 : Tryz.prog.underlying 197 = some (.int .u64) := by kernel_rfl
theorem agg_198 : isAggT Tryz.prog 198 = some false := by kernel_rfl
theorem size_198 : sizeT Tryz.prog 198 = some 1 := by kernel_rfl
theorem zero_198 : zeroD Tryz.prog 198 = some [.nilf] := by kernel_rfl
theorem agg_199 : isAggT Tryz.prog 199 = some false := by kernel_rfl
theorem size_199 : sizeT Tryz.prog 199 = some 1 := by kernel_rfl
theorem zero_199 : zeroD Tryz.prog 199 = some [.nilf] := by kernel_rfl
theorem agg_200 : isAggT Tryz.prog 200 = some false := by kernel_rfl
theorem size_200 : sizeT Tryz.prog 200 = some 1 := by kernel_rfl
theorem agg_201 : isAggT Tryz.prog 201 = some false := by kernel_rfl
theorem size_201 : sizeT Tryz.prog 201 = some 1 := by kernel_rfl
theorem zero_201 : zeroD Tryz.prog 201 = some [.nilf] := by kernel_rfl
theorem agg_202 : isAggT Tryz.prog 202 = some false := by kernel_rfl
theorem size_202 : sizeT Tryz.prog 202 = some 1 := by kernel_rfl
theorem agg_203 : isAggT Tryz.prog 203 = some false := by kernel_rfl
theorem size_203 : sizeT Tryz.prog 203 = some 1 := by kernel_rfl
theorem zero_203 : zeroD Tryz.prog 203 = some [.nilf] := by kernel_rfl
theorem agg_204 : isAggT Tryz.prog 204 = some false := by kernel_rfl
theorem size_204 : sizeT Tryz.prog 204 = some 1 := by kernel_rfl
theorem zero_204 : zeroD Tryz.prog 204 = some [.nilf] := by kernel_rfl
theorem agg_205 : isAggT Tryz.prog 205 = some false := by kernel_rfl
theorem size_205 : sizeT Tryz.prog 205 = some 1 := by kernel_rfl
theorem zero_205 : zeroD Tryz.prog 205 = some [.nilf] := by kernel_rfl
theorem agg_206 : isAggT Tryz.prog 206 = some false := by kernel_rfl
theorem size_206 : sizeT Tryz.prog 206 = some 1 := by kernel_rfl
theorem zero_206 : zeroD Tryz.prog 206 = some [.nilf] := by kernel_rfl
theorem agg_207 : isAggT Tryz.prog 207 = some false := by kernel_rfl
theorem size_207 : sizeT Tryz.prog 207 = some 1 := by kernel_rfl
theorem zero_207 : zeroD Tryz.prog 207 = some [.nilf] := by kernel_rfl
theorem agg_208 : isAggT Tryz.prog 208 = some true := by kernel_rfl
theorem size_208 : sizeT Tryz.prog 208 = some 20 := by kernel_rfl
theorem zero_208 : zeroD Tryz.prog 208 = some [.int .u64 0, .int .u64 0, .int .u64 0, .int .u64 0, .int .u64 0, .int .u64 0, .int .u64 0, .int .u64 0, .int .u64 0, .int .u64 0, .int .u64 0, .int .u64 0, .int .u64 0, .int .u64 0, .int .u64 0, .int .u64 0, .int .u64 0, .int .u64 0, .int .u64 0, .int .u64 0] := by kernel_rfl
theorem und_208 : Tryz.prog.underlying 208 = some (.array 20 197) := by kernel_rfl
theorem place_208 : placesT Tryz.prog 208 = some [(0, 1), (1, 1), (2, 1), (3, 1), (4, 1), (5, 1), (6, 1), (7, 1), (8, 1), (9, 1), (10, 1), (11, 1), (12, 1), (13, 1), (14, 1), (15, 1), (16, 1), (17, 1), (18, 1), (19, 1)] := by kernel_rfl
theorem agg_209 : isAggT Tryz.prog 209 = some false := by kernel_rfl
theorem size_209 : sizeT Tryz.prog 209 = some 1 := by kernel_rfl
theorem zero_209 : zeroD Tryz.prog 209 = some [.int .u32 0] := by kernel_rfl
theorem und_209 : Tryz.prog.underlying 209 = some (.int .u32) := by kernel_rfl
theorem agg_210 : isAggT Tryz.prog 210 = some true := by kernel_rfl
theorem size_210 : sizeT Tryz.prog 210 = some 65 := by kernel_rfl
theorem und_210 : Tryz.prog.underlying 210 = some (.array 65 5) := by kernel_rfl
theorem agg_211 : isAggT Tryz.prog 211 = some false := by kernel_rfl
theorem size_211 : sizeT Tryz.prog 211 = some 1 := by kernel_rfl
theorem zero_211 : zeroD Tryz.prog 211 = some [.int .u64 0] := by kernel_rfl
theorem und_211 : Tryz.prog.underlying 211 = some (.int .u64) := by kernel_rfl
theorem agg_212 : isAggT Tryz.prog 212 = some false := by kernel_rfl
theorem size_212 : sizeT Tryz.prog 212 = some 1 := by kernel_rfl
theorem zero_212 : zeroD Tryz.prog 212 = some [.nilf] := by kernel_rfl
theorem agg_213 : isAggT Tryz.prog 213 = some false := by kernel_rfl
theorem size_213 : sizeT Tryz.prog 213 = some 1 := by kernel_rfl
theorem zero_213 : zeroD Tryz.prog 213 = some [.int .i64 0] := by kernel_rfl
theorem und_213 : Tryz.prog.underlying 213 = some (.int .i64) := by kernel_rfl
theorem agg_214 : isAggT Tryz.prog 214 = some false := by kernel_rfl
theorem size_214 : sizeT Tryz.prog 214 = some 1 := by kernel_rfl
theorem agg_215 : isAggT Tryz.prog 215 = some false := by kernel_rfl
theorem size_215 : sizeT Tryz.prog 215 = some 1 := by kernel_rfl
theorem zero_215 : zeroD Tryz.prog 215 = some [.nilf] := by kernel_rfl
theorem agg_216 : isAggT Tryz.prog 216 = some false := by kernel_rfl
theorem size_216 : sizeT Tryz.prog 216 = some 1 := by kernel_rfl
theorem zero_216 : zeroD Tryz.prog 216 = some [.nilp] := by kernel_rfl
theorem und_216 : Tryz.prog.underlying 216 = some (.pointer 229) := by kernel_rfl
theorem agg_217 : isAggT Tryz.prog 217 = some false := by kernel_rfl
theorem size_217 : sizeT Tryz.prog 217 = some 1 := by kernel_rfl
theorem zero_217 : zeroD Tryz.prog 217 = some [.nilf] := by kernel_rfl
theorem agg_218 : isAggT Tryz.prog 218 = some false := by kernel_rfl
theorem size_218 : sizeT Tryz.prog 218 = some 1 := by kernel_rfl
theorem zero_218 : zeroD Tryz.prog 218 = some [.nilf] := by kernel_rfl
theorem agg_219 : isAggT Tryz.prog 219 = some false := by kernel_rfl
theorem size_219 : sizeT Tryz.prog 219 = some 1 := by kernel_rfl
theorem zero_219 : zeroD Tryz.prog 219 = some [.nilf] := by kernel_rfl
theorem agg_220 : isAggT Tryz.prog 220 = some true := by kernel_rfl
theorem size_220 : sizeT Tryz.prog 220 = some 256 := by kernel_rfl
theorem und_220 : Tryz.prog.underlying 220 = some (.array 256 5) := by kernel_rfl
theorem agg_221 : isAggT Tryz.prog 221 = some true := by kernel_rfl
theorem size_221 : sizeT Tryz.prog 221 = some 2 := by kernel_rfl
theorem zero_221 : zeroD Tryz.prog 221 = some [.int .u8 0, .int .u8 0] := by kernel_rfl
theorem place_221 : placesT Tryz.prog 221 = some [(0, 1), (1, 1)] := by kernel_rfl
theorem off_221_0 : fieldOff Tryz.prog 221 0 = some 0 := by kernel_rfl
theorem fty_221_0 : fieldTy Tryz.prog 221 0 = some (5, 0) := by kernel_rfl
theorem off_221_1 : fieldOff Tryz.prog 221 1 = some 1 := by kernel_rfl
theorem fty_221_1 : fieldTy Tryz.prog 221 1 = some (5, 1) := by kernel_rfl
theorem agg_222 : isAggT Tryz.prog 222 = some true := by kernel_rfl
theorem size_222 : sizeT Tryz.prog 222 = some 2 := by kernel_rfl
theorem zero_222 : zeroD Tryz.prog 222 = some [.int .u8 0, .int .u8 0] := by kernel_rfl
theorem place_222 : placesT Tryz.prog 222 = some [(0, 1), (1, 1)] := by kernel_rfl
theorem off_222_0 : fieldOff Tryz.prog 222 0 = some 0 := by kernel_rfl
theorem fty_222_0 : fieldTy Tryz.prog 222 0 = some (5, 0) := by kernel_rfl
theorem off_222_1 : fieldOff Tryz.prog 222 1 = some 1 := by kernel_rfl
theorem fty_222_1 : fieldTy Tryz.prog 222 1 = some (5, 1) := by kernel_rfl
theorem agg_223 : isAggT Tryz.prog 223 = some true := by kernel_rfl
theorem size_223 : sizeT Tryz.prog 223 = some 32 := by kernel_rfl
theorem zero_223 : zeroD Tryz.prog 223 = some [.int .u8 0, .int .u8 0, .int .u8 0, .int .u8 0, .int .u8 0, .int .u8 0, .int .u8 0, .int .u8 0, .int .u8 0, .int .u8 0, .int .u8 0, .int .u8 0, .int .u8 0, .int .u8 0, .int .u8 0, .int .u8 0, .int .u8 0, .int .u8 0, .int .u8 0, .int .u8 0, .int .u8 0, .int .u8 0, .int .u8 0, .int .u8 0, .int .u8 0, .int .u8 0, .int .u8 0, .int .u8 0, .int .u8 0, .int .u8 0, .int .u8 0, .int .u8 0] := by kernel_rfl
theorem und_223 : Tryz.prog.underlying 223 = some (.array 16 222) := by kernel_rfl
theorem place_223 : placesT Tryz.prog 223 = some [(0, 2), (2, 2), (4, 2), (6, 2), (8, 2), (10, 2), (12, 2), (14, 2), (16, 2), (18, 2), (20, 2), (22, 2), (24, 2), (26, 2), (28, 2), (30, 2)] := by kernel_rfl
theorem agg_224 : isAggT Tryz.prog 224 = some false := by kernel_rfl
theorem size_224 : sizeT Tryz.prog 224 = some 1 := by kernel_rfl
theorem agg_225 : isAggT Tryz.prog 225 = some false := by kernel_rfl
theorem size_225 : sizeT Tryz.prog 225 = some 1 := by kernel_rfl
theorem zero_225 : zeroD Tryz.prog 225 = some [.nilf] := by kernel_rfl
theorem agg_226 : isAggT Tryz.prog 226 = some false := by kernel_rfl
theorem size_226 : sizeT Tryz.prog 226 = some 1 := by kernel_rfl
theorem agg_227 : isAggT Tryz.prog 227 = some false := by kernel_rfl
theorem size_227 : sizeT Tryz.prog 227 = some 1 := by kernel_rfl
theorem zero_227 : zeroD Tryz.prog 227 = some [.nilf] := by kernel_rfl
theorem agg_228 : isAggT Tryz.prog 228 = some true := by kernel_rfl
theorem size_228 : sizeT Tryz.prog 228 = some 3 := by kernel_rfl
theorem zero_228 : zeroD Tryz.prog 228 = some [.str ByteArray.empty, .str ByteArray.empty, .nili] := by kernel_rfl
theorem place_228 : placesT Tryz.prog 228 = some [(0, 1), (1, 1), (2, 1)] := by kernel_rfl
theorem off_228_0 : fieldOff Tryz.prog 228 0 = some 0 := by kernel_rfl
theorem fty_228_0 : fieldTy Tryz.prog 228 0 = some (9, 0) := by kernel_rfl
theorem off_228_1 : fieldOff Tryz.prog 228 1 = some 1 := by kernel_rfl
theorem fty_228_1 : fieldTy Tryz.prog 228 1 = some (9, 1) := by kernel_rfl
theorem off_228_2 : fieldOff Tryz.prog 228 2 = some 2 := by kernel_rfl
theorem fty_228_2 : fieldTy Tryz.prog 228 2 = some (193, 2) := by kernel_rfl
theorem agg_229 : isAggT Tryz.prog 229 = some true := by kernel_rfl
theorem size_229 : sizeT Tryz.prog 229 = some 3 := by kernel_rfl
theorem zero_229 : zeroD Tryz.prog 229 = some [.str ByteArray.empty, .str ByteArray.empty, .nili] := by kernel_rfl
theorem place_229 : placesT Tryz.prog 229 = some [(0, 1), (1, 1), (2, 1)] := by kernel_rfl
theorem off_229_0 : fieldOff Tryz.prog 229 0 = some 0 := by kernel_rfl
theorem fty_229_0 : fieldTy Tryz.prog 229 0 = some (9, 0) := by kernel_rfl
theorem off_229_1 : fieldOff Tryz.prog 229 1 = some 1 := by kernel_rfl
theorem fty_229_1 : fieldTy Tryz.prog 229 1 = some (9, 1) := by kernel_rfl
theorem off_229_2 : fieldOff Tryz.prog 229 2 = some 2 := by kernel_rfl
theorem fty_229_2 : fieldTy Tryz.prog 229 2 = some (193, 2) := by kernel_rfl
theorem agg_230 : isAggT Tryz.prog 230 = some false := by kernel_rfl
theorem size_230 : sizeT Tryz.prog 230 = some 1 := by kernel_rfl
theorem zero_230 : zeroD Tryz.prog 230 = some [.nilf] := by kernel_rfl
theorem agg_231 : isAggT Tryz.prog 231 = some true := by kernel_rfl
theorem size_231 : sizeT Tryz.prog 231 = some 32 := by kernel_rfl
theorem zero_231 : zeroD Tryz.prog 231 = some [.int .u8 0, .int .u8 0, .int .u8 0, .int .u8 0, .int .u8 0, .int .u8 0, .int .u8 0, .int .u8 0, .int .u8 0, .int .u8 0, .int .u8 0, .int .u8 0, .int .u8 0, .int .u8 0, .int .u8 0, .int .u8 0, .int .u8 0, .int .u8 0, .int .u8 0, .int .u8 0, .int .u8 0, .int .u8 0, .int .u8 0, .int .u8 0, .int .u8 0, .int .u8 0, .int .u8 0, .int .u8 0, .int .u8 0, .int .u8 0, .int .u8 0, .int .u8 0] := by kernel_rfl
theorem und_231 : Tryz.prog.underlying 231 = some (.array 32 5) := by kernel_rfl
theorem place_231 : placesT Tryz.prog 231 = some [(0, 1), (1, 1), (2, 1), (3, 1), (4, 1), (5, 1), (6, 1), (7, 1), (8, 1), (9, 1), (10, 1), (11, 1), (12, 1), (13, 1), (14, 1), (15, 1), (16, 1), (17, 1), (18, 1), (19, 1), (20, 1), (21, 1), (22, 1), (23, 1), (24, 1), (25, 1), (26, 1), (27, 1), (28, 1), (29, 1), (30, 1), (31, 1)] := by kernel_rfl
theorem agg_232 : isAggT Tryz.prog 232 = some true := by kernel_rfl
theorem size_232 : sizeT Tryz.prog 232 = some 64 := by kernel_rfl
theorem und_232 : Tryz.prog.underlying 232 = some (.array 64 5) := by kernel_rfl
theorem agg_233 : isAggT Tryz.prog 233 = some false := by kernel_rfl
theorem size_233 : sizeT Tryz.prog 233 = some 1 := by kernel_rfl
theorem zero_233 : zeroD Tryz.prog 233 = some [.nilf] := by kernel_rfl
theorem agg_234 : isAggT Tryz.prog 234 = some false := by kernel_rfl
theorem size_234 : sizeT Tryz.prog 234 = some 1 := by kernel_rfl
theorem zero_234 : zeroD Tryz.prog 234 = some [.nilp] := by kernel_rfl
theorem und_234 : Tryz.prog.underlying 234 = some (.pointer 5) := by kernel_rfl
theorem agg_235 : isAggT Tryz.prog 235 = some false := by kernel_rfl
theorem size_235 : sizeT Tryz.prog 235 = some 1 := by kernel_rfl
theorem zero_235 : zeroD Tryz.prog 235 = some [.nilp] := by kernel_rfl
theorem und_235 : Tryz.prog.underlying 235 = some (.pointer 237) := by kernel_rfl
theorem agg_236 : isAggT Tryz.prog 236 = some true := by kernel_rfl
theorem size_236 : sizeT Tryz.prog 236 = some 1 := by kernel_rfl
theorem zero_236 : zeroD Tryz.prog 236 = some [.str ByteArray.empty] := by kernel_rfl
theorem place_236 : placesT Tryz.prog 236 = some [(0, 1)] := by kernel_rfl
theorem off_236_0 : fieldOff Tryz.prog 236 0 = some 0 := by kernel_rfl
theorem fty_236_0 : fieldTy Tryz.prog 236 0 = some (9, 0) := by kernel_rfl
theorem agg_237 : isAggT Tryz.prog 237 = some true := by kernel_rfl
theorem size_237 : sizeT Tryz.prog 237 = some 1 := by kernel_rfl
theorem zero_237 : zeroD Tryz.prog 237 = some [.str ByteArray.empty] := by kernel_rfl
theorem place_237 : placesT Tryz.prog 237 = some [(0, 1)] := by kernel_rfl
theorem off_237_0 : fieldOff Tryz.prog 237 0 = some 0 := by kernel_rfl
theorem fty_237_0 : fieldTy Tryz.prog 237 0 = some (9, 0) := by kernel_rfl
theorem agg_238 : isAggT Tryz.prog 238 = some false := by kernel_rfl
theorem size_238 : sizeT Tryz.prog 238 = some 1 := by kernel_rfl
theorem zero_238 : zeroD Tryz.prog 238 = some [.nilf] := by kernel_rfl
theorem agg_239 : isAggT Tryz.prog 239 = some true := by kernel_rfl
theorem size_239 : sizeT Tryz.prog 239 = some 4 := by kernel_rfl
theorem zero_239 : zeroD Tryz.prog 239 = some [.nilp, .nilp, .nilp, .str ByteArray.empty] := by kernel_rfl
theorem place_239 : placesT Tryz.prog 239 = some [(0, 1), (1, 1), (2, 1), (3, 1)] := by kernel_rfl
theorem off_239_0 : fieldOff Tryz.prog 239 0 = some 0 := by kernel_rfl
theorem fty_239_0 : fieldTy Tryz.prog 239 0 = some (17, 0) := by kernel_rfl
theorem off_239_1 : fieldOff Tryz.prog 239 1 = some 1 := by kernel_rfl
theorem fty_239_1 : fieldTy Tryz.prog 239 1 = some (17, 1) := by kernel_rfl
theorem off_239_2 : fieldOff Tryz.prog 239 2 = some 2 := by kernel_rfl
theorem fty_239_2 : fieldTy Tryz.prog 239 2 = some (17, 2) := by kernel_rfl
theorem off_239_3 : fieldOff Tryz.prog 239 3 = some 3 := by kernel_rfl
theorem fty_239_3 : fieldTy Tryz.prog 239 3 = some (9, 3) := by kernel_rfl
theorem agg_240 : isAggT Tryz.prog 240 = some true := by kernel_rfl
theorem size_240 : sizeT Tryz.prog 240 = some 4 := by kernel_rfl
theorem zero_240 : zeroD Tryz.prog 240 = some [.nilp, .nilp, .nilp, .str ByteArray.empty] := by kernel_rfl
theorem place_240 : placesT Tryz.prog 240 = some [(0, 1), (1, 1), (2, 1), (3, 1)] := by kernel_rfl
theorem off_240_0 : fieldOff Tryz.prog 240 0 = some 0 := by kernel_rfl
theorem fty_240_0 : fieldTy Tryz.prog 240 0 = some (17, 0) := by kernel_rfl
theorem off_240_1 : fieldOff Tryz.prog 240 1 = some 1 := by kernel_rfl
theorem fty_240_1 : fieldTy Tryz.prog 240 1 = some (17, 1) := by kernel_rfl
theorem off_240_2 : fieldOff Tryz.prog 240 2 = some 2 := by kernel_rfl
theorem fty_240_2 : fieldTy Tryz.prog 240 2 = some (17, 2) := by kernel_rfl
theorem off_240_3 : fieldOff Tryz.prog 240 3 = some 3 := by kernel_rfl
theorem fty_240_3 : fieldTy Tryz.prog 240 3 = some (9, 3) := by kernel_rfl
theorem agg_241 : isAggT Tryz.prog 241 = some true := by kernel_rfl
theorem size_241 : sizeT Tryz.prog 241 = some 0 := by kernel_rfl
theorem zero_241 : zeroD Tryz.prog 241 = some [] := by kernel_rfl
theorem und_241 : Tryz.prog.underlying 241 = some (.array 0 16) := by kernel_rfl
theorem place_241 : placesT Tryz.prog 241 = some [] := by kernel_rfl
theorem agg_242 : isAggT Tryz.prog 242 = some true := by kernel_rfl
theorem size_242 : sizeT Tryz.prog 242 = some 0 := by kernel_rfl
theorem zero_242 : zeroD Tryz.prog 242 = some [] := by kernel_rfl
theorem place_242 : placesT Tryz.prog 242 = some [(0, 0)] := by kernel_rfl
theorem fty_242_0 : fieldTy Tryz.prog 242 0 = some (241, 0) := by kernel_rfl
theorem agg_243 : isAggT Tryz.prog 243 = some true := by kernel_rfl
theorem size_243 : sizeT Tryz.prog 243 = some 0 := by kernel_rfl
theorem zero_243 : zeroD Tryz.prog 243 = some [] := by kernel_rfl
theorem place_243 : placesT Tryz.prog 243 = some [(0, 0)] := by kernel_rfl
theorem fty_243_0 : fieldTy Tryz.prog 243 0 = some (241, 0) := by kernel_rfl
theorem agg_244 : isAggT Tryz.prog 244 = some false := by kernel_rfl
theorem size_244 : sizeT Tryz.prog 244 = some 1 := by kernel_rfl
theorem zero_244 : zeroD Tryz.prog 244 = some [.int .u8 0] := by kernel_rfl
theorem und_244 : Tryz.prog.underlying 244 = some (.int .u8) := by kernel_rfl
theorem agg_245 : isAggT Tryz.prog 245 = some false := by kernel_rfl
theorem size_245 : sizeT Tryz.prog 245 = some 1 := by kernel_rfl
theorem zero_245 : zeroD Tryz.prog 245 = some [.int .u8 0] := by kernel_rfl
theorem und_245 : Tryz.prog.underlying 245 = some (.int .u8) := by kernel_rfl
theorem agg_246 : isAggT Tryz.prog 246 = some false := by kernel_rfl
theorem size_246 : sizeT Tryz.prog 246 = some 1 := by kernel_rfl
theorem zero_246 : zeroD Tryz.prog 246 = some [.nilf] := by kernel_rfl
theorem agg_247 : isAggT Tryz.prog 247 = some false := by kernel_rfl
theorem size_247 : sizeT Tryz.prog 247 = some 1 := by kernel_rfl
theorem zero_247 : zeroD Tryz.prog 247 = some [.int .i32 0] := by kernel_rfl
theorem und_247 : Tryz.prog.underlying 247 = some (.int .i32) := by kernel_rfl
theorem agg_248 : isAggT Tryz.prog 248 = some false := by kernel_rfl
theorem size_248 : sizeT Tryz.prog 248 = some 1 := by kernel_rfl
theorem zero_248 : zeroD Tryz.prog 248 = some [.int .i32 0] := by kernel_rfl
theorem und_248 : Tryz.prog.underlying 248 = some (.int .i32) := by kernel_rfl
theorem agg_249 : isAggT Tryz.prog 249 = some true := by kernel_rfl
theorem size_249 : sizeT Tryz.prog 249 = some 11 := by kernel_rfl
theorem zero_249 : zeroD Tryz.prog 249 = some [.int .u64 0, .int .u64 0, .int .u32 0, .int .u8 0, .int .u8 0, .int .u8 0, .int .u8 0, .nilf, .nilp, .int .i32 0, .int .i32 0] := by kernel_rfl
theorem place_249 : placesT Tryz.prog 249 = some [(0, 1), (1, 1), (2, 1), (3, 1), (4, 1), (5, 1), (6, 1), (7, 1), (8, 1), (9, 1), (10, 1)] := by kernel_rfl
theorem off_249_0 : fieldOff Tryz.prog 249 0 = some 0 := by kernel_rfl
theorem fty_249_0 : fieldTy Tryz.prog 249 0 = some (12, 0) := by kernel_rfl
theorem off_249_1 : fieldOff Tryz.prog 249 1 = some 1 := by kernel_rfl
theorem fty_249_1 : fieldTy Tryz.prog 249 1 = some (12, 1) := by kernel_rfl
theorem off_249_2 : fieldOff Tryz.prog 249 2 = some 2 := by kernel_rfl
theorem fty_249_2 : fieldTy Tryz.prog 249 2 = some (209, 2) := by kernel_rfl
theorem off_249_3 : fieldOff Tryz.prog 249 3 = some 3 := by kernel_rfl
theorem fty_249_3 : fieldTy Tryz.prog 249 3 = some (244, 3) := by kernel_rfl
theorem off_249_4 : fieldOff Tryz.prog 249 4 = some 4 := by kernel_rfl
theorem fty_249_4 : fieldTy Tryz.prog 249 4 = some (5, 4) := by kernel_rfl
theorem off_249_5 : fieldOff Tryz.prog 249 5 = some 5 := by kernel_rfl
theorem fty_249_5 : fieldTy Tryz.prog 249 5 = some (5, 5) := by kernel_rfl
theorem off_249_6 : fieldOff Tryz.prog 249 6 = some 6 := by kernel_rfl
theorem fty_249_6 : fieldTy Tryz.prog 249 6 = some (245, 6) := by kernel_rfl
theorem off_249_7 : fieldOff Tryz.prog 249 7 = some 7 := by kernel_rfl
theorem fty_249_7 : fieldTy Tryz.prog 249 7 = some (246, 7) := by kernel_rfl
theorem off_249_8 : fieldOff Tryz.prog 249 8 = some 8 := by kernel_rfl
theorem fty_249_8 : fieldTy Tryz.prog 249 8 = some (234, 8) := by kernel_rfl
theorem off_249_9 : fieldOff Tryz.prog 249 9 = some 9 := by kernel_rfl
theorem fty_249_9 : fieldTy Tryz.prog 249 9 = some (247, 9) := by kernel_rfl
theorem off_249_10 : fieldOff Tryz.prog 249 10 = some 10 := by kernel_rfl
theorem fty_249_10 : fieldTy Tryz.prog 249 10 = some (248, 10) := by kernel_rfl
theorem agg_250 : isAggT Tryz.prog 250 = some true := by kernel_rfl
theorem size_250 : sizeT Tryz.prog 250 = some 11 := by kernel_rfl
theorem zero_250 : zeroD Tryz.prog 250 = some [.int .u64 0, .int .u64 0, .int .u32 0, .int .u8 0, .int .u8 0, .int .u8 0, .int .u8 0, .nilf, .nilp, .int .i32 0, .int .i32 0] := by kernel_rfl
theorem place_250 : placesT Tryz.prog 250 = some [(0, 1), (1, 1), (2, 1), (3, 1), (4, 1), (5, 1), (6, 1), (7, 1), (8, 1), (9, 1), (10, 1)] := by kernel_rfl
theorem off_250_0 : fieldOff Tryz.prog 250 0 = some 0 := by kernel_rfl
theorem fty_250_0 : fieldTy Tryz.prog 250 0 = some (12, 0) := by kernel_rfl
theorem off_250_1 : fieldOff Tryz.prog 250 1 = some 1 := by kernel_rfl
theorem fty_250_1 : fieldTy Tryz.prog 250 1 = some (12, 1) := by kernel_rfl
theorem off_250_2 : fieldOff Tryz.prog 250 2 = some 2 := by kernel_rfl
theorem fty_250_2 : fieldTy Tryz.prog 250 2 = some (209, 2) := by kernel_rfl
theorem off_250_3 : fieldOff Tryz.prog 250 3 = some 3 := by kernel_rfl
theorem fty_250_3 : fieldTy Tryz.prog 250 3 = some (244, 3) := by kernel_rfl
theorem off_250_4 : fieldOff Tryz.prog 250 4 = some 4 := by kernel_rfl
theorem fty_250_4 : fieldTy Tryz.prog 250 4 = some (5, 4) := by kernel_rfl
theorem off_250_5 : fieldOff Tryz.prog 250 5 = some 5 := by kernel_rfl
theorem fty_250_5 : fieldTy Tryz.prog 250 5 = some (5, 5) := by kernel_rfl
theorem off_250_6 : fieldOff Tryz.prog 250 6 = some 6 := by kernel_rfl
theorem fty_250_6 : fieldTy Tryz.prog 250 6 = some (245, 6) := by kernel_rfl
theorem off_250_7 : fieldOff Tryz.prog 250 7 = some 7 := by kernel_rfl
theorem fty_250_7 : fieldTy Tryz.prog 250 7 = some (246, 7) := by kernel_rfl
theorem off_250_8 : fieldOff Tryz.prog 250 8 = some 8 := by kernel_rfl
theorem fty_250_8 : fieldTy Tryz.prog 250 8 = some (234, 8) := by kernel_rfl
theorem off_250_9 : fieldOff Tryz.prog 250 9 = some 9 := by kernel_rfl
theorem fty_250_9 : fieldTy Tryz.prog 250 9 = some (247, 9) := by kernel_rfl
theorem off_250_10 : fieldOff Tryz.prog 250 10 = some 10 := by kernel_rfl
theorem fty_250_10 : fieldTy Tryz.prog 250 10 = some (248, 10) := by kernel_rfl
theorem agg_251 : isAggT Tryz.prog 251 = some false := by kernel_rfl
theorem size_251 : sizeT Tryz.prog 251 = some 1 := by kernel_rfl
theorem zero_251 : zeroD Tryz.prog 251 = some [.nilp] := by kernel_rfl
end Go.Sx.Fz
