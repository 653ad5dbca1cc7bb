/- Facts of types, printed by program (FactsGen.lean). -/
import Derived.Test.YtaifjmjooapmhaaGreatSxMc
import Derived.Test.YtaifjmjooapmhaaGreatProg
set_option linter.unusedVariables false
set_option linter.unusedSimpArgs false
namespace Go.Sx.Fz
open Go.Proofs
theorem agg_0 : isAggT Tryz.prog 0 = some false := by kernel_rfl
theorem size_0 : sizeT Tryz.prog 0 = some 1 := by kernel_rfl
theorem agg_1 : isAggT Tryz.prog 1 = some false := by kernel_rfl
theorem size_1 : sizeT Tryz.prog 1 = some 1 := by kernel_rfl
theorem zero_1 : zeroD Tryz.prog 1 = some [.nilf] := by kernel_rfl
theorem agg_2 : isAggT Tryz.prog 2 = some false := by kernel_rfl
theorem size_2 : sizeT Tryz.prog 2 = some 1 := by kernel_rfl
theorem zero_2 : zeroD Tryz.prog 2 = some [.int .i64 0] := by kernel_rfl
theorem agg_3 : isAggT Tryz.prog 3 = some false := by kernel_rfl
theorem size_3 : sizeT Tryz.prog 3 = some 1 := by kernel_rfl
theorem zero_3 : zeroD Tryz.prog 3 = some [.int .i64 0] := by kernel_rfl
theorem und_3 : Tryz.prog.underlying 3 = some (.int .i64) := by kernel_rfl
theorem agg_4 : isAggT Tryz.prog 4 = some false := by kernel_rfl
theorem size_4 : sizeT Tryz.prog 4 = some 1 := by kernel_rfl
theorem zero_4 : zeroD Tryz.prog 4 = some [.bool false] := by kernel_rfl
theorem und_4 : Tryz.prog.underlying 4 = some (.bool) := by kernel_rfl
theorem agg_5 : isAggT Tryz.prog 5 = some false := by kernel_rfl
theorem size_5 : sizeT Tryz.prog 5 = some 1 := by kernel_rfl
theorem zero_5 : zeroD Tryz.prog 5 = some [.int .u8 0] := by kernel_rfl
theorem agg_6 : isAggT Tryz.prog 6 = some false := by kernel_rfl
theorem size_6 : sizeT Tryz.prog 6 = some 1 := by kernel_rfl
theorem zero_6 : zeroD Tryz.prog 6 = some [.int .u8 0] := by kernel_rfl
theorem agg_7 : isAggT Tryz.prog 7 = some true := by kernel_rfl
theorem size_7 : sizeT Tryz.prog 7 = some 4 := by kernel_rfl
theorem zero_7 : zeroD Tryz.prog 7 = some [.int .i64 0, .int .i64 0, .bool false, .int .u8 0] := by kernel_rfl
theorem place_7 : placesT Tryz.prog 7 = some [(0, 1), (1, 1), (2, 1), (3, 1)] := by kernel_rfl
theorem off_7_0 : fieldOff Tryz.prog 7 0 = some 0 := by kernel_rfl
theorem fty_7_0 : fieldTy Tryz.prog 7 0 = some (2, 0) := by kernel_rfl
theorem off_7_1 : fieldOff Tryz.prog 7 1 = some 1 := by kernel_rfl
theorem fty_7_1 : fieldTy Tryz.prog 7 1 = some (3, 1) := by kernel_rfl
theorem off_7_2 : fieldOff Tryz.prog 7 2 = some 2 := by kernel_rfl
theorem fty_7_2 : fieldTy Tryz.prog 7 2 = some (4, 2) := by kernel_rfl
theorem off_7_3 : fieldOff Tryz.prog 7 3 = some 3 := by kernel_rfl
theorem fty_7_3 : fieldTy Tryz.prog 7 3 = some (6, 3) := by kernel_rfl
theorem agg_8 : isAggT Tryz.prog 8 = some true := by kernel_rfl
theorem size_8 : sizeT Tryz.prog 8 = some 4 := by kernel_rfl
theorem zero_8 : zeroD Tryz.prog 8 = some [.int .i64 0, .int .i64 0, .bool false, .int .u8 0] := by kernel_rfl
theorem place_8 : placesT Tryz.prog 8 = some [(0, 1), (1, 1), (2, 1), (3, 1)] := by kernel_rfl
theorem off_8_0 : fieldOff Tryz.prog 8 0 = some 0 := by kernel_rfl
theorem fty_8_0 : fieldTy Tryz.prog 8 0 = some (2, 0) := by kernel_rfl
theorem off_8_1 : fieldOff Tryz.prog 8 1 = some 1 := by kernel_rfl
theorem fty_8_1 : fieldTy Tryz.prog 8 1 = some (3, 1) := by kernel_rfl
theorem off_8_2 : fieldOff Tryz.prog 8 2 = some 2 := by kernel_rfl
theorem fty_8_2 : fieldTy Tryz.prog 8 2 = some (4, 2) := by kernel_rfl
theorem off_8_3 : fieldOff Tryz.prog 8 3 = some 3 := by kernel_rfl
theorem fty_8_3 : fieldTy Tryz.prog 8 3 = some (6, 3) := by kernel_rfl
theorem agg_9 : isAggT Tryz.prog 9 = some false := by kernel_rfl
theorem size_9 : sizeT Tryz.prog 9 = some 1 := by kernel_rfl
theorem zero_9 : zeroD Tryz.prog 9 = some [.str ByteArray.empty] := by kernel_rfl
theorem und_9 : Tryz.prog.underlying 9 = some (.string) := by kernel_rfl
theorem agg_10 : isAggT Tryz.prog 10 = some false := by kernel_rfl
theorem size_10 : sizeT Tryz.prog 10 = some 1 := by kernel_rfl
theorem zero_10 : zeroD Tryz.prog 10 = some [.str ByteArray.empty] := by kernel_rfl
theorem und_10 : Tryz.prog.underlying 10 = some (.string) := by kernel_rfl
theorem agg_11 : isAggT Tryz.prog 11 = some false := by kernel_rfl
theorem size_11 : sizeT Tryz.prog 11 = some 1 := by kernel_rfl
theorem zero_11 : zeroD Tryz.prog 11 = some [.str ByteArray.empty] := by kernel_rfl
theorem und_11 : Tryz.prog.underlying 11 = some (.string) := by kernel_rfl
theorem agg_12 : isAggT Tryz.prog 12 = some false := by kernel_rfl
theorem size_12 : sizeT Tryz.prog 12 = some 1 := by kernel_rfl
theorem zero_12 : zeroD Tryz.prog 12 = some [.int .u64 0] := by kernel_rfl
theorem agg_13 : isAggT Tryz.prog 13 = some true := by kernel_rfl
theorem size_13 : sizeT Tryz.prog 13 = some 2 := by kernel_rfl
theorem zero_13 : zeroD Tryz.prog 13 = some [.str ByteArray.empty, .int .u64 0] := by kernel_rfl
theorem place_13 : placesT Tryz.prog 13 = some [(0, 1), (1, 1)] := by kernel_rfl
theorem off_13_0 : fieldOff Tryz.prog 13 0 = some 0 := by kernel_rfl
theorem fty_13_0 : fieldTy Tryz.prog 13 0 = some (9, 0) := by kernel_rfl
theorem off_13_1 : fieldOff Tryz.prog 13 1 = some 1 := by kernel_rfl
theorem fty_13_1 : fieldTy Tryz.prog 13 1 = some (12, 1) := by kernel_rfl
theorem agg_14 : isAggT Tryz.prog 14 = some true := by kernel_rfl
theorem size_14 : sizeT Tryz.prog 14 = some 2 := by kernel_rfl
theorem zero_14 : zeroD Tryz.prog 14 = some [.str ByteArray.empty, .int .u64 0] := by kernel_rfl
theorem place_14 : placesT Tryz.prog 14 = some [(0, 1), (1, 1)] := by kernel_rfl
theorem off_14_0 : fieldOff Tryz.prog 14 0 = some 0 := by kernel_rfl
theorem fty_14_0 : fieldTy Tryz.prog 14 0 = some (9, 0) := by kernel_rfl
theorem off_14_1 : fieldOff Tryz.prog 14 1 = some 1 := by kernel_rfl
theorem fty_14_1 : fieldTy Tryz.prog 14 1 = some (12, 1) := by kernel_rfl
theorem agg_15 : isAggT Tryz.prog 15 = some false := by kernel_rfl
theorem size_15 : sizeT Tryz.prog 15 = some 1 := by kernel_rfl
theorem zero_15 : zeroD Tryz.prog 15 = some [.nilp] := by kernel_rfl
theorem agg_16 : isAggT Tryz.prog 16 = some false := by kernel_rfl
theorem size_16 : sizeT Tryz.prog 16 = some 1 := by kernel_rfl
theorem zero_16 : zeroD Tryz.prog 16 = some [.nilp] := by kernel_rfl
theorem agg_17 : isAggT Tryz.prog 17 = some false := by kernel_rfl
theorem size_17 : sizeT Tryz.prog 17 = some 1 := by kernel_rfl
theorem zero_17 : zeroD Tryz.prog 17 = some [.nilp] := by kernel_rfl
theorem agg_18 : isAggT Tryz.prog 18 = some true := by kernel_rfl
theorem size_18 : sizeT Tryz.prog 18 = some 1 := by kernel_rfl
theorem zero_18 : zeroD Tryz.prog 18 = some [.nilp] := by kernel_rfl
theorem place_18 : placesT Tryz.prog 18 = some [(0, 1)] := by kernel_rfl
theorem off_18_0 : fieldOff Tryz.prog 18 0 = some 0 := by kernel_rfl
theorem fty_18_0 : fieldTy Tryz.prog 18 0 = some (17, 0) := by kernel_rfl
theorem agg_19 : isAggT Tryz.prog 19 = some true := by kernel_rfl
theorem size_19 : sizeT Tryz.prog 19 = some 1 := by kernel_rfl
theorem zero_19 : zeroD Tryz.prog 19 = some [.nilp] := by kernel_rfl
theorem place_19 : placesT Tryz.prog 19 = some [(0, 1)] := by kernel_rfl
theorem off_19_0 : fieldOff Tryz.prog 19 0 = some 0 := by kernel_rfl
theorem fty_19_0 : fieldTy Tryz.prog 19 0 = some (17, 0) := by kernel_rfl
theorem agg_20 : isAggT Tryz.prog 20 = some false := by kernel_rfl
theorem size_20 : sizeT Tryz.prog 20 = some 1 := by kernel_rfl
theorem zero_20 : zeroD Tryz.prog 20 = some [.nili] := by kernel_rfl
theorem agg_21 : isAggT Tryz.prog 21 = some false := by kernel_rfl
theorem size_21 : sizeT Tryz.prog 21 = some 1 := by kernel_rfl
theorem zero_21 : zeroD Tryz.prog 21 = some [.int .i32 0] := by kernel_rfl
theorem agg_22 : isAggT Tryz.prog 22 = some false := by kernel_rfl
theorem size_22 : sizeT Tryz.prog 22 = some 1 := by kernel_rfl
theorem zero_22 : zeroD Tryz.prog 22 = some [.nils] := by kernel_rfl
theorem und_22 : Tryz.prog.underlying 22 = some (.slice 52) := by kernel_rfl
theorem bytes_52_22 : Tryz.prog.bytesOf 52 = 16 := by kernel_rfl
theorem agg_23 : isAggT Tryz.prog 23 = some true := by kernel_rfl
theorem size_23 : sizeT Tryz.prog 23 = some 3 := by kernel_rfl
theorem zero_23 : zeroD Tryz.prog 23 = some [.int .i64 0, .int .i64 0, .nils] := by kernel_rfl
theorem place_23 : placesT Tryz.prog 23 = some [(0, 1), (1, 1), (2, 1)] := by kernel_rfl
theorem off_23_0 : fieldOff Tryz.prog 23 0 = some 0 := by kernel_rfl
theorem fty_23_0 : fieldTy Tryz.prog 23 0 = some (3, 0) := by kernel_rfl
theorem off_23_1 : fieldOff Tryz.prog 23 1 = some 1 := by kernel_rfl
theorem fty_23_1 : fieldTy Tryz.prog 23 1 = some (3, 1) := by kernel_rfl
theorem off_23_2 : fieldOff Tryz.prog 23 2 = some 2 := by kernel_rfl
theorem fty_23_2 : fieldTy Tryz.prog 23 2 = some (22, 2) := by kernel_rfl
theorem agg_24 : isAggT Tryz.prog 24 = some true := by kernel_rfl
theorem size_24 : sizeT Tryz.prog 24 = some 3 := by kernel_rfl
theorem zero_24 : zeroD Tryz.prog 24 = some [.int .i64 0, .int .i64 0, .nils] := by kernel_rfl
theorem place_24 : placesT Tryz.prog 24 = some [(0, 1), (1, 1), (2, 1)] := by kernel_rfl
theorem off_24_0 : fieldOff Tryz.prog 24 0 = some 0 := by kernel_rfl
theorem fty_24_0 : fieldTy Tryz.prog 24 0 = some (3, 0) := by kernel_rfl
theorem off_24_1 : fieldOff Tryz.prog 24 1 = some 1 := by kernel_rfl
theorem fty_24_1 : fieldTy Tryz.prog 24 1 = some (3, 1) := by kernel_rfl
theorem off_24_2 : fieldOff Tryz.prog 24 2 = some 2 := by kernel_rfl
theorem fty_24_2 : fieldTy Tryz.prog 24 2 = some (22, 2) := by kernel_rfl
theorem agg_25 : isAggT Tryz.prog 25 = some false := by kernel_rfl
theorem size_25 : sizeT Tryz.prog 25 = some 1 := by kernel_rfl
theorem zero_25 : zeroD Tryz.prog 25 = some [.nils] := by kernel_rfl
theorem und_25 : Tryz.prog.underlying 25 = some (.slice 115) := by kernel_rfl
theorem agg_26 : isAggT Tryz.prog 26 = some true := by kernel_rfl
theorem size_26 : sizeT Tryz.prog 26 = some 4 := by kernel_rfl
theorem zero_26 : zeroD Tryz.prog 26 = some [.int .i64 0, .int .i64 0, .int .i64 0, .nils] := by kernel_rfl
theorem place_26 : placesT Tryz.prog 26 = some [(0, 1), (1, 1), (2, 1), (3, 1)] := by kernel_rfl
theorem off_26_0 : fieldOff Tryz.prog 26 0 = some 0 := by kernel_rfl
theorem fty_26_0 : fieldTy Tryz.prog 26 0 = some (3, 0) := by kernel_rfl
theorem off_26_1 : fieldOff Tryz.prog 26 1 = some 1 := by kernel_rfl
theorem fty_26_1 : fieldTy Tryz.prog 26 1 = some (3, 1) := by kernel_rfl
theorem off_26_2 : fieldOff Tryz.prog 26 2 = some 2 := by kernel_rfl
theorem fty_26_2 : fieldTy Tryz.prog 26 2 = some (3, 2) := by kernel_rfl
theorem off_26_3 : fieldOff Tryz.prog 26 3 = some 3 := by kernel_rfl
theorem fty_26_3 : fieldTy Tryz.prog 26 3 = some (25, 3) := by kernel_rfl
theorem agg_27 : isAggT Tryz.prog 27 = some true := by kernel_rfl
theorem size_27 : sizeT Tryz.prog 27 = some 4 := by kernel_rfl
theorem zero_27 : zeroD Tryz.prog 27 = some [.int .i64 0, .int .i64 0, .int .i64 0, .nils] := by kernel_rfl
theorem place_27 : placesT Tryz.prog 27 = some [(0, 1), (1, 1), (2, 1), (3, 1)] := by kernel_rfl
theorem off_27_0 : fieldOff Tryz.prog 27 0 = some 0 := by kernel_rfl
theorem fty_27_0 : fieldTy Tryz.prog 27 0 = some (3, 0) := by kernel_rfl
theorem off_27_1 : fieldOff Tryz.prog 27 1 = some 1 := by kernel_rfl
theorem fty_27_1 : fieldTy Tryz.prog 27 1 = some (3, 1) := by kernel_rfl
theorem off_27_2 : fieldOff Tryz.prog 27 2 = some 2 := by kernel_rfl
theorem fty_27_2 : fieldTy Tryz.prog 27 2 = some (3, 2) := by kernel_rfl
theorem off_27_3 : fieldOff Tryz.prog 27 3 = some 3 := by kernel_rfl
theorem fty_27_3 : fieldTy Tryz.prog 27 3 = some (25, 3) := by kernel_rfl
theorem agg_28 : isAggT Tryz.prog 28 = some true := by kernel_rfl
theorem size_28 : sizeT Tryz.prog 28 = some 20 := by kernel_rfl
theorem zero_28 : zeroD Tryz.prog 28 = some [.int .i64 0, .int .i64 0, .int .i64 0, .nils, .int .i64 0, .int .i64 0, .int .i64 0, .nils, .int .i64 0, .int .i64 0, .int .i64 0, .nils, .int .i64 0, .int .i64 0, .int .i64 0, .nils, .int .i64 0, .int .i64 0, .int .i64 0, .nils] := by kernel_rfl
theorem place_28 : placesT Tryz.prog 28 = some [(0, 4), (4, 4), (8, 4), (12, 4), (16, 4)] := by kernel_rfl
theorem off_28_0 : fieldOff Tryz.prog 28 0 = some 0 := by kernel_rfl
theorem fty_28_0 : fieldTy Tryz.prog 28 0 = some (27, 0) := by kernel_rfl
theorem off_28_1 : fieldOff Tryz.prog 28 1 = some 4 := by kernel_rfl
theorem fty_28_1 : fieldTy Tryz.prog 28 1 = some (27, 4) := by kernel_rfl
theorem off_28_2 : fieldOff Tryz.prog 28 2 = some 8 := by kernel_rfl
theorem fty_28_2 : fieldTy Tryz.prog 28 2 = some (27, 8) := by kernel_rfl
theorem off_28_3 : fieldOff Tryz.prog 28 3 = some 12 := by kernel_rfl
theorem fty_28_3 : fieldTy Tryz.prog 28 3 = some (27, 12) := by kernel_rfl
theorem off_28_4 : fieldOff Tryz.prog 28 4 = some 16 := by kernel_rfl
theorem fty_28_4 : fieldTy Tryz.prog 28 4 = some (27, 16) := by kernel_rfl
theorem agg_29 : isAggT Tryz.prog 29 = some true := by kernel_rfl
theorem size_29 : sizeT Tryz.prog 29 = some 20 := by kernel_rfl
theorem zero_29 : zeroD Tryz.prog 29 = some [.int .i64 0, .int .i64 0, .int .i64 0, .nils, .int .i64 0, .int .i64 0, .int .i64 0, .nils, .int .i64 0, .int .i64 0, .int .i64 0, .nils, .int .i64 0, .int .i64 0, .int .i64 0, .nils, .int .i64 0, .int .i64 0, .int .i64 0, .nils] := by kernel_rfl
theorem place_29 : placesT Tryz.prog 29 = some [(0, 4), (4, 4), (8, 4), (12, 4), (16, 4)] := by kernel_rfl
theorem off_29_0 : fieldOff Tryz.prog 29 0 = some 0 := by kernel_rfl
theorem fty_29_0 : fieldTy Tryz.prog 29 0 = some (27, 0) := by kernel_rfl
theorem off_29_1 : fieldOff Tryz.prog 29 1 = some 4 := by kernel_rfl
theorem fty_29_1 : fieldTy Tryz.prog 29 1 = some (27, 4) := by kernel_rfl
theorem off_29_2 : fieldOff Tryz.prog 29 2 = some 8 := by kernel_rfl
theorem fty_29_2 : fieldTy Tryz.prog 29 2 = some (27, 8) := by kernel_rfl
theorem off_29_3 : fieldOff Tryz.prog 29 3 = some 12 := by kernel_rfl
theorem fty_29_3 : fieldTy Tryz.prog 29 3 = some (27, 12) := by kernel_rfl
theorem off_29_4 : fieldOff Tryz.prog 29 4 = some 16 := by kernel_rfl
theorem fty_29_4 : fieldTy Tryz.prog 29 4 = some (27, 16) := by kernel_rfl
theorem agg_30 : isAggT Tryz.prog 30 = some false := by kernel_rfl
theorem size_30 : sizeT Tryz.prog 30 = some 1 := by kernel_rfl
theorem zero_30 : zeroD Tryz.prog 30 = some [.nils] := by kernel_rfl
theorem und_30 : Tryz.prog.underlying 30 = some (.slice 54) := by kernel_rfl
theorem agg_31 : isAggT Tryz.prog 31 = some false := by kernel_rfl
theorem size_31 : sizeT Tryz.prog 31 = some 1 := by kernel_rfl
theorem zero_31 : zeroD Tryz.prog 31 = some [.nils] := by kernel_rfl
theorem und_31 : Tryz.prog.underlying 31 = some (.slice 111) := by kernel_rfl
theorem agg_32 : isAggT Tryz.prog 32 = some true := by kernel_rfl
theorem size_32 : sizeT Tryz.prog 32 = some 25 := by kernel_rfl
theorem zero_32 : zeroD Tryz.prog 32 = some [.int .i64 0, .int .i64 0, .nils, .int .i64 0, .int .i64 0, .int .i64 0, .nils, .int .i64 0, .int .i64 0, .int .i64 0, .nils, .int .i64 0, .int .i64 0, .int .i64 0, .nils, .int .i64 0, .int .i64 0, .int .i64 0, .nils, .int .i64 0, .int .i64 0, .int .i64 0, .nils, .nils, .nils] := by kernel_rfl
theorem place_32 : placesT Tryz.prog 32 = some [(0, 3), (3, 20), (23, 1), (24, 1)] := by kernel_rfl
theorem off_32_0 : fieldOff Tryz.prog 32 0 = some 0 := by kernel_rfl
theorem fty_32_0 : fieldTy Tryz.prog 32 0 = some (24, 0) := by kernel_rfl
theorem off_32_1 : fieldOff Tryz.prog 32 1 = some 3 := by kernel_rfl
theorem fty_32_1 : fieldTy Tryz.prog 32 1 = some (29, 3) := by kernel_rfl
theorem off_32_2 : fieldOff Tryz.prog 32 2 = some 23 := by kernel_rfl
theorem fty_32_2 : fieldTy Tryz.prog 32 2 = some (30, 23) := by kernel_rfl
theorem off_32_3 : fieldOff Tryz.prog 32 3 = some 24 := by kernel_rfl
theorem fty_32_3 : fieldTy Tryz.prog 32 3 = some (31, 24) := by kernel_rfl
theorem agg_33 : isAggT Tryz.prog 33 = some true := by kernel_rfl
theorem size_33 : sizeT Tryz.prog 33 = some 25 := by kernel_rfl
theorem zero_33 : zeroD Tryz.prog 33 = some [.int .i64 0, .int .i64 0, .nils, .int .i64 0, .int .i64 0, .int .i64 0, .nils, .int .i64 0, .int .i64 0, .int .i64 0, .nils, .int .i64 0, .int .i64 0, .int .i64 0, .nils, .int .i64 0, .int .i64 0, .int .i64 0, .nils, .int .i64 0, .int .i64 0, .int .i64 0, .nils, .nils, .nils] := by kernel_rfl
theorem place_33 : placesT Tryz.prog 33 = some [(0, 3), (3, 20), (23, 1), (24, 1)] := by kernel_rfl
theorem off_33_0 : fieldOff Tryz.prog 33 0 = some 0 := by kernel_rfl
theorem fty_33_0 : fieldTy Tryz.prog 33 0 = some (24, 0) := by kernel_rfl
theorem off_33_1 : fieldOff Tryz.prog 33 1 = some 3 := by kernel_rfl
theorem fty_33_1 : fieldTy Tryz.prog 33 1 = some (29, 3) := by kernel_rfl
theorem off_33_2 : fieldOff Tryz.prog 33 2 = some 23 := by kernel_rfl
theorem fty_33_2 : fieldTy Tryz.prog 33 2 = some (30, 23) := by kernel_rfl
theorem off_33_3 : fieldOff Tryz.prog 33 3 = some 24 := by kernel_rfl
theorem fty_33_3 : fieldTy Tryz.prog 33 3 = some (31, 24) := by kernel_rfl
theorem agg_34 : isAggT Tryz.prog 34 = some false := by kernel_rfl
theorem size_34 : sizeT Tryz.prog 34 = some 1 := by kernel_rfl
theorem zero_34 : zeroD Tryz.prog 34 = some [.nils] := by kernel_rfl
theorem und_34 : Tryz.prog.underlying 34 = some (.slice 3) := by kernel_rfl
theorem bytes_3_34 : Tryz.prog.bytesOf 3 = 8 := by kernel_rfl
theorem agg_35 : isAggT Tryz.prog 35 = some false := by kernel_rfl
theorem size_35 : sizeT Tryz.prog 35 = some 1 := by kernel_rfl
theorem zero_35 : zeroD Tryz.prog 35 = some [.nils] := by kernel_rfl
theorem und_35 : Tryz.prog.underlying 35 = some (.slice 4) := by kernel_rfl
theorem bytes_4_35 : Tryz.prog.bytesOf 4 = 1 := by kernel_rfl
theorem agg_36 : isAggT Tryz.prog 36 = some true := by kernel_rfl
theorem size_36 : sizeT Tryz.prog 36 = some 8 := by kernel_rfl
theorem zero_36 : zeroD Tryz.prog 36 = some [.int .i64 0, .int .i64 0, .int .i64 0, .int .i64 0, .int .i64 0, .int .i64 0, .nils, .nils] := by kernel_rfl
theorem place_36 : placesT Tryz.prog 36 = some [(0, 1), (1, 1), (2, 1), (3, 1), (4, 1), (5, 1), (6, 1), (7, 1)] := by kernel_rfl
theorem off_36_0 : fieldOff Tryz.prog 36 0 = some 0 := by kernel_rfl
theorem fty_36_0 : fieldTy Tryz.prog 36 0 = some (3, 0) := by kernel_rfl
theorem off_36_1 : fieldOff Tryz.prog 36 1 = some 1 := by kernel_rfl
theorem fty_36_1 : fieldTy Tryz.prog 36 1 = some (3, 1) := by kernel_rfl
theorem off_36_2 : fieldOff Tryz.prog 36 2 = some 2 := by kernel_rfl
theorem fty_36_2 : fieldTy Tryz.prog 36 2 = some (3, 2) := by kernel_rfl
theorem off_36_3 : fieldOff Tryz.prog 36 3 = some 3 := by kernel_rfl
theorem fty_36_3 : fieldTy Tryz.prog 36 3 = some (3, 3) := by kernel_rfl
theorem off_36_4 : fieldOff Tryz.prog 36 4 = some 4 := by kernel_rfl
theorem fty_36_4 : fieldTy Tryz.prog 36 4 = some (3, 4) := by kernel_rfl
theorem off_36_5 : fieldOff Tryz.prog 36 5 = some 5 := by kernel_rfl
theorem fty_36_5 : fieldTy Tryz.prog 36 5 = some (3, 5) := by kernel_rfl
theorem off_36_6 : fieldOff Tryz.prog 36 6 = some 6 := by kernel_rfl
theorem fty_36_6 : fieldTy Tryz.prog 36 6 = some (34, 6) := by kernel_rfl
theorem off_36_7 : fieldOff Tryz.prog 36 7 = some 7 := by kernel_rfl
theorem fty_36_7 : fieldTy Tryz.prog 36 7 = some (35, 7) := by kernel_rfl
theorem agg_37 : isAggT Tryz.prog 37 = some true := by kernel_rfl
theorem size_37 : sizeT Tryz.prog 37 = some 8 := by kernel_rfl
theorem zero_37 : zeroD Tryz.prog 37 = some [.int .i64 0, .int .i64 0, .int .i64 0, .int .i64 0, .int .i64 0, .int .i64 0, .nils, .nils] := by kernel_rfl
theorem place_37 : placesT Tryz.prog 37 = some [(0, 1), (1, 1), (2, 1), (3, 1), (4, 1), (5, 1), (6, 1), (7, 1)] := by kernel_rfl
theorem off_37_0 : fieldOff Tryz.prog 37 0 = some 0 := by kernel_rfl
theorem fty_37_0 : fieldTy Tryz.prog 37 0 = some (3, 0) := by kernel_rfl
theorem off_37_1 : fieldOff Tryz.prog 37 1 = some 1 := by kernel_rfl
theorem fty_37_1 : fieldTy Tryz.prog 37 1 = some (3, 1) := by kernel_rfl
theorem off_37_2 : fieldOff Tryz.prog 37 2 = some 2 := by kernel_rfl
theorem fty_37_2 : fieldTy Tryz.prog 37 2 = some (3, 2) := by kernel_rfl
theorem off_37_3 : fieldOff Tryz.prog 37 3 = some 3 := by kernel_rfl
theorem fty_37_3 : fieldTy Tryz.prog 37 3 = some (3, 3) := by kernel_rfl
theorem off_37_4 : fieldOff Tryz.prog 37 4 = some 4 := by kernel_rfl
theorem fty_37_4 : fieldTy Tryz.prog 37 4 = some (3, 4) := by kernel_rfl
theorem off_37_5 : fieldOff Tryz.prog 37 5 = some 5 := by kernel_rfl
theorem fty_37_5 : fieldTy Tryz.prog 37 5 = some (3, 5) := by kernel_rfl
theorem off_37_6 : fieldOff Tryz.prog 37 6 = some 6 := by kernel_rfl
theorem fty_37_6 : fieldTy Tryz.prog 37 6 = some (34, 6) := by kernel_rfl
theorem off_37_7 : fieldOff Tryz.prog 37 7 = some 7 := by kernel_rfl
theorem fty_37_7 : fieldTy Tryz.prog 37 7 = some (35, 7) := by kernel_rfl
theorem agg_38 : isAggT Tryz.prog 38 = some false := by kernel_rfl
theorem size_38 : sizeT Tryz.prog 38 = some 1 := by kernel_rfl
theorem zero_38 : zeroD Tryz.prog 38 = some [.nilf] := by kernel_rfl
theorem agg_39 : isAggT Tryz.prog 39 = some false := by kernel_rfl
theorem size_39 : sizeT Tryz.prog 39 = some 1 := by kernel_rfl
theorem zero_39 : zeroD Tryz.prog 39 = some [.nilf] := by kernel_rfl
theorem agg_40 : isAggT Tryz.prog 40 = some false := by kernel_rfl
theorem size_40 : sizeT Tryz.prog 40 = some 1 := by kernel_rfl
theorem zero_40 : zeroD Tryz.prog 40 = some [.nilf] := by kernel_rfl
theorem agg_41 : isAggT Tryz.prog 41 = some true := by kernel_rfl
theorem size_41 : sizeT Tryz.prog 41 = some 5 := by kernel_rfl
theorem zero_41 : zeroD Tryz.prog 41 = some [.int .i64 0, .int .i64 0, .nils, .nils, .int .i64 0] := by kernel_rfl
theorem place_41 : placesT Tryz.prog 41 = some [(0, 1), (1, 1), (2, 1), (3, 1), (4, 1)] := by kernel_rfl
theorem off_41_0 : fieldOff Tryz.prog 41 0 = some 0 := by kernel_rfl
theorem fty_41_0 : fieldTy Tryz.prog 41 0 = some (3, 0) := by kernel_rfl
theorem off_41_1 : fieldOff Tryz.prog 41 1 = some 1 := by kernel_rfl
theorem fty_41_1 : fieldTy Tryz.prog 41 1 = some (3, 1) := by kernel_rfl
theorem off_41_2 : fieldOff Tryz.prog 41 2 = some 2 := by kernel_rfl
theorem fty_41_2 : fieldTy Tryz.prog 41 2 = some (34, 2) := by kernel_rfl
theorem off_41_3 : fieldOff Tryz.prog 41 3 = some 3 := by kernel_rfl
theorem fty_41_3 : fieldTy Tryz.prog 41 3 = some (35, 3) := by kernel_rfl
theorem off_41_4 : fieldOff Tryz.prog 41 4 = some 4 := by kernel_rfl
theorem fty_41_4 : fieldTy Tryz.prog 41 4 = some (3, 4) := by kernel_rfl
theorem agg_42 : isAggT Tryz.prog 42 = some true := by kernel_rfl
theorem size_42 : sizeT Tryz.prog 42 = some 5 := by kernel_rfl
theorem zero_42 : zeroD Tryz.prog 42 = some [.int .i64 0, .int .i64 0, .nils, .nils, .int .i64 0] := by kernel_rfl
theorem place_42 : placesT Tryz.prog 42 = some [(0, 1), (1, 1), (2, 1), (3, 1), (4, 1)] := by kernel_rfl
theorem off_42_0 : fieldOff Tryz.prog 42 0 = some 0 := by kernel_rfl
theorem fty_42_0 : fieldTy Tryz.prog 42 0 = some (3, 0) := by kernel_rfl
theorem off_42_1 : fieldOff Tryz.prog 42 1 = some 1 := by kernel_rfl
theorem fty_42_1 : fieldTy Tryz.prog 42 1 = some (3, 1) := by kernel_rfl
theorem off_42_2 : fieldOff Tryz.prog 42 2 = some 2 := by kernel_rfl
theorem fty_42_2 : fieldTy Tryz.prog 42 2 = some (34, 2) := by kernel_rfl
theorem off_42_3 : fieldOff Tryz.prog 42 3 = some 3 := by kernel_rfl
theorem fty_42_3 : fieldTy Tryz.prog 42 3 = some (35, 3) := by kernel_rfl
theorem off_42_4 : fieldOff Tryz.prog 42 4 = some 4 := by kernel_rfl
theorem fty_42_4 : fieldTy Tryz.prog 42 4 = some (3, 4) := by kernel_rfl
theorem agg_43 : isAggT Tryz.prog 43 = some false := by kernel_rfl
theorem size_43 : sizeT Tryz.prog 43 = some 1 := by kernel_rfl
theorem zero_43 : zeroD Tryz.prog 43 = some [.int .i64 0] := by kernel_rfl
theorem agg_44 : isAggT Tryz.prog 44 = some false := by kernel_rfl
theorem size_44 : sizeT Tryz.prog 44 = some 1 := by kernel_rfl
theorem agg_45 : isAggT Tryz.prog 45 = some false := by kernel_rfl
theorem size_45 : sizeT Tryz.prog 45 = some 1 := by kernel_rfl
theorem zero_45 : zeroD Tryz.prog 45 = some [.nilf] := by kernel_rfl
theorem agg_46 : isAggT Tryz.prog 46 = some false := by kernel_rfl
theorem size_46 : sizeT Tryz.prog 46 = some 1 := by kernel_rfl
theorem zero_46 : zeroD Tryz.prog 46 = some [.int .i64 0] := by kernel_rfl
theorem und_46 : Tryz.prog.underlying 46 = some (.int .i64) := by kernel_rfl
theorem agg_47 : isAggT Tryz.prog 47 = some true := by kernel_rfl
theorem size_47 : sizeT Tryz.prog 47 = some 4 := by kernel_rfl
theorem zero_47 : zeroD Tryz.prog 47 = some [.int .i64 0, .int .i64 0, .int .i64 0, .int .i64 0] := by kernel_rfl
theorem place_47 : placesT Tryz.prog 47 = some [(0, 1), (1, 1), (2, 1), (3, 1)] := by kernel_rfl
theorem off_47_0 : fieldOff Tryz.prog 47 0 = some 0 := by kernel_rfl
theorem fty_47_0 : fieldTy Tryz.prog 47 0 = some (3, 0) := by kernel_rfl
theorem off_47_1 : fieldOff Tryz.prog 47 1 = some 1 := by kernel_rfl
theorem fty_47_1 : fieldTy Tryz.prog 47 1 = some (3, 1) := by kernel_rfl
theorem off_47_2 : fieldOff Tryz.prog 47 2 = some 2 := by kernel_rfl
theorem fty_47_2 : fieldTy Tryz.prog 47 2 = some (46, 2) := by kernel_rfl
theorem off_47_3 : fieldOff Tryz.prog 47 3 = some 3 := by kernel_rfl
theorem fty_47_3 : fieldTy Tryz.prog 47 3 = some (3, 3) := by kernel_rfl
theorem agg_48 : isAggT Tryz.prog 48 = some true := by kernel_rfl
theorem size_48 : sizeT Tryz.prog 48 = some 4 := by kernel_rfl
theorem zero_48 : zeroD Tryz.prog 48 = some [.int .i64 0, .int .i64 0, .int .i64 0, .int .i64 0] := by kernel_rfl
theorem place_48 : placesT Tryz.prog 48 = some [(0, 1), (1, 1), (2, 1), (3, 1)] := by kernel_rfl
theorem off_48_0 : fieldOff Tryz.prog 48 0 = some 0 := by kernel_rfl
theorem fty_48_0 : fieldTy Tryz.prog 48 0 = some (3, 0) := by kernel_rfl
theorem off_48_1 : fieldOff Tryz.prog 48 1 = some 1 := by kernel_rfl
theorem fty_48_1 : fieldTy Tryz.prog 48 1 = some (3, 1) := by kernel_rfl
theorem off_48_2 : fieldOff Tryz.prog 48 2 = some 2 := by kernel_rfl
theorem fty_48_2 : fieldTy Tryz.prog 48 2 = some (46, 2) := by kernel_rfl
theorem off_48_3 : fieldOff Tryz.prog 48 3 = some 3 := by kernel_rfl
theorem fty_48_3 : fieldTy Tryz.prog 48 3 = some (3, 3) := by kernel_rfl
theorem agg_49 : isAggT Tryz.prog 49 = some false := by kernel_rfl
theorem size_49 : sizeT Tryz.prog 49 = some 1 := by kernel_rfl
theorem agg_50 : isAggT Tryz.prog 50 = some false := by kernel_rfl
theorem size_50 : sizeT Tryz.prog 50 = some 1 := by kernel_rfl
theorem zero_50 : zeroD Tryz.prog 50 = some [.nilf] := by kernel_rfl
theorem agg_51 : isAggT Tryz.prog 51 = some true := by kernel_rfl
theorem size_51 : sizeT Tryz.prog 51 = some 2 := by kernel_rfl
theorem zero_51 : zeroD Tryz.prog 51 = some [.int .i64 0, .int .i64 0] := by kernel_rfl
theorem place_51 : placesT Tryz.prog 51 = some [(0, 1), (1, 1)] := by kernel_rfl
theorem off_51_0 : fieldOff Tryz.prog 51 0 = some 0 := by kernel_rfl
theorem fty_51_0 : fieldTy Tryz.prog 51 0 = some (3, 0) := by kernel_rfl
theorem off_51_1 : fieldOff Tryz.prog 51 1 = some 1 := by kernel_rfl
theorem fty_51_1 : fieldTy Tryz.prog 51 1 = some (3, 1) := by kernel_rfl
theorem agg_52 : isAggT Tryz.prog 52 = some true := by kernel_rfl
theorem size_52 : sizeT Tryz.prog 52 = some 2 := by kernel_rfl
theorem zero_52 : zeroD Tryz.prog 52 = some [.int .i64 0, .int .i64 0] := by kernel_rfl
theorem place_52 : placesT Tryz.prog 52 = some [(0, 1), (1, 1)] := by kernel_rfl
theorem off_52_0 : fieldOff Tryz.prog 52 0 = some 0 := by kernel_rfl
theorem fty_52_0 : fieldTy Tryz.prog 52 0 = some (3, 0) := by kernel_rfl
theorem off_52_1 : fieldOff Tryz.prog 52 1 = some 1 := by kernel_rfl
theorem fty_52_1 : fieldTy Tryz.prog 52 1 = some (3, 1) := by kernel_rfl
theorem agg_53 : isAggT Tryz.prog 53 = some true := by kernel_rfl
theorem size_53 : sizeT Tryz.prog 53 = some 7 := by kernel_rfl
theorem zero_53 : zeroD Tryz.prog 53 = some [.int .i64 0, .int .i64 0, .int .i64 0, .int .i64 0, .int .i64 0, .int .i64 0, .bool false] := by kernel_rfl
theorem place_53 : placesT Tryz.prog 53 = some [(0, 2), (2, 2), (4, 2), (6, 1)] := by kernel_rfl
theorem off_53_0 : fieldOff Tryz.prog 53 0 = some 0 := by kernel_rfl
theorem fty_53_0 : fieldTy Tryz.prog 53 0 = some (52, 0) := by kernel_rfl
theorem off_53_1 : fieldOff Tryz.prog 53 1 = some 2 := by kernel_rfl
theorem fty_53_1 : fieldTy Tryz.prog 53 1 = some (52, 2) := by kernel_rfl
theorem off_53_2 : fieldOff Tryz.prog 53 2 = some 4 := by kernel_rfl
theorem fty_53_2 : fieldTy Tryz.prog 53 2 = some (52, 4) := by kernel_rfl
theorem off_53_3 : fieldOff Tryz.prog 53 3 = some 6 := by kernel_rfl
theorem fty_53_3 : fieldTy Tryz.prog 53 3 = some (4, 6) := by kernel_rfl
theorem agg_54 : isAggT Tryz.prog 54 = some true := by kernel_rfl
theorem size_54 : sizeT Tryz.prog 54 = some 7 := by kernel_rfl
theorem zero_54 : zeroD Tryz.prog 54 = some [.int .i64 0, .int .i64 0, .int .i64 0, .int .i64 0, .int .i64 0, .int .i64 0, .bool false] := by kernel_rfl
theorem place_54 : placesT Tryz.prog 54 = some [(0, 2), (2, 2), (4, 2), (6, 1)] := by kernel_rfl
theorem off_54_0 : fieldOff Tryz.prog 54 0 = some 0 := by kernel_rfl
theorem fty_54_0 : fieldTy Tryz.prog 54 0 = some (52, 0) := by kernel_rfl
theorem off_54_1 : fieldOff Tryz.prog 54 1 = some 2 := by kernel_rfl
theorem fty_54_1 : fieldTy Tryz.prog 54 1 = some (52, 2) := by kernel_rfl
theorem off_54_2 : fieldOff Tryz.prog 54 2 = some 4 := by kernel_rfl
theorem fty_54_2 : fieldTy Tryz.prog 54 2 = some (52, 4) := by kernel_rfl
theorem off_54_3 : fieldOff Tryz.prog 54 3 = some 6 := by kernel_rfl
theorem fty_54_3 : fieldTy Tryz.prog 54 3 = some (4, 6) := by kernel_rfl
theorem agg_55 : isAggT Tryz.prog 55 = some false := by kernel_rfl
theorem size_55 : sizeT Tryz.prog 55 = some 1 := by kernel_rfl
theorem zero_55 : zeroD Tryz.prog 55 = some [.nilf] := by kernel_rfl
theorem agg_56 : isAggT Tryz.prog 56 = some false := by kernel_rfl
theorem size_56 : sizeT Tryz.prog 56 = some 1 := by kernel_rfl
theorem zero_56 : zeroD Tryz.prog 56 = some [.nilf] := by kernel_rfl
theorem agg_57 : isAggT Tryz.prog 57 = some false := by kernel_rfl
theorem size_57 : sizeT Tryz.prog 57 = some 1 := by kernel_rfl
theorem zero_57 : zeroD Tryz.prog 57 = some [.nilf] := by kernel_rfl
theorem agg_58 : isAggT Tryz.prog 58 = some false := by kernel_rfl
theorem size_58 : sizeT Tryz.prog 58 = some 1 := by kernel_rfl
theorem zero_58 : zeroD Tryz.prog 58 = some [.nils] := by kernel_rfl
theorem und_58 : Tryz.prog.underlying 58 = some (.slice 27) := by kernel_rfl
theorem agg_59 : isAggT Tryz.prog 59 = some false := by kernel_rfl
theorem size_59 : sizeT Tryz.prog 59 = some 1 := by kernel_rfl
theorem zero_59 : zeroD Tryz.prog 59 = some [.nilf] := by kernel_rfl
theorem agg_60 : isAggT Tryz.prog 60 = some false := by kernel_rfl
theorem size_60 : sizeT Tryz.prog 60 = some 1 := by kernel_rfl
theorem zero_60 : zeroD Tryz.prog 60 = some [.nilf] := by kernel_rfl
theorem agg_61 : isAggT Tryz.prog 61 = some false := by kernel_rfl
theorem size_61 : sizeT Tryz.prog 61 = some 1 := by kernel_rfl
theorem zero_61 : zeroD Tryz.prog 61 = some [.nils] := by kernel_rfl
theorem und_61 : Tryz.prog.underlying 61 = some (.slice 121) := by kernel_rfl
theorem agg_62 : isAggT Tryz.prog 62 = some true := by kernel_rfl
theorem size_62 : sizeT Tryz.prog 62 = some 13 := by kernel_rfl
theorem zero_62 : zeroD Tryz.prog 62 = some [.nils, .nils, .int .i64 0, .int .i64 0, .int .i64 0, .int .i64 0, .int .i64 0, .int .i64 0, .int .i64 0, .int .i64 0, .int .i64 0, .nils, .int .i64 0] := by kernel_rfl
theorem place_62 : placesT Tryz.prog 62 = some [(0, 1), (1, 1), (2, 1), (3, 1), (4, 1), (5, 1), (6, 1), (7, 1), (8, 1), (9, 1), (10, 1), (11, 1), (12, 1)] := by kernel_rfl
theorem off_62_0 : fieldOff Tryz.prog 62 0 = some 0 := by kernel_rfl
theorem fty_62_0 : fieldTy Tryz.prog 62 0 = some (61, 0) := by kernel_rfl
theorem off_62_1 : fieldOff Tryz.prog 62 1 = some 1 := by kernel_rfl
theorem fty_62_1 : fieldTy Tryz.prog 62 1 = some (61, 1) := by kernel_rfl
theorem off_62_2 : fieldOff Tryz.prog 62 2 = some 2 := by kernel_rfl
theorem fty_62_2 : fieldTy Tryz.prog 62 2 = some (3, 2) := by kernel_rfl
theorem off_62_3 : fieldOff Tryz.prog 62 3 = some 3 := by kernel_rfl
theorem fty_62_3 : fieldTy Tryz.prog 62 3 = some (3, 3) := by kernel_rfl
theorem off_62_4 : fieldOff Tryz.prog 62 4 = some 4 := by kernel_rfl
theorem fty_62_4 : fieldTy Tryz.prog 62 4 = some (3, 4) := by kernel_rfl
theorem off_62_5 : fieldOff Tryz.prog 62 5 = some 5 := by kernel_rfl
theorem fty_62_5 : fieldTy Tryz.prog 62 5 = some (3, 5) := by kernel_rfl
theorem off_62_6 : fieldOff Tryz.prog 62 6 = some 6 := by kernel_rfl
theorem fty_62_6 : fieldTy Tryz.prog 62 6 = some (3, 6) := by kernel_rfl
theorem off_62_7 : fieldOff Tryz.prog 62 7 = some 7 := by kernel_rfl
theorem fty_62_7 : fieldTy Tryz.prog 62 7 = some (3, 7) := by kernel_rfl
theorem off_62_8 : fieldOff Tryz.prog 62 8 = some 8 := by kernel_rfl
theorem fty_62_8 : fieldTy Tryz.prog 62 8 = some (3, 8) := by kernel_rfl
theorem off_62_9 : fieldOff Tryz.prog 62 9 = some 9 := by kernel_rfl
theorem fty_62_9 : fieldTy Tryz.prog 62 9 = some (3, 9) := by kernel_rfl
theorem off_62_10 : fieldOff Tryz.prog 62 10 = some 10 := by kernel_rfl
theorem fty_62_10 : fieldTy Tryz.prog 62 10 = some (3, 10) := by kernel_rfl
theorem off_62_11 : fieldOff Tryz.prog 62 11 = some 11 := by kernel_rfl
theorem fty_62_11 : fieldTy Tryz.prog 62 11 = some (61, 11) := by kernel_rfl
theorem off_62_12 : fieldOff Tryz.prog 62 12 = some 12 := by kernel_rfl
theorem fty_62_12 : fieldTy Tryz.prog 62 12 = some (3, 12) := by kernel_rfl
theorem agg_63 : isAggT Tryz.prog 63 = some true := by kernel_rfl
theorem size_63 : sizeT Tryz.prog 63 = some 13 := by kernel_rfl
theorem zero_63 : zeroD Tryz.prog 63 = some [.nils, .nils, .int .i64 0, .int .i64 0, .int .i64 0, .int .i64 0, .int .i64 0, .int .i64 0, .int .i64 0, .int .i64 0, .int .i64 0, .nils, .int .i64 0] := by kernel_rfl
theorem place_63 : placesT Tryz.prog 63 = some [(0, 1), (1, 1), (2, 1), (3, 1), (4, 1), (5, 1), (6, 1), (7, 1), (8, 1), (9, 1), (10, 1), (11, 1), (12, 1)] := by kernel_rfl
theorem off_63_0 : fieldOff Tryz.prog 63 0 = some 0 := by kernel_rfl
theorem fty_63_0 : fieldTy Tryz.prog 63 0 = some (61, 0) := by kernel_rfl
theorem off_63_1 : fieldOff Tryz.prog 63 1 = some 1 := by kernel_rfl
theorem fty_63_1 : fieldTy Tryz.prog 63 1 = some (61, 1) := by kernel_rfl
theorem off_63_2 : fieldOff Tryz.prog 63 2 = some 2 := by kernel_rfl
theorem fty_63_2 : fieldTy Tryz.prog 63 2 = some (3, 2) := by kernel_rfl
theorem off_63_3 : fieldOff Tryz.prog 63 3 = some 3 := by kernel_rfl
theorem fty_63_3 : fieldTy Tryz.prog 63 3 = some (3, 3) := by kernel_rfl
theorem off_63_4 : fieldOff Tryz.prog 63 4 = some 4 := by kernel_rfl
theorem fty_63_4 : fieldTy Tryz.prog 63 4 = some (3, 4) := by kernel_rfl
theorem off_63_5 : fieldOff Tryz.prog 63 5 = some 5 := by kernel_rfl
theorem fty_63_5 : fieldTy Tryz.prog 63 5 = some (3, 5) := by kernel_rfl
theorem off_63_6 : fieldOff Tryz.prog 63 6 = some 6 := by kernel_rfl
theorem fty_63_6 : fieldTy Tryz.prog 63 6 = some (3, 6) := by kernel_rfl
theorem off_63_7 : fieldOff Tryz.prog 63 7 = some 7 := by kernel_rfl
theorem fty_63_7 : fieldTy Tryz.prog 63 7 = some (3, 7) := by kernel_rfl
theorem off_63_8 : fieldOff Tryz.prog 63 8 = some 8 := by kernel_rfl
theorem fty_63_8 : fieldTy Tryz.prog 63 8 = some (3, 8) := by kernel_rfl
theorem off_63_9 : fieldOff Tryz.prog 63 9 = some 9 := by kernel_rfl
theorem fty_63_9 : fieldTy Tryz.prog 63 9 = some (3, 9) := by kernel_rfl
theorem off_63_10 : fieldOff Tryz.prog 63 10 = some 10 := by kernel_rfl
theorem fty_63_10 : fieldTy Tryz.prog 63 10 = some (3, 10) := by kernel_rfl
theorem off_63_11 : fieldOff Tryz.prog 63 11 = some 11 := by kernel_rfl
theorem fty_63_11 : fieldTy Tryz.prog 63 11 = some (61, 11) := by kernel_rfl
theorem off_63_12 : fieldOff Tryz.prog 63 12 = some 12 := by kernel_rfl
theorem fty_63_12 : fieldTy Tryz.prog 63 12 = some (3, 12) := by kernel_rfl
theorem agg_64 : isAggT Tryz.prog 64 = some false := by kernel_rfl
theorem size_64 : sizeT Tryz.prog 64 = some 1 := by kernel_rfl
theorem zero_64 : zeroD Tryz.prog 64 = some [.nilf] := by kernel_rfl
theorem agg_65 : isAggT Tryz.prog 65 = some false := by kernel_rfl
theorem size_65 : sizeT Tryz.prog 65 = some 1 := by kernel_rfl
theorem zero_65 : zeroD Tryz.prog 65 = some [.nilf] := by kernel_rfl
theorem agg_66 : isAggT Tryz.prog 66 = some true := by kernel_rfl
theorem size_66 : sizeT Tryz.prog 66 = some 4 := by kernel_rfl
theorem zero_66 : zeroD Tryz.prog 66 = some [.int .i64 0, .int .i64 0, .int .i64 0, .int .i64 0] := by kernel_rfl
theorem place_66 : placesT Tryz.prog 66 = some [(0, 2), (2, 2)] := by kernel_rfl
theorem off_66_0 : fieldOff Tryz.prog 66 0 = some 0 := by kernel_rfl
theorem fty_66_0 : fieldTy Tryz.prog 66 0 = some (52, 0) := by kernel_rfl
theorem off_66_1 : fieldOff Tryz.prog 66 1 = some 2 := by kernel_rfl
theorem fty_66_1 : fieldTy Tryz.prog 66 1 = some (52, 2) := by kernel_rfl
theorem agg_67 : isAggT Tryz.prog 67 = some true := by kernel_rfl
theorem size_67 : sizeT Tryz.prog 67 = some 4 := by kernel_rfl
theorem zero_67 : zeroD Tryz.prog 67 = some [.int .i64 0, .int .i64 0, .int .i64 0, .int .i64 0] := by kernel_rfl
theorem place_67 : placesT Tryz.prog 67 = some [(0, 2), (2, 2)] := by kernel_rfl
theorem off_67_0 : fieldOff Tryz.prog 67 0 = some 0 := by kernel_rfl
theorem fty_67_0 : fieldTy Tryz.prog 67 0 = some (52, 0) := by kernel_rfl
theorem off_67_1 : fieldOff Tryz.prog 67 1 = some 2 := by kernel_rfl
theorem fty_67_1 : fieldTy Tryz.prog 67 1 = some (52, 2) := by kernel_rfl
theorem agg_68 : isAggT Tryz.prog 68 = some false := by kernel_rfl
theorem size_68 : sizeT Tryz.prog 68 = some 1 := by kernel_rfl
theorem zero_68 : zeroD Tryz.prog 68 = some [.nilf] := by kernel_rfl
theorem agg_69 : isAggT Tryz.prog 69 = some false := by kernel_rfl
theorem size_69 : sizeT Tryz.prog 69 = some 1 := by kernel_rfl
theorem zero_69 : zeroD Tryz.prog 69 = some [.nilf] := by kernel_rfl
theorem agg_70 : isAggT Tryz.prog 70 = some false := by kernel_rfl
theorem size_70 : sizeT Tryz.prog 70 = some 1 := by kernel_rfl
theorem zero_70 : zeroD Tryz.prog 70 = some [.nils] := by kernel_rfl
theorem und_70 : Tryz.prog.underlying 70 = some (.slice 129) := by kernel_rfl
theorem agg_71 : isAggT Tryz.prog 71 = some false := by kernel_rfl
theorem size_71 : sizeT Tryz.prog 71 = some 1 := by kernel_rfl
theorem zero_71 : zeroD Tryz.prog 71 = some [.nils] := by kernel_rfl
theorem und_71 : Tryz.prog.underlying 71 = some (.slice 73) := by kernel_rfl
theorem agg_72 : isAggT Tryz.prog 72 = some true := by kernel_rfl
theorem size_72 : sizeT Tryz.prog 72 = some 2 := by kernel_rfl
theorem zero_72 : zeroD Tryz.prog 72 = some [.int .i64 0, .int .i64 0] := by kernel_rfl
theorem place_72 : placesT Tryz.prog 72 = some [(0, 1), (1, 1)] := by kernel_rfl
theorem off_72_0 : fieldOff Tryz.prog 72 0 = some 0 := by kernel_rfl
theorem fty_72_0 : fieldTy Tryz.prog 72 0 = some (3, 0) := by kernel_rfl
theorem off_72_1 : fieldOff Tryz.prog 72 1 = some 1 := by kernel_rfl
theorem fty_72_1 : fieldTy Tryz.prog 72 1 = some (3, 1) := by kernel_rfl
theorem agg_73 : isAggT Tryz.prog 73 = some true := by kernel_rfl
theorem size_73 : sizeT Tryz.prog 73 = some 2 := by kernel_rfl
theorem zero_73 : zeroD Tryz.prog 73 = some [.int .i64 0, .int .i64 0] := by kernel_rfl
theorem place_73 : placesT Tryz.prog 73 = some [(0, 1), (1, 1)] := by kernel_rfl
theorem off_73_0 : fieldOff Tryz.prog 73 0 = some 0 := by kernel_rfl
theorem fty_73_0 : fieldTy Tryz.prog 73 0 = some (3, 0) := by kernel_rfl
theorem off_73_1 : fieldOff Tryz.prog 73 1 = some 1 := by kernel_rfl
theorem fty_73_1 : fieldTy Tryz.prog 73 1 = some (3, 1) := by kernel_rfl
theorem agg_74 : isAggT Tryz.prog 74 = some true := by kernel_rfl
theorem size_74 : sizeT Tryz.prog 74 = some 10 := by kernel_rfl
theorem zero_74 : zeroD Tryz.prog 74 = some [.int .i64 0, .int .i64 0, .int .i64 0, .int .i64 0, .nils, .nils, .int .i64 0, .int .i64 0, .int .i64 0, .nils] := by kernel_rfl
theorem place_74 : placesT Tryz.prog 74 = some [(0, 1), (1, 1), (2, 1), (3, 1), (4, 1), (5, 1), (6, 2), (8, 1), (9, 1)] := by kernel_rfl
theorem off_74_0 : fieldOff Tryz.prog 74 0 = some 0 := by kernel_rfl
theorem fty_74_0 : fieldTy Tryz.prog 74 0 = some (3, 0) := by kernel_rfl
theorem off_74_1 : fieldOff Tryz.prog 74 1 = some 1 := by kernel_rfl
theorem fty_74_1 : fieldTy Tryz.prog 74 1 = some (3, 1) := by kernel_rfl
theorem off_74_2 : fieldOff Tryz.prog 74 2 = some 2 := by kernel_rfl
theorem fty_74_2 : fieldTy Tryz.prog 74 2 = some (3, 2) := by kernel_rfl
theorem off_74_3 : fieldOff Tryz.prog 74 3 = some 3 := by kernel_rfl
theorem fty_74_3 : fieldTy Tryz.prog 74 3 = some (3, 3) := by kernel_rfl
theorem off_74_4 : fieldOff Tryz.prog 74 4 = some 4 := by kernel_rfl
theorem fty_74_4 : fieldTy Tryz.prog 74 4 = some (70, 4) := by kernel_rfl
theorem off_74_5 : fieldOff Tryz.prog 74 5 = some 5 := by kernel_rfl
theorem fty_74_5 : fieldTy Tryz.prog 74 5 = some (71, 5) := by kernel_rfl
theorem off_74_6 : fieldOff Tryz.prog 74 6 = some 6 := by kernel_rfl
theorem fty_74_6 : fieldTy Tryz.prog 74 6 = some (73, 6) := by kernel_rfl
theorem off_74_7 : fieldOff Tryz.prog 74 7 = some 8 := by kernel_rfl
theorem fty_74_7 : fieldTy Tryz.prog 74 7 = some (3, 8) := by kernel_rfl
theorem off_74_8 : fieldOff Tryz.prog 74 8 = some 9 := by kernel_rfl
theorem fty_74_8 : fieldTy Tryz.prog 74 8 = some (71, 9) := by kernel_rfl
theorem agg_75 : isAggT Tryz.prog 75 = some true := by kernel_rfl
theorem size_75 : sizeT Tryz.prog 75 = some 10 := by kernel_rfl
theorem zero_75 : zeroD Tryz.prog 75 = some [.int .i64 0, .int .i64 0, .int .i64 0, .int .i64 0, .nils, .nils, .int .i64 0, .int .i64 0, .int .i64 0, .nils] := by kernel_rfl
theorem place_75 : placesT Tryz.prog 75 = some [(0, 1), (1, 1), (2, 1), (3, 1), (4, 1), (5, 1), (6, 2), (8, 1), (9, 1)] := by kernel_rfl
theorem off_75_0 : fieldOff Tryz.prog 75 0 = some 0 := by kernel_rfl
theorem fty_75_0 : fieldTy Tryz.prog 75 0 = some (3, 0) := by kernel_rfl
theorem off_75_1 : fieldOff Tryz.prog 75 1 = some 1 := by kernel_rfl
theorem fty_75_1 : fieldTy Tryz.prog 75 1 = some (3, 1) := by kernel_rfl
theorem off_75_2 : fieldOff Tryz.prog 75 2 = some 2 := by kernel_rfl
theorem fty_75_2 : fieldTy Tryz.prog 75 2 = some (3, 2) := by kernel_rfl
theorem off_75_3 : fieldOff Tryz.prog 75 3 = some 3 := by kernel_rfl
theorem fty_75_3 : fieldTy Tryz.prog 75 3 = some (3, 3) := by kernel_rfl
theorem off_75_4 : fieldOff Tryz.prog 75 4 = some 4 := by kernel_rfl
theorem fty_75_4 : fieldTy Tryz.prog 75 4 = some (70, 4) := by kernel_rfl
theorem off_75_5 : fieldOff Tryz.prog 75 5 = some 5 := by kernel_rfl
theorem fty_75_5 : fieldTy Tryz.prog 75 5 = some (71, 5) := by kernel_rfl
theorem off_75_6 : fieldOff Tryz.prog 75 6 = some 6 := by kernel_rfl
theorem fty_75_6 : fieldTy Tryz.prog 75 6 = some (73, 6) := by kernel_rfl
theorem off_75_7 : fieldOff Tryz.prog 75 7 = some 8 := by kernel_rfl
theorem fty_75_7 : fieldTy Tryz.prog 75 7 = some (3, 8) := by kernel_rfl
theorem off_75_8 : fieldOff Tryz.prog 75 8 = some 9 := by kernel_rfl
theorem fty_75_8 : fieldTy Tryz.prog 75 8 = some (71, 9) := by kernel_rfl
theorem agg_76 : isAggT Tryz.prog 76 = some false := by kernel_rfl
theorem size_76 : sizeT Tryz.prog 76 = some 1 := by kernel_rfl
theorem zero_76 : zeroD Tryz.prog 76 = some [.nilf] := by kernel_rfl
theorem agg_77 : isAggT Tryz.prog 77 = some false := by kernel_rfl
theorem size_77 : sizeT Tryz.prog 77 = some 1 := by kernel_rfl
theorem zero_77 : zeroD Tryz.prog 77 = some [.nils] := by kernel_rfl
theorem und_77 : Tryz.prog.underlying 77 = some (.slice 134) := by kernel_rfl
theorem agg_78 : isAggT Tryz.prog 78 = some false := by kernel_rfl
theorem size_78 : sizeT Tryz.prog 78 = some 1 := by kernel_rfl
theorem zero_78 : zeroD Tryz.prog 78 = some [.nilf] := by kernel_rfl
theorem agg_79 : isAggT Tryz.prog 79 = some false := by kernel_rfl
theorem size_79 : sizeT Tryz.prog 79 = some 1 := by kernel_rfl
theorem zero_79 : zeroD Tryz.prog 79 = some [.nilf] := by kernel_rfl
theorem agg_80 : isAggT Tryz.prog 80 = some false := by kernel_rfl
theorem size_80 : sizeT Tryz.prog 80 = some 1 := by kernel_rfl
theorem zero_80 : zeroD Tryz.prog 80 = some [.nilf] := by kernel_rfl
theorem agg_81 : isAggT Tryz.prog 81 = some false := by kernel_rfl
theorem size_81 : sizeT Tryz.prog 81 = some 1 := by kernel_rfl
theorem zero_81 : zeroD Tryz.prog 81 = some [.nilf] := by kernel_rfl
theorem agg_82 : isAggT Tryz.prog 82 = some true := by kernel_rfl
theorem size_82 : sizeT Tryz.prog 82 = some 7 := by kernel_rfl
theorem zero_82 : zeroD Tryz.prog 82 = some [.int .i64 0, .int .i64 0, .int .i64 0, .int .i64 0, .int .i64 0, .int .i64 0, .int .i64 0] := by kernel_rfl
theorem place_82 : placesT Tryz.prog 82 = some [(0, 1), (1, 1), (2, 1), (3, 1), (4, 1), (5, 1), (6, 1)] := by kernel_rfl
theorem off_82_0 : fieldOff Tryz.prog 82 0 = some 0 := by kernel_rfl
theorem fty_82_0 : fieldTy Tryz.prog 82 0 = some (3, 0) := by kernel_rfl
theorem off_82_1 : fieldOff Tryz.prog 82 1 = some 1 := by kernel_rfl
theorem fty_82_1 : fieldTy Tryz.prog 82 1 = some (3, 1) := by kernel_rfl
theorem off_82_2 : fieldOff Tryz.prog 82 2 = some 2 := by kernel_rfl
theorem fty_82_2 : fieldTy Tryz.prog 82 2 = some (3, 2) := by kernel_rfl
theorem off_82_3 : fieldOff Tryz.prog 82 3 = some 3 := by kernel_rfl
theorem fty_82_3 : fieldTy Tryz.prog 82 3 = some (3, 3) := by kernel_rfl
theorem off_82_4 : fieldOff Tryz.prog 82 4 = some 4 := by kernel_rfl
theorem fty_82_4 : fieldTy Tryz.prog 82 4 = some (3, 4) := by kernel_rfl
theorem off_82_5 : fieldOff Tryz.prog 82 5 = some 5 := by kernel_rfl
theorem fty_82_5 : fieldTy Tryz.prog 82 5 = some (3, 5) := by kernel_rfl
theorem off_82_6 : fieldOff Tryz.prog 82 6 = some 6 := by kernel_rfl
theorem fty_82_6 : fieldTy Tryz.prog 82 6 = some (3, 6) := by kernel_rfl
theorem agg_83 : isAggT Tryz.prog 83 = some true := by kernel_rfl
theorem size_83 : sizeT Tryz.prog 83 = some 7 := by kernel_rfl
theorem zero_83 : zeroD Tryz.prog 83 = some [.int .i64 0, .int .i64 0, .int .i64 0, .int .i64 0, .int .i64 0, .int .i64 0, .int .i64 0] := by kernel_rfl
theorem place_83 : placesT Tryz.prog 83 = some [(0, 1), (1, 1), (2, 1), (3, 1), (4, 1), (5, 1), (6, 1)] := by kernel_rfl
theorem off_83_0 : fieldOff Tryz.prog 83 0 = some 0 := by kernel_rfl
theorem fty_83_0 : fieldTy Tryz.prog 83 0 = some (3, 0) := by kernel_rfl
theorem off_83_1 : fieldOff Tryz.prog 83 1 = some 1 := by kernel_rfl
theorem fty_83_1 : fieldTy Tryz.prog 83 1 = some (3, 1) := by kernel_rfl
theorem off_83_2 : fieldOff Tryz.prog 83 2 = some 2 := by kernel_rfl
theorem fty_83_2 : fieldTy Tryz.prog 83 2 = some (3, 2) := by kernel_rfl
theorem off_83_3 : fieldOff Tryz.prog 83 3 = some 3 := by kernel_rfl
theorem fty_83_3 : fieldTy Tryz.prog 83 3 = some (3, 3) := by kernel_rfl
theorem off_83_4 : fieldOff Tryz.prog 83 4 = some 4 := by kernel_rfl
theorem fty_83_4 : fieldTy Tryz.prog 83 4 = some (3, 4) := by kernel_rfl
theorem off_83_5 : fieldOff Tryz.prog 83 5 = some 5 := by kernel_rfl
theorem fty_83_5 : fieldTy Tryz.prog 83 5 = some (3, 5) := by kernel_rfl
theorem off_83_6 : fieldOff Tryz.prog 83 6 = some 6 := by kernel_rfl
theorem fty_83_6 : fieldTy Tryz.prog 83 6 = some (3, 6) := by kernel_rfl
theorem agg_84 : isAggT Tryz.prog 84 = some true := by kernel_rfl
theorem size_84 : sizeT Tryz.prog 84 = some 37 := by kernel_rfl
theorem zero_84 : zeroD Tryz.prog 84 = some [.int .i64 0, .int .i64 0, .nils, .int .i64 0, .int .i64 0, .int .i64 0, .nils, .int .i64 0, .int .i64 0, .int .i64 0, .nils, .int .i64 0, .int .i64 0, .int .i64 0, .nils, .int .i64 0, .int .i64 0, .int .i64 0, .nils, .int .i64 0, .int .i64 0, .int .i64 0, .nils, .nils, .nils, .int .i64 0, .int .i64 0, .int .i64 0, .int .i64 0, .int .i64 0, .int .i64 0, .int .i64 0, .int .i64 0, .int .i64 0, .int .i64 0, .int .i64 0, .int .i64 0] := by kernel_rfl
theorem place_84 : placesT Tryz.prog 84 = some [(0, 25), (25, 4), (29, 7), (36, 1)] := by kernel_rfl
theorem off_84_0 : fieldOff Tryz.prog 84 0 = some 0 := by kernel_rfl
theorem fty_84_0 : fieldTy Tryz.prog 84 0 = some (33, 0) := by kernel_rfl
theorem off_84_1 : fieldOff Tryz.prog 84 1 = some 25 := by kernel_rfl
theorem fty_84_1 : fieldTy Tryz.prog 84 1 = some (48, 25) := by kernel_rfl
theorem off_84_2 : fieldOff Tryz.prog 84 2 = some 29 := by kernel_rfl
theorem fty_84_2 : fieldTy Tryz.prog 84 2 = some (83, 29) := by kernel_rfl
theorem off_84_3 : fieldOff Tryz.prog 84 3 = some 36 := by kernel_rfl
theorem fty_84_3 : fieldTy Tryz.prog 84 3 = some (3, 36) := by kernel_rfl
theorem agg_85 : isAggT Tryz.prog 85 = some true := by kernel_rfl
theorem size_85 : sizeT Tryz.prog 85 = some 37 := by kernel_rfl
theorem zero_85 : zeroD Tryz.prog 85 = some [.int .i64 0, .int .i64 0, .nils, .int .i64 0, .int .i64 0, .int .i64 0, .nils, .int .i64 0, .int .i64 0, .int .i64 0, .nils, .int .i64 0, .int .i64 0, .int .i64 0, .nils, .int .i64 0, .int .i64 0, .int .i64 0, .nils, .int .i64 0, .int .i64 0, .int .i64 0, .nils, .nils, .nils, .int .i64 0, .int .i64 0, .int .i64 0, .int .i64 0, .int .i64 0, .int .i64 0, .int .i64 0, .int .i64 0, .int .i64 0, .int .i64 0, .int .i64 0, .int .i64 0] := by kernel_rfl
theorem place_85 : placesT Tryz.prog 85 = some [(0, 25), (25, 4), (29, 7), (36, 1)] := by kernel_rfl
theorem off_85_0 : fieldOff Tryz.prog 85 0 = some 0 := by kernel_rfl
theorem fty_85_0 : fieldTy Tryz.prog 85 0 = some (33, 0) := by kernel_rfl
theorem off_85_1 : fieldOff Tryz.prog 85 1 = some 25 := by kernel_rfl
theorem fty_85_1 : fieldTy Tryz.prog 85 1 = some (48, 25) := by kernel_rfl
theorem off_85_2 : fieldOff Tryz.prog 85 2 = some 29 := by kernel_rfl
theorem fty_85_2 : fieldTy Tryz.prog 85 2 = some (83, 29) := by kernel_rfl
theorem off_85_3 : fieldOff Tryz.prog 85 3 = some 36 := by kernel_rfl
theorem fty_85_3 : fieldTy Tryz.prog 85 3 = some (3, 36) := by kernel_rfl
theorem agg_86 : isAggT Tryz.prog 86 = some false := by kernel_rfl
theorem size_86 : sizeT Tryz.prog 86 = some 1 := by kernel_rfl
theorem agg_87 : isAggT Tryz.prog 87 = some false := by kernel_rfl
theorem size_87 : sizeT Tryz.prog 87 = some 1 := by kernel_rfl
theorem zero_87 : zeroD Tryz.prog 87 = some [.nilf] := by kernel_rfl
theorem agg_88 : isAggT Tryz.prog 88 = some false := by kernel_rfl
theorem size_88 : sizeT Tryz.prog 88 = some 1 := by kernel_rfl
theorem zero_88 : zeroD Tryz.prog 88 = some [.nilf] := by kernel_rfl
theorem agg_89 : isAggT Tryz.prog 89 = some false := by kernel_rfl
theorem size_89 : sizeT Tryz.prog 89 = some 1 := by kernel_rfl
theorem zero_89 : zeroD Tryz.prog 89 = some [.nilf] := by kernel_rfl
theorem agg_90 : isAggT Tryz.prog 90 = some false := by kernel_rfl
theorem size_90 : sizeT Tryz.prog 90 = some 1 := by kernel_rfl
theorem zero_90 : zeroD Tryz.prog 90 = some [.nilf] := by kernel_rfl
theorem agg_91 : isAggT Tryz.prog 91 = some false := by kernel_rfl
theorem size_91 : sizeT Tryz.prog 91 = some 1 := by kernel_rfl
theorem zero_91 : zeroD Tryz.prog 91 = some [.nilp] := by kernel_rfl
theorem agg_92 : isAggT Tryz.prog 92 = some true := by kernel_rfl
theorem size_92 : sizeT Tryz.prog 92 = some 23 := by kernel_rfl
theorem zero_92 : zeroD Tryz.prog 92 = some [.nils, .nils, .int .i64 0, .int .i64 0, .int .i64 0, .int .i64 0, .int .i64 0, .int .i64 0, .int .i64 0, .int .i64 0, .int .i64 0, .nils, .int .i64 0, .int .i64 0, .int .i64 0, .nils, .nils, .int .i64 0, .int .i64 0, .int .i64 0, .int .i64 0, .int .i64 0, .int .i64 0] := by kernel_rfl
theorem place_92 : placesT Tryz.prog 92 = some [(0, 13), (13, 5), (18, 4), (22, 1)] := by kernel_rfl
theorem off_92_0 : fieldOff Tryz.prog 92 0 = some 0 := by kernel_rfl
theorem fty_92_0 : fieldTy Tryz.prog 92 0 = some (63, 0) := by kernel_rfl
theorem off_92_1 : fieldOff Tryz.prog 92 1 = some 13 := by kernel_rfl
theorem fty_92_1 : fieldTy Tryz.prog 92 1 = some (42, 13) := by kernel_rfl
theorem off_92_2 : fieldOff Tryz.prog 92 2 = some 18 := by kernel_rfl
theorem fty_92_2 : fieldTy Tryz.prog 92 2 = some (67, 18) := by kernel_rfl
theorem off_92_3 : fieldOff Tryz.prog 92 3 = some 22 := by kernel_rfl
theorem fty_92_3 : fieldTy Tryz.prog 92 3 = some (3, 22) := by kernel_rfl
theorem agg_93 : isAggT Tryz.prog 93 = some true := by kernel_rfl
theorem size_93 : sizeT Tryz.prog 93 = some 23 := by kernel_rfl
theorem zero_93 : zeroD Tryz.prog 93 = some [.nils, .nils, .int .i64 0, .int .i64 0, .int .i64 0, .int .i64 0, .int .i64 0, .int .i64 0, .int .i64 0, .int .i64 0, .int .i64 0, .nils, .int .i64 0, .int .i64 0, .int .i64 0, .nils, .nils, .int .i64 0, .int .i64 0, .int .i64 0, .int .i64 0, .int .i64 0, .int .i64 0] := by kernel_rfl
theorem place_93 : placesT Tryz.prog 93 = some [(0, 13), (13, 5), (18, 4), (22, 1)] := by kernel_rfl
theorem off_93_0 : fieldOff Tryz.prog 93 0 = some 0 := by kernel_rfl
theorem fty_93_0 : fieldTy Tryz.prog 93 0 = some (63, 0) := by kernel_rfl
theorem off_93_1 : fieldOff Tryz.prog 93 1 = some 13 := by kernel_rfl
theorem fty_93_1 : fieldTy Tryz.prog 93 1 = some (42, 13) := by kernel_rfl
theorem off_93_2 : fieldOff Tryz.prog 93 2 = some 18 := by kernel_rfl
theorem fty_93_2 : fieldTy Tryz.prog 93 2 = some (67, 18) := by kernel_rfl
theorem off_93_3 : fieldOff Tryz.prog 93 3 = some 22 := by kernel_rfl
theorem fty_93_3 : fieldTy Tryz.prog 93 3 = some (3, 22) := by kernel_rfl
theorem agg_94 : isAggT Tryz.prog 94 = some false := by kernel_rfl
theorem size_94 : sizeT Tryz.prog 94 = some 1 := by kernel_rfl
theorem zero_94 : zeroD Tryz.prog 94 = some [.nilf] := by kernel_rfl
theorem agg_95 : isAggT Tryz.prog 95 = some false := by kernel_rfl
theorem size_95 : sizeT Tryz.prog 95 = some 1 := by kernel_rfl
theorem zero_95 : zeroD Tryz.prog 95 = some [.nilf] := by kernel_rfl
theorem agg_96 : isAggT Tryz.prog 96 = some false := by kernel_rfl
theorem size_96 : sizeT Tryz.prog 96 = some 1 := by kernel_rfl
theorem zero_96 : zeroD Tryz.prog 96 = some [.nilf] := by kernel_rfl
theorem agg_97 : isAggT Tryz.prog 97 = some true := by kernel_rfl
theorem size_97 : sizeT Tryz.prog 97 = some 3 := by kernel_rfl
theorem zero_97 : zeroD Tryz.prog 97 = some [.int .i64 0, .int .i64 0, .int .i64 0] := by kernel_rfl
theorem place_97 : placesT Tryz.prog 97 = some [(0, 1), (1, 1), (2, 1)] := by kernel_rfl
theorem off_97_0 : fieldOff Tryz.prog 97 0 = some 0 := by kernel_rfl
theorem fty_97_0 : fieldTy Tryz.prog 97 0 = some (3, 0) := by kernel_rfl
theorem off_97_1 : fieldOff Tryz.prog 97 1 = some 1 := by kernel_rfl
theorem fty_97_1 : fieldTy Tryz.prog 97 1 = some (3, 1) := by kernel_rfl
theorem off_97_2 : fieldOff Tryz.prog 97 2 = some 2 := by kernel_rfl
theorem fty_97_2 : fieldTy Tryz.prog 97 2 = some (3, 2) := by kernel_rfl
theorem agg_98 : isAggT Tryz.prog 98 = some true := by kernel_rfl
theorem size_98 : sizeT Tryz.prog 98 = some 3 := by kernel_rfl
theorem zero_98 : zeroD Tryz.prog 98 = some [.int .i64 0, .int .i64 0, .int .i64 0] := by kernel_rfl
theorem place_98 : placesT Tryz.prog 98 = some [(0, 1), (1, 1), (2, 1)] := by kernel_rfl
theorem off_98_0 : fieldOff Tryz.prog 98 0 = some 0 := by kernel_rfl
theorem fty_98_0 : fieldTy Tryz.prog 98 0 = some (3, 0) := by kernel_rfl
theorem off_98_1 : fieldOff Tryz.prog 98 1 = some 1 := by kernel_rfl
theorem fty_98_1 : fieldTy Tryz.prog 98 1 = some (3, 1) := by kernel_rfl
theorem off_98_2 : fieldOff Tryz.prog 98 2 = some 2 := by kernel_rfl
theorem fty_98_2 : fieldTy Tryz.prog 98 2 = some (3, 2) := by kernel_rfl
theorem agg_99 : isAggT Tryz.prog 99 = some false := by kernel_rfl
theorem size_99 : sizeT Tryz.prog 99 = some 1 := by kernel_rfl
theorem zero_99 : zeroD Tryz.prog 99 = some [.nilf] := by kernel_rfl
theorem agg_100 : isAggT Tryz.prog 100 = some false := by kernel_rfl
theorem size_100 : sizeT Tryz.prog 100 = some 1 := by kernel_rfl
theorem zero_100 : zeroD Tryz.prog 100 = some [.nilm] := by kernel_rfl
theorem agg_101 : isAggT Tryz.prog 101 = some false := by kernel_rfl
theorem size_101 : sizeT Tryz.prog 101 = some 1 := by kernel_rfl
theorem zero_101 : zeroD Tryz.prog 101 = some [.nilf] := by kernel_rfl
theorem agg_102 : isAggT Tryz.prog 102 = some true := by kernel_rfl
theorem size_102 : sizeT Tryz.prog 102 = some 2 := by kernel_rfl
theorem zero_102 : zeroD Tryz.prog 102 = some [.int .i64 0, .int .i64 0] := by kernel_rfl
theorem place_102 : placesT Tryz.prog 102 = some [(0, 1), (1, 1)] := by kernel_rfl
theorem off_102_0 : fieldOff Tryz.prog 102 0 = some 0 := by kernel_rfl
theorem fty_102_0 : fieldTy Tryz.prog 102 0 = some (3, 0) := by kernel_rfl
theorem off_102_1 : fieldOff Tryz.prog 102 1 = some 1 := by kernel_rfl
theorem fty_102_1 : fieldTy Tryz.prog 102 1 = some (3, 1) := by kernel_rfl
theorem agg_103 : isAggT Tryz.prog 103 = some true := by kernel_rfl
theorem size_103 : sizeT Tryz.prog 103 = some 2 := by kernel_rfl
theorem zero_103 : zeroD Tryz.prog 103 = some [.int .i64 0, .int .i64 0] := by kernel_rfl
theorem place_103 : placesT Tryz.prog 103 = some [(0, 1), (1, 1)] := by kernel_rfl
theorem off_103_0 : fieldOff Tryz.prog 103 0 = some 0 := by kernel_rfl
theorem fty_103_0 : fieldTy Tryz.prog 103 0 = some (3, 0) := by kernel_rfl
theorem off_103_1 : fieldOff Tryz.prog 103 1 = some 1 := by kernel_rfl
theorem fty_103_1 : fieldTy Tryz.prog 103 1 = some (3, 1) := by kernel_rfl
theorem agg_104 : isAggT Tryz.prog 104 = some false := by kernel_rfl
theorem size_104 : sizeT Tryz.prog 104 = some 1 := by kernel_rfl
theorem agg_105 : isAggT Tryz.prog 105 = some false := by kernel_rfl
theorem size_105 : sizeT Tryz.prog 105 = some 1 := by kernel_rfl
theorem zero_105 : zeroD Tryz.prog 105 = some [.nilf] := by kernel_rfl
theorem agg_106 : isAggT Tryz.prog 106 = some false := by kernel_rfl
theorem size_106 : sizeT Tryz.prog 106 = some 1 := by kernel_rfl
theorem zero_106 : zeroD Tryz.prog 106 = some [.nilf] := by kernel_rfl
theorem agg_107 : isAggT Tryz.prog 107 = some false := by kernel_rfl
theorem size_107 : sizeT Tryz.prog 107 = some 1 := by kernel_rfl
theorem zero_107 : zeroD Tryz.prog 107 = some [.nilf] := by kernel_rfl
theorem agg_108 : isAggT Tryz.prog 108 = some false := by kernel_rfl
theorem size_108 : sizeT Tryz.prog 108 = some 1 := by kernel_rfl
theorem zero_108 : zeroD Tryz.prog 108 = some [.nilf] := by kernel_rfl
theorem agg_109 : isAggT Tryz.prog 109 = some false := by kernel_rfl
theorem size_109 : sizeT Tryz.prog 109 = some 1 := by kernel_rfl
theorem zero_109 : zeroD Tryz.prog 109 = some [.nilf] := by kernel_rfl
theorem agg_110 : isAggT Tryz.prog 110 = some true := by kernel_rfl
theorem size_110 : sizeT Tryz.prog 110 = some 3 := by kernel_rfl
theorem zero_110 : zeroD Tryz.prog 110 = some [.int .i64 0, .int .i64 0, .int .i64 0] := by kernel_rfl
theorem place_110 : placesT Tryz.prog 110 = some [(0, 1), (1, 2)] := by kernel_rfl
theorem off_110_0 : fieldOff Tryz.prog 110 0 = some 0 := by kernel_rfl
theorem fty_110_0 : fieldTy Tryz.prog 110 0 = some (46, 0) := by kernel_rfl
theorem off_110_1 : fieldOff Tryz.prog 110 1 = some 1 := by kernel_rfl
theorem fty_110_1 : fieldTy Tryz.prog 110 1 = some (52, 1) := by kernel_rfl
theorem agg_111 : isAggT Tryz.prog 111 = some true := by kernel_rfl
theorem size_111 : sizeT Tryz.prog 111 = some 3 := by kernel_rfl
theorem zero_111 : zeroD Tryz.prog 111 = some [.int .i64 0, .int .i64 0, .int .i64 0] := by kernel_rfl
theorem place_111 : placesT Tryz.prog 111 = some [(0, 1), (1, 2)] := by kernel_rfl
theorem off_111_0 : fieldOff Tryz.prog 111 0 = some 0 := by kernel_rfl
theorem fty_111_0 : fieldTy Tryz.prog 111 0 = some (46, 0) := by kernel_rfl
theorem off_111_1 : fieldOff Tryz.prog 111 1 = some 1 := by kernel_rfl
theorem fty_111_1 : fieldTy Tryz.prog 111 1 = some (52, 1) := by kernel_rfl
theorem agg_112 : isAggT Tryz.prog 112 = some false := by kernel_rfl
theorem size_112 : sizeT Tryz.prog 112 = some 1 := by kernel_rfl
theorem agg_113 : isAggT Tryz.prog 113 = some false := by kernel_rfl
theorem size_113 : sizeT Tryz.prog 113 = some 1 := by kernel_rfl
theorem zero_113 : zeroD Tryz.prog 113 = some [.nilf] := by kernel_rfl
theorem agg_114 : isAggT Tryz.prog 114 = some true := by kernel_rfl
theorem size_114 : sizeT Tryz.prog 114 = some 4 := by kernel_rfl
theorem zero_114 : zeroD Tryz.prog 114 = some [.int .i64 0, .int .i64 0, .int .i64 0, .int .i64 0] := by kernel_rfl
theorem place_114 : placesT Tryz.prog 114 = some [(0, 1), (1, 2), (3, 1)] := by kernel_rfl
theorem off_114_0 : fieldOff Tryz.prog 114 0 = some 0 := by kernel_rfl
theorem fty_114_0 : fieldTy Tryz.prog 114 0 = some (3, 0) := by kernel_rfl
theorem off_114_1 : fieldOff Tryz.prog 114 1 = some 1 := by kernel_rfl
theorem fty_114_1 : fieldTy Tryz.prog 114 1 = some (52, 1) := by kernel_rfl
theorem off_114_2 : fieldOff Tryz.prog 114 2 = some 3 := by kernel_rfl
theorem fty_114_2 : fieldTy Tryz.prog 114 2 = some (3, 3) := by kernel_rfl
theorem agg_115 : isAggT Tryz.prog 115 = some true := by kernel_rfl
theorem size_115 : sizeT Tryz.prog 115 = some 4 := by kernel_rfl
theorem zero_115 : zeroD Tryz.prog 115 = some [.int .i64 0, .int .i64 0, .int .i64 0, .int .i64 0] := by kernel_rfl
theorem place_115 : placesT Tryz.prog 115 = some [(0, 1), (1, 2), (3, 1)] := by kernel_rfl
theorem off_115_0 : fieldOff Tryz.prog 115 0 = some 0 := by kernel_rfl
theorem fty_115_0 : fieldTy Tryz.prog 115 0 = some (3, 0) := by kernel_rfl
theorem off_115_1 : fieldOff Tryz.prog 115 1 = some 1 := by kernel_rfl
theorem fty_115_1 : fieldTy Tryz.prog 115 1 = some (52, 1) := by kernel_rfl
theorem off_115_2 : fieldOff Tryz.prog 115 2 = some 3 := by kernel_rfl
theorem fty_115_2 : fieldTy Tryz.prog 115 2 = some (3, 3) := by kernel_rfl
theorem agg_116 : isAggT Tryz.prog 116 = some false := by kernel_rfl
theorem size_116 : sizeT Tryz.prog 116 = some 1 := by kernel_rfl
theorem zero_116 : zeroD Tryz.prog 116 = some [.nilf] := by kernel_rfl
theorem agg_117 : isAggT Tryz.prog 117 = some false := by kernel_rfl
theorem size_117 : sizeT Tryz.prog 117 = some 1 := by kernel_rfl
theorem agg_118 : isAggT Tryz.prog 118 = some false := by kernel_rfl
theorem size_118 : sizeT Tryz.prog 118 = some 1 := by kernel_rfl
theorem zero_118 : zeroD Tryz.prog 118 = some [.nilf] := by kernel_rfl
theorem agg_119 : isAggT Tryz.prog 119 = some false := by kernel_rfl
theorem size_119 : sizeT Tryz.prog 119 = some 1 := by kernel_rfl
theorem zero_119 : zeroD Tryz.prog 119 = some [.nilf] := by kernel_rfl
theorem agg_120 : isAggT Tryz.prog 120 = some true := by kernel_rfl
theorem size_120 : sizeT Tryz.prog 120 = some 2 := by kernel_rfl
theorem zero_120 : zeroD Tryz.prog 120 = some [.int .i64 0, .int .i64 0] := by kernel_rfl
theorem place_120 : placesT Tryz.prog 120 = some [(0, 1), (1, 1)] := by kernel_rfl
theorem off_120_0 : fieldOff Tryz.prog 120 0 = some 0 := by kernel_rfl
theorem fty_120_0 : fieldTy Tryz.prog 120 0 = some (3, 0) := by kernel_rfl
theorem off_120_1 : fieldOff Tryz.prog 120 1 = some 1 := by kernel_rfl
theorem fty_120_1 : fieldTy Tryz.prog 120 1 = some (3, 1) := by kernel_rfl
theorem agg_121 : isAggT Tryz.prog 121 = some true := by kernel_rfl
theorem size_121 : sizeT Tryz.prog 121 = some 2 := by kernel_rfl
theorem zero_121 : zeroD Tryz.prog 121 = some [.int .i64 0, .int .i64 0] := by kernel_rfl
theorem place_121 : placesT Tryz.prog 121 = some [(0, 1), (1, 1)] := by kernel_rfl
theorem off_121_0 : fieldOff Tryz.prog 121 0 = some 0 := by kernel_rfl
theorem fty_121_0 : fieldTy Tryz.prog 121 0 = some (3, 0) := by kernel_rfl
theorem off_121_1 : fieldOff Tryz.prog 121 1 = some 1 := by kernel_rfl
theorem fty_121_1 : fieldTy Tryz.prog 121 1 = some (3, 1) := by kernel_rfl
theorem agg_122 : isAggT Tryz.prog 122 = some false := by kernel_rfl
theorem size_122 : sizeT Tryz.prog 122 = some 1 := by kernel_rfl
theorem zero_122 : zeroD Tryz.prog 122 = some [.nilf] := by kernel_rfl
theorem agg_123 : isAggT Tryz.prog 123 = some false := by kernel_rfl
theorem size_123 : sizeT Tryz.prog 123 = some 1 := by kernel_rfl
theorem zero_123 : zeroD Tryz.prog 123 = some [.nilf] := by kernel_rfl
theorem agg_124 : isAggT Tryz.prog 124 = some false := by kernel_rfl
theorem size_124 : sizeT Tryz.prog 124 = some 1 := by kernel_rfl
theorem zero_124 : zeroD Tryz.prog 124 = some [.nilf] := by kernel_rfl
theorem agg_125 : isAggT Tryz.prog 125 = some false := by kernel_rfl
theorem size_125 : sizeT Tryz.prog 125 = some 1 := by kernel_rfl
theorem zero_125 : zeroD Tryz.prog 125 = some [.int .i64 0] := by kernel_rfl
theorem agg_126 : isAggT Tryz.prog 126 = some false := by kernel_rfl
theorem size_126 : sizeT Tryz.prog 126 = some 1 := by kernel_rfl
theorem agg_127 : isAggT Tryz.prog 127 = some false := by kernel_rfl
theorem size_127 : sizeT Tryz.prog 127 = some 1 := by kernel_rfl
theorem zero_127 : zeroD Tryz.prog 127 = some [.nilf] := by kernel_rfl
theorem agg_128 : isAggT Tryz.prog 128 = some true := by kernel_rfl
theorem size_128 : sizeT Tryz.prog 128 = some 2 := by kernel_rfl
theorem zero_128 : zeroD Tryz.prog 128 = some [.int .i64 0, .int .i64 0] := by kernel_rfl
theorem place_128 : placesT Tryz.prog 128 = some [(0, 1), (1, 1)] := by kernel_rfl
theorem off_128_0 : fieldOff Tryz.prog 128 0 = some 0 := by kernel_rfl
theorem fty_128_0 : fieldTy Tryz.prog 128 0 = some (3, 0) := by kernel_rfl
theorem off_128_1 : fieldOff Tryz.prog 128 1 = some 1 := by kernel_rfl
theorem fty_128_1 : fieldTy Tryz.prog 128 1 = some (3, 1) := by kernel_rfl
theorem agg_129 : isAggT Tryz.prog 129 = some true := by kernel_rfl
theorem size_129 : sizeT Tryz.prog 129 = some 2 := by kernel_rfl
theorem zero_129 : zeroD Tryz.prog 129 = some [.int .i64 0, .int .i64 0] := by kernel_rfl
theorem place_129 : placesT Tryz.prog 129 = some [(0, 1), (1, 1)] := by kernel_rfl
theorem off_129_0 : fieldOff Tryz.prog 129 0 = some 0 := by kernel_rfl
theorem fty_129_0 : fieldTy Tryz.prog 129 0 = some (3, 0) := by kernel_rfl
theorem off_129_1 : fieldOff Tryz.prog 129 1 = some 1 := by kernel_rfl
theorem fty_129_1 : fieldTy Tryz.prog 129 1 = some (3, 1) := by kernel_rfl
theorem agg_130 : isAggT Tryz.prog 130 = some true := by kernel_rfl
theorem size_130 : sizeT Tryz.prog 130 = some 3 := by kernel_rfl
theorem zero_130 : zeroD Tryz.prog 130 = some [.int .i64 0, .int .i64 0, .int .i64 0] := by kernel_rfl
theorem place_130 : placesT Tryz.prog 130 = some [(0, 1), (1, 2)] := by kernel_rfl
theorem off_130_0 : fieldOff Tryz.prog 130 0 = some 0 := by kernel_rfl
theorem fty_130_0 : fieldTy Tryz.prog 130 0 = some (3, 0) := by kernel_rfl
theorem off_130_1 : fieldOff Tryz.prog 130 1 = some 1 := by kernel_rfl
theorem fty_130_1 : fieldTy Tryz.prog 130 1 = some (52, 1) := by kernel_rfl
theorem agg_131 : isAggT Tryz.prog 131 = some true := by kernel_rfl
theorem size_131 : sizeT Tryz.prog 131 = some 3 := by kernel_rfl
theorem zero_131 : zeroD Tryz.prog 131 = some [.int .i64 0, .int .i64 0, .int .i64 0] := by kernel_rfl
theorem place_131 : placesT Tryz.prog 131 = some [(0, 1), (1, 2)] := by kernel_rfl
theorem off_131_0 : fieldOff Tryz.prog 131 0 = some 0 := by kernel_rfl
theorem fty_131_0 : fieldTy Tryz.prog 131 0 = some (3, 0) := by kernel_rfl
theorem off_131_1 : fieldOff Tryz.prog 131 1 = some 1 := by kernel_rfl
theorem fty_131_1 : fieldTy Tryz.prog 131 1 = some (52, 1) := by kernel_rfl
theorem agg_132 : isAggT Tryz.prog 132 = some false := by kernel_rfl
theorem size_132 : sizeT Tryz.prog 132 = some 1 := by kernel_rfl
theorem zero_132 : zeroD Tryz.prog 132 = some [.nils] := by kernel_rfl
theorem und_132 : Tryz.prog.underlying 132 = some (.slice 131) := by kernel_rfl
theorem bytes_131_132 : Tryz.prog.bytesOf 131 = 24 := by kernel_rfl
theorem agg_133 : isAggT Tryz.prog 133 = some true := by kernel_rfl
theorem size_133 : sizeT Tryz.prog 133 = some 7 := by kernel_rfl
theorem zero_133 : zeroD Tryz.prog 133 = some [.nils, .bool false, .int .i64 0, .int .i64 0, .int .i64 0, .int .i64 0, .int .i64 0] := by kernel_rfl
theorem place_133 : placesT Tryz.prog 133 = some [(0, 1), (1, 1), (2, 1), (3, 2), (5, 2)] := by kernel_rfl
theorem off_133_0 : fieldOff Tryz.prog 133 0 = some 0 := by kernel_rfl
theorem fty_133_0 : fieldTy Tryz.prog 133 0 = some (132, 0) := by kernel_rfl
theorem off_133_1 : fieldOff Tryz.prog 133 1 = some 1 := by kernel_rfl
theorem fty_133_1 : fieldTy Tryz.prog 133 1 = some (4, 1) := by kernel_rfl
theorem off_133_2 : fieldOff Tryz.prog 133 2 = some 2 := by kernel_rfl
theorem fty_133_2 : fieldTy Tryz.prog 133 2 = some (3, 2) := by kernel_rfl
theorem off_133_3 : fieldOff Tryz.prog 133 3 = some 3 := by kernel_rfl
theorem fty_133_3 : fieldTy Tryz.prog 133 3 = some (52, 3) := by kernel_rfl
theorem off_133_4 : fieldOff Tryz.prog 133 4 = some 5 := by kernel_rfl
theorem fty_133_4 : fieldTy Tryz.prog 133 4 = some (52, 5) := by kernel_rfl
theorem agg_134 : isAggT Tryz.prog 134 = some true := by kernel_rfl
theorem size_134 : sizeT Tryz.prog 134 = some 7 := by kernel_rfl
theorem zero_134 : zeroD Tryz.prog 134 = some [.nils, .bool false, .int .i64 0, .int .i64 0, .int .i64 0, .int .i64 0, .int .i64 0] := by kernel_rfl
theorem place_134 : placesT Tryz.prog 134 = some [(0, 1), (1, 1), (2, 1), (3, 2), (5, 2)] := by kernel_rfl
theorem off_134_0 : fieldOff Tryz.prog 134 0 = some 0 := by kernel_rfl
theorem fty_134_0 : fieldTy Tryz.prog 134 0 = some (132, 0) := by kernel_rfl
theorem off_134_1 : fieldOff Tryz.prog 134 1 = some 1 := by kernel_rfl
theorem fty_134_1 : fieldTy Tryz.prog 134 1 = some (4, 1) := by kernel_rfl
theorem off_134_2 : fieldOff Tryz.prog 134 2 = some 2 := by kernel_rfl
theorem fty_134_2 : fieldTy Tryz.prog 134 2 = some (3, 2) := by kernel_rfl
theorem off_134_3 : fieldOff Tryz.prog 134 3 = some 3 := by kernel_rfl
theorem fty_134_3 : fieldTy Tryz.prog 134 3 = some (52, 3) := by kernel_rfl
theorem off_134_4 : fieldOff Tryz.prog 134 4 = some 5 := by kernel_rfl
theorem fty_134_4 : fieldTy Tryz.prog 134 4 = some (52, 5) := by kernel_rfl
theorem agg_135 : isAggT Tryz.prog 135 = some false := by kernel_rfl
theorem size_135 : sizeT Tryz.prog 135 = some 1 := by kernel_rfl
theorem zero_135 : zeroD Tryz.prog 135 = some [.nilf] := by kernel_rfl
theorem agg_136 : isAggT Tryz.prog 136 = some false := by kernel_rfl
theorem size_136 : sizeT Tryz.prog 136 = some 1 := by kernel_rfl
theorem zero_136 : zeroD Tryz.prog 136 = some [.nilf] := by kernel_rfl
theorem agg_137 : isAggT Tryz.prog 137 = some false := by kernel_rfl
theorem size_137 : sizeT Tryz.prog 137 = some 1 := by kernel_rfl
theorem agg_138 : isAggT Tryz.prog 138 = some false := by kernel_rfl
theorem size_138 : sizeT Tryz.prog 138 = some 1 := by kernel_rfl
theorem zero_138 : zeroD Tryz.prog 138 = some [.nilf] := by kernel_rfl
theorem agg_139 : isAggT Tryz.prog 139 = some false := by kernel_rfl
theorem size_139 : sizeT Tryz.prog 139 = some 1 := by kernel_rfl
theorem zero_139 : zeroD Tryz.prog 139 = some [.nilf] := by kernel_rfl
theorem agg_140 : isAggT Tryz.prog 140 = some false := by kernel_rfl
theorem size_140 : sizeT Tryz.prog 140 = some 1 := by kernel_rfl
theorem zero_140 : zeroD Tryz.prog 140 = some [.nilp] := by kernel_rfl
theorem agg_141 : isAggT Tryz.prog 141 = some true := by kernel_rfl
theorem size_141 : sizeT Tryz.prog 141 = some 1 := by kernel_rfl
theorem zero_141 : zeroD Tryz.prog 141 = some [.nils] := by kernel_rfl
theorem place_141 : placesT Tryz.prog 141 = some [(0, 1)] := by kernel_rfl
theorem off_141_0 : fieldOff Tryz.prog 141 0 = some 0 := by kernel_rfl
theorem fty_141_0 : fieldTy Tryz.prog 141 0 = some (34, 0) := by kernel_rfl
theorem agg_142 : isAggT Tryz.prog 142 = some true := by kernel_rfl
theorem size_142 : sizeT Tryz.prog 142 = some 1 := by kernel_rfl
theorem zero_142 : zeroD Tryz.prog 142 = some [.nils] := by kernel_rfl
theorem place_142 : placesT Tryz.prog 142 = some [(0, 1)] := by kernel_rfl
theorem off_142_0 : fieldOff Tryz.prog 142 0 = some 0 := by kernel_rfl
theorem fty_142_0 : fieldTy Tryz.prog 142 0 = some (34, 0) := by kernel_rfl
theorem agg_143 : isAggT Tryz.prog 143 = some false := by kernel_rfl
theorem size_143 : sizeT Tryz.prog 143 = some 1 := by kernel_rfl
theorem zero_143 : zeroD Tryz.prog 143 = some [.nili] := by kernel_rfl
theorem agg_144 : isAggT Tryz.prog 144 = some false := by kernel_rfl
theorem size_144 : sizeT Tryz.prog 144 = some 1 := by kernel_rfl
theorem zero_144 : zeroD Tryz.prog 144 = some [.nili] := by kernel_rfl
theorem agg_145 : isAggT Tryz.prog 145 = some false := by kernel_rfl
theorem size_145 : sizeT Tryz.prog 145 = some 1 := by kernel_rfl
theorem zero_145 : zeroD Tryz.prog 145 = some [.nilf] := by kernel_rfl
theorem agg_146 : isAggT Tryz.prog 146 = some false := by kernel_rfl
theorem size_146 : sizeT Tryz.prog 146 = some 1 := by kernel_rfl
theorem agg_147 : isAggT Tryz.prog 147 = some false := by kernel_rfl
theorem size_147 : sizeT Tryz.prog 147 = some 1 := by kernel_rfl
theorem zero_147 : zeroD Tryz.prog 147 = some [.nilf] := by kernel_rfl
theorem agg_148 : isAggT Tryz.prog 148 = some false := by kernel_rfl
theorem size_148 : sizeT Tryz.prog 148 = some 1 := by kernel_rfl
theorem zero_148 : zeroD Tryz.prog 148 = some [.nilf] := by kernel_rfl
theorem agg_149 : isAggT Tryz.prog 149 = some false := by kernel_rfl
theorem size_149 : sizeT Tryz.prog 149 = some 1 := by kernel_rfl
theorem zero_149 : zeroD Tryz.prog 149 = some [.nilf] := by kernel_rfl
theorem agg_150 : isAggT Tryz.prog 150 = some false := by kernel_rfl
theorem size_150 : sizeT Tryz.prog 150 = some 1 := by kernel_rfl
theorem zero_150 : zeroD Tryz.prog 150 = some [.nilf] := by kernel_rfl
theorem agg_151 : isAggT Tryz.prog 151 = some false := by kernel_rfl
theorem size_151 : sizeT Tryz.prog 151 = some 1 := by kernel_rfl
theorem zero_151 : zeroD Tryz.prog 151 = some [.nilf] := by kernel_rfl
theorem agg_152 : isAggT Tryz.prog 152 = some false := by kernel_rfl
theorem size_152 : sizeT Tryz.prog 152 = some 1 := by kernel_rfl
theorem zero_152 : zeroD Tryz.prog 152 = some [.nilf] := by kernel_rfl
theorem agg_153 : isAggT Tryz.prog 153 = some false := by kernel_rfl
theorem size_153 : sizeT Tryz.prog 153 = some 1 := by kernel_rfl
theorem zero_153 : zeroD Tryz.prog 153 = some [.nils] := by kernel_rfl
theorem und_153 : Tryz.prog.underlying 153 = some (.slice 34) := by kernel_rfl
theorem bytes_34_153 : Tryz.prog.bytesOf 34 = 24 := by kernel_rfl
theorem agg_154 : isAggT Tryz.prog 154 = some false := by kernel_rfl
theorem size_154 : sizeT Tryz.prog 154 = some 1 := by kernel_rfl
theorem zero_154 : zeroD Tryz.prog 154 = some [.nilf] := by kernel_rfl
theorem agg_155 : isAggT Tryz.prog 155 = some false := by kernel_rfl
theorem size_155 : sizeT Tryz.prog 155 = some 1 := by kernel_rfl
theorem zero_155 : zeroD Tryz.prog 155 = some [.nilf] := by kernel_rfl
theorem agg_156 : isAggT Tryz.prog 156 = some true := by kernel_rfl
theorem size_156 : sizeT Tryz.prog 156 = some 10 := by kernel_rfl
theorem zero_156 : zeroD Tryz.prog 156 = some [.int .i64 0, .int .i64 0, .int .i64 0, .int .i64 0, .nils, .nils, .int .i64 0, .int .i64 0, .int .i64 0, .nils] := by kernel_rfl
theorem place_156 : placesT Tryz.prog 156 = some [(0, 10)] := by kernel_rfl
theorem off_156_0 : fieldOff Tryz.prog 156 0 = some 0 := by kernel_rfl
theorem fty_156_0 : fieldTy Tryz.prog 156 0 = some (75, 0) := by kernel_rfl
theorem agg_157 : isAggT Tryz.prog 157 = some true := by kernel_rfl
theorem size_157 : sizeT Tryz.prog 157 = some 10 := by kernel_rfl
theorem zero_157 : zeroD Tryz.prog 157 = some [.int .i64 0, .int .i64 0, .int .i64 0, .int .i64 0, .nils, .nils, .int .i64 0, .int .i64 0, .int .i64 0, .nils] := by kernel_rfl
theorem place_157 : placesT Tryz.prog 157 = some [(0, 10)] := by kernel_rfl
theorem off_157_0 : fieldOff Tryz.prog 157 0 = some 0 := by kernel_rfl
theorem fty_157_0 : fieldTy Tryz.prog 157 0 = some (75, 0) := by kernel_rfl
theorem agg_158 : isAggT Tryz.prog 158 = some false := by kernel_rfl
theorem size_158 : sizeT Tryz.prog 158 = some 1 := by kernel_rfl
theorem zero_158 : zeroD Tryz.prog 158 = some [.nils] := by kernel_rfl
theorem und_158 : Tryz.prog.underlying 158 = some (.slice 161) := by kernel_rfl
theorem bytes_161_158 : Tryz.prog.bytesOf 161 = 72 := by kernel_rfl
theorem agg_159 : isAggT Tryz.prog 159 = some false := by kernel_rfl
theorem size_159 : sizeT Tryz.prog 159 = some 1 := by kernel_rfl
theorem zero_159 : zeroD Tryz.prog 159 = some [.nilf] := by kernel_rfl
theorem agg_160 : isAggT Tryz.prog 160 = some true := by kernel_rfl
theorem size_160 : sizeT Tryz.prog 160 = some 5 := by kernel_rfl
theorem zero_160 : zeroD Tryz.prog 160 = some [.nils, .int .i64 0, .int .i64 0, .nils, .bool false] := by kernel_rfl
theorem place_160 : placesT Tryz.prog 160 = some [(0, 1), (1, 2), (3, 1), (4, 1)] := by kernel_rfl
theorem off_160_0 : fieldOff Tryz.prog 160 0 = some 0 := by kernel_rfl
theorem fty_160_0 : fieldTy Tryz.prog 160 0 = some (132, 0) := by kernel_rfl
theorem off_160_1 : fieldOff Tryz.prog 160 1 = some 1 := by kernel_rfl
theorem fty_160_1 : fieldTy Tryz.prog 160 1 = some (52, 1) := by kernel_rfl
theorem off_160_2 : fieldOff Tryz.prog 160 2 = some 3 := by kernel_rfl
theorem fty_160_2 : fieldTy Tryz.prog 160 2 = some (22, 3) := by kernel_rfl
theorem off_160_3 : fieldOff Tryz.prog 160 3 = some 4 := by kernel_rfl
theorem fty_160_3 : fieldTy Tryz.prog 160 3 = some (4, 4) := by kernel_rfl
theorem agg_161 : isAggT Tryz.prog 161 = some true := by kernel_rfl
theorem size_161 : sizeT Tryz.prog 161 = some 5 := by kernel_rfl
theorem zero_161 : zeroD Tryz.prog 161 = some [.nils, .int .i64 0, .int .i64 0, .nils, .bool false] := by kernel_rfl
theorem place_161 : placesT Tryz.prog 161 = some [(0, 1), (1, 2), (3, 1), (4, 1)] := by kernel_rfl
theorem off_161_0 : fieldOff Tryz.prog 161 0 = some 0 := by kernel_rfl
theorem fty_161_0 : fieldTy Tryz.prog 161 0 = some (132, 0) := by kernel_rfl
theorem off_161_1 : fieldOff Tryz.prog 161 1 = some 1 := by kernel_rfl
theorem fty_161_1 : fieldTy Tryz.prog 161 1 = some (52, 1) := by kernel_rfl
theorem off_161_2 : fieldOff Tryz.prog 161 2 = some 3 := by kernel_rfl
theorem fty_161_2 : fieldTy Tryz.prog 161 2 = some (22, 3) := by kernel_rfl
theorem off_161_3 : fieldOff Tryz.prog 161 3 = some 4 := by kernel_rfl
theorem fty_161_3 : fieldTy Tryz.prog 161 3 = some (4, 4) := by kernel_rfl
theorem agg_162 : isAggT Tryz.prog 162 = some false := by kernel_rfl
theorem size_162 : sizeT Tryz.prog 162 = some 1 := by kernel_rfl
theorem zero_162 : zeroD Tryz.prog 162 = some [.nilf] := by kernel_rfl
theorem agg_163 : isAggT Tryz.prog 163 = some true := by kernel_rfl
theorem size_163 : sizeT Tryz.prog 163 = some 6 := by kernel_rfl
theorem zero_163 : zeroD Tryz.prog 163 = some [.nilf, .nilf, .nilf, .nilf, .nilf, .nilf] := by kernel_rfl
theorem und_163 : Tryz.prog.underlying 163 = some (.array 6 162) := by kernel_rfl
theorem place_163 : placesT Tryz.prog 163 = some [(0, 1), (1, 1), (2, 1), (3, 1), (4, 1), (5, 1)] := by kernel_rfl
theorem agg_164 : isAggT Tryz.prog 164 = some true := by kernel_rfl
theorem size_164 : sizeT Tryz.prog 164 = some 15 := by kernel_rfl
theorem zero_164 : zeroD Tryz.prog 164 = some [.int .i64 0, .int .i64 0, .int .i64 0, .int .i64 0, .nils, .nils, .int .i64 0, .int .i64 0, .int .i64 0, .nils, .nils, .int .i64 0, .int .i64 0, .nils, .bool false] := by kernel_rfl
theorem place_164 : placesT Tryz.prog 164 = some [(0, 10), (10, 5)] := by kernel_rfl
theorem off_164_0 : fieldOff Tryz.prog 164 0 = some 0 := by kernel_rfl
theorem fty_164_0 : fieldTy Tryz.prog 164 0 = some (157, 0) := by kernel_rfl
theorem off_164_1 : fieldOff Tryz.prog 164 1 = some 10 := by kernel_rfl
theorem fty_164_1 : fieldTy Tryz.prog 164 1 = some (161, 10) := by kernel_rfl
theorem agg_165 : isAggT Tryz.prog 165 = some true := by kernel_rfl
theorem size_165 : sizeT Tryz.prog 165 = some 15 := by kernel_rfl
theorem zero_165 : zeroD Tryz.prog 165 = some [.int .i64 0, .int .i64 0, .int .i64 0, .int .i64 0, .nils, .nils, .int .i64 0, .int .i64 0, .int .i64 0, .nils, .nils, .int .i64 0, .int .i64 0, .nils, .bool false] := by kernel_rfl
theorem place_165 : placesT Tryz.prog 165 = some [(0, 10), (10, 5)] := by kernel_rfl
theorem off_165_0 : fieldOff Tryz.prog 165 0 = some 0 := by kernel_rfl
theorem fty_165_0 : fieldTy Tryz.prog 165 0 = some (157, 0) := by kernel_rfl
theorem off_165_1 : fieldOff Tryz.prog 165 1 = some 10 := by kernel_rfl
theorem fty_165_1 : fieldTy Tryz.prog 165 1 = some (161, 10) := by kernel_rfl
theorem agg_166 : isAggT Tryz.prog 166 = some false := by kernel_rfl
theorem size_166 : sizeT Tryz.prog 166 = some 1 := by kernel_rfl
theorem zero_166 : zeroD Tryz.prog 166 = some [.nilf] := by kernel_rfl
theorem agg_167 : isAggT Tryz.prog 167 = some false := by kernel_rfl
theorem size_167 : sizeT Tryz.prog 167 = some 1 := by kernel_rfl
theorem agg_168 : isAggT Tryz.prog 168 = some false := by kernel_rfl
theorem size_168 : sizeT Tryz.prog 168 = some 1 := by kernel_rfl
theorem zero_168 : zeroD Tryz.prog 168 = some [.nilf] := by kernel_rfl
theorem agg_169 : isAggT Tryz.prog 169 = some false := by kernel_rfl
theorem size_169 : sizeT Tryz.prog 169 = some 1 := by kernel_rfl
theorem zero_169 : zeroD Tryz.prog 169 = some [.nilf] := by kernel_rfl
theorem agg_170 : isAggT Tryz.prog 170 = some true := by kernel_rfl
theorem size_170 : sizeT Tryz.prog 170 = some 2 := by kernel_rfl
theorem zero_170 : zeroD Tryz.prog 170 = some [.int .i64 0, .int .i64 0] := by kernel_rfl
theorem und_170 : Tryz.prog.underlying 170 = some (.array 2 3) := by kernel_rfl
theorem place_170 : placesT Tryz.prog 170 = some [(0, 1), (1, 1)] := by kernel_rfl
theorem agg_171 : isAggT Tryz.prog 171 = some true := by kernel_rfl
theorem size_171 : sizeT Tryz.prog 171 = some 16 := by kernel_rfl
theorem zero_171 : zeroD Tryz.prog 171 = some [.int .i64 0, .int .i64 0, .int .i64 0, .int .i64 0, .int .i64 0, .int .i64 0, .int .i64 0, .int .i64 0, .int .i64 0, .int .i64 0, .int .i64 0, .int .i64 0, .int .i64 0, .int .i64 0, .int .i64 0, .int .i64 0] := by kernel_rfl
theorem und_171 : Tryz.prog.underlying 171 = some (.array 8 170) := by kernel_rfl
theorem place_171 : placesT Tryz.prog 171 = some [(0, 2), (2, 2), (4, 2), (6, 2), (8, 2), (10, 2), (12, 2), (14, 2)] := by kernel_rfl
theorem agg_172 : isAggT Tryz.prog 172 = some false := by kernel_rfl
theorem size_172 : sizeT Tryz.prog 172 = some 1 := by kernel_rfl
theorem zero_172 : zeroD Tryz.prog 172 = some [.nilf] := by kernel_rfl
theorem agg_173 : isAggT Tryz.prog 173 = some false := by kernel_rfl
theorem size_173 : sizeT Tryz.prog 173 = some 1 := by kernel_rfl
theorem zero_173 : zeroD Tryz.prog 173 = some [.nilf] := by kernel_rfl
theorem agg_174 : isAggT Tryz.prog 174 = some false := by kernel_rfl
theorem size_174 : sizeT Tryz.prog 174 = some 1 := by kernel_rfl
theorem zero_174 : zeroD Tryz.prog 174 = some [.nilf] := by kernel_rfl
theorem agg_175 : isAggT Tryz.prog 175 = some true := by kernel_rfl
theorem size_175 : sizeT Tryz.prog 175 = some 2 := by kernel_rfl
theorem zero_175 : zeroD Tryz.prog 175 = some [.nilf, .nilf] := by kernel_rfl
theorem place_175 : placesT Tryz.prog 175 = some [(0, 1), (1, 1)] := by kernel_rfl
theorem off_175_0 : fieldOff Tryz.prog 175 0 = some 0 := by kernel_rfl
theorem fty_175_0 : fieldTy Tryz.prog 175 0 = some (174, 0) := by kernel_rfl
theorem off_175_1 : fieldOff Tryz.prog 175 1 = some 1 := by kernel_rfl
theorem fty_175_1 : fieldTy Tryz.prog 175 1 = some (174, 1) := by kernel_rfl
theorem agg_176 : isAggT Tryz.prog 176 = some true := by kernel_rfl
theorem size_176 : sizeT Tryz.prog 176 = some 2 := by kernel_rfl
theorem zero_176 : zeroD Tryz.prog 176 = some [.nilf, .nilf] := by kernel_rfl
theorem place_176 : placesT Tryz.prog 176 = some [(0, 1), (1, 1)] := by kernel_rfl
theorem off_176_0 : fieldOff Tryz.prog 176 0 = some 0 := by kernel_rfl
theorem fty_176_0 : fieldTy Tryz.prog 176 0 = some (174, 0) := by kernel_rfl
theorem off_176_1 : fieldOff Tryz.prog 176 1 = some 1 := by kernel_rfl
theorem fty_176_1 : fieldTy Tryz.prog 176 1 = some (174, 1) := by kernel_rfl
theorem agg_177 : isAggT Tryz.prog 177 = some false := by kernel_rfl
theorem size_177 : sizeT Tryz.prog 177 = some 1 := by kernel_rfl
theorem zero_177 : zeroD Tryz.prog 177 = some [.nilf] := by kernel_rfl
theorem agg_178 : isAggT Tryz.prog 178 = some false := by kernel_rfl
theorem size_178 : sizeT Tryz.prog 178 = some 1 := by kernel_rfl
theorem zero_178 : zeroD Tryz.prog 178 = some [.nilf] := by kernel_rfl
theorem agg_179 : isAggT Tryz.prog 179 = some false := by kernel_rfl
theorem size_179 : sizeT Tryz.prog 179 = some 1 := by kernel_rfl
theorem zero_179 : zeroD Tryz.prog 179 = some [.nilf] := by kernel_rfl
theorem agg_180 : isAggT Tryz.prog 180 = some false := by kernel_rfl
theorem size_180 : sizeT Tryz.prog 180 = some 1 := by kernel_rfl
theorem zero_180 : zeroD Tryz.prog 180 = some [.nilf] := by kernel_rfl
theorem agg_181 : isAggT Tryz.prog 181 = some false := by kernel_rfl
theorem size_181 : sizeT Tryz.prog 181 = some 1 := by kernel_rfl
theorem zero_181 : zeroD Tryz.prog 181 = some [.nilf] := by kernel_rfl
theorem agg_182 : isAggT Tryz.prog 182 = some false := by kernel_rfl
theorem size_182 : sizeT Tryz.prog 182 = some 1 := by kernel_rfl
theorem zero_182 : zeroD Tryz.prog 182 = some [.nilf] := by kernel_rfl
theorem agg_183 : isAggT Tryz.prog 183 = some false := by kernel_rfl
theorem size_183 : sizeT Tryz.prog 183 = some 1 := by kernel_rfl
theorem zero_183 : zeroD Tryz.prog 183 = some [.nilf] := by kernel_rfl
theorem agg_184 : isAggT Tryz.prog 184 = some false := by kernel_rfl
theorem size_184 : sizeT Tryz.prog 184 = some 1 := by kernel_rfl
theorem zero_184 : zeroD Tryz.prog 184 = some [.nilf] := by kernel_rfl
theorem agg_185 : isAggT Tryz.prog 185 = some false := by kernel_rfl
theorem size_185 : sizeT Tryz.prog 185 = some 1 := by kernel_rfl
theorem zero_185 : zeroD Tryz.prog 185 = some [.nilf] := by kernel_rfl
theorem agg_186 : isAggT Tryz.prog 186 = some false := by kernel_rfl
theorem size_186 : sizeT Tryz.prog 186 = some 1 := by kernel_rfl
theorem zero_186 : zeroD Tryz.prog 186 = some [.nilf] := by kernel_rfl
theorem agg_187 : isAggT Tryz.prog 187 = some true := by kernel_rfl
theorem size_187 : sizeT Tryz.prog 187 = some 4 := by kernel_rfl
theorem zero_187 : zeroD Tryz.prog 187 = some [.nilf, .nilf, .nilf, .nilf] := by kernel_rfl
theorem und_187 : Tryz.prog.underlying 187 = some (.array 2 176) := by kernel_rfl
theorem place_187 : placesT Tryz.prog 187 = some [(0, 2), (2, 2)] := by kernel_rfl
theorem agg_188 : isAggT Tryz.prog 188 = some false := by kernel_rfl
theorem size_188 : sizeT Tryz.prog 188 = some 1 := by kernel_rfl
theorem zero_188 : zeroD Tryz.prog 188 = some [.nilf] := by kernel_rfl
theorem agg_189 : isAggT Tryz.prog 189 = some false := by kernel_rfl
theorem size_189 : sizeT Tryz.prog 189 = some 1 := by kernel_rfl
theorem zero_189 : zeroD Tryz.prog 189 = some [.nilf] := by kernel_rfl
theorem agg_190 : isAggT Tryz.prog 190 = some false := by kernel_rfl
theorem size_190 : sizeT Tryz.prog 190 = some 1 := by kernel_rfl
theorem zero_190 : zeroD Tryz.prog 190 = some [.nilf] := by kernel_rfl
theorem agg_191 : isAggT Tryz.prog 191 = some false := by kernel_rfl
theorem size_191 : sizeT Tryz.prog 191 = some 1 := by kernel_rfl
theorem zero_191 : zeroD Tryz.prog 191 = some [.nilf] := by kernel_rfl
theorem agg_192 : isAggT Tryz.prog 192 = some false := by kernel_rfl
theorem size_192 : sizeT Tryz.prog 192 = some 1 := by kernel_rfl
theorem zero_192 : zeroD Tryz.prog 192 = some [.nilf] := by kernel_rfl
theorem agg_193 : isAggT Tryz.prog 193 = some true := by kernel_rfl
theorem size_193 : sizeT Tryz.prog 193 = some 5 := by kernel_rfl
theorem zero_193 : zeroD Tryz.prog 193 = some [.int .i64 0, .int .i64 0, .int .i64 0, .int .i64 0, .int .i64 0] := by kernel_rfl
theorem place_193 : placesT Tryz.prog 193 = some [(0, 1), (1, 1), (2, 1), (3, 1), (4, 1)] := by kernel_rfl
theorem off_193_0 : fieldOff Tryz.prog 193 0 = some 0 := by kernel_rfl
theorem fty_193_0 : fieldTy Tryz.prog 193 0 = some (3, 0) := by kernel_rfl
theorem off_193_1 : fieldOff Tryz.prog 193 1 = some 1 := by kernel_rfl
theorem fty_193_1 : fieldTy Tryz.prog 193 1 = some (3, 1) := by kernel_rfl
theorem off_193_2 : fieldOff Tryz.prog 193 2 = some 2 := by kernel_rfl
theorem fty_193_2 : fieldTy Tryz.prog 193 2 = some (3, 2) := by kernel_rfl
theorem off_193_3 : fieldOff Tryz.prog 193 3 = some 3 := by kernel_rfl
theorem fty_193_3 : fieldTy Tryz.prog 193 3 = some (3, 3) := by kernel_rfl
theorem off_193_4 : fieldOff Tryz.prog 193 4 = some 4 := by kernel_rfl
theorem fty_193_4 : fieldTy Tryz.prog 193 4 = some (3, 4) := by kernel_rfl
theorem agg_194 : isAggT Tryz.prog 194 = some true := by kernel_rfl
theorem size_194 : sizeT Tryz.prog 194 = some 5 := by kernel_rfl
theorem zero_194 : zeroD Tryz.prog 194 = some [.int .i64 0, .int .i64 0, .int .i64 0, .int .i64 0, .int .i64 0] := by kernel_rfl
theorem place_194 : placesT Tryz.prog 194 = some [(0, 1), (1, 1), (2, 1), (3, 1), (4, 1)] := by kernel_rfl
theorem off_194_0 : fieldOff Tryz.prog 194 0 = some 0 := by kernel_rfl
theorem fty_194_0 : fieldTy Tryz.prog 194 0 = some (3, 0) := by kernel_rfl
theorem off_194_1 : fieldOff Tryz.prog 194 1 = some 1 := by kernel_rfl
theorem fty_194_1 : fieldTy Tryz.prog 194 1 = some (3, 1) := by kernel_rfl
theorem off_194_2 : fieldOff Tryz.prog 194 2 = some 2 := by kernel_rfl
theorem fty_194_2 : fieldTy Tryz.prog 194 2 = some (3, 2) := by kernel_rfl
theorem off_194_3 : fieldOff Tryz.prog 194 3 = some 3 := by kernel_rfl
theorem fty_194_3 : fieldTy Tryz.prog 194 3 = some (3, 3) := by kernel_rfl
theorem off_194_4 : fieldOff Tryz.prog 194 4 = some 4 := by kernel_rfl
theorem fty_194_4 : fieldTy Tryz.prog 194 4 = some (3, 4) := by kernel_rfl
theorem agg_195 : isAggT Tryz.prog 195 = some false := by kernel_rfl
theorem size_195 : sizeT Tryz.prog 195 = some 1 := by kernel_rfl
theorem zero_195 : zeroD Tryz.prog 195 = some [.nilm] := by kernel_rfl
theorem agg_196 : isAggT Tryz.prog 196 = some true := by kernel_rfl
theorem size_196 : sizeT Tryz.prog 196 = some 4 := by kernel_rfl
theorem zero_196 : zeroD Tryz.prog 196 = some [.int .i64 0, .int .i64 0, .int .i64 0, .int .i64 0] := by kernel_rfl
theorem place_196 : placesT Tryz.prog 196 = some [(0, 2), (2, 2)] := by kernel_rfl
theorem off_196_0 : fieldOff Tryz.prog 196 0 = some 0 := by kernel_rfl
theorem fty_196_0 : fieldTy Tryz.prog 196 0 = some (52, 0) := by kernel_rfl
theorem off_196_1 : fieldOff Tryz.prog 196 1 = some 2 := by kernel_rfl
theorem fty_196_1 : fieldTy Tryz.prog 196 1 = some (52, 2) := by kernel_rfl
theorem agg_197 : isAggT Tryz.prog 197 = some true := by kernel_rfl
theorem size_197 : sizeT Tryz.prog 197 = some 4 := by kernel_rfl
theorem zero_197 : zeroD Tryz.prog 197 = some [.int .i64 0, .int .i64 0, .int .i64 0, .int .i64 0] := by kernel_rfl
theorem place_197 : placesT Tryz.prog 197 = some [(0, 2), (2, 2)] := by kernel_rfl
theorem off_197_0 : fieldOff Tryz.prog 197 0 = some 0 := by kernel_rfl
theorem fty_197_0 : fieldTy Tryz.prog 197 0 = some (52, 0) := by kernel_rfl
theorem off_197_1 : fieldOff Tryz.prog 197 1 = some 2 := by kernel_rfl
theorem fty_197_1 : fieldTy Tryz.prog 197 1 = some (52, 2) := by kernel_rfl
theorem agg_198 : isAggT Tryz.prog 198 = some false := by kernel_rfl
theorem size_198 : sizeT Tryz.prog 198 = some 1 := by kernel_rfl
theorem zero_198 : zeroD Tryz.prog 198 = some [.nilf] := by kernel_rfl
theorem agg_199 : isAggT Tryz.prog 199 = some false := by kernel_rfl
theorem size_199 : sizeT Tryz.prog 199 = some 1 := by kernel_rfl
theorem zero_199 : zeroD Tryz.prog 199 = some [.nilf] := by kernel_rfl
theorem agg_200 : isAggT Tryz.prog 200 = some false := by kernel_rfl
theorem size_200 : sizeT Tryz.prog 200 = some 1 := by kernel_rfl
theorem zero_200 : zeroD Tryz.prog 200 = some [.nilf] := by kernel_rfl
theorem agg_201 : isAggT Tryz.prog 201 = some false := by kernel_rfl
theorem size_201 : sizeT Tryz.prog 201 = some 1 := by kernel_rfl
theorem zero_201 : zeroD Tryz.prog 201 = some [.nilf] := by kernel_rfl
theorem agg_202 : isAggT Tryz.prog 202 = some false := by kernel_rfl
theorem size_202 : sizeT Tryz.prog 202 = some 1 := by kernel_rfl
theorem zero_202 : zeroD Tryz.prog 202 = some [.nilf] := by kernel_rfl
theorem agg_203 : isAggT Tryz.prog 203 = some false := by kernel_rfl
theorem size_203 : sizeT Tryz.prog 203 = some 1 := by kernel_rfl
theorem zero_203 : zeroD Tryz.prog 203 = some [.nilf] := by kernel_rfl
theorem agg_204 : isAggT Tryz.prog 204 = some false := by kernel_rfl
theorem size_204 : sizeT Tryz.prog 204 = some 1 := by kernel_rfl
theorem zero_204 : zeroD Tryz.prog 204 = some [.int .i64 0] := by kernel_rfl
theorem agg_205 : isAggT Tryz.prog 205 = some true := by kernel_rfl
theorem size_205 : sizeT Tryz.prog 205 = some 5 := by kernel_rfl
theorem zero_205 : zeroD Tryz.prog 205 = some [.int .i64 0, .int .i64 0, .int .i64 0, .int .i64 0, .int .i64 0] := by kernel_rfl
theorem place_205 : placesT Tryz.prog 205 = some [(0, 1), (1, 1), (2, 1), (3, 2)] := by kernel_rfl
theorem off_205_0 : fieldOff Tryz.prog 205 0 = some 0 := by kernel_rfl
theorem fty_205_0 : fieldTy Tryz.prog 205 0 = some (204, 0) := by kernel_rfl
theorem off_205_1 : fieldOff Tryz.prog 205 1 = some 1 := by kernel_rfl
theorem fty_205_1 : fieldTy Tryz.prog 205 1 = some (3, 1) := by kernel_rfl
theorem off_205_2 : fieldOff Tryz.prog 205 2 = some 2 := by kernel_rfl
theorem fty_205_2 : fieldTy Tryz.prog 205 2 = some (3, 2) := by kernel_rfl
theorem off_205_3 : fieldOff Tryz.prog 205 3 = some 3 := by kernel_rfl
theorem fty_205_3 : fieldTy Tryz.prog 205 3 = some (52, 3) := by kernel_rfl
theorem agg_206 : isAggT Tryz.prog 206 = some true := by kernel_rfl
theorem size_206 : sizeT Tryz.prog 206 = some 5 := by kernel_rfl
theorem zero_206 : zeroD Tryz.prog 206 = some [.int .i64 0, .int .i64 0, .int .i64 0, .int .i64 0, .int .i64 0] := by kernel_rfl
theorem place_206 : placesT Tryz.prog 206 = some [(0, 1), (1, 1), (2, 1), (3, 2)] := by kernel_rfl
theorem off_206_0 : fieldOff Tryz.prog 206 0 = some 0 := by kernel_rfl
theorem fty_206_0 : fieldTy Tryz.prog 206 0 = some (204, 0) := by kernel_rfl
theorem off_206_1 : fieldOff Tryz.prog 206 1 = some 1 := by kernel_rfl
theorem fty_206_1 : fieldTy Tryz.prog 206 1 = some (3, 1) := by kernel_rfl
theorem off_206_2 : fieldOff Tryz.prog 206 2 = some 2 := by kernel_rfl
theorem fty_206_2 : fieldTy Tryz.prog 206 2 = some (3, 2) := by kernel_rfl
theorem off_206_3 : fieldOff Tryz.prog 206 3 = some 3 := by kernel_rfl
theorem fty_206_3 : fieldTy Tryz.prog 206 3 = some (52, 3) := by kernel_rfl
theorem agg_207 : isAggT Tryz.prog 207 = some false := by kernel_rfl
theorem size_207 : sizeT Tryz.prog 207 = some 1 := by kernel_rfl
theorem zero_207 : zeroD Tryz.prog 207 = some [.nilf] := by kernel_rfl
theorem agg_208 : isAggT Tryz.prog 208 = some false := by kernel_rfl
theorem size_208 : sizeT Tryz.prog 208 = some 1 := by kernel_rfl
theorem zero_208 : zeroD Tryz.prog 208 = some [.nilf] := by kernel_rfl
theorem agg_209 : isAggT Tryz.prog 209 = some false := by kernel_rfl
theorem size_209 : sizeT Tryz.prog 209 = some 1 := by kernel_rfl
theorem zero_209 : zeroD Tryz.prog 209 = some [.nilf] := by kernel_rfl
theorem agg_210 : isAggT Tryz.prog 210 = some true := by kernel_rfl
theorem size_210 : sizeT Tryz.prog 210 = some 4 := by kernel_rfl
theorem zero_210 : zeroD Tryz.prog 210 = some [.nilp, .nilp, .nilp, .str ByteArray.empty] := by kernel_rfl
theorem place_210 : placesT Tryz.prog 210 = some [(0, 1), (1, 1), (2, 1), (3, 1)] := by kernel_rfl
theorem off_210_0 : fieldOff Tryz.prog 210 0 = some 0 := by kernel_rfl
theorem fty_210_0 : fieldTy Tryz.prog 210 0 = some (17, 0) := by kernel_rfl
theorem off_210_1 : fieldOff Tryz.prog 210 1 = some 1 := by kernel_rfl
theorem fty_210_1 : fieldTy Tryz.prog 210 1 = some (17, 1) := by kernel_rfl
theorem off_210_2 : fieldOff Tryz.prog 210 2 = some 2 := by kernel_rfl
theorem fty_210_2 : fieldTy Tryz.prog 210 2 = some (17, 2) := by kernel_rfl
theorem off_210_3 : fieldOff Tryz.prog 210 3 = some 3 := by kernel_rfl
theorem fty_210_3 : fieldTy Tryz.prog 210 3 = some (9, 3) := by kernel_rfl
theorem agg_211 : isAggT Tryz.prog 211 = some true := by kernel_rfl
theorem size_211 : sizeT Tryz.prog 211 = some 4 := by kernel_rfl
theorem zero_211 : zeroD Tryz.prog 211 = some [.nilp, .nilp, .nilp, .str ByteArray.empty] := by kernel_rfl
theorem place_211 : placesT Tryz.prog 211 = some [(0, 1), (1, 1), (2, 1), (3, 1)] := by kernel_rfl
theorem off_211_0 : fieldOff Tryz.prog 211 0 = some 0 := by kernel_rfl
theorem fty_211_0 : fieldTy Tryz.prog 211 0 = some (17, 0) := by kernel_rfl
theorem off_211_1 : fieldOff Tryz.prog 211 1 = some 1 := by kernel_rfl
theorem fty_211_1 : fieldTy Tryz.prog 211 1 = some (17, 1) := by kernel_rfl
theorem off_211_2 : fieldOff Tryz.prog 211 2 = some 2 := by kernel_rfl
theorem fty_211_2 : fieldTy Tryz.prog 211 2 = some (17, 2) := by kernel_rfl
theorem off_211_3 : fieldOff Tryz.prog 211 3 = some 3 := by kernel_rfl
theorem fty_211_3 : fieldTy Tryz.prog 211 3 = some (9, 3) := by kernel_rfl
theorem agg_212 : isAggT Tryz.prog 212 = some true := by kernel_rfl
theorem size_212 : sizeT Tryz.prog 212 = some 0 := by kernel_rfl
theorem zero_212 : zeroD Tryz.prog 212 = some [] := by kernel_rfl
theorem place_212 : placesT Tryz.prog 212 = some [] := by kernel_rfl
theorem agg_213 : isAggT Tryz.prog 213 = some true := by kernel_rfl
theorem size_213 : sizeT Tryz.prog 213 = some 0 := by kernel_rfl
theorem zero_213 : zeroD Tryz.prog 213 = some [] := by kernel_rfl
theorem place_213 : placesT Tryz.prog 213 = some [(0, 0)] := by kernel_rfl
theorem fty_213_0 : fieldTy Tryz.prog 213 0 = some (212, 0) := by kernel_rfl
theorem agg_214 : isAggT Tryz.prog 214 = some true := by kernel_rfl
theorem size_214 : sizeT Tryz.prog 214 = some 0 := by kernel_rfl
theorem zero_214 : zeroD Tryz.prog 214 = some [] := by kernel_rfl
theorem place_214 : placesT Tryz.prog 214 = some [(0, 0)] := by kernel_rfl
theorem fty_214_0 : fieldTy Tryz.prog 214 0 = some (212, 0) := by kernel_rfl
theorem agg_215 : isAggT Tryz.prog 215 = some false := by kernel_rfl
theorem size_215 : sizeT Tryz.prog 215 = some 1 := by kernel_rfl
theorem zero_215 : zeroD Tryz.prog 215 = some [.int .u32 0] := by kernel_rfl
theorem agg_216 : isAggT Tryz.prog 216 = some false := by kernel_rfl
theorem size_216 : sizeT Tryz.prog 216 = some 1 := by kernel_rfl
theorem zero_216 : zeroD Tryz.prog 216 = some [.int .u8 0] := by kernel_rfl
theorem agg_217 : isAggT Tryz.prog 217 = some false := by kernel_rfl
theorem size_217 : sizeT Tryz.prog 217 = some 1 := by kernel_rfl
theorem zero_217 : zeroD Tryz.prog 217 = some [.int .u8 0] := by kernel_rfl
theorem agg_218 : isAggT Tryz.prog 218 = some false := by kernel_rfl
theorem size_218 : sizeT Tryz.prog 218 = some 1 := by kernel_rfl
theorem zero_218 : zeroD Tryz.prog 218 = some [.nilf] := by kernel_rfl
theorem agg_219 : isAggT Tryz.prog 219 = some false := by kernel_rfl
theorem size_219 : sizeT Tryz.prog 219 = some 1 := by kernel_rfl
theorem zero_219 : zeroD Tryz.prog 219 = some [.nilp] := by kernel_rfl
theorem agg_220 : isAggT Tryz.prog 220 = some false := by kernel_rfl
theorem size_220 : sizeT Tryz.prog 220 = some 1 := by kernel_rfl
theorem zero_220 : zeroD Tryz.prog 220 = some [.int .i32 0] := by kernel_rfl
theorem agg_221 : isAggT Tryz.prog 221 = some false := by kernel_rfl
theorem size_221 : sizeT Tryz.prog 221 = some 1 := by kernel_rfl
theorem zero_221 : zeroD Tryz.prog 221 = some [.int .i32 0] := by kernel_rfl
theorem agg_222 : isAggT Tryz.prog 222 = some true := by kernel_rfl
theorem size_222 : sizeT Tryz.prog 222 = some 11 := by kernel_rfl
theorem zero_222 : zeroD Tryz.prog 222 = some [.int .u64 0, .int .u64 0, .int .u32 0, .int .u8 0, .int .u8 0, .int .u8 0, .int .u8 0, .nilf, .nilp, .int .i32 0, .int .i32 0] := by kernel_rfl
theorem place_222 : placesT Tryz.prog 222 = some [(0, 1), (1, 1), (2, 1), (3, 1), (4, 1), (5, 1), (6, 1), (7, 1), (8, 1), (9, 1), (10, 1)] := by kernel_rfl
theorem off_222_0 : fieldOff Tryz.prog 222 0 = some 0 := by kernel_rfl
theorem fty_222_0 : fieldTy Tryz.prog 222 0 = some (12, 0) := by kernel_rfl
theorem off_222_1 : fieldOff Tryz.prog 222 1 = some 1 := by kernel_rfl
theorem fty_222_1 : fieldTy Tryz.prog 222 1 = some (12, 1) := by kernel_rfl
theorem off_222_2 : fieldOff Tryz.prog 222 2 = some 2 := by kernel_rfl
theorem fty_222_2 : fieldTy Tryz.prog 222 2 = some (215, 2) := by kernel_rfl
theorem off_222_3 : fieldOff Tryz.prog 222 3 = some 3 := by kernel_rfl
theorem fty_222_3 : fieldTy Tryz.prog 222 3 = some (216, 3) := by kernel_rfl
theorem off_222_4 : fieldOff Tryz.prog 222 4 = some 4 := by kernel_rfl
theorem fty_222_4 : fieldTy Tryz.prog 222 4 = some (5, 4) := by kernel_rfl
theorem off_222_5 : fieldOff Tryz.prog 222 5 = some 5 := by kernel_rfl
theorem fty_222_5 : fieldTy Tryz.prog 222 5 = some (5, 5) := by kernel_rfl
theorem off_222_6 : fieldOff Tryz.prog 222 6 = some 6 := by kernel_rfl
theorem fty_222_6 : fieldTy Tryz.prog 222 6 = some (217, 6) := by kernel_rfl
theorem off_222_7 : fieldOff Tryz.prog 222 7 = some 7 := by kernel_rfl
theorem fty_222_7 : fieldTy Tryz.prog 222 7 = some (218, 7) := by kernel_rfl
theorem off_222_8 : fieldOff Tryz.prog 222 8 = some 8 := by kernel_rfl
theorem fty_222_8 : fieldTy Tryz.prog 222 8 = some (219, 8) := by kernel_rfl
theorem off_222_9 : fieldOff Tryz.prog 222 9 = some 9 := by kernel_rfl
theorem fty_222_9 : fieldTy Tryz.prog 222 9 = some (220, 9) := by kernel_rfl
theorem off_222_10 : fieldOff Tryz.prog 222 10 = some 10 := by kernel_rfl
theorem fty_222_10 : fieldTy Tryz.prog 222 10 = some (221, 10) := by kernel_rfl
theorem agg_223 : isAggT Tryz.prog 223 = some true := by kernel_rfl
theorem size_223 : sizeT Tryz.prog 223 = some 11 := by kernel_rfl
theorem zero_223 : zeroD Tryz.prog 223 = some [.int .u64 0, .int .u64 0, .int .u32 0, .int .u8 0, .int .u8 0, .int .u8 0, .int .u8 0, .nilf, .nilp, .int .i32 0, .int .i32 0] := by kernel_rfl
theorem place_223 : placesT Tryz.prog 223 = some [(0, 1), (1, 1), (2, 1), (3, 1), (4, 1), (5, 1), (6, 1), (7, 1), (8, 1), (9, 1), (10, 1)] := by kernel_rfl
theorem off_223_0 : fieldOff Tryz.prog 223 0 = some 0 := by kernel_rfl
theorem fty_223_0 : fieldTy Tryz.prog 223 0 = some (12, 0) := by kernel_rfl
theorem off_223_1 : fieldOff Tryz.prog 223 1 = some 1 := by kernel_rfl
theorem fty_223_1 : fieldTy Tryz.prog 223 1 = some (12, 1) := by kernel_rfl
theorem off_223_2 : fieldOff Tryz.prog 223 2 = some 2 := by kernel_rfl
theorem fty_223_2 : fieldTy Tryz.prog 223 2 = some (215, 2) := by kernel_rfl
theorem off_223_3 : fieldOff Tryz.prog 223 3 = some 3 := by kernel_rfl
theorem fty_223_3 : fieldTy Tryz.prog 223 3 = some (216, 3) := by kernel_rfl
theorem off_223_4 : fieldOff Tryz.prog 223 4 = some 4 := by kernel_rfl
theorem fty_223_4 : fieldTy Tryz.prog 223 4 = some (5, 4) := by kernel_rfl
theorem off_223_5 : fieldOff Tryz.prog 223 5 = some 5 := by kernel_rfl
theorem fty_223_5 : fieldTy Tryz.prog 223 5 = some (5, 5) := by kernel_rfl
theorem off_223_6 : fieldOff Tryz.prog 223 6 = some 6 := by kernel_rfl
theorem fty_223_6 : fieldTy Tryz.prog 223 6 = some (217, 6) := by kernel_rfl
theorem off_223_7 : fieldOff Tryz.prog 223 7 = some 7 := by kernel_rfl
theorem fty_223_7 : fieldTy Tryz.prog 223 7 = some (218, 7) := by kernel_rfl
theorem off_223_8 : fieldOff Tryz.prog 223 8 = some 8 := by kernel_rfl
theorem fty_223_8 : fieldTy Tryz.prog 223 8 = some (219, 8) := by kernel_rfl
theorem off_223_9 : fieldOff Tryz.prog 223 9 = some 9 := by kernel_rfl
theorem fty_223_9 : fieldTy Tryz.prog 223 9 = some (220, 9) := by kernel_rfl
theorem off_223_10 : fieldOff Tryz.prog 223 10 = some 10 := by kernel_rfl
theorem fty_223_10 : fieldTy Tryz.prog 223 10 = some (221, 10) := by kernel_rfl
theorem agg_224 : isAggT Tryz.prog 224 = some false := by kernel_rfl
theorem size_224 : sizeT Tryz.prog 224 = some 1 := by kernel_rfl
theorem zero_224 : zeroD Tryz.prog 224 = some [.nilp] := by kernel_rfl
end Go.Sx.Fz
