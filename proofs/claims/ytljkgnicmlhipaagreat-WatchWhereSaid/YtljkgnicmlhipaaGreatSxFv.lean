/- Facts of types, printed by program (FactsGen.lean). -/
import Derived.Test.YtljkgnicmlhipaaGreatSxMc
import Derived.Test.YtljkgnicmlhipaaGreatProg
set_option linter.unusedVariables false
set_option linter.unusedSimpArgs false
namespace Go.Sx.Fz
open Go.Proofs
theorem agg_0 : isAggT Tryz.prog 0 = some false := by kernel_rfl
theorem size_0 : sizeT Tryz.prog 0 = some 1 := by kernel_rfl
theorem agg_1 : isAggT Tryz.prog 1 = some false := by kernel_rfl
theorem size_1 : sizeT Tryz.prog 1 = some 1 := by kernel_rfl
theorem zero_1 : zeroD Tryz.prog 1 = some [.nilf] := by kernel_rfl
theorem agg_2 : isAggT Tryz.prog 2 = some false := by kernel_rfl
theorem size_2 : sizeT Tryz.prog 2 = some 1 := by kernel_rfl
theorem zero_2 : zeroD Tryz.prog 2 = some [.int .i64 0] := by kernel_rfl
theorem agg_3 : isAggT Tryz.prog 3 = some false := by kernel_rfl
theorem size_3 : sizeT Tryz.prog 3 = some 1 := by kernel_rfl
theorem zero_3 : zeroD Tryz.prog 3 = some [.int .i64 0] := by kernel_rfl
theorem und_3 : Tryz.prog.underlying 3 = some (.int .i64) := by kernel_rfl
theorem agg_4 : isAggT Tryz.prog 4 = some false := by kernel_rfl
theorem size_4 : sizeT Tryz.prog 4 = some 1 := by kernel_rfl
theorem zero_4 : zeroD Tryz.prog 4 = some [.bool false] := by kernel_rfl
theorem und_4 : Tryz.prog.underlying 4 = some (.bool) := by kernel_rfl
theorem agg_5 : isAggT Tryz.prog 5 = some false := by kernel_rfl
theorem size_5 : sizeT Tryz.prog 5 = some 1 := by kernel_rfl
theorem zero_5 : zeroD Tryz.prog 5 = some [.int .u8 0] := by kernel_rfl
theorem und_5 : Tryz.prog.underlying 5 = some (.int .u8) := by kernel_rfl
theorem agg_6 : isAggT Tryz.prog 6 = some false := by kernel_rfl
theorem size_6 : sizeT Tryz.prog 6 = some 1 := by kernel_rfl
theorem zero_6 : zeroD Tryz.prog 6 = some [.int .u8 0] := by kernel_rfl
theorem agg_7 : isAggT Tryz.prog 7 = some true := by kernel_rfl
theorem size_7 : sizeT Tryz.prog 7 = some 4 := by kernel_rfl
theorem zero_7 : zeroD Tryz.prog 7 = some [.int .i64 0, .int .i64 0, .bool false, .int .u8 0] := by kernel_rfl
theorem place_7 : placesT Tryz.prog 7 = some [(0, 1), (1, 1), (2, 1), (3, 1)] := by kernel_rfl
theorem off_7_0 : fieldOff Tryz.prog 7 0 = some 0 := by kernel_rfl
theorem fty_7_0 : fieldTy Tryz.prog 7 0 = some (2, 0) := by kernel_rfl
theorem off_7_1 : fieldOff Tryz.prog 7 1 = some 1 := by kernel_rfl
theorem fty_7_1 : fieldTy Tryz.prog 7 1 = some (3, 1) := by kernel_rfl
theorem off_7_2 : fieldOff Tryz.prog 7 2 = some 2 := by kernel_rfl
theorem fty_7_2 : fieldTy Tryz.prog 7 2 = some (4, 2) := by kernel_rfl
theorem off_7_3 : fieldOff Tryz.prog 7 3 = some 3 := by kernel_rfl
theorem fty_7_3 : fieldTy Tryz.prog 7 3 = some (6, 3) := by kernel_rfl
theorem agg_8 : isAggT Tryz.prog 8 = some true := by kernel_rfl
theorem size_8 : sizeT Tryz.prog 8 = some 4 := by kernel_rfl
theorem zero_8 : zeroD Tryz.prog 8 = some [.int .i64 0, .int .i64 0, .bool false, .int .u8 0] := by kernel_rfl
theorem place_8 : placesT Tryz.prog 8 = some [(0, 1), (1, 1), (2, 1), (3, 1)] := by kernel_rfl
theorem off_8_0 : fieldOff Tryz.prog 8 0 = some 0 := by kernel_rfl
theorem fty_8_0 : fieldTy Tryz.prog 8 0 = some (2, 0) := by kernel_rfl
theorem off_8_1 : fieldOff Tryz.prog 8 1 = some 1 := by kernel_rfl
theorem fty_8_1 : fieldTy Tryz.prog 8 1 = some (3, 1) := by kernel_rfl
theorem off_8_2 : fieldOff Tryz.prog 8 2 = some 2 := by kernel_rfl
theorem fty_8_2 : fieldTy Tryz.prog 8 2 = some (4, 2) := by kernel_rfl
theorem off_8_3 : fieldOff Tryz.prog 8 3 = some 3 := by kernel_rfl
theorem fty_8_3 : fieldTy Tryz.prog 8 3 = some (6, 3) := by kernel_rfl
theorem agg_9 : isAggT Tryz.prog 9 = some false := by kernel_rfl
theorem size_9 : sizeT Tryz.prog 9 = some 1 := by kernel_rfl
theorem zero_9 : zeroD Tryz.prog 9 = some [.str ByteArray.empty] := by kernel_rfl
theorem und_9 : Tryz.prog.underlying 9 = some (.string) := by kernel_rfl
theorem agg_10 : isAggT Tryz.prog 10 = some false := by kernel_rfl
theorem size_10 : sizeT Tryz.prog 10 = some 1 := by kernel_rfl
theorem zero_10 : zeroD Tryz.prog 10 = some [.str ByteArray.empty] := by kernel_rfl
theorem und_10 : Tryz.prog.underlying 10 = some (.string) := by kernel_rfl
theorem agg_11 : isAggT Tryz.prog 11 = some false := by kernel_rfl
theorem size_11 : sizeT Tryz.prog 11 = some 1 := by kernel_rfl
theorem zero_11 : zeroD Tryz.prog 11 = some [.str ByteArray.empty] := by kernel_rfl
theorem und_11 : Tryz.prog.underlying 11 = some (.string) := by kernel_rfl
theorem agg_12 : isAggT Tryz.prog 12 = some false := by kernel_rfl
theorem size_12 : sizeT Tryz.prog 12 = some 1 := by kernel_rfl
theorem zero_12 : zeroD Tryz.prog 12 = some [.int .u64 0] := by kernel_rfl
theorem agg_13 : isAggT Tryz.prog 13 = some true := by kernel_rfl
theorem size_13 : sizeT Tryz.prog 13 = some 2 := by kernel_rfl
theorem zero_13 : zeroD Tryz.prog 13 = some [.str ByteArray.empty, .int .u64 0] := by kernel_rfl
theorem place_13 : placesT Tryz.prog 13 = some [(0, 1), (1, 1)] := by kernel_rfl
theorem off_13_0 : fieldOff Tryz.prog 13 0 = some 0 := by kernel_rfl
theorem fty_13_0 : fieldTy Tryz.prog 13 0 = some (9, 0) := by kernel_rfl
theorem off_13_1 : fieldOff Tryz.prog 13 1 = some 1 := by kernel_rfl
theorem fty_13_1 : fieldTy Tryz.prog 13 1 = some (12, 1) := by kernel_rfl
theorem agg_14 : isAggT Tryz.prog 14 = some true := by kernel_rfl
theorem size_14 : sizeT Tryz.prog 14 = some 2 := by kernel_rfl
theorem zero_14 : zeroD Tryz.prog 14 = some [.str ByteArray.empty, .int .u64 0] := by kernel_rfl
theorem place_14 : placesT Tryz.prog 14 = some [(0, 1), (1, 1)] := by kernel_rfl
theorem off_14_0 : fieldOff Tryz.prog 14 0 = some 0 := by kernel_rfl
theorem fty_14_0 : fieldTy Tryz.prog 14 0 = some (9, 0) := by kernel_rfl
theorem off_14_1 : fieldOff Tryz.prog 14 1 = some 1 := by kernel_rfl
theorem fty_14_1 : fieldTy Tryz.prog 14 1 = some (12, 1) := by kernel_rfl
theorem agg_15 : isAggT Tryz.prog 15 = some false := by kernel_rfl
theorem size_15 : sizeT Tryz.prog 15 = some 1 := by kernel_rfl
theorem zero_15 : zeroD Tryz.prog 15 = some [.nilp] := by kernel_rfl
theorem agg_16 : isAggT Tryz.prog 16 = some false := by kernel_rfl
theorem size_16 : sizeT Tryz.prog 16 = some 1 := by kernel_rfl
theorem zero_16 : zeroD Tryz.prog 16 = some [.nilp] := by kernel_rfl
theorem agg_17 : isAggT Tryz.prog 17 = some false := by kernel_rfl
theorem size_17 : sizeT Tryz.prog 17 = some 1 := by kernel_rfl
theorem zero_17 : zeroD Tryz.prog 17 = some [.nilp] := by kernel_rfl
theorem agg_18 : isAggT Tryz.prog 18 = some true := by kernel_rfl
theorem size_18 : sizeT Tryz.prog 18 = some 1 := by kernel_rfl
theorem zero_18 : zeroD Tryz.prog 18 = some [.nilp] := by kernel_rfl
theorem place_18 : placesT Tryz.prog 18 = some [(0, 1)] := by kernel_rfl
theorem off_18_0 : fieldOff Tryz.prog 18 0 = some 0 := by kernel_rfl
theorem fty_18_0 : fieldTy Tryz.prog 18 0 = some (17, 0) := by kernel_rfl
theorem agg_19 : isAggT Tryz.prog 19 = some true := by kernel_rfl
theorem size_19 : sizeT Tryz.prog 19 = some 1 := by kernel_rfl
theorem zero_19 : zeroD Tryz.prog 19 = some [.nilp] := by kernel_rfl
theorem place_19 : placesT Tryz.prog 19 = some [(0, 1)] := by kernel_rfl
theorem off_19_0 : fieldOff Tryz.prog 19 0 = some 0 := by kernel_rfl
theorem fty_19_0 : fieldTy Tryz.prog 19 0 = some (17, 0) := by kernel_rfl
theorem agg_20 : isAggT Tryz.prog 20 = some false := by kernel_rfl
theorem size_20 : sizeT Tryz.prog 20 = some 1 := by kernel_rfl
theorem zero_20 : zeroD Tryz.prog 20 = some [.nili] := by kernel_rfl
theorem agg_21 : isAggT Tryz.prog 21 = some false := by kernel_rfl
theorem size_21 : sizeT Tryz.prog 21 = some 1 := by kernel_rfl
theorem zero_21 : zeroD Tryz.prog 21 = some [.int .i32 0] := by kernel_rfl
theorem agg_22 : isAggT Tryz.prog 22 = some false := by kernel_rfl
theorem size_22 : sizeT Tryz.prog 22 = some 1 := by kernel_rfl
theorem zero_22 : zeroD Tryz.prog 22 = some [.nils] := by kernel_rfl
theorem und_22 : Tryz.prog.underlying 22 = some (.slice 4) := by kernel_rfl
theorem agg_23 : isAggT Tryz.prog 23 = some true := by kernel_rfl
theorem size_23 : sizeT Tryz.prog 23 = some 3 := by kernel_rfl
theorem zero_23 : zeroD Tryz.prog 23 = some [.int .i64 0, .int .i64 0, .nils] := by kernel_rfl
theorem place_23 : placesT Tryz.prog 23 = some [(0, 1), (1, 1), (2, 1)] := by kernel_rfl
theorem off_23_0 : fieldOff Tryz.prog 23 0 = some 0 := by kernel_rfl
theorem fty_23_0 : fieldTy Tryz.prog 23 0 = some (3, 0) := by kernel_rfl
theorem off_23_1 : fieldOff Tryz.prog 23 1 = some 1 := by kernel_rfl
theorem fty_23_1 : fieldTy Tryz.prog 23 1 = some (3, 1) := by kernel_rfl
theorem off_23_2 : fieldOff Tryz.prog 23 2 = some 2 := by kernel_rfl
theorem fty_23_2 : fieldTy Tryz.prog 23 2 = some (22, 2) := by kernel_rfl
theorem agg_24 : isAggT Tryz.prog 24 = some true := by kernel_rfl
theorem size_24 : sizeT Tryz.prog 24 = some 3 := by kernel_rfl
theorem zero_24 : zeroD Tryz.prog 24 = some [.int .i64 0, .int .i64 0, .nils] := by kernel_rfl
theorem place_24 : placesT Tryz.prog 24 = some [(0, 1), (1, 1), (2, 1)] := by kernel_rfl
theorem off_24_0 : fieldOff Tryz.prog 24 0 = some 0 := by kernel_rfl
theorem fty_24_0 : fieldTy Tryz.prog 24 0 = some (3, 0) := by kernel_rfl
theorem off_24_1 : fieldOff Tryz.prog 24 1 = some 1 := by kernel_rfl
theorem fty_24_1 : fieldTy Tryz.prog 24 1 = some (3, 1) := by kernel_rfl
theorem off_24_2 : fieldOff Tryz.prog 24 2 = some 2 := by kernel_rfl
theorem fty_24_2 : fieldTy Tryz.prog 24 2 = some (22, 2) := by kernel_rfl
theorem agg_25 : isAggT Tryz.prog 25 = some false := by kernel_rfl
theorem size_25 : sizeT Tryz.prog 25 = some 1 := by kernel_rfl
theorem zero_25 : zeroD Tryz.prog 25 = some [.nils] := by kernel_rfl
theorem und_25 : Tryz.prog.underlying 25 = some (.slice 82) := by kernel_rfl
theorem agg_26 : isAggT Tryz.prog 26 = some false := by kernel_rfl
theorem size_26 : sizeT Tryz.prog 26 = some 1 := by kernel_rfl
theorem zero_26 : zeroD Tryz.prog 26 = some [.nils] := by kernel_rfl
theorem und_26 : Tryz.prog.underlying 26 = some (.slice 84) := by kernel_rfl
theorem agg_27 : isAggT Tryz.prog 27 = some true := by kernel_rfl
theorem size_27 : sizeT Tryz.prog 27 = some 2 := by kernel_rfl
theorem zero_27 : zeroD Tryz.prog 27 = some [.nils, .nils] := by kernel_rfl
theorem place_27 : placesT Tryz.prog 27 = some [(0, 1), (1, 1)] := by kernel_rfl
theorem off_27_0 : fieldOff Tryz.prog 27 0 = some 0 := by kernel_rfl
theorem fty_27_0 : fieldTy Tryz.prog 27 0 = some (25, 0) := by kernel_rfl
theorem off_27_1 : fieldOff Tryz.prog 27 1 = some 1 := by kernel_rfl
theorem fty_27_1 : fieldTy Tryz.prog 27 1 = some (26, 1) := by kernel_rfl
theorem agg_28 : isAggT Tryz.prog 28 = some true := by kernel_rfl
theorem size_28 : sizeT Tryz.prog 28 = some 2 := by kernel_rfl
theorem zero_28 : zeroD Tryz.prog 28 = some [.nils, .nils] := by kernel_rfl
theorem place_28 : placesT Tryz.prog 28 = some [(0, 1), (1, 1)] := by kernel_rfl
theorem off_28_0 : fieldOff Tryz.prog 28 0 = some 0 := by kernel_rfl
theorem fty_28_0 : fieldTy Tryz.prog 28 0 = some (25, 0) := by kernel_rfl
theorem off_28_1 : fieldOff Tryz.prog 28 1 = some 1 := by kernel_rfl
theorem fty_28_1 : fieldTy Tryz.prog 28 1 = some (26, 1) := by kernel_rfl
theorem agg_29 : isAggT Tryz.prog 29 = some false := by kernel_rfl
theorem size_29 : sizeT Tryz.prog 29 = some 1 := by kernel_rfl
theorem zero_29 : zeroD Tryz.prog 29 = some [.nils] := by kernel_rfl
theorem und_29 : Tryz.prog.underlying 29 = some (.slice 3) := by kernel_rfl
theorem bytes_3_29 : Tryz.prog.bytesOf 3 = 8 := by kernel_rfl
theorem agg_30 : isAggT Tryz.prog 30 = some true := by kernel_rfl
theorem size_30 : sizeT Tryz.prog 30 = some 10 := by kernel_rfl
theorem zero_30 : zeroD Tryz.prog 30 = some [.int .i64 0, .int .i64 0, .nils, .nils, .nils, .int .i64 0, .int .i64 0, .int .i64 0, .int .i64 0, .nils] := by kernel_rfl
theorem place_30 : placesT Tryz.prog 30 = some [(0, 3), (3, 2), (5, 1), (6, 1), (7, 1), (8, 1), (9, 1)] := by kernel_rfl
theorem off_30_0 : fieldOff Tryz.prog 30 0 = some 0 := by kernel_rfl
theorem fty_30_0 : fieldTy Tryz.prog 30 0 = some (24, 0) := by kernel_rfl
theorem off_30_1 : fieldOff Tryz.prog 30 1 = some 3 := by kernel_rfl
theorem fty_30_1 : fieldTy Tryz.prog 30 1 = some (28, 3) := by kernel_rfl
theorem off_30_2 : fieldOff Tryz.prog 30 2 = some 5 := by kernel_rfl
theorem fty_30_2 : fieldTy Tryz.prog 30 2 = some (3, 5) := by kernel_rfl
theorem off_30_3 : fieldOff Tryz.prog 30 3 = some 6 := by kernel_rfl
theorem fty_30_3 : fieldTy Tryz.prog 30 3 = some (3, 6) := by kernel_rfl
theorem off_30_4 : fieldOff Tryz.prog 30 4 = some 7 := by kernel_rfl
theorem fty_30_4 : fieldTy Tryz.prog 30 4 = some (3, 7) := by kernel_rfl
theorem off_30_5 : fieldOff Tryz.prog 30 5 = some 8 := by kernel_rfl
theorem fty_30_5 : fieldTy Tryz.prog 30 5 = some (3, 8) := by kernel_rfl
theorem off_30_6 : fieldOff Tryz.prog 30 6 = some 9 := by kernel_rfl
theorem fty_30_6 : fieldTy Tryz.prog 30 6 = some (29, 9) := by kernel_rfl
theorem agg_31 : isAggT Tryz.prog 31 = some true := by kernel_rfl
theorem size_31 : sizeT Tryz.prog 31 = some 10 := by kernel_rfl
theorem zero_31 : zeroD Tryz.prog 31 = some [.int .i64 0, .int .i64 0, .nils, .nils, .nils, .int .i64 0, .int .i64 0, .int .i64 0, .int .i64 0, .nils] := by kernel_rfl
theorem place_31 : placesT Tryz.prog 31 = some [(0, 3), (3, 2), (5, 1), (6, 1), (7, 1), (8, 1), (9, 1)] := by kernel_rfl
theorem off_31_0 : fieldOff Tryz.prog 31 0 = some 0 := by kernel_rfl
theorem fty_31_0 : fieldTy Tryz.prog 31 0 = some (24, 0) := by kernel_rfl
theorem off_31_1 : fieldOff Tryz.prog 31 1 = some 3 := by kernel_rfl
theorem fty_31_1 : fieldTy Tryz.prog 31 1 = some (28, 3) := by kernel_rfl
theorem off_31_2 : fieldOff Tryz.prog 31 2 = some 5 := by kernel_rfl
theorem fty_31_2 : fieldTy Tryz.prog 31 2 = some (3, 5) := by kernel_rfl
theorem off_31_3 : fieldOff Tryz.prog 31 3 = some 6 := by kernel_rfl
theorem fty_31_3 : fieldTy Tryz.prog 31 3 = some (3, 6) := by kernel_rfl
theorem off_31_4 : fieldOff Tryz.prog 31 4 = some 7 := by kernel_rfl
theorem fty_31_4 : fieldTy Tryz.prog 31 4 = some (3, 7) := by kernel_rfl
theorem off_31_5 : fieldOff Tryz.prog 31 5 = some 8 := by kernel_rfl
theorem fty_31_5 : fieldTy Tryz.prog 31 5 = some (3, 8) := by kernel_rfl
theorem off_31_6 : fieldOff Tryz.prog 31 6 = some 9 := by kernel_rfl
theorem fty_31_6 : fieldTy Tryz.prog 31 6 = some (29, 9) := by kernel_rfl
theorem agg_32 : isAggT Tryz.prog 32 = some false := by kernel_rfl
theorem size_32 : sizeT Tryz.prog 32 = some 1 := by kernel_rfl
theorem zero_32 : zeroD Tryz.prog 32 = some [.nils] := by kernel_rfl
theorem und_32 : Tryz.prog.underlying 32 = some (.slice 61) := by kernel_rfl
theorem bytes_61_32 : Tryz.prog.bytesOf 61 = 32 := by kernel_rfl
theorem agg_33 : isAggT Tryz.prog 33 = some false := by kernel_rfl
theorem size_33 : sizeT Tryz.prog 33 = some 1 := by kernel_rfl
theorem zero_33 : zeroD Tryz.prog 33 = some [.nilf] := by kernel_rfl
theorem agg_34 : isAggT Tryz.prog 34 = some false := by kernel_rfl
theorem size_34 : sizeT Tryz.prog 34 = some 1 := by kernel_rfl
theorem zero_34 : zeroD Tryz.prog 34 = some [.nilf] := by kernel_rfl
theorem agg_35 : isAggT Tryz.prog 35 = some false := by kernel_rfl
theorem size_35 : sizeT Tryz.prog 35 = some 1 := by kernel_rfl
theorem zero_35 : zeroD Tryz.prog 35 = some [.int .i64 0] := by kernel_rfl
theorem agg_36 : isAggT Tryz.prog 36 = some false := by kernel_rfl
theorem size_36 : sizeT Tryz.prog 36 = some 1 := by kernel_rfl
theorem agg_37 : isAggT Tryz.prog 37 = some false := by kernel_rfl
theorem size_37 : sizeT Tryz.prog 37 = some 1 := by kernel_rfl
theorem zero_37 : zeroD Tryz.prog 37 = some [.nilf] := by kernel_rfl
theorem agg_38 : isAggT Tryz.prog 38 = some false := by kernel_rfl
theorem size_38 : sizeT Tryz.prog 38 = some 1 := by kernel_rfl
theorem zero_38 : zeroD Tryz.prog 38 = some [.nilf] := by kernel_rfl
theorem agg_39 : isAggT Tryz.prog 39 = some false := by kernel_rfl
theorem size_39 : sizeT Tryz.prog 39 = some 1 := by kernel_rfl
theorem agg_40 : isAggT Tryz.prog 40 = some false := by kernel_rfl
theorem size_40 : sizeT Tryz.prog 40 = some 1 := by kernel_rfl
theorem zero_40 : zeroD Tryz.prog 40 = some [.nilf] := by kernel_rfl
theorem agg_41 : isAggT Tryz.prog 41 = some false := by kernel_rfl
theorem size_41 : sizeT Tryz.prog 41 = some 1 := by kernel_rfl
theorem zero_41 : zeroD Tryz.prog 41 = some [.nilf] := by kernel_rfl
theorem agg_42 : isAggT Tryz.prog 42 = some false := by kernel_rfl
theorem size_42 : sizeT Tryz.prog 42 = some 1 := by kernel_rfl
theorem zero_42 : zeroD Tryz.prog 42 = some [.nilf] := by kernel_rfl
theorem agg_43 : isAggT Tryz.prog 43 = some true := by kernel_rfl
theorem size_43 : sizeT Tryz.prog 43 = some 2 := by kernel_rfl
theorem zero_43 : zeroD Tryz.prog 43 = some [.int .i64 0, .bool false] := by kernel_rfl
theorem place_43 : placesT Tryz.prog 43 = some [(0, 1), (1, 1)] := by kernel_rfl
theorem off_43_0 : fieldOff Tryz.prog 43 0 = some 0 := by kernel_rfl
theorem fty_43_0 : fieldTy Tryz.prog 43 0 = some (3, 0) := by kernel_rfl
theorem off_43_1 : fieldOff Tryz.prog 43 1 = some 1 := by kernel_rfl
theorem fty_43_1 : fieldTy Tryz.prog 43 1 = some (4, 1) := by kernel_rfl
theorem agg_44 : isAggT Tryz.prog 44 = some true := by kernel_rfl
theorem size_44 : sizeT Tryz.prog 44 = some 2 := by kernel_rfl
theorem zero_44 : zeroD Tryz.prog 44 = some [.int .i64 0, .bool false] := by kernel_rfl
theorem place_44 : placesT Tryz.prog 44 = some [(0, 1), (1, 1)] := by kernel_rfl
theorem off_44_0 : fieldOff Tryz.prog 44 0 = some 0 := by kernel_rfl
theorem fty_44_0 : fieldTy Tryz.prog 44 0 = some (3, 0) := by kernel_rfl
theorem off_44_1 : fieldOff Tryz.prog 44 1 = some 1 := by kernel_rfl
theorem fty_44_1 : fieldTy Tryz.prog 44 1 = some (4, 1) := by kernel_rfl
theorem agg_45 : isAggT Tryz.prog 45 = some false := by kernel_rfl
theorem size_45 : sizeT Tryz.prog 45 = some 1 := by kernel_rfl
theorem zero_45 : zeroD Tryz.prog 45 = some [.nils] := by kernel_rfl
theorem und_45 : Tryz.prog.underlying 45 = some (.slice 44) := by kernel_rfl
theorem agg_46 : isAggT Tryz.prog 46 = some false := by kernel_rfl
theorem size_46 : sizeT Tryz.prog 46 = some 1 := by kernel_rfl
theorem zero_46 : zeroD Tryz.prog 46 = some [.nils] := by kernel_rfl
theorem und_46 : Tryz.prog.underlying 46 = some (.slice 45) := by kernel_rfl
theorem agg_47 : isAggT Tryz.prog 47 = some false := by kernel_rfl
theorem size_47 : sizeT Tryz.prog 47 = some 1 := by kernel_rfl
theorem zero_47 : zeroD Tryz.prog 47 = some [.nilf] := by kernel_rfl
theorem agg_48 : isAggT Tryz.prog 48 = some false := by kernel_rfl
theorem size_48 : sizeT Tryz.prog 48 = some 1 := by kernel_rfl
theorem zero_48 : zeroD Tryz.prog 48 = some [.nilf] := by kernel_rfl
theorem agg_49 : isAggT Tryz.prog 49 = some false := by kernel_rfl
theorem size_49 : sizeT Tryz.prog 49 = some 1 := by kernel_rfl
theorem zero_49 : zeroD Tryz.prog 49 = some [.nilf] := by kernel_rfl
theorem agg_50 : isAggT Tryz.prog 50 = some false := by kernel_rfl
theorem size_50 : sizeT Tryz.prog 50 = some 1 := by kernel_rfl
theorem agg_51 : isAggT Tryz.prog 51 = some false := by kernel_rfl
theorem size_51 : sizeT Tryz.prog 51 = some 1 := by kernel_rfl
theorem zero_51 : zeroD Tryz.prog 51 = some [.nilf] := by kernel_rfl
theorem agg_52 : isAggT Tryz.prog 52 = some false := by kernel_rfl
theorem size_52 : sizeT Tryz.prog 52 = some 1 := by kernel_rfl
theorem zero_52 : zeroD Tryz.prog 52 = some [.nilf] := by kernel_rfl
theorem agg_53 : isAggT Tryz.prog 53 = some false := by kernel_rfl
theorem size_53 : sizeT Tryz.prog 53 = some 1 := by kernel_rfl
theorem zero_53 : zeroD Tryz.prog 53 = some [.nilf] := by kernel_rfl
theorem agg_54 : isAggT Tryz.prog 54 = some false := by kernel_rfl
theorem size_54 : sizeT Tryz.prog 54 = some 1 := by kernel_rfl
theorem agg_55 : isAggT Tryz.prog 55 = some false := by kernel_rfl
theorem size_55 : sizeT Tryz.prog 55 = some 1 := by kernel_rfl
theorem zero_55 : zeroD Tryz.prog 55 = some [.nilf] := by kernel_rfl
theorem agg_56 : isAggT Tryz.prog 56 = some false := by kernel_rfl
theorem size_56 : sizeT Tryz.prog 56 = some 1 := by kernel_rfl
theorem zero_56 : zeroD Tryz.prog 56 = some [.nilf] := by kernel_rfl
theorem agg_57 : isAggT Tryz.prog 57 = some false := by kernel_rfl
theorem size_57 : sizeT Tryz.prog 57 = some 1 := by kernel_rfl
theorem zero_57 : zeroD Tryz.prog 57 = some [.nils] := by kernel_rfl
theorem und_57 : Tryz.prog.underlying 57 = some (.slice 66) := by kernel_rfl
theorem bytes_66_57 : Tryz.prog.bytesOf 66 = 16 := by kernel_rfl
theorem agg_58 : isAggT Tryz.prog 58 = some false := by kernel_rfl
theorem size_58 : sizeT Tryz.prog 58 = some 1 := by kernel_rfl
theorem agg_59 : isAggT Tryz.prog 59 = some false := by kernel_rfl
theorem size_59 : sizeT Tryz.prog 59 = some 1 := by kernel_rfl
theorem zero_59 : zeroD Tryz.prog 59 = some [.nilf] := by kernel_rfl
theorem agg_60 : isAggT Tryz.prog 60 = some true := by kernel_rfl
theorem size_60 : sizeT Tryz.prog 60 = some 4 := by kernel_rfl
theorem zero_60 : zeroD Tryz.prog 60 = some [.int .i64 0, .int .i64 0, .bool false, .int .i64 0] := by kernel_rfl
theorem place_60 : placesT Tryz.prog 60 = some [(0, 1), (1, 1), (2, 1), (3, 1)] := by kernel_rfl
theorem off_60_0 : fieldOff Tryz.prog 60 0 = some 0 := by kernel_rfl
theorem fty_60_0 : fieldTy Tryz.prog 60 0 = some (3, 0) := by kernel_rfl
theorem off_60_1 : fieldOff Tryz.prog 60 1 = some 1 := by kernel_rfl
theorem fty_60_1 : fieldTy Tryz.prog 60 1 = some (3, 1) := by kernel_rfl
theorem off_60_2 : fieldOff Tryz.prog 60 2 = some 2 := by kernel_rfl
theorem fty_60_2 : fieldTy Tryz.prog 60 2 = some (4, 2) := by kernel_rfl
theorem off_60_3 : fieldOff Tryz.prog 60 3 = some 3 := by kernel_rfl
theorem fty_60_3 : fieldTy Tryz.prog 60 3 = some (3, 3) := by kernel_rfl
theorem agg_61 : isAggT Tryz.prog 61 = some true := by kernel_rfl
theorem size_61 : sizeT Tryz.prog 61 = some 4 := by kernel_rfl
theorem zero_61 : zeroD Tryz.prog 61 = some [.int .i64 0, .int .i64 0, .bool false, .int .i64 0] := by kernel_rfl
theorem place_61 : placesT Tryz.prog 61 = some [(0, 1), (1, 1), (2, 1), (3, 1)] := by kernel_rfl
theorem off_61_0 : fieldOff Tryz.prog 61 0 = some 0 := by kernel_rfl
theorem fty_61_0 : fieldTy Tryz.prog 61 0 = some (3, 0) := by kernel_rfl
theorem off_61_1 : fieldOff Tryz.prog 61 1 = some 1 := by kernel_rfl
theorem fty_61_1 : fieldTy Tryz.prog 61 1 = some (3, 1) := by kernel_rfl
theorem off_61_2 : fieldOff Tryz.prog 61 2 = some 2 := by kernel_rfl
theorem fty_61_2 : fieldTy Tryz.prog 61 2 = some (4, 2) := by kernel_rfl
theorem off_61_3 : fieldOff Tryz.prog 61 3 = some 3 := by kernel_rfl
theorem fty_61_3 : fieldTy Tryz.prog 61 3 = some (3, 3) := by kernel_rfl
theorem agg_62 : isAggT Tryz.prog 62 = some false := by kernel_rfl
theorem size_62 : sizeT Tryz.prog 62 = some 1 := by kernel_rfl
theorem agg_63 : isAggT Tryz.prog 63 = some false := by kernel_rfl
theorem size_63 : sizeT Tryz.prog 63 = some 1 := by kernel_rfl
theorem zero_63 : zeroD Tryz.prog 63 = some [.nilf] := by kernel_rfl
theorem agg_64 : isAggT Tryz.prog 64 = some false := by kernel_rfl
theorem size_64 : sizeT Tryz.prog 64 = some 1 := by kernel_rfl
theorem zero_64 : zeroD Tryz.prog 64 = some [.nilf] := by kernel_rfl
theorem agg_65 : isAggT Tryz.prog 65 = some true := by kernel_rfl
theorem size_65 : sizeT Tryz.prog 65 = some 2 := by kernel_rfl
theorem zero_65 : zeroD Tryz.prog 65 = some [.int .i64 0, .int .i64 0] := by kernel_rfl
theorem place_65 : placesT Tryz.prog 65 = some [(0, 1), (1, 1)] := by kernel_rfl
theorem off_65_0 : fieldOff Tryz.prog 65 0 = some 0 := by kernel_rfl
theorem fty_65_0 : fieldTy Tryz.prog 65 0 = some (3, 0) := by kernel_rfl
theorem off_65_1 : fieldOff Tryz.prog 65 1 = some 1 := by kernel_rfl
theorem fty_65_1 : fieldTy Tryz.prog 65 1 = some (3, 1) := by kernel_rfl
theorem agg_66 : isAggT Tryz.prog 66 = some true := by kernel_rfl
theorem size_66 : sizeT Tryz.prog 66 = some 2 := by kernel_rfl
theorem zero_66 : zeroD Tryz.prog 66 = some [.int .i64 0, .int .i64 0] := by kernel_rfl
theorem place_66 : placesT Tryz.prog 66 = some [(0, 1), (1, 1)] := by kernel_rfl
theorem off_66_0 : fieldOff Tryz.prog 66 0 = some 0 := by kernel_rfl
theorem fty_66_0 : fieldTy Tryz.prog 66 0 = some (3, 0) := by kernel_rfl
theorem off_66_1 : fieldOff Tryz.prog 66 1 = some 1 := by kernel_rfl
theorem fty_66_1 : fieldTy Tryz.prog 66 1 = some (3, 1) := by kernel_rfl
theorem agg_67 : isAggT Tryz.prog 67 = some false := by kernel_rfl
theorem size_67 : sizeT Tryz.prog 67 = some 1 := by kernel_rfl
theorem zero_67 : zeroD Tryz.prog 67 = some [.nilp] := by kernel_rfl
theorem agg_68 : isAggT Tryz.prog 68 = some false := by kernel_rfl
theorem size_68 : sizeT Tryz.prog 68 = some 1 := by kernel_rfl
theorem zero_68 : zeroD Tryz.prog 68 = some [.nilp] := by kernel_rfl
theorem agg_69 : isAggT Tryz.prog 69 = some false := by kernel_rfl
theorem size_69 : sizeT Tryz.prog 69 = some 1 := by kernel_rfl
theorem zero_69 : zeroD Tryz.prog 69 = some [.nilf] := by kernel_rfl
theorem agg_70 : isAggT Tryz.prog 70 = some false := by kernel_rfl
theorem size_70 : sizeT Tryz.prog 70 = some 1 := by kernel_rfl
theorem zero_70 : zeroD Tryz.prog 70 = some [.nilm] := by kernel_rfl
theorem agg_71 : isAggT Tryz.prog 71 = some true := by kernel_rfl
theorem size_71 : sizeT Tryz.prog 71 = some 4 := by kernel_rfl
theorem zero_71 : zeroD Tryz.prog 71 = some [.nilp, .int .i64 0, .nilm, .nilm] := by kernel_rfl
theorem place_71 : placesT Tryz.prog 71 = some [(0, 1), (1, 1), (2, 1), (3, 1)] := by kernel_rfl
theorem off_71_0 : fieldOff Tryz.prog 71 0 = some 0 := by kernel_rfl
theorem fty_71_0 : fieldTy Tryz.prog 71 0 = some (68, 0) := by kernel_rfl
theorem off_71_1 : fieldOff Tryz.prog 71 1 = some 1 := by kernel_rfl
theorem fty_71_1 : fieldTy Tryz.prog 71 1 = some (3, 1) := by kernel_rfl
theorem off_71_2 : fieldOff Tryz.prog 71 2 = some 2 := by kernel_rfl
theorem fty_71_2 : fieldTy Tryz.prog 71 2 = some (70, 2) := by kernel_rfl
theorem off_71_3 : fieldOff Tryz.prog 71 3 = some 3 := by kernel_rfl
theorem fty_71_3 : fieldTy Tryz.prog 71 3 = some (70, 3) := by kernel_rfl
theorem agg_72 : isAggT Tryz.prog 72 = some true := by kernel_rfl
theorem size_72 : sizeT Tryz.prog 72 = some 4 := by kernel_rfl
theorem zero_72 : zeroD Tryz.prog 72 = some [.nilp, .int .i64 0, .nilm, .nilm] := by kernel_rfl
theorem place_72 : placesT Tryz.prog 72 = some [(0, 1), (1, 1), (2, 1), (3, 1)] := by kernel_rfl
theorem off_72_0 : fieldOff Tryz.prog 72 0 = some 0 := by kernel_rfl
theorem fty_72_0 : fieldTy Tryz.prog 72 0 = some (68, 0) := by kernel_rfl
theorem off_72_1 : fieldOff Tryz.prog 72 1 = some 1 := by kernel_rfl
theorem fty_72_1 : fieldTy Tryz.prog 72 1 = some (3, 1) := by kernel_rfl
theorem off_72_2 : fieldOff Tryz.prog 72 2 = some 2 := by kernel_rfl
theorem fty_72_2 : fieldTy Tryz.prog 72 2 = some (70, 2) := by kernel_rfl
theorem off_72_3 : fieldOff Tryz.prog 72 3 = some 3 := by kernel_rfl
theorem fty_72_3 : fieldTy Tryz.prog 72 3 = some (70, 3) := by kernel_rfl
theorem agg_73 : isAggT Tryz.prog 73 = some true := by kernel_rfl
theorem size_73 : sizeT Tryz.prog 73 = some 4 := by kernel_rfl
theorem zero_73 : zeroD Tryz.prog 73 = some [.nilf, .nilf, .nilf, .nilf] := by kernel_rfl
theorem und_73 : Tryz.prog.underlying 73 = some (.array 4 1) := by kernel_rfl
theorem place_73 : placesT Tryz.prog 73 = some [(0, 1), (1, 1), (2, 1), (3, 1)] := by kernel_rfl
theorem agg_74 : isAggT Tryz.prog 74 = some false := by kernel_rfl
theorem size_74 : sizeT Tryz.prog 74 = some 1 := by kernel_rfl
theorem zero_74 : zeroD Tryz.prog 74 = some [.nilf] := by kernel_rfl
theorem agg_75 : isAggT Tryz.prog 75 = some false := by kernel_rfl
theorem size_75 : sizeT Tryz.prog 75 = some 1 := by kernel_rfl
theorem zero_75 : zeroD Tryz.prog 75 = some [.nilf] := by kernel_rfl
theorem agg_76 : isAggT Tryz.prog 76 = some false := by kernel_rfl
theorem size_76 : sizeT Tryz.prog 76 = some 1 := by kernel_rfl
theorem zero_76 : zeroD Tryz.prog 76 = some [.nilf] := by kernel_rfl
theorem agg_77 : isAggT Tryz.prog 77 = some false := by kernel_rfl
theorem size_77 : sizeT Tryz.prog 77 = some 1 := by kernel_rfl
theorem zero_77 : zeroD Tryz.prog 77 = some [.nilf] := by kernel_rfl
theorem agg_78 : isAggT Tryz.prog 78 = some false := by kernel_rfl
theorem size_78 : sizeT Tryz.prog 78 = some 1 := by kernel_rfl
theorem zero_78 : zeroD Tryz.prog 78 = some [.nilf] := by kernel_rfl
theorem agg_79 : isAggT Tryz.prog 79 = some false := by kernel_rfl
theorem size_79 : sizeT Tryz.prog 79 = some 1 := by kernel_rfl
theorem zero_79 : zeroD Tryz.prog 79 = some [.nilf] := by kernel_rfl
theorem agg_80 : isAggT Tryz.prog 80 = some false := by kernel_rfl
theorem size_80 : sizeT Tryz.prog 80 = some 1 := by kernel_rfl
theorem zero_80 : zeroD Tryz.prog 80 = some [.nils] := by kernel_rfl
theorem und_80 : Tryz.prog.underlying 80 = some (.slice 99) := by kernel_rfl
theorem agg_81 : isAggT Tryz.prog 81 = some true := by kernel_rfl
theorem size_81 : sizeT Tryz.prog 81 = some 3 := by kernel_rfl
theorem zero_81 : zeroD Tryz.prog 81 = some [.int .i64 0, .int .i64 0, .nils] := by kernel_rfl
theorem place_81 : placesT Tryz.prog 81 = some [(0, 1), (1, 1), (2, 1)] := by kernel_rfl
theorem off_81_0 : fieldOff Tryz.prog 81 0 = some 0 := by kernel_rfl
theorem fty_81_0 : fieldTy Tryz.prog 81 0 = some (3, 0) := by kernel_rfl
theorem off_81_1 : fieldOff Tryz.prog 81 1 = some 1 := by kernel_rfl
theorem fty_81_1 : fieldTy Tryz.prog 81 1 = some (3, 1) := by kernel_rfl
theorem off_81_2 : fieldOff Tryz.prog 81 2 = some 2 := by kernel_rfl
theorem fty_81_2 : fieldTy Tryz.prog 81 2 = some (80, 2) := by kernel_rfl
theorem agg_82 : isAggT Tryz.prog 82 = some true := by kernel_rfl
theorem size_82 : sizeT Tryz.prog 82 = some 3 := by kernel_rfl
theorem zero_82 : zeroD Tryz.prog 82 = some [.int .i64 0, .int .i64 0, .nils] := by kernel_rfl
theorem place_82 : placesT Tryz.prog 82 = some [(0, 1), (1, 1), (2, 1)] := by kernel_rfl
theorem off_82_0 : fieldOff Tryz.prog 82 0 = some 0 := by kernel_rfl
theorem fty_82_0 : fieldTy Tryz.prog 82 0 = some (3, 0) := by kernel_rfl
theorem off_82_1 : fieldOff Tryz.prog 82 1 = some 1 := by kernel_rfl
theorem fty_82_1 : fieldTy Tryz.prog 82 1 = some (3, 1) := by kernel_rfl
theorem off_82_2 : fieldOff Tryz.prog 82 2 = some 2 := by kernel_rfl
theorem fty_82_2 : fieldTy Tryz.prog 82 2 = some (80, 2) := by kernel_rfl
theorem agg_83 : isAggT Tryz.prog 83 = some true := by kernel_rfl
theorem size_83 : sizeT Tryz.prog 83 = some 4 := by kernel_rfl
theorem zero_83 : zeroD Tryz.prog 83 = some [.int .i64 0, .int .i64 0, .int .i64 0, .nils] := by kernel_rfl
theorem place_83 : placesT Tryz.prog 83 = some [(0, 1), (1, 1), (2, 1), (3, 1)] := by kernel_rfl
theorem off_83_0 : fieldOff Tryz.prog 83 0 = some 0 := by kernel_rfl
theorem fty_83_0 : fieldTy Tryz.prog 83 0 = some (3, 0) := by kernel_rfl
theorem off_83_1 : fieldOff Tryz.prog 83 1 = some 1 := by kernel_rfl
theorem fty_83_1 : fieldTy Tryz.prog 83 1 = some (3, 1) := by kernel_rfl
theorem off_83_2 : fieldOff Tryz.prog 83 2 = some 2 := by kernel_rfl
theorem fty_83_2 : fieldTy Tryz.prog 83 2 = some (3, 2) := by kernel_rfl
theorem off_83_3 : fieldOff Tryz.prog 83 3 = some 3 := by kernel_rfl
theorem fty_83_3 : fieldTy Tryz.prog 83 3 = some (80, 3) := by kernel_rfl
theorem agg_84 : isAggT Tryz.prog 84 = some true := by kernel_rfl
theorem size_84 : sizeT Tryz.prog 84 = some 4 := by kernel_rfl
theorem zero_84 : zeroD Tryz.prog 84 = some [.int .i64 0, .int .i64 0, .int .i64 0, .nils] := by kernel_rfl
theorem place_84 : placesT Tryz.prog 84 = some [(0, 1), (1, 1), (2, 1), (3, 1)] := by kernel_rfl
theorem off_84_0 : fieldOff Tryz.prog 84 0 = some 0 := by kernel_rfl
theorem fty_84_0 : fieldTy Tryz.prog 84 0 = some (3, 0) := by kernel_rfl
theorem off_84_1 : fieldOff Tryz.prog 84 1 = some 1 := by kernel_rfl
theorem fty_84_1 : fieldTy Tryz.prog 84 1 = some (3, 1) := by kernel_rfl
theorem off_84_2 : fieldOff Tryz.prog 84 2 = some 2 := by kernel_rfl
theorem fty_84_2 : fieldTy Tryz.prog 84 2 = some (3, 2) := by kernel_rfl
theorem off_84_3 : fieldOff Tryz.prog 84 3 = some 3 := by kernel_rfl
theorem fty_84_3 : fieldTy Tryz.prog 84 3 = some (80, 3) := by kernel_rfl
theorem agg_85 : isAggT Tryz.prog 85 = some false := by kernel_rfl
theorem size_85 : sizeT Tryz.prog 85 = some 1 := by kernel_rfl
theorem zero_85 : zeroD Tryz.prog 85 = some [.nilf] := by kernel_rfl
theorem agg_86 : isAggT Tryz.prog 86 = some false := by kernel_rfl
theorem size_86 : sizeT Tryz.prog 86 = some 1 := by kernel_rfl
theorem zero_86 : zeroD Tryz.prog 86 = some [.nilf] := by kernel_rfl
theorem agg_87 : isAggT Tryz.prog 87 = some false := by kernel_rfl
theorem size_87 : sizeT Tryz.prog 87 = some 1 := by kernel_rfl
theorem zero_87 : zeroD Tryz.prog 87 = some [.nilf] := by kernel_rfl
theorem agg_88 : isAggT Tryz.prog 88 = some false := by kernel_rfl
theorem size_88 : sizeT Tryz.prog 88 = some 1 := by kernel_rfl
theorem zero_88 : zeroD Tryz.prog 88 = some [.nilf] := by kernel_rfl
theorem agg_89 : isAggT Tryz.prog 89 = some true := by kernel_rfl
theorem size_89 : sizeT Tryz.prog 89 = some 1 := by kernel_rfl
theorem zero_89 : zeroD Tryz.prog 89 = some [.int .i64 0] := by kernel_rfl
theorem place_89 : placesT Tryz.prog 89 = some [(0, 1)] := by kernel_rfl
theorem off_89_0 : fieldOff Tryz.prog 89 0 = some 0 := by kernel_rfl
theorem fty_89_0 : fieldTy Tryz.prog 89 0 = some (3, 0) := by kernel_rfl
theorem agg_90 : isAggT Tryz.prog 90 = some true := by kernel_rfl
theorem size_90 : sizeT Tryz.prog 90 = some 1 := by kernel_rfl
theorem zero_90 : zeroD Tryz.prog 90 = some [.int .i64 0] := by kernel_rfl
theorem place_90 : placesT Tryz.prog 90 = some [(0, 1)] := by kernel_rfl
theorem off_90_0 : fieldOff Tryz.prog 90 0 = some 0 := by kernel_rfl
theorem fty_90_0 : fieldTy Tryz.prog 90 0 = some (3, 0) := by kernel_rfl
theorem agg_91 : isAggT Tryz.prog 91 = some false := by kernel_rfl
theorem size_91 : sizeT Tryz.prog 91 = some 1 := by kernel_rfl
theorem zero_91 : zeroD Tryz.prog 91 = some [.nilf] := by kernel_rfl
theorem agg_92 : isAggT Tryz.prog 92 = some false := by kernel_rfl
theorem size_92 : sizeT Tryz.prog 92 = some 1 := by kernel_rfl
theorem zero_92 : zeroD Tryz.prog 92 = some [.nilf] := by kernel_rfl
theorem agg_93 : isAggT Tryz.prog 93 = some false := by kernel_rfl
theorem size_93 : sizeT Tryz.prog 93 = some 1 := by kernel_rfl
theorem zero_93 : zeroD Tryz.prog 93 = some [.nilm] := by kernel_rfl
theorem agg_94 : isAggT Tryz.prog 94 = some false := by kernel_rfl
theorem size_94 : sizeT Tryz.prog 94 = some 1 := by kernel_rfl
theorem zero_94 : zeroD Tryz.prog 94 = some [.nilf] := by kernel_rfl
theorem agg_95 : isAggT Tryz.prog 95 = some false := by kernel_rfl
theorem size_95 : sizeT Tryz.prog 95 = some 1 := by kernel_rfl
theorem agg_96 : isAggT Tryz.prog 96 = some false := by kernel_rfl
theorem size_96 : sizeT Tryz.prog 96 = some 1 := by kernel_rfl
theorem agg_97 : isAggT Tryz.prog 97 = some false := by kernel_rfl
theorem size_97 : sizeT Tryz.prog 97 = some 1 := by kernel_rfl
theorem zero_97 : zeroD Tryz.prog 97 = some [.nilf] := by kernel_rfl
theorem agg_98 : isAggT Tryz.prog 98 = some true := by kernel_rfl
theorem size_98 : sizeT Tryz.prog 98 = some 2 := by kernel_rfl
theorem zero_98 : zeroD Tryz.prog 98 = some [.int .i64 0, .int .i64 0] := by kernel_rfl
theorem place_98 : placesT Tryz.prog 98 = some [(0, 1), (1, 1)] := by kernel_rfl
theorem off_98_0 : fieldOff Tryz.prog 98 0 = some 0 := by kernel_rfl
theorem fty_98_0 : fieldTy Tryz.prog 98 0 = some (3, 0) := by kernel_rfl
theorem off_98_1 : fieldOff Tryz.prog 98 1 = some 1 := by kernel_rfl
theorem fty_98_1 : fieldTy Tryz.prog 98 1 = some (3, 1) := by kernel_rfl
theorem agg_99 : isAggT Tryz.prog 99 = some true := by kernel_rfl
theorem size_99 : sizeT Tryz.prog 99 = some 2 := by kernel_rfl
theorem zero_99 : zeroD Tryz.prog 99 = some [.int .i64 0, .int .i64 0] := by kernel_rfl
theorem place_99 : placesT Tryz.prog 99 = some [(0, 1), (1, 1)] := by kernel_rfl
theorem off_99_0 : fieldOff Tryz.prog 99 0 = some 0 := by kernel_rfl
theorem fty_99_0 : fieldTy Tryz.prog 99 0 = some (3, 0) := by kernel_rfl
theorem off_99_1 : fieldOff Tryz.prog 99 1 = some 1 := by kernel_rfl
theorem fty_99_1 : fieldTy Tryz.prog 99 1 = some (3, 1) := by kernel_rfl
theorem agg_100 : isAggT Tryz.prog 100 = some false := by kernel_rfl
theorem size_100 : sizeT Tryz.prog 100 = some 1 := by kernel_rfl
theorem zero_100 : zeroD Tryz.prog 100 = some [.nilf] := by kernel_rfl
theorem agg_101 : isAggT Tryz.prog 101 = some false := by kernel_rfl
theorem size_101 : sizeT Tryz.prog 101 = some 1 := by kernel_rfl
theorem zero_101 : zeroD Tryz.prog 101 = some [.nilf] := by kernel_rfl
theorem agg_102 : isAggT Tryz.prog 102 = some true := by kernel_rfl
theorem size_102 : sizeT Tryz.prog 102 = some 2 := by kernel_rfl
theorem zero_102 : zeroD Tryz.prog 102 = some [.int .i64 0, .int .i64 0] := by kernel_rfl
theorem place_102 : placesT Tryz.prog 102 = some [(0, 1), (1, 1)] := by kernel_rfl
theorem off_102_0 : fieldOff Tryz.prog 102 0 = some 0 := by kernel_rfl
theorem fty_102_0 : fieldTy Tryz.prog 102 0 = some (3, 0) := by kernel_rfl
theorem off_102_1 : fieldOff Tryz.prog 102 1 = some 1 := by kernel_rfl
theorem fty_102_1 : fieldTy Tryz.prog 102 1 = some (3, 1) := by kernel_rfl
theorem agg_103 : isAggT Tryz.prog 103 = some true := by kernel_rfl
theorem size_103 : sizeT Tryz.prog 103 = some 2 := by kernel_rfl
theorem zero_103 : zeroD Tryz.prog 103 = some [.int .i64 0, .int .i64 0] := by kernel_rfl
theorem place_103 : placesT Tryz.prog 103 = some [(0, 1), (1, 1)] := by kernel_rfl
theorem off_103_0 : fieldOff Tryz.prog 103 0 = some 0 := by kernel_rfl
theorem fty_103_0 : fieldTy Tryz.prog 103 0 = some (3, 0) := by kernel_rfl
theorem off_103_1 : fieldOff Tryz.prog 103 1 = some 1 := by kernel_rfl
theorem fty_103_1 : fieldTy Tryz.prog 103 1 = some (3, 1) := by kernel_rfl
theorem agg_104 : isAggT Tryz.prog 104 = some false := by kernel_rfl
theorem size_104 : sizeT Tryz.prog 104 = some 1 := by kernel_rfl
theorem zero_104 : zeroD Tryz.prog 104 = some [.nilf] := by kernel_rfl
theorem agg_105 : isAggT Tryz.prog 105 = some false := by kernel_rfl
theorem size_105 : sizeT Tryz.prog 105 = some 1 := by kernel_rfl
theorem zero_105 : zeroD Tryz.prog 105 = some [.nilm] := by kernel_rfl
theorem agg_106 : isAggT Tryz.prog 106 = some false := by kernel_rfl
theorem size_106 : sizeT Tryz.prog 106 = some 1 := by kernel_rfl
theorem zero_106 : zeroD Tryz.prog 106 = some [.nils] := by kernel_rfl
theorem und_106 : Tryz.prog.underlying 106 = some (.slice 103) := by kernel_rfl
theorem bytes_103_106 : Tryz.prog.bytesOf 103 = 16 := by kernel_rfl
theorem agg_107 : isAggT Tryz.prog 107 = some false := by kernel_rfl
theorem size_107 : sizeT Tryz.prog 107 = some 1 := by kernel_rfl
theorem zero_107 : zeroD Tryz.prog 107 = some [.nilf] := by kernel_rfl
theorem agg_108 : isAggT Tryz.prog 108 = some false := by kernel_rfl
theorem size_108 : sizeT Tryz.prog 108 = some 1 := by kernel_rfl
theorem zero_108 : zeroD Tryz.prog 108 = some [.nilf] := by kernel_rfl
theorem agg_109 : isAggT Tryz.prog 109 = some false := by kernel_rfl
theorem size_109 : sizeT Tryz.prog 109 = some 1 := by kernel_rfl
theorem zero_109 : zeroD Tryz.prog 109 = some [.nilf] := by kernel_rfl
theorem agg_110 : isAggT Tryz.prog 110 = some false := by kernel_rfl
theorem size_110 : sizeT Tryz.prog 110 = some 1 := by kernel_rfl
theorem agg_111 : isAggT Tryz.prog 111 = some true := by kernel_rfl
theorem size_111 : sizeT Tryz.prog 111 = some 12 := by kernel_rfl
theorem zero_111 : zeroD Tryz.prog 111 = some [.int .i64 0, .int .i64 0, .nils, .nils, .nils, .int .i64 0, .int .i64 0, .int .i64 0, .int .i64 0, .nils, .nils, .int .i64 0] := by kernel_rfl
theorem place_111 : placesT Tryz.prog 111 = some [(0, 10), (10, 1), (11, 1)] := by kernel_rfl
theorem off_111_0 : fieldOff Tryz.prog 111 0 = some 0 := by kernel_rfl
theorem fty_111_0 : fieldTy Tryz.prog 111 0 = some (31, 0) := by kernel_rfl
theorem off_111_1 : fieldOff Tryz.prog 111 1 = some 10 := by kernel_rfl
theorem fty_111_1 : fieldTy Tryz.prog 111 1 = some (32, 10) := by kernel_rfl
theorem off_111_2 : fieldOff Tryz.prog 111 2 = some 11 := by kernel_rfl
theorem fty_111_2 : fieldTy Tryz.prog 111 2 = some (3, 11) := by kernel_rfl
theorem agg_112 : isAggT Tryz.prog 112 = some true := by kernel_rfl
theorem size_112 : sizeT Tryz.prog 112 = some 12 := by kernel_rfl
theorem zero_112 : zeroD Tryz.prog 112 = some [.int .i64 0, .int .i64 0, .nils, .nils, .nils, .int .i64 0, .int .i64 0, .int .i64 0, .int .i64 0, .nils, .nils, .int .i64 0] := by kernel_rfl
theorem place_112 : placesT Tryz.prog 112 = some [(0, 10), (10, 1), (11, 1)] := by kernel_rfl
theorem off_112_0 : fieldOff Tryz.prog 112 0 = some 0 := by kernel_rfl
theorem fty_112_0 : fieldTy Tryz.prog 112 0 = some (31, 0) := by kernel_rfl
theorem off_112_1 : fieldOff Tryz.prog 112 1 = some 10 := by kernel_rfl
theorem fty_112_1 : fieldTy Tryz.prog 112 1 = some (32, 10) := by kernel_rfl
theorem off_112_2 : fieldOff Tryz.prog 112 2 = some 11 := by kernel_rfl
theorem fty_112_2 : fieldTy Tryz.prog 112 2 = some (3, 11) := by kernel_rfl
theorem agg_113 : isAggT Tryz.prog 113 = some false := by kernel_rfl
theorem size_113 : sizeT Tryz.prog 113 = some 1 := by kernel_rfl
theorem zero_113 : zeroD Tryz.prog 113 = some [.nilf] := by kernel_rfl
theorem agg_114 : isAggT Tryz.prog 114 = some true := by kernel_rfl
theorem size_114 : sizeT Tryz.prog 114 = some 2 := by kernel_rfl
theorem zero_114 : zeroD Tryz.prog 114 = some [.nilm, .nilm] := by kernel_rfl
theorem und_114 : Tryz.prog.underlying 114 = some (.array 2 70) := by kernel_rfl
theorem place_114 : placesT Tryz.prog 114 = some [(0, 1), (1, 1)] := by kernel_rfl
theorem agg_115 : isAggT Tryz.prog 115 = some false := by kernel_rfl
theorem size_115 : sizeT Tryz.prog 115 = some 1 := by kernel_rfl
theorem zero_115 : zeroD Tryz.prog 115 = some [.nilf] := by kernel_rfl
theorem agg_116 : isAggT Tryz.prog 116 = some false := by kernel_rfl
theorem size_116 : sizeT Tryz.prog 116 = some 1 := by kernel_rfl
theorem zero_116 : zeroD Tryz.prog 116 = some [.nilf] := by kernel_rfl
theorem agg_117 : isAggT Tryz.prog 117 = some false := by kernel_rfl
theorem size_117 : sizeT Tryz.prog 117 = some 1 := by kernel_rfl
theorem zero_117 : zeroD Tryz.prog 117 = some [.nilf] := by kernel_rfl
theorem agg_118 : isAggT Tryz.prog 118 = some false := by kernel_rfl
theorem size_118 : sizeT Tryz.prog 118 = some 1 := by kernel_rfl
theorem zero_118 : zeroD Tryz.prog 118 = some [.nilf] := by kernel_rfl
theorem agg_119 : isAggT Tryz.prog 119 = some false := by kernel_rfl
theorem size_119 : sizeT Tryz.prog 119 = some 1 := by kernel_rfl
theorem zero_119 : zeroD Tryz.prog 119 = some [.nilf] := by kernel_rfl
theorem agg_120 : isAggT Tryz.prog 120 = some false := by kernel_rfl
theorem size_120 : sizeT Tryz.prog 120 = some 1 := by kernel_rfl
theorem zero_120 : zeroD Tryz.prog 120 = some [.nilf] := by kernel_rfl
theorem agg_121 : isAggT Tryz.prog 121 = some false := by kernel_rfl
theorem size_121 : sizeT Tryz.prog 121 = some 1 := by kernel_rfl
theorem zero_121 : zeroD Tryz.prog 121 = some [.nilf] := by kernel_rfl
theorem agg_122 : isAggT Tryz.prog 122 = some false := by kernel_rfl
theorem size_122 : sizeT Tryz.prog 122 = some 1 := by kernel_rfl
theorem zero_122 : zeroD Tryz.prog 122 = some [.nilf] := by kernel_rfl
theorem agg_123 : isAggT Tryz.prog 123 = some false := by kernel_rfl
theorem size_123 : sizeT Tryz.prog 123 = some 1 := by kernel_rfl
theorem zero_123 : zeroD Tryz.prog 123 = some [.nilf] := by kernel_rfl
theorem agg_124 : isAggT Tryz.prog 124 = some false := by kernel_rfl
theorem size_124 : sizeT Tryz.prog 124 = some 1 := by kernel_rfl
theorem zero_124 : zeroD Tryz.prog 124 = some [.nilf] := by kernel_rfl
theorem agg_125 : isAggT Tryz.prog 125 = some false := by kernel_rfl
theorem size_125 : sizeT Tryz.prog 125 = some 1 := by kernel_rfl
theorem zero_125 : zeroD Tryz.prog 125 = some [.nilf] := by kernel_rfl
theorem agg_126 : isAggT Tryz.prog 126 = some false := by kernel_rfl
theorem size_126 : sizeT Tryz.prog 126 = some 1 := by kernel_rfl
theorem zero_126 : zeroD Tryz.prog 126 = some [.nilf] := by kernel_rfl
theorem agg_127 : isAggT Tryz.prog 127 = some false := by kernel_rfl
theorem size_127 : sizeT Tryz.prog 127 = some 1 := by kernel_rfl
theorem zero_127 : zeroD Tryz.prog 127 = some [.nilf] := by kernel_rfl
theorem agg_128 : isAggT Tryz.prog 128 = some false := by kernel_rfl
theorem size_128 : sizeT Tryz.prog 128 = some 1 := by kernel_rfl
theorem zero_128 : zeroD Tryz.prog 128 = some [.nilf] := by kernel_rfl
theorem agg_129 : isAggT Tryz.prog 129 = some false := by kernel_rfl
theorem size_129 : sizeT Tryz.prog 129 = some 1 := by kernel_rfl
theorem zero_129 : zeroD Tryz.prog 129 = some [.nilf] := by kernel_rfl
theorem agg_130 : isAggT Tryz.prog 130 = some false := by kernel_rfl
theorem size_130 : sizeT Tryz.prog 130 = some 1 := by kernel_rfl
theorem zero_130 : zeroD Tryz.prog 130 = some [.nilf] := by kernel_rfl
theorem agg_131 : isAggT Tryz.prog 131 = some false := by kernel_rfl
theorem size_131 : sizeT Tryz.prog 131 = some 1 := by kernel_rfl
theorem zero_131 : zeroD Tryz.prog 131 = some [.nilf] := by kernel_rfl
theorem agg_132 : isAggT Tryz.prog 132 = some false := by kernel_rfl
theorem size_132 : sizeT Tryz.prog 132 = some 1 := by kernel_rfl
theorem zero_132 : zeroD Tryz.prog 132 = some [.nilp] := by kernel_rfl
theorem agg_133 : isAggT Tryz.prog 133 = some true := by kernel_rfl
theorem size_133 : sizeT Tryz.prog 133 = some 1 := by kernel_rfl
theorem zero_133 : zeroD Tryz.prog 133 = some [.nils] := by kernel_rfl
theorem place_133 : placesT Tryz.prog 133 = some [(0, 1)] := by kernel_rfl
theorem off_133_0 : fieldOff Tryz.prog 133 0 = some 0 := by kernel_rfl
theorem fty_133_0 : fieldTy Tryz.prog 133 0 = some (29, 0) := by kernel_rfl
theorem agg_134 : isAggT Tryz.prog 134 = some true := by kernel_rfl
theorem size_134 : sizeT Tryz.prog 134 = some 1 := by kernel_rfl
theorem zero_134 : zeroD Tryz.prog 134 = some [.nils] := by kernel_rfl
theorem place_134 : placesT Tryz.prog 134 = some [(0, 1)] := by kernel_rfl
theorem off_134_0 : fieldOff Tryz.prog 134 0 = some 0 := by kernel_rfl
theorem fty_134_0 : fieldTy Tryz.prog 134 0 = some (29, 0) := by kernel_rfl
theorem agg_135 : isAggT Tryz.prog 135 = some false := by kernel_rfl
theorem size_135 : sizeT Tryz.prog 135 = some 1 := by kernel_rfl
theorem zero_135 : zeroD Tryz.prog 135 = some [.nili] := by kernel_rfl
theorem agg_136 : isAggT Tryz.prog 136 = some false := by kernel_rfl
theorem size_136 : sizeT Tryz.prog 136 = some 1 := by kernel_rfl
theorem zero_136 : zeroD Tryz.prog 136 = some [.nili] := by kernel_rfl
theorem agg_137 : isAggT Tryz.prog 137 = some false := by kernel_rfl
theorem size_137 : sizeT Tryz.prog 137 = some 1 := by kernel_rfl
theorem zero_137 : zeroD Tryz.prog 137 = some [.nilf] := by kernel_rfl
theorem agg_138 : isAggT Tryz.prog 138 = some false := by kernel_rfl
theorem size_138 : sizeT Tryz.prog 138 = some 1 := by kernel_rfl
theorem zero_138 : zeroD Tryz.prog 138 = some [.nilf] := by kernel_rfl
theorem agg_139 : isAggT Tryz.prog 139 = some false := by kernel_rfl
theorem size_139 : sizeT Tryz.prog 139 = some 1 := by kernel_rfl
theorem zero_139 : zeroD Tryz.prog 139 = some [.nilf] := by kernel_rfl
theorem agg_140 : isAggT Tryz.prog 140 = some false := by kernel_rfl
theorem size_140 : sizeT Tryz.prog 140 = some 1 := by kernel_rfl
theorem zero_140 : zeroD Tryz.prog 140 = some [.nilf] := by kernel_rfl
theorem agg_141 : isAggT Tryz.prog 141 = some false := by kernel_rfl
theorem size_141 : sizeT Tryz.prog 141 = some 1 := by kernel_rfl
theorem zero_141 : zeroD Tryz.prog 141 = some [.nilf] := by kernel_rfl
theorem agg_142 : isAggT Tryz.prog 142 = some false := by kernel_rfl
theorem size_142 : sizeT Tryz.prog 142 = some 1 := by kernel_rfl
theorem zero_142 : zeroD Tryz.prog 142 = some [.nilf] := by kernel_rfl
theorem agg_143 : isAggT Tryz.prog 143 = some false := by kernel_rfl
theorem size_143 : sizeT Tryz.prog 143 = some 1 := by kernel_rfl
theorem zero_143 : zeroD Tryz.prog 143 = some [.nilf] := by kernel_rfl
theorem agg_144 : isAggT Tryz.prog 144 = some false := by kernel_rfl
theorem size_144 : sizeT Tryz.prog 144 = some 1 := by kernel_rfl
theorem zero_144 : zeroD Tryz.prog 144 = some [.nilf] := by kernel_rfl
theorem agg_145 : isAggT Tryz.prog 145 = some false := by kernel_rfl
theorem size_145 : sizeT Tryz.prog 145 = some 1 := by kernel_rfl
theorem zero_145 : zeroD Tryz.prog 145 = some [.nilf] := by kernel_rfl
theorem agg_146 : isAggT Tryz.prog 146 = some false := by kernel_rfl
theorem size_146 : sizeT Tryz.prog 146 = some 1 := by kernel_rfl
theorem zero_146 : zeroD Tryz.prog 146 = some [.int .u64 0] := by kernel_rfl
theorem und_146 : Tryz.prog.underlying 146 = some (.int .u64) := by kernel_rfl
theorem agg_147 : isAggT Tryz.prog 147 = some false := by kernel_rfl
theorem size_147 : sizeT Tryz.prog 147 = some 1 := by kernel_rfl
theorem zero_147 : zeroD Tryz.prog 147 = some [.nilf] := by kernel_rfl
theorem agg_148 : isAggT Tryz.prog 148 = some false := by kernel_rfl
theorem size_148 : sizeT Tryz.prog 148 = some 1 := by kernel_rfl
theorem zero_148 : zeroD Tryz.prog 148 = some [.nilf] := by kernel_rfl
theorem agg_149 : isAggT Tryz.prog 149 = some false := by kernel_rfl
theorem size_149 : sizeT Tryz.prog 149 = some 1 := by kernel_rfl
theorem zero_149 : zeroD Tryz.prog 149 = some [.int .i64 0] := by kernel_rfl
theorem agg_150 : isAggT Tryz.prog 150 = some false := by kernel_rfl
theorem size_150 : sizeT Tryz.prog 150 = some 1 := by kernel_rfl
theorem agg_151 : isAggT Tryz.prog 151 = some false := by kernel_rfl
theorem size_151 : sizeT Tryz.prog 151 = some 1 := by kernel_rfl
theorem zero_151 : zeroD Tryz.prog 151 = some [.nilf] := by kernel_rfl
theorem agg_152 : isAggT Tryz.prog 152 = some false := by kernel_rfl
theorem size_152 : sizeT Tryz.prog 152 = some 1 := by kernel_rfl
theorem zero_152 : zeroD Tryz.prog 152 = some [.nilf] := by kernel_rfl
theorem agg_153 : isAggT Tryz.prog 153 = some false := by kernel_rfl
theorem size_153 : sizeT Tryz.prog 153 = some 1 := by kernel_rfl
theorem zero_153 : zeroD Tryz.prog 153 = some [.nilf] := by kernel_rfl
theorem agg_154 : isAggT Tryz.prog 154 = some false := by kernel_rfl
theorem size_154 : sizeT Tryz.prog 154 = some 1 := by kernel_rfl
theorem zero_154 : zeroD Tryz.prog 154 = some [.nilf] := by kernel_rfl
theorem agg_155 : isAggT Tryz.prog 155 = some false := by kernel_rfl
theorem size_155 : sizeT Tryz.prog 155 = some 1 := by kernel_rfl
theorem zero_155 : zeroD Tryz.prog 155 = some [.nilf] := by kernel_rfl
theorem agg_156 : isAggT Tryz.prog 156 = some false := by kernel_rfl
theorem size_156 : sizeT Tryz.prog 156 = some 1 := by kernel_rfl
theorem zero_156 : zeroD Tryz.prog 156 = some [.int .u32 0] := by kernel_rfl
theorem und_156 : Tryz.prog.underlying 156 = some (.int .u32) := by kernel_rfl
theorem agg_157 : isAggT Tryz.prog 157 = some false := by kernel_rfl
theorem size_157 : sizeT Tryz.prog 157 = some 1 := by kernel_rfl
theorem zero_157 : zeroD Tryz.prog 157 = some [.nilf] := by kernel_rfl
theorem agg_158 : isAggT Tryz.prog 158 = some false := by kernel_rfl
theorem size_158 : sizeT Tryz.prog 158 = some 1 := by kernel_rfl
theorem zero_158 : zeroD Tryz.prog 158 = some [.int .u64 0] := by kernel_rfl
theorem und_158 : Tryz.prog.underlying 158 = some (.int .u64) := by kernel_rfl
theorem agg_159 : isAggT Tryz.prog 159 = some false := by kernel_rfl
theorem size_159 : sizeT Tryz.prog 159 = some 1 := by kernel_rfl
theorem zero_159 : zeroD Tryz.prog 159 = some [.int .u64 0] := by kernel_rfl
theorem und_159 : Tryz.prog.underlying 159 = some (.int .u64) := by kernel_rfl
theorem agg_160 : isAggT Tryz.prog 160 = some false := by kernel_rfl
theorem size_160 : sizeT Tryz.prog 160 = some 1 := by kernel_rfl
theorem zero_160 : zeroD Tryz.prog 160 = some [.nilf] := by kernel_rfl
theorem agg_161 : isAggT Tryz.prog 161 = some false := by kernel_rfl
theorem size_161 : sizeT Tryz.prog 161 = some 1 := by kernel_rfl
theorem zero_161 : zeroD Tryz.prog 161 = some [.nilf] := by kernel_rfl
theorem agg_162 : isAggT Tryz.prog 162 = some false := by kernel_rfl
theorem size_162 : sizeT Tryz.prog 162 = some 1 := by kernel_rfl
theorem zero_162 : zeroD Tryz.prog 162 = some [.nilf] := by kernel_rfl
theorem agg_163 : isAggT Tryz.prog 163 = some false := by kernel_rfl
theorem size_163 : sizeT Tryz.prog 163 = some 1 := by kernel_rfl
theorem zero_163 : zeroD Tryz.prog 163 = some [.nilp] := by kernel_rfl
theorem agg_164 : isAggT Tryz.prog 164 = some false := by kernel_rfl
theorem size_164 : sizeT Tryz.prog 164 = some 1 := by kernel_rfl
theorem zero_164 : zeroD Tryz.prog 164 = some [.nilf] := by kernel_rfl
theorem agg_165 : isAggT Tryz.prog 165 = some false := by kernel_rfl
theorem size_165 : sizeT Tryz.prog 165 = some 1 := by kernel_rfl
theorem zero_165 : zeroD Tryz.prog 165 = some [.nilp] := by kernel_rfl
theorem agg_166 : isAggT Tryz.prog 166 = some false := by kernel_rfl
theorem size_166 : sizeT Tryz.prog 166 = some 1 := by kernel_rfl
theorem agg_167 : isAggT Tryz.prog 167 = some false := by kernel_rfl
theorem size_167 : sizeT Tryz.prog 167 = some 1 := by kernel_rfl
theorem zero_167 : zeroD Tryz.prog 167 = some [.nilf] := by kernel_rfl
theorem agg_168 : isAggT Tryz.prog 168 = some false := by kernel_rfl
theorem size_168 : sizeT Tryz.prog 168 = some 1 := by kernel_rfl
theorem zero_168 : zeroD Tryz.prog 168 = some [.nilf] := by kernel_rfl
theorem agg_169 : isAggT Tryz.prog 169 = some true := by kernel_rfl
theorem size_169 : sizeT Tryz.prog 169 = some 4 := by kernel_rfl
theorem zero_169 : zeroD Tryz.prog 169 = some [.nilp, .nilp, .nilp, .str ByteArray.empty] := by kernel_rfl
theorem place_169 : placesT Tryz.prog 169 = some [(0, 1), (1, 1), (2, 1), (3, 1)] := by kernel_rfl
theorem off_169_0 : fieldOff Tryz.prog 169 0 = some 0 := by kernel_rfl
theorem fty_169_0 : fieldTy Tryz.prog 169 0 = some (17, 0) := by kernel_rfl
theorem off_169_1 : fieldOff Tryz.prog 169 1 = some 1 := by kernel_rfl
theorem fty_169_1 : fieldTy Tryz.prog 169 1 = some (17, 1) := by kernel_rfl
theorem off_169_2 : fieldOff Tryz.prog 169 2 = some 2 := by kernel_rfl
theorem fty_169_2 : fieldTy Tryz.prog 169 2 = some (17, 2) := by kernel_rfl
theorem off_169_3 : fieldOff Tryz.prog 169 3 = some 3 := by kernel_rfl
theorem fty_169_3 : fieldTy Tryz.prog 169 3 = some (9, 3) := by kernel_rfl
theorem agg_170 : isAggT Tryz.prog 170 = some true := by kernel_rfl
theorem size_170 : sizeT Tryz.prog 170 = some 4 := by kernel_rfl
theorem zero_170 : zeroD Tryz.prog 170 = some [.nilp, .nilp, .nilp, .str ByteArray.empty] := by kernel_rfl
theorem place_170 : placesT Tryz.prog 170 = some [(0, 1), (1, 1), (2, 1), (3, 1)] := by kernel_rfl
theorem off_170_0 : fieldOff Tryz.prog 170 0 = some 0 := by kernel_rfl
theorem fty_170_0 : fieldTy Tryz.prog 170 0 = some (17, 0) := by kernel_rfl
theorem off_170_1 : fieldOff Tryz.prog 170 1 = some 1 := by kernel_rfl
theorem fty_170_1 : fieldTy Tryz.prog 170 1 = some (17, 1) := by kernel_rfl
theorem off_170_2 : fieldOff Tryz.prog 170 2 = some 2 := by kernel_rfl
theorem fty_170_2 : fieldTy Tryz.prog 170 2 = some (17, 2) := by kernel_rfl
theorem off_170_3 : fieldOff Tryz.prog 170 3 = some 3 := by kernel_rfl
theorem fty_170_3 : fieldTy Tryz.prog 170 3 = some (9, 3) := by kernel_rfl
theorem agg_171 : isAggT Tryz.prog 171 = some true := by kernel_rfl
theorem size_171 : sizeT Tryz.prog 171 = some 0 := by kernel_rfl
theorem zero_171 : zeroD Tryz.prog 171 = some [] := by kernel_rfl
theorem place_171 : placesT Tryz.prog 171 = some [] := by kernel_rfl
theorem agg_172 : isAggT Tryz.prog 172 = some true := by kernel_rfl
theorem size_172 : sizeT Tryz.prog 172 = some 0 := by kernel_rfl
theorem zero_172 : zeroD Tryz.prog 172 = some [] := by kernel_rfl
theorem place_172 : placesT Tryz.prog 172 = some [(0, 0)] := by kernel_rfl
theorem fty_172_0 : fieldTy Tryz.prog 172 0 = some (171, 0) := by kernel_rfl
theorem agg_173 : isAggT Tryz.prog 173 = some true := by kernel_rfl
theorem size_173 : sizeT Tryz.prog 173 = some 0 := by kernel_rfl
theorem zero_173 : zeroD Tryz.prog 173 = some [] := by kernel_rfl
theorem place_173 : placesT Tryz.prog 173 = some [(0, 0)] := by kernel_rfl
theorem fty_173_0 : fieldTy Tryz.prog 173 0 = some (171, 0) := by kernel_rfl
theorem agg_174 : isAggT Tryz.prog 174 = some false := by kernel_rfl
theorem size_174 : sizeT Tryz.prog 174 = some 1 := by kernel_rfl
theorem zero_174 : zeroD Tryz.prog 174 = some [.int .u8 0] := by kernel_rfl
theorem agg_175 : isAggT Tryz.prog 175 = some false := by kernel_rfl
theorem size_175 : sizeT Tryz.prog 175 = some 1 := by kernel_rfl
theorem zero_175 : zeroD Tryz.prog 175 = some [.int .u8 0] := by kernel_rfl
theorem agg_176 : isAggT Tryz.prog 176 = some false := by kernel_rfl
theorem size_176 : sizeT Tryz.prog 176 = some 1 := by kernel_rfl
theorem zero_176 : zeroD Tryz.prog 176 = some [.nilf] := by kernel_rfl
theorem agg_177 : isAggT Tryz.prog 177 = some false := by kernel_rfl
theorem size_177 : sizeT Tryz.prog 177 = some 1 := by kernel_rfl
theorem zero_177 : zeroD Tryz.prog 177 = some [.nilp] := by kernel_rfl
theorem agg_178 : isAggT Tryz.prog 178 = some false := by kernel_rfl
theorem size_178 : sizeT Tryz.prog 178 = some 1 := by kernel_rfl
theorem zero_178 : zeroD Tryz.prog 178 = some [.int .i32 0] := by kernel_rfl
theorem agg_179 : isAggT Tryz.prog 179 = some false := by kernel_rfl
theorem size_179 : sizeT Tryz.prog 179 = some 1 := by kernel_rfl
theorem zero_179 : zeroD Tryz.prog 179 = some [.int .i32 0] := by kernel_rfl
theorem agg_180 : isAggT Tryz.prog 180 = some true := by kernel_rfl
theorem size_180 : sizeT Tryz.prog 180 = some 11 := by kernel_rfl
theorem zero_180 : zeroD Tryz.prog 180 = some [.int .u64 0, .int .u64 0, .int .u32 0, .int .u8 0, .int .u8 0, .int .u8 0, .int .u8 0, .nilf, .nilp, .int .i32 0, .int .i32 0] := by kernel_rfl
theorem place_180 : placesT Tryz.prog 180 = some [(0, 1), (1, 1), (2, 1), (3, 1), (4, 1), (5, 1), (6, 1), (7, 1), (8, 1), (9, 1), (10, 1)] := by kernel_rfl
theorem off_180_0 : fieldOff Tryz.prog 180 0 = some 0 := by kernel_rfl
theorem fty_180_0 : fieldTy Tryz.prog 180 0 = some (12, 0) := by kernel_rfl
theorem off_180_1 : fieldOff Tryz.prog 180 1 = some 1 := by kernel_rfl
theorem fty_180_1 : fieldTy Tryz.prog 180 1 = some (12, 1) := by kernel_rfl
theorem off_180_2 : fieldOff Tryz.prog 180 2 = some 2 := by kernel_rfl
theorem fty_180_2 : fieldTy Tryz.prog 180 2 = some (156, 2) := by kernel_rfl
theorem off_180_3 : fieldOff Tryz.prog 180 3 = some 3 := by kernel_rfl
theorem fty_180_3 : fieldTy Tryz.prog 180 3 = some (174, 3) := by kernel_rfl
theorem off_180_4 : fieldOff Tryz.prog 180 4 = some 4 := by kernel_rfl
theorem fty_180_4 : fieldTy Tryz.prog 180 4 = some (5, 4) := by kernel_rfl
theorem off_180_5 : fieldOff Tryz.prog 180 5 = some 5 := by kernel_rfl
theorem fty_180_5 : fieldTy Tryz.prog 180 5 = some (5, 5) := by kernel_rfl
theorem off_180_6 : fieldOff Tryz.prog 180 6 = some 6 := by kernel_rfl
theorem fty_180_6 : fieldTy Tryz.prog 180 6 = some (175, 6) := by kernel_rfl
theorem off_180_7 : fieldOff Tryz.prog 180 7 = some 7 := by kernel_rfl
theorem fty_180_7 : fieldTy Tryz.prog 180 7 = some (176, 7) := by kernel_rfl
theorem off_180_8 : fieldOff Tryz.prog 180 8 = some 8 := by kernel_rfl
theorem fty_180_8 : fieldTy Tryz.prog 180 8 = some (177, 8) := by kernel_rfl
theorem off_180_9 : fieldOff Tryz.prog 180 9 = some 9 := by kernel_rfl
theorem fty_180_9 : fieldTy Tryz.prog 180 9 = some (178, 9) := by kernel_rfl
theorem off_180_10 : fieldOff Tryz.prog 180 10 = some 10 := by kernel_rfl
theorem fty_180_10 : fieldTy Tryz.prog 180 10 = some (179, 10) := by kernel_rfl
theorem agg_181 : isAggT Tryz.prog 181 = some true := by kernel_rfl
theorem size_181 : sizeT Tryz.prog 181 = some 11 := by kernel_rfl
theorem zero_181 : zeroD Tryz.prog 181 = some [.int .u64 0, .int .u64 0, .int .u32 0, .int .u8 0, .int .u8 0, .int .u8 0, .int .u8 0, .nilf, .nilp, .int .i32 0, .int .i32 0] := by kernel_rfl
theorem place_181 : placesT Tryz.prog 181 = some [(0, 1), (1, 1), (2, 1), (3, 1), (4, 1), (5, 1), (6, 1), (7, 1), (8, 1), (9, 1), (10, 1)] := by kernel_rfl
theorem off_181_0 : fieldOff Tryz.prog 181 0 = some 0 := by kernel_rfl
theorem fty_181_0 : fieldTy Tryz.prog 181 0 = some (12, 0) := by kernel_rfl
theorem off_181_1 : fieldOff Tryz.prog 181 1 = some 1 := by kernel_rfl
theorem fty_181_1 : fieldTy Tryz.prog 181 1 = some (12, 1) := by kernel_rfl
theorem off_181_2 : fieldOff Tryz.prog 181 2 = some 2 := by kernel_rfl
theorem fty_181_2 : fieldTy Tryz.prog 181 2 = some (156, 2) := by kernel_rfl
theorem off_181_3 : fieldOff Tryz.prog 181 3 = some 3 := by kernel_rfl
theorem fty_181_3 : fieldTy Tryz.prog 181 3 = some (174, 3) := by kernel_rfl
theorem off_181_4 : fieldOff Tryz.prog 181 4 = some 4 := by kernel_rfl
theorem fty_181_4 : fieldTy Tryz.prog 181 4 = some (5, 4) := by kernel_rfl
theorem off_181_5 : fieldOff Tryz.prog 181 5 = some 5 := by kernel_rfl
theorem fty_181_5 : fieldTy Tryz.prog 181 5 = some (5, 5) := by kernel_rfl
theorem off_181_6 : fieldOff Tryz.prog 181 6 = some 6 := by kernel_rfl
theorem fty_181_6 : fieldTy Tryz.prog 181 6 = some (175, 6) := by kernel_rfl
theorem off_181_7 : fieldOff Tryz.prog 181 7 = some 7 := by kernel_rfl
theorem fty_181_7 : fieldTy Tryz.prog 181 7 = some (176, 7) := by kernel_rfl
theorem off_181_8 : fieldOff Tryz.prog 181 8 = some 8 := by kernel_rfl
theorem fty_181_8 : fieldTy Tryz.prog 181 8 = some (177, 8) := by kernel_rfl
theorem off_181_9 : fieldOff Tryz.prog 181 9 = some 9 := by kernel_rfl
theorem fty_181_9 : fieldTy Tryz.prog 181 9 = some (178, 9) := by kernel_rfl
theorem off_181_10 : fieldOff Tryz.prog 181 10 = some 10 := by kernel_rfl
theorem fty_181_10 : fieldTy Tryz.prog 181 10 = some (179, 10) := by kernel_rfl
theorem agg_182 : isAggT Tryz.prog 182 = some false := by kernel_rfl
theorem size_182 : sizeT Tryz.prog 182 = some 1 := by kernel_rfl
theorem zero_182 : zeroD Tryz.prog 182 = some [.nilp] := by kernel_rfl
end Go.Sx.Fz
