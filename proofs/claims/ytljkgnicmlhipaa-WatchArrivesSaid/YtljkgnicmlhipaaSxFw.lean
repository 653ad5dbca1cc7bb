/- Facts of types, printed by program (FactsGen.lean). -/
import Derived.Test.YtljkgnicmlhipaaSxMc
import Derived.Test.YtljkgnicmlhipaaProg
set_option linter.unusedVariables false
set_option linter.unusedSimpArgs false
namespace Go.Sx.Fz
open Go.Proofs
theorem agg_0 : isAggT Try.prog 0 = some false := by kernel_rfl
theorem size_0 : sizeT Try.prog 0 = some 1 := by kernel_rfl
theorem agg_1 : isAggT Try.prog 1 = some false := by kernel_rfl
theorem size_1 : sizeT Try.prog 1 = some 1 := by kernel_rfl
theorem zero_1 : zeroD Try.prog 1 = some [.nilf] := by kernel_rfl
theorem agg_2 : isAggT Try.prog 2 = some false := by kernel_rfl
theorem size_2 : sizeT Try.prog 2 = some 1 := by kernel_rfl
theorem zero_2 : zeroD Try.prog 2 = some [.int .i64 0] := by kernel_rfl
theorem agg_3 : isAggT Try.prog 3 = some false := by kernel_rfl
theorem size_3 : sizeT Try.prog 3 = some 1 := by kernel_rfl
theorem zero_3 : zeroD Try.prog 3 = some [.int .i64 0] := by kernel_rfl
theorem und_3 : Try.prog.underlying 3 = some (.int .i64) := by kernel_rfl
theorem agg_4 : isAggT Try.prog 4 = some false := by kernel_rfl
theorem size_4 : sizeT Try.prog 4 = some 1 := by kernel_rfl
theorem zero_4 : zeroD Try.prog 4 = some [.bool false] := by kernel_rfl
theorem und_4 : Try.prog.underlying 4 = some (.bool) := by kernel_rfl
theorem agg_5 : isAggT Try.prog 5 = some false := by kernel_rfl
theorem size_5 : sizeT Try.prog 5 = some 1 := by kernel_rfl
theorem zero_5 : zeroD Try.prog 5 = some [.int .u8 0] := by kernel_rfl
theorem und_5 : Try.prog.underlying 5 = some (.int .u8) := by kernel_rfl
theorem agg_6 : isAggT Try.prog 6 = some false := by kernel_rfl
theorem size_6 : sizeT Try.prog 6 = some 1 := by kernel_rfl
theorem zero_6 : zeroD Try.prog 6 = some [.int .u8 0] := by kernel_rfl
theorem agg_7 : isAggT Try.prog 7 = some true := by kernel_rfl
theorem size_7 : sizeT Try.prog 7 = some 4 := by kernel_rfl
theorem zero_7 : zeroD Try.prog 7 = some [.int .i64 0, .int .i64 0, .bool false, .int .u8 0] := by kernel_rfl
theorem place_7 : placesT Try.prog 7 = some [(0, 1), (1, 1), (2, 1), (3, 1)] := by kernel_rfl
theorem off_7_0 : fieldOff Try.prog 7 0 = some 0 := by kernel_rfl
theorem fty_7_0 : fieldTy Try.prog 7 0 = some (2, 0) := by kernel_rfl
theorem off_7_1 : fieldOff Try.prog 7 1 = some 1 := by kernel_rfl
theorem fty_7_1 : fieldTy Try.prog 7 1 = some (3, 1) := by kernel_rfl
theorem off_7_2 : fieldOff Try.prog 7 2 = some 2 := by kernel_rfl
theorem fty_7_2 : fieldTy Try.prog 7 2 = some (4, 2) := by kernel_rfl
theorem off_7_3 : fieldOff Try.prog 7 3 = some 3 := by kernel_rfl
theorem fty_7_3 : fieldTy Try.prog 7 3 = some (6, 3) := by kernel_rfl
theorem agg_8 : isAggT Try.prog 8 = some true := by kernel_rfl
theorem size_8 : sizeT Try.prog 8 = some 4 := by kernel_rfl
theorem zero_8 : zeroD Try.prog 8 = some [.int .i64 0, .int .i64 0, .bool false, .int .u8 0] := by kernel_rfl
theorem place_8 : placesT Try.prog 8 = some [(0, 1), (1, 1), (2, 1), (3, 1)] := by kernel_rfl
theorem off_8_0 : fieldOff Try.prog 8 0 = some 0 := by kernel_rfl
theorem fty_8_0 : fieldTy Try.prog 8 0 = some (2, 0) := by kernel_rfl
theorem off_8_1 : fieldOff Try.prog 8 1 = some 1 := by kernel_rfl
theorem fty_8_1 : fieldTy Try.prog 8 1 = some (3, 1) := by kernel_rfl
theorem off_8_2 : fieldOff Try.prog 8 2 = some 2 := by kernel_rfl
theorem fty_8_2 : fieldTy Try.prog 8 2 = some (4, 2) := by kernel_rfl
theorem off_8_3 : fieldOff Try.prog 8 3 = some 3 := by kernel_rfl
theorem fty_8_3 : fieldTy Try.prog 8 3 = some (6, 3) := by kernel_rfl
theorem agg_9 : isAggT Try.prog 9 = some false := by kernel_rfl
theorem size_9 : sizeT Try.prog 9 = some 1 := by kernel_rfl
theorem zero_9 : zeroD Try.prog 9 = some [.str ByteArray.empty] := by kernel_rfl
theorem und_9 : Try.prog.underlying 9 = some (.string) := by kernel_rfl
theorem agg_10 : isAggT Try.prog 10 = some false := by kernel_rfl
theorem size_10 : sizeT Try.prog 10 = some 1 := by kernel_rfl
theorem zero_10 : zeroD Try.prog 10 = some [.str ByteArray.empty] := by kernel_rfl
theorem und_10 : Try.prog.underlying 10 = some (.string) := by kernel_rfl
theorem agg_11 : isAggT Try.prog 11 = some false := by kernel_rfl
theorem size_11 : sizeT Try.prog 11 = some 1 := by kernel_rfl
theorem zero_11 : zeroD Try.prog 11 = some [.str ByteArray.empty] := by kernel_rfl
theorem und_11 : Try.prog.underlying 11 = some (.string) := by kernel_rfl
theorem agg_12 : isAggT Try.prog 12 = some false := by kernel_rfl
theorem size_12 : sizeT Try.prog 12 = some 1 := by kernel_rfl
theorem zero_12 : zeroD Try.prog 12 = some [.int .u64 0] := by kernel_rfl
theorem agg_13 : isAggT Try.prog 13 = some true := by kernel_rfl
theorem size_13 : sizeT Try.prog 13 = some 2 := by kernel_rfl
theorem zero_13 : zeroD Try.prog 13 = some [.str ByteArray.empty, .int .u64 0] := by kernel_rfl
theorem place_13 : placesT Try.prog 13 = some [(0, 1), (1, 1)] := by kernel_rfl
theorem off_13_0 : fieldOff Try.prog 13 0 = some 0 := by kernel_rfl
theorem fty_13_0 : fieldTy Try.prog 13 0 = some (9, 0) := by kernel_rfl
theorem off_13_1 : fieldOff Try.prog 13 1 = some 1 := by kernel_rfl
theorem fty_13_1 : fieldTy Try.prog 13 1 = some (12, 1) := by kernel_rfl
theorem agg_14 : isAggT Try.prog 14 = some true := by kernel_rfl
theorem size_14 : sizeT Try.prog 14 = some 2 := by kernel_rfl
theorem zero_14 : zeroD Try.prog 14 = some [.str ByteArray.empty, .int .u64 0] := by kernel_rfl
theorem place_14 : placesT Try.prog 14 = some [(0, 1), (1, 1)] := by kernel_rfl
theorem off_14_0 : fieldOff Try.prog 14 0 = some 0 := by kernel_rfl
theorem fty_14_0 : fieldTy Try.prog 14 0 = some (9, 0) := by kernel_rfl
theorem off_14_1 : fieldOff Try.prog 14 1 = some 1 := by kernel_rfl
theorem fty_14_1 : fieldTy Try.prog 14 1 = some (12, 1) := by kernel_rfl
theorem agg_15 : isAggT Try.prog 15 = some false := by kernel_rfl
theorem size_15 : sizeT Try.prog 15 = some 1 := by kernel_rfl
theorem zero_15 : zeroD Try.prog 15 = some [.nilp] := by kernel_rfl
theorem agg_16 : isAggT Try.prog 16 = some false := by kernel_rfl
theorem size_16 : sizeT Try.prog 16 = some 1 := by kernel_rfl
theorem zero_16 : zeroD Try.prog 16 = some [.nilp] := by kernel_rfl
theorem agg_17 : isAggT Try.prog 17 = some false := by kernel_rfl
theorem size_17 : sizeT Try.prog 17 = some 1 := by kernel_rfl
theorem zero_17 : zeroD Try.prog 17 = some [.nilp] := by kernel_rfl
theorem agg_18 : isAggT Try.prog 18 = some true := by kernel_rfl
theorem size_18 : sizeT Try.prog 18 = some 1 := by kernel_rfl
theorem zero_18 : zeroD Try.prog 18 = some [.nilp] := by kernel_rfl
theorem place_18 : placesT Try.prog 18 = some [(0, 1)] := by kernel_rfl
theorem off_18_0 : fieldOff Try.prog 18 0 = some 0 := by kernel_rfl
theorem fty_18_0 : fieldTy Try.prog 18 0 = some (17, 0) := by kernel_rfl
theorem agg_19 : isAggT Try.prog 19 = some true := by kernel_rfl
theorem size_19 : sizeT Try.prog 19 = some 1 := by kernel_rfl
theorem zero_19 : zeroD Try.prog 19 = some [.nilp] := by kernel_rfl
theorem place_19 : placesT Try.prog 19 = some [(0, 1)] := by kernel_rfl
theorem off_19_0 : fieldOff Try.prog 19 0 = some 0 := by kernel_rfl
theorem fty_19_0 : fieldTy Try.prog 19 0 = some (17, 0) := by kernel_rfl
theorem agg_20 : isAggT Try.prog 20 = some false := by kernel_rfl
theorem size_20 : sizeT Try.prog 20 = some 1 := by kernel_rfl
theorem zero_20 : zeroD Try.prog 20 = some [.nili] := by kernel_rfl
theorem agg_21 : isAggT Try.prog 21 = some false := by kernel_rfl
theorem size_21 : sizeT Try.prog 21 = some 1 := by kernel_rfl
theorem zero_21 : zeroD Try.prog 21 = some [.int .i32 0] := by kernel_rfl
theorem agg_22 : isAggT Try.prog 22 = some false := by kernel_rfl
theorem size_22 : sizeT Try.prog 22 = some 1 := by kernel_rfl
theorem zero_22 : zeroD Try.prog 22 = some [.nils] := by kernel_rfl
theorem und_22 : Try.prog.underlying 22 = some (.slice 4) := by kernel_rfl
theorem agg_23 : isAggT Try.prog 23 = some true := by kernel_rfl
theorem size_23 : sizeT Try.prog 23 = some 3 := by kernel_rfl
theorem zero_23 : zeroD Try.prog 23 = some [.int .i64 0, .int .i64 0, .nils] := by kernel_rfl
theorem place_23 : placesT Try.prog 23 = some [(0, 1), (1, 1), (2, 1)] := by kernel_rfl
theorem off_23_0 : fieldOff Try.prog 23 0 = some 0 := by kernel_rfl
theorem fty_23_0 : fieldTy Try.prog 23 0 = some (3, 0) := by kernel_rfl
theorem off_23_1 : fieldOff Try.prog 23 1 = some 1 := by kernel_rfl
theorem fty_23_1 : fieldTy Try.prog 23 1 = some (3, 1) := by kernel_rfl
theorem off_23_2 : fieldOff Try.prog 23 2 = some 2 := by kernel_rfl
theorem fty_23_2 : fieldTy Try.prog 23 2 = some (22, 2) := by kernel_rfl
theorem agg_24 : isAggT Try.prog 24 = some true := by kernel_rfl
theorem size_24 : sizeT Try.prog 24 = some 3 := by kernel_rfl
theorem zero_24 : zeroD Try.prog 24 = some [.int .i64 0, .int .i64 0, .nils] := by kernel_rfl
theorem place_24 : placesT Try.prog 24 = some [(0, 1), (1, 1), (2, 1)] := by kernel_rfl
theorem off_24_0 : fieldOff Try.prog 24 0 = some 0 := by kernel_rfl
theorem fty_24_0 : fieldTy Try.prog 24 0 = some (3, 0) := by kernel_rfl
theorem off_24_1 : fieldOff Try.prog 24 1 = some 1 := by kernel_rfl
theorem fty_24_1 : fieldTy Try.prog 24 1 = some (3, 1) := by kernel_rfl
theorem off_24_2 : fieldOff Try.prog 24 2 = some 2 := by kernel_rfl
theorem fty_24_2 : fieldTy Try.prog 24 2 = some (22, 2) := by kernel_rfl
theorem agg_25 : isAggT Try.prog 25 = some false := by kernel_rfl
theorem size_25 : sizeT Try.prog 25 = some 1 := by kernel_rfl
theorem zero_25 : zeroD Try.prog 25 = some [.nils] := by kernel_rfl
theorem und_25 : Try.prog.underlying 25 = some (.slice 74) := by kernel_rfl
theorem agg_26 : isAggT Try.prog 26 = some false := by kernel_rfl
theorem size_26 : sizeT Try.prog 26 = some 1 := by kernel_rfl
theorem zero_26 : zeroD Try.prog 26 = some [.nils] := by kernel_rfl
theorem und_26 : Try.prog.underlying 26 = some (.slice 80) := by kernel_rfl
theorem agg_27 : isAggT Try.prog 27 = some true := by kernel_rfl
theorem size_27 : sizeT Try.prog 27 = some 2 := by kernel_rfl
theorem zero_27 : zeroD Try.prog 27 = some [.nils, .nils] := by kernel_rfl
theorem place_27 : placesT Try.prog 27 = some [(0, 1), (1, 1)] := by kernel_rfl
theorem off_27_0 : fieldOff Try.prog 27 0 = some 0 := by kernel_rfl
theorem fty_27_0 : fieldTy Try.prog 27 0 = some (25, 0) := by kernel_rfl
theorem off_27_1 : fieldOff Try.prog 27 1 = some 1 := by kernel_rfl
theorem fty_27_1 : fieldTy Try.prog 27 1 = some (26, 1) := by kernel_rfl
theorem agg_28 : isAggT Try.prog 28 = some true := by kernel_rfl
theorem size_28 : sizeT Try.prog 28 = some 2 := by kernel_rfl
theorem zero_28 : zeroD Try.prog 28 = some [.nils, .nils] := by kernel_rfl
theorem place_28 : placesT Try.prog 28 = some [(0, 1), (1, 1)] := by kernel_rfl
theorem off_28_0 : fieldOff Try.prog 28 0 = some 0 := by kernel_rfl
theorem fty_28_0 : fieldTy Try.prog 28 0 = some (25, 0) := by kernel_rfl
theorem off_28_1 : fieldOff Try.prog 28 1 = some 1 := by kernel_rfl
theorem fty_28_1 : fieldTy Try.prog 28 1 = some (26, 1) := by kernel_rfl
theorem agg_29 : isAggT Try.prog 29 = some false := by kernel_rfl
theorem size_29 : sizeT Try.prog 29 = some 1 := by kernel_rfl
theorem zero_29 : zeroD Try.prog 29 = some [.nils] := by kernel_rfl
theorem und_29 : Try.prog.underlying 29 = some (.slice 3) := by kernel_rfl
theorem bytes_3_29 : Try.prog.bytesOf 3 = 8 := by kernel_rfl
theorem agg_30 : isAggT Try.prog 30 = some true := by kernel_rfl
theorem size_30 : sizeT Try.prog 30 = some 10 := by kernel_rfl
theorem zero_30 : zeroD Try.prog 30 = some [.int .i64 0, .int .i64 0, .nils, .nils, .nils, .int .i64 0, .int .i64 0, .int .i64 0, .int .i64 0, .nils] := by kernel_rfl
theorem place_30 : placesT Try.prog 30 = some [(0, 3), (3, 2), (5, 1), (6, 1), (7, 1), (8, 1), (9, 1)] := by kernel_rfl
theorem off_30_0 : fieldOff Try.prog 30 0 = some 0 := by kernel_rfl
theorem fty_30_0 : fieldTy Try.prog 30 0 = some (24, 0) := by kernel_rfl
theorem off_30_1 : fieldOff Try.prog 30 1 = some 3 := by kernel_rfl
theorem fty_30_1 : fieldTy Try.prog 30 1 = some (28, 3) := by kernel_rfl
theorem off_30_2 : fieldOff Try.prog 30 2 = some 5 := by kernel_rfl
theorem fty_30_2 : fieldTy Try.prog 30 2 = some (3, 5) := by kernel_rfl
theorem off_30_3 : fieldOff Try.prog 30 3 = some 6 := by kernel_rfl
theorem fty_30_3 : fieldTy Try.prog 30 3 = some (3, 6) := by kernel_rfl
theorem off_30_4 : fieldOff Try.prog 30 4 = some 7 := by kernel_rfl
theorem fty_30_4 : fieldTy Try.prog 30 4 = some (3, 7) := by kernel_rfl
theorem off_30_5 : fieldOff Try.prog 30 5 = some 8 := by kernel_rfl
theorem fty_30_5 : fieldTy Try.prog 30 5 = some (3, 8) := by kernel_rfl
theorem off_30_6 : fieldOff Try.prog 30 6 = some 9 := by kernel_rfl
theorem fty_30_6 : fieldTy Try.prog 30 6 = some (29, 9) := by kernel_rfl
theorem agg_31 : isAggT Try.prog 31 = some true := by kernel_rfl
theorem size_31 : sizeT Try.prog 31 = some 10 := by kernel_rfl
theorem zero_31 : zeroD Try.prog 31 = some [.int .i64 0, .int .i64 0, .nils, .nils, .nils, .int .i64 0, .int .i64 0, .int .i64 0, .int .i64 0, .nils] := by kernel_rfl
theorem place_31 : placesT Try.prog 31 = some [(0, 3), (3, 2), (5, 1), (6, 1), (7, 1), (8, 1), (9, 1)] := by kernel_rfl
theorem off_31_0 : fieldOff Try.prog 31 0 = some 0 := by kernel_rfl
theorem fty_31_0 : fieldTy Try.prog 31 0 = some (24, 0) := by kernel_rfl
theorem off_31_1 : fieldOff Try.prog 31 1 = some 3 := by kernel_rfl
theorem fty_31_1 : fieldTy Try.prog 31 1 = some (28, 3) := by kernel_rfl
theorem off_31_2 : fieldOff Try.prog 31 2 = some 5 := by kernel_rfl
theorem fty_31_2 : fieldTy Try.prog 31 2 = some (3, 5) := by kernel_rfl
theorem off_31_3 : fieldOff Try.prog 31 3 = some 6 := by kernel_rfl
theorem fty_31_3 : fieldTy Try.prog 31 3 = some (3, 6) := by kernel_rfl
theorem off_31_4 : fieldOff Try.prog 31 4 = some 7 := by kernel_rfl
theorem fty_31_4 : fieldTy Try.prog 31 4 = some (3, 7) := by kernel_rfl
theorem off_31_5 : fieldOff Try.prog 31 5 = some 8 := by kernel_rfl
theorem fty_31_5 : fieldTy Try.prog 31 5 = some (3, 8) := by kernel_rfl
theorem off_31_6 : fieldOff Try.prog 31 6 = some 9 := by kernel_rfl
theorem fty_31_6 : fieldTy Try.prog 31 6 = some (29, 9) := by kernel_rfl
theorem agg_32 : isAggT Try.prog 32 = some false := by kernel_rfl
theorem size_32 : sizeT Try.prog 32 = some 1 := by kernel_rfl
theorem zero_32 : zeroD Try.prog 32 = some [.nilf] := by kernel_rfl
theorem agg_33 : isAggT Try.prog 33 = some false := by kernel_rfl
theorem size_33 : sizeT Try.prog 33 = some 1 := by kernel_rfl
theorem zero_33 : zeroD Try.prog 33 = some [.nilf] := by kernel_rfl
theorem agg_34 : isAggT Try.prog 34 = some false := by kernel_rfl
theorem size_34 : sizeT Try.prog 34 = some 1 := by kernel_rfl
theorem zero_34 : zeroD Try.prog 34 = some [.int .i64 0] := by kernel_rfl
theorem agg_35 : isAggT Try.prog 35 = some false := by kernel_rfl
theorem size_35 : sizeT Try.prog 35 = some 1 := by kernel_rfl
theorem agg_36 : isAggT Try.prog 36 = some false := by kernel_rfl
theorem size_36 : sizeT Try.prog 36 = some 1 := by kernel_rfl
theorem zero_36 : zeroD Try.prog 36 = some [.nilf] := by kernel_rfl
theorem agg_37 : isAggT Try.prog 37 = some false := by kernel_rfl
theorem size_37 : sizeT Try.prog 37 = some 1 := by kernel_rfl
theorem zero_37 : zeroD Try.prog 37 = some [.nilf] := by kernel_rfl
theorem agg_38 : isAggT Try.prog 38 = some false := by kernel_rfl
theorem size_38 : sizeT Try.prog 38 = some 1 := by kernel_rfl
theorem zero_38 : zeroD Try.prog 38 = some [.nilf] := by kernel_rfl
theorem agg_39 : isAggT Try.prog 39 = some false := by kernel_rfl
theorem size_39 : sizeT Try.prog 39 = some 1 := by kernel_rfl
theorem agg_40 : isAggT Try.prog 40 = some false := by kernel_rfl
theorem size_40 : sizeT Try.prog 40 = some 1 := by kernel_rfl
theorem zero_40 : zeroD Try.prog 40 = some [.nilf] := by kernel_rfl
theorem agg_41 : isAggT Try.prog 41 = some false := by kernel_rfl
theorem size_41 : sizeT Try.prog 41 = some 1 := by kernel_rfl
theorem zero_41 : zeroD Try.prog 41 = some [.nilf] := by kernel_rfl
theorem agg_42 : isAggT Try.prog 42 = some false := by kernel_rfl
theorem size_42 : sizeT Try.prog 42 = some 1 := by kernel_rfl
theorem zero_42 : zeroD Try.prog 42 = some [.nilf] := by kernel_rfl
theorem agg_43 : isAggT Try.prog 43 = some false := by kernel_rfl
theorem size_43 : sizeT Try.prog 43 = some 1 := by kernel_rfl
theorem zero_43 : zeroD Try.prog 43 = some [.nilf] := by kernel_rfl
theorem agg_44 : isAggT Try.prog 44 = some false := by kernel_rfl
theorem size_44 : sizeT Try.prog 44 = some 1 := by kernel_rfl
theorem zero_44 : zeroD Try.prog 44 = some [.nilf] := by kernel_rfl
theorem agg_45 : isAggT Try.prog 45 = some false := by kernel_rfl
theorem size_45 : sizeT Try.prog 45 = some 1 := by kernel_rfl
theorem zero_45 : zeroD Try.prog 45 = some [.nils] := by kernel_rfl
theorem und_45 : Try.prog.underlying 45 = some (.slice 47) := by kernel_rfl
theorem bytes_47_45 : Try.prog.bytesOf 47 = 32 := by kernel_rfl
theorem agg_46 : isAggT Try.prog 46 = some true := by kernel_rfl
theorem size_46 : sizeT Try.prog 46 = some 4 := by kernel_rfl
theorem zero_46 : zeroD Try.prog 46 = some [.int .i64 0, .int .i64 0, .bool false, .int .i64 0] := by kernel_rfl
theorem place_46 : placesT Try.prog 46 = some [(0, 1), (1, 1), (2, 1), (3, 1)] := by kernel_rfl
theorem off_46_0 : fieldOff Try.prog 46 0 = some 0 := by kernel_rfl
theorem fty_46_0 : fieldTy Try.prog 46 0 = some (3, 0) := by kernel_rfl
theorem off_46_1 : fieldOff Try.prog 46 1 = some 1 := by kernel_rfl
theorem fty_46_1 : fieldTy Try.prog 46 1 = some (3, 1) := by kernel_rfl
theorem off_46_2 : fieldOff Try.prog 46 2 = some 2 := by kernel_rfl
theorem fty_46_2 : fieldTy Try.prog 46 2 = some (4, 2) := by kernel_rfl
theorem off_46_3 : fieldOff Try.prog 46 3 = some 3 := by kernel_rfl
theorem fty_46_3 : fieldTy Try.prog 46 3 = some (3, 3) := by kernel_rfl
theorem agg_47 : isAggT Try.prog 47 = some true := by kernel_rfl
theorem size_47 : sizeT Try.prog 47 = some 4 := by kernel_rfl
theorem zero_47 : zeroD Try.prog 47 = some [.int .i64 0, .int .i64 0, .bool false, .int .i64 0] := by kernel_rfl
theorem place_47 : placesT Try.prog 47 = some [(0, 1), (1, 1), (2, 1), (3, 1)] := by kernel_rfl
theorem off_47_0 : fieldOff Try.prog 47 0 = some 0 := by kernel_rfl
theorem fty_47_0 : fieldTy Try.prog 47 0 = some (3, 0) := by kernel_rfl
theorem off_47_1 : fieldOff Try.prog 47 1 = some 1 := by kernel_rfl
theorem fty_47_1 : fieldTy Try.prog 47 1 = some (3, 1) := by kernel_rfl
theorem off_47_2 : fieldOff Try.prog 47 2 = some 2 := by kernel_rfl
theorem fty_47_2 : fieldTy Try.prog 47 2 = some (4, 2) := by kernel_rfl
theorem off_47_3 : fieldOff Try.prog 47 3 = some 3 := by kernel_rfl
theorem fty_47_3 : fieldTy Try.prog 47 3 = some (3, 3) := by kernel_rfl
theorem agg_48 : isAggT Try.prog 48 = some false := by kernel_rfl
theorem size_48 : sizeT Try.prog 48 = some 1 := by kernel_rfl
theorem zero_48 : zeroD Try.prog 48 = some [.nilf] := by kernel_rfl
theorem agg_49 : isAggT Try.prog 49 = some false := by kernel_rfl
theorem size_49 : sizeT Try.prog 49 = some 1 := by kernel_rfl
theorem zero_49 : zeroD Try.prog 49 = some [.nils] := by kernel_rfl
theorem und_49 : Try.prog.underlying 49 = some (.slice 58) := by kernel_rfl
theorem bytes_58_49 : Try.prog.bytesOf 58 = 16 := by kernel_rfl
theorem agg_50 : isAggT Try.prog 50 = some false := by kernel_rfl
theorem size_50 : sizeT Try.prog 50 = some 1 := by kernel_rfl
theorem agg_51 : isAggT Try.prog 51 = some false := by kernel_rfl
theorem size_51 : sizeT Try.prog 51 = some 1 := by kernel_rfl
theorem zero_51 : zeroD Try.prog 51 = some [.nilf] := by kernel_rfl
theorem agg_52 : isAggT Try.prog 52 = some false := by kernel_rfl
theorem size_52 : sizeT Try.prog 52 = some 1 := by kernel_rfl
theorem zero_52 : zeroD Try.prog 52 = some [.nilf] := by kernel_rfl
theorem agg_53 : isAggT Try.prog 53 = some false := by kernel_rfl
theorem size_53 : sizeT Try.prog 53 = some 1 := by kernel_rfl
theorem agg_54 : isAggT Try.prog 54 = some false := by kernel_rfl
theorem size_54 : sizeT Try.prog 54 = some 1 := by kernel_rfl
theorem zero_54 : zeroD Try.prog 54 = some [.nilf] := by kernel_rfl
theorem agg_55 : isAggT Try.prog 55 = some false := by kernel_rfl
theorem size_55 : sizeT Try.prog 55 = some 1 := by kernel_rfl
theorem zero_55 : zeroD Try.prog 55 = some [.nilf] := by kernel_rfl
theorem agg_56 : isAggT Try.prog 56 = some false := by kernel_rfl
theorem size_56 : sizeT Try.prog 56 = some 1 := by kernel_rfl
theorem zero_56 : zeroD Try.prog 56 = some [.nilf] := by kernel_rfl
theorem agg_57 : isAggT Try.prog 57 = some true := by kernel_rfl
theorem size_57 : sizeT Try.prog 57 = some 2 := by kernel_rfl
theorem zero_57 : zeroD Try.prog 57 = some [.int .i64 0, .int .i64 0] := by kernel_rfl
theorem place_57 : placesT Try.prog 57 = some [(0, 1), (1, 1)] := by kernel_rfl
theorem off_57_0 : fieldOff Try.prog 57 0 = some 0 := by kernel_rfl
theorem fty_57_0 : fieldTy Try.prog 57 0 = some (3, 0) := by kernel_rfl
theorem off_57_1 : fieldOff Try.prog 57 1 = some 1 := by kernel_rfl
theorem fty_57_1 : fieldTy Try.prog 57 1 = some (3, 1) := by kernel_rfl
theorem agg_58 : isAggT Try.prog 58 = some true := by kernel_rfl
theorem size_58 : sizeT Try.prog 58 = some 2 := by kernel_rfl
theorem zero_58 : zeroD Try.prog 58 = some [.int .i64 0, .int .i64 0] := by kernel_rfl
theorem place_58 : placesT Try.prog 58 = some [(0, 1), (1, 1)] := by kernel_rfl
theorem off_58_0 : fieldOff Try.prog 58 0 = some 0 := by kernel_rfl
theorem fty_58_0 : fieldTy Try.prog 58 0 = some (3, 0) := by kernel_rfl
theorem off_58_1 : fieldOff Try.prog 58 1 = some 1 := by kernel_rfl
theorem fty_58_1 : fieldTy Try.prog 58 1 = some (3, 1) := by kernel_rfl
theorem agg_59 : isAggT Try.prog 59 = some false := by kernel_rfl
theorem size_59 : sizeT Try.prog 59 = some 1 := by kernel_rfl
theorem zero_59 : zeroD Try.prog 59 = some [.nilf] := by kernel_rfl
theorem agg_60 : isAggT Try.prog 60 = some false := by kernel_rfl
theorem size_60 : sizeT Try.prog 60 = some 1 := by kernel_rfl
theorem zero_60 : zeroD Try.prog 60 = some [.nilf] := by kernel_rfl
theorem agg_61 : isAggT Try.prog 61 = some false := by kernel_rfl
theorem size_61 : sizeT Try.prog 61 = some 1 := by kernel_rfl
theorem zero_61 : zeroD Try.prog 61 = some [.nilf] := by kernel_rfl
theorem agg_62 : isAggT Try.prog 62 = some false := by kernel_rfl
theorem size_62 : sizeT Try.prog 62 = some 1 := by kernel_rfl
theorem agg_63 : isAggT Try.prog 63 = some false := by kernel_rfl
theorem size_63 : sizeT Try.prog 63 = some 1 := by kernel_rfl
theorem zero_63 : zeroD Try.prog 63 = some [.nilf] := by kernel_rfl
theorem agg_64 : isAggT Try.prog 64 = some false := by kernel_rfl
theorem size_64 : sizeT Try.prog 64 = some 1 := by kernel_rfl
theorem zero_64 : zeroD Try.prog 64 = some [.nilf] := by kernel_rfl
theorem agg_65 : isAggT Try.prog 65 = some false := by kernel_rfl
theorem size_65 : sizeT Try.prog 65 = some 1 := by kernel_rfl
theorem zero_65 : zeroD Try.prog 65 = some [.nilf] := by kernel_rfl
theorem agg_66 : isAggT Try.prog 66 = some false := by kernel_rfl
theorem size_66 : sizeT Try.prog 66 = some 1 := by kernel_rfl
theorem zero_66 : zeroD Try.prog 66 = some [.nilf] := by kernel_rfl
theorem agg_67 : isAggT Try.prog 67 = some false := by kernel_rfl
theorem size_67 : sizeT Try.prog 67 = some 1 := by kernel_rfl
theorem agg_68 : isAggT Try.prog 68 = some false := by kernel_rfl
theorem size_68 : sizeT Try.prog 68 = some 1 := by kernel_rfl
theorem zero_68 : zeroD Try.prog 68 = some [.nilf] := by kernel_rfl
theorem agg_69 : isAggT Try.prog 69 = some false := by kernel_rfl
theorem size_69 : sizeT Try.prog 69 = some 1 := by kernel_rfl
theorem zero_69 : zeroD Try.prog 69 = some [.nilf] := by kernel_rfl
theorem agg_70 : isAggT Try.prog 70 = some false := by kernel_rfl
theorem size_70 : sizeT Try.prog 70 = some 1 := by kernel_rfl
theorem zero_70 : zeroD Try.prog 70 = some [.nilf] := by kernel_rfl
theorem agg_71 : isAggT Try.prog 71 = some false := by kernel_rfl
theorem size_71 : sizeT Try.prog 71 = some 1 := by kernel_rfl
theorem zero_71 : zeroD Try.prog 71 = some [.nilf] := by kernel_rfl
theorem agg_72 : isAggT Try.prog 72 = some false := by kernel_rfl
theorem size_72 : sizeT Try.prog 72 = some 1 := by kernel_rfl
theorem zero_72 : zeroD Try.prog 72 = some [.nils] := by kernel_rfl
theorem und_72 : Try.prog.underlying 72 = some (.slice 125) := by kernel_rfl
theorem agg_73 : isAggT Try.prog 73 = some true := by kernel_rfl
theorem size_73 : sizeT Try.prog 73 = some 3 := by kernel_rfl
theorem zero_73 : zeroD Try.prog 73 = some [.int .i64 0, .int .i64 0, .nils] := by kernel_rfl
theorem place_73 : placesT Try.prog 73 = some [(0, 1), (1, 1), (2, 1)] := by kernel_rfl
theorem off_73_0 : fieldOff Try.prog 73 0 = some 0 := by kernel_rfl
theorem fty_73_0 : fieldTy Try.prog 73 0 = some (3, 0) := by kernel_rfl
theorem off_73_1 : fieldOff Try.prog 73 1 = some 1 := by kernel_rfl
theorem fty_73_1 : fieldTy Try.prog 73 1 = some (3, 1) := by kernel_rfl
theorem off_73_2 : fieldOff Try.prog 73 2 = some 2 := by kernel_rfl
theorem fty_73_2 : fieldTy Try.prog 73 2 = some (72, 2) := by kernel_rfl
theorem agg_74 : isAggT Try.prog 74 = some true := by kernel_rfl
theorem size_74 : sizeT Try.prog 74 = some 3 := by kernel_rfl
theorem zero_74 : zeroD Try.prog 74 = some [.int .i64 0, .int .i64 0, .nils] := by kernel_rfl
theorem place_74 : placesT Try.prog 74 = some [(0, 1), (1, 1), (2, 1)] := by kernel_rfl
theorem off_74_0 : fieldOff Try.prog 74 0 = some 0 := by kernel_rfl
theorem fty_74_0 : fieldTy Try.prog 74 0 = some (3, 0) := by kernel_rfl
theorem off_74_1 : fieldOff Try.prog 74 1 = some 1 := by kernel_rfl
theorem fty_74_1 : fieldTy Try.prog 74 1 = some (3, 1) := by kernel_rfl
theorem off_74_2 : fieldOff Try.prog 74 2 = some 2 := by kernel_rfl
theorem fty_74_2 : fieldTy Try.prog 74 2 = some (72, 2) := by kernel_rfl
theorem agg_75 : isAggT Try.prog 75 = some false := by kernel_rfl
theorem size_75 : sizeT Try.prog 75 = some 1 := by kernel_rfl
theorem zero_75 : zeroD Try.prog 75 = some [.nilf] := by kernel_rfl
theorem agg_76 : isAggT Try.prog 76 = some false := by kernel_rfl
theorem size_76 : sizeT Try.prog 76 = some 1 := by kernel_rfl
theorem zero_76 : zeroD Try.prog 76 = some [.nilf] := by kernel_rfl
theorem agg_77 : isAggT Try.prog 77 = some false := by kernel_rfl
theorem size_77 : sizeT Try.prog 77 = some 1 := by kernel_rfl
theorem zero_77 : zeroD Try.prog 77 = some [.nilf] := by kernel_rfl
theorem agg_78 : isAggT Try.prog 78 = some false := by kernel_rfl
theorem size_78 : sizeT Try.prog 78 = some 1 := by kernel_rfl
theorem zero_78 : zeroD Try.prog 78 = some [.nilf] := by kernel_rfl
theorem agg_79 : isAggT Try.prog 79 = some true := by kernel_rfl
theorem size_79 : sizeT Try.prog 79 = some 4 := by kernel_rfl
theorem zero_79 : zeroD Try.prog 79 = some [.int .i64 0, .int .i64 0, .int .i64 0, .nils] := by kernel_rfl
theorem place_79 : placesT Try.prog 79 = some [(0, 1), (1, 1), (2, 1), (3, 1)] := by kernel_rfl
theorem off_79_0 : fieldOff Try.prog 79 0 = some 0 := by kernel_rfl
theorem fty_79_0 : fieldTy Try.prog 79 0 = some (3, 0) := by kernel_rfl
theorem off_79_1 : fieldOff Try.prog 79 1 = some 1 := by kernel_rfl
theorem fty_79_1 : fieldTy Try.prog 79 1 = some (3, 1) := by kernel_rfl
theorem off_79_2 : fieldOff Try.prog 79 2 = some 2 := by kernel_rfl
theorem fty_79_2 : fieldTy Try.prog 79 2 = some (3, 2) := by kernel_rfl
theorem off_79_3 : fieldOff Try.prog 79 3 = some 3 := by kernel_rfl
theorem fty_79_3 : fieldTy Try.prog 79 3 = some (72, 3) := by kernel_rfl
theorem agg_80 : isAggT Try.prog 80 = some true := by kernel_rfl
theorem size_80 : sizeT Try.prog 80 = some 4 := by kernel_rfl
theorem zero_80 : zeroD Try.prog 80 = some [.int .i64 0, .int .i64 0, .int .i64 0, .nils] := by kernel_rfl
theorem place_80 : placesT Try.prog 80 = some [(0, 1), (1, 1), (2, 1), (3, 1)] := by kernel_rfl
theorem off_80_0 : fieldOff Try.prog 80 0 = some 0 := by kernel_rfl
theorem fty_80_0 : fieldTy Try.prog 80 0 = some (3, 0) := by kernel_rfl
theorem off_80_1 : fieldOff Try.prog 80 1 = some 1 := by kernel_rfl
theorem fty_80_1 : fieldTy Try.prog 80 1 = some (3, 1) := by kernel_rfl
theorem off_80_2 : fieldOff Try.prog 80 2 = some 2 := by kernel_rfl
theorem fty_80_2 : fieldTy Try.prog 80 2 = some (3, 2) := by kernel_rfl
theorem off_80_3 : fieldOff Try.prog 80 3 = some 3 := by kernel_rfl
theorem fty_80_3 : fieldTy Try.prog 80 3 = some (72, 3) := by kernel_rfl
theorem agg_81 : isAggT Try.prog 81 = some false := by kernel_rfl
theorem size_81 : sizeT Try.prog 81 = some 1 := by kernel_rfl
theorem zero_81 : zeroD Try.prog 81 = some [.nilf] := by kernel_rfl
theorem agg_82 : isAggT Try.prog 82 = some false := by kernel_rfl
theorem size_82 : sizeT Try.prog 82 = some 1 := by kernel_rfl
theorem zero_82 : zeroD Try.prog 82 = some [.nilf] := by kernel_rfl
theorem agg_83 : isAggT Try.prog 83 = some false := by kernel_rfl
theorem size_83 : sizeT Try.prog 83 = some 1 := by kernel_rfl
theorem zero_83 : zeroD Try.prog 83 = some [.nilf] := by kernel_rfl
theorem agg_84 : isAggT Try.prog 84 = some false := by kernel_rfl
theorem size_84 : sizeT Try.prog 84 = some 1 := by kernel_rfl
theorem zero_84 : zeroD Try.prog 84 = some [.nilf] := by kernel_rfl
theorem agg_85 : isAggT Try.prog 85 = some false := by kernel_rfl
theorem size_85 : sizeT Try.prog 85 = some 1 := by kernel_rfl
theorem zero_85 : zeroD Try.prog 85 = some [.nilm] := by kernel_rfl
theorem agg_86 : isAggT Try.prog 86 = some false := by kernel_rfl
theorem size_86 : sizeT Try.prog 86 = some 1 := by kernel_rfl
theorem zero_86 : zeroD Try.prog 86 = some [.nilf] := by kernel_rfl
theorem agg_87 : isAggT Try.prog 87 = some false := by kernel_rfl
theorem size_87 : sizeT Try.prog 87 = some 1 := by kernel_rfl
theorem agg_88 : isAggT Try.prog 88 = some false := by kernel_rfl
theorem size_88 : sizeT Try.prog 88 = some 1 := by kernel_rfl
theorem agg_89 : isAggT Try.prog 89 = some false := by kernel_rfl
theorem size_89 : sizeT Try.prog 89 = some 1 := by kernel_rfl
theorem zero_89 : zeroD Try.prog 89 = some [.nilf] := by kernel_rfl
theorem agg_90 : isAggT Try.prog 90 = some false := by kernel_rfl
theorem size_90 : sizeT Try.prog 90 = some 1 := by kernel_rfl
theorem zero_90 : zeroD Try.prog 90 = some [.nils] := by kernel_rfl
theorem und_90 : Try.prog.underlying 90 = some (.slice 29) := by kernel_rfl
theorem bytes_29_90 : Try.prog.bytesOf 29 = 24 := by kernel_rfl
theorem agg_91 : isAggT Try.prog 91 = some false := by kernel_rfl
theorem size_91 : sizeT Try.prog 91 = some 1 := by kernel_rfl
theorem zero_91 : zeroD Try.prog 91 = some [.nilf] := by kernel_rfl
theorem agg_92 : isAggT Try.prog 92 = some false := by kernel_rfl
theorem size_92 : sizeT Try.prog 92 = some 1 := by kernel_rfl
theorem zero_92 : zeroD Try.prog 92 = some [.nilf] := by kernel_rfl
theorem agg_93 : isAggT Try.prog 93 = some false := by kernel_rfl
theorem size_93 : sizeT Try.prog 93 = some 1 := by kernel_rfl
theorem zero_93 : zeroD Try.prog 93 = some [.nilf] := by kernel_rfl
theorem agg_94 : isAggT Try.prog 94 = some false := by kernel_rfl
theorem size_94 : sizeT Try.prog 94 = some 1 := by kernel_rfl
theorem zero_94 : zeroD Try.prog 94 = some [.nilf] := by kernel_rfl
theorem agg_95 : isAggT Try.prog 95 = some false := by kernel_rfl
theorem size_95 : sizeT Try.prog 95 = some 1 := by kernel_rfl
theorem zero_95 : zeroD Try.prog 95 = some [.nilp] := by kernel_rfl
theorem agg_96 : isAggT Try.prog 96 = some false := by kernel_rfl
theorem size_96 : sizeT Try.prog 96 = some 1 := by kernel_rfl
theorem zero_96 : zeroD Try.prog 96 = some [.nilf] := by kernel_rfl
theorem agg_97 : isAggT Try.prog 97 = some false := by kernel_rfl
theorem size_97 : sizeT Try.prog 97 = some 1 := by kernel_rfl
theorem zero_97 : zeroD Try.prog 97 = some [.nilf] := by kernel_rfl
theorem agg_98 : isAggT Try.prog 98 = some false := by kernel_rfl
theorem size_98 : sizeT Try.prog 98 = some 1 := by kernel_rfl
theorem zero_98 : zeroD Try.prog 98 = some [.nilp] := by kernel_rfl
theorem agg_99 : isAggT Try.prog 99 = some false := by kernel_rfl
theorem size_99 : sizeT Try.prog 99 = some 1 := by kernel_rfl
theorem zero_99 : zeroD Try.prog 99 = some [.nilm] := by kernel_rfl
theorem agg_100 : isAggT Try.prog 100 = some true := by kernel_rfl
theorem size_100 : sizeT Try.prog 100 = some 4 := by kernel_rfl
theorem zero_100 : zeroD Try.prog 100 = some [.nilp, .int .i64 0, .nilm, .nilm] := by kernel_rfl
theorem place_100 : placesT Try.prog 100 = some [(0, 1), (1, 1), (2, 1), (3, 1)] := by kernel_rfl
theorem off_100_0 : fieldOff Try.prog 100 0 = some 0 := by kernel_rfl
theorem fty_100_0 : fieldTy Try.prog 100 0 = some (95, 0) := by kernel_rfl
theorem off_100_1 : fieldOff Try.prog 100 1 = some 1 := by kernel_rfl
theorem fty_100_1 : fieldTy Try.prog 100 1 = some (3, 1) := by kernel_rfl
theorem off_100_2 : fieldOff Try.prog 100 2 = some 2 := by kernel_rfl
theorem fty_100_2 : fieldTy Try.prog 100 2 = some (99, 2) := by kernel_rfl
theorem off_100_3 : fieldOff Try.prog 100 3 = some 3 := by kernel_rfl
theorem fty_100_3 : fieldTy Try.prog 100 3 = some (99, 3) := by kernel_rfl
theorem agg_101 : isAggT Try.prog 101 = some true := by kernel_rfl
theorem size_101 : sizeT Try.prog 101 = some 4 := by kernel_rfl
theorem zero_101 : zeroD Try.prog 101 = some [.nilp, .int .i64 0, .nilm, .nilm] := by kernel_rfl
theorem place_101 : placesT Try.prog 101 = some [(0, 1), (1, 1), (2, 1), (3, 1)] := by kernel_rfl
theorem off_101_0 : fieldOff Try.prog 101 0 = some 0 := by kernel_rfl
theorem fty_101_0 : fieldTy Try.prog 101 0 = some (95, 0) := by kernel_rfl
theorem off_101_1 : fieldOff Try.prog 101 1 = some 1 := by kernel_rfl
theorem fty_101_1 : fieldTy Try.prog 101 1 = some (3, 1) := by kernel_rfl
theorem off_101_2 : fieldOff Try.prog 101 2 = some 2 := by kernel_rfl
theorem fty_101_2 : fieldTy Try.prog 101 2 = some (99, 2) := by kernel_rfl
theorem off_101_3 : fieldOff Try.prog 101 3 = some 3 := by kernel_rfl
theorem fty_101_3 : fieldTy Try.prog 101 3 = some (99, 3) := by kernel_rfl
theorem agg_102 : isAggT Try.prog 102 = some true := by kernel_rfl
theorem size_102 : sizeT Try.prog 102 = some 4 := by kernel_rfl
theorem zero_102 : zeroD Try.prog 102 = some [.nilf, .nilf, .nilf, .nilf] := by kernel_rfl
theorem und_102 : Try.prog.underlying 102 = some (.array 4 1) := by kernel_rfl
theorem place_102 : placesT Try.prog 102 = some [(0, 1), (1, 1), (2, 1), (3, 1)] := by kernel_rfl
theorem agg_103 : isAggT Try.prog 103 = some false := by kernel_rfl
theorem size_103 : sizeT Try.prog 103 = some 1 := by kernel_rfl
theorem zero_103 : zeroD Try.prog 103 = some [.nilf] := by kernel_rfl
theorem agg_104 : isAggT Try.prog 104 = some false := by kernel_rfl
theorem size_104 : sizeT Try.prog 104 = some 1 := by kernel_rfl
theorem zero_104 : zeroD Try.prog 104 = some [.nilf] := by kernel_rfl
theorem agg_105 : isAggT Try.prog 105 = some true := by kernel_rfl
theorem size_105 : sizeT Try.prog 105 = some 2 := by kernel_rfl
theorem zero_105 : zeroD Try.prog 105 = some [.int .i64 0, .int .i64 0] := by kernel_rfl
theorem place_105 : placesT Try.prog 105 = some [(0, 1), (1, 1)] := by kernel_rfl
theorem off_105_0 : fieldOff Try.prog 105 0 = some 0 := by kernel_rfl
theorem fty_105_0 : fieldTy Try.prog 105 0 = some (3, 0) := by kernel_rfl
theorem off_105_1 : fieldOff Try.prog 105 1 = some 1 := by kernel_rfl
theorem fty_105_1 : fieldTy Try.prog 105 1 = some (3, 1) := by kernel_rfl
theorem agg_106 : isAggT Try.prog 106 = some true := by kernel_rfl
theorem size_106 : sizeT Try.prog 106 = some 2 := by kernel_rfl
theorem zero_106 : zeroD Try.prog 106 = some [.int .i64 0, .int .i64 0] := by kernel_rfl
theorem place_106 : placesT Try.prog 106 = some [(0, 1), (1, 1)] := by kernel_rfl
theorem off_106_0 : fieldOff Try.prog 106 0 = some 0 := by kernel_rfl
theorem fty_106_0 : fieldTy Try.prog 106 0 = some (3, 0) := by kernel_rfl
theorem off_106_1 : fieldOff Try.prog 106 1 = some 1 := by kernel_rfl
theorem fty_106_1 : fieldTy Try.prog 106 1 = some (3, 1) := by kernel_rfl
theorem agg_107 : isAggT Try.prog 107 = some false := by kernel_rfl
theorem size_107 : sizeT Try.prog 107 = some 1 := by kernel_rfl
theorem zero_107 : zeroD Try.prog 107 = some [.nilf] := by kernel_rfl
theorem agg_108 : isAggT Try.prog 108 = some false := by kernel_rfl
theorem size_108 : sizeT Try.prog 108 = some 1 := by kernel_rfl
theorem zero_108 : zeroD Try.prog 108 = some [.nilm] := by kernel_rfl
theorem agg_109 : isAggT Try.prog 109 = some false := by kernel_rfl
theorem size_109 : sizeT Try.prog 109 = some 1 := by kernel_rfl
theorem zero_109 : zeroD Try.prog 109 = some [.nils] := by kernel_rfl
theorem und_109 : Try.prog.underlying 109 = some (.slice 106) := by kernel_rfl
theorem bytes_106_109 : Try.prog.bytesOf 106 = 16 := by kernel_rfl
theorem agg_110 : isAggT Try.prog 110 = some false := by kernel_rfl
theorem size_110 : sizeT Try.prog 110 = some 1 := by kernel_rfl
theorem zero_110 : zeroD Try.prog 110 = some [.nilf] := by kernel_rfl
theorem agg_111 : isAggT Try.prog 111 = some false := by kernel_rfl
theorem size_111 : sizeT Try.prog 111 = some 1 := by kernel_rfl
theorem zero_111 : zeroD Try.prog 111 = some [.nilf] := by kernel_rfl
theorem agg_112 : isAggT Try.prog 112 = some false := by kernel_rfl
theorem size_112 : sizeT Try.prog 112 = some 1 := by kernel_rfl
theorem zero_112 : zeroD Try.prog 112 = some [.nilf] := by kernel_rfl
theorem agg_113 : isAggT Try.prog 113 = some false := by kernel_rfl
theorem size_113 : sizeT Try.prog 113 = some 1 := by kernel_rfl
theorem agg_114 : isAggT Try.prog 114 = some false := by kernel_rfl
theorem size_114 : sizeT Try.prog 114 = some 1 := by kernel_rfl
theorem zero_114 : zeroD Try.prog 114 = some [.nilf] := by kernel_rfl
theorem agg_115 : isAggT Try.prog 115 = some true := by kernel_rfl
theorem size_115 : sizeT Try.prog 115 = some 2 := by kernel_rfl
theorem zero_115 : zeroD Try.prog 115 = some [.nils, .int .i64 0] := by kernel_rfl
theorem place_115 : placesT Try.prog 115 = some [(0, 1), (1, 1)] := by kernel_rfl
theorem off_115_0 : fieldOff Try.prog 115 0 = some 0 := by kernel_rfl
theorem fty_115_0 : fieldTy Try.prog 115 0 = some (29, 0) := by kernel_rfl
theorem off_115_1 : fieldOff Try.prog 115 1 = some 1 := by kernel_rfl
theorem fty_115_1 : fieldTy Try.prog 115 1 = some (3, 1) := by kernel_rfl
theorem agg_116 : isAggT Try.prog 116 = some true := by kernel_rfl
theorem size_116 : sizeT Try.prog 116 = some 2 := by kernel_rfl
theorem zero_116 : zeroD Try.prog 116 = some [.nils, .int .i64 0] := by kernel_rfl
theorem place_116 : placesT Try.prog 116 = some [(0, 1), (1, 1)] := by kernel_rfl
theorem off_116_0 : fieldOff Try.prog 116 0 = some 0 := by kernel_rfl
theorem fty_116_0 : fieldTy Try.prog 116 0 = some (29, 0) := by kernel_rfl
theorem off_116_1 : fieldOff Try.prog 116 1 = some 1 := by kernel_rfl
theorem fty_116_1 : fieldTy Try.prog 116 1 = some (3, 1) := by kernel_rfl
theorem agg_117 : isAggT Try.prog 117 = some false := by kernel_rfl
theorem size_117 : sizeT Try.prog 117 = some 1 := by kernel_rfl
theorem zero_117 : zeroD Try.prog 117 = some [.nils] := by kernel_rfl
theorem und_117 : Try.prog.underlying 117 = some (.slice 116) := by kernel_rfl
theorem agg_118 : isAggT Try.prog 118 = some false := by kernel_rfl
theorem size_118 : sizeT Try.prog 118 = some 1 := by kernel_rfl
theorem zero_118 : zeroD Try.prog 118 = some [.nilf] := by kernel_rfl
theorem agg_119 : isAggT Try.prog 119 = some false := by kernel_rfl
theorem size_119 : sizeT Try.prog 119 = some 1 := by kernel_rfl
theorem zero_119 : zeroD Try.prog 119 = some [.nilf] := by kernel_rfl
theorem agg_120 : isAggT Try.prog 120 = some false := by kernel_rfl
theorem size_120 : sizeT Try.prog 120 = some 1 := by kernel_rfl
theorem zero_120 : zeroD Try.prog 120 = some [.nilf] := by kernel_rfl
theorem agg_121 : isAggT Try.prog 121 = some false := by kernel_rfl
theorem size_121 : sizeT Try.prog 121 = some 1 := by kernel_rfl
theorem zero_121 : zeroD Try.prog 121 = some [.nilf] := by kernel_rfl
theorem agg_122 : isAggT Try.prog 122 = some false := by kernel_rfl
theorem size_122 : sizeT Try.prog 122 = some 1 := by kernel_rfl
theorem zero_122 : zeroD Try.prog 122 = some [.nilf] := by kernel_rfl
theorem agg_123 : isAggT Try.prog 123 = some false := by kernel_rfl
theorem size_123 : sizeT Try.prog 123 = some 1 := by kernel_rfl
theorem zero_123 : zeroD Try.prog 123 = some [.nilf] := by kernel_rfl
theorem agg_124 : isAggT Try.prog 124 = some true := by kernel_rfl
theorem size_124 : sizeT Try.prog 124 = some 2 := by kernel_rfl
theorem zero_124 : zeroD Try.prog 124 = some [.int .i64 0, .int .i64 0] := by kernel_rfl
theorem place_124 : placesT Try.prog 124 = some [(0, 1), (1, 1)] := by kernel_rfl
theorem off_124_0 : fieldOff Try.prog 124 0 = some 0 := by kernel_rfl
theorem fty_124_0 : fieldTy Try.prog 124 0 = some (3, 0) := by kernel_rfl
theorem off_124_1 : fieldOff Try.prog 124 1 = some 1 := by kernel_rfl
theorem fty_124_1 : fieldTy Try.prog 124 1 = some (3, 1) := by kernel_rfl
theorem agg_125 : isAggT Try.prog 125 = some true := by kernel_rfl
theorem size_125 : sizeT Try.prog 125 = some 2 := by kernel_rfl
theorem zero_125 : zeroD Try.prog 125 = some [.int .i64 0, .int .i64 0] := by kernel_rfl
theorem place_125 : placesT Try.prog 125 = some [(0, 1), (1, 1)] := by kernel_rfl
theorem off_125_0 : fieldOff Try.prog 125 0 = some 0 := by kernel_rfl
theorem fty_125_0 : fieldTy Try.prog 125 0 = some (3, 0) := by kernel_rfl
theorem off_125_1 : fieldOff Try.prog 125 1 = some 1 := by kernel_rfl
theorem fty_125_1 : fieldTy Try.prog 125 1 = some (3, 1) := by kernel_rfl
theorem agg_126 : isAggT Try.prog 126 = some false := by kernel_rfl
theorem size_126 : sizeT Try.prog 126 = some 1 := by kernel_rfl
theorem zero_126 : zeroD Try.prog 126 = some [.nilf] := by kernel_rfl
theorem agg_127 : isAggT Try.prog 127 = some false := by kernel_rfl
theorem size_127 : sizeT Try.prog 127 = some 1 := by kernel_rfl
theorem zero_127 : zeroD Try.prog 127 = some [.nilf] := by kernel_rfl
theorem agg_128 : isAggT Try.prog 128 = some false := by kernel_rfl
theorem size_128 : sizeT Try.prog 128 = some 1 := by kernel_rfl
theorem zero_128 : zeroD Try.prog 128 = some [.nilf] := by kernel_rfl
theorem agg_129 : isAggT Try.prog 129 = some true := by kernel_rfl
theorem size_129 : sizeT Try.prog 129 = some 12 := by kernel_rfl
theorem zero_129 : zeroD Try.prog 129 = some [.int .i64 0, .int .i64 0, .nils, .nils, .nils, .int .i64 0, .int .i64 0, .int .i64 0, .int .i64 0, .nils, .nils, .int .i64 0] := by kernel_rfl
theorem place_129 : placesT Try.prog 129 = some [(0, 10), (10, 1), (11, 1)] := by kernel_rfl
theorem off_129_0 : fieldOff Try.prog 129 0 = some 0 := by kernel_rfl
theorem fty_129_0 : fieldTy Try.prog 129 0 = some (31, 0) := by kernel_rfl
theorem off_129_1 : fieldOff Try.prog 129 1 = some 10 := by kernel_rfl
theorem fty_129_1 : fieldTy Try.prog 129 1 = some (45, 10) := by kernel_rfl
theorem off_129_2 : fieldOff Try.prog 129 2 = some 11 := by kernel_rfl
theorem fty_129_2 : fieldTy Try.prog 129 2 = some (3, 11) := by kernel_rfl
theorem agg_130 : isAggT Try.prog 130 = some true := by kernel_rfl
theorem size_130 : sizeT Try.prog 130 = some 12 := by kernel_rfl
theorem zero_130 : zeroD Try.prog 130 = some [.int .i64 0, .int .i64 0, .nils, .nils, .nils, .int .i64 0, .int .i64 0, .int .i64 0, .int .i64 0, .nils, .nils, .int .i64 0] := by kernel_rfl
theorem place_130 : placesT Try.prog 130 = some [(0, 10), (10, 1), (11, 1)] := by kernel_rfl
theorem off_130_0 : fieldOff Try.prog 130 0 = some 0 := by kernel_rfl
theorem fty_130_0 : fieldTy Try.prog 130 0 = some (31, 0) := by kernel_rfl
theorem off_130_1 : fieldOff Try.prog 130 1 = some 10 := by kernel_rfl
theorem fty_130_1 : fieldTy Try.prog 130 1 = some (45, 10) := by kernel_rfl
theorem off_130_2 : fieldOff Try.prog 130 2 = some 11 := by kernel_rfl
theorem fty_130_2 : fieldTy Try.prog 130 2 = some (3, 11) := by kernel_rfl
theorem agg_131 : isAggT Try.prog 131 = some false := by kernel_rfl
theorem size_131 : sizeT Try.prog 131 = some 1 := by kernel_rfl
theorem zero_131 : zeroD Try.prog 131 = some [.nilf] := by kernel_rfl
theorem agg_132 : isAggT Try.prog 132 = some true := by kernel_rfl
theorem size_132 : sizeT Try.prog 132 = some 2 := by kernel_rfl
theorem zero_132 : zeroD Try.prog 132 = some [.int .i64 0, .bool false] := by kernel_rfl
theorem place_132 : placesT Try.prog 132 = some [(0, 1), (1, 1)] := by kernel_rfl
theorem off_132_0 : fieldOff Try.prog 132 0 = some 0 := by kernel_rfl
theorem fty_132_0 : fieldTy Try.prog 132 0 = some (3, 0) := by kernel_rfl
theorem off_132_1 : fieldOff Try.prog 132 1 = some 1 := by kernel_rfl
theorem fty_132_1 : fieldTy Try.prog 132 1 = some (4, 1) := by kernel_rfl
theorem agg_133 : isAggT Try.prog 133 = some true := by kernel_rfl
theorem size_133 : sizeT Try.prog 133 = some 2 := by kernel_rfl
theorem zero_133 : zeroD Try.prog 133 = some [.int .i64 0, .bool false] := by kernel_rfl
theorem place_133 : placesT Try.prog 133 = some [(0, 1), (1, 1)] := by kernel_rfl
theorem off_133_0 : fieldOff Try.prog 133 0 = some 0 := by kernel_rfl
theorem fty_133_0 : fieldTy Try.prog 133 0 = some (3, 0) := by kernel_rfl
theorem off_133_1 : fieldOff Try.prog 133 1 = some 1 := by kernel_rfl
theorem fty_133_1 : fieldTy Try.prog 133 1 = some (4, 1) := by kernel_rfl
theorem agg_134 : isAggT Try.prog 134 = some true := by kernel_rfl
theorem size_134 : sizeT Try.prog 134 = some 2 := by kernel_rfl
theorem zero_134 : zeroD Try.prog 134 = some [.nilm, .nilm] := by kernel_rfl
theorem und_134 : Try.prog.underlying 134 = some (.array 2 99) := by kernel_rfl
theorem place_134 : placesT Try.prog 134 = some [(0, 1), (1, 1)] := by kernel_rfl
theorem agg_135 : isAggT Try.prog 135 = some false := by kernel_rfl
theorem size_135 : sizeT Try.prog 135 = some 1 := by kernel_rfl
theorem zero_135 : zeroD Try.prog 135 = some [.nilf] := by kernel_rfl
theorem agg_136 : isAggT Try.prog 136 = some false := by kernel_rfl
theorem size_136 : sizeT Try.prog 136 = some 1 := by kernel_rfl
theorem zero_136 : zeroD Try.prog 136 = some [.nilf] := by kernel_rfl
theorem agg_137 : isAggT Try.prog 137 = some false := by kernel_rfl
theorem size_137 : sizeT Try.prog 137 = some 1 := by kernel_rfl
theorem zero_137 : zeroD Try.prog 137 = some [.nilf] := by kernel_rfl
theorem agg_138 : isAggT Try.prog 138 = some false := by kernel_rfl
theorem size_138 : sizeT Try.prog 138 = some 1 := by kernel_rfl
theorem zero_138 : zeroD Try.prog 138 = some [.nilf] := by kernel_rfl
theorem agg_139 : isAggT Try.prog 139 = some false := by kernel_rfl
theorem size_139 : sizeT Try.prog 139 = some 1 := by kernel_rfl
theorem zero_139 : zeroD Try.prog 139 = some [.nilf] := by kernel_rfl
theorem agg_140 : isAggT Try.prog 140 = some false := by kernel_rfl
theorem size_140 : sizeT Try.prog 140 = some 1 := by kernel_rfl
theorem zero_140 : zeroD Try.prog 140 = some [.nilp] := by kernel_rfl
theorem agg_141 : isAggT Try.prog 141 = some true := by kernel_rfl
theorem size_141 : sizeT Try.prog 141 = some 1 := by kernel_rfl
theorem zero_141 : zeroD Try.prog 141 = some [.nils] := by kernel_rfl
theorem place_141 : placesT Try.prog 141 = some [(0, 1)] := by kernel_rfl
theorem off_141_0 : fieldOff Try.prog 141 0 = some 0 := by kernel_rfl
theorem fty_141_0 : fieldTy Try.prog 141 0 = some (29, 0) := by kernel_rfl
theorem agg_142 : isAggT Try.prog 142 = some true := by kernel_rfl
theorem size_142 : sizeT Try.prog 142 = some 1 := by kernel_rfl
theorem zero_142 : zeroD Try.prog 142 = some [.nils] := by kernel_rfl
theorem place_142 : placesT Try.prog 142 = some [(0, 1)] := by kernel_rfl
theorem off_142_0 : fieldOff Try.prog 142 0 = some 0 := by kernel_rfl
theorem fty_142_0 : fieldTy Try.prog 142 0 = some (29, 0) := by kernel_rfl
theorem agg_143 : isAggT Try.prog 143 = some false := by kernel_rfl
theorem size_143 : sizeT Try.prog 143 = some 1 := by kernel_rfl
theorem zero_143 : zeroD Try.prog 143 = some [.nili] := by kernel_rfl
theorem agg_144 : isAggT Try.prog 144 = some false := by kernel_rfl
theorem size_144 : sizeT Try.prog 144 = some 1 := by kernel_rfl
theorem zero_144 : zeroD Try.prog 144 = some [.nili] := by kernel_rfl
theorem agg_145 : isAggT Try.prog 145 = some false := by kernel_rfl
theorem size_145 : sizeT Try.prog 145 = some 1 := by kernel_rfl
theorem zero_145 : zeroD Try.prog 145 = some [.nilf] := by kernel_rfl
theorem agg_146 : isAggT Try.prog 146 = some false := by kernel_rfl
theorem size_146 : sizeT Try.prog 146 = some 1 := by kernel_rfl
theorem zero_146 : zeroD Try.prog 146 = some [.nilf] := by kernel_rfl
theorem agg_147 : isAggT Try.prog 147 = some false := by kernel_rfl
theorem size_147 : sizeT Try.prog 147 = some 1 := by kernel_rfl
theorem zero_147 : zeroD Try.prog 147 = some [.nilf] := by kernel_rfl
theorem agg_148 : isAggT Try.prog 148 = some false := by kernel_rfl
theorem size_148 : sizeT Try.prog 148 = some 1 := by kernel_rfl
theorem zero_148 : zeroD Try.prog 148 = some [.nilf] := by kernel_rfl
theorem agg_149 : isAggT Try.prog 149 = some false := by kernel_rfl
theorem size_149 : sizeT Try.prog 149 = some 1 := by kernel_rfl
theorem zero_149 : zeroD Try.prog 149 = some [.nilf] := by kernel_rfl
theorem agg_150 : isAggT Try.prog 150 = some false := by kernel_rfl
theorem size_150 : sizeT Try.prog 150 = some 1 := by kernel_rfl
theorem zero_150 : zeroD Try.prog 150 = some [.nilf] := by kernel_rfl
theorem agg_151 : isAggT Try.prog 151 = some false := by kernel_rfl
theorem size_151 : sizeT Try.prog 151 = some 1 := by kernel_rfl
theorem zero_151 : zeroD Try.prog 151 = some [.nilf] := by kernel_rfl
theorem agg_152 : isAggT Try.prog 152 = some false := by kernel_rfl
theorem size_152 : sizeT Try.prog 152 = some 1 := by kernel_rfl
theorem zero_152 : zeroD Try.prog 152 = some [.nilf] := by kernel_rfl
theorem agg_153 : isAggT Try.prog 153 = some false := by kernel_rfl
theorem size_153 : sizeT Try.prog 153 = some 1 := by kernel_rfl
theorem zero_153 : zeroD Try.prog 153 = some [.nilf] := by kernel_rfl
theorem agg_154 : isAggT Try.prog 154 = some false := by kernel_rfl
theorem size_154 : sizeT Try.prog 154 = some 1 := by kernel_rfl
theorem zero_154 : zeroD Try.prog 154 = some [.nilf] := by kernel_rfl
theorem agg_155 : isAggT Try.prog 155 = some false := by kernel_rfl
theorem size_155 : sizeT Try.prog 155 = some 1 := by kernel_rfl
theorem zero_155 : zeroD Try.prog 155 = some [.nilf] := by kernel_rfl
theorem agg_156 : isAggT Try.prog 156 = some false := by kernel_rfl
theorem size_156 : sizeT Try.prog 156 = some 1 := by kernel_rfl
theorem zero_156 : zeroD Try.prog 156 = some [.nilf] := by kernel_rfl
theorem agg_157 : isAggT Try.prog 157 = some false := by kernel_rfl
theorem size_157 : sizeT Try.prog 157 = some 1 := by kernel_rfl
theorem zero_157 : zeroD Try.prog 157 = some [.nilf] := by kernel_rfl
theorem agg_158 : isAggT Try.prog 158 = some false := by kernel_rfl
theorem size_158 : sizeT Try.prog 158 = some 1 := by kernel_rfl
theorem zero_158 : zeroD Try.prog 158 = some [.nilf] := by kernel_rfl
theorem agg_159 : isAggT Try.prog 159 = some false := by kernel_rfl
theorem size_159 : sizeT Try.prog 159 = some 1 := by kernel_rfl
theorem zero_159 : zeroD Try.prog 159 = some [.nilf] := by kernel_rfl
theorem agg_160 : isAggT Try.prog 160 = some false := by kernel_rfl
theorem size_160 : sizeT Try.prog 160 = some 1 := by kernel_rfl
theorem zero_160 : zeroD Try.prog 160 = some [.nilf] := by kernel_rfl
theorem agg_161 : isAggT Try.prog 161 = some false := by kernel_rfl
theorem size_161 : sizeT Try.prog 161 = some 1 := by kernel_rfl
theorem zero_161 : zeroD Try.prog 161 = some [.int .u64 0] := by kernel_rfl
theorem und_161 : Try.prog.underlying 161 = some (.int .u64) := by kernel_rfl
theorem agg_162 : isAggT Try.prog 162 = some false := by kernel_rfl
theorem size_162 : sizeT Try.prog 162 = some 1 := by kernel_rfl
theorem zero_162 : zeroD Try.prog 162 = some [.nilf] := by kernel_rfl
theorem agg_163 : isAggT Try.prog 163 = some false := by kernel_rfl
theorem size_163 : sizeT Try.prog 163 = some 1 := by kernel_rfl
theorem zero_163 : zeroD Try.prog 163 = some [.int .i64 0] := by kernel_rfl
theorem agg_164 : isAggT Try.prog 164 = some false := by kernel_rfl
theorem size_164 : sizeT Try.prog 164 = some 1 := by kernel_rfl
theorem agg_165 : isAggT Try.prog 165 = some false := by kernel_rfl
theorem size_165 : sizeT Try.prog 165 = some 1 := by kernel_rfl
theorem zero_165 : zeroD Try.prog 165 = some [.nilf] := by kernel_rfl
theorem agg_166 : isAggT Try.prog 166 = some false := by kernel_rfl
theorem size_166 : sizeT Try.prog 166 = some 1 := by kernel_rfl
theorem zero_166 : zeroD Try.prog 166 = some [.nilf] := by kernel_rfl
theorem agg_167 : isAggT Try.prog 167 = some false := by kernel_rfl
theorem size_167 : sizeT Try.prog 167 = some 1 := by kernel_rfl
theorem zero_167 : zeroD Try.prog 167 = some [.nilf] := by kernel_rfl
theorem agg_168 : isAggT Try.prog 168 = some false := by kernel_rfl
theorem size_168 : sizeT Try.prog 168 = some 1 := by kernel_rfl
theorem zero_168 : zeroD Try.prog 168 = some [.nilf] := by kernel_rfl
theorem agg_169 : isAggT Try.prog 169 = some false := by kernel_rfl
theorem size_169 : sizeT Try.prog 169 = some 1 := by kernel_rfl
theorem zero_169 : zeroD Try.prog 169 = some [.nilf] := by kernel_rfl
theorem agg_170 : isAggT Try.prog 170 = some false := by kernel_rfl
theorem size_170 : sizeT Try.prog 170 = some 1 := by kernel_rfl
theorem zero_170 : zeroD Try.prog 170 = some [.int .u32 0] := by kernel_rfl
theorem und_170 : Try.prog.underlying 170 = some (.int .u32) := by kernel_rfl
theorem agg_171 : isAggT Try.prog 171 = some false := by kernel_rfl
theorem size_171 : sizeT Try.prog 171 = some 1 := by kernel_rfl
theorem zero_171 : zeroD Try.prog 171 = some [.nilf] := by kernel_rfl
theorem agg_172 : isAggT Try.prog 172 = some false := by kernel_rfl
theorem size_172 : sizeT Try.prog 172 = some 1 := by kernel_rfl
theorem zero_172 : zeroD Try.prog 172 = some [.int .u64 0] := by kernel_rfl
theorem und_172 : Try.prog.underlying 172 = some (.int .u64) := by kernel_rfl
theorem agg_173 : isAggT Try.prog 173 = some false := by kernel_rfl
theorem size_173 : sizeT Try.prog 173 = some 1 := by kernel_rfl
theorem zero_173 : zeroD Try.prog 173 = some [.int .u64 0] := by kernel_rfl
theorem und_173 : Try.prog.underlying 173 = some (.int .u64) := by kernel_rfl
theorem agg_174 : isAggT Try.prog 174 = some false := by kernel_rfl
theorem size_174 : sizeT Try.prog 174 = some 1 := by kernel_rfl
theorem zero_174 : zeroD Try.prog 174 = some [.nilf] := by kernel_rfl
theorem agg_175 : isAggT Try.prog 175 = some false := by kernel_rfl
theorem size_175 : sizeT Try.prog 175 = some 1 := by kernel_rfl
theorem zero_175 : zeroD Try.prog 175 = some [.nilf] := by kernel_rfl
theorem agg_176 : isAggT Try.prog 176 = some false := by kernel_rfl
theorem size_176 : sizeT Try.prog 176 = some 1 := by kernel_rfl
theorem zero_176 : zeroD Try.prog 176 = some [.nilf] := by kernel_rfl
theorem agg_177 : isAggT Try.prog 177 = some false := by kernel_rfl
theorem size_177 : sizeT Try.prog 177 = some 1 := by kernel_rfl
theorem zero_177 : zeroD Try.prog 177 = some [.nilp] := by kernel_rfl
theorem agg_178 : isAggT Try.prog 178 = some false := by kernel_rfl
theorem size_178 : sizeT Try.prog 178 = some 1 := by kernel_rfl
theorem zero_178 : zeroD Try.prog 178 = some [.nilf] := by kernel_rfl
theorem agg_179 : isAggT Try.prog 179 = some false := by kernel_rfl
theorem size_179 : sizeT Try.prog 179 = some 1 := by kernel_rfl
theorem zero_179 : zeroD Try.prog 179 = some [.nilp] := by kernel_rfl
theorem agg_180 : isAggT Try.prog 180 = some false := by kernel_rfl
theorem size_180 : sizeT Try.prog 180 = some 1 := by kernel_rfl
theorem agg_181 : isAggT Try.prog 181 = some false := by kernel_rfl
theorem size_181 : sizeT Try.prog 181 = some 1 := by kernel_rfl
theorem zero_181 : zeroD Try.prog 181 = some [.nilf] := by kernel_rfl
theorem agg_182 : isAggT Try.prog 182 = some false := by kernel_rfl
theorem size_182 : sizeT Try.prog 182 = some 1 := by kernel_rfl
theorem zero_182 : zeroD Try.prog 182 = some [.nilf] := by kernel_rfl
theorem agg_183 : isAggT Try.prog 183 = some true := by kernel_rfl
theorem size_183 : sizeT Try.prog 183 = some 4 := by kernel_rfl
theorem zero_183 : zeroD Try.prog 183 = some [.nilp, .nilp, .nilp, .str ByteArray.empty] := by kernel_rfl
theorem place_183 : placesT Try.prog 183 = some [(0, 1), (1, 1), (2, 1), (3, 1)] := by kernel_rfl
theorem off_183_0 : fieldOff Try.prog 183 0 = some 0 := by kernel_rfl
theorem fty_183_0 : fieldTy Try.prog 183 0 = some (17, 0) := by kernel_rfl
theorem off_183_1 : fieldOff Try.prog 183 1 = some 1 := by kernel_rfl
theorem fty_183_1 : fieldTy Try.prog 183 1 = some (17, 1) := by kernel_rfl
theorem off_183_2 : fieldOff Try.prog 183 2 = some 2 := by kernel_rfl
theorem fty_183_2 : fieldTy Try.prog 183 2 = some (17, 2) := by kernel_rfl
theorem off_183_3 : fieldOff Try.prog 183 3 = some 3 := by kernel_rfl
theorem fty_183_3 : fieldTy Try.prog 183 3 = some (9, 3) := by kernel_rfl
theorem agg_184 : isAggT Try.prog 184 = some true := by kernel_rfl
theorem size_184 : sizeT Try.prog 184 = some 4 := by kernel_rfl
theorem zero_184 : zeroD Try.prog 184 = some [.nilp, .nilp, .nilp, .str ByteArray.empty] := by kernel_rfl
theorem place_184 : placesT Try.prog 184 = some [(0, 1), (1, 1), (2, 1), (3, 1)] := by kernel_rfl
theorem off_184_0 : fieldOff Try.prog 184 0 = some 0 := by kernel_rfl
theorem fty_184_0 : fieldTy Try.prog 184 0 = some (17, 0) := by kernel_rfl
theorem off_184_1 : fieldOff Try.prog 184 1 = some 1 := by kernel_rfl
theorem fty_184_1 : fieldTy Try.prog 184 1 = some (17, 1) := by kernel_rfl
theorem off_184_2 : fieldOff Try.prog 184 2 = some 2 := by kernel_rfl
theorem fty_184_2 : fieldTy Try.prog 184 2 = some (17, 2) := by kernel_rfl
theorem off_184_3 : fieldOff Try.prog 184 3 = some 3 := by kernel_rfl
theorem fty_184_3 : fieldTy Try.prog 184 3 = some (9, 3) := by kernel_rfl
theorem agg_185 : isAggT Try.prog 185 = some true := by kernel_rfl
theorem size_185 : sizeT Try.prog 185 = some 0 := by kernel_rfl
theorem zero_185 : zeroD Try.prog 185 = some [] := by kernel_rfl
theorem place_185 : placesT Try.prog 185 = some [] := by kernel_rfl
theorem agg_186 : isAggT Try.prog 186 = some true := by kernel_rfl
theorem size_186 : sizeT Try.prog 186 = some 0 := by kernel_rfl
theorem zero_186 : zeroD Try.prog 186 = some [] := by kernel_rfl
theorem place_186 : placesT Try.prog 186 = some [(0, 0)] := by kernel_rfl
theorem fty_186_0 : fieldTy Try.prog 186 0 = some (185, 0) := by kernel_rfl
theorem agg_187 : isAggT Try.prog 187 = some true := by kernel_rfl
theorem size_187 : sizeT Try.prog 187 = some 0 := by kernel_rfl
theorem zero_187 : zeroD Try.prog 187 = some [] := by kernel_rfl
theorem place_187 : placesT Try.prog 187 = some [(0, 0)] := by kernel_rfl
theorem fty_187_0 : fieldTy Try.prog 187 0 = some (185, 0) := by kernel_rfl
theorem agg_188 : isAggT Try.prog 188 = some false := by kernel_rfl
theorem size_188 : sizeT Try.prog 188 = some 1 := by kernel_rfl
theorem zero_188 : zeroD Try.prog 188 = some [.int .u8 0] := by kernel_rfl
theorem agg_189 : isAggT Try.prog 189 = some false := by kernel_rfl
theorem size_189 : sizeT Try.prog 189 = some 1 := by kernel_rfl
theorem zero_189 : zeroD Try.prog 189 = some [.int .u8 0] := by kernel_rfl
theorem agg_190 : isAggT Try.prog 190 = some false := by kernel_rfl
theorem size_190 : sizeT Try.prog 190 = some 1 := by kernel_rfl
theorem zero_190 : zeroD Try.prog 190 = some [.nilf] := by kernel_rfl
theorem agg_191 : isAggT Try.prog 191 = some false := by kernel_rfl
theorem size_191 : sizeT Try.prog 191 = some 1 := by kernel_rfl
theorem zero_191 : zeroD Try.prog 191 = some [.nilp] := by kernel_rfl
theorem agg_192 : isAggT Try.prog 192 = some false := by kernel_rfl
theorem size_192 : sizeT Try.prog 192 = some 1 := by kernel_rfl
theorem zero_192 : zeroD Try.prog 192 = some [.int .i32 0] := by kernel_rfl
theorem agg_193 : isAggT Try.prog 193 = some false := by kernel_rfl
theorem size_193 : sizeT Try.prog 193 = some 1 := by kernel_rfl
theorem zero_193 : zeroD Try.prog 193 = some [.int .i32 0] := by kernel_rfl
theorem agg_194 : isAggT Try.prog 194 = some true := by kernel_rfl
theorem size_194 : sizeT Try.prog 194 = some 11 := by kernel_rfl
theorem zero_194 : zeroD Try.prog 194 = some [.int .u64 0, .int .u64 0, .int .u32 0, .int .u8 0, .int .u8 0, .int .u8 0, .int .u8 0, .nilf, .nilp, .int .i32 0, .int .i32 0] := by kernel_rfl
theorem place_194 : placesT Try.prog 194 = some [(0, 1), (1, 1), (2, 1), (3, 1), (4, 1), (5, 1), (6, 1), (7, 1), (8, 1), (9, 1), (10, 1)] := by kernel_rfl
theorem off_194_0 : fieldOff Try.prog 194 0 = some 0 := by kernel_rfl
theorem fty_194_0 : fieldTy Try.prog 194 0 = some (12, 0) := by kernel_rfl
theorem off_194_1 : fieldOff Try.prog 194 1 = some 1 := by kernel_rfl
theorem fty_194_1 : fieldTy Try.prog 194 1 = some (12, 1) := by kernel_rfl
theorem off_194_2 : fieldOff Try.prog 194 2 = some 2 := by kernel_rfl
theorem fty_194_2 : fieldTy Try.prog 194 2 = some (170, 2) := by kernel_rfl
theorem off_194_3 : fieldOff Try.prog 194 3 = some 3 := by kernel_rfl
theorem fty_194_3 : fieldTy Try.prog 194 3 = some (188, 3) := by kernel_rfl
theorem off_194_4 : fieldOff Try.prog 194 4 = some 4 := by kernel_rfl
theorem fty_194_4 : fieldTy Try.prog 194 4 = some (5, 4) := by kernel_rfl
theorem off_194_5 : fieldOff Try.prog 194 5 = some 5 := by kernel_rfl
theorem fty_194_5 : fieldTy Try.prog 194 5 = some (5, 5) := by kernel_rfl
theorem off_194_6 : fieldOff Try.prog 194 6 = some 6 := by kernel_rfl
theorem fty_194_6 : fieldTy Try.prog 194 6 = some (189, 6) := by kernel_rfl
theorem off_194_7 : fieldOff Try.prog 194 7 = some 7 := by kernel_rfl
theorem fty_194_7 : fieldTy Try.prog 194 7 = some (190, 7) := by kernel_rfl
theorem off_194_8 : fieldOff Try.prog 194 8 = some 8 := by kernel_rfl
theorem fty_194_8 : fieldTy Try.prog 194 8 = some (191, 8) := by kernel_rfl
theorem off_194_9 : fieldOff Try.prog 194 9 = some 9 := by kernel_rfl
theorem fty_194_9 : fieldTy Try.prog 194 9 = some (192, 9) := by kernel_rfl
theorem off_194_10 : fieldOff Try.prog 194 10 = some 10 := by kernel_rfl
theorem fty_194_10 : fieldTy Try.prog 194 10 = some (193, 10) := by kernel_rfl
theorem agg_195 : isAggT Try.prog 195 = some true := by kernel_rfl
theorem size_195 : sizeT Try.prog 195 = some 11 := by kernel_rfl
theorem zero_195 : zeroD Try.prog 195 = some [.int .u64 0, .int .u64 0, .int .u32 0, .int .u8 0, .int .u8 0, .int .u8 0, .int .u8 0, .nilf, .nilp, .int .i32 0, .int .i32 0] := by kernel_rfl
theorem place_195 : placesT Try.prog 195 = some [(0, 1), (1, 1), (2, 1), (3, 1), (4, 1), (5, 1), (6, 1), (7, 1), (8, 1), (9, 1), (10, 1)] := by kernel_rfl
theorem off_195_0 : fieldOff Try.prog 195 0 = some 0 := by kernel_rfl
theorem fty_195_0 : fieldTy Try.prog 195 0 = some (12, 0) := by kernel_rfl
theorem off_195_1 : fieldOff Try.prog 195 1 = some 1 := by kernel_rfl
theorem fty_195_1 : fieldTy Try.prog 195 1 = some (12, 1) := by kernel_rfl
theorem off_195_2 : fieldOff Try.prog 195 2 = some 2 := by kernel_rfl
theorem fty_195_2 : fieldTy Try.prog 195 2 = some (170, 2) := by kernel_rfl
theorem off_195_3 : fieldOff Try.prog 195 3 = some 3 := by kernel_rfl
theorem fty_195_3 : fieldTy Try.prog 195 3 = some (188, 3) := by kernel_rfl
theorem off_195_4 : fieldOff Try.prog 195 4 = some 4 := by kernel_rfl
theorem fty_195_4 : fieldTy Try.prog 195 4 = some (5, 4) := by kernel_rfl
theorem off_195_5 : fieldOff Try.prog 195 5 = some 5 := by kernel_rfl
theorem fty_195_5 : fieldTy Try.prog 195 5 = some (5, 5) := by kernel_rfl
theorem off_195_6 : fieldOff Try.prog 195 6 = some 6 := by kernel_rfl
theorem fty_195_6 : fieldTy Try.prog 195 6 = some (189, 6) := by kernel_rfl
theorem off_195_7 : fieldOff Try.prog 195 7 = some 7 := by kernel_rfl
theorem fty_195_7 : fieldTy Try.prog 195 7 = some (190, 7) := by kernel_rfl
theorem off_195_8 : fieldOff Try.prog 195 8 = some 8 := by kernel_rfl
theorem fty_195_8 : fieldTy Try.prog 195 8 = some (191, 8) := by kernel_rfl
theorem off_195_9 : fieldOff Try.prog 195 9 = some 9 := by kernel_rfl
theorem fty_195_9 : fieldTy Try.prog 195 9 = some (192, 9) := by kernel_rfl
theorem off_195_10 : fieldOff Try.prog 195 10 = some 10 := by kernel_rfl
theorem fty_195_10 : fieldTy Try.prog 195 10 = some (193, 10) := by kernel_rfl
theorem agg_196 : isAggT Try.prog 196 = some false := by kernel_rfl
theorem size_196 : sizeT Try.prog 196 = some 1 := by kernel_rfl
theorem zero_196 : zeroD Try.prog 196 = some [.nilp] := by kernel_rfl
end Go.Sx.Fz
