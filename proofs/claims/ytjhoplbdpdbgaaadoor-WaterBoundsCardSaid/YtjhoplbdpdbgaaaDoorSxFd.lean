/- Facts of types, printed by program (FactsGen.lean). -/
import Derived.Test.YtjhoplbdpdbgaaaDoorSxMc
import Derived.Test.YtjhoplbdpdbgaaaDoorProg
set_option linter.unusedVariables false
set_option linter.unusedSimpArgs false
namespace Go.Sx.Fz
open Go.Proofs
theorem agg_0 : isAggT Tryd.prog 0 = some false := by kernel_rfl
theorem size_0 : sizeT Tryd.prog 0 = some 1 := by kernel_rfl
theorem agg_1 : isAggT Tryd.prog 1 = some false := by kernel_rfl
theorem size_1 : sizeT Tryd.prog 1 = some 1 := by kernel_rfl
theorem zero_1 : zeroD Tryd.prog 1 = some [.nilf] := by kernel_rfl
theorem agg_2 : isAggT Tryd.prog 2 = some false := by kernel_rfl
theorem size_2 : sizeT Tryd.prog 2 = some 1 := by kernel_rfl
theorem zero_2 : zeroD Tryd.prog 2 = some [.int .i64 0] := by kernel_rfl
theorem und_2 : Tryd.prog.underlying 2 = some (.int .i64) := by kernel_rfl
theorem agg_3 : isAggT Tryd.prog 3 = some false := by kernel_rfl
theorem size_3 : sizeT Tryd.prog 3 = some 1 := by kernel_rfl
theorem zero_3 : zeroD Tryd.prog 3 = some [.int .i64 0] := by kernel_rfl
theorem und_3 : Tryd.prog.underlying 3 = some (.int .i64) := by kernel_rfl
theorem agg_4 : isAggT Tryd.prog 4 = some false := by kernel_rfl
theorem size_4 : sizeT Tryd.prog 4 = some 1 := by kernel_rfl
theorem zero_4 : zeroD Tryd.prog 4 = some [.bool false] := by kernel_rfl
theorem und_4 : Tryd.prog.underlying 4 = some (.bool) := by kernel_rfl
theorem agg_5 : isAggT Tryd.prog 5 = some false := by kernel_rfl
theorem size_5 : sizeT Tryd.prog 5 = some 1 := by kernel_rfl
theorem zero_5 : zeroD Tryd.prog 5 = some [.int .u8 0] := by kernel_rfl
theorem und_5 : Tryd.prog.underlying 5 = some (.int .u8) := by kernel_rfl
theorem agg_6 : isAggT Tryd.prog 6 = some false := by kernel_rfl
theorem size_6 : sizeT Tryd.prog 6 = some 1 := by kernel_rfl
theorem zero_6 : zeroD Tryd.prog 6 = some [.int .u8 0] := by kernel_rfl
theorem und_6 : Tryd.prog.underlying 6 = some (.int .u8) := by kernel_rfl
theorem agg_7 : isAggT Tryd.prog 7 = some true := by kernel_rfl
theorem size_7 : sizeT Tryd.prog 7 = some 4 := by kernel_rfl
theorem zero_7 : zeroD Tryd.prog 7 = some [.int .i64 0, .int .i64 0, .bool false, .int .u8 0] := by kernel_rfl
theorem place_7 : placesT Tryd.prog 7 = some [(0, 1), (1, 1), (2, 1), (3, 1)] := by kernel_rfl
theorem off_7_0 : fieldOff Tryd.prog 7 0 = some 0 := by kernel_rfl
theorem fty_7_0 : fieldTy Tryd.prog 7 0 = some (2, 0) := by kernel_rfl
theorem off_7_1 : fieldOff Tryd.prog 7 1 = some 1 := by kernel_rfl
theorem fty_7_1 : fieldTy Tryd.prog 7 1 = some (3, 1) := by kernel_rfl
theorem off_7_2 : fieldOff Tryd.prog 7 2 = some 2 := by kernel_rfl
theorem fty_7_2 : fieldTy Tryd.prog 7 2 = some (4, 2) := by kernel_rfl
theorem off_7_3 : fieldOff Tryd.prog 7 3 = some 3 := by kernel_rfl
theorem fty_7_3 : fieldTy Tryd.prog 7 3 = some (6, 3) := by kernel_rfl
theorem agg_8 : isAggT Tryd.prog 8 = some true := by kernel_rfl
theorem size_8 : sizeT Tryd.prog 8 = some 4 := by kernel_rfl
theorem zero_8 : zeroD Tryd.prog 8 = some [.int .i64 0, .int .i64 0, .bool false, .int .u8 0] := by kernel_rfl
theorem place_8 : placesT Tryd.prog 8 = some [(0, 1), (1, 1), (2, 1), (3, 1)] := by kernel_rfl
theorem off_8_0 : fieldOff Tryd.prog 8 0 = some 0 := by kernel_rfl
theorem fty_8_0 : fieldTy Tryd.prog 8 0 = some (2, 0) := by kernel_rfl
theorem off_8_1 : fieldOff Tryd.prog 8 1 = some 1 := by kernel_rfl
theorem fty_8_1 : fieldTy Tryd.prog 8 1 = some (3, 1) := by kernel_rfl
theorem off_8_2 : fieldOff Tryd.prog 8 2 = some 2 := by kernel_rfl
theorem fty_8_2 : fieldTy Tryd.prog 8 2 = some (4, 2) := by kernel_rfl
theorem off_8_3 : fieldOff Tryd.prog 8 3 = some 3 := by kernel_rfl
theorem fty_8_3 : fieldTy Tryd.prog 8 3 = some (6, 3) := by kernel_rfl
theorem agg_9 : isAggT Tryd.prog 9 = some false := by kernel_rfl
theorem size_9 : sizeT Tryd.prog 9 = some 1 := by kernel_rfl
theorem zero_9 : zeroD Tryd.prog 9 = some [.str ByteArray.empty] := by kernel_rfl
theorem und_9 : Tryd.prog.underlying 9 = some (.string) := by kernel_rfl
theorem agg_10 : isAggT Tryd.prog 10 = some false := by kernel_rfl
theorem size_10 : sizeT Tryd.prog 10 = some 1 := by kernel_rfl
theorem zero_10 : zeroD Tryd.prog 10 = some [.str ByteArray.empty] := by kernel_rfl
theorem und_10 : Tryd.prog.underlying 10 = some (.string) := by kernel_rfl
theorem agg_11 : isAggT Tryd.prog 11 = some false := by kernel_rfl
theorem size_11 : sizeT Tryd.prog 11 = some 1 := by kernel_rfl
theorem zero_11 : zeroD Tryd.prog 11 = some [.str ByteArray.empty] := by kernel_rfl
theorem und_11 : Tryd.prog.underlying 11 = some (.string) := by kernel_rfl
theorem agg_12 : isAggT Tryd.prog 12 = some false := by kernel_rfl
theorem size_12 : sizeT Tryd.prog 12 = some 1 := by kernel_rfl
theorem zero_12 : zeroD Tryd.prog 12 = some [.int .u64 0] := by kernel_rfl
theorem und_12 : Tryd.prog.underlying 12 = some (.int .u64) := by kernel_rfl
theorem agg_13 : isAggT Tryd.prog 13 = some true := by kernel_rfl
theorem size_13 : sizeT Tryd.prog 13 = some 2 := by kernel_rfl
theorem zero_13 : zeroD Tryd.prog 13 = some [.str ByteArray.empty, .int .u64 0] := by kernel_rfl
theorem place_13 : placesT Tryd.prog 13 = some [(0, 1), (1, 1)] := by kernel_rfl
theorem off_13_0 : fieldOff Tryd.prog 13 0 = some 0 := by kernel_rfl
theorem fty_13_0 : fieldTy Tryd.prog 13 0 = some (9, 0) := by kernel_rfl
theorem off_13_1 : fieldOff Tryd.prog 13 1 = some 1 := by kernel_rfl
theorem fty_13_1 : fieldTy Tryd.prog 13 1 = some (12, 1) := by kernel_rfl
theorem agg_14 : isAggT Tryd.prog 14 = some true := by kernel_rfl
theorem size_14 : sizeT Tryd.prog 14 = some 2 := by kernel_rfl
theorem zero_14 : zeroD Tryd.prog 14 = some [.str ByteArray.empty, .int .u64 0] := by kernel_rfl
theorem place_14 : placesT Tryd.prog 14 = some [(0, 1), (1, 1)] := by kernel_rfl
theorem off_14_0 : fieldOff Tryd.prog 14 0 = some 0 := by kernel_rfl
theorem fty_14_0 : fieldTy Tryd.prog 14 0 = some (9, 0) := by kernel_rfl
theorem off_14_1 : fieldOff Tryd.prog 14 1 = some 1 := by kernel_rfl
theorem fty_14_1 : fieldTy Tryd.prog 14 1 = some (12, 1) := by kernel_rfl
theorem agg_15 : isAggT Tryd.prog 15 = some false := by kernel_rfl
theorem size_15 : sizeT Tryd.prog 15 = some 1 := by kernel_rfl
theorem zero_15 : zeroD Tryd.prog 15 = some [.nilp] := by kernel_rfl
theorem und_15 : Tryd.prog.underlying 15 = some (.pointer 146) := by kernel_rfl
theorem agg_16 : isAggT Tryd.prog 16 = some false := by kernel_rfl
theorem size_16 : sizeT Tryd.prog 16 = some 1 := by kernel_rfl
theorem zero_16 : zeroD Tryd.prog 16 = some [.nilp] := by kernel_rfl
theorem und_16 : Tryd.prog.underlying 16 = some (.pointer 149) := by kernel_rfl
theorem agg_17 : isAggT Tryd.prog 17 = some false := by kernel_rfl
theorem size_17 : sizeT Tryd.prog 17 = some 1 := by kernel_rfl
theorem zero_17 : zeroD Tryd.prog 17 = some [.nilp] := by kernel_rfl
theorem und_17 : Tryd.prog.underlying 17 = some (.pointer 157) := by kernel_rfl
theorem agg_18 : isAggT Tryd.prog 18 = some true := by kernel_rfl
theorem size_18 : sizeT Tryd.prog 18 = some 1 := by kernel_rfl
theorem zero_18 : zeroD Tryd.prog 18 = some [.nilp] := by kernel_rfl
theorem place_18 : placesT Tryd.prog 18 = some [(0, 1)] := by kernel_rfl
theorem off_18_0 : fieldOff Tryd.prog 18 0 = some 0 := by kernel_rfl
theorem fty_18_0 : fieldTy Tryd.prog 18 0 = some (17, 0) := by kernel_rfl
theorem agg_19 : isAggT Tryd.prog 19 = some true := by kernel_rfl
theorem size_19 : sizeT Tryd.prog 19 = some 1 := by kernel_rfl
theorem zero_19 : zeroD Tryd.prog 19 = some [.nilp] := by kernel_rfl
theorem place_19 : placesT Tryd.prog 19 = some [(0, 1)] := by kernel_rfl
theorem off_19_0 : fieldOff Tryd.prog 19 0 = some 0 := by kernel_rfl
theorem fty_19_0 : fieldTy Tryd.prog 19 0 = some (17, 0) := by kernel_rfl
theorem agg_20 : isAggT Tryd.prog 20 = some false := by kernel_rfl
theorem size_20 : sizeT Tryd.prog 20 = some 1 := by kernel_rfl
theorem zero_20 : zeroD Tryd.prog 20 = some [.nili] := by kernel_rfl
theorem agg_21 : isAggT Tryd.prog 21 = some false := by kernel_rfl
theorem size_21 : sizeT Tryd.prog 21 = some 1 := by kernel_rfl
theorem zero_21 : zeroD Tryd.prog 21 = some [.int .i32 0] := by kernel_rfl
theorem und_21 : Tryd.prog.underlying 21 = some (.int .i32) := by kernel_rfl
theorem agg_22 : isAggT Tryd.prog 22 = some false := by kernel_rfl
theorem size_22 : sizeT Tryd.prog 22 = some 1 := by kernel_rfl
theorem zero_22 : zeroD Tryd.prog 22 = some [.nils] := by kernel_rfl
theorem und_22 : Tryd.prog.underlying 22 = some (.slice 74) := by kernel_rfl
theorem bytes_74_22 : Tryd.prog.bytesOf 74 = 32 := by kernel_rfl
theorem agg_23 : isAggT Tryd.prog 23 = some true := by kernel_rfl
theorem size_23 : sizeT Tryd.prog 23 = some 4 := by kernel_rfl
theorem zero_23 : zeroD Tryd.prog 23 = some [.int .i64 0, .int .i64 0, .int .i64 0, .nils] := by kernel_rfl
theorem place_23 : placesT Tryd.prog 23 = some [(0, 1), (1, 1), (2, 1), (3, 1)] := by kernel_rfl
theorem off_23_0 : fieldOff Tryd.prog 23 0 = some 0 := by kernel_rfl
theorem fty_23_0 : fieldTy Tryd.prog 23 0 = some (3, 0) := by kernel_rfl
theorem off_23_1 : fieldOff Tryd.prog 23 1 = some 1 := by kernel_rfl
theorem fty_23_1 : fieldTy Tryd.prog 23 1 = some (3, 1) := by kernel_rfl
theorem off_23_2 : fieldOff Tryd.prog 23 2 = some 2 := by kernel_rfl
theorem fty_23_2 : fieldTy Tryd.prog 23 2 = some (3, 2) := by kernel_rfl
theorem off_23_3 : fieldOff Tryd.prog 23 3 = some 3 := by kernel_rfl
theorem fty_23_3 : fieldTy Tryd.prog 23 3 = some (22, 3) := by kernel_rfl
theorem agg_24 : isAggT Tryd.prog 24 = some true := by kernel_rfl
theorem size_24 : sizeT Tryd.prog 24 = some 4 := by kernel_rfl
theorem zero_24 : zeroD Tryd.prog 24 = some [.int .i64 0, .int .i64 0, .int .i64 0, .nils] := by kernel_rfl
theorem place_24 : placesT Tryd.prog 24 = some [(0, 1), (1, 1), (2, 1), (3, 1)] := by kernel_rfl
theorem off_24_0 : fieldOff Tryd.prog 24 0 = some 0 := by kernel_rfl
theorem fty_24_0 : fieldTy Tryd.prog 24 0 = some (3, 0) := by kernel_rfl
theorem off_24_1 : fieldOff Tryd.prog 24 1 = some 1 := by kernel_rfl
theorem fty_24_1 : fieldTy Tryd.prog 24 1 = some (3, 1) := by kernel_rfl
theorem off_24_2 : fieldOff Tryd.prog 24 2 = some 2 := by kernel_rfl
theorem fty_24_2 : fieldTy Tryd.prog 24 2 = some (3, 2) := by kernel_rfl
theorem off_24_3 : fieldOff Tryd.prog 24 3 = some 3 := by kernel_rfl
theorem fty_24_3 : fieldTy Tryd.prog 24 3 = some (22, 3) := by kernel_rfl
theorem agg_25 : isAggT Tryd.prog 25 = some false := by kernel_rfl
theorem size_25 : sizeT Tryd.prog 25 = some 1 := by kernel_rfl
theorem zero_25 : zeroD Tryd.prog 25 = some [.nils] := by kernel_rfl
theorem und_25 : Tryd.prog.underlying 25 = some (.slice 3) := by kernel_rfl
theorem bytes_3_25 : Tryd.prog.bytesOf 3 = 8 := by kernel_rfl
theorem agg_26 : isAggT Tryd.prog 26 = some false := by kernel_rfl
theorem size_26 : sizeT Tryd.prog 26 = some 1 := by kernel_rfl
theorem zero_26 : zeroD Tryd.prog 26 = some [.nilf] := by kernel_rfl
theorem agg_27 : isAggT Tryd.prog 27 = some false := by kernel_rfl
theorem size_27 : sizeT Tryd.prog 27 = some 1 := by kernel_rfl
theorem zero_27 : zeroD Tryd.prog 27 = some [.nilf] := by kernel_rfl
theorem agg_28 : isAggT Tryd.prog 28 = some false := by kernel_rfl
theorem size_28 : sizeT Tryd.prog 28 = some 1 := by kernel_rfl
theorem zero_28 : zeroD Tryd.prog 28 = some [.int .i64 0] := by kernel_rfl
theorem und_28 : Tryd.prog.underlying 28 = some (.int .i64) := by kernel_rfl
theorem agg_29 : isAggT Tryd.prog 29 = some false := by kernel_rfl
theorem size_29 : sizeT Tryd.prog 29 = some 1 := by kernel_rfl
theorem zero_29 : zeroD Tryd.prog 29 = some [.nilf] := by kernel_rfl
theorem agg_30 : isAggT Tryd.prog 30 = some false := by kernel_rfl
theorem size_30 : sizeT Tryd.prog 30 = some 1 := by kernel_rfl
theorem zero_30 : zeroD Tryd.prog 30 = some [.nilf] := by kernel_rfl
theorem agg_31 : isAggT Tryd.prog 31 = some false := by kernel_rfl
theorem size_31 : sizeT Tryd.prog 31 = some 1 := by kernel_rfl
theorem zero_31 : zeroD Tryd.prog 31 = some [.nils] := by kernel_rfl
theorem und_31 : Tryd.prog.underlying 31 = some (.slice 45) := by kernel_rfl
theorem bytes_45_31 : Tryd.prog.bytesOf 45 = 16 := by kernel_rfl
theorem agg_32 : isAggT Tryd.prog 32 = some false := by kernel_rfl
theorem size_32 : sizeT Tryd.prog 32 = some 1 := by kernel_rfl
theorem agg_33 : isAggT Tryd.prog 33 = some false := by kernel_rfl
theorem size_33 : sizeT Tryd.prog 33 = some 1 := by kernel_rfl
theorem zero_33 : zeroD Tryd.prog 33 = some [.nilf] := by kernel_rfl
theorem agg_34 : isAggT Tryd.prog 34 = some false := by kernel_rfl
theorem size_34 : sizeT Tryd.prog 34 = some 1 := by kernel_rfl
theorem agg_35 : isAggT Tryd.prog 35 = some false := by kernel_rfl
theorem size_35 : sizeT Tryd.prog 35 = some 1 := by kernel_rfl
theorem zero_35 : zeroD Tryd.prog 35 = some [.nilf] := by kernel_rfl
theorem agg_36 : isAggT Tryd.prog 36 = some false := by kernel_rfl
theorem size_36 : sizeT Tryd.prog 36 = some 1 := by kernel_rfl
theorem agg_37 : isAggT Tryd.prog 37 = some false := by kernel_rfl
theorem size_37 : sizeT Tryd.prog 37 = some 1 := by kernel_rfl
theorem zero_37 : zeroD Tryd.prog 37 = some [.nilf] := by kernel_rfl
theorem agg_38 : isAggT Tryd.prog 38 = some false := by kernel_rfl
theorem size_38 : sizeT Tryd.prog 38 = some 1 := by kernel_rfl
theorem zero_38 : zeroD Tryd.prog 38 = some [.nilf] := by kernel_rfl
theorem agg_39 : isAggT Tryd.prog 39 = some false := by kernel_rfl
theorem size_39 : sizeT Tryd.prog 39 = some 1 := by kernel_rfl
theorem zero_39 : zeroD Tryd.prog 39 = some [.nilf] := by kernel_rfl
theorem agg_40 : isAggT Tryd.prog 40 = some false := by kernel_rfl
theorem size_40 : sizeT Tryd.prog 40 = some 1 := by kernel_rfl
theorem agg_41 : isAggT Tryd.prog 41 = some false := by kernel_rfl
theorem size_41 : sizeT Tryd.prog 41 = some 1 := by kernel_rfl
theorem zero_41 : zeroD Tryd.prog 41 = some [.nilf] := by kernel_rfl
theorem agg_42 : isAggT Tryd.prog 42 = some false := by kernel_rfl
theorem size_42 : sizeT Tryd.prog 42 = some 1 := by kernel_rfl
theorem zero_42 : zeroD Tryd.prog 42 = some [.nilf] := by kernel_rfl
theorem agg_43 : isAggT Tryd.prog 43 = some false := by kernel_rfl
theorem size_43 : sizeT Tryd.prog 43 = some 1 := by kernel_rfl
theorem zero_43 : zeroD Tryd.prog 43 = some [.nilf] := by kernel_rfl
theorem agg_44 : isAggT Tryd.prog 44 = some true := by kernel_rfl
theorem size_44 : sizeT Tryd.prog 44 = some 2 := by kernel_rfl
theorem zero_44 : zeroD Tryd.prog 44 = some [.int .i64 0, .int .i64 0] := by kernel_rfl
theorem place_44 : placesT Tryd.prog 44 = some [(0, 1), (1, 1)] := by kernel_rfl
theorem off_44_0 : fieldOff Tryd.prog 44 0 = some 0 := by kernel_rfl
theorem fty_44_0 : fieldTy Tryd.prog 44 0 = some (3, 0) := by kernel_rfl
theorem off_44_1 : fieldOff Tryd.prog 44 1 = some 1 := by kernel_rfl
theorem fty_44_1 : fieldTy Tryd.prog 44 1 = some (3, 1) := by kernel_rfl
theorem agg_45 : isAggT Tryd.prog 45 = some true := by kernel_rfl
theorem size_45 : sizeT Tryd.prog 45 = some 2 := by kernel_rfl
theorem zero_45 : zeroD Tryd.prog 45 = some [.int .i64 0, .int .i64 0] := by kernel_rfl
theorem place_45 : placesT Tryd.prog 45 = some [(0, 1), (1, 1)] := by kernel_rfl
theorem off_45_0 : fieldOff Tryd.prog 45 0 = some 0 := by kernel_rfl
theorem fty_45_0 : fieldTy Tryd.prog 45 0 = some (3, 0) := by kernel_rfl
theorem off_45_1 : fieldOff Tryd.prog 45 1 = some 1 := by kernel_rfl
theorem fty_45_1 : fieldTy Tryd.prog 45 1 = some (3, 1) := by kernel_rfl
theorem agg_46 : isAggT Tryd.prog 46 = some false := by kernel_rfl
theorem size_46 : sizeT Tryd.prog 46 = some 1 := by kernel_rfl
theorem zero_46 : zeroD Tryd.prog 46 = some [.nilf] := by kernel_rfl
theorem agg_47 : isAggT Tryd.prog 47 = some false := by kernel_rfl
theorem size_47 : sizeT Tryd.prog 47 = some 1 := by kernel_rfl
theorem zero_47 : zeroD Tryd.prog 47 = some [.nilf] := by kernel_rfl
theorem agg_48 : isAggT Tryd.prog 48 = some false := by kernel_rfl
theorem size_48 : sizeT Tryd.prog 48 = some 1 := by kernel_rfl
theorem zero_48 : zeroD Tryd.prog 48 = some [.nilf] := by kernel_rfl
theorem agg_49 : isAggT Tryd.prog 49 = some false := by kernel_rfl
theorem size_49 : sizeT Tryd.prog 49 = some 1 := by kernel_rfl
theorem agg_50 : isAggT Tryd.prog 50 = some false := by kernel_rfl
theorem size_50 : sizeT Tryd.prog 50 = some 1 := by kernel_rfl
theorem zero_50 : zeroD Tryd.prog 50 = some [.nilf] := by kernel_rfl
theorem agg_51 : isAggT Tryd.prog 51 = some true := by kernel_rfl
theorem size_51 : sizeT Tryd.prog 51 = some 3 := by kernel_rfl
theorem zero_51 : zeroD Tryd.prog 51 = some [.int .i64 0, .int .i64 0, .nils] := by kernel_rfl
theorem place_51 : placesT Tryd.prog 51 = some [(0, 1), (1, 1), (2, 1)] := by kernel_rfl
theorem off_51_0 : fieldOff Tryd.prog 51 0 = some 0 := by kernel_rfl
theorem fty_51_0 : fieldTy Tryd.prog 51 0 = some (3, 0) := by kernel_rfl
theorem off_51_1 : fieldOff Tryd.prog 51 1 = some 1 := by kernel_rfl
theorem fty_51_1 : fieldTy Tryd.prog 51 1 = some (3, 1) := by kernel_rfl
theorem off_51_2 : fieldOff Tryd.prog 51 2 = some 2 := by kernel_rfl
theorem fty_51_2 : fieldTy Tryd.prog 51 2 = some (31, 2) := by kernel_rfl
theorem agg_52 : isAggT Tryd.prog 52 = some true := by kernel_rfl
theorem size_52 : sizeT Tryd.prog 52 = some 3 := by kernel_rfl
theorem zero_52 : zeroD Tryd.prog 52 = some [.int .i64 0, .int .i64 0, .nils] := by kernel_rfl
theorem place_52 : placesT Tryd.prog 52 = some [(0, 1), (1, 1), (2, 1)] := by kernel_rfl
theorem off_52_0 : fieldOff Tryd.prog 52 0 = some 0 := by kernel_rfl
theorem fty_52_0 : fieldTy Tryd.prog 52 0 = some (3, 0) := by kernel_rfl
theorem off_52_1 : fieldOff Tryd.prog 52 1 = some 1 := by kernel_rfl
theorem fty_52_1 : fieldTy Tryd.prog 52 1 = some (3, 1) := by kernel_rfl
theorem off_52_2 : fieldOff Tryd.prog 52 2 = some 2 := by kernel_rfl
theorem fty_52_2 : fieldTy Tryd.prog 52 2 = some (31, 2) := by kernel_rfl
theorem agg_53 : isAggT Tryd.prog 53 = some true := by kernel_rfl
theorem size_53 : sizeT Tryd.prog 53 = some 20 := by kernel_rfl
theorem zero_53 : zeroD Tryd.prog 53 = some [.int .i64 0, .int .i64 0, .int .i64 0, .nils, .int .i64 0, .int .i64 0, .int .i64 0, .nils, .int .i64 0, .int .i64 0, .int .i64 0, .nils, .int .i64 0, .int .i64 0, .int .i64 0, .nils, .int .i64 0, .int .i64 0, .int .i64 0, .nils] := by kernel_rfl
theorem place_53 : placesT Tryd.prog 53 = some [(0, 4), (4, 4), (8, 4), (12, 4), (16, 4)] := by kernel_rfl
theorem off_53_0 : fieldOff Tryd.prog 53 0 = some 0 := by kernel_rfl
theorem fty_53_0 : fieldTy Tryd.prog 53 0 = some (24, 0) := by kernel_rfl
theorem off_53_1 : fieldOff Tryd.prog 53 1 = some 4 := by kernel_rfl
theorem fty_53_1 : fieldTy Tryd.prog 53 1 = some (24, 4) := by kernel_rfl
theorem off_53_2 : fieldOff Tryd.prog 53 2 = some 8 := by kernel_rfl
theorem fty_53_2 : fieldTy Tryd.prog 53 2 = some (24, 8) := by kernel_rfl
theorem off_53_3 : fieldOff Tryd.prog 53 3 = some 12 := by kernel_rfl
theorem fty_53_3 : fieldTy Tryd.prog 53 3 = some (24, 12) := by kernel_rfl
theorem off_53_4 : fieldOff Tryd.prog 53 4 = some 16 := by kernel_rfl
theorem fty_53_4 : fieldTy Tryd.prog 53 4 = some (24, 16) := by kernel_rfl
theorem agg_54 : isAggT Tryd.prog 54 = some true := by kernel_rfl
theorem size_54 : sizeT Tryd.prog 54 = some 20 := by kernel_rfl
theorem zero_54 : zeroD Tryd.prog 54 = some [.int .i64 0, .int .i64 0, .int .i64 0, .nils, .int .i64 0, .int .i64 0, .int .i64 0, .nils, .int .i64 0, .int .i64 0, .int .i64 0, .nils, .int .i64 0, .int .i64 0, .int .i64 0, .nils, .int .i64 0, .int .i64 0, .int .i64 0, .nils] := by kernel_rfl
theorem place_54 : placesT Tryd.prog 54 = some [(0, 4), (4, 4), (8, 4), (12, 4), (16, 4)] := by kernel_rfl
theorem off_54_0 : fieldOff Tryd.prog 54 0 = some 0 := by kernel_rfl
theorem fty_54_0 : fieldTy Tryd.prog 54 0 = some (24, 0) := by kernel_rfl
theorem off_54_1 : fieldOff Tryd.prog 54 1 = some 4 := by kernel_rfl
theorem fty_54_1 : fieldTy Tryd.prog 54 1 = some (24, 4) := by kernel_rfl
theorem off_54_2 : fieldOff Tryd.prog 54 2 = some 8 := by kernel_rfl
theorem fty_54_2 : fieldTy Tryd.prog 54 2 = some (24, 8) := by kernel_rfl
theorem off_54_3 : fieldOff Tryd.prog 54 3 = some 12 := by kernel_rfl
theorem fty_54_3 : fieldTy Tryd.prog 54 3 = some (24, 12) := by kernel_rfl
theorem off_54_4 : fieldOff Tryd.prog 54 4 = some 16 := by kernel_rfl
theorem fty_54_4 : fieldTy Tryd.prog 54 4 = some (24, 16) := by kernel_rfl
theorem agg_55 : isAggT Tryd.prog 55 = some false := by kernel_rfl
theorem size_55 : sizeT Tryd.prog 55 = some 1 := by kernel_rfl
theorem zero_55 : zeroD Tryd.prog 55 = some [.nils] := by kernel_rfl
theorem und_55 : Tryd.prog.underlying 55 = some (.slice 89) := by kernel_rfl
theorem bytes_89_55 : Tryd.prog.bytesOf 89 = 56 := by kernel_rfl
theorem agg_56 : isAggT Tryd.prog 56 = some false := by kernel_rfl
theorem size_56 : sizeT Tryd.prog 56 = some 1 := by kernel_rfl
theorem zero_56 : zeroD Tryd.prog 56 = some [.nils] := by kernel_rfl
theorem und_56 : Tryd.prog.underlying 56 = some (.slice 91) := by kernel_rfl
theorem bytes_91_56 : Tryd.prog.bytesOf 91 = 24 := by kernel_rfl
theorem agg_57 : isAggT Tryd.prog 57 = some true := by kernel_rfl
theorem size_57 : sizeT Tryd.prog 57 = some 25 := by kernel_rfl
theorem zero_57 : zeroD Tryd.prog 57 = some [.int .i64 0, .int .i64 0, .nils, .int .i64 0, .int .i64 0, .int .i64 0, .nils, .int .i64 0, .int .i64 0, .int .i64 0, .nils, .int .i64 0, .int .i64 0, .int .i64 0, .nils, .int .i64 0, .int .i64 0, .int .i64 0, .nils, .int .i64 0, .int .i64 0, .int .i64 0, .nils, .nils, .nils] := by kernel_rfl
theorem place_57 : placesT Tryd.prog 57 = some [(0, 3), (3, 20), (23, 1), (24, 1)] := by kernel_rfl
theorem off_57_0 : fieldOff Tryd.prog 57 0 = some 0 := by kernel_rfl
theorem fty_57_0 : fieldTy Tryd.prog 57 0 = some (52, 0) := by kernel_rfl
theorem off_57_1 : fieldOff Tryd.prog 57 1 = some 3 := by kernel_rfl
theorem fty_57_1 : fieldTy Tryd.prog 57 1 = some (54, 3) := by kernel_rfl
theorem off_57_2 : fieldOff Tryd.prog 57 2 = some 23 := by kernel_rfl
theorem fty_57_2 : fieldTy Tryd.prog 57 2 = some (55, 23) := by kernel_rfl
theorem off_57_3 : fieldOff Tryd.prog 57 3 = some 24 := by kernel_rfl
theorem fty_57_3 : fieldTy Tryd.prog 57 3 = some (56, 24) := by kernel_rfl
theorem agg_58 : isAggT Tryd.prog 58 = some true := by kernel_rfl
theorem size_58 : sizeT Tryd.prog 58 = some 25 := by kernel_rfl
theorem zero_58 : zeroD Tryd.prog 58 = some [.int .i64 0, .int .i64 0, .nils, .int .i64 0, .int .i64 0, .int .i64 0, .nils, .int .i64 0, .int .i64 0, .int .i64 0, .nils, .int .i64 0, .int .i64 0, .int .i64 0, .nils, .int .i64 0, .int .i64 0, .int .i64 0, .nils, .int .i64 0, .int .i64 0, .int .i64 0, .nils, .nils, .nils] := by kernel_rfl
theorem place_58 : placesT Tryd.prog 58 = some [(0, 3), (3, 20), (23, 1), (24, 1)] := by kernel_rfl
theorem off_58_0 : fieldOff Tryd.prog 58 0 = some 0 := by kernel_rfl
theorem fty_58_0 : fieldTy Tryd.prog 58 0 = some (52, 0) := by kernel_rfl
theorem off_58_1 : fieldOff Tryd.prog 58 1 = some 3 := by kernel_rfl
theorem fty_58_1 : fieldTy Tryd.prog 58 1 = some (54, 3) := by kernel_rfl
theorem off_58_2 : fieldOff Tryd.prog 58 2 = some 23 := by kernel_rfl
theorem fty_58_2 : fieldTy Tryd.prog 58 2 = some (55, 23) := by kernel_rfl
theorem off_58_3 : fieldOff Tryd.prog 58 3 = some 24 := by kernel_rfl
theorem fty_58_3 : fieldTy Tryd.prog 58 3 = some (56, 24) := by kernel_rfl
theorem agg_59 : isAggT Tryd.prog 59 = some false := by kernel_rfl
theorem size_59 : sizeT Tryd.prog 59 = some 1 := by kernel_rfl
theorem zero_59 : zeroD Tryd.prog 59 = some [.nilf] := by kernel_rfl
theorem agg_60 : isAggT Tryd.prog 60 = some false := by kernel_rfl
theorem size_60 : sizeT Tryd.prog 60 = some 1 := by kernel_rfl
theorem zero_60 : zeroD Tryd.prog 60 = some [.int .i64 0] := by kernel_rfl
theorem und_60 : Tryd.prog.underlying 60 = some (.int .i64) := by kernel_rfl
theorem agg_61 : isAggT Tryd.prog 61 = some true := by kernel_rfl
theorem size_61 : sizeT Tryd.prog 61 = some 4 := by kernel_rfl
theorem zero_61 : zeroD Tryd.prog 61 = some [.int .i64 0, .int .i64 0, .int .i64 0, .int .i64 0] := by kernel_rfl
theorem place_61 : placesT Tryd.prog 61 = some [(0, 1), (1, 1), (2, 1), (3, 1)] := by kernel_rfl
theorem off_61_0 : fieldOff Tryd.prog 61 0 = some 0 := by kernel_rfl
theorem fty_61_0 : fieldTy Tryd.prog 61 0 = some (3, 0) := by kernel_rfl
theorem off_61_1 : fieldOff Tryd.prog 61 1 = some 1 := by kernel_rfl
theorem fty_61_1 : fieldTy Tryd.prog 61 1 = some (3, 1) := by kernel_rfl
theorem off_61_2 : fieldOff Tryd.prog 61 2 = some 2 := by kernel_rfl
theorem fty_61_2 : fieldTy Tryd.prog 61 2 = some (60, 2) := by kernel_rfl
theorem off_61_3 : fieldOff Tryd.prog 61 3 = some 3 := by kernel_rfl
theorem fty_61_3 : fieldTy Tryd.prog 61 3 = some (3, 3) := by kernel_rfl
theorem agg_62 : isAggT Tryd.prog 62 = some true := by kernel_rfl
theorem size_62 : sizeT Tryd.prog 62 = some 4 := by kernel_rfl
theorem zero_62 : zeroD Tryd.prog 62 = some [.int .i64 0, .int .i64 0, .int .i64 0, .int .i64 0] := by kernel_rfl
theorem place_62 : placesT Tryd.prog 62 = some [(0, 1), (1, 1), (2, 1), (3, 1)] := by kernel_rfl
theorem off_62_0 : fieldOff Tryd.prog 62 0 = some 0 := by kernel_rfl
theorem fty_62_0 : fieldTy Tryd.prog 62 0 = some (3, 0) := by kernel_rfl
theorem off_62_1 : fieldOff Tryd.prog 62 1 = some 1 := by kernel_rfl
theorem fty_62_1 : fieldTy Tryd.prog 62 1 = some (3, 1) := by kernel_rfl
theorem off_62_2 : fieldOff Tryd.prog 62 2 = some 2 := by kernel_rfl
theorem fty_62_2 : fieldTy Tryd.prog 62 2 = some (60, 2) := by kernel_rfl
theorem off_62_3 : fieldOff Tryd.prog 62 3 = some 3 := by kernel_rfl
theorem fty_62_3 : fieldTy Tryd.prog 62 3 = some (3, 3) := by kernel_rfl
theorem agg_63 : isAggT Tryd.prog 63 = some false := by kernel_rfl
theorem size_63 : sizeT Tryd.prog 63 = some 1 := by kernel_rfl
theorem zero_63 : zeroD Tryd.prog 63 = some [.nilf] := by kernel_rfl
theorem agg_64 : isAggT Tryd.prog 64 = some true := by kernel_rfl
theorem size_64 : sizeT Tryd.prog 64 = some 7 := by kernel_rfl
theorem zero_64 : zeroD Tryd.prog 64 = some [.int .i64 0, .int .i64 0, .int .i64 0, .int .i64 0, .int .i64 0, .int .i64 0, .int .i64 0] := by kernel_rfl
theorem place_64 : placesT Tryd.prog 64 = some [(0, 1), (1, 1), (2, 1), (3, 1), (4, 1), (5, 1), (6, 1)] := by kernel_rfl
theorem off_64_0 : fieldOff Tryd.prog 64 0 = some 0 := by kernel_rfl
theorem fty_64_0 : fieldTy Tryd.prog 64 0 = some (3, 0) := by kernel_rfl
theorem off_64_1 : fieldOff Tryd.prog 64 1 = some 1 := by kernel_rfl
theorem fty_64_1 : fieldTy Tryd.prog 64 1 = some (3, 1) := by kernel_rfl
theorem off_64_2 : fieldOff Tryd.prog 64 2 = some 2 := by kernel_rfl
theorem fty_64_2 : fieldTy Tryd.prog 64 2 = some (3, 2) := by kernel_rfl
theorem off_64_3 : fieldOff Tryd.prog 64 3 = some 3 := by kernel_rfl
theorem fty_64_3 : fieldTy Tryd.prog 64 3 = some (3, 3) := by kernel_rfl
theorem off_64_4 : fieldOff Tryd.prog 64 4 = some 4 := by kernel_rfl
theorem fty_64_4 : fieldTy Tryd.prog 64 4 = some (3, 4) := by kernel_rfl
theorem off_64_5 : fieldOff Tryd.prog 64 5 = some 5 := by kernel_rfl
theorem fty_64_5 : fieldTy Tryd.prog 64 5 = some (3, 5) := by kernel_rfl
theorem off_64_6 : fieldOff Tryd.prog 64 6 = some 6 := by kernel_rfl
theorem fty_64_6 : fieldTy Tryd.prog 64 6 = some (3, 6) := by kernel_rfl
theorem agg_65 : isAggT Tryd.prog 65 = some true := by kernel_rfl
theorem size_65 : sizeT Tryd.prog 65 = some 7 := by kernel_rfl
theorem zero_65 : zeroD Tryd.prog 65 = some [.int .i64 0, .int .i64 0, .int .i64 0, .int .i64 0, .int .i64 0, .int .i64 0, .int .i64 0] := by kernel_rfl
theorem place_65 : placesT Tryd.prog 65 = some [(0, 1), (1, 1), (2, 1), (3, 1), (4, 1), (5, 1), (6, 1)] := by kernel_rfl
theorem off_65_0 : fieldOff Tryd.prog 65 0 = some 0 := by kernel_rfl
theorem fty_65_0 : fieldTy Tryd.prog 65 0 = some (3, 0) := by kernel_rfl
theorem off_65_1 : fieldOff Tryd.prog 65 1 = some 1 := by kernel_rfl
theorem fty_65_1 : fieldTy Tryd.prog 65 1 = some (3, 1) := by kernel_rfl
theorem off_65_2 : fieldOff Tryd.prog 65 2 = some 2 := by kernel_rfl
theorem fty_65_2 : fieldTy Tryd.prog 65 2 = some (3, 2) := by kernel_rfl
theorem off_65_3 : fieldOff Tryd.prog 65 3 = some 3 := by kernel_rfl
theorem fty_65_3 : fieldTy Tryd.prog 65 3 = some (3, 3) := by kernel_rfl
theorem off_65_4 : fieldOff Tryd.prog 65 4 = some 4 := by kernel_rfl
theorem fty_65_4 : fieldTy Tryd.prog 65 4 = some (3, 4) := by kernel_rfl
theorem off_65_5 : fieldOff Tryd.prog 65 5 = some 5 := by kernel_rfl
theorem fty_65_5 : fieldTy Tryd.prog 65 5 = some (3, 5) := by kernel_rfl
theorem off_65_6 : fieldOff Tryd.prog 65 6 = some 6 := by kernel_rfl
theorem fty_65_6 : fieldTy Tryd.prog 65 6 = some (3, 6) := by kernel_rfl
theorem agg_66 : isAggT Tryd.prog 66 = some false := by kernel_rfl
theorem size_66 : sizeT Tryd.prog 66 = some 1 := by kernel_rfl
theorem zero_66 : zeroD Tryd.prog 66 = some [.nilf] := by kernel_rfl
theorem agg_67 : isAggT Tryd.prog 67 = some false := by kernel_rfl
theorem size_67 : sizeT Tryd.prog 67 = some 1 := by kernel_rfl
theorem zero_67 : zeroD Tryd.prog 67 = some [.nilf] := by kernel_rfl
theorem agg_68 : isAggT Tryd.prog 68 = some false := by kernel_rfl
theorem size_68 : sizeT Tryd.prog 68 = some 1 := by kernel_rfl
theorem agg_69 : isAggT Tryd.prog 69 = some false := by kernel_rfl
theorem size_69 : sizeT Tryd.prog 69 = some 1 := by kernel_rfl
theorem zero_69 : zeroD Tryd.prog 69 = some [.nilf] := by kernel_rfl
theorem agg_70 : isAggT Tryd.prog 70 = some false := by kernel_rfl
theorem size_70 : sizeT Tryd.prog 70 = some 1 := by kernel_rfl
theorem zero_70 : zeroD Tryd.prog 70 = some [.nilf] := by kernel_rfl
theorem agg_71 : isAggT Tryd.prog 71 = some false := by kernel_rfl
theorem size_71 : sizeT Tryd.prog 71 = some 1 := by kernel_rfl
theorem zero_71 : zeroD Tryd.prog 71 = some [.nilf] := by kernel_rfl
theorem agg_72 : isAggT Tryd.prog 72 = some false := by kernel_rfl
theorem size_72 : sizeT Tryd.prog 72 = some 1 := by kernel_rfl
theorem zero_72 : zeroD Tryd.prog 72 = some [.nilf] := by kernel_rfl
theorem agg_73 : isAggT Tryd.prog 73 = some true := by kernel_rfl
theorem size_73 : sizeT Tryd.prog 73 = some 4 := by kernel_rfl
theorem zero_73 : zeroD Tryd.prog 73 = some [.int .i64 0, .int .i64 0, .int .i64 0, .int .i64 0] := by kernel_rfl
theorem place_73 : placesT Tryd.prog 73 = some [(0, 1), (1, 2), (3, 1)] := by kernel_rfl
theorem off_73_0 : fieldOff Tryd.prog 73 0 = some 0 := by kernel_rfl
theorem fty_73_0 : fieldTy Tryd.prog 73 0 = some (3, 0) := by kernel_rfl
theorem off_73_1 : fieldOff Tryd.prog 73 1 = some 1 := by kernel_rfl
theorem fty_73_1 : fieldTy Tryd.prog 73 1 = some (45, 1) := by kernel_rfl
theorem off_73_2 : fieldOff Tryd.prog 73 2 = some 3 := by kernel_rfl
theorem fty_73_2 : fieldTy Tryd.prog 73 2 = some (3, 3) := by kernel_rfl
theorem agg_74 : isAggT Tryd.prog 74 = some true := by kernel_rfl
theorem size_74 : sizeT Tryd.prog 74 = some 4 := by kernel_rfl
theorem zero_74 : zeroD Tryd.prog 74 = some [.int .i64 0, .int .i64 0, .int .i64 0, .int .i64 0] := by kernel_rfl
theorem place_74 : placesT Tryd.prog 74 = some [(0, 1), (1, 2), (3, 1)] := by kernel_rfl
theorem off_74_0 : fieldOff Tryd.prog 74 0 = some 0 := by kernel_rfl
theorem fty_74_0 : fieldTy Tryd.prog 74 0 = some (3, 0) := by kernel_rfl
theorem off_74_1 : fieldOff Tryd.prog 74 1 = some 1 := by kernel_rfl
theorem fty_74_1 : fieldTy Tryd.prog 74 1 = some (45, 1) := by kernel_rfl
theorem off_74_2 : fieldOff Tryd.prog 74 2 = some 3 := by kernel_rfl
theorem fty_74_2 : fieldTy Tryd.prog 74 2 = some (3, 3) := by kernel_rfl
theorem agg_75 : isAggT Tryd.prog 75 = some false := by kernel_rfl
theorem size_75 : sizeT Tryd.prog 75 = some 1 := by kernel_rfl
theorem zero_75 : zeroD Tryd.prog 75 = some [.nilf] := by kernel_rfl
theorem agg_76 : isAggT Tryd.prog 76 = some false := by kernel_rfl
theorem size_76 : sizeT Tryd.prog 76 = some 1 := by kernel_rfl
theorem zero_76 : zeroD Tryd.prog 76 = some [.nilf] := by kernel_rfl
theorem agg_77 : isAggT Tryd.prog 77 = some false := by kernel_rfl
theorem size_77 : sizeT Tryd.prog 77 = some 1 := by kernel_rfl
theorem zero_77 : zeroD Tryd.prog 77 = some [.nilf] := by kernel_rfl
theorem agg_78 : isAggT Tryd.prog 78 = some false := by kernel_rfl
theorem size_78 : sizeT Tryd.prog 78 = some 1 := by kernel_rfl
theorem zero_78 : zeroD Tryd.prog 78 = some [.nilf] := by kernel_rfl
theorem agg_79 : isAggT Tryd.prog 79 = some false := by kernel_rfl
theorem size_79 : sizeT Tryd.prog 79 = some 1 := by kernel_rfl
theorem zero_79 : zeroD Tryd.prog 79 = some [.nilf] := by kernel_rfl
theorem agg_80 : isAggT Tryd.prog 80 = some false := by kernel_rfl
theorem size_80 : sizeT Tryd.prog 80 = some 1 := by kernel_rfl
theorem zero_80 : zeroD Tryd.prog 80 = some [.nilf] := by kernel_rfl
theorem agg_81 : isAggT Tryd.prog 81 = some false := by kernel_rfl
theorem size_81 : sizeT Tryd.prog 81 = some 1 := by kernel_rfl
theorem zero_81 : zeroD Tryd.prog 81 = some [.nils] := by kernel_rfl
theorem und_81 : Tryd.prog.underlying 81 = some (.slice 25) := by kernel_rfl
theorem bytes_25_81 : Tryd.prog.bytesOf 25 = 24 := by kernel_rfl
theorem agg_82 : isAggT Tryd.prog 82 = some false := by kernel_rfl
theorem size_82 : sizeT Tryd.prog 82 = some 1 := by kernel_rfl
theorem zero_82 : zeroD Tryd.prog 82 = some [.nilf] := by kernel_rfl
theorem agg_83 : isAggT Tryd.prog 83 = some false := by kernel_rfl
theorem size_83 : sizeT Tryd.prog 83 = some 1 := by kernel_rfl
theorem zero_83 : zeroD Tryd.prog 83 = some [.nilf] := by kernel_rfl
theorem agg_84 : isAggT Tryd.prog 84 = some true := by kernel_rfl
theorem size_84 : sizeT Tryd.prog 84 = some 37 := by kernel_rfl
theorem zero_84 : zeroD Tryd.prog 84 = some [.int .i64 0, .int .i64 0, .nils, .int .i64 0, .int .i64 0, .int .i64 0, .nils, .int .i64 0, .int .i64 0, .int .i64 0, .nils, .int .i64 0, .int .i64 0, .int .i64 0, .nils, .int .i64 0, .int .i64 0, .int .i64 0, .nils, .int .i64 0, .int .i64 0, .int .i64 0, .nils, .nils, .nils, .int .i64 0, .int .i64 0, .int .i64 0, .int .i64 0, .int .i64 0, .int .i64 0, .int .i64 0, .int .i64 0, .int .i64 0, .int .i64 0, .int .i64 0, .int .i64 0] := by kernel_rfl
theorem place_84 : placesT Tryd.prog 84 = some [(0, 25), (25, 4), (29, 7), (36, 1)] := by kernel_rfl
theorem off_84_0 : fieldOff Tryd.prog 84 0 = some 0 := by kernel_rfl
theorem fty_84_0 : fieldTy Tryd.prog 84 0 = some (58, 0) := by kernel_rfl
theorem off_84_1 : fieldOff Tryd.prog 84 1 = some 25 := by kernel_rfl
theorem fty_84_1 : fieldTy Tryd.prog 84 1 = some (62, 25) := by kernel_rfl
theorem off_84_2 : fieldOff Tryd.prog 84 2 = some 29 := by kernel_rfl
theorem fty_84_2 : fieldTy Tryd.prog 84 2 = some (65, 29) := by kernel_rfl
theorem off_84_3 : fieldOff Tryd.prog 84 3 = some 36 := by kernel_rfl
theorem fty_84_3 : fieldTy Tryd.prog 84 3 = some (3, 36) := by kernel_rfl
theorem agg_85 : isAggT Tryd.prog 85 = some true := by kernel_rfl
theorem size_85 : sizeT Tryd.prog 85 = some 37 := by kernel_rfl
theorem zero_85 : zeroD Tryd.prog 85 = some [.int .i64 0, .int .i64 0, .nils, .int .i64 0, .int .i64 0, .int .i64 0, .nils, .int .i64 0, .int .i64 0, .int .i64 0, .nils, .int .i64 0, .int .i64 0, .int .i64 0, .nils, .int .i64 0, .int .i64 0, .int .i64 0, .nils, .int .i64 0, .int .i64 0, .int .i64 0, .nils, .nils, .nils, .int .i64 0, .int .i64 0, .int .i64 0, .int .i64 0, .int .i64 0, .int .i64 0, .int .i64 0, .int .i64 0, .int .i64 0, .int .i64 0, .int .i64 0, .int .i64 0] := by kernel_rfl
theorem place_85 : placesT Tryd.prog 85 = some [(0, 25), (25, 4), (29, 7), (36, 1)] := by kernel_rfl
theorem off_85_0 : fieldOff Tryd.prog 85 0 = some 0 := by kernel_rfl
theorem fty_85_0 : fieldTy Tryd.prog 85 0 = some (58, 0) := by kernel_rfl
theorem off_85_1 : fieldOff Tryd.prog 85 1 = some 25 := by kernel_rfl
theorem fty_85_1 : fieldTy Tryd.prog 85 1 = some (62, 25) := by kernel_rfl
theorem off_85_2 : fieldOff Tryd.prog 85 2 = some 29 := by kernel_rfl
theorem fty_85_2 : fieldTy Tryd.prog 85 2 = some (65, 29) := by kernel_rfl
theorem off_85_3 : fieldOff Tryd.prog 85 3 = some 36 := by kernel_rfl
theorem fty_85_3 : fieldTy Tryd.prog 85 3 = some (3, 36) := by kernel_rfl
theorem agg_86 : isAggT Tryd.prog 86 = some false := by kernel_rfl
theorem size_86 : sizeT Tryd.prog 86 = some 1 := by kernel_rfl
theorem zero_86 : zeroD Tryd.prog 86 = some [.nilf] := by kernel_rfl
theorem agg_87 : isAggT Tryd.prog 87 = some false := by kernel_rfl
theorem size_87 : sizeT Tryd.prog 87 = some 1 := by kernel_rfl
theorem zero_87 : zeroD Tryd.prog 87 = some [.nilf] := by kernel_rfl
theorem agg_88 : isAggT Tryd.prog 88 = some true := by kernel_rfl
theorem size_88 : sizeT Tryd.prog 88 = some 7 := by kernel_rfl
theorem zero_88 : zeroD Tryd.prog 88 = some [.int .i64 0, .int .i64 0, .int .i64 0, .int .i64 0, .int .i64 0, .int .i64 0, .bool false] := by kernel_rfl
theorem place_88 : placesT Tryd.prog 88 = some [(0, 2), (2, 2), (4, 2), (6, 1)] := by kernel_rfl
theorem off_88_0 : fieldOff Tryd.prog 88 0 = some 0 := by kernel_rfl
theorem fty_88_0 : fieldTy Tryd.prog 88 0 = some (45, 0) := by kernel_rfl
theorem off_88_1 : fieldOff Tryd.prog 88 1 = some 2 := by kernel_rfl
theorem fty_88_1 : fieldTy Tryd.prog 88 1 = some (45, 2) := by kernel_rfl
theorem off_88_2 : fieldOff Tryd.prog 88 2 = some 4 := by kernel_rfl
theorem fty_88_2 : fieldTy Tryd.prog 88 2 = some (45, 4) := by kernel_rfl
theorem off_88_3 : fieldOff Tryd.prog 88 3 = some 6 := by kernel_rfl
theorem fty_88_3 : fieldTy Tryd.prog 88 3 = some (4, 6) := by kernel_rfl
theorem agg_89 : isAggT Tryd.prog 89 = some true := by kernel_rfl
theorem size_89 : sizeT Tryd.prog 89 = some 7 := by kernel_rfl
theorem zero_89 : zeroD Tryd.prog 89 = some [.int .i64 0, .int .i64 0, .int .i64 0, .int .i64 0, .int .i64 0, .int .i64 0, .bool false] := by kernel_rfl
theorem place_89 : placesT Tryd.prog 89 = some [(0, 2), (2, 2), (4, 2), (6, 1)] := by kernel_rfl
theorem off_89_0 : fieldOff Tryd.prog 89 0 = some 0 := by kernel_rfl
theorem fty_89_0 : fieldTy Tryd.prog 89 0 = some (45, 0) := by kernel_rfl
theorem off_89_1 : fieldOff Tryd.prog 89 1 = some 2 := by kernel_rfl
theorem fty_89_1 : fieldTy Tryd.prog 89 1 = some (45, 2) := by kernel_rfl
theorem off_89_2 : fieldOff Tryd.prog 89 2 = some 4 := by kernel_rfl
theorem fty_89_2 : fieldTy Tryd.prog 89 2 = some (45, 4) := by kernel_rfl
theorem off_89_3 : fieldOff Tryd.prog 89 3 = some 6 := by kernel_rfl
theorem fty_89_3 : fieldTy Tryd.prog 89 3 = some (4, 6) := by kernel_rfl
theorem agg_90 : isAggT Tryd.prog 90 = some true := by kernel_rfl
theorem size_90 : sizeT Tryd.prog 90 = some 3 := by kernel_rfl
theorem zero_90 : zeroD Tryd.prog 90 = some [.int .i64 0, .int .i64 0, .int .i64 0] := by kernel_rfl
theorem place_90 : placesT Tryd.prog 90 = some [(0, 1), (1, 2)] := by kernel_rfl
theorem off_90_0 : fieldOff Tryd.prog 90 0 = some 0 := by kernel_rfl
theorem fty_90_0 : fieldTy Tryd.prog 90 0 = some (60, 0) := by kernel_rfl
theorem off_90_1 : fieldOff Tryd.prog 90 1 = some 1 := by kernel_rfl
theorem fty_90_1 : fieldTy Tryd.prog 90 1 = some (45, 1) := by kernel_rfl
theorem agg_91 : isAggT Tryd.prog 91 = some true := by kernel_rfl
theorem size_91 : sizeT Tryd.prog 91 = some 3 := by kernel_rfl
theorem zero_91 : zeroD Tryd.prog 91 = some [.int .i64 0, .int .i64 0, .int .i64 0] := by kernel_rfl
theorem place_91 : placesT Tryd.prog 91 = some [(0, 1), (1, 2)] := by kernel_rfl
theorem off_91_0 : fieldOff Tryd.prog 91 0 = some 0 := by kernel_rfl
theorem fty_91_0 : fieldTy Tryd.prog 91 0 = some (60, 0) := by kernel_rfl
theorem off_91_1 : fieldOff Tryd.prog 91 1 = some 1 := by kernel_rfl
theorem fty_91_1 : fieldTy Tryd.prog 91 1 = some (45, 1) := by kernel_rfl
theorem agg_92 : isAggT Tryd.prog 92 = some false := by kernel_rfl
theorem size_92 : sizeT Tryd.prog 92 = some 1 := by kernel_rfl
theorem zero_92 : zeroD Tryd.prog 92 = some [.nilf] := by kernel_rfl
theorem agg_93 : isAggT Tryd.prog 93 = some false := by kernel_rfl
theorem size_93 : sizeT Tryd.prog 93 = some 1 := by kernel_rfl
theorem zero_93 : zeroD Tryd.prog 93 = some [.nilf] := by kernel_rfl
theorem agg_94 : isAggT Tryd.prog 94 = some false := by kernel_rfl
theorem size_94 : sizeT Tryd.prog 94 = some 1 := by kernel_rfl
theorem agg_95 : isAggT Tryd.prog 95 = some false := by kernel_rfl
theorem size_95 : sizeT Tryd.prog 95 = some 1 := by kernel_rfl
theorem zero_95 : zeroD Tryd.prog 95 = some [.nilf] := by kernel_rfl
theorem agg_96 : isAggT Tryd.prog 96 = some false := by kernel_rfl
theorem size_96 : sizeT Tryd.prog 96 = some 1 := by kernel_rfl
theorem zero_96 : zeroD Tryd.prog 96 = some [.nilf] := by kernel_rfl
theorem agg_97 : isAggT Tryd.prog 97 = some false := by kernel_rfl
theorem size_97 : sizeT Tryd.prog 97 = some 1 := by kernel_rfl
theorem zero_97 : zeroD Tryd.prog 97 = some [.nilf] := by kernel_rfl
theorem agg_98 : isAggT Tryd.prog 98 = some false := by kernel_rfl
theorem size_98 : sizeT Tryd.prog 98 = some 1 := by kernel_rfl
theorem zero_98 : zeroD Tryd.prog 98 = some [.nilf] := by kernel_rfl
theorem agg_99 : isAggT Tryd.prog 99 = some true := by kernel_rfl
theorem size_99 : sizeT Tryd.prog 99 = some 5 := by kernel_rfl
theorem zero_99 : zeroD Tryd.prog 99 = some [.str ByteArray.empty, .str ByteArray.empty, .str ByteArray.empty, .str ByteArray.empty, .str ByteArray.empty] := by kernel_rfl
theorem und_99 : Tryd.prog.underlying 99 = some (.array 5 9) := by kernel_rfl
theorem agg_100 : isAggT Tryd.prog 100 = some false := by kernel_rfl
theorem size_100 : sizeT Tryd.prog 100 = some 1 := by kernel_rfl
theorem zero_100 : zeroD Tryd.prog 100 = some [.nilf] := by kernel_rfl
theorem agg_101 : isAggT Tryd.prog 101 = some false := by kernel_rfl
theorem size_101 : sizeT Tryd.prog 101 = some 1 := by kernel_rfl
theorem zero_101 : zeroD Tryd.prog 101 = some [.nilp] := by kernel_rfl
theorem und_101 : Tryd.prog.underlying 101 = some (.pointer 24) := by kernel_rfl
theorem agg_102 : isAggT Tryd.prog 102 = some false := by kernel_rfl
theorem size_102 : sizeT Tryd.prog 102 = some 1 := by kernel_rfl
theorem zero_102 : zeroD Tryd.prog 102 = some [.nilm] := by kernel_rfl
theorem agg_103 : isAggT Tryd.prog 103 = some false := by kernel_rfl
theorem size_103 : sizeT Tryd.prog 103 = some 1 := by kernel_rfl
theorem zero_103 : zeroD Tryd.prog 103 = some [.nilf] := by kernel_rfl
theorem agg_104 : isAggT Tryd.prog 104 = some false := by kernel_rfl
theorem size_104 : sizeT Tryd.prog 104 = some 1 := by kernel_rfl
theorem zero_104 : zeroD Tryd.prog 104 = some [.nilp] := by kernel_rfl
theorem und_104 : Tryd.prog.underlying 104 = some (.pointer 54) := by kernel_rfl
theorem agg_105 : isAggT Tryd.prog 105 = some false := by kernel_rfl
theorem size_105 : sizeT Tryd.prog 105 = some 1 := by kernel_rfl
theorem zero_105 : zeroD Tryd.prog 105 = some [.nilf] := by kernel_rfl
theorem agg_106 : isAggT Tryd.prog 106 = some false := by kernel_rfl
theorem size_106 : sizeT Tryd.prog 106 = some 1 := by kernel_rfl
theorem zero_106 : zeroD Tryd.prog 106 = some [.nilf] := by kernel_rfl
theorem agg_107 : isAggT Tryd.prog 107 = some false := by kernel_rfl
theorem size_107 : sizeT Tryd.prog 107 = some 1 := by kernel_rfl
theorem zero_107 : zeroD Tryd.prog 107 = some [.nilf] := by kernel_rfl
theorem agg_108 : isAggT Tryd.prog 108 = some true := by kernel_rfl
theorem size_108 : sizeT Tryd.prog 108 = some 4 := by kernel_rfl
theorem zero_108 : zeroD Tryd.prog 108 = some [.nilf, .nilf, .nilf, .nilf] := by kernel_rfl
theorem und_108 : Tryd.prog.underlying 108 = some (.array 4 27) := by kernel_rfl
theorem agg_109 : isAggT Tryd.prog 109 = some false := by kernel_rfl
theorem size_109 : sizeT Tryd.prog 109 = some 1 := by kernel_rfl
theorem zero_109 : zeroD Tryd.prog 109 = some [.nilf] := by kernel_rfl
theorem agg_110 : isAggT Tryd.prog 110 = some false := by kernel_rfl
theorem size_110 : sizeT Tryd.prog 110 = some 1 := by kernel_rfl
theorem zero_110 : zeroD Tryd.prog 110 = some [.nils] := by kernel_rfl
theorem und_110 : Tryd.prog.underlying 110 = some (.slice 27) := by kernel_rfl
theorem bytes_27_110 : Tryd.prog.bytesOf 27 = 8 := by kernel_rfl
theorem agg_111 : isAggT Tryd.prog 111 = some false := by kernel_rfl
theorem size_111 : sizeT Tryd.prog 111 = some 1 := by kernel_rfl
theorem zero_111 : zeroD Tryd.prog 111 = some [.nilf] := by kernel_rfl
theorem agg_112 : isAggT Tryd.prog 112 = some false := by kernel_rfl
theorem size_112 : sizeT Tryd.prog 112 = some 1 := by kernel_rfl
theorem zero_112 : zeroD Tryd.prog 112 = some [.nilf] := by kernel_rfl
theorem agg_113 : isAggT Tryd.prog 113 = some false := by kernel_rfl
theorem size_113 : sizeT Tryd.prog 113 = some 1 := by kernel_rfl
theorem zero_113 : zeroD Tryd.prog 113 = some [.nilf] := by kernel_rfl
theorem agg_114 : isAggT Tryd.prog 114 = some false := by kernel_rfl
theorem size_114 : sizeT Tryd.prog 114 = some 1 := by kernel_rfl
theorem zero_114 : zeroD Tryd.prog 114 = some [.nilf] := by kernel_rfl
theorem agg_115 : isAggT Tryd.prog 115 = some false := by kernel_rfl
theorem size_115 : sizeT Tryd.prog 115 = some 1 := by kernel_rfl
theorem zero_115 : zeroD Tryd.prog 115 = some [.nilf] := by kernel_rfl
theorem agg_116 : isAggT Tryd.prog 116 = some false := by kernel_rfl
theorem size_116 : sizeT Tryd.prog 116 = some 1 := by kernel_rfl
theorem agg_117 : isAggT Tryd.prog 117 = some false := by kernel_rfl
theorem size_117 : sizeT Tryd.prog 117 = some 1 := by kernel_rfl
theorem zero_117 : zeroD Tryd.prog 117 = some [.nilf] := by kernel_rfl
theorem agg_118 : isAggT Tryd.prog 118 = some false := by kernel_rfl
theorem size_118 : sizeT Tryd.prog 118 = some 1 := by kernel_rfl
theorem zero_118 : zeroD Tryd.prog 118 = some [.nilf] := by kernel_rfl
theorem agg_119 : isAggT Tryd.prog 119 = some false := by kernel_rfl
theorem size_119 : sizeT Tryd.prog 119 = some 1 := by kernel_rfl
theorem zero_119 : zeroD Tryd.prog 119 = some [.nilf] := by kernel_rfl
theorem agg_120 : isAggT Tryd.prog 120 = some false := by kernel_rfl
theorem size_120 : sizeT Tryd.prog 120 = some 1 := by kernel_rfl
theorem zero_120 : zeroD Tryd.prog 120 = some [.nilf] := by kernel_rfl
theorem agg_121 : isAggT Tryd.prog 121 = some true := by kernel_rfl
theorem size_121 : sizeT Tryd.prog 121 = some 20 := by kernel_rfl
theorem zero_121 : zeroD Tryd.prog 121 = some [.int .i64 0, .int .i64 0, .int .i64 0, .nils, .int .i64 0, .int .i64 0, .int .i64 0, .nils, .int .i64 0, .int .i64 0, .int .i64 0, .nils, .int .i64 0, .int .i64 0, .int .i64 0, .nils, .int .i64 0, .int .i64 0, .int .i64 0, .nils] := by kernel_rfl
theorem und_121 : Tryd.prog.underlying 121 = some (.array 5 24) := by kernel_rfl
theorem agg_122 : isAggT Tryd.prog 122 = some true := by kernel_rfl
theorem size_122 : sizeT Tryd.prog 122 = some 2 := by kernel_rfl
theorem zero_122 : zeroD Tryd.prog 122 = some [.int .i64 0, .int .i64 0] := by kernel_rfl
theorem und_122 : Tryd.prog.underlying 122 = some (.array 2 3) := by kernel_rfl
theorem agg_123 : isAggT Tryd.prog 123 = some false := by kernel_rfl
theorem size_123 : sizeT Tryd.prog 123 = some 1 := by kernel_rfl
theorem zero_123 : zeroD Tryd.prog 123 = some [.nilf] := by kernel_rfl
theorem agg_124 : isAggT Tryd.prog 124 = some false := by kernel_rfl
theorem size_124 : sizeT Tryd.prog 124 = some 1 := by kernel_rfl
theorem zero_124 : zeroD Tryd.prog 124 = some [.nilf] := by kernel_rfl
theorem agg_125 : isAggT Tryd.prog 125 = some true := by kernel_rfl
theorem size_125 : sizeT Tryd.prog 125 = some 16 := by kernel_rfl
theorem zero_125 : zeroD Tryd.prog 125 = some [.int .i64 0, .int .i64 0, .int .i64 0, .int .i64 0, .int .i64 0, .int .i64 0, .int .i64 0, .int .i64 0, .int .i64 0, .int .i64 0, .int .i64 0, .int .i64 0, .int .i64 0, .int .i64 0, .int .i64 0, .int .i64 0] := by kernel_rfl
theorem und_125 : Tryd.prog.underlying 125 = some (.array 8 122) := by kernel_rfl
theorem agg_126 : isAggT Tryd.prog 126 = some false := by kernel_rfl
theorem size_126 : sizeT Tryd.prog 126 = some 1 := by kernel_rfl
theorem zero_126 : zeroD Tryd.prog 126 = some [.nils] := by kernel_rfl
theorem und_126 : Tryd.prog.underlying 126 = some (.slice 5) := by kernel_rfl
theorem bytes_5_126 : Tryd.prog.bytesOf 5 = 1 := by kernel_rfl
theorem agg_127 : isAggT Tryd.prog 127 = some false := by kernel_rfl
theorem size_127 : sizeT Tryd.prog 127 = some 1 := by kernel_rfl
theorem zero_127 : zeroD Tryd.prog 127 = some [.nilf] := by kernel_rfl
theorem agg_128 : isAggT Tryd.prog 128 = some true := by kernel_rfl
theorem size_128 : sizeT Tryd.prog 128 = some 24 := by kernel_rfl
theorem zero_128 : zeroD Tryd.prog 128 = some [.int .u8 0, .int .u8 0, .int .u8 0, .int .u8 0, .int .u8 0, .int .u8 0, .int .u8 0, .int .u8 0, .int .u8 0, .int .u8 0, .int .u8 0, .int .u8 0, .int .u8 0, .int .u8 0, .int .u8 0, .int .u8 0, .int .u8 0, .int .u8 0, .int .u8 0, .int .u8 0, .int .u8 0, .int .u8 0, .int .u8 0, .int .u8 0] := by kernel_rfl
theorem und_128 : Tryd.prog.underlying 128 = some (.array 24 5) := by kernel_rfl
theorem agg_129 : isAggT Tryd.prog 129 = some false := by kernel_rfl
theorem size_129 : sizeT Tryd.prog 129 = some 1 := by kernel_rfl
theorem zero_129 : zeroD Tryd.prog 129 = some [.int .u64 0] := by kernel_rfl
theorem und_129 : Tryd.prog.underlying 129 = some (.int .u64) := by kernel_rfl
theorem agg_130 : isAggT Tryd.prog 130 = some false := by kernel_rfl
theorem size_130 : sizeT Tryd.prog 130 = some 1 := by kernel_rfl
theorem zero_130 : zeroD Tryd.prog 130 = some [.nilf] := by kernel_rfl
theorem agg_131 : isAggT Tryd.prog 131 = some false := by kernel_rfl
theorem size_131 : sizeT Tryd.prog 131 = some 1 := by kernel_rfl
theorem zero_131 : zeroD Tryd.prog 131 = some [.nilf] := by kernel_rfl
theorem agg_132 : isAggT Tryd.prog 132 = some false := by kernel_rfl
theorem size_132 : sizeT Tryd.prog 132 = some 1 := by kernel_rfl
theorem agg_133 : isAggT Tryd.prog 133 = some false := by kernel_rfl
theorem size_133 : sizeT Tryd.prog 133 = some 1 := by kernel_rfl
theorem zero_133 : zeroD Tryd.prog 133 = some [.nilf] := by kernel_rfl
theorem agg_134 : isAggT Tryd.prog 134 = some false := by kernel_rfl
theorem size_134 : sizeT Tryd.prog 134 = some 1 := by kernel_rfl
theorem zero_134 : zeroD Tryd.prog 134 = some [.nilf] := by kernel_rfl
theorem agg_135 : isAggT Tryd.prog 135 = some false := by kernel_rfl
theorem size_135 : sizeT Tryd.prog 135 = some 1 := by kernel_rfl
theorem zero_135 : zeroD Tryd.prog 135 = some [.nilf] := by kernel_rfl
theorem agg_136 : isAggT Tryd.prog 136 = some true := by kernel_rfl
theorem size_136 : sizeT Tryd.prog 136 = some 20 := by kernel_rfl
theorem zero_136 : zeroD Tryd.prog 136 = some [.int .u64 0, .int .u64 0, .int .u64 0, .int .u64 0, .int .u64 0, .int .u64 0, .int .u64 0, .int .u64 0, .int .u64 0, .int .u64 0, .int .u64 0, .int .u64 0, .int .u64 0, .int .u64 0, .int .u64 0, .int .u64 0, .int .u64 0, .int .u64 0, .int .u64 0, .int .u64 0] := by kernel_rfl
theorem und_136 : Tryd.prog.underlying 136 = some (.array 20 129) := by kernel_rfl
theorem agg_137 : isAggT Tryd.prog 137 = some false := by kernel_rfl
theorem size_137 : sizeT Tryd.prog 137 = some 1 := by kernel_rfl
theorem zero_137 : zeroD Tryd.prog 137 = some [.int .u32 0] := by kernel_rfl
theorem und_137 : Tryd.prog.underlying 137 = some (.int .u32) := by kernel_rfl
theorem agg_138 : isAggT Tryd.prog 138 = some true := by kernel_rfl
theorem size_138 : sizeT Tryd.prog 138 = some 65 := by kernel_rfl
theorem und_138 : Tryd.prog.underlying 138 = some (.array 65 5) := by kernel_rfl
theorem agg_139 : isAggT Tryd.prog 139 = some false := by kernel_rfl
theorem size_139 : sizeT Tryd.prog 139 = some 1 := by kernel_rfl
theorem zero_139 : zeroD Tryd.prog 139 = some [.int .u64 0] := by kernel_rfl
theorem und_139 : Tryd.prog.underlying 139 = some (.int .u64) := by kernel_rfl
theorem agg_140 : isAggT Tryd.prog 140 = some false := by kernel_rfl
theorem size_140 : sizeT Tryd.prog 140 = some 1 := by kernel_rfl
theorem zero_140 : zeroD Tryd.prog 140 = some [.nilf] := by kernel_rfl
theorem agg_141 : isAggT Tryd.prog 141 = some false := by kernel_rfl
theorem size_141 : sizeT Tryd.prog 141 = some 1 := by kernel_rfl
theorem zero_141 : zeroD Tryd.prog 141 = some [.nilf] := by kernel_rfl
theorem agg_142 : isAggT Tryd.prog 142 = some true := by kernel_rfl
theorem size_142 : sizeT Tryd.prog 142 = some 32 := by kernel_rfl
theorem zero_142 : zeroD Tryd.prog 142 = some [.int .u8 0, .int .u8 0, .int .u8 0, .int .u8 0, .int .u8 0, .int .u8 0, .int .u8 0, .int .u8 0, .int .u8 0, .int .u8 0, .int .u8 0, .int .u8 0, .int .u8 0, .int .u8 0, .int .u8 0, .int .u8 0, .int .u8 0, .int .u8 0, .int .u8 0, .int .u8 0, .int .u8 0, .int .u8 0, .int .u8 0, .int .u8 0, .int .u8 0, .int .u8 0, .int .u8 0, .int .u8 0, .int .u8 0, .int .u8 0, .int .u8 0, .int .u8 0] := by kernel_rfl
theorem und_142 : Tryd.prog.underlying 142 = some (.array 32 5) := by kernel_rfl
theorem agg_143 : isAggT Tryd.prog 143 = some true := by kernel_rfl
theorem size_143 : sizeT Tryd.prog 143 = some 64 := by kernel_rfl
theorem und_143 : Tryd.prog.underlying 143 = some (.array 64 5) := by kernel_rfl
theorem agg_144 : isAggT Tryd.prog 144 = some false := by kernel_rfl
theorem size_144 : sizeT Tryd.prog 144 = some 1 := by kernel_rfl
theorem zero_144 : zeroD Tryd.prog 144 = some [.nilf] := by kernel_rfl
theorem agg_145 : isAggT Tryd.prog 145 = some true := by kernel_rfl
theorem size_145 : sizeT Tryd.prog 145 = some 4 := by kernel_rfl
theorem zero_145 : zeroD Tryd.prog 145 = some [.nilp, .nilp, .nilp, .str ByteArray.empty] := by kernel_rfl
theorem place_145 : placesT Tryd.prog 145 = some [(0, 1), (1, 1), (2, 1), (3, 1)] := by kernel_rfl
theorem off_145_0 : fieldOff Tryd.prog 145 0 = some 0 := by kernel_rfl
theorem fty_145_0 : fieldTy Tryd.prog 145 0 = some (17, 0) := by kernel_rfl
theorem off_145_1 : fieldOff Tryd.prog 145 1 = some 1 := by kernel_rfl
theorem fty_145_1 : fieldTy Tryd.prog 145 1 = some (17, 1) := by kernel_rfl
theorem off_145_2 : fieldOff Tryd.prog 145 2 = some 2 := by kernel_rfl
theorem fty_145_2 : fieldTy Tryd.prog 145 2 = some (17, 2) := by kernel_rfl
theorem off_145_3 : fieldOff Tryd.prog 145 3 = some 3 := by kernel_rfl
theorem fty_145_3 : fieldTy Tryd.prog 145 3 = some (9, 3) := by kernel_rfl
theorem agg_146 : isAggT Tryd.prog 146 = some true := by kernel_rfl
theorem size_146 : sizeT Tryd.prog 146 = some 4 := by kernel_rfl
theorem zero_146 : zeroD Tryd.prog 146 = some [.nilp, .nilp, .nilp, .str ByteArray.empty] := by kernel_rfl
theorem place_146 : placesT Tryd.prog 146 = some [(0, 1), (1, 1), (2, 1), (3, 1)] := by kernel_rfl
theorem off_146_0 : fieldOff Tryd.prog 146 0 = some 0 := by kernel_rfl
theorem fty_146_0 : fieldTy Tryd.prog 146 0 = some (17, 0) := by kernel_rfl
theorem off_146_1 : fieldOff Tryd.prog 146 1 = some 1 := by kernel_rfl
theorem fty_146_1 : fieldTy Tryd.prog 146 1 = some (17, 1) := by kernel_rfl
theorem off_146_2 : fieldOff Tryd.prog 146 2 = some 2 := by kernel_rfl
theorem fty_146_2 : fieldTy Tryd.prog 146 2 = some (17, 2) := by kernel_rfl
theorem off_146_3 : fieldOff Tryd.prog 146 3 = some 3 := by kernel_rfl
theorem fty_146_3 : fieldTy Tryd.prog 146 3 = some (9, 3) := by kernel_rfl
theorem agg_147 : isAggT Tryd.prog 147 = some true := by kernel_rfl
theorem size_147 : sizeT Tryd.prog 147 = some 0 := by kernel_rfl
theorem zero_147 : zeroD Tryd.prog 147 = some [] := by kernel_rfl
theorem und_147 : Tryd.prog.underlying 147 = some (.array 0 16) := by kernel_rfl
theorem agg_148 : isAggT Tryd.prog 148 = some true := by kernel_rfl
theorem size_148 : sizeT Tryd.prog 148 = some 0 := by kernel_rfl
theorem zero_148 : zeroD Tryd.prog 148 = some [] := by kernel_rfl
theorem place_148 : placesT Tryd.prog 148 = some [(0, 0)] := by kernel_rfl
theorem fty_148_0 : fieldTy Tryd.prog 148 0 = some (147, 0) := by kernel_rfl
theorem agg_149 : isAggT Tryd.prog 149 = some true := by kernel_rfl
theorem size_149 : sizeT Tryd.prog 149 = some 0 := by kernel_rfl
theorem zero_149 : zeroD Tryd.prog 149 = some [] := by kernel_rfl
theorem place_149 : placesT Tryd.prog 149 = some [(0, 0)] := by kernel_rfl
theorem fty_149_0 : fieldTy Tryd.prog 149 0 = some (147, 0) := by kernel_rfl
theorem agg_150 : isAggT Tryd.prog 150 = some false := by kernel_rfl
theorem size_150 : sizeT Tryd.prog 150 = some 1 := by kernel_rfl
theorem zero_150 : zeroD Tryd.prog 150 = some [.int .u8 0] := by kernel_rfl
theorem und_150 : Tryd.prog.underlying 150 = some (.int .u8) := by kernel_rfl
theorem agg_151 : isAggT Tryd.prog 151 = some false := by kernel_rfl
theorem size_151 : sizeT Tryd.prog 151 = some 1 := by kernel_rfl
theorem zero_151 : zeroD Tryd.prog 151 = some [.int .u8 0] := by kernel_rfl
theorem und_151 : Tryd.prog.underlying 151 = some (.int .u8) := by kernel_rfl
theorem agg_152 : isAggT Tryd.prog 152 = some false := by kernel_rfl
theorem size_152 : sizeT Tryd.prog 152 = some 1 := by kernel_rfl
theorem zero_152 : zeroD Tryd.prog 152 = some [.nilf] := by kernel_rfl
theorem agg_153 : isAggT Tryd.prog 153 = some false := by kernel_rfl
theorem size_153 : sizeT Tryd.prog 153 = some 1 := by kernel_rfl
theorem zero_153 : zeroD Tryd.prog 153 = some [.nilp] := by kernel_rfl
theorem und_153 : Tryd.prog.underlying 153 = some (.pointer 5) := by kernel_rfl
theorem agg_154 : isAggT Tryd.prog 154 = some false := by kernel_rfl
theorem size_154 : sizeT Tryd.prog 154 = some 1 := by kernel_rfl
theorem zero_154 : zeroD Tryd.prog 154 = some [.int .i32 0] := by kernel_rfl
theorem und_154 : Tryd.prog.underlying 154 = some (.int .i32) := by kernel_rfl
theorem agg_155 : isAggT Tryd.prog 155 = some false := by kernel_rfl
theorem size_155 : sizeT Tryd.prog 155 = some 1 := by kernel_rfl
theorem zero_155 : zeroD Tryd.prog 155 = some [.int .i32 0] := by kernel_rfl
theorem und_155 : Tryd.prog.underlying 155 = some (.int .i32) := by kernel_rfl
theorem agg_156 : isAggT Tryd.prog 156 = some true := by kernel_rfl
theorem size_156 : sizeT Tryd.prog 156 = some 11 := by kernel_rfl
theorem zero_156 : zeroD Tryd.prog 156 = some [.int .u64 0, .int .u64 0, .int .u32 0, .int .u8 0, .int .u8 0, .int .u8 0, .int .u8 0, .nilf, .nilp, .int .i32 0, .int .i32 0] := by kernel_rfl
theorem place_156 : placesT Tryd.prog 156 = some [(0, 1), (1, 1), (2, 1), (3, 1), (4, 1), (5, 1), (6, 1), (7, 1), (8, 1), (9, 1), (10, 1)] := by kernel_rfl
theorem off_156_0 : fieldOff Tryd.prog 156 0 = some 0 := by kernel_rfl
theorem fty_156_0 : fieldTy Tryd.prog 156 0 = some (12, 0) := by kernel_rfl
theorem off_156_1 : fieldOff Tryd.prog 156 1 = some 1 := by kernel_rfl
theorem fty_156_1 : fieldTy Tryd.prog 156 1 = some (12, 1) := by kernel_rfl
theorem off_156_2 : fieldOff Tryd.prog 156 2 = some 2 := by kernel_rfl
theorem fty_156_2 : fieldTy Tryd.prog 156 2 = some (137, 2) := by kernel_rfl
theorem off_156_3 : fieldOff Tryd.prog 156 3 = some 3 := by kernel_rfl
theorem fty_156_3 : fieldTy Tryd.prog 156 3 = some (150, 3) := by kernel_rfl
theorem off_156_4 : fieldOff Tryd.prog 156 4 = some 4 := by kernel_rfl
theorem fty_156_4 : fieldTy Tryd.prog 156 4 = some (5, 4) := by kernel_rfl
theorem off_156_5 : fieldOff Tryd.prog 156 5 = some 5 := by kernel_rfl
theorem fty_156_5 : fieldTy Tryd.prog 156 5 = some (5, 5) := by kernel_rfl
theorem off_156_6 : fieldOff Tryd.prog 156 6 = some 6 := by kernel_rfl
theorem fty_156_6 : fieldTy Tryd.prog 156 6 = some (151, 6) := by kernel_rfl
theorem off_156_7 : fieldOff Tryd.prog 156 7 = some 7 := by kernel_rfl
theorem fty_156_7 : fieldTy Tryd.prog 156 7 = some (152, 7) := by kernel_rfl
theorem off_156_8 : fieldOff Tryd.prog 156 8 = some 8 := by kernel_rfl
theorem fty_156_8 : fieldTy Tryd.prog 156 8 = some (153, 8) := by kernel_rfl
theorem off_156_9 : fieldOff Tryd.prog 156 9 = some 9 := by kernel_rfl
theorem fty_156_9 : fieldTy Tryd.prog 156 9 = some (154, 9) := by kernel_rfl
theorem off_156_10 : fieldOff Tryd.prog 156 10 = some 10 := by kernel_rfl
theorem fty_156_10 : fieldTy Tryd.prog 156 10 = some (155, 10) := by kernel_rfl
theorem agg_157 : isAggT Tryd.prog 157 = some true := by kernel_rfl
theorem size_157 : sizeT Tryd.prog 157 = some 11 := by kernel_rfl
theorem zero_157 : zeroD Tryd.prog 157 = some [.int .u64 0, .int .u64 0, .int .u32 0, .int .u8 0, .int .u8 0, .int .u8 0, .int .u8 0, .nilf, .nilp, .int .i32 0, .int .i32 0] := by kernel_rfl
theorem place_157 : placesT Tryd.prog 157 = some [(0, 1), (1, 1), (2, 1), (3, 1), (4, 1), (5, 1), (6, 1), (7, 1), (8, 1), (9, 1), (10, 1)] := by kernel_rfl
theorem off_157_0 : fieldOff Tryd.prog 157 0 = some 0 := by kernel_rfl
theorem fty_157_0 : fieldTy Tryd.prog 157 0 = some (12, 0) := by kernel_rfl
theorem off_157_1 : fieldOff Tryd.prog 157 1 = some 1 := by kernel_rfl
theorem fty_157_1 : fieldTy Tryd.prog 157 1 = some (12, 1) := by kernel_rfl
theorem off_157_2 : fieldOff Tryd.prog 157 2 = some 2 := by kernel_rfl
theorem fty_157_2 : fieldTy Tryd.prog 157 2 = some (137, 2) := by kernel_rfl
theorem off_157_3 : fieldOff Tryd.prog 157 3 = some 3 := by kernel_rfl
theorem fty_157_3 : fieldTy Tryd.prog 157 3 = some (150, 3) := by kernel_rfl
theorem off_157_4 : fieldOff Tryd.prog 157 4 = some 4 := by kernel_rfl
theorem fty_157_4 : fieldTy Tryd.prog 157 4 = some (5, 4) := by kernel_rfl
theorem off_157_5 : fieldOff Tryd.prog 157 5 = some 5 := by kernel_rfl
theorem fty_157_5 : fieldTy Tryd.prog 157 5 = some (5, 5) := by kernel_rfl
theorem off_157_6 : fieldOff Tryd.prog 157 6 = some 6 := by kernel_rfl
theorem fty_157_6 : fieldTy Tryd.prog 157 6 = some (151, 6) := by kernel_rfl
theorem off_157_7 : fieldOff Tryd.prog 157 7 = some 7 := by kernel_rfl
theorem fty_157_7 : fieldTy Tryd.prog 157 7 = some (152, 7) := by kernel_rfl
theorem off_157_8 : fieldOff Tryd.prog 157 8 = some 8 := by kernel_rfl
theorem fty_157_8 : fieldTy Tryd.prog 157 8 = some (153, 8) := by kernel_rfl
theorem off_157_9 : fieldOff Tryd.prog 157 9 = some 9 := by kernel_rfl
theorem fty_157_9 : fieldTy Tryd.prog 157 9 = some (154, 9) := by kernel_rfl
theorem off_157_10 : fieldOff Tryd.prog 157 10 = some 10 := by kernel_rfl
theorem fty_157_10 : fieldTy Tryd.prog 157 10 = some (155, 10) := by kernel_rfl
theorem agg_158 : isAggT Tryd.prog 158 = some false := by kernel_rfl
theorem size_158 : sizeT Tryd.prog 158 = some 1 := by kernel_rfl
theorem zero_158 : zeroD Tryd.prog 158 = some [.nilp] := by kernel_rfl
end Go.Sx.Fz
