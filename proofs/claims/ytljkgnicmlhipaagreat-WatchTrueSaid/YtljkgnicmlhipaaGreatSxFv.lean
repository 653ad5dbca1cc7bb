/- Facts of types, printed by program (FactsGen.lean). -/
import Derived.Test.YtljkgnicmlhipaaGreatSxMc
import Derived.Test.YtljkgnicmlhipaaGreatProg
set_option linter.unusedVariables false
set_option linter.unusedSimpArgs false
namespace Go.Sx.Fz
open Go.Proofs
theorem agg_0 : isAggT Tryz.prog 0 = some false := by kernel_rfl
theorem size_0 : sizeT Tryz.prog 0 = some 1 := by kernel_rfl
theorem agg_1 : isAggT Tryz.prog 1 = some false := by kernel_rfl
theorem size_1 : sizeT Tryz.prog 1 = some 1 := by kernel_rfl
theorem zero_1 : zeroD Tryz.prog 1 = some [.nilf] := by kernel_rfl
theorem agg_3 : isAggT Tryz.prog 3 = some false := by kernel_rfl
theorem size_3 : sizeT Tryz.prog 3 = some 1 := by kernel_rfl
theorem zero_3 : zeroD Tryz.prog 3 = some [.int .i64 0] := by kernel_rfl
theorem und_3 : Tryz.prog.underlying 3 = some (.int .i64) := by kernel_rfl
theorem agg_4 : isAggT Tryz.prog 4 = some false := by kernel_rfl
theorem size_4 : sizeT Tryz.prog 4 = some 1 := by kernel_rfl
theorem zero_4 : zeroD Tryz.prog 4 = some [.bool false] := by kernel_rfl
theorem und_4 : Tryz.prog.underlying 4 = some (.bool) := by kernel_rfl
theorem agg_5 : isAggT Tryz.prog 5 = some false := by kernel_rfl
theorem size_5 : sizeT Tryz.prog 5 = some 1 := by kernel_rfl
theorem zero_5 : zeroD Tryz.prog 5 = some [.int .u8 0] := by kernel_rfl
theorem und_5 : Tryz.prog.underlying 5 = some (.int .u8) := by kernel_rfl
theorem agg_7 : isAggT Tryz.prog 7 = some true := by kernel_rfl
theorem size_7 : sizeT Tryz.prog 7 = some 4 := by kernel_rfl
theorem zero_7 : zeroD Tryz.prog 7 = some [.int .i64 0, .int .i64 0, .bool false, .int .u8 0] := by kernel_rfl
theorem place_7 : placesT Tryz.prog 7 = some [(0, 1), (1, 1), (2, 1), (3, 1)] := by kernel_rfl
theorem off_7_0 : fieldOff Tryz.prog 7 0 = some 0 := by kernel_rfl
theorem fty_7_0 : fieldTy Tryz.prog 7 0 = some (2, 0) := by kernel_rfl
theorem off_7_1 : fieldOff Tryz.prog 7 1 = some 1 := by kernel_rfl
theorem fty_7_1 : fieldTy Tryz.prog 7 1 = some (3, 1) := by kernel_rfl
theorem off_7_2 : fieldOff Tryz.prog 7 2 = some 2 := by kernel_rfl
theorem fty_7_2 : fieldTy Tryz.prog 7 2 = some (4, 2) := by kernel_rfl
theorem off_7_3 : fieldOff Tryz.prog 7 3 = some 3 := by kernel_rfl
theorem fty_7_3 : fieldTy Tryz.prog 7 3 = some (6, 3) := by kernel_rfl
theorem agg_9 : isAggT Tryz.prog 9 = some false := by kernel_rfl
theorem size_9 : sizeT Tryz.prog 9 = some 1 := by kernel_rfl
theorem zero_9 : zeroD Tryz.prog 9 = some [.str ByteArray.empty] := by kernel_rfl
theorem und_9 : Tryz.prog.underlying 9 = some (.string) := by kernel_rfl
theorem agg_20 : isAggT Tryz.prog 20 = some false := by kernel_rfl
theorem size_20 : sizeT Tryz.prog 20 = some 1 := by kernel_rfl
theorem zero_20 : zeroD Tryz.prog 20 = some [.nili] := by kernel_rfl
theorem agg_22 : isAggT Tryz.prog 22 = some false := by kernel_rfl
theorem size_22 : sizeT Tryz.prog 22 = some 1 := by kernel_rfl
theorem zero_22 : zeroD Tryz.prog 22 = some [.nils] := by kernel_rfl
theorem und_22 : Tryz.prog.underlying 22 = some (.slice 4) := by kernel_rfl
theorem agg_24 : isAggT Tryz.prog 24 = some true := by kernel_rfl
theorem size_24 : sizeT Tryz.prog 24 = some 3 := by kernel_rfl
theorem zero_24 : zeroD Tryz.prog 24 = some [.int .i64 0, .int .i64 0, .nils] := by kernel_rfl
theorem place_24 : placesT Tryz.prog 24 = some [(0, 1), (1, 1), (2, 1)] := by kernel_rfl
theorem off_24_0 : fieldOff Tryz.prog 24 0 = some 0 := by kernel_rfl
theorem fty_24_0 : fieldTy Tryz.prog 24 0 = some (3, 0) := by kernel_rfl
theorem off_24_1 : fieldOff Tryz.prog 24 1 = some 1 := by kernel_rfl
theorem fty_24_1 : fieldTy Tryz.prog 24 1 = some (3, 1) := by kernel_rfl
theorem off_24_2 : fieldOff Tryz.prog 24 2 = some 2 := by kernel_rfl
theorem fty_24_2 : fieldTy Tryz.prog 24 2 = some (22, 2) := by kernel_rfl
theorem agg_25 : isAggT Tryz.prog 25 = some false := by kernel_rfl
theorem size_25 : sizeT Tryz.prog 25 = some 1 := by kernel_rfl
theorem zero_25 : zeroD Tryz.prog 25 = some [.nils] := by kernel_rfl
theorem und_25 : Tryz.prog.underlying 25 = some (.slice 82) := by kernel_rfl
theorem agg_26 : isAggT Tryz.prog 26 = some false := by kernel_rfl
theorem size_26 : sizeT Tryz.prog 26 = some 1 := by kernel_rfl
theorem zero_26 : zeroD Tryz.prog 26 = some [.nils] := by kernel_rfl
theorem und_26 : Tryz.prog.underlying 26 = some (.slice 84) := by kernel_rfl
theorem agg_28 : isAggT Tryz.prog 28 = some true := by kernel_rfl
theorem size_28 : sizeT Tryz.prog 28 = some 2 := by kernel_rfl
theorem zero_28 : zeroD Tryz.prog 28 = some [.nils, .nils] := by kernel_rfl
theorem place_28 : placesT Tryz.prog 28 = some [(0, 1), (1, 1)] := by kernel_rfl
theorem off_28_0 : fieldOff Tryz.prog 28 0 = some 0 := by kernel_rfl
theorem fty_28_0 : fieldTy Tryz.prog 28 0 = some (25, 0) := by kernel_rfl
theorem off_28_1 : fieldOff Tryz.prog 28 1 = some 1 := by kernel_rfl
theorem fty_28_1 : fieldTy Tryz.prog 28 1 = some (26, 1) := by kernel_rfl
theorem agg_29 : isAggT Tryz.prog 29 = some false := by kernel_rfl
theorem size_29 : sizeT Tryz.prog 29 = some 1 := by kernel_rfl
theorem zero_29 : zeroD Tryz.prog 29 = some [.nils] := by kernel_rfl
theorem und_29 : Tryz.prog.underlying 29 = some (.slice 3) := by kernel_rfl
theorem bytes_3_29 : Tryz.prog.bytesOf 3 = 8 := by kernel_rfl
theorem agg_31 : isAggT Tryz.prog 31 = some true := by kernel_rfl
theorem size_31 : sizeT Tryz.prog 31 = some 10 := by kernel_rfl
theorem zero_31 : zeroD Tryz.prog 31 = some [.int .i64 0, .int .i64 0, .nils, .nils, .nils, .int .i64 0, .int .i64 0, .int .i64 0, .int .i64 0, .nils] := by kernel_rfl
theorem place_31 : placesT Tryz.prog 31 = some [(0, 3), (3, 2), (5, 1), (6, 1), (7, 1), (8, 1), (9, 1)] := by kernel_rfl
theorem off_31_0 : fieldOff Tryz.prog 31 0 = some 0 := by kernel_rfl
theorem fty_31_0 : fieldTy Tryz.prog 31 0 = some (24, 0) := by kernel_rfl
theorem off_31_1 : fieldOff Tryz.prog 31 1 = some 3 := by kernel_rfl
theorem fty_31_1 : fieldTy Tryz.prog 31 1 = some (28, 3) := by kernel_rfl
theorem off_31_2 : fieldOff Tryz.prog 31 2 = some 5 := by kernel_rfl
theorem fty_31_2 : fieldTy Tryz.prog 31 2 = some (3, 5) := by kernel_rfl
theorem off_31_3 : fieldOff Tryz.prog 31 3 = some 6 := by kernel_rfl
theorem fty_31_3 : fieldTy Tryz.prog 31 3 = some (3, 6) := by kernel_rfl
theorem off_31_4 : fieldOff Tryz.prog 31 4 = some 7 := by kernel_rfl
theorem fty_31_4 : fieldTy Tryz.prog 31 4 = some (3, 7) := by kernel_rfl
theorem off_31_5 : fieldOff Tryz.prog 31 5 = some 8 := by kernel_rfl
theorem fty_31_5 : fieldTy Tryz.prog 31 5 = some (3, 8) := by kernel_rfl
theorem off_31_6 : fieldOff Tryz.prog 31 6 = some 9 := by kernel_rfl
theorem fty_31_6 : fieldTy Tryz.prog 31 6 = some (29, 9) := by kernel_rfl
theorem agg_32 : isAggT Tryz.prog 32 = some false := by kernel_rfl
theorem size_32 : sizeT Tryz.prog 32 = some 1 := by kernel_rfl
theorem zero_32 : zeroD Tryz.prog 32 = some [.nils] := by kernel_rfl
theorem und_32 : Tryz.prog.underlying 32 = some (.slice 61) := by kernel_rfl
theorem bytes_61_32 : Tryz.prog.bytesOf 61 = 32 := by kernel_rfl
theorem agg_35 : isAggT Tryz.prog 35 = some false := by kernel_rfl
theorem size_35 : sizeT Tryz.prog 35 = some 1 := by kernel_rfl
theorem zero_35 : zeroD Tryz.prog 35 = some [.int .i64 0] := by kernel_rfl
theorem agg_36 : isAggT Tryz.prog 36 = some false := by kernel_rfl
theorem size_36 : sizeT Tryz.prog 36 = some 1 := by kernel_rfl
theorem agg_44 : isAggT Tryz.prog 44 = some true := by kernel_rfl
theorem size_44 : sizeT Tryz.prog 44 = some 2 := by kernel_rfl
theorem zero_44 : zeroD Tryz.prog 44 = some [.int .i64 0, .bool false] := by kernel_rfl
theorem place_44 : placesT Tryz.prog 44 = some [(0, 1), (1, 1)] := by kernel_rfl
theorem off_44_0 : fieldOff Tryz.prog 44 0 = some 0 := by kernel_rfl
theorem fty_44_0 : fieldTy Tryz.prog 44 0 = some (3, 0) := by kernel_rfl
theorem off_44_1 : fieldOff Tryz.prog 44 1 = some 1 := by kernel_rfl
theorem fty_44_1 : fieldTy Tryz.prog 44 1 = some (4, 1) := by kernel_rfl
theorem agg_45 : isAggT Tryz.prog 45 = some false := by kernel_rfl
theorem size_45 : sizeT Tryz.prog 45 = some 1 := by kernel_rfl
theorem zero_45 : zeroD Tryz.prog 45 = some [.nils] := by kernel_rfl
theorem und_45 : Tryz.prog.underlying 45 = some (.slice 44) := by kernel_rfl
theorem agg_50 : isAggT Tryz.prog 50 = some false := by kernel_rfl
theorem size_50 : sizeT Tryz.prog 50 = some 1 := by kernel_rfl
theorem agg_54 : isAggT Tryz.prog 54 = some false := by kernel_rfl
theorem size_54 : sizeT Tryz.prog 54 = some 1 := by kernel_rfl
theorem agg_57 : isAggT Tryz.prog 57 = some false := by kernel_rfl
theorem size_57 : sizeT Tryz.prog 57 = some 1 := by kernel_rfl
theorem zero_57 : zeroD Tryz.prog 57 = some [.nils] := by kernel_rfl
theorem und_57 : Tryz.prog.underlying 57 = some (.slice 66) := by kernel_rfl
theorem bytes_66_57 : Tryz.prog.bytesOf 66 = 16 := by kernel_rfl
theorem agg_58 : isAggT Tryz.prog 58 = some false := by kernel_rfl
theorem size_58 : sizeT Tryz.prog 58 = some 1 := by kernel_rfl
theorem agg_61 : isAggT Tryz.prog 61 = some true := by kernel_rfl
theorem size_61 : sizeT Tryz.prog 61 = some 4 := by kernel_rfl
theorem zero_61 : zeroD Tryz.prog 61 = some [.int .i64 0, .int .i64 0, .bool false, .int .i64 0] := by kernel_rfl
theorem place_61 : placesT Tryz.prog 61 = some [(0, 1), (1, 1), (2, 1), (3, 1)] := by kernel_rfl
theorem off_61_0 : fieldOff Tryz.prog 61 0 = some 0 := by kernel_rfl
theorem fty_61_0 : fieldTy Tryz.prog 61 0 = some (3, 0) := by kernel_rfl
theorem off_61_1 : fieldOff Tryz.prog 61 1 = some 1 := by kernel_rfl
theorem fty_61_1 : fieldTy Tryz.prog 61 1 = some (3, 1) := by kernel_rfl
theorem off_61_2 : fieldOff Tryz.prog 61 2 = some 2 := by kernel_rfl
theorem fty_61_2 : fieldTy Tryz.prog 61 2 = some (4, 2) := by kernel_rfl
theorem off_61_3 : fieldOff Tryz.prog 61 3 = some 3 := by kernel_rfl
theorem fty_61_3 : fieldTy Tryz.prog 61 3 = some (3, 3) := by kernel_rfl
theorem agg_62 : isAggT Tryz.prog 62 = some false := by kernel_rfl
theorem size_62 : sizeT Tryz.prog 62 = some 1 := by kernel_rfl
theorem agg_66 : isAggT Tryz.prog 66 = some true := by kernel_rfl
theorem size_66 : sizeT Tryz.prog 66 = some 2 := by kernel_rfl
theorem zero_66 : zeroD Tryz.prog 66 = some [.int .i64 0, .int .i64 0] := by kernel_rfl
theorem place_66 : placesT Tryz.prog 66 = some [(0, 1), (1, 1)] := by kernel_rfl
theorem off_66_0 : fieldOff Tryz.prog 66 0 = some 0 := by kernel_rfl
theorem fty_66_0 : fieldTy Tryz.prog 66 0 = some (3, 0) := by kernel_rfl
theorem off_66_1 : fieldOff Tryz.prog 66 1 = some 1 := by kernel_rfl
theorem fty_66_1 : fieldTy Tryz.prog 66 1 = some (3, 1) := by kernel_rfl
theorem agg_67 : isAggT Tryz.prog 67 = some false := by kernel_rfl
theorem size_67 : sizeT Tryz.prog 67 = some 1 := by kernel_rfl
theorem zero_67 : zeroD Tryz.prog 67 = some [.nilp] := by kernel_rfl
theorem agg_68 : isAggT Tryz.prog 68 = some false := by kernel_rfl
theorem size_68 : sizeT Tryz.prog 68 = some 1 := by kernel_rfl
theorem zero_68 : zeroD Tryz.prog 68 = some [.nilp] := by kernel_rfl
theorem agg_70 : isAggT Tryz.prog 70 = some false := by kernel_rfl
theorem size_70 : sizeT Tryz.prog 70 = some 1 := by kernel_rfl
theorem zero_70 : zeroD Tryz.prog 70 = some [.nilm] := by kernel_rfl
theorem agg_72 : isAggT Tryz.prog 72 = some true := by kernel_rfl
theorem size_72 : sizeT Tryz.prog 72 = some 4 := by kernel_rfl
theorem zero_72 : zeroD Tryz.prog 72 = some [.nilp, .int .i64 0, .nilm, .nilm] := by kernel_rfl
theorem place_72 : placesT Tryz.prog 72 = some [(0, 1), (1, 1), (2, 1), (3, 1)] := by kernel_rfl
theorem off_72_0 : fieldOff Tryz.prog 72 0 = some 0 := by kernel_rfl
theorem fty_72_0 : fieldTy Tryz.prog 72 0 = some (68, 0) := by kernel_rfl
theorem off_72_1 : fieldOff Tryz.prog 72 1 = some 1 := by kernel_rfl
theorem fty_72_1 : fieldTy Tryz.prog 72 1 = some (3, 1) := by kernel_rfl
theorem off_72_2 : fieldOff Tryz.prog 72 2 = some 2 := by kernel_rfl
theorem fty_72_2 : fieldTy Tryz.prog 72 2 = some (70, 2) := by kernel_rfl
theorem off_72_3 : fieldOff Tryz.prog 72 3 = some 3 := by kernel_rfl
theorem fty_72_3 : fieldTy Tryz.prog 72 3 = some (70, 3) := by kernel_rfl
theorem agg_73 : isAggT Tryz.prog 73 = some true := by kernel_rfl
theorem size_73 : sizeT Tryz.prog 73 = some 4 := by kernel_rfl
theorem zero_73 : zeroD Tryz.prog 73 = some [.nilf, .nilf, .nilf, .nilf] := by kernel_rfl
theorem und_73 : Tryz.prog.underlying 73 = some (.array 4 1) := by kernel_rfl
theorem place_73 : placesT Tryz.prog 73 = some [(0, 1), (1, 1), (2, 1), (3, 1)] := by kernel_rfl
theorem agg_80 : isAggT Tryz.prog 80 = some false := by kernel_rfl
theorem size_80 : sizeT Tryz.prog 80 = some 1 := by kernel_rfl
theorem zero_80 : zeroD Tryz.prog 80 = some [.nils] := by kernel_rfl
theorem und_80 : Tryz.prog.underlying 80 = some (.slice 99) := by kernel_rfl
theorem agg_82 : isAggT Tryz.prog 82 = some true := by kernel_rfl
theorem size_82 : sizeT Tryz.prog 82 = some 3 := by kernel_rfl
theorem zero_82 : zeroD Tryz.prog 82 = some [.int .i64 0, .int .i64 0, .nils] := by kernel_rfl
theorem place_82 : placesT Tryz.prog 82 = some [(0, 1), (1, 1), (2, 1)] := by kernel_rfl
theorem off_82_0 : fieldOff Tryz.prog 82 0 = some 0 := by kernel_rfl
theorem fty_82_0 : fieldTy Tryz.prog 82 0 = some (3, 0) := by kernel_rfl
theorem off_82_1 : fieldOff Tryz.prog 82 1 = some 1 := by kernel_rfl
theorem fty_82_1 : fieldTy Tryz.prog 82 1 = some (3, 1) := by kernel_rfl
theorem off_82_2 : fieldOff Tryz.prog 82 2 = some 2 := by kernel_rfl
theorem fty_82_2 : fieldTy Tryz.prog 82 2 = some (80, 2) := by kernel_rfl
theorem agg_83 : isAggT Tryz.prog 83 = some true := by kernel_rfl
theorem size_83 : sizeT Tryz.prog 83 = some 4 := by kernel_rfl
theorem zero_83 : zeroD Tryz.prog 83 = some [.int .i64 0, .int .i64 0, .int .i64 0, .nils] := by kernel_rfl
theorem place_83 : placesT Tryz.prog 83 = some [(0, 1), (1, 1), (2, 1), (3, 1)] := by kernel_rfl
theorem off_83_0 : fieldOff Tryz.prog 83 0 = some 0 := by kernel_rfl
theorem fty_83_0 : fieldTy Tryz.prog 83 0 = some (3, 0) := by kernel_rfl
theorem off_83_1 : fieldOff Tryz.prog 83 1 = some 1 := by kernel_rfl
theorem fty_83_1 : fieldTy Tryz.prog 83 1 = some (3, 1) := by kernel_rfl
theorem off_83_2 : fieldOff Tryz.prog 83 2 = some 2 := by kernel_rfl
theorem fty_83_2 : fieldTy Tryz.prog 83 2 = some (3, 2) := by kernel_rfl
theorem off_83_3 : fieldOff Tryz.prog 83 3 = some 3 := by kernel_rfl
theorem fty_83_3 : fieldTy Tryz.prog 83 3 = some (80, 3) := by kernel_rfl
theorem agg_84 : isAggT Tryz.prog 84 = some true := by kernel_rfl
theorem size_84 : sizeT Tryz.prog 84 = some 4 := by kernel_rfl
theorem zero_84 : zeroD Tryz.prog 84 = some [.int .i64 0, .int .i64 0, .int .i64 0, .nils] := by kernel_rfl
theorem place_84 : placesT Tryz.prog 84 = some [(0, 1), (1, 1), (2, 1), (3, 1)] := by kernel_rfl
theorem off_84_0 : fieldOff Tryz.prog 84 0 = some 0 := by kernel_rfl
theorem fty_84_0 : fieldTy Tryz.prog 84 0 = some (3, 0) := by kernel_rfl
theorem off_84_1 : fieldOff Tryz.prog 84 1 = some 1 := by kernel_rfl
theorem fty_84_1 : fieldTy Tryz.prog 84 1 = some (3, 1) := by kernel_rfl
theorem off_84_2 : fieldOff Tryz.prog 84 2 = some 2 := by kernel_rfl
theorem fty_84_2 : fieldTy Tryz.prog 84 2 = some (3, 2) := by kernel_rfl
theorem off_84_3 : fieldOff Tryz.prog 84 3 = some 3 := by kernel_rfl
theorem fty_84_3 : fieldTy Tryz.prog 84 3 = some (80, 3) := by kernel_rfl
theorem agg_87 : isAggT Tryz.prog 87 = some false := by kernel_rfl
theorem size_87 : sizeT Tryz.prog 87 = some 1 := by kernel_rfl
theorem zero_87 : zeroD Tryz.prog 87 = some [.nilf] := by kernel_rfl
theorem agg_90 : isAggT Tryz.prog 90 = some true := by kernel_rfl
theorem size_90 : sizeT Tryz.prog 90 = some 1 := by kernel_rfl
theorem zero_90 : zeroD Tryz.prog 90 = some [.int .i64 0] := by kernel_rfl
theorem place_90 : placesT Tryz.prog 90 = some [(0, 1)] := by kernel_rfl
theorem off_90_0 : fieldOff Tryz.prog 90 0 = some 0 := by kernel_rfl
theorem fty_90_0 : fieldTy Tryz.prog 90 0 = some (3, 0) := by kernel_rfl
theorem agg_93 : isAggT Tryz.prog 93 = some false := by kernel_rfl
theorem size_93 : sizeT Tryz.prog 93 = some 1 := by kernel_rfl
theorem zero_93 : zeroD Tryz.prog 93 = some [.nilm] := by kernel_rfl
theorem agg_95 : isAggT Tryz.prog 95 = some false := by kernel_rfl
theorem size_95 : sizeT Tryz.prog 95 = some 1 := by kernel_rfl
theorem agg_96 : isAggT Tryz.prog 96 = some false := by kernel_rfl
theorem size_96 : sizeT Tryz.prog 96 = some 1 := by kernel_rfl
theorem agg_99 : isAggT Tryz.prog 99 = some true := by kernel_rfl
theorem size_99 : sizeT Tryz.prog 99 = some 2 := by kernel_rfl
theorem zero_99 : zeroD Tryz.prog 99 = some [.int .i64 0, .int .i64 0] := by kernel_rfl
theorem place_99 : placesT Tryz.prog 99 = some [(0, 1), (1, 1)] := by kernel_rfl
theorem off_99_0 : fieldOff Tryz.prog 99 0 = some 0 := by kernel_rfl
theorem fty_99_0 : fieldTy Tryz.prog 99 0 = some (3, 0) := by kernel_rfl
theorem off_99_1 : fieldOff Tryz.prog 99 1 = some 1 := by kernel_rfl
theorem fty_99_1 : fieldTy Tryz.prog 99 1 = some (3, 1) := by kernel_rfl
theorem agg_103 : isAggT Tryz.prog 103 = some true := by kernel_rfl
theorem size_103 : sizeT Tryz.prog 103 = some 2 := by kernel_rfl
theorem zero_103 : zeroD Tryz.prog 103 = some [.int .i64 0, .int .i64 0] := by kernel_rfl
theorem place_103 : placesT Tryz.prog 103 = some [(0, 1), (1, 1)] := by kernel_rfl
theorem off_103_0 : fieldOff Tryz.prog 103 0 = some 0 := by kernel_rfl
theorem fty_103_0 : fieldTy Tryz.prog 103 0 = some (3, 0) := by kernel_rfl
theorem off_103_1 : fieldOff Tryz.prog 103 1 = some 1 := by kernel_rfl
theorem fty_103_1 : fieldTy Tryz.prog 103 1 = some (3, 1) := by kernel_rfl
theorem agg_104 : isAggT Tryz.prog 104 = some false := by kernel_rfl
theorem size_104 : sizeT Tryz.prog 104 = some 1 := by kernel_rfl
theorem zero_104 : zeroD Tryz.prog 104 = some [.nilf] := by kernel_rfl
theorem agg_105 : isAggT Tryz.prog 105 = some false := by kernel_rfl
theorem size_105 : sizeT Tryz.prog 105 = some 1 := by kernel_rfl
theorem zero_105 : zeroD Tryz.prog 105 = some [.nilm] := by kernel_rfl
theorem agg_106 : isAggT Tryz.prog 106 = some false := by kernel_rfl
theorem size_106 : sizeT Tryz.prog 106 = some 1 := by kernel_rfl
theorem zero_106 : zeroD Tryz.prog 106 = some [.nils] := by kernel_rfl
theorem und_106 : Tryz.prog.underlying 106 = some (.slice 103) := by kernel_rfl
theorem bytes_103_106 : Tryz.prog.bytesOf 103 = 16 := by kernel_rfl
theorem agg_108 : isAggT Tryz.prog 108 = some false := by kernel_rfl
theorem size_108 : sizeT Tryz.prog 108 = some 1 := by kernel_rfl
theorem zero_108 : zeroD Tryz.prog 108 = some [.nilf] := by kernel_rfl
theorem agg_110 : isAggT Tryz.prog 110 = some false := by kernel_rfl
theorem size_110 : sizeT Tryz.prog 110 = some 1 := by kernel_rfl
theorem agg_112 : isAggT Tryz.prog 112 = some true := by kernel_rfl
theorem size_112 : sizeT Tryz.prog 112 = some 12 := by kernel_rfl
theorem zero_112 : zeroD Tryz.prog 112 = some [.int .i64 0, .int .i64 0, .nils, .nils, .nils, .int .i64 0, .int .i64 0, .int .i64 0, .int .i64 0, .nils, .nils, .int .i64 0] := by kernel_rfl
theorem place_112 : placesT Tryz.prog 112 = some [(0, 10), (10, 1), (11, 1)] := by kernel_rfl
theorem off_112_0 : fieldOff Tryz.prog 112 0 = some 0 := by kernel_rfl
theorem fty_112_0 : fieldTy Tryz.prog 112 0 = some (31, 0) := by kernel_rfl
theorem off_112_1 : fieldOff Tryz.prog 112 1 = some 10 := by kernel_rfl
theorem fty_112_1 : fieldTy Tryz.prog 112 1 = some (32, 10) := by kernel_rfl
theorem off_112_2 : fieldOff Tryz.prog 112 2 = some 11 := by kernel_rfl
theorem fty_112_2 : fieldTy Tryz.prog 112 2 = some (3, 11) := by kernel_rfl
theorem agg_114 : isAggT Tryz.prog 114 = some true := by kernel_rfl
theorem size_114 : sizeT Tryz.prog 114 = some 2 := by kernel_rfl
theorem zero_114 : zeroD Tryz.prog 114 = some [.nilm, .nilm] := by kernel_rfl
theorem und_114 : Tryz.prog.underlying 114 = some (.array 2 70) := by kernel_rfl
theorem place_114 : placesT Tryz.prog 114 = some [(0, 1), (1, 1)] := by kernel_rfl
theorem agg_122 : isAggT Tryz.prog 122 = some false := by kernel_rfl
theorem size_122 : sizeT Tryz.prog 122 = some 1 := by kernel_rfl
theorem zero_122 : zeroD Tryz.prog 122 = some [.nilf] := by kernel_rfl
theorem agg_129 : isAggT Tryz.prog 129 = some false := by kernel_rfl
theorem size_129 : sizeT Tryz.prog 129 = some 1 := by kernel_rfl
theorem zero_129 : zeroD Tryz.prog 129 = some [.nilf] := by kernel_rfl
theorem agg_132 : isAggT Tryz.prog 132 = some false := by kernel_rfl
theorem size_132 : sizeT Tryz.prog 132 = some 1 := by kernel_rfl
theorem zero_132 : zeroD Tryz.prog 132 = some [.nilp] := by kernel_rfl
theorem agg_134 : isAggT Tryz.prog 134 = some true := by kernel_rfl
theorem size_134 : sizeT Tryz.prog 134 = some 1 := by kernel_rfl
theorem zero_134 : zeroD Tryz.prog 134 = some [.nils] := by kernel_rfl
theorem place_134 : placesT Tryz.prog 134 = some [(0, 1)] := by kernel_rfl
theorem off_134_0 : fieldOff Tryz.prog 134 0 = some 0 := by kernel_rfl
theorem fty_134_0 : fieldTy Tryz.prog 134 0 = some (29, 0) := by kernel_rfl
theorem agg_136 : isAggT Tryz.prog 136 = some false := by kernel_rfl
theorem size_136 : sizeT Tryz.prog 136 = some 1 := by kernel_rfl
theorem zero_136 : zeroD Tryz.prog 136 = some [.nili] := by kernel_rfl
theorem agg_142 : isAggT Tryz.prog 142 = some false := by kernel_rfl
theorem size_142 : sizeT Tryz.prog 142 = some 1 := by kernel_rfl
theorem zero_142 : zeroD Tryz.prog 142 = some [.nilf] := by kernel_rfl
theorem agg_146 : isAggT Tryz.prog 146 = some false := by kernel_rfl
theorem size_146 : sizeT Tryz.prog 146 = some 1 := by kernel_rfl
theorem zero_146 : zeroD Tryz.prog 146 = some [.int .u64 0] := by kernel_rfl
theorem und_146 : Tryz.prog.underlying 146 = some (.int .u64) := by kernel_rfl
theorem agg_149 : isAggT Tryz.prog 149 = some false := by kernel_rfl
theorem size_149 : sizeT Tryz.prog 149 = some 1 := by kernel_rfl
theorem zero_149 : zeroD Tryz.prog 149 = some [.int .i64 0] := by kernel_rfl
theorem agg_150 : isAggT Tryz.prog 150 = some false := by kernel_rfl
theorem size_150 : sizeT Tryz.prog 150 = some 1 := by kernel_rfl
theorem agg_156 : isAggT Tryz.prog 156 = some false := by kernel_rfl
theorem size_156 : sizeT Tryz.prog 156 = some 1 := by kernel_rfl
theorem zero_156 : zeroD Tryz.prog 156 = some [.int .u32 0] := by kernel_rfl
theorem und_156 : Tryz.prog.underlying 156 = some (.int .u32) := by kernel_rfl
theorem agg_158 : isAggT Tryz.prog 158 = some false := by kernel_rfl
theorem size_158 : sizeT Tryz.prog 158 = some 1 := by kernel_rfl
theorem zero_158 : zeroD Tryz.prog 158 = some [.int .u64 0] := by kernel_rfl
theorem und_158 : Tryz.prog.underlying 158 = some (.int .u64) := by kernel_rfl
theorem agg_159 : isAggT Tryz.prog 159 = some false := by kernel_rfl
theorem size_159 : sizeT Tryz.prog 159 = some 1 := by kernel_rfl
theorem zero_159 : zeroD Tryz.prog 159 = some [.int .u64 0] := by kernel_rfl
theorem und_159 : Tryz.prog.underlying 159 = some (.int .u64) := by kernel_rfl
theorem agg_163 : isAggT Tryz.prog 163 = some false := by kernel_rfl
theorem size_163 : sizeT Tryz.prog 163 = some 1 := by kernel_rfl
theorem zero_163 : zeroD Tryz.prog 163 = some [.nilp] := by kernel_rfl
theorem agg_165 : isAggT Tryz.prog 165 = some false := by kernel_rfl
theorem size_165 : sizeT Tryz.prog 165 = some 1 := by kernel_rfl
theorem zero_165 : zeroD Tryz.prog 165 = some [.nilp] := by kernel_rfl
theorem agg_166 : isAggT Tryz.prog 166 = some false := by kernel_rfl
theorem size_166 : sizeT Tryz.prog 166 = some 1 := by kernel_rfl
end Go.Sx.Fz
