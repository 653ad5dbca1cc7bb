/- Facts of types, printed by program (FactsGen.lean). -/
import Derived.Test.YtljkgnicmlhipaaSxMc
import Derived.Test.YtljkgnicmlhipaaProg
set_option linter.unusedVariables false
set_option linter.unusedSimpArgs false
namespace Go.Sx.Fz
open Go.Proofs
theorem agg_0 : isAggT Try.prog 0 = some false := by kernel_rfl
theorem size_0 : sizeT Try.prog 0 = some 1 := by kernel_rfl
theorem agg_1 : isAggT Try.prog 1 = some false := by kernel_rfl
theorem size_1 : sizeT Try.prog 1 = some 1 := by kernel_rfl
theorem zero_1 : zeroD Try.prog 1 = some [.nilf] := by kernel_rfl
theorem agg_3 : isAggT Try.prog 3 = some false := by kernel_rfl
theorem size_3 : sizeT Try.prog 3 = some 1 := by kernel_rfl
theorem zero_3 : zeroD Try.prog 3 = some [.int .i64 0] := by kernel_rfl
theorem und_3 : Try.prog.underlying 3 = some (.int .i64) := by kernel_rfl
theorem agg_4 : isAggT Try.prog 4 = some false := by kernel_rfl
theorem size_4 : sizeT Try.prog 4 = some 1 := by kernel_rfl
theorem zero_4 : zeroD Try.prog 4 = some [.bool false] := by kernel_rfl
theorem und_4 : Try.prog.underlying 4 = some (.bool) := by kernel_rfl
theorem agg_5 : isAggT Try.prog 5 = some false := by kernel_rfl
theorem size_5 : sizeT Try.prog 5 = some 1 := by kernel_rfl
theorem zero_5 : zeroD Try.prog 5 = some [.int .u8 0] := by kernel_rfl
theorem und_5 : Try.prog.underlying 5 = some (.int .u8) := by kernel_rfl
theorem agg_7 : isAggT Try.prog 7 = some true := by kernel_rfl
theorem size_7 : sizeT Try.prog 7 = some 4 := by kernel_rfl
theorem zero_7 : zeroD Try.prog 7 = some [.int .i64 0, .int .i64 0, .bool false, .int .u8 0] := by kernel_rfl
theorem place_7 : placesT Try.prog 7 = some [(0, 1), (1, 1), (2, 1), (3, 1)] := by kernel_rfl
theorem off_7_0 : fieldOff Try.prog 7 0 = some 0 := by kernel_rfl
theorem fty_7_0 : fieldTy Try.prog 7 0 = some (2, 0) := by kernel_rfl
theorem off_7_1 : fieldOff Try.prog 7 1 = some 1 := by kernel_rfl
theorem fty_7_1 : fieldTy Try.prog 7 1 = some (3, 1) := by kernel_rfl
theorem off_7_2 : fieldOff Try.prog 7 2 = some 2 := by kernel_rfl
theorem fty_7_2 : fieldTy Try.prog 7 2 = some (4, 2) := by kernel_rfl
theorem off_7_3 : fieldOff Try.prog 7 3 = some 3 := by kernel_rfl
theorem fty_7_3 : fieldTy Try.prog 7 3 = some (6, 3) := by kernel_rfl
theorem agg_9 : isAggT Try.prog 9 = some false := by kernel_rfl
theorem size_9 : sizeT Try.prog 9 = some 1 := by kernel_rfl
theorem zero_9 : zeroD Try.prog 9 = some [.str ByteArray.empty] := by kernel_rfl
theorem und_9 : Try.prog.underlying 9 = some (.string) := by kernel_rfl
theorem agg_20 : isAggT Try.prog 20 = some false := by kernel_rfl
theorem size_20 : sizeT Try.prog 20 = some 1 := by kernel_rfl
theorem zero_20 : zeroD Try.prog 20 = some [.nili] := by kernel_rfl
theorem agg_21 : isAggT Try.prog 21 = some false := by kernel_rfl
theorem size_21 : sizeT Try.prog 21 = some 1 := by kernel_rfl
theorem zero_21 : zeroD Try.prog 21 = some [.int .i32 0] := by kernel_rfl
theorem agg_22 : isAggT Try.prog 22 = some false := by kernel_rfl
theorem size_22 : sizeT Try.prog 22 = some 1 := by kernel_rfl
theorem zero_22 : zeroD Try.prog 22 = some [.nils] := by kernel_rfl
theorem und_22 : Try.prog.underlying 22 = some (.slice 4) := by kernel_rfl
theorem agg_24 : isAggT Try.prog 24 = some true := by kernel_rfl
theorem size_24 : sizeT Try.prog 24 = some 3 := by kernel_rfl
theorem zero_24 : zeroD Try.prog 24 = some [.int .i64 0, .int .i64 0, .nils] := by kernel_rfl
theorem place_24 : placesT Try.prog 24 = some [(0, 1), (1, 1), (2, 1)] := by kernel_rfl
theorem off_24_0 : fieldOff Try.prog 24 0 = some 0 := by kernel_rfl
theorem fty_24_0 : fieldTy Try.prog 24 0 = some (3, 0) := by kernel_rfl
theorem off_24_1 : fieldOff Try.prog 24 1 = some 1 := by kernel_rfl
theorem fty_24_1 : fieldTy Try.prog 24 1 = some (3, 1) := by kernel_rfl
theorem off_24_2 : fieldOff Try.prog 24 2 = some 2 := by kernel_rfl
theorem fty_24_2 : fieldTy Try.prog 24 2 = some (22, 2) := by kernel_rfl
theorem agg_25 : isAggT Try.prog 25 = some false := by kernel_rfl
theorem size_25 : sizeT Try.prog 25 = some 1 := by kernel_rfl
theorem zero_25 : zeroD Try.prog 25 = some [.nils] := by kernel_rfl
theorem und_25 : Try.prog.underlying 25 = some (.slice 74) := by kernel_rfl
theorem bytes_74_25 : Try.prog.bytesOf 74 = 40 := by kernel_rfl
theorem agg_26 : isAggT Try.prog 26 = some false := by kernel_rfl
theorem size_26 : sizeT Try.prog 26 = some 1 := by kernel_rfl
theorem zero_26 : zeroD Try.prog 26 = some [.nils] := by kernel_rfl
theorem und_26 : Try.prog.underlying 26 = some (.slice 80) := by kernel_rfl
theorem agg_28 : isAggT Try.prog 28 = some true := by kernel_rfl
theorem size_28 : sizeT Try.prog 28 = some 2 := by kernel_rfl
theorem zero_28 : zeroD Try.prog 28 = some [.nils, .nils] := by kernel_rfl
theorem place_28 : placesT Try.prog 28 = some [(0, 1), (1, 1)] := by kernel_rfl
theorem off_28_0 : fieldOff Try.prog 28 0 = some 0 := by kernel_rfl
theorem fty_28_0 : fieldTy Try.prog 28 0 = some (25, 0) := by kernel_rfl
theorem off_28_1 : fieldOff Try.prog 28 1 = some 1 := by kernel_rfl
theorem fty_28_1 : fieldTy Try.prog 28 1 = some (26, 1) := by kernel_rfl
theorem agg_29 : isAggT Try.prog 29 = some false := by kernel_rfl
theorem size_29 : sizeT Try.prog 29 = some 1 := by kernel_rfl
theorem zero_29 : zeroD Try.prog 29 = some [.nils] := by kernel_rfl
theorem und_29 : Try.prog.underlying 29 = some (.slice 3) := by kernel_rfl
theorem bytes_3_29 : Try.prog.bytesOf 3 = 8 := by kernel_rfl
theorem agg_31 : isAggT Try.prog 31 = some true := by kernel_rfl
theorem size_31 : sizeT Try.prog 31 = some 10 := by kernel_rfl
theorem zero_31 : zeroD Try.prog 31 = some [.int .i64 0, .int .i64 0, .nils, .nils, .nils, .int .i64 0, .int .i64 0, .int .i64 0, .int .i64 0, .nils] := by kernel_rfl
theorem place_31 : placesT Try.prog 31 = some [(0, 3), (3, 2), (5, 1), (6, 1), (7, 1), (8, 1), (9, 1)] := by kernel_rfl
theorem off_31_0 : fieldOff Try.prog 31 0 = some 0 := by kernel_rfl
theorem fty_31_0 : fieldTy Try.prog 31 0 = some (24, 0) := by kernel_rfl
theorem off_31_1 : fieldOff Try.prog 31 1 = some 3 := by kernel_rfl
theorem fty_31_1 : fieldTy Try.prog 31 1 = some (28, 3) := by kernel_rfl
theorem off_31_2 : fieldOff Try.prog 31 2 = some 5 := by kernel_rfl
theorem fty_31_2 : fieldTy Try.prog 31 2 = some (3, 5) := by kernel_rfl
theorem off_31_3 : fieldOff Try.prog 31 3 = some 6 := by kernel_rfl
theorem fty_31_3 : fieldTy Try.prog 31 3 = some (3, 6) := by kernel_rfl
theorem off_31_4 : fieldOff Try.prog 31 4 = some 7 := by kernel_rfl
theorem fty_31_4 : fieldTy Try.prog 31 4 = some (3, 7) := by kernel_rfl
theorem off_31_5 : fieldOff Try.prog 31 5 = some 8 := by kernel_rfl
theorem fty_31_5 : fieldTy Try.prog 31 5 = some (3, 8) := by kernel_rfl
theorem off_31_6 : fieldOff Try.prog 31 6 = some 9 := by kernel_rfl
theorem fty_31_6 : fieldTy Try.prog 31 6 = some (29, 9) := by kernel_rfl
theorem agg_34 : isAggT Try.prog 34 = some false := by kernel_rfl
theorem size_34 : sizeT Try.prog 34 = some 1 := by kernel_rfl
theorem zero_34 : zeroD Try.prog 34 = some [.int .i64 0] := by kernel_rfl
theorem agg_35 : isAggT Try.prog 35 = some false := by kernel_rfl
theorem size_35 : sizeT Try.prog 35 = some 1 := by kernel_rfl
theorem agg_38 : isAggT Try.prog 38 = some false := by kernel_rfl
theorem size_38 : sizeT Try.prog 38 = some 1 := by kernel_rfl
theorem zero_38 : zeroD Try.prog 38 = some [.nilf] := by kernel_rfl
theorem agg_45 : isAggT Try.prog 45 = some false := by kernel_rfl
theorem size_45 : sizeT Try.prog 45 = some 1 := by kernel_rfl
theorem zero_45 : zeroD Try.prog 45 = some [.nils] := by kernel_rfl
theorem und_45 : Try.prog.underlying 45 = some (.slice 47) := by kernel_rfl
theorem bytes_47_45 : Try.prog.bytesOf 47 = 32 := by kernel_rfl
theorem agg_47 : isAggT Try.prog 47 = some true := by kernel_rfl
theorem size_47 : sizeT Try.prog 47 = some 4 := by kernel_rfl
theorem zero_47 : zeroD Try.prog 47 = some [.int .i64 0, .int .i64 0, .bool false, .int .i64 0] := by kernel_rfl
theorem place_47 : placesT Try.prog 47 = some [(0, 1), (1, 1), (2, 1), (3, 1)] := by kernel_rfl
theorem off_47_0 : fieldOff Try.prog 47 0 = some 0 := by kernel_rfl
theorem fty_47_0 : fieldTy Try.prog 47 0 = some (3, 0) := by kernel_rfl
theorem off_47_1 : fieldOff Try.prog 47 1 = some 1 := by kernel_rfl
theorem fty_47_1 : fieldTy Try.prog 47 1 = some (3, 1) := by kernel_rfl
theorem off_47_2 : fieldOff Try.prog 47 2 = some 2 := by kernel_rfl
theorem fty_47_2 : fieldTy Try.prog 47 2 = some (4, 2) := by kernel_rfl
theorem off_47_3 : fieldOff Try.prog 47 3 = some 3 := by kernel_rfl
theorem fty_47_3 : fieldTy Try.prog 47 3 = some (3, 3) := by kernel_rfl
theorem agg_49 : isAggT Try.prog 49 = some false := by kernel_rfl
theorem size_49 : sizeT Try.prog 49 = some 1 := by kernel_rfl
theorem zero_49 : zeroD Try.prog 49 = some [.nils] := by kernel_rfl
theorem und_49 : Try.prog.underlying 49 = some (.slice 58) := by kernel_rfl
theorem bytes_58_49 : Try.prog.bytesOf 58 = 16 := by kernel_rfl
theorem agg_50 : isAggT Try.prog 50 = some false := by kernel_rfl
theorem size_50 : sizeT Try.prog 50 = some 1 := by kernel_rfl
theorem agg_53 : isAggT Try.prog 53 = some false := by kernel_rfl
theorem size_53 : sizeT Try.prog 53 = some 1 := by kernel_rfl
theorem agg_58 : isAggT Try.prog 58 = some true := by kernel_rfl
theorem size_58 : sizeT Try.prog 58 = some 2 := by kernel_rfl
theorem zero_58 : zeroD Try.prog 58 = some [.int .i64 0, .int .i64 0] := by kernel_rfl
theorem place_58 : placesT Try.prog 58 = some [(0, 1), (1, 1)] := by kernel_rfl
theorem off_58_0 : fieldOff Try.prog 58 0 = some 0 := by kernel_rfl
theorem fty_58_0 : fieldTy Try.prog 58 0 = some (3, 0) := by kernel_rfl
theorem off_58_1 : fieldOff Try.prog 58 1 = some 1 := by kernel_rfl
theorem fty_58_1 : fieldTy Try.prog 58 1 = some (3, 1) := by kernel_rfl
theorem agg_62 : isAggT Try.prog 62 = some false := by kernel_rfl
theorem size_62 : sizeT Try.prog 62 = some 1 := by kernel_rfl
theorem agg_72 : isAggT Try.prog 72 = some false := by kernel_rfl
theorem size_72 : sizeT Try.prog 72 = some 1 := by kernel_rfl
theorem zero_72 : zeroD Try.prog 72 = some [.nils] := by kernel_rfl
theorem und_72 : Try.prog.underlying 72 = some (.slice 125) := by kernel_rfl
theorem agg_74 : isAggT Try.prog 74 = some true := by kernel_rfl
theorem size_74 : sizeT Try.prog 74 = some 3 := by kernel_rfl
theorem zero_74 : zeroD Try.prog 74 = some [.int .i64 0, .int .i64 0, .nils] := by kernel_rfl
theorem place_74 : placesT Try.prog 74 = some [(0, 1), (1, 1), (2, 1)] := by kernel_rfl
theorem off_74_0 : fieldOff Try.prog 74 0 = some 0 := by kernel_rfl
theorem fty_74_0 : fieldTy Try.prog 74 0 = some (3, 0) := by kernel_rfl
theorem off_74_1 : fieldOff Try.prog 74 1 = some 1 := by kernel_rfl
theorem fty_74_1 : fieldTy Try.prog 74 1 = some (3, 1) := by kernel_rfl
theorem off_74_2 : fieldOff Try.prog 74 2 = some 2 := by kernel_rfl
theorem fty_74_2 : fieldTy Try.prog 74 2 = some (72, 2) := by kernel_rfl
theorem agg_80 : isAggT Try.prog 80 = some true := by kernel_rfl
theorem size_80 : sizeT Try.prog 80 = some 4 := by kernel_rfl
theorem zero_80 : zeroD Try.prog 80 = some [.int .i64 0, .int .i64 0, .int .i64 0, .nils] := by kernel_rfl
theorem place_80 : placesT Try.prog 80 = some [(0, 1), (1, 1), (2, 1), (3, 1)] := by kernel_rfl
theorem off_80_0 : fieldOff Try.prog 80 0 = some 0 := by kernel_rfl
theorem fty_80_0 : fieldTy Try.prog 80 0 = some (3, 0) := by kernel_rfl
theorem off_80_1 : fieldOff Try.prog 80 1 = some 1 := by kernel_rfl
theorem fty_80_1 : fieldTy Try.prog 80 1 = some (3, 1) := by kernel_rfl
theorem off_80_2 : fieldOff Try.prog 80 2 = some 2 := by kernel_rfl
theorem fty_80_2 : fieldTy Try.prog 80 2 = some (3, 2) := by kernel_rfl
theorem off_80_3 : fieldOff Try.prog 80 3 = some 3 := by kernel_rfl
theorem fty_80_3 : fieldTy Try.prog 80 3 = some (72, 3) := by kernel_rfl
theorem agg_83 : isAggT Try.prog 83 = some false := by kernel_rfl
theorem size_83 : sizeT Try.prog 83 = some 1 := by kernel_rfl
theorem zero_83 : zeroD Try.prog 83 = some [.nilf] := by kernel_rfl
theorem agg_85 : isAggT Try.prog 85 = some false := by kernel_rfl
theorem size_85 : sizeT Try.prog 85 = some 1 := by kernel_rfl
theorem zero_85 : zeroD Try.prog 85 = some [.nilm] := by kernel_rfl
theorem agg_87 : isAggT Try.prog 87 = some false := by kernel_rfl
theorem size_87 : sizeT Try.prog 87 = some 1 := by kernel_rfl
theorem agg_88 : isAggT Try.prog 88 = some false := by kernel_rfl
theorem size_88 : sizeT Try.prog 88 = some 1 := by kernel_rfl
theorem agg_95 : isAggT Try.prog 95 = some false := by kernel_rfl
theorem size_95 : sizeT Try.prog 95 = some 1 := by kernel_rfl
theorem zero_95 : zeroD Try.prog 95 = some [.nilp] := by kernel_rfl
theorem agg_98 : isAggT Try.prog 98 = some false := by kernel_rfl
theorem size_98 : sizeT Try.prog 98 = some 1 := by kernel_rfl
theorem zero_98 : zeroD Try.prog 98 = some [.nilp] := by kernel_rfl
theorem agg_99 : isAggT Try.prog 99 = some false := by kernel_rfl
theorem size_99 : sizeT Try.prog 99 = some 1 := by kernel_rfl
theorem zero_99 : zeroD Try.prog 99 = some [.nilm] := by kernel_rfl
theorem agg_101 : isAggT Try.prog 101 = some true := by kernel_rfl
theorem size_101 : sizeT Try.prog 101 = some 4 := by kernel_rfl
theorem zero_101 : zeroD Try.prog 101 = some [.nilp, .int .i64 0, .nilm, .nilm] := by kernel_rfl
theorem place_101 : placesT Try.prog 101 = some [(0, 1), (1, 1), (2, 1), (3, 1)] := by kernel_rfl
theorem off_101_0 : fieldOff Try.prog 101 0 = some 0 := by kernel_rfl
theorem fty_101_0 : fieldTy Try.prog 101 0 = some (95, 0) := by kernel_rfl
theorem off_101_1 : fieldOff Try.prog 101 1 = some 1 := by kernel_rfl
theorem fty_101_1 : fieldTy Try.prog 101 1 = some (3, 1) := by kernel_rfl
theorem off_101_2 : fieldOff Try.prog 101 2 = some 2 := by kernel_rfl
theorem fty_101_2 : fieldTy Try.prog 101 2 = some (99, 2) := by kernel_rfl
theorem off_101_3 : fieldOff Try.prog 101 3 = some 3 := by kernel_rfl
theorem fty_101_3 : fieldTy Try.prog 101 3 = some (99, 3) := by kernel_rfl
theorem agg_102 : isAggT Try.prog 102 = some true := by kernel_rfl
theorem size_102 : sizeT Try.prog 102 = some 4 := by kernel_rfl
theorem zero_102 : zeroD Try.prog 102 = some [.nilf, .nilf, .nilf, .nilf] := by kernel_rfl
theorem und_102 : Try.prog.underlying 102 = some (.array 4 1) := by kernel_rfl
theorem place_102 : placesT Try.prog 102 = some [(0, 1), (1, 1), (2, 1), (3, 1)] := by kernel_rfl
theorem agg_106 : isAggT Try.prog 106 = some true := by kernel_rfl
theorem size_106 : sizeT Try.prog 106 = some 2 := by kernel_rfl
theorem zero_106 : zeroD Try.prog 106 = some [.int .i64 0, .int .i64 0] := by kernel_rfl
theorem place_106 : placesT Try.prog 106 = some [(0, 1), (1, 1)] := by kernel_rfl
theorem off_106_0 : fieldOff Try.prog 106 0 = some 0 := by kernel_rfl
theorem fty_106_0 : fieldTy Try.prog 106 0 = some (3, 0) := by kernel_rfl
theorem off_106_1 : fieldOff Try.prog 106 1 = some 1 := by kernel_rfl
theorem fty_106_1 : fieldTy Try.prog 106 1 = some (3, 1) := by kernel_rfl
theorem agg_107 : isAggT Try.prog 107 = some false := by kernel_rfl
theorem size_107 : sizeT Try.prog 107 = some 1 := by kernel_rfl
theorem zero_107 : zeroD Try.prog 107 = some [.nilf] := by kernel_rfl
theorem agg_108 : isAggT Try.prog 108 = some false := by kernel_rfl
theorem size_108 : sizeT Try.prog 108 = some 1 := by kernel_rfl
theorem zero_108 : zeroD Try.prog 108 = some [.nilm] := by kernel_rfl
theorem agg_109 : isAggT Try.prog 109 = some false := by kernel_rfl
theorem size_109 : sizeT Try.prog 109 = some 1 := by kernel_rfl
theorem zero_109 : zeroD Try.prog 109 = some [.nils] := by kernel_rfl
theorem und_109 : Try.prog.underlying 109 = some (.slice 106) := by kernel_rfl
theorem bytes_106_109 : Try.prog.bytesOf 106 = 16 := by kernel_rfl
theorem agg_111 : isAggT Try.prog 111 = some false := by kernel_rfl
theorem size_111 : sizeT Try.prog 111 = some 1 := by kernel_rfl
theorem zero_111 : zeroD Try.prog 111 = some [.nilf] := by kernel_rfl
theorem agg_113 : isAggT Try.prog 113 = some false := by kernel_rfl
theorem size_113 : sizeT Try.prog 113 = some 1 := by kernel_rfl
theorem agg_125 : isAggT Try.prog 125 = some true := by kernel_rfl
theorem size_125 : sizeT Try.prog 125 = some 2 := by kernel_rfl
theorem zero_125 : zeroD Try.prog 125 = some [.int .i64 0, .int .i64 0] := by kernel_rfl
theorem place_125 : placesT Try.prog 125 = some [(0, 1), (1, 1)] := by kernel_rfl
theorem off_125_0 : fieldOff Try.prog 125 0 = some 0 := by kernel_rfl
theorem fty_125_0 : fieldTy Try.prog 125 0 = some (3, 0) := by kernel_rfl
theorem off_125_1 : fieldOff Try.prog 125 1 = some 1 := by kernel_rfl
theorem fty_125_1 : fieldTy Try.prog 125 1 = some (3, 1) := by kernel_rfl
theorem agg_130 : isAggT Try.prog 130 = some true := by kernel_rfl
theorem size_130 : sizeT Try.prog 130 = some 12 := by kernel_rfl
theorem zero_130 : zeroD Try.prog 130 = some [.int .i64 0, .int .i64 0, .nils, .nils, .nils, .int .i64 0, .int .i64 0, .int .i64 0, .int .i64 0, .nils, .nils, .int .i64 0] := by kernel_rfl
theorem place_130 : placesT Try.prog 130 = some [(0, 10), (10, 1), (11, 1)] := by kernel_rfl
theorem off_130_0 : fieldOff Try.prog 130 0 = some 0 := by kernel_rfl
theorem fty_130_0 : fieldTy Try.prog 130 0 = some (31, 0) := by kernel_rfl
theorem off_130_1 : fieldOff Try.prog 130 1 = some 10 := by kernel_rfl
theorem fty_130_1 : fieldTy Try.prog 130 1 = some (45, 10) := by kernel_rfl
theorem off_130_2 : fieldOff Try.prog 130 2 = some 11 := by kernel_rfl
theorem fty_130_2 : fieldTy Try.prog 130 2 = some (3, 11) := by kernel_rfl
theorem agg_133 : isAggT Try.prog 133 = some true := by kernel_rfl
theorem size_133 : sizeT Try.prog 133 = some 2 := by kernel_rfl
theorem zero_133 : zeroD Try.prog 133 = some [.int .i64 0, .bool false] := by kernel_rfl
theorem place_133 : placesT Try.prog 133 = some [(0, 1), (1, 1)] := by kernel_rfl
theorem off_133_0 : fieldOff Try.prog 133 0 = some 0 := by kernel_rfl
theorem fty_133_0 : fieldTy Try.prog 133 0 = some (3, 0) := by kernel_rfl
theorem off_133_1 : fieldOff Try.prog 133 1 = some 1 := by kernel_rfl
theorem fty_133_1 : fieldTy Try.prog 133 1 = some (4, 1) := by kernel_rfl
theorem agg_134 : isAggT Try.prog 134 = some true := by kernel_rfl
theorem size_134 : sizeT Try.prog 134 = some 2 := by kernel_rfl
theorem zero_134 : zeroD Try.prog 134 = some [.nilm, .nilm] := by kernel_rfl
theorem und_134 : Try.prog.underlying 134 = some (.array 2 99) := by kernel_rfl
theorem place_134 : placesT Try.prog 134 = some [(0, 1), (1, 1)] := by kernel_rfl
theorem agg_140 : isAggT Try.prog 140 = some false := by kernel_rfl
theorem size_140 : sizeT Try.prog 140 = some 1 := by kernel_rfl
theorem zero_140 : zeroD Try.prog 140 = some [.nilp] := by kernel_rfl
theorem agg_142 : isAggT Try.prog 142 = some true := by kernel_rfl
theorem size_142 : sizeT Try.prog 142 = some 1 := by kernel_rfl
theorem zero_142 : zeroD Try.prog 142 = some [.nils] := by kernel_rfl
theorem place_142 : placesT Try.prog 142 = some [(0, 1)] := by kernel_rfl
theorem off_142_0 : fieldOff Try.prog 142 0 = some 0 := by kernel_rfl
theorem fty_142_0 : fieldTy Try.prog 142 0 = some (29, 0) := by kernel_rfl
theorem agg_144 : isAggT Try.prog 144 = some false := by kernel_rfl
theorem size_144 : sizeT Try.prog 144 = some 1 := by kernel_rfl
theorem zero_144 : zeroD Try.prog 144 = some [.nili] := by kernel_rfl
theorem agg_149 : isAggT Try.prog 149 = some false := by kernel_rfl
theorem size_149 : sizeT Try.prog 149 = some 1 := by kernel_rfl
theorem zero_149 : zeroD Try.prog 149 = some [.nilf] := by kernel_rfl
theorem agg_152 : isAggT Try.prog 152 = some false := by kernel_rfl
theorem size_152 : sizeT Try.prog 152 = some 1 := by kernel_rfl
theorem zero_152 : zeroD Try.prog 152 = some [.nilf] := by kernel_rfl
theorem agg_155 : isAggT Try.prog 155 = some false := by kernel_rfl
theorem size_155 : sizeT Try.prog 155 = some 1 := by kernel_rfl
theorem zero_155 : zeroD Try.prog 155 = some [.nilf] := by kernel_rfl
theorem agg_161 : isAggT Try.prog 161 = some false := by kernel_rfl
theorem size_161 : sizeT Try.prog 161 = some 1 := by kernel_rfl
theorem zero_161 : zeroD Try.prog 161 = some [.int .u64 0] := by kernel_rfl
theorem und_161 : Try.prog.underlying 161 = some (.int .u64) := by kernel_rfl
theorem agg_163 : isAggT Try.prog 163 = some false := by kernel_rfl
theorem size_163 : sizeT Try.prog 163 = some 1 := by kernel_rfl
theorem zero_163 : zeroD Try.prog 163 = some [.int .i64 0] := by kernel_rfl
theorem agg_164 : isAggT Try.prog 164 = some false := by kernel_rfl
theorem size_164 : sizeT Try.prog 164 = some 1 := by kernel_rfl
theorem agg_170 : isAggT Try.prog 170 = some false := by kernel_rfl
theorem size_170 : sizeT Try.prog 170 = some 1 := by kernel_rfl
theorem zero_170 : zeroD Try.prog 170 = some [.int .u32 0] := by kernel_rfl
theorem und_170 : Try.prog.underlying 170 = some (.int .u32) := by kernel_rfl
theorem agg_172 : isAggT Try.prog 172 = some false := by kernel_rfl
theorem size_172 : sizeT Try.prog 172 = some 1 := by kernel_rfl
theorem zero_172 : zeroD Try.prog 172 = some [.int .u64 0] := by kernel_rfl
theorem und_172 : Try.prog.underlying 172 = some (.int .u64) := by kernel_rfl
theorem agg_173 : isAggT Try.prog 173 = some false := by kernel_rfl
theorem size_173 : sizeT Try.prog 173 = some 1 := by kernel_rfl
theorem zero_173 : zeroD Try.prog 173 = some [.int .u64 0] := by kernel_rfl
theorem und_173 : Try.prog.underlying 173 = some (.int .u64) := by kernel_rfl
theorem agg_177 : isAggT Try.prog 177 = some false := by kernel_rfl
theorem size_177 : sizeT Try.prog 177 = some 1 := by kernel_rfl
theorem zero_177 : zeroD Try.prog 177 = some [.nilp] := by kernel_rfl
theorem agg_179 : isAggT Try.prog 179 = some false := by kernel_rfl
theorem size_179 : sizeT Try.prog 179 = some 1 := by kernel_rfl
theorem zero_179 : zeroD Try.prog 179 = some [.nilp] := by kernel_rfl
theorem agg_180 : isAggT Try.prog 180 = some false := by kernel_rfl
theorem size_180 : sizeT Try.prog 180 = some 1 := by kernel_rfl
end Go.Sx.Fz
