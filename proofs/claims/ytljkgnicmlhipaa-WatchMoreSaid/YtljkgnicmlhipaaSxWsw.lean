/- The shelf's contracts of maps.Keys, slices.Sorted, slices.Sort, maps.Clone, maps.Copy, laid at this program (printed by lay-plain.mjs). -/
import Derived.Shelf.SlIterI.Nil
import Derived.Shelf.SortM.Plain
import Derived.Shelf.SortM.SortNone
import Derived.Shelf.SlMaps.Clone
import Derived.Shelf.SlMaps.Copy
import Derived.Ground.GgzProg
import Derived.Ground.SlgmProg
import Derived.Ground.SlmcProg
import Derived.Ground.SlmpProg
import Derived.Test.YtljkgnicmlhipaaProg
set_option linter.unusedVariables false
set_option linter.unusedSimpArgs false
namespace Go.Proofs
open Go.Shelf
def Try.keysA_ren : Go.Shelf.Ren := ⟨fun | 7 => 101 | 10 => 107 | n => n, fun | 23 => 99 | 26 => 3 | 3 => 4 | 28 => 152 | 0 => 0 | 27 => 111 | 33 => 38 | 4 => 4 | n => n, fun | n => n⟩
theorem Try.keysA : Go.Proofs.SlLaysZI.n7 Try.prog Try.keysA_ren := {
 mixed := by kernel_rfl
 f7 := ⟨Try.f101.name, by decide, Try.func101.trans (congrArg some (by kernel_rfl))⟩
 f10 := ⟨Try.f107.name, by decide, Try.func107.trans (congrArg some (by kernel_rfl))⟩
 t0 := Try.underlying0
 a0 := Try.isAgg0
 z0 := Try.sizeOf0
 v0 := Try.zeroValue0
 t4 := Try.underlying4
 a4 := Try.isAgg4
 z4 := Try.sizeOf4
 v4 := Try.zeroValue4
 t23 := Try.underlying99
 a23 := Try.isAgg99
 z23 := Try.sizeOf99
 v23 := Try.zeroValue99
 t26 := Try.underlying3
 a26 := Try.isAgg3
 z26 := Try.sizeOf3
 v26 := Try.zeroValue3
 t27 := Try.underlying111
 a27 := Try.isAgg111
 z27 := Try.sizeOf111
 v27 := Try.zeroValue111
 t28 := Try.underlying152
 a28 := Try.isAgg152
 z28 := Try.sizeOf152
 v28 := Try.zeroValue152
 t33 := Try.underlying38
 a33 := Try.isAgg38
 z33 := Try.sizeOf38
 v33 := Try.zeroValue38 }
def Try.sortedA_ren : Go.Shelf.Ren := ⟨fun | 6 => 100 | 8 => 105 | 9 => 106 | 11 => 109 | 13 => 111 | 12 => 110 | 23 => 121 | 24 => 122 | 14 => 112 | 15 => 113 | 16 => 114 | 17 => 115 | 18 => 116 | 19 => 117 | 20 => 118 | 21 => 119 | 22 => 120 | 25 => 123 | 26 => 124 | 27 => 125 | 28 => 126 | 29 => 127 | 30 => 128 | 31 => 129 | n => n, fun | 26 => 3 | 28 => 152 | 24 => 29 | 0 => 0 | 3 => 3 | 37 => 161 | 48 => 170 | 50 => 172 | 4 => 4 | 40 => 164 | 39 => 163 | 45 => 87 | 5 => 5 | 9 => 9 | 51 => 173 | 55 => 177 | 57 => 179 | 58 => 180 | 33 => 38 | n => n, fun | n => n⟩
theorem Try.sortedA : Go.Proofs.SlLaysZI.n6 Try.prog Try.sortedA_ren := {
 mixed := by kernel_rfl
 f6 := ⟨Try.f100.name, by decide, Try.func100.trans (congrArg some (by kernel_rfl))⟩
 f8 := ⟨Try.f105.name, by decide, Try.func105.trans (congrArg some (by kernel_rfl))⟩
 f11 := ⟨Try.f109.name, by decide, Try.func109.trans (congrArg some (by kernel_rfl))⟩
 t0 := Try.underlying0
 a0 := Try.isAgg0
 z0 := Try.sizeOf0
 v0 := Try.zeroValue0
 t24 := Try.underlying29
 a24 := Try.isAgg29
 z24 := Try.sizeOf29
 v24 := Try.zeroValue29
 t26 := Try.underlying3
 a26 := Try.isAgg3
 z26 := Try.sizeOf3
 v26 := Try.zeroValue3
 t28 := Try.underlying152
 a28 := Try.isAgg152
 z28 := Try.sizeOf152
 v28 := Try.zeroValue152
 i26 := by kernel_rfl }
def Try.sortA_ren : Go.Shelf.Ren := ⟨fun | 5 => 106 | 8 => 111 | 7 => 110 | 19 => 121 | 20 => 122 | 10 => 112 | 11 => 113 | 12 => 114 | 13 => 115 | 14 => 116 | 15 => 117 | 16 => 118 | 17 => 119 | 18 => 120 | 30 => 123 | 31 => 124 | 32 => 125 | 33 => 126 | 34 => 127 | 35 => 128 | 40 => 129 | n => n, fun | 23 => 29 | 25 => 3 | 3 => 3 | 32 => 161 | 22 => 29 | 0 => 0 | 44 => 170 | 46 => 172 | 4 => 4 | 36 => 164 | 35 => 163 | 41 => 87 | 5 => 5 | 9 => 9 | 53 => 173 | 57 => 177 | 63 => 179 | 64 => 180 | n => n, fun | n => n⟩
theorem Try.sortA : Go.Proofs.SlLaysM.n5 Try.prog Try.sortA_ren := {
 mixed := by kernel_rfl
 f5 := ⟨Try.f106.name, by decide, Try.func106.trans (congrArg some (by kernel_rfl))⟩
 f7 := ⟨Try.f110.name, by decide, Try.func110.trans (congrArg some (by kernel_rfl))⟩
 f8 := Try.func111.trans (congrArg some (by kernel_rfl))
 f10 := ⟨Try.f112.name, by decide, Try.func112.trans (congrArg some (by kernel_rfl))⟩
 f11 := ⟨Try.f113.name, by decide, Try.func113.trans (congrArg some (by kernel_rfl))⟩
 f12 := ⟨Try.f114.name, by decide, Try.func114.trans (congrArg some (by kernel_rfl))⟩
 f13 := ⟨Try.f115.name, by decide, Try.func115.trans (congrArg some (by kernel_rfl))⟩
 f14 := ⟨Try.f116.name, by decide, Try.func116.trans (congrArg some (by kernel_rfl))⟩
 f15 := ⟨Try.f117.name, by decide, Try.func117.trans (congrArg some (by kernel_rfl))⟩
 f16 := ⟨Try.f118.name, by decide, Try.func118.trans (congrArg some (by kernel_rfl))⟩
 f17 := ⟨Try.f119.name, by decide, Try.func119.trans (congrArg some (by kernel_rfl))⟩
 f18 := ⟨Try.f120.name, by decide, Try.func120.trans (congrArg some (by kernel_rfl))⟩
 f19 := Try.func121.trans (congrArg some (by kernel_rfl))
 f20 := Try.func122.trans (congrArg some (by kernel_rfl))
 f30 := ⟨Try.f123.name, by decide, Try.func123.trans (congrArg some (by kernel_rfl))⟩
 f31 := Try.func124.trans (congrArg some (by kernel_rfl))
 f32 := Try.func125.trans (congrArg some (by kernel_rfl))
 f33 := ⟨Try.f126.name, by decide, Try.func126.trans (congrArg some (by kernel_rfl))⟩
 f34 := ⟨Try.f127.name, by decide, Try.func127.trans (congrArg some (by kernel_rfl))⟩
 f35 := ⟨Try.f128.name, by decide, Try.func128.trans (congrArg some (by kernel_rfl))⟩
 f40 := ⟨Try.f129.name, by decide, Try.func129.trans (congrArg some (by kernel_rfl))⟩
 t0 := Try.underlying0
 a0 := Try.isAgg0
 z0 := Try.sizeOf0
 v0 := Try.zeroValue0
 t3 := Try.underlying3
 a3 := Try.isAgg3
 z3 := Try.sizeOf3
 v3 := Try.zeroValue3
 t4 := Try.underlying4
 a4 := Try.isAgg4
 z4 := Try.sizeOf4
 v4 := Try.zeroValue4
 t5 := Try.underlying5
 a5 := Try.isAgg5
 z5 := Try.sizeOf5
 v5 := Try.zeroValue5
 t9 := Try.underlying9
 a9 := Try.isAgg9
 z9 := Try.sizeOf9
 v9 := Try.zeroValue9
 t22 := Try.underlying29
 a22 := Try.isAgg29
 z22 := Try.sizeOf29
 v22 := Try.zeroValue29
 t23 := Try.underlying29
 a23 := Try.isAgg29
 z23 := Try.sizeOf29
 v23 := Try.zeroValue29
 t25 := Try.underlying3
 a25 := Try.isAgg3
 z25 := Try.sizeOf3
 v25 := Try.zeroValue3
 t32 := Try.underlying161
 a32 := Try.isAgg161
 z32 := Try.sizeOf161
 v32 := Try.zeroValue161
 t35 := Try.underlying163
 a35 := Try.isAgg163
 z35 := Try.sizeOf163
 v35 := Try.zeroValue163
 t36 := Try.underlying164
 a36 := Try.isAgg164
 z36 := Try.sizeOf164
 v36 := Try.zeroValue164
 t41 := Try.underlying87
 a41 := Try.isAgg87
 z41 := Try.sizeOf87
 v41 := Try.zeroValue87
 t44 := Try.underlying170
 a44 := Try.isAgg170
 z44 := Try.sizeOf170
 v44 := Try.zeroValue170
 t46 := Try.underlying172
 a46 := Try.isAgg172
 z46 := Try.sizeOf172
 v46 := Try.zeroValue172
 t53 := Try.underlying173
 a53 := Try.isAgg173
 z53 := Try.sizeOf173
 v53 := Try.zeroValue173
 t57 := Try.underlying177
 a57 := Try.isAgg177
 z57 := Try.sizeOf177
 v57 := Try.zeroValue177
 t63 := Try.underlying179
 a63 := Try.isAgg179
 z63 := Try.sizeOf179
 v63 := Try.zeroValue179
 t64 := Try.underlying180
 a64 := Try.isAgg180
 z64 := Try.sizeOf180
 v64 := Try.zeroValue180 }
def Try.cloneA_ren : Go.Shelf.Ren := ⟨fun | 5 => 84 | 7 => 97 | n => n, fun | 23 => 99 | 25 => 3 | 3 => 4 | 4 => 4 | 20 => 20 | n => n, fun | n => n⟩
theorem Try.cloneA : Go.Proofs.SlLaysW.n5 Try.prog Try.cloneA_ren := {
 mixed := by kernel_rfl
 f5 := ⟨Try.f84.name, by decide, Try.func84.trans (congrArg some (by kernel_rfl))⟩
 f7 := Try.func97.trans (congrArg some (by kernel_rfl))
 t4 := Try.underlying4
 a4 := Try.isAgg4
 z4 := Try.sizeOf4
 v4 := Try.zeroValue4
 t20 := Try.underlying20
 a20 := Try.isAgg20
 z20 := Try.sizeOf20
 v20 := Try.zeroValue20
 t23 := Try.underlying99
 a23 := Try.isAgg99
 z23 := Try.sizeOf99
 v23 := Try.zeroValue99 }
def Try.copyA_ren : Go.Shelf.Ren := ⟨fun | 5 => 85 | n => n, fun | 23 => 99 | 24 => 99 | 26 => 3 | 27 => 4 | 0 => 0 | 4 => 4 | n => n, fun | n => n⟩
theorem Try.copyA : Go.Proofs.SlLaysX.n5 Try.prog Try.copyA_ren := {
 mixed := by kernel_rfl
 f5 := ⟨Try.f85.name, by decide, Try.func85.trans (congrArg some (by kernel_rfl))⟩
 t0 := Try.underlying0
 a0 := Try.isAgg0
 z0 := Try.sizeOf0
 v0 := Try.zeroValue0
 t4 := Try.underlying4
 a4 := Try.isAgg4
 z4 := Try.sizeOf4
 v4 := Try.zeroValue4
 t23 := Try.underlying99
 a23 := Try.isAgg99
 z23 := Try.sizeOf99
 v23 := Try.zeroValue99
 t24 := Try.underlying99
 a24 := Try.isAgg99
 z24 := Try.sizeOf99
 v24 := Try.zeroValue99
 a26 := Try.isAgg3
 z26 := Try.sizeOf3
 a27 := Try.isAgg4
 z27 := Try.sizeOf4 }
end Go.Proofs
