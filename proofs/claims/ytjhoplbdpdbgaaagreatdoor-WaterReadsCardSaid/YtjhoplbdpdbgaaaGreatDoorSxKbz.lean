/- The least blame of the gauge of the document's examples. Own work. -/
import Derived.Test.YtjhoplbdpdbgaaaGreatDoorSxKz
set_option linter.unusedVariables false
set_option linter.unusedSimpArgs false
namespace Go.Sx
open Go.Proofs
abbrev gaugeV : D := .agg [.int .i64 2, .int .i64 0, .int .i64 300, .sl [[.int .i64 60, .int .i64 100, .int .i64 110, .int .i64 1], [.int .i64 80, .int .i64 170, .int .i64 175, .int .i64 2], [.int .i64 90, .int .i64 120, .int .i64 140, .int .i64 3]]]
theorem blameV : Pure Tryz.prog 54 [gaugeV] (.tup [.sl [[.int .i64 2]], .int .i64 0]) :=
 pure_of_ev (fuel := 1000) (n := 20) (by kernel_rfl) tabD_ok orC_ok orD_ok (by kernel_rfl)
end Go.Sx
