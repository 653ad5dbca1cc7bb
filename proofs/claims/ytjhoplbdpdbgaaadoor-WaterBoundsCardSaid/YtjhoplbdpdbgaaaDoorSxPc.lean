/- The order of the sets of sources, checked. Own work. -/
import Derived.Test.YtjhoplbdpdbgaaaDoorSxPb
set_option linter.unusedVariables false
set_option linter.unusedSimpArgs false
namespace Go.Sx
theorem key_all : ((List.range 256).all fun n => (List.range 256).all fun b => worse n b == decide (key b < key n)) = true := by decide +kernel
theorem key_ok (n b : Nat) (hn : n < 256) (hb : b < 256) : worse n b = decide (key b < key n) := by
  have h1 := List.all_eq_true.1 key_all n (List.mem_range.2 hn)
  have h2 := List.all_eq_true.1 h1 b (List.mem_range.2 hb)
  simpa using h2
end Go.Sx
