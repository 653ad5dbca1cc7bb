/- Plain laws of gauges: clashes, bounds, courses. Own work. -/
import Derived.Test.YtjhoplbdpdbgaaaGreatDoorSxC6z
set_option linter.unusedVariables false
set_option linter.unusedSimpArgs false
namespace Go.Sx

end Go.Sx
