/- Own work: contracts of functions, used in the proof of a law. -/
import Derived.Test.YtjhoplbdpdbgaaaGreatDoorSxND
import Derived.Test.YtjhoplbdpdbgaaaGreatDoorSxNB
import Derived.Test.YtjhoplbdpdbgaaaGreatDoorSxN14z
set_option linter.unusedVariables false
set_option linter.unusedSimpArgs false
namespace Go.Sx
open Go.Proofs Go.Lib
set_option maxRecDepth 10000
variable {w0 : World}

end Go.Sx
