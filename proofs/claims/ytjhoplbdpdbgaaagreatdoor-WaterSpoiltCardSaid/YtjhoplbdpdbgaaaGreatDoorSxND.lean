/- Own work: a calculus of contracts for the programs of this kit: parts SxN16z, SxN17z, SxN18z. -/
import Derived.Test.YtjhoplbdpdbgaaaGreatDoorSxNC
import Derived.Test.YtjhoplbdpdbgaaaGreatDoorSxNA
import Derived.Test.YtjhoplbdpdbgaaaGreatDoorSxMo
import Derived.Test.YtjhoplbdpdbgaaaGreatDoorSxMi
set_option linter.unusedVariables false
set_option linter.unusedSimpArgs false
namespace Go.Sx
open Go.Proofs Go.Lib
set_option maxRecDepth 10000

end Go.Sx

namespace Go.Sx
open Go.Proofs Go.Lib
set_option maxRecDepth 10000

end Go.Sx

namespace Go.Sx
open Go.Proofs Go.Lib
set_option maxRecDepth 10000

end Go.Sx
