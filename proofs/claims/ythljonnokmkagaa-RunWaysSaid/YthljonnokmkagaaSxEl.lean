/- Own work: contracts of functions, used in the proof of a law. -/
import Derived.Test.YthljonnokmkagaaSxEh
import Derived.Test.YthljonnokmkagaaSxMh
set_option linter.unusedVariables false
set_option linter.unusedSimpArgs false
namespace Go.Sx
open Go.Proofs
set_option maxRecDepth 10000

/-! Points of a leg -/
structure FixW where
  cell : Int
  h : Int
  w : SpI
end Go.Sx
