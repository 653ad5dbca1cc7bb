/- Own work: contracts of functions, used in the proof of a law. -/
import Derived.Test.YtjhoplbdpdbgaaaGreatDoorSxC8z
import Derived.Test.YtjhoplbdpdbgaaaGreatDoorSxPaz
set_option linter.unusedVariables false
set_option linter.unusedSimpArgs false
namespace Go.Sx
open Go.Proofs
set_option maxRecDepth 10000

abbrev o9 : List (FuncId × (List D → Option D)) := (33, gGa BoundsA) :: o8
theorem o9_ok : OkO Tryz.prog (mkO o9) :=
 mkO_ok (fun ds r h => by obtain ⟨g, hl, rfl, rfl⟩ := gGa_inv h; exact Bounds_t g hl) o8_ok

end Go.Sx
