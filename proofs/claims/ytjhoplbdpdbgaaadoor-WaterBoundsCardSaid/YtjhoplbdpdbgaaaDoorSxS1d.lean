/- The lists of ref.Sets. Own work. -/
import Derived.Test.YtjhoplbdpdbgaaaDoorSxPb
set_option linter.unusedVariables false
set_option linter.unusedSimpArgs false
namespace Go.Sx
def nextL (n : Nat) (l : List Nat) : List (List Nat) := ((List.range n).filter fun x => l.all fun y => Nat.blt y x).map fun x => l ++ [x]
def setsL : Nat → List (List Nat)
  | 0 => [[]]
  | m + 1 => (setsL m).flatMap (nextL 8)
end Go.Sx
