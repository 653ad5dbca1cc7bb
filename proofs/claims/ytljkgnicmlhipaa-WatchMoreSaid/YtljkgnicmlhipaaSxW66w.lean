/- Own work: contracts of functions, used in the proof of a law. -/
import Derived.Test.YtljkgnicmlhipaaSxW65w
set_option linter.unusedVariables false
set_option linter.unusedSimpArgs false
namespace Go.Sx
open Go.Proofs
set_option maxRecDepth 10000

structure RArOk (w : WatchW) (c m : Int) : Prop where
 wo : WatchOk w
 c : InS w.s c
 m : 0 ≤ m ∧ m ≤ 1440
end Go.Sx
