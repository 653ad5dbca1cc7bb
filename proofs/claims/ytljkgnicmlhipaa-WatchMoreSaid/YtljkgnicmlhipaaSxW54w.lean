/- Own work: contracts of functions, used in the proof of a law. -/
import Derived.Test.YtljkgnicmlhipaaSxW53w
set_option linter.unusedVariables false
set_option linter.unusedSimpArgs false
namespace Go.Sx
open Go.Proofs
set_option maxRecDepth 10000

structure LateOk (w : WatchW) (l : List MsgW) (i : Nat) : Prop where
 wo : WatchOk w
 n : l.length ≤ 1000
 t : ∀ m ∈ l, 0 ≤ m.t ∧ m.t ≤ 1440
 i : i < w.aft.length
end Go.Sx
