/- Own work: contracts of functions, used in the proof of a law. -/
import Derived.Test.YtljkgnicmlhipaaSxW60w
set_option linter.unusedVariables false
set_option linter.unusedSimpArgs false
namespace Go.Sx
open Go.Proofs
set_option maxRecDepth 10000

theorem Rw.last {A : Int → Int → Int → Int} {K : Nat} {s m : Int} {p : List Int} {e a : Int} (h : Rw A K s m p e a) : nAt p (p.length - 1) = e := by
 induction h with
 | one s m => rfl
 | cons s m t p e a _ _ _ _ h ih =>
  obtain ⟨r, rfl⟩ := h.hd
  exact ih
end Go.Sx
