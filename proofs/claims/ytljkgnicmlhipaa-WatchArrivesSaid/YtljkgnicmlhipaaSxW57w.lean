/- Own work: contracts of functions, used in the proof of a law. -/
import Derived.Test.YtljkgnicmlhipaaSxW56w
set_option linter.unusedVariables false
set_option linter.unusedSimpArgs false
namespace Go.Sx
open Go.Proofs
set_option maxRecDepth 10000

noncomputable def gLess : List D → Option D := orcF (fun p : List Int × List Int => BL p.1 ∧ BL p.2) (fun p => [.sl (intL p.1), .sl (intL p.2)]) (fun p => .bool (lessB p.1 p.2))
theorem gLess_eq {a b : List Int} (ha : BL a) (hb : BL b) : gLess [.sl (intL a), .sl (intL b)] = some (.bool (lessB a b)) :=
  orcF_eq (ok := fun p : List Int × List Int => BL p.1 ∧ BL p.2) (dsf := fun p => [.sl (intL p.1), .sl (intL p.2)]) (rf := fun p => .bool (lessB p.1 p.2)) (a, b) ⟨ha, hb⟩ (fun q hq => by
    simp only [List.cons.injEq, D.sl.injEq, and_true] at hq
    rw [intL_inj hq.1, intL_inj hq.2])
end Go.Sx
