/- Own work: contracts of functions, used in the proof of a law. -/
import Derived.Test.YtljkgnicmlhipaaSxW52w
set_option linter.unusedVariables false
set_option linter.unusedSimpArgs false
namespace Go.Sx
open Go.Proofs
set_option maxRecDepth 10000

noncomputable def gHasL : List D → Option D := orcF (fun p : List Int × Int => BL p.1) (fun p => [.sl (intL p.1), .int .i64 p.2]) (fun p => .bool (p.1.any fun x => decide (x = p.2)))
theorem gHasL_eq {l : List Int} (h : BL l) (n : Int) : gHasL [.sl (intL l), .int .i64 n] = some (.bool (l.any fun x => decide (x = n))) :=
 orcF_eq (ok := fun p : List Int × Int => BL p.1) (dsf := fun p => [.sl (intL p.1), .int .i64 p.2]) (rf := fun p => .bool (p.1.any fun x => decide (x = p.2))) (l, n) h fun q hq => by
  simp only [List.cons.injEq, D.sl.injEq, D.int.injEq, and_true, true_and] at hq
  rw [intL_inj hq.1, hq.2]
end Go.Sx
