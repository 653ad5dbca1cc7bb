/- Own work: contracts of functions, used in the proof of a law. -/
import Derived.Test.YtljkgnicmlhipaaGreatSxW73v
import Derived.Test.YtljkgnicmlhipaaGreatSxW75v
import Derived.Test.YtljkgnicmlhipaaGreatSxZ30
set_option linter.unusedVariables false
set_option linter.unusedSimpArgs false
namespace Go.Sx
open Go.Proofs
set_option maxRecDepth 10000


def plL (x : List PlW) : List (List D) := x.map enP.d
theorem plL_len (x : List PlW) : (plL x).length = x.length := List.length_map ..
structure ShOk (w : WatchW) (l : List MsgW) (x : List PlW) : Prop where
 a : AgOk w l x
def agD (w : WatchW) (l : List MsgW) (x : List PlW) : D := .bool (agB w (knownL l (w.min + x.length - 1)) (w.min + x.length - 1) x)
theorem enP_inj {x y : List PlW} (h : (.sl (plL x) : D) = .sl (plL y)) : x = y := by
 have := congrArg (fun d : D => match d with | .sl l => enP.decL l | _ => none) h
 simpa only [plL, En.decL_map, Option.some.injEq] using this
noncomputable def gAg : List D → Option D := orcF (fun p : WatchW × List MsgW × List PlW => AgOk p.1 p.2.1 p.2.2) (fun p => [.agg p.1.c, msD p.2.1, .sl (plL p.2.2)]) (fun p => agD p.1 p.2.1 p.2.2)
theorem gAg_eq {w : WatchW} {l : List MsgW} {x : List PlW} (h : AgOk w l x) : gAg [.agg w.c, msD l, .sl (plL x)] = some (agD w l x) :=
 orcF_eq (ok := fun p : WatchW × List MsgW × List PlW => AgOk p.1 p.2.1 p.2.2) (dsf := fun p => [.agg p.1.c, msD p.2.1, .sl (plL p.2.2)]) (rf := fun p => agD p.1 p.2.1 p.2.2) (w, l, x) h fun q hq => by
  simp only [List.cons.injEq, D.agg.injEq, and_true] at hq
  rw [WatchW.c_inj hq.1, En.map_inj (E := enMs) hq.2.1, enP_inj hq.2.2]
end Go.Sx
