/- Own work: contracts of functions, used in the proof of a law. -/
import Derived.Test.YtjhoplbdpdbgaaaGreatDoorSxC3z
import Derived.Test.YtjhoplbdpdbgaaaGreatDoorSxKkz
set_option linter.unusedVariables false
set_option linter.unusedSimpArgs false
namespace Go.Sx
open Go.Proofs
set_option maxRecDepth 10000

def gTrue : List D → Option D
 | [] => some (.bool true)
 | _ => none
theorem gTrue_inv {ds : List D} {r : D} (h : gTrue ds = some r) : ds = [] ∧ r = .bool true := by
 unfold gTrue at h
 split at h
 ·cases h; exact ⟨rfl, rfl⟩
 ·cases h
abbrev o6 : List (FuncId × (List D → Option D)) := (15, gTrue) :: o5
theorem o6_ok : OkO Tryz.prog (mkO o6) := mkO_ok (fun ds r h => by obtain ⟨rfl, rfl⟩ := gTrue_inv h; exact known_t) o5_ok
end Go.Sx
