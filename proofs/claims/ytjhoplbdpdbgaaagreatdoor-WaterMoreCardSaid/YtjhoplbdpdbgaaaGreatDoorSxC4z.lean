/- Own work: contracts of functions, used in the proof of a law. -/
import Derived.Test.YtjhoplbdpdbgaaaGreatDoorSxC3z
import Derived.Test.YtjhoplbdpdbgaaaGreatDoorSxKkz
set_option linter.unusedVariables false
set_option linter.unusedSimpArgs false
namespace Go.Sx
open Go.Proofs
set_option maxRecDepth 10000

def gGI (ok : Ga → Bool) (k : Ga → List Int → D) : List D → Option D
  | [.agg [.int .i64 a, .int .i64 b, .int .i64 c, .sl es], .sl ds] => match decRds es, decIs ds with
    | some rs, some cs => if rs.length ≤ 9223372036854775807 ∧ ok ⟨a, b, c, rs⟩ = true then some (k ⟨a, b, c, rs⟩ cs) else none
    | _, _ => none
  | _ => none
theorem gGI_eq {ok : Ga → Bool} (k : Ga → List Int → D) (a b c : Int) {rs : List Rd} {cs : List Int} (hl : rs.length ≤ 9223372036854775807) (h : ok ⟨a, b, c, rs⟩ = true) :
    gGI ok k [.agg [.int .i64 a, .int .i64 b, .int .i64 c, .sl (rs.map Rd.d)], .sl (iL cs)] = some (k ⟨a, b, c, rs⟩ cs) := by
  simp [gGI, decRds_map, decIs_map, hl, h]
theorem gGI_inv {ok : Ga → Bool} {k : Ga → List Int → D} {ds : List D} {r : D} (h : gGI ok k ds = some r) :
    ∃ (g : Ga) (cs : List Int), g.rs.length ≤ 9223372036854775807 ∧ ok g = true ∧ ds = [.agg g.c, .sl (iL cs)] ∧ r = k g cs := by
  unfold gGI at h
  split at h
  · split at h
    · rename_i rs cs hrs hcs
      split at h
      · rename_i hl
        cases h
        refine ⟨⟨_, _, _, rs⟩, cs, hl.1, hl.2, ?_, rfl⟩
        rw [decRds_inv hrs, decIs_inv hcs]; rfl
      · cases h
    · cases h
  · cases h
def gTrue : List D → Option D
  | [] => some (.bool true)
  | _ => none
theorem gTrue_eq : gTrue [] = some (.bool true) := (rfl)
theorem gTrue_inv {ds : List D} {r : D} (h : gTrue ds = some r) : ds = [] ∧ r = .bool true := by
  unfold gTrue at h
  split at h
  · cases h; exact ⟨rfl, rfl⟩
  · cases h
abbrev o6 : List (FuncId × (List D → Option D)) := (15, gTrue) :: o5
theorem o6_ok : OkO Tryz.prog (mkO o6) := mkO_ok (fun ds r h => by obtain ⟨rfl, rfl⟩ := gTrue_inv h; exact known_t) o5_ok
end Go.Sx
