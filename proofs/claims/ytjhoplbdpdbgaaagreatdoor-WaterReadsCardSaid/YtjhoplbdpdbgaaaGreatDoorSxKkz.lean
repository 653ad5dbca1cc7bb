/- The examples of the package's document, evaluated. Own work. -/
import Derived.Test.YtjhoplbdpdbgaaaGreatDoorSxKbz
set_option linter.unusedVariables false
set_option linter.unusedSimpArgs false
namespace Go.Sx
open Go.Proofs
def orK : Oracle := fun f ds => if f = 54 then (if D.sameL ds [gaugeV] then some (.tup [.sl [[.int .i64 2]], .int .i64 0]) else none) else orD f ds
theorem orK_ok : OkO Tryz.prog orK := fun f ds r h => by
 unfold orK at h
 split at h
 ·rename_i hf
  subst hf
  split at h
  ·rename_i hs
   cases h
   rw [D.sameL_eq hs]; exact blameV
  ·cases h
 ·exact orD_ok f ds r h
theorem known_t : Pure Tryz.prog 15 [] (.bool true) :=
 pure_of_ev (fuel := 1000) (n := 20) (by kernel_rfl) tabD_ok orC_ok orK_ok (by kernel_rfl)
end Go.Sx
