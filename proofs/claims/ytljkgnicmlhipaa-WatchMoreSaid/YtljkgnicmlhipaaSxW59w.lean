/- Own work: contracts of functions, used in the proof of a law. -/
import Derived.Test.YtljkgnicmlhipaaSxW58w
set_option linter.unusedVariables false
set_option linter.unusedSimpArgs false
namespace Go.Sx
open Go.Proofs
set_option maxRecDepth 10000

theorem awp_seqE {P : Program} {n0 n nid : Nat} {ro : Option Nat} {ι : Type} {x y : Code} {s : St} {Q : Ex → St → Prop} (E : ι → Env) (V : ι → H) (I : ι → Prop)
  (h : AWp P n0 ro x s (thenQ (fun s' => ∃ i, I i ∧ headW n0 s' (E i) (V i) nid n) Q)) (h2 : ∀ i, I i → AWp P n0 ro y ⟨E i, V i, nid, n⟩ Q) : AWp P n0 ro (.seq x y) s Q :=
 awp_seq (awp_mono h fun e s' h' => by
  cases e with
  | normal => obtain ⟨i, hi, hw⟩ := h'; exact awp_weak (weak_of hw) (h2 i hi)
  | exit => exact h'
  | ret => exact h')
end Go.Sx
