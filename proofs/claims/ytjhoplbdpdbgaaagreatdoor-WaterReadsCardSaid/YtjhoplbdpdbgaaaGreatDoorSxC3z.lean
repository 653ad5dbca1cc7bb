/- Own work: contracts of functions, used in the proof of a law. -/
import Derived.Test.YtjhoplbdpdbgaaaGreatDoorSxC2z
set_option linter.unusedVariables false
set_option linter.unusedSimpArgs false
namespace Go.Sx
open Go.Proofs
set_option maxRecDepth 10000

theorem gaOk_inv {g : Ga} (h : gaOk g = true) : (∀ r ∈ g.rs, (0 ≤ r.minute ∧ r.minute ≤ 1440) ∧ (-100000 ≤ r.lo ∧ r.lo ≤ r.hi ∧ r.hi ≤ 100000) ∧ 0 ≤ r.src ∧ r.src ≤ 7) ∧ (0 ≤ g.rate ∧ g.rate ≤ 1000) ∧ (-100000 ≤ g.least ∧ g.least ≤ g.most ∧ g.most ≤ 100000) ∧ g.rs.length ≤ 30 := by
 simp only [gaOk, Bool.and_eq_true, bIn, bSpan, decide_eq_true_eq, List.all_eq_true, rdOk] at h
 exact ⟨fun r hr => let x := h.1 r hr; ⟨x.1, x.2.1, x.2.2⟩, h.2.1, h.2.2.1, h.2.2.2⟩

end Go.Sx
