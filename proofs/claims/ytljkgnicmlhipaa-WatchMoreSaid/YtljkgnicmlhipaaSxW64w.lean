/- Own work: contracts of functions, used in the proof of a law. -/
import Derived.Test.YtljkgnicmlhipaaSxW62w
set_option linter.unusedVariables false
set_option linter.unusedSimpArgs false
namespace Go.Sx
set_option maxRecDepth 10000

def BstOk (T : List Int → Int) (S : List Int → Prop) (s : Int × Option (List Int)) : Prop :=
 (s = (-1, none) ∧ ∀ x, S x → T x < 0) ∨ ∃ r, s = (T r, some r) ∧ 0 ≤ T r ∧ S r ∧ ∀ x, S x → 0 ≤ T x → T r ≤ T x ∧ (T x = T r → lessB x r = false)
theorem BstOk.congr {T : List Int → Int} {S S' : List Int → Prop} {s : Int × Option (List Int)} (h : BstOk T S s) (hs : ∀ y, S y ↔ S' y) : BstOk T S' s := by
 have : S = S' := funext fun y => propext (hs y)
 rw [← this]; exact h
end Go.Sx
