/- Blame's fold and the reference's search agree. Own work. -/
import Derived.Test.YtjhoplbdpdbgaaaDoorSxPd
set_option linter.unusedVariables false
set_option linter.unusedSimpArgs false
namespace Go.Sx
def cI (l : List Nat) : List Int := l.map fun (x : Nat) => (x : Int)
def okS (g : Ga) (l : List Nat) : Bool := !(clashG (igG g (cI l))).2.2
def findFrom (p : List Nat → Bool) : Nat → Nat → Option (List Nat)
  | _, 0 => none
  | m, k + 1 => match (setsL m).find? p with
    | some l => some l
    | none => findFrom p (m + 1) k
def orL : Option (List Nat) → List Nat
  | some l => l
  | none => [0, 1, 2, 3, 4, 5, 6, 7]
def rBl (g : Ga) : List Nat := orL (findFrom (okS g) 0 8)

theorem findFrom_eq (p : List Nat → Bool) : ∀ (k m : Nat), findFrom p m k = ((List.range' m k).flatMap setsL).find? p
  | 0, m => rfl
  | k + 1, m => by
    rw [List.range'_succ, List.flatMap_cons, List.find?_append, findFrom, findFrom_eq p k (m + 1)]
    cases (setsL m).find? p <;> rfl

theorem blame_agrees {g : Ga} (hga : gaOk g = true) : ∃ n, blSt (okB g) 256 = some n ∧ bI n = cI (rBl g) := by
  obtain ⟨n, h1, _, h3⟩ := blame_least (okB g) (okB_255 hga)
  refine ⟨n, h1, ?_⟩
  have hp : (okS g ∘ fun n => bitsTo n 8) = okB g := by
    funext n
    rw [okB_eq hga]; rfl
  have hf : allSets.find? (okS g) = some (bitsTo n 8) := by
    rw [EL_bits, List.find?_map, hp, h3]; rfl
  have hA : allSets = (List.range' 0 8).flatMap setsL ++ [[0, 1, 2, 3, 4, 5, 6, 7]] := by
    rw [allSets, List.range_eq_range']
  rw [hA, List.find?_append, ← findFrom_eq] at hf
  have : rBl g = bitsTo n 8 := by
    rw [rBl]
    cases hq : findFrom (okS g) 0 8 with
    | some l => rw [hq] at hf; simpa [orL] using hf
    | none =>
      rw [hq] at hf
      simp only [Option.none_or] at hf
      have := List.mem_of_find?_eq_some hf
      simp at this
      exact this.symm
  rw [this]; rfl
end Go.Sx
