/- More rules. Own work. -/
import Derived.Test.YtjhoplbdpdbgaaaDoorSxZ
import Derived.Test.YtjhoplbdpdbgaaaDoorSxLaw
set_option linter.unusedVariables false
set_option linter.unusedSimpArgs false
namespace Go.Sx


theorem binB_eq {P : Program} {t : TypeId} (hu : P.underlying t = some .bool) (x y : Bool) : binD P .eql t (.bool x) (.bool y) = some (.bool (x == y)) := by
  simp only [binD, hu]
theorem binB_ne {P : Program} {t : TypeId} (hu : P.underlying t = some .bool) (x y : Bool) : binD P .neq t (.bool x) (.bool y) = some (.bool (!(x == y))) := by
  simp only [binD, hu]

theorem tyInt {P : Program} {n : Nat} {t : TypeId} {k : IntKind} {ds : List D} (hu : P.underlying t = some (.int k)) (h : TyD P n t ds) : ∃ x, ds = [.int k x] ∧ (Lit.int k x).wf = true := by
  cases n with
  | zero => exact h.elim
  | succ n => simp only [TyD, hu] at h; exact h
theorem tyBool {P : Program} {n : Nat} {t : TypeId} {ds : List D} (hu : P.underlying t = some .bool) (h : TyD P n t ds) : ∃ b, ds = [.bool b] := by
  cases n with
  | zero => exact h.elim
  | succ n => simp only [TyD, hu] at h; exact h
theorem tySl {P : Program} {n : Nat} {t e : TypeId} {ds : List D} (hu : P.underlying t = some (.slice e)) (hz : P.cellsOf e ≠ 0) (h : TyD P n t ds) : ∃ es m, ds = [.sl es] ∧ es.length ≤ maxLen ∧ ∀ c ∈ es, c.length = P.cellsOf e ∧ TyD P m e c := by
  cases n with
  | zero => exact h.elim
  | succ n =>
    simp only [TyD, hu] at h
    rcases h with h | ⟨es, h1, h2, h3⟩
    · exact absurd h hz
    · exact ⟨es, n, h1, h2, h3⟩
theorem tySt {P : Program} {n : Nat} {t : TypeId} {fs : Array Field} {ds : List D} (hu : P.underlying t = some (.struct fs)) (ht : t < P.types.size) (h : TyD P n t ds) :
    ds.length = P.cellsOf t ∧ ∃ m, ∀ (i : Nat) f, fs[i]? = some f → TyD P m f.type ((ds.drop f.offset).take (P.cellsOf f.type)) := by
  cases n with
  | zero => exact h.elim
  | succ n =>
    simp only [TyD, hu] at h
    rcases h with h | ⟨h1, h2⟩
    · exact absurd ht (Nat.not_lt.2 h)
    · exact ⟨h1, n, h2⟩
theorem list2 {α : Type} {l : List α} (h : l.length = 2) : ∃ a b, l = [a, b] := by
  match l, h with
  | [a, b], _ => exact ⟨a, b, rfl⟩
theorem list3 {α : Type} {l : List α} (h : l.length = 3) : ∃ a b c, l = [a, b, c] := by
  match l, h with
  | [a, b, c], _ => exact ⟨a, b, c, rfl⟩
theorem list4 {α : Type} {l : List α} (h : l.length = 4) : ∃ a b c d, l = [a, b, c, d] := by
  match l, h with
  | [a, b, c, d], _ => exact ⟨a, b, c, d, rfl⟩
theorem list_map {α β : Type} {f : α → β} : ∀ {l : List β}, (∀ c ∈ l, ∃ x, c = f x) → ∃ l' : List α, l = l'.map f
  | [], _ => ⟨[], rfl⟩
  | c :: l, h => by
    obtain ⟨x, rfl⟩ := h c (by simp)
    obtain ⟨l', rfl⟩ := list_map (l := l) fun c hc => h c (by simp [hc])
    exact ⟨x :: l', rfl⟩
end Go.Sx
