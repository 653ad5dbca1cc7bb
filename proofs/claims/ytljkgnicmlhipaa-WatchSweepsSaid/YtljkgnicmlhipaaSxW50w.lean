/- Own work: contracts of functions, used in the proof of a law. -/
import Derived.Test.YtljkgnicmlhipaaSxWn
import Derived.Test.YtljkgnicmlhipaaSxWm
import Derived.Test.YtljkgnicmlhipaaSxMe
set_option linter.unusedVariables false
set_option linter.unusedSimpArgs false
namespace Go.Sx
open Go.Proofs
set_option maxRecDepth 10000

/-! Types of arguments -/
theorem tyEn {α : Type} {E : En α} {n : Nat} {t e : TypeId} {ds : List D} (ok : α → Prop) (hu : (Try.prog).underlying t = some (.slice e)) (hz : (Try.prog).cellsOf e ≠ 0) (he : ∀ m c, TyD Try.prog m e c → ∃ a, c = E.d a ∧ ok a) (h : TyD Try.prog n t ds) : ∃ l : List α, ds = [.sl (l.map E.d)] ∧ l.length ≤ 9223372036854775807 ∧ ∀ a ∈ l, ok a := by
  obtain ⟨es, m, hs, hle, hc⟩ := tySl hu hz h
  have hex : ∀ (es : List (List D)), (∀ c ∈ es, ∃ a, c = E.d a ∧ ok a) → ∃ l : List α, es = l.map E.d ∧ ∀ a ∈ l, ok a := by
    intro es
    induction es with
    | nil => intro _; exact ⟨[], rfl, fun a h => by cases h⟩
    | cons c es ih =>
      intro hc
      obtain ⟨a, rfl, ha⟩ := hc c (by simp)
      obtain ⟨l, rfl, hl⟩ := ih fun c h => hc c (by simp [h])
      refine ⟨a :: l, rfl, fun b hb => ?_⟩
      rcases List.mem_cons.1 hb with rfl | hb
      · exact ha
      · exact hl b hb
  obtain ⟨l, rfl, hl⟩ := hex es fun c hcm => he m c (hc c hcm).2
  have : maxLen ≤ 9223372036854775807 := by decide
  simp at hle
  exact ⟨l, hs, Nat.le_trans hle this, hl⟩
theorem tyInts {n : Nat} {ds : List D} (h : TyD Try.prog n 29 ds) : ∃ l : List Int, ds = [inD l] ∧ BL l := by
  obtain ⟨l, h1, h2, _⟩ := tyEn (E := enI) (fun _ => True) Fz.und_29 (by decide +kernel) (fun _ _ h => by obtain ⟨x, hx, _⟩ := tyInt Fz.und_3 h; exact ⟨x, hx, trivial⟩) h
  exact ⟨l, h1, h2⟩
theorem tyBools {n : Nat} {ds : List D} (h : TyD Try.prog n 22 ds) : ∃ l : List Bool, ds = [shD l] ∧ BL l := by
  obtain ⟨l, h1, h2, _⟩ := tyEn (E := enB) (fun _ => True) Fz.und_22 (by decide +kernel) (fun _ _ h => by obtain ⟨x, hx⟩ := tyBool Fz.und_4 h; exact ⟨x, hx, trivial⟩) h
  exact ⟨l, h1, h2⟩
theorem tySky {n : Nat} {ds : List D} (h : TyD Try.prog n 24 ds) : ∃ r : SkyW, ds = r.c ∧ BL r.sh := by
  obtain ⟨hl, m, hf⟩ := tySt Try.underlying24 (by decide +kernel) h
  obtain ⟨a, b, c, rfl⟩ : ∃ a b c, ds = [a, b, c] := by
    match ds, hl.trans (by kernel_rfl : _ = 3) with
    | [a, b, c], _ => exact ⟨a, b, c, rfl⟩
  obtain ⟨x, hx, _⟩ := tyInt Fz.und_3 (hf 0 _ rfl)
  obtain ⟨y, hy, _⟩ := tyInt Fz.und_3 (hf 1 _ rfl)
  obtain ⟨z, hz, hb⟩ := tyBools (hf 2 _ rfl)
  cases hx; cases hy; cases hz
  exact ⟨⟨x, y, z⟩, rfl, hb⟩
/-! Oracles of a watch, messages and a minute -/
end Go.Sx
