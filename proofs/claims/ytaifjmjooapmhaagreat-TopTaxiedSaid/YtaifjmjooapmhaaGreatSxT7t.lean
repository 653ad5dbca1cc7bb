/- Own work: contracts of functions, used in the proof of a law. -/
import Derived.Test.YtaifjmjooapmhaaGreatSxT6t
import Derived.Test.YtaifjmjooapmhaaGreatSxTd
set_option linter.unusedVariables false
set_option linter.unusedSimpArgs false
namespace Go.Sx
open Go.Proofs
set_option maxRecDepth 10000

theorem tyTr {n : Nat} {ds : List D} (h : TyD Tryz.prog n 37 ds) : ∃ t : Tr, ds = t.c ∧ t.depths.length ≤ 9223372036854775807 := by
 obtain ⟨hl, m, hf⟩ := tySt Tryz.underlying37 (by decide +kernel) h
 obtain ⟨a, b, c, d, e, f, g, i, rfl⟩ : ∃ a b c d e f g i, ds = [a, b, c, d, e, f, g, i] := by
  match ds, hl.trans (by kernel_rfl : _ = 8) with
  | [a, b, c, d, e, f, g, i], _ => exact ⟨a, b, c, d, e, f, g, i, rfl⟩
 obtain ⟨x0, h0, _⟩ := tyInt Fz.und_3 (hf 0 _ rfl)
 obtain ⟨x1, h1, _⟩ := tyInt Fz.und_3 (hf 1 _ rfl)
 obtain ⟨x2, h2, _⟩ := tyInt Fz.und_3 (hf 2 _ rfl)
 obtain ⟨x3, h3, _⟩ := tyInt Fz.und_3 (hf 3 _ rfl)
 obtain ⟨x4, h4, _⟩ := tyInt Fz.und_3 (hf 4 _ rfl)
 obtain ⟨x5, h5, _⟩ := tyInt Fz.und_3 (hf 5 _ rfl)
 obtain ⟨l6, h6, hl6⟩ := tyEn (E := enI) Fz.und_34 (by decide +kernel) (fun m c h => by obtain ⟨x, hx, _⟩ := tyInt Fz.und_3 h; exact ⟨x, hx⟩) (hf 6 _ rfl)
 obtain ⟨l7, h7, _⟩ := tyEn (E := enB) Fz.und_35 (by decide +kernel) (fun m c h => by obtain ⟨x, hx⟩ := tyBool Fz.und_4 h; exact ⟨x, hx⟩) (hf 7 _ rfl)
 cases h0; cases h1; cases h2; cases h3; cases h4; cases h5; cases h6; cases h7
 exact ⟨⟨x0, x1, x2, x3, x4, x5, l6, l7⟩, rfl, hl6⟩

theorem topTaxied_pure : ∀ Ds, TyL Tryz.prog Tryz.f3.params.toList Ds → Pure Tryz.prog 3 Ds (.bool true) := by
 intro Ds h
 rw [Tryz.params3] at h
 match Ds, h with
 | [_, _, _, _, _], ⟨⟨n, _, h1, e1⟩, ⟨n2, _, h2, e2⟩, ⟨n3, _, h3, e3⟩, ⟨n4, _, h4, e4⟩, ⟨n5, _, h5, e5⟩, _⟩ =>
  rw [Tryz.underlying33] at e1
  rw [Tryz.underlying37] at e5
  rw [Fz.und_3] at e2 e3 e4
  dsimp only at e1 e2 e3 e4 e5
  obtain ⟨s, rfl, hl⟩ := tySe h1
  obtain ⟨t, rfl, hd⟩ := tyTr h5
  obtain ⟨x2, rfl, _⟩ := tyInt Fz.und_3 h2
  obtain ⟨x3, rfl, _⟩ := tyInt Fz.und_3 h3
  obtain ⟨x4, rfl, _⟩ := tyInt Fz.und_3 h4
  subst e1; subst e5; cases e2; cases e3; cases e4
  exact topTaxied_at s _ hl t hd x2 x3 x4
end Go.Sx
