/- Own work: contracts of functions, used in the proof of a law. -/
import Derived.Test.YtjhoplbdpdbgaaaGreatDoorSxC2z
set_option linter.unusedVariables false
set_option linter.unusedSimpArgs false
namespace Go.Sx
open Go.Proofs
set_option maxRecDepth 10000

theorem gaOk_inv {g : Ga} (h : gaOk g = true) : (∀ r ∈ g.rs, (0 ≤ r.minute ∧ r.minute ≤ 1440) ∧ (-100000 ≤ r.lo ∧ r.lo ≤ r.hi ∧ r.hi ≤ 100000) ∧ 0 ≤ r.src ∧ r.src ≤ 7) ∧ (0 ≤ g.rate ∧ g.rate ≤ 1000) ∧ (-100000 ≤ g.least ∧ g.least ≤ g.most ∧ g.most ≤ 100000) ∧ g.rs.length ≤ 30 := by
 simp only [gaOk, Bool.and_eq_true, bIn, bSpan, decide_eq_true_eq, List.all_eq_true, rdOk] at h
 exact ⟨fun r hr => let x := h.1 r hr; ⟨x.1, x.2.1, x.2.2⟩, h.2.1, h.2.2.1, h.2.2.2⟩

theorem tySpan {n : Nat} {ds : List D} (h : TyD Tryz.prog n 70 ds) : ∃ a b, ds = [.int .i64 a, .int .i64 b] := by
 obtain ⟨hl, m, hf⟩ := tySt Tryz.underlying70 (by decide +kernel) h
 obtain ⟨a, b, rfl⟩ := list2 (hl.trans (by kernel_rfl))
 obtain ⟨x, hx, _⟩ := tyInt Fz.und_3 (hf 0 _ rfl)
 obtain ⟨y, hy, _⟩ := tyInt Fz.und_3 (hf 1 _ rfl)
 cases hx; cases hy
 exact ⟨x, y, rfl⟩
theorem tyRd {n : Nat} {ds : List D} (h : TyD Tryz.prog n 75 ds) : ∃ r : Rd, ds = r.d := by
 obtain ⟨hl, m, hf⟩ := tySt Tryz.underlying75 (by decide +kernel) h
 obtain ⟨a, b, c, d, rfl⟩ := list4 (hl.trans (by kernel_rfl))
 obtain ⟨x, hx, _⟩ := tyInt Fz.und_3 (hf 0 _ rfl)
 obtain ⟨y, z, hy⟩ := tySpan (hf 1 _ rfl)
 obtain ⟨s, hs, _⟩ := tyInt Fz.und_3 (hf 2 _ rfl)
 cases hx; cases hy; cases hs
 exact ⟨⟨x, y, z, s⟩, rfl⟩
theorem tyGa {n : Nat} {ds : List D} (h : TyD Tryz.prog n 27 ds) : ∃ g : Ga, ds = g.c ∧ g.rs.length ≤ 9223372036854775807 := by
 obtain ⟨hl, m, hf⟩ := tySt Tryz.underlying27 (by decide +kernel) h
 obtain ⟨a, b, c, d, rfl⟩ := list4 (hl.trans (by kernel_rfl))
 obtain ⟨x, hx, _⟩ := tyInt Fz.und_3 (hf 0 _ rfl)
 obtain ⟨y, hy, _⟩ := tyInt Fz.und_3 (hf 1 _ rfl)
 obtain ⟨z, hz, _⟩ := tyInt Fz.und_3 (hf 2 _ rfl)
 obtain ⟨es, m', hs, hle, he⟩ := tySl Fz.und_25 (by decide +kernel) (hf 3 _ rfl)
 obtain ⟨rs, rfl⟩ := list_map (f := Rd.d) fun c hc => tyRd (he c hc).2
 cases hx; cases hy; cases hz; cases hs
 refine ⟨⟨x, y, z, rs⟩, rfl, ?_⟩
 have : maxLen ≤ 9223372036854775807 := by decide
 simp at hle
 exact Nat.le_trans hle this
end Go.Sx
