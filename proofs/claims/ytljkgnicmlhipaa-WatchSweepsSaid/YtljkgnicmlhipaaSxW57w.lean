/- Own work: contracts of functions, used in the proof of a law. -/
import Derived.Test.YtljkgnicmlhipaaSxW56w
set_option linter.unusedVariables false
set_option linter.unusedSimpArgs false
namespace Go.Sx
open Go.Proofs
set_option maxRecDepth 10000

theorem add_mem (p : List Int) : ∀ (l : List Pr) (seen : List Pr) (q : List It), ∀ x ∈ (l.foldl (addI p) (seen, q)).2, x ∈ q ∨ x.1.length = p.length + 1
  | [], _, q, x, hx => .inl hx
  | z :: l, seen, q, x, hx => by
    rw [List.foldl_cons] at hx
    by_cases hz : z ∈ seen
    · rw [show addI p (seen, q) z = (seen, q) by simp [addI, hz]] at hx
      exact add_mem p l seen q x hx
    · rw [show addI p (seen, q) z = (seen ++ [z], q ++ [(p ++ [z.1], z)]) by simp [addI, hz]] at hx
      rcases add_mem p l _ _ x hx with h | h
      · rcases List.mem_append.1 h with h | h
        · exact .inl h
        · simp at h; subst h; right; simp
      · exact .inr h
theorem bfs_len {S : Pr → List Pr} {al : Int} : ∀ (n M : Nat) (seen : List Pr) (q : List It) (p : List Int), (∀ x ∈ q, x.1.length ≤ M) → bfsF S al n (seen, q) = some p → p.length ≤ M + n
  | 0, _, _, _, _, _, h => by simp [bfsF] at h
  | n + 1, M, seen, [], p, _, h => by simp [bfsF] at h
  | n + 1, M, seen, (p1, y) :: q, p, hq, h => by
    simp only [bfsF] at h
    by_cases hy : y.2 = al
    · rw [if_pos hy] at h
      cases h
      have := hq (p1, y) (by simp)
      simp only at this
      omega
    · rw [if_neg hy] at h
      have h1 := hq (p1, y) (by simp)
      simp only at h1
      have := bfs_len n (M + 1) _ _ p (fun x hx => by
        rcases add_mem p1 (S y) seen q x hx with h2 | h2
        · have := hq x (by simp [h2]); omega
        · omega) h
      omega
theorem search_len {s : SkyW} {frm : Int} {l p : List Int} (h : searchO s frm l = some p) : p.length ≤ 50000 := by
  have := bfs_len SFUEL 1 _ _ p (fun x hx => by simp at hx; subst hx; simp) h
  simp only [SFUEL] at this
  omega
/-! WatchSearch -/
noncomputable def gSw : List D → Option D := orcF (fun p : SkyW × Int × List Int => BL p.1.sh ∧ BL p.2.2) (fun p => [.agg p.1.c, .int .i64 p.2.1, inD p.2.2]) (fun p => SweepR p.1 p.2.1 p.2.2)
theorem inD_inj {a b : List Int} (h : inD a = inD b) : a = b := intL_inj (by simpa [inD, intL] using h)
theorem gSw_eq {s : SkyW} (hs : BL s.sh) {l : List Int} (hl : BL l) (frm : Int) : gSw [.agg s.c, .int .i64 frm, inD l] = some (SweepR s frm l) :=
  orcF_eq (ok := fun p : SkyW × Int × List Int => BL p.1.sh ∧ BL p.2.2) (dsf := fun p => [.agg p.1.c, .int .i64 p.2.1, inD p.2.2]) (rf := fun p => SweepR p.1 p.2.1 p.2.2) (s, frm, l) ⟨hs, hl⟩ fun q hq => by
    simp only [List.cons.injEq, D.agg.injEq, D.int.injEq, and_true, true_and] at hq
    rw [SkyW.c_inj hq.1, hq.2.1, inD_inj hq.2.2]
end Go.Sx
