/- Own work: contracts of functions, used in the proof of a law. -/
import Derived.Test.YtljkgnicmlhipaaSxW57w
set_option linter.unusedVariables false
set_option linter.unusedSimpArgs false
namespace Go.Sx
open Go.Proofs
set_option maxRecDepth 10000

theorem addI_rest (p : List Int) (rest : List It) : ∀ (l : List Pr) (seen : List Pr) (next : List It), l.foldl (addI p) (seen, rest ++ next) = ((l.foldl (addI p) (seen, next)).1, rest ++ (l.foldl (addI p) (seen, next)).2)
 | [], seen, next => rfl
 | z :: l, seen, next => by
  rw [List.foldl_cons, List.foldl_cons]
  by_cases hz : z ∈ seen
  ·rw [show addI p (seen, rest ++ next) z = (seen, rest ++ next) by simp [addI, hz], show addI p (seen, next) z = (seen, next) by simp [addI, hz]]
   exact addI_rest p rest l seen next
  ·rw [show addI p (seen, rest ++ next) z = (seen ++ [z], rest ++ (next ++ [(p ++ [z.1], z)])) by simp [addI, hz], show addI p (seen, next) z = (seen ++ [z], next ++ [(p ++ [z.1], z)]) by simp [addI, hz]]
   exact addI_rest p rest l _ _
def ItOk (N K : Nat) (seen : List Pr) (x : It) : Prop := InP N K x.2 ∧ (∃ r, x.1 = r ++ [x.2.1]) ∧ x.1.length ≤ seen.length
theorem add_its {N K : Nat} (p : List Int) : ∀ (l : List Pr) {seen : List Pr} {q : List It}, (∀ x ∈ q, ItOk N K seen x) → p.length ≤ seen.length → (∀ z ∈ l, InP N K z) → ∀ x ∈ (l.foldl (addI p) (seen, q)).2, ItOk N K (l.foldl (addI p) (seen, q)).1 x
 | [], _, _, h, _, _ => h
 | z :: l, seen, q, h, hp, hl => by
  rw [List.foldl_cons]
  by_cases hz : z ∈ seen
  ·rw [show addI p (seen, q) z = (seen, q) by simp [addI, hz]]
   exact add_its p l h hp fun u hu => hl u (by simp [hu])
  ·rw [show addI p (seen, q) z = (seen ++ [z], q ++ [(p ++ [z.1], z)]) by simp [addI, hz]]
   refine add_its p l (fun x hx => ?_) (by simp; omega) fun u hu => hl u (by simp [hu])
   rcases List.mem_append.1 hx with hx | hx
   ·obtain ⟨a, b, c⟩ := h x hx
    exact ⟨a, b, by simp; omega⟩
   ·simp at hx; subst hx
    exact ⟨hl z (by simp), ⟨p, rfl⟩, by simp; omega⟩
structure LyI (s : SkyW) (frm : Int) (l : List Int) (n : Nat) (q : List It) (seen : List Pr) : Prop where
 eq : searchO s frm l = bfsF (sucP s l) (allI l) n (seen, q)
 f : s.sh.length * 2 ^ l.length + q.length < n + seen.length
 le : n ≤ 40000
 sn : SeenOk s.sh.length (2 ^ l.length) seen
 it : ∀ x ∈ q, ItOk s.sh.length (2 ^ l.length) seen x
section
variable {s : SkyW} {frm : Int} {l : List Int}
theorem LyI.pos {n : Nat} {q : List It} {seen : List Pr} (h : LyI s frm l n q seen) : q.length < n := by
 have := h.sn.len
 have := h.f
 omega
theorem LyI.step (hs : SkyOk s) {n : Nat} {rest next : List It} {seen : List Pr} {x : It} (h : LyI s frm l n (x :: rest ++ next) seen) (hx : x.2.2 ≠ allI l) :
  LyI s frm l (n - 1) (rest ++ ((sucP s l x.2).foldl (addI x.1) (seen, next)).2) ((sucP s l x.2).foldl (addI x.1) (seen, next)).1 := by
 obtain ⟨n', rfl⟩ : ∃ n', n = n' + 1 := ⟨n - 1, by have := h.pos; omega⟩
 have he := h.eq
 rw [List.cons_append] at he
 simp only [bfsF] at he
 rw [if_neg hx] at he
 have hr := addI_rest x.1 rest (sucP s l x.2) seen next
 have hi := h.it x (by simp)
 have hin := fun z hz => sucP_in hs (l := l) (y := x.2) hi.1 z hz
 obtain ⟨k, h1, h2⟩ := add_len x.1 (sucP s l x.2) seen (rest ++ next)
 rw [hr] at h1 h2
 refine ⟨by rw [he, hr]; rfl, ?_, by have := h.le; omega, seen_add x.1 _ h.sn hin, ?_⟩
 ·have := h.f
  simp only [List.cons_append, List.length_cons] at this
  simp only at h1 h2
  rw [h1, h2]
  omega
 ·have := add_its x.1 (sucP s l x.2) (seen := seen) (q := rest ++ next) (fun u hu => h.it u (by simp at hu ⊢; rcases hu with hu | hu <;> simp [hu])) hi.2.2 hin
  rw [hr] at this
  exact this
end
end Go.Sx
