/- Own work: a calculus of contracts for the programs of this kit: parts SxW46v, SxW47v, SxW48v, SxW49v. -/
import Derived.Test.YtljkgnicmlhipaaGreatSxW43v
set_option linter.unusedVariables false
set_option linter.unusedSimpArgs false
namespace Go.Sx
set_option maxRecDepth 10000

theorem gd_el {l : List Int} {i : Nat} (h : i < l.length) : l.getD i 0 = l[i] := by simp [List.getD_eq_getElem?_getD, h]
end Go.Sx

namespace Go.Sx
set_option maxRecDepth 10000

theorem free_ins {s : SkyW} {c : Int} (h : freeB s.sh c = true) : InS s c := free_in h
theorem nb_split {s : SkyW} {c t : Int} {j : Nat} (h : nbAt s.w s.d s.sh c j = some t) : nbOk s.w s.d s.sh c (j / 3) (j % 3) = true ∧ t = nbTo s.w c (j / 3) (j % 3) := by
 unfold nbAt at h
 split at h
 ·rename_i h1; exact ⟨h1, by simpa using h.symm⟩
 ·cases h
theorem dist_0 (w c : Int) : distI w c c = 0 := by unfold distI; omega
theorem dist_nn (w a b : Int) : 0 ≤ distI w a b := by unfold distI; omega
theorem dist_z {w a b : Int} (h : distI w a b = 0) : a = b := by
 unfold distI at h
 have h1 := Int.emod_add_mul_ediv a w
 have h2 := Int.emod_add_mul_ediv b w
 have e1 : a % w = b % w := by omega
 have e2 : a / w = b / w := by omega
 rw [← h1, ← h2, e1, e2]
theorem nb_mem {s : SkyW} (hs : SkyOk s) {c : Int} (hc : InS s c) {t : Int} : t ∈ nbL s.w s.d s.sh c ↔ freeB s.sh t = true ∧ distI s.w t c = 1 := by
 have hw := hs.w
 constructor
 ·intro ht
  refine ⟨nbL_in hs hc t ht, ?_⟩
  unfold nbL nbN at ht
  obtain ⟨j, hj, h⟩ := List.mem_filterMap.1 ht
  have hj := List.mem_range.1 hj
  obtain ⟨h1, h2⟩ := nb_split h
  unfold nbOk at h1
  simp only [Bool.and_eq_true] at h1
  obtain ⟨h3, h4, h5, _⟩ := h1
  obtain ⟨_, e1, e2⟩ := nb_in hs hc (i := j / 3) (k := j % 3) (by omega) (by omega) h4 h5
  rw [← h2] at e1 e2 h3
  unfold distI
  rw [e1, e2]
  have hne : ¬ (j / 3 = 1 ∧ j % 3 = 1) := by
   rintro ⟨a, b⟩
   rw [a, b] at h2
   simp only [nbTo] at h2
   simp at h3
   exact h3 (by rw [h2]; omega)
  omega
 ·rintro ⟨hf, hd⟩
  have ht := free_ins hf
  have b1 := cell_b hs hc
  have b2 := cell_b hs ht
  have h1 := Int.emod_add_mul_ediv c s.w
  have h2 := Int.emod_add_mul_ediv t s.w
  unfold distI at hd
  obtain ⟨i, hi⟩ : ∃ i : Nat, (i : Int) = t / s.w - c / s.w + 1 := ⟨(t / s.w - c / s.w + 1).toNat, by omega⟩
  obtain ⟨k, hk⟩ : ∃ k : Nat, (k : Int) = t % s.w - c % s.w + 1 := ⟨(t % s.w - c % s.w + 1).toNat, by omega⟩
  have hto : nbTo s.w c i k = t := by
   unfold nbTo
   have e : ((i : Int) - 1) * s.w = s.w * (t / s.w) - s.w * (c / s.w) := by
    rw [hi, ← Int.mul_sub, Int.mul_comm]; congr 1; omega
   rw [e]; omega
  unfold nbL nbN
  refine List.mem_filterMap.2 ⟨3 * i + k, List.mem_range.2 (by omega), ?_⟩
  unfold nbAt
  rw [show (3 * i + k) / 3 = i by omega, show (3 * i + k) % 3 = k by omega, hto]
  rw [if_pos]
  unfold nbOk
  rw [hto]
  have hne : decide (t = c) = false := by
   simp; intro e; subst e; omega
  have hsh : isShut s.sh t = false := by
   unfold freeB at hf; simp at hf; simpa using hf.2
  rw [hne, hsh]
  simp [rI]
  omega
def arF (s : SkyW) (p : Int → Bool) (c : Int) : Bool := freeB s.sh c && (cellsF s.sh.length p).any fun k => decide (distI s.w c k ≤ 1)
def FreeP (s : SkyW) (p : Int → Bool) : Prop := ∀ c, p c = true → freeB s.sh c = true
theorem aF_iff {s : SkyW} (hs : SkyOk s) {p : Int → Bool} {c : Int} : aF s p c = true ↔ p c = true ∨ (freeB s.sh c = true ∧ ∃ k, InS s k ∧ p k = true ∧ distI s.w c k = 1) := by
 unfold aF
 rw [Bool.or_eq_true, List.any_eq_true]
 refine or_congr Iff.rfl ⟨?_, ?_⟩
 ·rintro ⟨k, hk, h⟩
  obtain ⟨t, ht, e⟩ := List.any_eq_true.1 h
  have e : t = c := by simpa using e
  subst e
  have hk := cellsF_mem.1 hk
  have := (nb_mem hs hk.1).1 ht
  exact ⟨this.1, k, hk.1, hk.2, this.2⟩
 ·rintro ⟨hf, k, hk, hp, hd⟩
  exact ⟨k, cellsF_mem.2 ⟨hk, hp⟩, List.any_eq_true.2 ⟨c, (nb_mem hs hk).2 ⟨hf, hd⟩, by simp⟩⟩
theorem arF_iff {s : SkyW} {p : Int → Bool} {c : Int} : arF s p c = true ↔ freeB s.sh c = true ∧ ∃ k, InS s k ∧ p k = true ∧ distI s.w c k ≤ 1 := by
 unfold arF
 rw [Bool.and_eq_true, List.any_eq_true]
 refine and_congr Iff.rfl ⟨?_, ?_⟩
 ·rintro ⟨k, hk, h⟩
  have hk := cellsF_mem.1 hk
  exact ⟨k, hk.1, hk.2, by simpa using h⟩
 ·rintro ⟨k, hk, hp, h⟩
  exact ⟨k, cellsF_mem.2 ⟨hk, hp⟩, by simpa using h⟩
theorem aF_arF {s : SkyW} (hs : SkyOk s) {p : Int → Bool} (hp : FreeP s p) : aF s p = arF s p := funext fun c => by
 rw [Bool.eq_iff_iff, aF_iff hs, arF_iff]
 constructor
 ·rintro (h | ⟨hf, k, hk, h1, h2⟩)
  ·exact ⟨hp c h, c, free_ins (hp c h), h, by rw [dist_0]; omega⟩
  ·exact ⟨hf, k, hk, h1, by omega⟩
 ·rintro ⟨hf, k, hk, h1, h2⟩
  by_cases e : distI s.w c k = 0
  ·left; rw [dist_z e]; exact h1
  ·right
   have := dist_nn s.w c k
   exact ⟨hf, k, hk, h1, by omega⟩
theorem FreeP.aF {s : SkyW} (hs : SkyOk s) {p : Int → Bool} (hp : FreeP s p) : FreeP s (aF s p) := fun c hc => by
 rcases (aF_iff hs).1 hc with h | h
 ·exact hp c h
 ·exact h.1
end Go.Sx

namespace Go.Sx
set_option maxRecDepth 10000

inductive Wy (s : SkyW) (frm : Int) : List Int → Int → Prop
 | one : freeB s.sh frm = true → Wy s frm [frm] frm
 | snoc (p : List Int) (y z : Int) : Wy s frm p y → freeB s.sh z = true → distI s.w y z = 1 → Wy s frm (p ++ [z]) z
def okB (s : SkyW) (p : List Int) (i : Nat) : Bool := freeB s.sh (nAt p i) && (decide (i = 0) || decide (distI s.w (nAt p (i - 1)) (nAt p i) = 1))
theorem nAt_app {p : List Int} {i : Nat} (h : i < p.length) (q : List Int) : nAt (p ++ q) i = nAt p i := by
 unfold nAt
 rw [gd_el (by simp; omega), gd_el h, List.getElem_append_left h]
theorem nAt_last (p : List Int) (z : Int) : nAt (p ++ [z]) p.length = z := by
 unfold nAt
 rw [gd_el (by simp)]
 simp
theorem Wy.at {s : SkyW} {frm : Int} {p : List Int} {y : Int} (h : Wy s frm p y) : 1 ≤ p.length ∧ nAt p 0 = frm ∧ nAt p (p.length - 1) = y ∧ ∀ i, i < p.length → okB s p i = true := by
 induction h with
 | one hf =>
  refine ⟨by simp, rfl, rfl, fun i hi => ?_⟩
  have : i = 0 := by simpa using hi
  subst this
  simp [okB, nAt, hf]
 | snoc p y z h1 h2 h3 ih =>
  obtain ⟨a, b, c, d⟩ := ih
  refine ⟨by simp, by rw [nAt_app (by omega)]; exact b, by rw [List.length_append, List.length_singleton, Nat.add_sub_cancel]; exact nAt_last p z, fun i hi => ?_⟩
  rw [List.length_append, List.length_singleton] at hi
  by_cases e : i < p.length
  ·have := d i e
   unfold okB at this ⊢
   rw [nAt_app e, nAt_app (by omega)]; exact this
  ·have : i = p.length := by omega
   subst this
   unfold okB
   rw [nAt_last, nAt_app (by omega), c]
   simp [h2, h3]
end Go.Sx

namespace Go.Sx
set_option maxRecDepth 10000

inductive Rw (A : Int → Int → Int → Int) (K : Nat) : Int → Int → List Int → Int → Int → Prop
 | one (s m : Int) : Rw A K s m [s] s m
 | cons (s m t : Int) (p : List Int) (e a : Int) : s ≠ 0 → 0 ≤ t → t < (K : Int) → 0 ≤ A s t m → Rw A K t (A s t m) p e a → Rw A K s m (s :: p) e a
section
variable {A : Int → Int → Int → Int} {K : Nat}
theorem Rw.hd {s m : Int} {p : List Int} {e a : Int} (h : Rw A K s m p e a) : ∃ r, p = s :: r := by
 cases h with
 | one => exact ⟨[], rfl⟩
 | cons s m t p e a _ _ _ _ _ => exact ⟨p, rfl⟩
theorem Rw.snoc {s m : Int} {p : List Int} {e a : Int} (h : Rw A K s m p e a) {t : Int} (he : e ≠ 0) (h0 : 0 ≤ t) (h1 : t < (K : Int)) (h2 : 0 ≤ A e t a) : Rw A K s m (p ++ [t]) t (A e t a) := by
 induction h with
 | one s m => exact .cons s m t [t] t _ he h0 h1 h2 (.one t _)
 | cons s m u p e a g0 g1 g2 g3 _ ih => exact .cons s m u _ _ _ g0 g1 g2 g3 (ih he h2)
theorem Rw.rt {at0 : MpI} {s m : Int} {p : List Int} {e a : Int} (h : Rw A K s m p e a) (hr : Rt A K at0 s m) : Rt A K at0 e a := by
 induction h with
 | one s m => exact hr
 | cons s m t p e a g0 g1 g2 g3 _ ih => exact ih (.step s m t hr g0 g1 g2 g3)
theorem Rw.mono (hA : AOk A) {s m' : Int} {p : List Int} {e a' : Int} (h : Rw A K s m' p e a') : ∀ {m : Int}, m ≤ m' → ∃ a, a ≤ a' ∧ Rw A K s m p e a := by
 induction h with
 | one s m' => intro m hm; exact ⟨m, hm, .one s m⟩
 | cons s m' t p e a g0 g1 g2 g3 _ ih =>
  intro m hm
  obtain ⟨q1, q2⟩ := hA.mono s t m m' hm g3
  obtain ⟨a1, h1, h2⟩ := ih q2
  exact ⟨a1, h1, .cons s m t p e a1 g0 g1 g2 q1 h2⟩
end

end Go.Sx
