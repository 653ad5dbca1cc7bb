/- Own work: contracts of functions, used in the proof of a law. -/
import Derived.Test.YtljkgnicmlhipaaGreatSxW51v
set_option linter.unusedVariables false
set_option linter.unusedSimpArgs false
namespace Go.Sx
set_option maxRecDepth 10000

def fstepB (A : Int → Int → Int → Int) (L : List Int) (k : LinkW) : Bool :=
 (!(decide (nAt L k.f.toNat < 0)) && !(decide (k.f = 0))) && (decide (0 ≤ A k.f k.t (nAt L k.f.toNat)) && (decide (nAt L k.t.toNat < 0) || decide (A k.f k.t (nAt L k.f.toNat) < nAt L k.t.toNat)))
def phiF (K : Nat) (L : List Int) : Nat := sumTo (fun k => if nAt L k < 0 then 2000 else (nAt L k).toNat) K
theorem nAt_set {L : List Int} {b i : Nat} {v : Int} (hb : b < L.length) : nAt (L.set b v) i = if i = b then v else nAt L i := by
 simp only [nAt, List.getD_eq_getElem?_getD, List.getElem?_set]
 by_cases e : b = i
 ·subst e; simp [hb]
 ·rw [if_neg e, if_neg fun h => e h.symm]
theorem phi_set {K : Nat} {L : List Int} (hl : L.length = K) {b : Nat} (hb : b < K) {v : Int} (hv : 0 ≤ v ∧ v ≤ 1440) (h : nAt L b < 0 ∨ v < nAt L b) : phiF K (L.set b v) < phiF K L := by
 unfold phiF
 have := sumTo_upd (f := fun k => if nAt L k < 0 then 2000 else (nAt L k).toNat) (g := fun k => if nAt (L.set b v) k < 0 then 2000 else (nAt (L.set b v) k).toNat) (i := b) K hb fun j hj => by
  rw [nAt_set (by omega), if_neg hj]
 simp only [nAt_set (show b < L.length by omega)] at this ⊢
 simp only [if_true] at this
 rw [if_neg (show ¬ v < 0 by omega)] at this
 by_cases h2 : nAt L b < 0
 ·rw [if_pos h2] at this; omega
 ·rw [if_neg h2] at this
  have := h.resolve_left h2
  omega
structure FOk (A : Int → Int → Int → Int) (K : Nat) (at0 : MpI) (L : List Int) : Prop where
 len : L.length = K
 v : ∀ i, i < K → nAt L i = -1 ∨ (0 ≤ nAt L i ∧ nAt L i ≤ 1440 ∧ Rt A K at0 (i : Int) (nAt L i))
 ini : ∀ i : Nat, i < K → ∀ t, gget at0 i = some t → 0 ≤ nAt L i ∧ nAt L i ≤ t
def FCl (A : Int → Int → Int → Int) (L : List Int) (k : LinkW) : Prop := fstepB A L k = false
theorem FOk.step {A : Int → Int → Int → Int} (hA : AOk A) {K : Nat} {at0 : MpI} {L : List Int} (h : FOk A K at0 L) {k : LinkW} (hf : 0 ≤ k.f ∧ k.f < (K : Int)) (ht : 0 ≤ k.t ∧ k.t < (K : Int)) (hs : fstepB A L k = true) :
  FOk A K at0 (L.set k.t.toNat (A k.f k.t (nAt L k.f.toNat))) ∧ phiF K (L.set k.t.toNat (A k.f k.t (nAt L k.f.toNat))) < phiF K L := by
 unfold fstepB at hs
 simp only [Bool.and_eq_true, Bool.not_eq_true', decide_eq_false_iff_not, decide_eq_true_eq, Bool.or_eq_true] at hs
 obtain ⟨⟨h1, h2⟩, h3, h4⟩ := hs
 have hle := hA.le k.f k.t (nAt L k.f.toNat)
 have hfn : ((k.f.toNat : Nat) : Int) = k.f := by omega
 have htn : ((k.t.toNat : Nat) : Int) = k.t := by omega
 have hl := h.len
 refine ⟨⟨by rw [List.length_set]; exact hl, fun i hi => ?_, fun i hi t hg => ?_⟩, phi_set hl (by omega) ⟨h3, hle⟩ h4⟩
 ·rw [nAt_set (by omega)]
  by_cases e : i = k.t.toNat
  ·rw [if_pos e]
   right
   refine ⟨h3, hle, ?_⟩
   rw [e, htn]
   rcases h.v k.f.toNat (by omega) with hv | ⟨_, _, hr⟩
   ·omega
   ·rw [hfn] at hr
    exact .step k.f _ k.t hr (by omega) ht.1 ht.2 h3
  ·rw [if_neg e]; exact h.v i hi
 ·rw [nAt_set (by omega)]
  have := h.ini i hi t hg
  by_cases e : i = k.t.toNat
  ·rw [if_pos e]
   rw [e] at this
   exact ⟨h3, by omega⟩
  ·rw [if_neg e]; exact this
theorem along_link {ls : List LinkW} (h : ∀ k ∈ ls, LnkOk k) {f t m : Int} (h0 : 0 ≤ alongI ls f t m) : ∃ k ∈ ls, k.f = f ∧ k.t = t := by
 refine Classical.byContradiction fun hn => ?_
 have e : ls.filterMap (acand f t m) = [] := List.filterMap_eq_nil_iff.2 fun k hk => by
  rw [acand, if_neg fun q => hn ⟨k, hk, q.1, q.2⟩]
 unfold alongI at h0
 rw [e] at h0
 simp [mnL] at h0
theorem first_end {w : WatchW} (hw : WatchOk w) {c m : Int} (hm : 0 ≤ m ∧ m ≤ 1440) {L : List Int} (h : FOk (alongI w.n.l) w.n.r.length (heardM w.s w.n.r c m) L) (hc : ∀ k ∈ w.n.l, FCl (alongI w.n.l) L k) : nAt L 0 = arrivesI w c m := by
 have hA := along_ok hw.n
 have hrn := hw.n.rn
 have hlk := fun k hk => (hw.n.l k hk).1
 have hmin : ∀ {k t : Int}, Rt (alongI w.n.l) w.n.r.length (heardM w.s w.n.r c m) k t → 0 ≤ k → k < (w.n.r.length : Int) → 0 ≤ nAt L k.toNat ∧ nAt L k.toNat ≤ t := fun hr => by
  induction hr with
  | start s t h1 h2 h3 =>
   intro _ _
   have := h.ini s.toNat (by omega) t (by rw [Int.toNat_of_nonneg h1]; exact h3)
   exact this
  | step s t to hr' h0 h1 h2 h3 ih =>
   intro _ _
   have hsr : 0 ≤ s ∧ s < (w.n.r.length : Int) := by cases hr' with
    | start _ _ a b _ => exact ⟨a, b⟩
    | step _ _ _ _ _ a b _ => exact ⟨a, b⟩
   obtain ⟨i1, i2⟩ := ih hsr.1 hsr.2
   obtain ⟨j1, j2⟩ := hA.mono s to _ _ i2 h3
   obtain ⟨k, hk, rfl, rfl⟩ := along_link hlk h3
   have hcl := hc k hk
   unfold FCl fstepB at hcl
   have e1 : decide (nAt L k.f.toNat < 0) = false := by simp; omega
   have e2 : decide (k.f = 0) = false := by simpa using h0
   have e3 : decide (0 ≤ alongI w.n.l k.f k.t (nAt L k.f.toNat)) = true := by simpa using j1
   rw [e1, e2, e3] at hcl
   simp only [Bool.not_false, Bool.and_self, Bool.true_and, Bool.or_eq_false_iff, decide_eq_false_iff_not] at hcl
   omega
 symm
 refine spread_eq hA (by omega) (heard_at w.s w.n.r c hm) ⟨fun hu => ?_, fun hu t ht => ?_, fun hu => ⟨?_, fun t ht => ?_⟩⟩
 ·rcases h.v 0 (by omega) with hv | hv
  ·exact hv
  ·omega
 ·have := (hmin ht (by omega) (by omega)).1
  simp at this
  omega
 ·rcases h.v 0 (by omega) with hv | hv
  ·omega
  ·exact hv.2.2
 ·exact (hmin ht (by omega) (by omega)).2
theorem first_ini {w : WatchW} (hw : WatchOk w) {c m : Int} (hm : 0 ≤ m ∧ m ≤ 1440) : FOk (alongI w.n.l) w.n.r.length (heardM w.s w.n.r c m) ((List.range w.n.r.length).map fun i => if hAt w.s w.n.r c m i = true then m else -1) := by
 have hg : ∀ i, i < w.n.r.length → nAt ((List.range w.n.r.length).map fun i => if hAt w.s w.n.r c m i = true then m else -1) i = if hAt w.s w.n.r c m i = true then m else -1 := fun i hi => by
  simp [nAt, List.getD_eq_getElem?_getD, hi]
 refine ⟨by simp, fun i hi => ?_, fun i hi t ht => ?_⟩
 ·rw [hg i hi]
  by_cases h : hAt w.s w.n.r c m i = true
  ·rw [if_pos h]
   right
   refine ⟨hm.1, hm.2, .start _ _ (by omega) (by omega) ?_⟩
   rw [heard_get, Int.toNat_natCast, if_pos ⟨⟨by omega, by omega⟩, h⟩]
  ·rw [if_neg h]; exact .inl rfl
 ·rw [hg i hi]
  rw [heard_get, Int.toNat_natCast] at ht
  split at ht
  ·rename_i hh
   rw [if_pos hh.2]
   simp at ht
   omega
  ·cases ht
end Go.Sx
