/- Own work: contracts of functions, used in the proof of a law. -/
import Derived.Test.YthljonnokmkagaaSxEh
set_option linter.unusedVariables false
set_option linter.unusedSimpArgs false
namespace Go.Sx
open Go.Proofs
set_option maxRecDepth 10000

/-! Rounds without end -/
def iterN (c : Craft) (a : AirW) (ce : Int) (l : LandM) : Nat → List Int
  | 0 => startN l
  | k + 1 => stepN c a ce l (iterN c a ce l k)
section
variable {c : Craft} {a : AirW} {l : LandM} (hl : LandOk l) (ce : Int)
include hl
theorem iter_ok : ∀ k, NowOk l (iterN c a ce l k)
  | 0 => startN_ok hl
  | k + 1 => stepN_ok hl ce (iter_ok k)
theorem iter_le {i : Nat} (hi : i < l.ground.length) {j k : Nat} (h : j ≤ k) : nAt (iterN c a ce l k) i ≤ nAt (iterN c a ce l j) i := by
  induction k with
  | zero => rw [show j = 0 by omega]; exact Int.le_refl _
  | succ k ih =>
    rcases Nat.lt_or_ge j (k + 1) with h1 | h1
    · exact Int.le_trans (stepN_le hl ce (iter_ok hl ce k) hi) (ih (by omega))
    · rw [show j = k + 1 by omega]; exact Int.le_refl _
theorem W_iter {k : Nat} (hk : k < (withinF c a ce l).length) : rowN (withinF c a ce l) k = iterN c a ce l k := by
  induction k with
  | zero => exact W_row0 ce
  | succ k ih => rw [W_step hl ce hk, ih (by omega)]; rfl
theorem iter_fix {k : Nat} (hk : (withinF c a ce l).length ≤ k + 1) : iterN c a ce l k = needsF c a ce l := by
  have hp := W_pos (c := c) (a := a) (l := l) ce
  have h0 : iterN c a ce l ((withinF c a ce l).length - 1) = needsF c a ce l := by rw [needsF_row, W_iter hl ce (by omega)]
  have hf : stepN c a ce l (needsF c a ce l) = needsF c a ce l := by
    rcases W_cases (c := c) (a := a) hl ce (k := (withinF c a ce l).length - 1) (by omega) with h | h
    · omega
    · rw [needsF_row]; exact h.2
  have : ∀ d, iterN c a ce l ((withinF c a ce l).length - 1 + d) = needsF c a ce l := by
    intro d
    induction d with
    | zero => exact h0
    | succ d ih => show stepN c a ce l (iterN c a ce l ((withinF c a ce l).length - 1 + d)) = _; rw [ih, hf]
  have := this (k - ((withinF c a ce l).length - 1))
  rwa [show (withinF c a ce l).length - 1 + (k - ((withinF c a ce l).length - 1)) = k by omega] at this
theorem needs_le {i : Nat} (hi : i < l.ground.length) (k : Nat) : nAt (needsF c a ce l) i ≤ nAt (iterN c a ce l k) i := by
  rw [← iter_fix (k := k + (withinF c a ce l).length) hl ce (by omega)]
  exact iter_le hl ce hi (by omega)
omit hl in
theorem iter_cell {i : Nat} (hi : i < l.ground.length) (k : Nat) : nAt (iterN c a ce l (k + 1)) i = cellN c a ce l (iterN c a ce l k) i := by
  show nAt (stepN c a ce l (iterN c a ce l k)) i = _
  unfold stepN; exact map_at _ hi
omit hl in
theorem iter_water {i : Nat} (hi : i < l.ground.length) (hw : wAt l i = true) (k : Nat) : nAt (iterN c a ce l k) i = gAt l i := by
  induction k with
  | zero => show nAt (startN l) i = _; unfold startN; rw [map_at _ hi]; simp [hw, bareI]
  | succ k ih => rw [iter_cell ce hi]; simp [cellN, hw, ih]
end
/-- Less is needed: wind that is known better, more water, less clearance. -/
structure Eased (c : Craft) (a a' : AirW) (l l' : LandM) : Prop where
  wide : l'.wide = l.wide
  deep : l'.deep = l.deep
  ground : l'.ground = l.ground
  water : ∀ i, wAt l i = true → wAt l' i = true
  clear : l'.clear ≤ l.clear
  loss : ∀ s, DirOk s → (lostI c a' s).hi ≤ (lostI c a s).hi
theorem eased_need {c : Craft} (hc : CraftOk c) {a a' : AirW} {l l' : LandM} (h : Eased c a a' l l') (ce : Int) {s : Stp} (hs : DirOk s) {v v' : Int} (hv : v' ≤ v) : needF c a' ce s v' ≤ needF c a ce s v := by
  have := partI_b (n := c.sink) hc.sink (lenS_b s.dx s.dy)
  have := h.loss s hs
  unfold needF
  split
  · omega
  · split <;> split <;> omega
theorem eased_iter {c : Craft} (hc : CraftOk c) {a a' : AirW} {l l' : LandM} (h : Eased c a a' l l') (hl : LandOk l) (hl' : LandOk l') (ce : Int) : ∀ (k i : Nat), i < l.ground.length → nAt (iterN c a' ce l' k) i ≤ nAt (iterN c a ce l k) i := by
  have hg : ∀ i, gAt l' i = gAt l i := fun i => by unfold gAt; rw [h.ground]
  have hlen : l'.ground.length = l.ground.length := by rw [h.ground]
  intro k
  induction k with
  | zero =>
    intro i hi
    show nAt (startN l') i ≤ nAt (startN l) i
    unfold startN
    rw [hlen, map_at _ hi, map_at _ hi]
    have h1 := bareI_b hl' (i := i) (by omega)
    cases hw' : wAt l' i
    · cases hw : wAt l i
      · simp
      · rw [h.water i hw] at hw'; cases hw'
    · cases hw : wAt l i
      · simp; omega
      · simp [bareI, hw, hw', hg]
  | succ k ih =>
    intro i hi
    have hi' : i < l'.ground.length := by omega
    rw [iter_cell ce hi, iter_cell ce hi']
    cases hw' : wAt l' i
    · cases hw : wAt l i
      rotate_left
      · rw [h.water i hw] at hw'; cases hw'
      simp only [cellN, hw, hw', Bool.false_eq_true, if_false]
      have hst : stepsL l'.wide l'.deep i = stepsL l.wide l.deep i := by rw [h.wide, h.deep]
      rw [hst]
      rcases foldMin_mem (viaN c a ce l (iterN c a ce l k) i) (stepsL l.wide l.deep i) (nAt (iterN c a ce l k) i) with e | ⟨s, hs, e⟩
      · rw [e]
        exact Int.le_trans (foldMin_le _ _ _) (ih i hi)
      · generalize foldMin (viaN c a ce l (iterN c a ce l k) i) (stepsL l.wide l.deep i) (nAt (iterN c a ce l k) i) = V at *
        obtain ⟨s1, s2, s3⟩ := steps_in hl hi hs
        have hle := ih _ s1
        unfold viaN at e
        split at e
        · rename_i hv
          cases e
          refine Int.le_trans (foldMin_leq _ _ _ s _ hs (by unfold viaN; rw [if_pos (by omega)])) ?_
          have h1 := eased_need hc h ce s3 hle
          have h2 : bareI l' i ≤ bareI l i := by have := h.clear; simp [bareI, hw, hw', hg]; omega
          omega
        · cases e
    · rw [show cellN c a' ce l' (iterN c a' ce l' k) i = gAt l i by simp only [cellN, hw', if_true]; rw [iter_water ce hi' hw', hg]]
      cases hw : wAt l i
      · simp only [cellN, hw, Bool.false_eq_true, if_false]
        have h0 := ih i hi
        rw [iter_water ce hi' hw', hg] at h0
        refine foldMin_ge _ _ _ _ h0 fun s hs v hv => ?_
        unfold viaN at hv
        split at hv
        · cases hv
          have := hl.clear
          have h2 : bareI l i = gAt l i + l.clear := by simp [bareI, hw]
          omega
        · cases hv
      · simp only [cellN, hw, if_true]
        rw [iter_water ce hi hw]; exact Int.le_refl _
theorem eased_needs {c : Craft} (hc : CraftOk c) {a a' : AirW} {l l' : LandM} (h : Eased c a a' l l') (hl : LandOk l) (hl' : LandOk l') (ce : Int) (i : Nat) (hi : i < l.ground.length) : nAt (needsF c a' ce l') i ≤ nAt (needsF c a ce l) i := by
  rw [← iter_fix (k := (withinF c a' ce l').length + (withinF c a ce l).length) hl' ce (by omega), ← iter_fix (k := (withinF c a' ce l').length + (withinF c a ce l).length) hl ce (by omega)]
  exact eased_iter hc h hl hl' ce _ i hi
theorem narrow_loss {c : Craft} (hc : CraftOk c) {a a' : AirW} (he : a.e.lo ≤ a'.e.lo ∧ a'.e.lo ≤ a'.e.hi ∧ a'.e.hi ≤ a.e.hi) (hn : a.n.lo ≤ a'.n.lo ∧ a'.n.lo ≤ a'.n.hi ∧ a'.n.hi ≤ a.n.hi) (s : Stp) (hs : DirOk s) : (lostI c a' s).hi ≤ (lostI c a s).hi := by
  have h1 := ahead_in a s hs a'.e.lo a'.n.lo ⟨by omega, by omega⟩ ⟨by omega, by omega⟩
  have h2 := ahead_in a s hs a'.e.lo a'.n.hi ⟨by omega, by omega⟩ ⟨by omega, by omega⟩
  have h3 := ahead_in a s hs a'.e.hi a'.n.lo ⟨by omega, by omega⟩ ⟨by omega, by omega⟩
  have h4 := ahead_in a s hs a'.e.hi a'.n.hi ⟨by omega, by omega⟩ ⟨by omega, by omega⟩
  have h5 : (aheadI a' s).hi ≤ (aheadI a s).hi := by
    generalize (aheadI a s).hi = M at *
    simp only [aheadI, wideI, List.foldl_cons, List.foldl_nil]
    omega
  have := Int.mul_le_mul_of_nonneg_left h5 hc.drag.1
  simp only [lostI]
  omega
end Go.Sx
