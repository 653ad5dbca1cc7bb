/- Own work: a calculus of contracts for the programs of this kit: parts SxE52r, SxE55r. -/
import Derived.Test.YthljonnokmkagaaSxEh
set_option linter.unusedVariables false
set_option linter.unusedSimpArgs false
namespace Go.Sx
open Go.Proofs
set_option maxRecDepth 10000

/-! Rounds without end -/
def iterN (c : Craft) (a : AirW) (ce : Int) (l : LandM) : Nat → List Int
  | 0 => startN l
  | k + 1 => stepN c a ce l (iterN c a ce l k)
section
variable {c : Craft} {a : AirW} {l : LandM} (hl : LandOk l) (ce : Int)
include hl
theorem iter_ok : ∀ k, NowOk l (iterN c a ce l k)
  | 0 => startN_ok hl
  | k + 1 => stepN_ok hl ce (iter_ok k)
theorem iter_le {i : Nat} (hi : i < l.ground.length) {j k : Nat} (h : j ≤ k) : nAt (iterN c a ce l k) i ≤ nAt (iterN c a ce l j) i := by
  induction k with
  | zero => rw [show j = 0 by omega]; exact Int.le_refl _
  | succ k ih =>
    rcases Nat.lt_or_ge j (k + 1) with h1 | h1
    · exact Int.le_trans (stepN_le hl ce (iter_ok hl ce k) hi) (ih (by omega))
    · rw [show j = k + 1 by omega]; exact Int.le_refl _
theorem W_iter {k : Nat} (hk : k < (withinF c a ce l).length) : rowN (withinF c a ce l) k = iterN c a ce l k := by
  induction k with
  | zero => exact W_row0 ce
  | succ k ih => rw [W_step hl ce hk, ih (by omega)]; rfl
theorem iter_fix {k : Nat} (hk : (withinF c a ce l).length ≤ k + 1) : iterN c a ce l k = needsF c a ce l := by
  have hp := W_pos (c := c) (a := a) (l := l) ce
  have h0 : iterN c a ce l ((withinF c a ce l).length - 1) = needsF c a ce l := by rw [needsF_row, W_iter hl ce (by omega)]
  have hf : stepN c a ce l (needsF c a ce l) = needsF c a ce l := by
    rcases W_cases (c := c) (a := a) hl ce (k := (withinF c a ce l).length - 1) (by omega) with h | h
    · omega
    · rw [needsF_row]; exact h.2
  have : ∀ d, iterN c a ce l ((withinF c a ce l).length - 1 + d) = needsF c a ce l := by
    intro d
    induction d with
    | zero => exact h0
    | succ d ih => show stepN c a ce l (iterN c a ce l ((withinF c a ce l).length - 1 + d)) = _; rw [ih, hf]
  have := this (k - ((withinF c a ce l).length - 1))
  rwa [show (withinF c a ce l).length - 1 + (k - ((withinF c a ce l).length - 1)) = k by omega] at this
theorem needs_le {i : Nat} (hi : i < l.ground.length) (k : Nat) : nAt (needsF c a ce l) i ≤ nAt (iterN c a ce l k) i := by
  rw [← iter_fix (k := k + (withinF c a ce l).length) hl ce (by omega)]
  exact iter_le hl ce hi (by omega)
end
/-- Less is needed: wind that is known better, more water, less clearance. -/
structure Eased (c : Craft) (a a' : AirW) (l l' : LandM) : Prop where
  wide : l'.wide = l.wide
  deep : l'.deep = l.deep
  ground : l'.ground = l.ground
  water : ∀ i, wAt l i = true → wAt l' i = true
  clear : l'.clear ≤ l.clear
  loss : ∀ s, DirOk s → (lostI c a' s).hi ≤ (lostI c a s).hi
end Go.Sx

namespace Go.Sx
open Go.Proofs
set_option maxRecDepth 10000

/-! The direction to a neighbour -/
/-! Escapes that are proposed -/
section
variable (c : Craft) (a : AirW) (wt : Int) (l : LandM) (x : List Int) (h : Int)
end
section
variable {c : Craft} (hc : CraftOk c) {a : AirW} (ha : AirOk a) (wt : Int) {l : LandM} (hl : LandOk l)
include hc ha hl
theorem many_no {k : Nat} (hk : k < l.ground.length) {h : Int} (hn : h < nAt (needsF c a (ceilI c wt) l) k) : manyI c a (ceilI c wt) l k h = ((withinF c a (ceilI c wt) l).length : Int) := by
  have hm := many_spec hc ha hl (ceilI c wt) hk h
  by_cases hlt : manyI c a (ceilI c wt) l k h < ((withinF c a (ceilI c wt) l).length : Int)
  · have h1 := hm.2.2.2 hlt
    rw [W_iter hl (ceilI c wt) (by omega)] at h1
    have := needs_le (c := c) (a := a) hl (ceilI c wt) hk (manyI c a (ceilI c wt) l k h).toNat
    omega
  · omega
theorem many_yes {k : Nat} (hk : k < l.ground.length) {h : Int} (hh : 0 ≤ h ∧ h ≤ 20000) (hn : nAt (needsF c a (ceilI c wt) l) k ≤ h) :
    manyI c a (ceilI c wt) l k h ≠ ((withinF c a (ceilI c wt) l).length : Int) ∧ EscInv c a l (ceilI c wt) (manyI c a (ceilI c wt) l k h).toNat k h := by
  have hm := many_spec hc ha hl (ceilI c wt) hk h
  have hp := W_pos (c := c) (a := a) (l := l) (ceilI c wt)
  have hlt : manyI c a (ceilI c wt) l k h < ((withinF c a (ceilI c wt) l).length : Int) := by
    refine Int.not_le.1 fun hge => ?_
    have := hm.2.2.1 ((withinF c a (ceilI c wt) l).length - 1) (by omega)
    rw [← needsF_row] at this
    omega
  exact ⟨by omega, hk, hh, by omega, hm.2.2.2 hlt, fun j hj => hm.2.2.1 j (by omega)⟩
end
theorem EscD_no {c : Craft} {l : LandM} {a : AirW} {w x h : Int} (hs : startE c l a w true = 0) (hx : cellL l x = true) (hh : rI h 0 20000 = true) (hm : manyI c a (ceilI c w) l x h = ((withinF c a (ceilI c w) l).length : Int)) : EscD c l a w x h = .tup [.nils, .int .i64 5] :=
  EscD_none (by rw [hx, hh]; exact hs) hm
theorem EscD_yes {c : Craft} {l : LandM} {a : AirW} {w x h : Int} (hs : startE c l a w true = 0) (hx : cellL l x = true) (hh : rI h 0 20000 = true) (hm : manyI c a (ceilI c w) l x h ≠ ((withinF c a (ceilI c w) l).length : Int)) : EscD c l a w x h = .tup [.sl (intL (escA c a (ceilI c w) l x h)), .int .i64 0] :=
  EscD_some (by rw [hx, hh]; exact hs) hm
end Go.Sx
