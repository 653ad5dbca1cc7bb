/- Own work: contracts of functions, used in the proof of a law. -/
import Derived.Test.YthljonnokmkagaaSxE33r
set_option linter.unusedVariables false
set_option linter.unusedSimpArgs false
namespace Go.Sx
open Go.Proofs
set_option maxRecDepth 10000

/-! The plain law of losses -/
theorem wide_mono (G : Int → Int) (hG : ∀ x y, x ≤ y → G x ≤ G y) (a : Int) (l : List Int) : wideI (G a) (l.map G) = ⟨G (wideI a l).lo, G (wideI a l).hi⟩ := by
  have h1 : ∀ (l : List Int) a, (l.map G).foldl min (G a) = G (l.foldl min a) := fun l => by
    induction l with
    | nil => intro a; rfl
    | cons x l ih =>
      intro a
      simp only [List.map_cons, List.foldl_cons]
      rw [← ih]
      congr 1
      rcases Int.le_total a x with h | h
      · have := hG _ _ h; rw [show min a x = a by omega]; omega
      · have := hG _ _ h; rw [show min a x = x by omega]; omega
  have h2 : ∀ (l : List Int) a, (l.map G).foldl max (G a) = G (l.foldl max a) := fun l => by
    induction l with
    | nil => intro a; rfl
    | cons x l ih =>
      intro a
      simp only [List.map_cons, List.foldl_cons]
      rw [← ih]
      congr 1
      rcases Int.le_total a x with h | h
      · have := hG _ _ h; rw [show max a x = x by omega]; omega
      · have := hG _ _ h; rw [show max a x = a by omega]; omega
  simp only [wideI, h1, h2]
def lostG (c : Craft) (w y : Int) : Int := max 1 (partI c.fall (lenS (dxW w) (dyW w)) + c.drag * y)
theorem lostG_mono {c : Craft} (hc : CraftOk c) (w x y : Int) (h : x ≤ y) : lostG c w x ≤ lostG c w y := by
  have := Int.mul_le_mul_of_nonneg_left h hc.drag.1
  unfold lostG; omega
theorem lostP_G (c : Craft) (w e n : Int) : lostP c w e n = lostG c w (-(e * dxW w + n * dyW w)) := by
  unfold lostP lostG; rw [Int.mul_neg]; omega
theorem loss_eq {c : Craft} (hc : CraftOk c) (a : AirW) (w : Int) : lossI c a w = lostI c a ⟨0, dxW w, dyW w⟩ := by
  have := wide_mono (lostG c w) (lostG_mono hc w) (-(a.e.lo * dxW w + a.n.lo * dyW w)) [-(a.e.lo * dxW w + a.n.hi * dyW w), -(a.e.hi * dxW w + a.n.lo * dyW w), -(a.e.hi * dxW w + a.n.hi * dyW w)]
  simp only [lossI, lossL, lostP_G]
  exact this
theorem ahead_in (a : AirW) (s : Stp) (hs : DirOk s) (e n : Int) (he : a.e.lo ≤ e ∧ e ≤ a.e.hi) (hn : a.n.lo ≤ n ∧ n ≤ a.n.hi) : (aheadI a s).lo ≤ -(e * s.dx + n * s.dy) ∧ -(e * s.dx + n * s.dy) ≤ (aheadI a s).hi := by
  obtain ⟨cell, dx, dy⟩ := s
  have hx := hs.x
  have hy := hs.y
  dsimp only at hx hy
  have hx' : dx = -1 ∨ dx = 0 ∨ dx = 1 := by omega
  have hy' : dy = -1 ∨ dy = 0 ∨ dy = 1 := by omega
  simp only [aheadI, wideI, List.foldl_cons, List.foldl_nil]
  rcases hx' with rfl | rfl | rfl <;> rcases hy' with rfl | rfl | rfl <;> simp only [Int.mul_neg, Int.mul_one, Int.mul_zero] <;> omega
theorem loss_in {c : Craft} (hc : CraftOk c) (a : AirW) (w : Int) (hw : rI w 1 8 = true) (e n : Int) (he : a.e.lo ≤ e ∧ e ≤ a.e.hi) (hn : a.n.lo ≤ n ∧ n ≤ a.n.hi) :
    (lostI c a ⟨0, dxW w, dyW w⟩).lo ≤ lostP c w e n ∧ lostP c w e n ≤ (lostI c a ⟨0, dxW w, dyW w⟩).hi := by
  have h := ahead_in a ⟨0, dxW w, dyW w⟩ (dirW_ok hw 0) e n he hn
  rw [lostP_G]
  exact ⟨lostG_mono hc w _ _ h.1, lostG_mono hc w _ _ h.2⟩

/-! part, percents -/
def partS (s : SpI) (p : Int) : Int := s.lo + (s.hi - s.lo) * p / 100
theorem partS_m {s : SpI} (h : s.lo ≤ s.hi) {p : Int} (hp : 0 ≤ p ∧ p ≤ 100) : 0 ≤ (s.hi - s.lo) * p ∧ (s.hi - s.lo) * p ≤ (s.hi - s.lo) * 100 :=
  ⟨Int.mul_nonneg (by omega) hp.1, Int.mul_le_mul_of_nonneg_left hp.2 (by omega)⟩
theorem partS_in {s : SpI} (h : s.lo ≤ s.hi) {p : Int} (hp : 0 ≤ p ∧ p ≤ 100) : s.lo ≤ partS s p ∧ partS s p ≤ s.hi := by
  have := partS_m h hp
  unfold partS; omega
theorem partS_mono {s : SpI} (h : s.lo ≤ s.hi) {p q : Int} (hpq : p ≤ q) : partS s p ≤ partS s q := by
  have : (s.hi - s.lo) * p ≤ (s.hi - s.lo) * q := Int.mul_le_mul_of_nonneg_left hpq (by omega)
  unfold partS; omega
def spanOk (s : SpI) : Prop := -1000000 ≤ s.lo ∧ s.lo ≤ s.hi ∧ s.hi ≤ 1000000
theorem part_t (s : SpI) (hs : spanOk s) (p : Int) (hp : 0 ≤ p ∧ p ≤ 100) : Pure Try.prog 28 [.agg s.c, .int .i64 p] (.int .i64 (partS s p)) := by
  have hm := partS_m hs.2.1 hp
  have hi := partS_in hs.2.1 hp
  obtain ⟨h1, h2, h3⟩ := hs
  have w1 := wrap_i64 (z := s.hi - s.lo) (by omega) (by omega)
  have w2 := wrap_i64 (z := (s.hi - s.lo) * p) (by omega) (by omega)
  have hd := a_quo' (k := .i64) (x := (s.hi - s.lo) * p) (y := 100) (by omega)
  have he : ((s.hi - s.lo) * p).tdiv 100 = (s.hi - s.lo) * p / 100 := Int.tdiv_eq_ediv_of_nonneg (by omega)
  have w3 := wrap_i64 (z := (s.hi - s.lo) * p / 100) (by omega) (by omega)
  have w4 := wrap_i64 (z := s.lo + (s.hi - s.lo) * p / 100) (by unfold partS at hi; omega) (by unfold partS at hi; omega)
  simp only [SpI.c, partS]
  refine pure_of_wc (rs := [.tmp 4]) (m := 16) [] oNone_ok (by kernel_rfl) Try.func28 rfl (by kernel_rfl) rfl rfl (by kernel_rfl) ?_
  simp only [RT, FS, ↓RE, okR, argEnv, Nat.reduceAdd, Nat.reduceSub, Nat.reduceLT, Nat.reduceLeDiff, Nat.reduceEqDiff, reduceIte, w1, w2, hd, he, w3, w4]
theorem percents_t (l : List Int) (hl : l.length ≤ 9223372036854775807) : Pure Try.prog 18 [.sl (intL l)] (.bool (l.all fun x => rI x 0 100)) := by
  refine pure_of_wc (rs := [.tmp 2]) (m := 22) [] oNone_ok (by kernel_rfl) Try.func18 rfl (by kernel_rfl) rfl rfl (by kernel_rfl) ?_
  simp only [RT, FS, ↓RE, okR, argEnv, Nat.reduceAdd, Nat.reduceSub, Nat.reduceLT, Nat.reduceLeDiff, Nat.reduceEqDiff, reduceIte]
  refine loopV (ι := Nat) oNone_ok [] (fun i => [(0, .sl (intL l)), (3, .int .i64 (i : Int))])
    (fun i => []) 0 (fun i => i ≤ l.length ∧ (l.take i).all (fun x => rI x 0 100) = true) (fun i => l.length - i) 0 (by kernel_rfl) (by kernel_rfl) ⟨Nat.zero_le _, by simp⟩ ?_ ?_
  · simp [headW, heapW, envW, blkLt, D.ltL, D.lt, look, hget]
  rintro i ⟨hi, he⟩
  rcases Nat.lt_or_ge i l.length with hlt | hge
  rotate_left
  · have hq : ((i : Int) < (l.length : Int)) = False := by simp; omega
    rw [List.take_of_length_le (by omega)] at he
    simp only [RT, FS, ↓RE, okR, argEnv, Nat.reduceAdd, Nat.reduceSub, Nat.reduceLT, Nat.reduceLeDiff, Nat.reduceEqDiff, reduceIte, intL_len, hq, decide_false]
    simp [he]
  have hq : ((i : Int) < (l.length : Int)) = True := by simp [hlt]
  obtain ⟨x, hx⟩ : ∃ x, l[i]? = some x := ⟨l[i], by simp [hlt]⟩
  have ix := sI_ix hx
  have hw := wrap_i64 (z := (i : Int) + 1) (by omega) (by omega)
  by_cases h1 : x < 0
  · have hb := all_out (p := fun x => rI x 0 100) hx (by simp [rI]; omega)
    simp only [RT, FS, ↓RE, okR, argEnv, Nat.reduceAdd, Nat.reduceSub, Nat.reduceLT, Nat.reduceLeDiff, Nat.reduceEqDiff, reduceIte, intL_len, hq, decide_true, ix, h1]
    simp [hb]
  by_cases h2 : 100 < x
  · have hb := all_out (p := fun x => rI x 0 100) hx (by simp [rI]; omega)
    simp only [RT, FS, ↓RE, okR, argEnv, Nat.reduceAdd, Nat.reduceSub, Nat.reduceLT, Nat.reduceLeDiff, Nat.reduceEqDiff, reduceIte, intL_len, hq, decide_true, decide_false, ix, h1, h2]
    simp [hb]
  simp only [RT, FS, ↓RE, okR, argEnv, Nat.reduceAdd, Nat.reduceSub, Nat.reduceLT, Nat.reduceLeDiff, Nat.reduceEqDiff, reduceIte, intL_len, hq, decide_true, decide_false, ix, h1, h2, hw]
  exact ⟨i + 1, ⟨by omega, all_cut hx he (by simp [rI]; omega)⟩, by omega, by simp [headW, heapW, envW, blkLt, D.ltL, D.lt, look, hget]⟩
end Go.Sx
