/- Own work: contracts of functions, used in the proof of a law. -/
import Derived.Test.YtjhoplbdpdbgaaaGreatDoorSxC45z
set_option linter.unusedVariables false
set_option linter.unusedSimpArgs false
namespace Go.Sx
open Go.Proofs
set_option maxRecDepth 10000

/-! The deepest draught -/
def leastR (fr : Nat → Bool) (dp : Nat → Int) (o : Nat) : Nat → Nat → Int → Int
  | 0, _, v => v
  | m + 1, j, v => if fr (o + j) then leastR fr dp o m (j + 1) (min v (dp (o + j))) else -1
def bestD (fr : Nat → Bool) (dp : Nat → Int) (c : Nat) : Nat → Int
  | 0 => -1
  | o + 1 => max (bestD fr dp c o) (leastR fr dp o c 0 1073741824)
theorem leastR_le {fr : Nat → Bool} {dp : Nat → Int} {o : Nat} {x : Int} (hx : 0 ≤ x) : ∀ (m j : Nat) (v : Int), x ≤ leastR fr dp o m j v ↔ (m = 0 ∧ x ≤ v) ∨ (0 < m ∧ x ≤ v ∧ ∀ i, i < m → fr (o + j + i) = true ∧ x ≤ dp (o + j + i))
  | 0, j, v => by simp [leastR]
  | m + 1, j, v => by
    simp only [leastR]
    cases hf : fr (o + j)
    · simp only [Bool.false_eq_true, if_false]
      constructor
      · intro h; omega
      · rintro (h | ⟨_, _, h⟩)
        · omega
        · have := (h 0 (by omega)).1
          rw [Nat.add_zero, hf] at this; cases this
    · rw [if_pos rfl, leastR_le hx m (j + 1)]
      have hs : ∀ i, o + (j + 1) + i = o + j + (i + 1) := fun i => by omega
      constructor
      · rintro (⟨h1, h2⟩ | ⟨h1, h2, h3⟩)
        · refine .inr ⟨by omega, by omega, fun i hi => ?_⟩
          have : i = 0 := by omega
          subst this
          exact ⟨by simpa using hf, by simpa using (by omega : x ≤ dp (o + j))⟩
        · refine .inr ⟨by omega, by omega, fun i hi => ?_⟩
          cases i with
          | zero => exact ⟨by simpa using hf, by simpa using (by omega : x ≤ dp (o + j))⟩
          | succ i =>
            have := h3 i (by omega)
            rwa [hs] at this
      · rintro (h | ⟨_, h2, h3⟩)
        · omega
        · have h0 := (h3 0 (by omega)).2
          rw [Nat.add_zero] at h0
          rcases Nat.eq_zero_or_pos m with hm | hm
          · exact .inl ⟨hm, by omega⟩
          · refine .inr ⟨hm, by omega, fun i hi => ?_⟩
            rw [hs]; exact h3 (i + 1) (by omega)
theorem least_all {fr : Nat → Bool} {dp : Nat → Int} {o c : Nat} {x : Int} (hc : 0 < c) (hx : 0 ≤ x ∧ x ≤ 1073741824) : x ≤ leastR fr dp o c 0 1073741824 ↔ allG (fun k => decide (x ≤ dp k) && fr k) o c = true := by
  rw [leastR_le hx.1, allG_iff]
  simp only [Bool.and_eq_true, decide_eq_true_eq, Nat.add_zero]
  constructor
  · rintro (h | ⟨_, _, h⟩)
    · omega
    · exact fun j hj => ⟨(h j hj).2, (h j hj).1⟩
  · intro h
    exact .inr ⟨hc, hx.2, fun i hi => ⟨(h i hi).2, (h i hi).1⟩⟩
theorem bestD_le {fr : Nat → Bool} {dp : Nat → Int} {c : Nat} {x : Int} (hx : 0 ≤ x) : ∀ m, x ≤ bestD fr dp c m ↔ ∃ o, o < m ∧ x ≤ leastR fr dp o c 0 1073741824
  | 0 => by simp [bestD]; omega
  | m + 1 => by
    have ih := bestD_le (fr := fr) (dp := dp) (c := c) hx m
    simp only [bestD]
    constructor
    · intro h
      by_cases h1 : x ≤ bestD fr dp c m
      · obtain ⟨o, a, b⟩ := ih.1 h1; exact ⟨o, by omega, b⟩
      · exact ⟨m, by omega, by omega⟩
    · rintro ⟨o, a, b⟩
      by_cases h1 : o < m
      · have := ih.2 ⟨o, h1, b⟩; omega
      · have : o = m := by omega
        subst this; omega
/-- There is a run just if the draught is at most the best. -/
theorem run_best {fr : Nat → Bool} {dp : Nat → Int} {n c : Nat} {x : Int} (hc : 0 < c) (hx : 0 ≤ x ∧ x ≤ 5000) : 0 ≤ runS (fun k => decide (x ≤ dp k) && fr k) n c ↔ x ≤ bestD fr dp c (n + 1 - c) := by
  rw [bestD_le hx.1]
  have key : ∀ o, x ≤ leastR fr dp o c 0 1073741824 ↔ allG (fun k => decide (x ≤ dp k) && fr k) o c = true := fun o => least_all hc ⟨hx.1, by omega⟩
  simp only [runS]
  constructor
  · intro h
    split at h
    · rename_i o ho
      have h1 := List.mem_of_find?_eq_some ho
      have h2 := List.find?_some ho
      exact ⟨o, List.mem_range.1 h1, (key o).2 h2⟩
    · omega
  · rintro ⟨o, a, b⟩
    split
    · omega
    · rename_i hno
      have := List.find?_eq_none.1 hno o (List.mem_range.2 a)
      rw [(key o).1 b] at this
      exact absurd rfl this
theorem leastR_b {fr : Nat → Bool} {dp : Nat → Int} {o : Nat} (hd : ∀ k, -200000 ≤ dp k ∧ dp k ≤ 200000) : ∀ (m j : Nat) (v : Int), (-200000 ≤ v ∧ v ≤ 1073741824) → -200000 ≤ leastR fr dp o m j v ∧ leastR fr dp o m j v ≤ 1073741824
  | 0, _, v, h => h
  | m + 1, j, v, h => by
    simp only [leastR]
    split
    · have := hd (o + j)
      exact leastR_b hd m (j + 1) _ (by omega)
    · omega
theorem bestD_b {fr : Nat → Bool} {dp : Nat → Int} {c : Nat} (hd : ∀ k, -200000 ≤ dp k ∧ dp k ≤ 200000) : ∀ m, -1 ≤ bestD fr dp c m ∧ bestD fr dp c m ≤ 1073741824
  | 0 => by simp [bestD]
  | m + 1 => by
    have h1 := bestD_b (fr := fr) (c := c) hd m
    have h2 := leastR_b (fr := fr) (o := m) hd c 0 1073741824 (by omega)
    simp only [bestD]; omega

def nd0 : Nd := ⟨0, 0, 0, 0, 0, 0, 0⟩
def frL (l : Lk) (k : Nat) : Bool := freeB (passB l) (pxK l.p k) (pyK l.p k) l.s.boats 0
def dpL (l : Lk) (k : Nat) : Int := (dpAt l.s (cellI l.s l.p k)).1 + (atL l.s.w.tide l.t).1
def deepB (l : Lk) (c : Int) : Int := bestD (frL l) (dpL l) c.toNat (l.p.cells.toNat + 1 - c.toNat)
theorem goodR_deep (l : Lk) (x : Int) : goodR l.s l.p x (atL l.s.w.tide l.t).1 (endD true l.s) (endB true l.s l.t) = fun k => decide (x ≤ dpL l k) && frL l k := by
  have := goodR_end ⟨l.s, l.gd, l.p, ⟨x, 0, 0, 0, 0, 0, 0⟩, l.t⟩ (atL l.s.w.tide l.t).1
  exact this
structure LkP (l : Lk) : Prop where
  se : SeL l.s l.gd
  s : okSe l.s = true
  p : okSp l.s l.p = true
  t : 0 ≤ l.t ∧ l.t ≤ 1440
theorem rDeepest_t (l : Lk) (h : LkP l) (c : Int) (hc : 1 ≤ c ∧ c ≤ 12) : Pure Tryz.prog 26 [.agg (l.s.c l.gd), .agg l.p.c, .int .i64 c, .int .i64 l.t] (.int .i64 (min (deepB l c) 5000)) := by
  have hg := h.se.gd
  have vg := fun hp => En.view hg hp
  have lg := En.lt hg
  have hwx := okWx_gaOk (okSe_wx h.s)
  have a5 := gAtL l.s.w.tide l.t ⟨hwx.tide, h.t⟩
  have ht := (at_bounds hwx.tide l.t).1
  have hrun := fun x => rrun_t l.s l.gd h.se h.s l.p h.p x c (atL l.s.w.tide l.t).1 hc (endD true l.s) (endB true l.s l.t) ht (by simp [endD]) (endD_ok h.s true) (by simp [endB])
  have hb1 : -1 ≤ deepB l c := by
    simp only [deepB]
    generalize (l.p.cells.toNat + 1 - c.toNat) = m
    induction m with
    | zero => simp [bestD]
    | succ m ih => simp only [bestD]; omega
  refine pure_of_wc (rs := [.tmp 8]) (m := 50) [] o37_ok (by kernel_rfl) Tryz.func26 rfl (by kernel_rfl) rfl rfl (by kernel_rfl) ?_
  simp only [FS, ↓RE, okR, argEnv, Nat.reduceAdd, Nat.reduceSub, Nat.reduceLT, Nat.reduceLeDiff, Nat.reduceEqDiff, reduceIte]
  refine call_of_pure' (ends_t l.s l.gd h.se h.s l.t true) (by simp [D.ltL, D.lt, lg]) (by simp [D.ltL, D.lt]) ?_
  simp only [FS, ↓RE, okR, argEnv, Nat.reduceAdd, Nat.reduceSub, Nat.reduceLT, Nat.reduceLeDiff, Nat.reduceEqDiff, reduceIte, ex_tup, vg, lg, a5]
  refine loopV (ι := Int × Int) o37_ok [] (fun i => [(2, .int .i64 c), (4, .ptr 0 0), (5, .ptr 1 0), (9, .sl (iL (endD true l.s))), (10, .sl (bL (endB true l.s l.t))), (11, .int .i64 (atL l.s.w.tide l.t).1), (12, .int .i64 i.1), (13, .int .i64 i.2)])
    (fun i => [(1, .box l.p.c), (0, .box (l.s.c l.gd))]) 2 (fun i => -1 ≤ i.1 ∧ i.1 ≤ min (deepB l c) 5000 ∧ min (deepB l c) 5000 ≤ i.2 ∧ i.2 ≤ 5000) (fun i => (i.2 - i.1).toNat) (-1, 5000) (by kernel_rfl) (by kernel_rfl) ⟨Int.le_refl _, by omega, by simp only; omega, Int.le_refl _⟩ ?_ ?_
  · simp [headW, heapW, envW, blkLt, D.ltL, D.lt, look, hget, lg]
  rintro ⟨a, b⟩ ⟨h1, h2, h3, h4⟩
  dsimp only at h1 h2 h3 h4 ⊢
  by_cases hab : a < b
  rotate_left
  · simp only [FS, ↓RE, okR, argEnv, Nat.reduceAdd, Nat.reduceSub, Nat.reduceLT, Nat.reduceLeDiff, Nat.reduceEqDiff, reduceIte, hab, decide_false]
    have : a = min (deepB l c) 5000 := by omega
    rw [← this]
  have w1 := wrap_i64 (z := b - a) (by omega) (by omega)
  have w2 := wrap_i64 (z := b - a + 1) (by omega) (by omega)
  have hd := a_quo' (k := .i64) (x := b - a + 1) (y := 2) (by omega)
  have he : (b - a + 1).tdiv 2 = (b - a + 1) / 2 := Int.tdiv_eq_ediv_of_nonneg (by omega)
  have w3 := wrap_i64 (z := (b - a + 1) / 2) (by omega) (by omega)
  have w4 := wrap_i64 (z := a + (b - a + 1) / 2) (by omega) (by omega)
  have w5 := wrap_i64 (z := a + (b - a + 1) / 2 - 1) (by omega) (by omega)
  simp only [FS, ↓RE, okR, argEnv, Nat.reduceAdd, Nat.reduceSub, Nat.reduceLT, Nat.reduceLeDiff, Nat.reduceEqDiff, reduceIte, hab, decide_true, w1, w2, hd, he, w3, w4, vg, lg]
  refine call_of_pure (hrun _) rfl ?_
  rw [goodR_deep]
  have hrb := run_best (fr := frL l) (dp := dpL l) (n := l.p.cells.toNat) (c := c.toNat) (x := a + (b - a + 1) / 2) (by omega) (by omega)
  rw [show bestD (frL l) (dpL l) c.toNat (l.p.cells.toNat + 1 - c.toNat) = deepB l c from rfl] at hrb
  by_cases q : 0 ≤ runS (fun k => decide (a + (b - a + 1) / 2 ≤ dpL l k) && frL l k) l.p.cells.toNat c.toNat
  · have := hrb.1 q
    simp only [FS, ↓RE, okR, argEnv, Nat.reduceAdd, Nat.reduceSub, Nat.reduceLT, Nat.reduceLeDiff, Nat.reduceEqDiff, reduceIte, q, decide_true]
    exact ⟨(a + (b - a + 1) / 2, b), ⟨by simp only; omega, by simp only; omega, h3, h4⟩, by simp only; omega, by simp [headW, heapW, envW, blkLt, D.ltL, D.lt, look, hget, lg]⟩
  · have := fun x => q (hrb.2 x)
    simp only [FS, ↓RE, okR, argEnv, Nat.reduceAdd, Nat.reduceSub, Nat.reduceLT, Nat.reduceLeDiff, Nat.reduceEqDiff, reduceIte, q, decide_false, w5]
    exact ⟨(a, a + (b - a + 1) / 2 - 1), ⟨h1, h2, by simp only; omega, by simp only; omega⟩, by simp only; omega, by simp [headW, heapW, envW, blkLt, D.ltL, D.lt, look, hget, lg]⟩
end Go.Sx
