/- Own work: contracts of functions, used in the proof of a law. -/
import Derived.Test.YtjhoplbdpdbgaaaGreatDoorSxC43z
set_option linter.unusedVariables false
set_option linter.unusedSimpArgs false
namespace Go.Sx
open Go.Proofs
set_option maxRecDepth 10000

theorem at_le {g : Ga} (hga : gaOk g = true) (hr : runG g = true) {t : Int} (ht : 0 ≤ t ∧ t ≤ 1440) : (atL g t).1 ≤ (atL g t).2 := by
  have hn : (clashG g).2.2 = false := by simpa [runG] using hr
  have := fit_bounds hga (low_fits hga hn) ht
  simp only [atL]; omega
def calmP (l : Lk) : Bool := anyI (atL l.s.w.east l.t).1 (atL l.s.w.east l.t).2 fun e => anyI (atL l.s.w.north l.t).1 (atL l.s.w.north l.t).2 (calmB l.p.way l.n e)
theorem okWind_mid {e : Int} (h : -100001 ≤ e ∧ e ≤ 100001) : okWind e = true := by
  simp only [okWind, bIn, Bool.and_eq_true, decide_eq_true_eq]; omega
theorem calmP_t (l : Lk) (h : LkOk l) (hr : runG l.s.w.north = true) : Pure Tryz.prog 122 [.agg l.c] (.bool (calmP l)) := by
  have hg := h.se.gd
  have vg := fun hp => En.view hg hp
  have lg := En.lt hg
  have hwx := okWx_gaOk (okSe_wx h.s)
  have h1 := gAtL l.s.w.east l.t ⟨hwx.east, h.t⟩
  have h2 := gAtL l.s.w.north l.t ⟨hwx.north, h.t⟩
  have hle := at_le hwx.north hr h.t
  have hwy := (okSp_ce h.p).1
  obtain ⟨⟨b1, b2⟩, b3, b4⟩ := at_bounds hwx.east l.t
  obtain ⟨⟨c1, c2⟩, c3, c4⟩ := at_bounds hwx.north l.t
  have b1 : -100000 ≤ (atL l.s.w.east l.t).1 := b1
  have b2 : (atL l.s.w.east l.t).1 ≤ 100000 := b2
  have b3 : -100000 ≤ (atL l.s.w.east l.t).2 := b3
  have b4 : (atL l.s.w.east l.t).2 ≤ 100000 := b4
  have c1 : -100000 ≤ (atL l.s.w.north l.t).1 := c1
  have c2 : (atL l.s.w.north l.t).1 ≤ 100000 := c2
  have c3 : -100000 ≤ (atL l.s.w.north l.t).2 := c3
  have c4 : (atL l.s.w.north l.t).2 ≤ 100000 := c4
  have hcr := okNd_ct h.n
  have hlt := (lenb hwy hcr.2).2.1
  refine pure_of_wc (rs := [.tmp 2]) (m := 61) [(1, [(16, true, false, []), (2, false, false, [])])] o42_ok (by kernel_rfl) Tryz.func122 rfl (by kernel_rfl) rfl rfl (by kernel_rfl) ?_
  simp only [FS, ↓RE, okR, argEnv, Nat.reduceAdd, Nat.reduceSub, Nat.reduceLT, Nat.reduceLeDiff, Nat.reduceEqDiff, reduceIte, vg, lg, h1, h2]
  generalize hE : atL l.s.w.east l.t = E at *
  generalize hN : atL l.s.w.north l.t = N at *
  obtain ⟨e1, e2⟩ := E
  obtain ⟨n1, n2⟩ := N
  dsimp only at *
  have hP : calmP l = anyI e1 e2 fun e => anyI n1 n2 (calmB l.p.way l.n e) := by simp only [calmP, hE, hN]
  refine loopN (ι := Int × Nat) o42_ok [(1, [(16, true, false, []), (2, false, false, [])])] (fun i => [(1, .ptr 0 0), (3, .ptr 1 0), (4, .ptr 2 0), (5, .ptr i.2 0)])
    (fun i => [(i.2, .box [.int .i64 i.1]), (2, .box [.int .i64 n1, .int .i64 n2]), (1, .box [.int .i64 e1, .int .i64 e2]), (0, .box l.c)]) (fun i => i.2 + 1)
    (fun i => 3 ≤ i.2 ∧ (-100000 ≤ i.1 ∧ i.1 ≤ 100001) ∧ calmP l = anyI i.1 e2 fun e => anyI n1 n2 (calmB l.p.way l.n e)) (fun i => (e2 + 1 - i.1).toNat) (e1, 3) (by kernel_rfl) (by kernel_rfl) ⟨Nat.le_refl _, ⟨b1, by simp only; omega⟩, hP⟩ ?_ ?_
  · refine imp_head ?_
    simp [headW, heapW, envW, blkLt, D.ltL, D.lt, look, hget, hset, lg]
  rintro ⟨x, B⟩ ⟨hB, hx, hax⟩
  dsimp only at hB hx hax ⊢
  have f0 : (0 = B) = False := by simp; omega
  have f1 : (1 = B) = False := by simp; omega
  have f2 : (2 = B) = False := by simp; omega
  have f3 : (0 = B + 1) = False := by simp
  have f4 : (1 = B + 1) = False := by simp; omega
  have f5 : (2 = B + 1) = False := by simp; omega
  have f6 : (B = B + 1) = False := by simp
  by_cases hxe : x ≤ e2
  rotate_left
  · simp only [FS, ↓RE, okR, argEnv, Nat.reduceAdd, Nat.reduceSub, Nat.reduceLT, Nat.reduceLeDiff, Nat.reduceEqDiff, reduceIte, f0, f1, f2, hxe, decide_false]
    rw [hax, anyI_none (by omega)]
  have hw1 := wrap_i64 (z := n2 + 1) (by omega) (by omega)
  have hwx1 := wrap_i64 (z := x + 1) (by omega) (by omega)
  have m1 : ∀ i j : Int, n1 ≤ i → i ≤ j → j < n1 + ((n2 + 1 - n1).toNat : Int) → decide (0 ≤ sideW l.p.way l.n x i) = true → decide (0 ≤ sideW l.p.way l.n x j) = true := fun i j _ hij _ hp => decide_eq_true ((side_mono hwy hij).1 (of_decide_eq_true hp))
  have m2 : ∀ i j : Int, n1 ≤ i → i ≤ j → j < n1 + ((n2 + 1 - n1).toNat : Int) → decide (0 < sideW l.p.way l.n x i) = true → decide (0 < sideW l.p.way l.n x j) = true := fun i j _ hij _ hp => decide_eq_true ((side_mono hwy hij).2 (of_decide_eq_true hp))
  have hm : n1 + ((n2 + 1 - n1).toNat : Int) = n2 + 1 := by omega
  obtain ⟨r1, p1, p2, p3, p4⟩ := thr _ n1 _ m1
  obtain ⟨r2, s1, s2, s3, s4⟩ := thr _ n1 _ m2
  rw [hm] at p2 p4 s2 s4
  have hends := calm_ends hwy hlt ⟨p1, p2⟩ ⟨s1, s2⟩ p3 p4 s3 s4
  have F1 := first_t n1 (n2 + 1) r1 (by omega) ⟨p1, p2⟩ 150 [] [.ref l.c 0, .ref [.int .i64 x] 0] _ (fun _ => rfl) (fun _ => rfl) (fun _ _ => rfl) p3 p4 fun i a b => pc1_t l hg x i hwy (okWind_mid (by omega)) (okWind_mid (by omega)) h.n
  have F2 := first_t n1 (n2 + 1) r2 (by omega) ⟨s1, s2⟩ 152 [] [.ref l.c 0, .ref [.int .i64 x] 0] _ (fun _ => rfl) (fun _ => rfl) (fun _ _ => rfl) s3 s4 fun i a b => pc2_t l hg x i hwy (okWind_mid (by omega)) (okWind_mid (by omega)) h.n
  simp only [FS, ↓RE, okR, argEnv, Nat.reduceAdd, Nat.reduceSub, Nat.reduceLT, Nat.reduceLeDiff, Nat.reduceEqDiff, reduceIte, f0, f1, f2, hxe, decide_true, vg, lg, hw1]
  refine call_of_pure F1 rfl ?_
  simp only [FS, ↓RE, okR, argEnv, Nat.reduceAdd, Nat.reduceSub, Nat.reduceLT, Nat.reduceLeDiff, Nat.reduceEqDiff, reduceIte, f0, f1, f2, vg, lg, hw1]
  refine call_of_pure F2 rfl ?_
  have hw2 := wrap_i64 (z := r2 - 1) (by omega) (by omega)
  have k1 := gL2_eq (fun q => okWd q && okNd q.1.n) (fun q => .bool (calmB q.1.p.way q.1.n q.2.1 q.2.2)) l hg (i := x) (j := r1) (by simp [okWd, hwy, okWind_mid (e := x) (by omega), okWind_mid (e := r1) (by omega), h.n])
  have k2 := gL2_eq (fun q => okWd q && okNd q.1.n) (fun q => .bool (calmB q.1.p.way q.1.n q.2.1 q.2.2)) l hg (i := x) (j := r2 - 1) (by simp [okWd, hwy, okWind_mid (e := x) (by omega), okWind_mid (e := r2 - 1) (by omega), h.n])
  simp only [Lk.c, Se.cr, Wx.c, gaC] at k1 k2
  rw [anyI_step hxe, ← hends] at hax
  by_cases q0 : r1 ≤ r2 - 1
  rotate_left
  · rw [decide_eq_false q0, Bool.false_and, Bool.false_or] at hax
    simp only [FS, ↓RE, okR, argEnv, Nat.reduceAdd, Nat.reduceSub, Nat.reduceLT, Nat.reduceLeDiff, Nat.reduceEqDiff, reduceIte, f0, f1, f2, f3, f4, f5, f6, vg, lg, hw2, q0, decide_false, hwx1]
    exact ⟨(x + 1, B + 1), ⟨by simp only; omega, by simp only; omega, hax⟩, by simp only; omega, imp_head (by
      simp [headW, heapW, envW, blkLt, D.ltL, D.lt, look, hget, hset, lg, f0, f1, f2, f3, f4, f5, f6, Nat.blt_eq]
      omega)⟩
  rw [decide_eq_true q0, Bool.true_and] at hax
  cases q1 : calmB l.p.way l.n x r1
  · rw [q1, Bool.false_or] at hax
    cases q2 : calmB l.p.way l.n x (r2 - 1)
    · rw [q2, Bool.false_or] at hax
      simp only [FS, ↓RE, okR, argEnv, Nat.reduceAdd, Nat.reduceSub, Nat.reduceLT, Nat.reduceLeDiff, Nat.reduceEqDiff, reduceIte, f0, f1, f2, f3, f4, f5, f6, vg, lg, hw2, q0, decide_true, hwx1, k1, k2, q1, q2]
      exact ⟨(x + 1, B + 1), ⟨by simp only; omega, by simp only; omega, hax⟩, by simp only; omega, imp_head (by
        simp [headW, heapW, envW, blkLt, D.ltL, D.lt, look, hget, hset, lg, f0, f1, f2, f3, f4, f5, f6, Nat.blt_eq]
        omega)⟩
    · rw [q2, Bool.true_or] at hax
      simp only [FS, ↓RE, okR, argEnv, Nat.reduceAdd, Nat.reduceSub, Nat.reduceLT, Nat.reduceLeDiff, Nat.reduceEqDiff, reduceIte, f0, f1, f2, f3, f4, f5, f6, vg, lg, hw2, q0, decide_true, hwx1, k1, k2, q1, q2]
      rw [hax]
  · rw [q1, Bool.true_or, Bool.true_or] at hax
    simp only [FS, ↓RE, okR, argEnv, Nat.reduceAdd, Nat.reduceSub, Nat.reduceLT, Nat.reduceLeDiff, Nat.reduceEqDiff, reduceIte, f0, f1, f2, f3, f4, f5, f6, vg, lg, hw2, q0, decide_true, hwx1, k1, q1]
    rw [hax]
end Go.Sx
