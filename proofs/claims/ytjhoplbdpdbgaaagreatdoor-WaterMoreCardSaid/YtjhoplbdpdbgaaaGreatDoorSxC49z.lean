/- Own work: contracts of functions, used in the proof of a law. -/
import Derived.Test.YtjhoplbdpdbgaaaGreatDoorSxC48z
set_option linter.unusedVariables false
set_option linter.unusedSimpArgs false
namespace Go.Sx
open Go.Proofs
set_option maxRecDepth 10000

theorem minTail (l : Lk) (h : SeL l.s l.gd) (hs : okSe l.s = true) (hp : okSp l.s l.p = true) (ht : bIn l.t 0 1440 = true) :
    (okNd l.n = false ∧ SureA l = (0, 2) ∧ PossA l = (false, 2)) ∨ (okNd l.n = true ∧ soundW l.s.w = false ∧ SureA l = (0, 5) ∧ PossA l = (false, 5)) ∨
    (okNd l.n = true ∧ soundW l.s.w = true ∧ PossA l = (possB l, 0) ∧ ((surelyB l = false ∧ SureA l = (0, 7)) ∨ (surelyB l = true ∧ SureA l = (offL l, 0) ∧ 0 ≤ offL l))) := by
  cases hn : okNd l.n
  · left; simp [SureA, PossA, askE, hs, hp, hn]
  cases hso : soundW l.s.w
  · right; left; simp [SureA, PossA, askE, hs, hp, hn, ht, hso]
  right; right
  cases hsu : surelyB l
  · simp [SureA, PossA, askE, hs, hp, hn, ht, hso, hsu]
  · simp [SureA, PossA, askE, hs, hp, hn, ht, hso, hsu, surely_off hsu]
theorem minBad (l : Lk) (r : Int) (hb : okSe l.s = false ∨ okSp l.s l.p = false ∨ bIn l.t 0 1440 = false) : SureA l = (0, 2) ∧ PossA l = (false, 2) ∧ DeepA l r = (0, 2) := by
  rcases hb with hb | hb | hb <;> simp [SureA, PossA, DeepA, askE, hb]

set_option maxHeartbeats 4000000 in
theorem waterMinutes_at (l : Lk) (h : SeL l.s l.gd) (r : Int) : Pure Tryz.prog 4 [.agg (l.s.c l.gd), .agg l.p.c, .agg l.n.c, .int .i64 l.t, .int .i64 r] (.bool true) := by
  have vg := fun hp => En.view h.gd hp
  have lg := En.lt h.gd
  have cg := fun hp => En.cur h.gd hp
  have h0 := gTn_eq h
  have hz := gBz_eq h
  have h1 := gSe_eq h
  have h3 := gNd_eq l.n
  have hSu := gSu_eq h
  have hPo := gPo_eq h
  have hDe := gDe_eq h r
  simp only [Se.c, Se.cr, Wx.c, gaC] at h0 hz h1 hSu hPo hDe
  have hbn := binB_ne Fz.und_4 (possB l) (possB l)
  refine pure_of_wc (rs := [.tmp 10]) (m := 212) [] o48_ok (by kernel_rfl) Tryz.func4 rfl (by kernel_rfl) rfl rfl (by kernel_rfl) ?_
  cases t0 : tinyB l.s
  · simp only [FS, ↓RE, okR, argEnv, Nat.reduceAdd, Nat.reduceSub, Nat.reduceLT, Nat.reduceLeDiff, Nat.reduceEqDiff, reduceIte, vg, lg, cg, h0, t0, gTrue_eq]
  cases z0 : breezeB l.s
  · simp only [FS, ↓RE, okR, argEnv, Nat.reduceAdd, Nat.reduceSub, Nat.reduceLT, Nat.reduceLeDiff, Nat.reduceEqDiff, reduceIte, vg, lg, cg, h0, t0, hz, z0, gTrue_eq]
  cases hs : okSe l.s
  · obtain ⟨a1, a2, a3⟩ := minBad l r (.inl hs)
    rw [a1] at hSu; rw [a2] at hPo; rw [a3] at hDe
    simp only [FS, ↓RE, okR, argEnv, Nat.reduceAdd, Nat.reduceSub, Nat.reduceLT, Nat.reduceLeDiff, Nat.reduceEqDiff, reduceIte, vg, lg, cg, h0, t0, hz, z0, gTrue_eq, hSu, hPo, hDe, ex_tup, h1, hs, Int.reduceBEq, Int.reduceBNe, beq_self_eq_true, bne_self_eq_false]
  have h2 := gSp_eq h hs l.p
  simp only [Se.c, Se.cr, Wx.c, gaC] at h2
  cases hp : okSp l.s l.p
  · obtain ⟨a1, a2, a3⟩ := minBad l r (.inr (.inl hp))
    rw [a1] at hSu; rw [a2] at hPo; rw [a3] at hDe
    simp only [FS, ↓RE, okR, argEnv, Nat.reduceAdd, Nat.reduceSub, Nat.reduceLT, Nat.reduceLeDiff, Nat.reduceEqDiff, reduceIte, vg, lg, cg, h0, t0, hz, z0, gTrue_eq, hSu, hPo, hDe, ex_tup, h1, hs, h2, hp, Int.reduceBEq, Int.reduceBNe, beq_self_eq_true, bne_self_eq_false]
  by_cases t1 : 0 ≤ l.t
  rotate_left
  · obtain ⟨a1, a2, a3⟩ := minBad l r (.inr (.inr (by simp [bIn, t1])))
    rw [a1] at hSu; rw [a2] at hPo; rw [a3] at hDe
    simp only [FS, ↓RE, okR, argEnv, Nat.reduceAdd, Nat.reduceSub, Nat.reduceLT, Nat.reduceLeDiff, Nat.reduceEqDiff, reduceIte, vg, lg, cg, h0, t0, hz, z0, gTrue_eq, hSu, hPo, hDe, ex_tup, h1, hs, h2, hp, t1, decide_false, Int.reduceBEq, Int.reduceBNe, beq_self_eq_true, bne_self_eq_false]
  by_cases t2 : l.t ≤ 1440
  rotate_left
  · obtain ⟨a1, a2, a3⟩ := minBad l r (.inr (.inr (by simp [bIn, t2])))
    rw [a1] at hSu; rw [a2] at hPo; rw [a3] at hDe
    simp only [FS, ↓RE, okR, argEnv, Nat.reduceAdd, Nat.reduceSub, Nat.reduceLT, Nat.reduceLeDiff, Nat.reduceEqDiff, reduceIte, vg, lg, cg, h0, t0, hz, z0, gTrue_eq, hSu, hPo, hDe, ex_tup, h1, hs, h2, hp, t1, t2, decide_true, decide_false, Int.reduceBEq, Int.reduceBNe, beq_self_eq_true, bne_self_eq_false]
  have ht : bIn l.t 0 1440 = true := by simp [bIn, t1, t2]
  have hT := minTail l h hs hp ht
  have hsw : orc decWx okWx (fun w => .bool (soundW w)) [.agg (l.s.w.c [])] = some (.bool (soundW l.s.w)) := orc_eq (decWx_eq l.s.w) (okSe_wx hs)
  simp only [Wx.c, gaC] at hsw
  have hwx := okWx_gaOk (okSe_wx hs)
  have hcl := gGk_eq (k := fun g => clD (clashG g)) (a := l.s.w.tide.rate) (b := l.s.w.tide.least) (c := l.s.w.tide.most) (rs := l.s.w.tide.rs) hwx.tide
  simp only [clD] at hcl
  have hRd := fun hr => gRd_eq (l := l) ⟨h, hs, hp, ⟨t1, t2⟩⟩ (r := r) hr
  have hRp := fun hn hso => gRp_eq (l := l) ⟨h, hs, hp, hn, ⟨t1, t2⟩⟩ hso
  have hRs := fun hn => gRs_eq (l := l) ⟨h, hs, hp, hn, ⟨t1, t2⟩⟩
  simp only [Se.c, Se.cr, Wx.c, gaC] at hRd hRp hRs
  by_cases hr1 : r < 1
  · have a3 : DeepA l r = (0, 2) := by simp [DeepA, hs, hp, bIn]; omega
    rw [a3] at hDe
    have q1 : (r < 1) = True := by simp [hr1]
    rcases hT with ⟨hn, a1, a2⟩ | ⟨hn, hso, a1, a2⟩ | ⟨hn, hso, a2, hT⟩
    · rw [a1] at hSu; rw [a2] at hPo
      simp only [FS, ↓RE, okR, argEnv, Nat.reduceAdd, Nat.reduceSub, Nat.reduceLT, Nat.reduceLeDiff, Nat.reduceEqDiff, reduceIte, vg, lg, cg, h0, t0, hz, z0, gTrue_eq, hSu, hPo, hDe, ex_tup, h1, hs, h2, hp, t1, t2, decide_true, decide_false, Int.reduceBEq, Int.reduceBNe, beq_self_eq_true, bne_self_eq_false, h3, hbn, Bool.not_true, q1, hn]
    · rw [a1] at hSu; rw [a2] at hPo
      simp only [FS, ↓RE, okR, argEnv, Nat.reduceAdd, Nat.reduceSub, Nat.reduceLT, Nat.reduceLeDiff, Nat.reduceEqDiff, reduceIte, vg, lg, cg, h0, t0, hz, z0, gTrue_eq, hSu, hPo, hDe, ex_tup, h1, hs, h2, hp, t1, t2, decide_true, decide_false, Int.reduceBEq, Int.reduceBNe, beq_self_eq_true, bne_self_eq_false, h3, hbn, Bool.not_true, q1, hn, hsw, hso]
    have hRs := hRs hn
    have hRp := hRp hn hso
    rcases hT with ⟨hsu, a1⟩ | ⟨hsu, a1, hof⟩
    · rw [a1] at hSu; rw [a2] at hPo
      simp only [hsu, Bool.false_eq_true, if_false] at hRs
      simp only [FS, ↓RE, okR, argEnv, Nat.reduceAdd, Nat.reduceSub, Nat.reduceLT, Nat.reduceLeDiff, Nat.reduceEqDiff, reduceIte, vg, lg, cg, h0, t0, hz, z0, gTrue_eq, hSu, hPo, hDe, ex_tup, h1, hs, h2, hp, t1, t2, decide_true, decide_false, Int.reduceBEq, Int.reduceBNe, beq_self_eq_true, bne_self_eq_false, h3, hbn, Bool.not_true, q1, hn, hsw, hso, hRp, hRs, Int.reduceNeg, Int.reduceLT]
    · rw [a1] at hSu; rw [a2] at hPo
      simp only [hsu, if_true] at hRs
      have ho : (offL l < 0) = False := by simp; omega
      simp only [FS, ↓RE, okR, argEnv, Nat.reduceAdd, Nat.reduceSub, Nat.reduceLT, Nat.reduceLeDiff, Nat.reduceEqDiff, reduceIte, vg, lg, cg, h0, t0, hz, z0, gTrue_eq, hSu, hPo, hDe, ex_tup, h1, hs, h2, hp, t1, t2, decide_true, decide_false, Int.reduceBEq, Int.reduceBNe, beq_self_eq_true, bne_self_eq_false, h3, hbn, Bool.not_true, q1, hn, hsw, hso, hRp, hRs, ho]
  have q1 : (r < 1) = False := by simp [hr1]
  by_cases hr2 : 12 < r
  · have a3 : DeepA l r = (0, 2) := by simp [DeepA, hs, hp, bIn]; omega
    rw [a3] at hDe
    have q2 : (12 < r) = True := by simp [hr2]
    rcases hT with ⟨hn, a1, a2⟩ | ⟨hn, hso, a1, a2⟩ | ⟨hn, hso, a2, hT⟩
    · rw [a1] at hSu; rw [a2] at hPo
      simp only [FS, ↓RE, okR, argEnv, Nat.reduceAdd, Nat.reduceSub, Nat.reduceLT, Nat.reduceLeDiff, Nat.reduceEqDiff, reduceIte, vg, lg, cg, h0, t0, hz, z0, gTrue_eq, hSu, hPo, hDe, ex_tup, h1, hs, h2, hp, t1, t2, decide_true, decide_false, Int.reduceBEq, Int.reduceBNe, beq_self_eq_true, bne_self_eq_false, h3, hbn, Bool.not_true, q1, q2, hn]
    · rw [a1] at hSu; rw [a2] at hPo
      simp only [FS, ↓RE, okR, argEnv, Nat.reduceAdd, Nat.reduceSub, Nat.reduceLT, Nat.reduceLeDiff, Nat.reduceEqDiff, reduceIte, vg, lg, cg, h0, t0, hz, z0, gTrue_eq, hSu, hPo, hDe, ex_tup, h1, hs, h2, hp, t1, t2, decide_true, decide_false, Int.reduceBEq, Int.reduceBNe, beq_self_eq_true, bne_self_eq_false, h3, hbn, Bool.not_true, q1, q2, hn, hsw, hso]
    have hRs := hRs hn
    have hRp := hRp hn hso
    rcases hT with ⟨hsu, a1⟩ | ⟨hsu, a1, hof⟩
    · rw [a1] at hSu; rw [a2] at hPo
      simp only [hsu, Bool.false_eq_true, if_false] at hRs
      simp only [FS, ↓RE, okR, argEnv, Nat.reduceAdd, Nat.reduceSub, Nat.reduceLT, Nat.reduceLeDiff, Nat.reduceEqDiff, reduceIte, vg, lg, cg, h0, t0, hz, z0, gTrue_eq, hSu, hPo, hDe, ex_tup, h1, hs, h2, hp, t1, t2, decide_true, decide_false, Int.reduceBEq, Int.reduceBNe, beq_self_eq_true, bne_self_eq_false, h3, hbn, Bool.not_true, q1, q2, hn, hsw, hso, hRp, hRs, Int.reduceNeg, Int.reduceLT]
    · rw [a1] at hSu; rw [a2] at hPo
      simp only [hsu, if_true] at hRs
      have ho : (offL l < 0) = False := by simp; omega
      simp only [FS, ↓RE, okR, argEnv, Nat.reduceAdd, Nat.reduceSub, Nat.reduceLT, Nat.reduceLeDiff, Nat.reduceEqDiff, reduceIte, vg, lg, cg, h0, t0, hz, z0, gTrue_eq, hSu, hPo, hDe, ex_tup, h1, hs, h2, hp, t1, t2, decide_true, decide_false, Int.reduceBEq, Int.reduceBNe, beq_self_eq_true, bne_self_eq_false, h3, hbn, Bool.not_true, q1, q2, hn, hsw, hso, hRp, hRs, ho]
  have q2 : (12 < r) = False := by simp [hr2]
  have hbr : bIn r 1 12 = true := by simp [bIn]; omega
  have hRd := hRd hbr
  cases hru : runG l.s.w.tide
  · have a3 : DeepA l r = (0, 5) := by simp [DeepA, hs, hp, hbr, ht, hru]
    rw [a3] at hDe
    have hc2 : (clashG ⟨l.s.w.tide.rate, l.s.w.tide.least, l.s.w.tide.most, l.s.w.tide.rs⟩).2.2 = true := by simpa [runG] using hru
    rcases hT with ⟨hn, a1, a2⟩ | ⟨hn, hso, a1, a2⟩ | ⟨hn, hso, a2, hT⟩
    · rw [a1] at hSu; rw [a2] at hPo
      simp only [FS, ↓RE, okR, argEnv, Nat.reduceAdd, Nat.reduceSub, Nat.reduceLT, Nat.reduceLeDiff, Nat.reduceEqDiff, reduceIte, vg, lg, cg, h0, t0, hz, z0, gTrue_eq, hSu, hPo, hDe, ex_tup, h1, hs, h2, hp, t1, t2, decide_true, decide_false, Int.reduceBEq, Int.reduceBNe, beq_self_eq_true, bne_self_eq_false, h3, hbn, Bool.not_true, q1, q2, hcl, clD, hc2, hn]
    · rw [a1] at hSu; rw [a2] at hPo
      simp only [FS, ↓RE, okR, argEnv, Nat.reduceAdd, Nat.reduceSub, Nat.reduceLT, Nat.reduceLeDiff, Nat.reduceEqDiff, reduceIte, vg, lg, cg, h0, t0, hz, z0, gTrue_eq, hSu, hPo, hDe, ex_tup, h1, hs, h2, hp, t1, t2, decide_true, decide_false, Int.reduceBEq, Int.reduceBNe, beq_self_eq_true, bne_self_eq_false, h3, hbn, Bool.not_true, q1, q2, hcl, clD, hc2, hn, hsw, hso]
    have hRs := hRs hn
    have hRp := hRp hn hso
    rcases hT with ⟨hsu, a1⟩ | ⟨hsu, a1, hof⟩
    · rw [a1] at hSu; rw [a2] at hPo
      simp only [hsu, Bool.false_eq_true, if_false] at hRs
      simp only [FS, ↓RE, okR, argEnv, Nat.reduceAdd, Nat.reduceSub, Nat.reduceLT, Nat.reduceLeDiff, Nat.reduceEqDiff, reduceIte, vg, lg, cg, h0, t0, hz, z0, gTrue_eq, hSu, hPo, hDe, ex_tup, h1, hs, h2, hp, t1, t2, decide_true, decide_false, Int.reduceBEq, Int.reduceBNe, beq_self_eq_true, bne_self_eq_false, h3, hbn, Bool.not_true, q1, q2, hcl, clD, hc2, hn, hsw, hso, hRp, hRs, Int.reduceNeg, Int.reduceLT]
    · rw [a1] at hSu; rw [a2] at hPo
      simp only [hsu, if_true] at hRs
      have ho : (offL l < 0) = False := by simp; omega
      simp only [FS, ↓RE, okR, argEnv, Nat.reduceAdd, Nat.reduceSub, Nat.reduceLT, Nat.reduceLeDiff, Nat.reduceEqDiff, reduceIte, vg, lg, cg, h0, t0, hz, z0, gTrue_eq, hSu, hPo, hDe, ex_tup, h1, hs, h2, hp, t1, t2, decide_true, decide_false, Int.reduceBEq, Int.reduceBNe, beq_self_eq_true, bne_self_eq_false, h3, hbn, Bool.not_true, q1, q2, hcl, clD, hc2, hn, hsw, hso, hRp, hRs, ho]
  have hc2 : (clashG ⟨l.s.w.tide.rate, l.s.w.tide.least, l.s.w.tide.most, l.s.w.tide.rs⟩).2.2 = false := by simpa [runG] using hru
  by_cases hd : deepB l r < 0
  · have a3 : DeepA l r = (0, 7) := by simp [DeepA, hs, hp, hbr, ht, hru, hd]
    rw [a3] at hDe
    have x1 : (min (deepB l r) 5000 < 0) = True := by simp; omega
    have x2 : (0 ≤ min (deepB l r) 5000) = False := by simp; omega
    rcases hT with ⟨hn, a1, a2⟩ | ⟨hn, hso, a1, a2⟩ | ⟨hn, hso, a2, hT⟩
    · rw [a1] at hSu; rw [a2] at hPo
      simp only [FS, ↓RE, okR, argEnv, Nat.reduceAdd, Nat.reduceSub, Nat.reduceLT, Nat.reduceLeDiff, Nat.reduceEqDiff, reduceIte, vg, lg, cg, h0, t0, hz, z0, gTrue_eq, hSu, hPo, hDe, ex_tup, h1, hs, h2, hp, t1, t2, decide_true, decide_false, Int.reduceBEq, Int.reduceBNe, beq_self_eq_true, bne_self_eq_false, h3, hbn, Bool.not_true, q1, q2, hcl, clD, hc2, hRd, x1, x2, hn]
    · rw [a1] at hSu; rw [a2] at hPo
      simp only [FS, ↓RE, okR, argEnv, Nat.reduceAdd, Nat.reduceSub, Nat.reduceLT, Nat.reduceLeDiff, Nat.reduceEqDiff, reduceIte, vg, lg, cg, h0, t0, hz, z0, gTrue_eq, hSu, hPo, hDe, ex_tup, h1, hs, h2, hp, t1, t2, decide_true, decide_false, Int.reduceBEq, Int.reduceBNe, beq_self_eq_true, bne_self_eq_false, h3, hbn, Bool.not_true, q1, q2, hcl, clD, hc2, hRd, x1, x2, hn, hsw, hso]
    have hRs := hRs hn
    have hRp := hRp hn hso
    rcases hT with ⟨hsu, a1⟩ | ⟨hsu, a1, hof⟩
    · rw [a1] at hSu; rw [a2] at hPo
      simp only [hsu, Bool.false_eq_true, if_false] at hRs
      simp only [FS, ↓RE, okR, argEnv, Nat.reduceAdd, Nat.reduceSub, Nat.reduceLT, Nat.reduceLeDiff, Nat.reduceEqDiff, reduceIte, vg, lg, cg, h0, t0, hz, z0, gTrue_eq, hSu, hPo, hDe, ex_tup, h1, hs, h2, hp, t1, t2, decide_true, decide_false, Int.reduceBEq, Int.reduceBNe, beq_self_eq_true, bne_self_eq_false, h3, hbn, Bool.not_true, q1, q2, hcl, clD, hc2, hRd, x1, x2, hn, hsw, hso, hRp, hRs, Int.reduceNeg, Int.reduceLT]
    · rw [a1] at hSu; rw [a2] at hPo
      simp only [hsu, if_true] at hRs
      have ho : (offL l < 0) = False := by simp; omega
      simp only [FS, ↓RE, okR, argEnv, Nat.reduceAdd, Nat.reduceSub, Nat.reduceLT, Nat.reduceLeDiff, Nat.reduceEqDiff, reduceIte, vg, lg, cg, h0, t0, hz, z0, gTrue_eq, hSu, hPo, hDe, ex_tup, h1, hs, h2, hp, t1, t2, decide_true, decide_false, Int.reduceBEq, Int.reduceBNe, beq_self_eq_true, bne_self_eq_false, h3, hbn, Bool.not_true, q1, q2, hcl, clD, hc2, hRd, x1, x2, hn, hsw, hso, hRp, hRs, ho]
  have a3 : DeepA l r = (min (deepB l r) 5000, 0) := by simp [DeepA, hs, hp, hbr, ht, hru, hd]
  rw [a3] at hDe
  have x1 : (min (deepB l r) 5000 < 0) = False := by simp; omega
  have x2 : (0 ≤ min (deepB l r) 5000) = True := by simp; omega
  rcases hT with ⟨hn, a1, a2⟩ | ⟨hn, hso, a1, a2⟩ | ⟨hn, hso, a2, hT⟩
  · rw [a1] at hSu; rw [a2] at hPo
    simp only [FS, ↓RE, okR, argEnv, Nat.reduceAdd, Nat.reduceSub, Nat.reduceLT, Nat.reduceLeDiff, Nat.reduceEqDiff, reduceIte, vg, lg, cg, h0, t0, hz, z0, gTrue_eq, hSu, hPo, hDe, ex_tup, h1, hs, h2, hp, t1, t2, decide_true, decide_false, Int.reduceBEq, Int.reduceBNe, beq_self_eq_true, bne_self_eq_false, h3, hbn, Bool.not_true, q1, q2, hcl, clD, hc2, hRd, x1, x2, hn]
  · rw [a1] at hSu; rw [a2] at hPo
    simp only [FS, ↓RE, okR, argEnv, Nat.reduceAdd, Nat.reduceSub, Nat.reduceLT, Nat.reduceLeDiff, Nat.reduceEqDiff, reduceIte, vg, lg, cg, h0, t0, hz, z0, gTrue_eq, hSu, hPo, hDe, ex_tup, h1, hs, h2, hp, t1, t2, decide_true, decide_false, Int.reduceBEq, Int.reduceBNe, beq_self_eq_true, bne_self_eq_false, h3, hbn, Bool.not_true, q1, q2, hcl, clD, hc2, hRd, x1, x2, hn, hsw, hso]
  have hRs := hRs hn
  have hRp := hRp hn hso
  rcases hT with ⟨hsu, a1⟩ | ⟨hsu, a1, hof⟩
  · rw [a1] at hSu; rw [a2] at hPo
    simp only [hsu, Bool.false_eq_true, if_false] at hRs
    simp only [FS, ↓RE, okR, argEnv, Nat.reduceAdd, Nat.reduceSub, Nat.reduceLT, Nat.reduceLeDiff, Nat.reduceEqDiff, reduceIte, vg, lg, cg, h0, t0, hz, z0, gTrue_eq, hSu, hPo, hDe, ex_tup, h1, hs, h2, hp, t1, t2, decide_true, decide_false, Int.reduceBEq, Int.reduceBNe, beq_self_eq_true, bne_self_eq_false, h3, hbn, Bool.not_true, q1, q2, hcl, clD, hc2, hRd, x1, x2, hn, hsw, hso, hRp, hRs, Int.reduceNeg, Int.reduceLT]
  · rw [a1] at hSu; rw [a2] at hPo
    simp only [hsu, if_true] at hRs
    have ho : (offL l < 0) = False := by simp; omega
    simp only [FS, ↓RE, okR, argEnv, Nat.reduceAdd, Nat.reduceSub, Nat.reduceLT, Nat.reduceLeDiff, Nat.reduceEqDiff, reduceIte, vg, lg, cg, h0, t0, hz, z0, gTrue_eq, hSu, hPo, hDe, ex_tup, h1, hs, h2, hp, t1, t2, decide_true, decide_false, Int.reduceBEq, Int.reduceBNe, beq_self_eq_true, bne_self_eq_false, h3, hbn, Bool.not_true, q1, q2, hcl, clD, hc2, hRd, x1, x2, hn, hsw, hso, hRp, hRs, ho]

theorem waterMinutes_pure : ∀ Ds, TyL Tryz.prog Tryz.f4.params.toList Ds → Pure Tryz.prog 4 Ds (.bool true) := by
  intro Ds h
  rw [Tryz.params4] at h
  match Ds, h with
  | [_, _, _, _, _], ⟨⟨n, _, hg, he⟩, ⟨n2, _, hf, he2⟩, ⟨n3, _, hu, he3⟩, ⟨n4, _, h4, he4⟩, ⟨n5, _, h5, he5⟩, _⟩ =>
    rw [Tryz.underlying33] at he
    rw [Tryz.underlying46] at he2
    rw [Tryz.underlying36] at he3
    rw [Fz.und_3] at he4 he5
    dsimp only at he he2 he3 he4 he5
    obtain ⟨s, rfl, hl⟩ := tySe hg
    obtain ⟨p, rfl⟩ := tySp hf
    obtain ⟨nd, rfl⟩ := tyNd hu
    obtain ⟨t, rfl, _⟩ := tyInt Fz.und_3 h4
    obtain ⟨r, rfl, _⟩ := tyInt Fz.und_3 h5
    subst he
    subst he2
    subst he3
    cases he4
    cases he5
    exact waterMinutes_at ⟨s, _, p, nd, t⟩ hl r
end Go.Sx
