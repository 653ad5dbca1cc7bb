/- Own work: contracts of functions, used in the proof of a law. -/
import Derived.Test.YtjhoplbdpdbgaaaGreatDoorSxC46z
set_option linter.unusedVariables false
set_option linter.unusedSimpArgs false
namespace Go.Sx
open Go.Proofs
set_option maxRecDepth 10000

theorem dpAt_b {s : Se} (hs : okSe s = true) (i : Int) : -5000 ≤ (dpAt s i).1 ∧ (dpAt s i).1 ≤ 5000 := by
  simp only [dpAt, List.getD_eq_getElem?_getD]
  cases hg : s.depths[i.toNat]? with
  | none => simp
  | some d =>
    simp only [okSe, Bool.and_eq_true, List.all_eq_true] at hs
    have := hs.2.2.2.2.1 d (List.mem_of_getElem? hg)
    simp only [okDp, bSpan, Bool.and_eq_true, decide_eq_true_eq] at this
    simp only [Option.getD_some]; omega
theorem dpL_b (l : Lk) (hs : okSe l.s = true) (k : Nat) : -200000 ≤ dpL l k ∧ dpL l k ≤ 200000 := by
  have h1 := dpAt_b hs (cellI l.s l.p k)
  have h2 := (at_bounds (okWx_gaOk (okSe_wx hs)).tide l.t).1
  have h3 : -100000 ≤ (atL l.s.w.tide l.t).1 := h2.1
  have h4 : (atL l.s.w.tide l.t).1 ≤ 100000 := h2.2
  simp only [dpL]; omega
def DeepA (l : Lk) (c : Int) : Int × Int := if okSe l.s && (okSp l.s l.p && (bIn c 1 12 && bIn l.t 0 1440)) then (if runG l.s.w.tide then (if deepB l c < 0 then (0, 7) else (min (deepB l c) 5000, 0)) else (0, 5)) else (0, 2)
theorem Deepest_t (l : Lk) (h : SeL l.s l.gd) (c : Int) : Pure Tryz.prog 24 [.agg (l.s.c l.gd), .agg l.p.c, .int .i64 c, .int .i64 l.t] (.tup [.int .i64 (DeepA l c).1, .int .i64 (DeepA l c).2]) := by
  have hg := h.gd
  have vg := fun hp => En.view hg hp
  have lg := En.lt hg
  have cg := fun hp => En.cur hg hp
  have h1 := gSe_eq h
  simp only [Se.c, Se.cr, Wx.c, gaC] at h1
  refine pure_of_wc (rs := [.tmp 8, .tmp 9]) (m := 100) [(17, [(17, false, false, [])])] o42_ok (by kernel_rfl) Tryz.func24 rfl (by kernel_rfl) rfl rfl (by kernel_rfl) ?_
  cases hs : okSe l.s
  · simp only [FS, ↓RE, okR, argEnv, Nat.reduceAdd, Nat.reduceSub, Nat.reduceLT, Nat.reduceLeDiff, Nat.reduceEqDiff, reduceIte, vg, lg, h1, hs]
    simp [DeepA, hs]
  have h2 := gSp_eq h hs l.p
  simp only [Se.c, Se.cr, Wx.c, gaC] at h2
  cases hp : okSp l.s l.p
  · simp only [FS, ↓RE, okR, argEnv, Nat.reduceAdd, Nat.reduceSub, Nat.reduceLT, Nat.reduceLeDiff, Nat.reduceEqDiff, reduceIte, vg, lg, h1, hs, h2, hp]
    simp [DeepA, hs, hp]
  cases hc : bIn c 1 12
  · simp only [FS, ↓RE, okR, argEnv, Nat.reduceAdd, Nat.reduceSub, Nat.reduceLT, Nat.reduceLeDiff, Nat.reduceEqDiff, reduceIte, vg, lg, h1, hs, h2, hp, gIn_eq, hc]
    simp [DeepA, hs, hp, hc]
  cases ht : bIn l.t 0 1440
  · simp only [FS, ↓RE, okR, argEnv, Nat.reduceAdd, Nat.reduceSub, Nat.reduceLT, Nat.reduceLeDiff, Nat.reduceEqDiff, reduceIte, vg, lg, h1, hs, h2, hp, gIn_eq, hc, ht]
    simp [DeepA, hs, hp, hc, ht]
  have hc' : 1 ≤ c ∧ c ≤ 12 := by simpa [bIn] using hc
  have ht' : 0 ≤ l.t ∧ l.t ≤ 1440 := by simpa [bIn] using ht
  have hwx := okWx_gaOk (okSe_wx hs)
  have hru := gGk_eq (k := fun g => .bool (!(clashG g).2.2)) (a := l.s.w.tide.rate) (b := l.s.w.tide.least) (c := l.s.w.tide.most) (rs := l.s.w.tide.rs) hwx.tide
  have hru : gGk (fun g => .bool (!(clashG g).2.2)) [.agg [.int .i64 l.s.w.tide.rate, .int .i64 l.s.w.tide.least, .int .i64 l.s.w.tide.most, .sl (l.s.w.tide.rs.map Rd.d)]] = some (.bool (runG l.s.w.tide)) := hru
  cases hr : runG l.s.w.tide
  · simp only [FS, ↓RE, okR, argEnv, Nat.reduceAdd, Nat.reduceSub, Nat.reduceLT, Nat.reduceLeDiff, Nat.reduceEqDiff, reduceIte, vg, lg, h1, hs, h2, hp, gIn_eq, hc, ht, hru, hr]
    simp [DeepA, hs, hp, hc, ht, hr]
  have hA : DeepA l c = if deepB l c < 0 then (0, 7) else (min (deepB l c) 5000, 0) := by simp [DeepA, hs, hp, hc, ht, hr]
  rw [hA]
  obtain ⟨hwd, hdp, hlen⟩ := okSe_sz hs
  obtain ⟨hwy, hce⟩ := okSp_ce hp
  have wn1 := wrap_i64 (z := l.p.cells - c) (by omega) (by omega)
  have wn2 := wrap_i64 (z := l.p.cells - c + 1) (by omega) (by omega)
  simp only [FS, ↓RE, okR, argEnv, Nat.reduceAdd, Nat.reduceSub, Nat.reduceLT, Nat.reduceLeDiff, Nat.reduceEqDiff, reduceIte, vg, lg, cg, h1, hs, h2, hp, gIn_eq, hc, ht, hru, hr, wn1, wn2]
  have hdb := dpL_b l hs
  have hbb := fun m => bestD_b (fr := frL l) (dp := dpL l) (c := c.toNat) hdb m
  refine loopV (ι := Nat) o42_ok [(17, [(17, false, false, [])])] (fun o => [(2, .int .i64 c), (3, .int .i64 l.t), (4, .ptr 0 0), (10, .ptr 2 0), (11, .int .i64 (bestD (frL l) (dpL l) c.toNat o)), (51, .int .i64 (l.p.cells - c + 1)), (52, .int .i64 (o : Int))])
    (fun o => [(2, .box (⟨l.s, l.gd, l.p, nd0, l.t⟩ : Lk).c), (0, .box (l.s.c l.gd))]) 3 (fun o => o ≤ l.p.cells.toNat + 1 - c.toNat) (fun o => l.p.cells.toNat + 1 - c.toNat - o) 0 (by kernel_rfl) (by kernel_rfl) (Nat.zero_le _) ?_ ?_
  · simp [headW, heapW, envW, blkLt, D.ltL, D.lt, look, hget, hset, lg, bestD, nd0]
  intro o ho
  rcases Nat.lt_or_ge o (l.p.cells.toNat + 1 - c.toNat) with hlt | hge
  rotate_left
  · have hc2 : ((o : Int) < l.p.cells - c + 1) = False := by simp; omega
    have : o = l.p.cells.toNat + 1 - c.toNat := by omega
    have hd : bestD (frL l) (dpL l) c.toNat o = deepB l c := by rw [this]; rfl
    rw [hd]
    by_cases q : deepB l c < 0
    · simp only [FS, ↓RE, okR, argEnv, Nat.reduceAdd, Nat.reduceSub, Nat.reduceLT, Nat.reduceLeDiff, Nat.reduceEqDiff, reduceIte, hc2, decide_false, q, decide_true]
    · simp only [FS, ↓RE, okR, argEnv, Nat.reduceAdd, Nat.reduceSub, Nat.reduceLT, Nat.reduceLeDiff, Nat.reduceEqDiff, reduceIte, hc2, decide_false, q]
  have hc2 : ((o : Int) < l.p.cells - c + 1) = True := by simp; omega
  have hwo := wrap_i64 (z := (o : Int) + 1) (by omega) (by omega)
  simp only [FS, ↓RE, okR, argEnv, Nat.reduceAdd, Nat.reduceSub, Nat.reduceLT, Nat.reduceLeDiff, Nat.reduceEqDiff, reduceIte, hc2, decide_true]
  refine loopV (ι := Nat × Int) o42_ok [(17, [(17, false, false, [])])] (fun i => [(2, .int .i64 c), (3, .int .i64 l.t), (4, .ptr 0 0), (10, .ptr 2 0), (11, .int .i64 (bestD (frL l) (dpL l) c.toNat o)), (12, .int .i64 (o : Int)), (13, .int .i64 i.2), (51, .int .i64 (l.p.cells - c + 1)), (52, .int .i64 (o : Int)), (55, .int .i64 c), (56, .int .i64 (i.1 : Int))])
    (fun i => [(2, .box (⟨l.s, l.gd, l.p, nd0, l.t⟩ : Lk).c), (0, .box (l.s.c l.gd))]) 3 (fun i => i.1 ≤ c.toNat ∧ (-200000 ≤ i.2 ∧ i.2 ≤ 1073741824) ∧ leastR (frL l) (dpL l) o c.toNat 0 1073741824 = leastR (frL l) (dpL l) o (c.toNat - i.1) i.1 i.2) (fun i => c.toNat - i.1) (0, 1073741824) (by kernel_rfl) (by kernel_rfl) ⟨Nat.zero_le _, by simp, rfl⟩ ?_ ?_
  · simp [headW, heapW, envW, blkLt, D.ltL, D.lt, look, hget, hset, lg, nd0]
  rintro ⟨j, v⟩ ⟨hj, hv, hl⟩
  dsimp only at hj hv hl ⊢
  have hb0 := hbb o
  rcases Nat.lt_or_ge j c.toNat with hjlt | hjge
  rotate_left
  · have hc3 : ((j : Int) < c) = False := by simp; omega
    rw [show c.toNat - j = 0 by omega] at hl
    simp only [leastR] at hl
    simp only [FS, ↓RE, okR, argEnv, Nat.reduceAdd, Nat.reduceSub, Nat.reduceLT, Nat.reduceLeDiff, Nat.reduceEqDiff, reduceIte, hc3, decide_false, hwo]
    exact ⟨o + 1, by omega, by omega, by simp [headW, heapW, envW, blkLt, D.ltL, D.lt, look, hget, lg, nd0, bestD, hl]⟩
  have hc3 : ((j : Int) < c) = True := by simp; omega
  rw [show c.toNat - j = (c.toNat - (j + 1)) + 1 by omega] at hl
  simp only [leastR] at hl
  have hwj := wrap_i64 (z := (j : Int) + 1) (by omega) (by omega)
  have hwk : IntKind.i64.wrap ((o : Int) + (j : Int)) = ((o + j : Nat) : Int) := by
    rw [show ((o + j : Nat) : Int) = (o : Int) + (j : Int) by omega]; exact wrap_i64 (by omega) (by omega)
  have hk' : 0 ≤ ((o + j : Nat) : Int) ∧ ((o + j : Nat) : Int) ≤ l.p.cells - 1 := by omega
  have hcl := cell_lt hwd.1 hp hk'
  obtain ⟨hdq, _⟩ := dp_ok hs hcl.1 hcl.2
  have hce2 := gL1_eq okCl (fun q => .tup [.int .i64 (cellI q.1.s q.1.p q.2), .int .i64 (pxK q.1.p q.2), .int .i64 (pyK q.1.p q.2)]) ⟨l.s, l.gd, l.p, nd0, l.t⟩ hg (i := ((o + j : Nat) : Int)) (by simp [okCl, bIn, hp]; omega)
  simp only [Lk.c, Se.cr, Wx.c, gaC, nd0] at hce2
  have hfr := free_t ⟨l.s, l.gd, l.p, nd0, l.t⟩ hg h.boats (pxK l.p ((o + j : Nat) : Int)) (pyK l.p ((o + j : Nat) : Int)) 74 [.agg (⟨l.s, l.gd, l.p, nd0, l.t⟩ : Lk).c] [] (passB l) (fun m => by simp [D.ltL, D.lt, lg]) (fun h => by simp [viewL, view, vg]) (fun _ => rfl) (fun _ => rfl) (fun h i => by simp [viewL, view, vg]) fun i hi => passes_t ⟨l.s, l.gd, l.p, nd0, l.t⟩ hg i hi
  have hix := fun hh => En.ix (P := Tryz.prog) Fz.und_22 Fz.size_70 (En.sl_map (E := enS) l.s.depths) hdq hh .i64
  rw [Int.toNat_of_nonneg hcl.1] at hix
  have hix2 : ∀ hh, indexAddrD Tryz.prog hh 22 (.sl (l.s.depths.map enS.d)) (.int .i64 (cellI l.s l.p ((o + j : Nat) : Int))) = some (.ref [.int .i64 (dpAt l.s (cellI l.s l.p ((o + j : Nat) : Int))).1, .int .i64 (dpAt l.s (cellI l.s l.p ((o + j : Nat) : Int))).2] 0) := hix
  have hat := gAtL l.s.w.tide l.t ⟨hwx.tide, ht'⟩
  have hdv := hdb (o + j)
  have hwv : IntKind.i64.wrap ((dpAt l.s (cellI l.s l.p ((o + j : Nat) : Int))).1 + (atL l.s.w.tide l.t).1) = dpL l (o + j) := wrap_i64 (z := dpL l (o + j)) (by omega) (by omega)
  simp only [FS, ↓RE, okR, argEnv, Nat.reduceAdd, Nat.reduceSub, Nat.reduceLT, Nat.reduceLeDiff, Nat.reduceEqDiff, reduceIte, hc3, decide_true, hwk, hce2, ex_tup, vg, lg, nd0]
  refine call_of_pure hfr rfl ?_
  have hfl : freeB (passB l) (pxK l.p ((o + j : Nat) : Int)) (pyK l.p ((o + j : Nat) : Int)) l.s.boats 0 = frL l (o + j) := rfl
  rw [hfl]
  cases q : frL l (o + j)
  · rw [q, if_neg Bool.false_ne_true] at hl
    simp only [FS, ↓RE, okR, argEnv, Nat.reduceAdd, Nat.reduceSub, Nat.reduceLT, Nat.reduceLeDiff, Nat.reduceEqDiff, reduceIte, hwo]
    exact ⟨o + 1, by omega, by omega, by simp [headW, heapW, envW, blkLt, D.ltL, D.lt, look, hget, lg, nd0, bestD, hl]⟩
  · rw [q, if_pos rfl] at hl
    simp only [FS, ↓RE, okR, argEnv, Nat.reduceAdd, Nat.reduceSub, Nat.reduceLT, Nat.reduceLeDiff, Nat.reduceEqDiff, reduceIte, hix2, hat, hwv, hwj]
    exact ⟨(j + 1, min v (dpL l (o + j))), ⟨by simp only; omega, by simp only; omega, hl⟩, by simp only; omega, by simp [headW, heapW, envW, blkLt, D.ltL, D.lt, look, hget, lg, nd0]⟩
end Go.Sx
