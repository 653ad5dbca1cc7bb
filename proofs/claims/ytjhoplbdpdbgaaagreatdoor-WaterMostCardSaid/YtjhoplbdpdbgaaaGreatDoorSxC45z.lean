/- Own work: contracts of functions, used in the proof of a law. -/
import Derived.Test.YtjhoplbdpdbgaaaGreatDoorSxC44z
set_option linter.unusedVariables false
set_option linter.unusedSimpArgs false
namespace Go.Sx
open Go.Proofs
set_option maxRecDepth 10000

def possB (l : Lk) : Bool := decide (0 ≤ offP l) && (calmP l && (flatP l && !blindL l))
theorem sound_north {w : Wx} (h : soundW w = true) : runG w.tide = true ∧ runG w.east = true ∧ runG w.north = true ∧ runG w.wave = true ∧ runG w.swell = true := by
  simpa [soundW] using h
theorem possibly_t (l : Lk) (h : LkOk l) (hs : soundW l.s.w = true) : Pure Tryz.prog 69 [.agg l.c] (.bool (possB l)) := by
  have hg := h.se.gd
  have vg := fun hp => En.view hg hp
  have lg := En.lt hg
  have hv : ∀ a b c d : D, D.ltL 0 [a, b, c, d] = true → viewC 0 4 1 (some (.box [a, b, c, d])) = .sl [[a], [b], [c], [d]] := fun a b c d h => by
    rw [viewC_box _ _ _ _ h rfl]; rfl
  refine pure_of_wc (rs := [.tmp 2]) (m := 15) [] o42_ok (by kernel_rfl) Tryz.func69 rfl (by kernel_rfl) rfl rfl (by kernel_rfl) ?_
  simp only [FS, ↓RE, okR, argEnv, Nat.reduceAdd, Nat.reduceSub, Nat.reduceLT, Nat.reduceLeDiff, Nat.reduceEqDiff, reduceIte, vg, lg, hv]
  refine call_of_pure (all_t [(121, [.agg l.c]), (122, [.agg l.c]), (123, [.agg l.c]), (118, [.agg l.c])]
    (fun f => if f.1 = 121 then decide (0 ≤ offP l) else if f.1 = 122 then calmP l else if f.1 = 123 then flatP l else !blindL l) ?_ ?_ (by simp) ?_) rfl ?_
  · intro f hf m
    simp only [List.mem_cons, List.not_mem_nil, or_false] at hf
    rcases hf with rfl | rfl | rfl | rfl <;> simp [D.ltL, D.lt, lg]
  · intro f hf hh
    simp only [List.mem_cons, List.not_mem_nil, or_false] at hf
    rcases hf with rfl | rfl | rfl | rfl <;> simp [viewL, view, vg]
  · intro f hf
    simp only [List.mem_cons, List.not_mem_nil, or_false] at hf
    rcases hf with rfl | rfl | rfl | rfl
    · exact possiblyDeep_t l h
    · exact calmP_t l h (sound_north hs).2.2.1
    · exact possiblyFlat_t l h
    · exact clear_t l h
  simp only [FS, ↓RE, okR, argEnv, Nat.reduceAdd, Nat.reduceSub, Nat.reduceLT, Nat.reduceLeDiff, Nat.reduceEqDiff, reduceIte]
  simp [possB]
def PossA (l : Lk) : Bool × Int := if askE l = 0 then (possB l, 0) else (false, askE l)
theorem Possible_t (l : Lk) (h : SeL l.s l.gd) : Pure Tryz.prog 23 [.agg (l.s.c l.gd), .agg l.p.c, .agg l.n.c, .int .i64 l.t] (.tup [.bool (PossA l).1, .int .i64 (PossA l).2]) := by
  have vg := fun hp => En.view h.gd hp
  have lg := En.lt h.gd
  have cg := fun hp => En.cur h.gd hp
  refine pure_of_wc (rs := [.tmp 8, .tmp 9]) (m := 24) [] o42_ok (by kernel_rfl) Tryz.func23 rfl (by kernel_rfl) rfl rfl (by kernel_rfl) ?_
  simp only [FS, ↓RE, okR, argEnv, Nat.reduceAdd, Nat.reduceSub, Nat.reduceLT, Nat.reduceLeDiff, Nat.reduceEqDiff, reduceIte, vg, lg, cg]
  refine call_of_pure (asked_t l h) rfl ?_
  rcases askE_cases l with ha | ha | ha
  · obtain ⟨hok, hso⟩ := lk_ok h ha
    simp only [FS, ↓RE, okR, argEnv, Nat.reduceAdd, Nat.reduceSub, Nat.reduceLT, Nat.reduceLeDiff, Nat.reduceEqDiff, reduceIte, ha, vg, lg, bne_self_eq_false]
    refine call_of_pure (possibly_t l hok hso) rfl ?_
    simp only [FS, ↓RE, okR, argEnv, Nat.reduceAdd, Nat.reduceSub, Nat.reduceLT, Nat.reduceLeDiff, Nat.reduceEqDiff, reduceIte]
    simp [PossA, ha]
  · simp only [FS, ↓RE, okR, argEnv, Nat.reduceAdd, Nat.reduceSub, Nat.reduceLT, Nat.reduceLeDiff, Nat.reduceEqDiff, reduceIte, ha, Int.reduceBNe]
    simp [PossA, ha]
  · simp only [FS, ↓RE, okR, argEnv, Nat.reduceAdd, Nat.reduceSub, Nat.reduceLT, Nat.reduceLeDiff, Nat.reduceEqDiff, reduceIte, ha, Int.reduceBNe]
    simp [PossA, ha]

/-! The reference -/
theorem bAt_endP (l : Lk) : bAt (endB false l.s l.t) = sureB l := by
  funext i
  simp only [bAt, endB, sureB, passB, List.getD_eq_getElem?_getD, List.getElem?_map]
  cases l.s.boats[i]? <;> simp [Bool.and_comm]
theorem goodR_endP (l : Lk) (tide : Int) : goodR l.s l.p l.n.draught tide (endD false l.s) (endB false l.s l.t) = goodK l (fun i => (dpAt l.s i).2) tide (sureB l) := by
  funext k
  simp only [goodR, goodK, bAt_endP]
  have : iAt (endD false l.s) (cellI l.s l.p k) = (dpAt l.s (cellI l.s l.p k)).2 := by
    simp only [iAt, endD, dpAt, if_false, Bool.false_eq_true]
    exact getD_map (fun d : Int × Int => d.2) l.s.depths _ (0, 0)
  rw [this]
theorem offP_eq (l : Lk) (h : LkOk l) : offP l = runS (goodK l (fun i => (dpAt l.s i).2) (atL l.s.w.tide l.t).2 (sureB l)) l.p.cells.toNat l.n.run.toNat := by
  have hr := okNd_run h.n
  have := runP_eq (goodK l (fun i => (dpAt l.s i).2) (atL l.s.w.tide l.t).2 (sureB l)) l.p.cells.toNat l.n.run.toNat (by omega) l.p.cells.toNat 0 0 (by omega) (by omega) (by omega) (fun i a b => by omega) (.inl rfl) (fun o ho => by omega)
  rw [Int.toNat_of_nonneg (by omega)] at this
  exact this
theorem rPossible_t (l : Lk) (h : LkOk l) (hso : soundW l.s.w = true) : Pure Tryz.prog 27 [.agg (l.s.c l.gd), .agg l.p.c, .agg l.n.c, .int .i64 l.t] (.bool (possB l)) := by
  have hg := h.se.gd
  have vg := fun hp => En.view hg hp
  have lg := En.lt hg
  have hwx := okWx_gaOk (okSe_wx h.s)
  have a1 := gAtL l.s.w.east l.t ⟨hwx.east, h.t⟩
  have a2 := gAtL l.s.w.north l.t ⟨hwx.north, h.t⟩
  have a3 := gAtL l.s.w.wave l.t ⟨hwx.wave, h.t⟩
  have a4 := gAtL l.s.w.swell l.t ⟨hwx.swell, h.t⟩
  have a5 := gAtL l.s.w.tide l.t ⟨hwx.tide, h.t⟩
  have hwy := (okSp_ce h.p).1
  have hwl := at_le hwx.wave (sound_north hso).2.2.2.1 h.t
  have hcw : 0 ≤ l.n.calm ∧ l.n.calm ≤ l.n.wave := by
    have := h.n
    simp only [okNd, Bool.and_eq_true, bIn, decide_eq_true_eq] at this
    exact this.2.2.2.2.1
  have hflat : flatP l = (!decide ((atL l.s.w.wave l.t).2 < l.n.calm) && (!decide (l.n.wave < (atL l.s.w.wave l.t).1) && !decide (l.n.swell < (atL l.s.w.swell l.t).1))) := by
    simp only [flatP, ← decide_not, ← Bool.decide_and]
    congr 1
    simp only [eq_iff_iff]
    omega
  obtain ⟨⟨b1, b2⟩, b3, b4⟩ := at_bounds hwx.east l.t
  obtain ⟨⟨c1, c2⟩, c3, c4⟩ := at_bounds hwx.north l.t
  have b1 : -100000 ≤ (atL l.s.w.east l.t).1 := b1
  have b2 : (atL l.s.w.east l.t).1 ≤ 100000 := b2
  have b3 : -100000 ≤ (atL l.s.w.east l.t).2 := b3
  have b4 : (atL l.s.w.east l.t).2 ≤ 100000 := b4
  have c1 : -100000 ≤ (atL l.s.w.north l.t).1 := c1
  have c2 : (atL l.s.w.north l.t).1 ≤ 100000 := c2
  have c3 : -100000 ≤ (atL l.s.w.north l.t).2 := c3
  have c4 : (atL l.s.w.north l.t).2 ≤ 100000 := c4
  have ht := (at_bounds hwx.tide l.t).2
  have hrun := rrun_t l.s l.gd h.se h.s l.p h.p l.n.draught l.n.run (atL l.s.w.tide l.t).2 (okNd_run h.n) (endD false l.s) (endB false l.s l.t) ht (by simp [endD]) (endD_ok h.s false) (by simp [endB])
  rw [goodR_endP, ← offP_eq l h] at hrun
  refine pure_of_wc (rs := [.tmp 8]) (m := 108) [(2, [(24, true, false, []), (4, false, false, [])]), (3, [(44, false, false, [])])] o37_ok (by kernel_rfl) Tryz.func27 rfl (by kernel_rfl) rfl rfl (by kernel_rfl) ?_
  simp only [FS, ↓RE, okR, argEnv, Nat.reduceAdd, Nat.reduceSub, Nat.reduceLT, Nat.reduceLeDiff, Nat.reduceEqDiff, reduceIte]
  refine call_of_pure' (ends_t l.s l.gd h.se h.s l.t false) (by simp [D.ltL, D.lt, lg]) (by simp [D.ltL, D.lt]) ?_
  simp only [FS, ↓RE, okR, argEnv, Nat.reduceAdd, Nat.reduceSub, Nat.reduceLT, Nat.reduceLeDiff, Nat.reduceEqDiff, reduceIte, ex_tup, vg, lg, a1, a2, a3, a4]
  refine call_of_pure (rclear_t l.s l.gd h.se h.s l.p h.p l.t) rfl ?_
  have hcl : (!(l.s.glares.any (blindG l.p.way l.t))) = !blindL l := rfl
  rw [hcl]
  cases q0 : blindL l
  rotate_left
  · simp only [FS, ↓RE, okR, argEnv, Nat.reduceAdd, Nat.reduceSub, Nat.reduceLT, Nat.reduceLeDiff, Nat.reduceEqDiff, reduceIte]
    simp [possB, q0]
  cases q1 : decide ((atL l.s.w.wave l.t).2 < l.n.calm)
  rotate_left
  · simp only [FS, ↓RE, okR, argEnv, Nat.reduceAdd, Nat.reduceSub, Nat.reduceLT, Nat.reduceLeDiff, Nat.reduceEqDiff, reduceIte, q1]
    rw [possB, hflat, q1]; simp
  cases q2 : decide (l.n.wave < (atL l.s.w.wave l.t).1)
  rotate_left
  · simp only [FS, ↓RE, okR, argEnv, Nat.reduceAdd, Nat.reduceSub, Nat.reduceLT, Nat.reduceLeDiff, Nat.reduceEqDiff, reduceIte, q1, q2]
    rw [possB, hflat, q2]; simp
  cases q3 : decide (l.n.swell < (atL l.s.w.swell l.t).1)
  rotate_left
  · simp only [FS, ↓RE, okR, argEnv, Nat.reduceAdd, Nat.reduceSub, Nat.reduceLT, Nat.reduceLeDiff, Nat.reduceEqDiff, reduceIte, q1, q2, q3]
    rw [possB, hflat, q3]; simp
  simp only [FS, ↓RE, okR, argEnv, Nat.reduceAdd, Nat.reduceSub, Nat.reduceLT, Nat.reduceLeDiff, Nat.reduceEqDiff, reduceIte, q1, q2, q3, vg, lg, a5]
  refine call_of_pure hrun rfl ?_
  cases q4 : decide (offP l < 0)
  rotate_left
  · have : decide (0 ≤ offP l) = false := by simpa using q4
    simp only [FS, ↓RE, okR, argEnv, Nat.reduceAdd, Nat.reduceSub, Nat.reduceLT, Nat.reduceLeDiff, Nat.reduceEqDiff, reduceIte, q4]
    rw [possB, this]; rfl
  have q5 : decide (0 ≤ offP l) = true := by simpa using q4
  simp only [FS, ↓RE, okR, argEnv, Nat.reduceAdd, Nat.reduceSub, Nat.reduceLT, Nat.reduceLeDiff, Nat.reduceEqDiff, reduceIte, q4]
  have hPB : possB l = calmP l := by rw [possB, hflat, q0, q1, q2, q3, q5]; simp
  rw [hPB]
  generalize hE : atL l.s.w.east l.t = E at *
  generalize hN : atL l.s.w.north l.t = N at *
  obtain ⟨e1, e2⟩ := E
  obtain ⟨n1, n2⟩ := N
  dsimp only at *
  have hP : calmP l = anyI e1 e2 fun e => anyI n1 n2 (calmB l.p.way l.n e) := by simp only [calmP, hE, hN]
  refine loopV (ι := Int) o37_ok [(2, [(24, true, false, []), (4, false, false, [])]), (3, [(44, false, false, [])])] (fun x => [(5, .ptr 1 0), (6, .ptr 2 0), (11, .ptr 3 0), (12, .ptr 4 0), (15, .int .i64 x)])
    (fun i => [(4, .box [.int .i64 n1, .int .i64 n2]), (3, .box [.int .i64 e1, .int .i64 e2]), (2, .box l.n.c), (1, .box l.p.c)]) 7
    (fun x => (-100000 ≤ x ∧ x ≤ 100001) ∧ calmP l = anyI x e2 fun e => anyI n1 n2 (calmB l.p.way l.n e)) (fun x => (e2 + 1 - x).toNat) e1 (by kernel_rfl) (by kernel_rfl) ⟨⟨b1, by omega⟩, hP⟩ ?_ ?_
  · simp [headW, heapW, envW, blkLt, D.ltL, D.lt, look, hget, hset, lg]
  rintro x ⟨hx, hax⟩
  by_cases hxe : x ≤ e2
  rotate_left
  · simp only [FS, ↓RE, okR, argEnv, Nat.reduceAdd, Nat.reduceSub, Nat.reduceLT, Nat.reduceLeDiff, Nat.reduceEqDiff, reduceIte, hxe, decide_false]
    rw [hax, anyI_none (by omega)]
  have hwx1 := wrap_i64 (z := x + 1) (by omega) (by omega)
  rw [anyI_step hxe] at hax
  simp only [FS, ↓RE, okR, argEnv, Nat.reduceAdd, Nat.reduceSub, Nat.reduceLT, Nat.reduceLeDiff, Nat.reduceEqDiff, reduceIte, hxe, decide_true]
  refine loopV (ι := Int) o37_ok [(2, [(24, true, false, []), (4, false, false, [])]), (3, [(44, false, false, [])])] (fun y => [(5, .ptr 1 0), (6, .ptr 2 0), (11, .ptr 3 0), (12, .ptr 4 0), (15, .int .i64 x), (16, .int .i64 y)])
    (fun i => [(4, .box [.int .i64 n1, .int .i64 n2]), (3, .box [.int .i64 e1, .int .i64 e2]), (2, .box l.n.c), (1, .box l.p.c)]) 7
    (fun y => (-100000 ≤ y ∧ y ≤ 100001) ∧ anyI n1 n2 (calmB l.p.way l.n x) = anyI y n2 (calmB l.p.way l.n x)) (fun y => (n2 + 1 - y).toNat) n1 (by kernel_rfl) (by kernel_rfl) ⟨⟨c1, by omega⟩, rfl⟩ ?_ ?_
  · simp [headW, heapW, envW, blkLt, D.ltL, D.lt, look, hget, hset, lg]
  rintro y ⟨hy, hay⟩
  by_cases hyn : y ≤ n2
  rotate_left
  · rw [anyI_none (show n2 < y by omega)] at hay
    rw [hay, Bool.false_or] at hax
    simp only [FS, ↓RE, okR, argEnv, Nat.reduceAdd, Nat.reduceSub, Nat.reduceLT, Nat.reduceLeDiff, Nat.reduceEqDiff, reduceIte, hyn, decide_false, hwx1]
    exact ⟨x + 1, ⟨by omega, hax⟩, by omega, by simp [headW, heapW, envW, blkLt, D.ltL, D.lt, look, hget, lg]⟩
  have hwy1 := wrap_i64 (z := y + 1) (by omega) (by omega)
  rw [anyI_step hyn] at hay
  have hc := gRc_eq l.p l.n hwy (okWind_mid (e := x) (by omega)) (okWind_mid (e := y) (by omega)) h.n
  cases q : calmB l.p.way l.n x y
  · rw [q, Bool.false_or] at hay
    simp only [FS, ↓RE, okR, argEnv, Nat.reduceAdd, Nat.reduceSub, Nat.reduceLT, Nat.reduceLeDiff, Nat.reduceEqDiff, reduceIte, hyn, decide_true, hc, q, hwy1]
    exact ⟨y + 1, ⟨by omega, hay⟩, by omega, by simp [headW, heapW, envW, blkLt, D.ltL, D.lt, look, hget, lg]⟩
  · rw [q, Bool.true_or] at hay
    rw [hay, Bool.true_or] at hax
    simp only [FS, ↓RE, okR, argEnv, Nat.reduceAdd, Nat.reduceSub, Nat.reduceLT, Nat.reduceLeDiff, Nat.reduceEqDiff, reduceIte, hyn, decide_true, hc, q]
    rw [hax]
end Go.Sx
