/- Own work: contracts of functions, used in the proof of a law. -/
import Derived.Test.YtjhoplbdpdbgaaaGreatDoorSxC36z
set_option linter.unusedVariables false
set_option linter.unusedSimpArgs false
namespace Go.Sx
open Go.Proofs
set_option maxRecDepth 10000

def decPn : List D → Option (Sp × Nd × Int × Int)
  | [.agg [.int .i64 x, .int .i64 y, .int .i64 w, .int .i64 c], .agg [.int .i64 a, .int .i64 b, .int .i64 d, .int .i64 e, .int .i64 f, .int .i64 g, .int .i64 h], .int .i64 i, .int .i64 k] => some (⟨x, y, w, c⟩, ⟨a, b, d, e, f, g, h⟩, i, k)
  | _ => none
theorem decPn_inv {ds : List D} {q : Sp × Nd × Int × Int} (h : decPn ds = some q) : ds = [.agg q.1.c, .agg q.2.1.c, .int .i64 q.2.2.1, .int .i64 q.2.2.2] := by
  unfold decPn at h
  split at h
  · cases h; rfl
  · cases h
def okPn (q : Sp × Nd × Int × Int) : Bool := okWay q.1.way && (okWind q.2.2.1 && (okWind q.2.2.2 && okNd q.2.1))
def gRc : List D → Option D := orc decPn okPn fun q => .bool (calmB q.1.way q.2.1 q.2.2.1 q.2.2.2)
theorem gRc_eq (p : Sp) (n : Nd) {e k : Int} (hw : okWay p.way = true) (he : okWind e = true) (hk : okWind k = true) (hn : okNd n = true) : gRc [.agg p.c, .agg n.c, .int .i64 e, .int .i64 k] = some (.bool (calmB p.way n e k)) :=
  orc_eq (a := (p, n, e, k)) rfl (by simp [okPn, hw, he, hk, hn])
abbrev o37 : List (FuncId × (List D → Option D)) := (81, gRc) :: o36
theorem o37_ok : OkO Tryz.prog (mkO o37) := mkO_ok (orc_ok fun ds q hd hk => by
    rw [decPn_inv hd]
    simp only [okPn, Bool.and_eq_true] at hk
    exact rcalm_t _ _ _ _ hk.1 hk.2.1 hk.2.2.1 hk.2.2.2) o36_ok

theorem runS_cases (good : Nat → Bool) (n c : Nat) : runS good n c = -1 ∨ 0 ≤ runS good n c := by
  simp only [runS]; split
  · right; omega
  · left; rfl
theorem offL_eq (l : Lk) (h : LkOk l) : offL l = runS (goodK l (fun i => (dpAt l.s i).1) (atL l.s.w.tide l.t).1 (passB l)) l.p.cells.toNat l.n.run.toNat := by
  have hr := okNd_run h.n
  have := runP_eq (goodK l (fun i => (dpAt l.s i).1) (atL l.s.w.tide l.t).1 (passB l)) l.p.cells.toNat l.n.run.toNat (by omega) l.p.cells.toNat 0 0 (by omega) (by omega) (by omega) (fun i a b => by omega) (.inl rfl) (fun o ho => by omega)
  rw [Int.toNat_of_nonneg (by omega)] at this
  exact this
theorem getD_map {α β : Type} (f : α → β) (l : List α) (i : Nat) (a : α) : (l.map f).getD i (f a) = f (l.getD i a) := by
  simp only [List.getD_eq_getElem?_getD, List.getElem?_map]
  cases l[i]? <;> rfl
theorem bAt_end (l : Lk) : bAt (endB true l.s l.t) = passB l := by
  funext i
  simp only [bAt, endB, passB, List.getD_eq_getElem?_getD, List.getElem?_map]
  cases l.s.boats[i]? <;> simp
theorem goodR_end (l : Lk) (tide : Int) : goodR l.s l.p l.n.draught tide (endD true l.s) (endB true l.s l.t) = goodK l (fun i => (dpAt l.s i).1) tide (passB l) := by
  funext k
  simp only [goodR, goodK, bAt_end]
  have : iAt (endD true l.s) (cellI l.s l.p k) = (dpAt l.s (cellI l.s l.p k)).1 := by
    simp only [iAt, endD, dpAt, if_true]
    exact getD_map (fun d : Int × Int => d.1) l.s.depths _ (0, 0)
  rw [this]
theorem endD_ok {s : Se} (hs : okSe s = true) (w : Bool) : ∀ x ∈ endD w s, -100000 ≤ x ∧ x ≤ 100000 := by
  intro x hx
  simp only [endD, List.mem_map] at hx
  obtain ⟨d, hd, rfl⟩ := hx
  simp only [okSe, Bool.and_eq_true, List.all_eq_true] at hs
  have := hs.2.2.2.2.1 d hd
  simp only [okDp, bSpan, Bool.and_eq_true, decide_eq_true_eq] at this
  split <;> omega

theorem rSure_t (l : Lk) (h : LkOk l) : Pure Tryz.prog 28 [.agg (l.s.c l.gd), .agg l.p.c, .agg l.n.c, .int .i64 l.t] (.int .i64 (if surelyB l then offL l else -1)) := by
  have hg := h.se.gd
  have vg := fun hp => En.view hg hp
  have lg := En.lt hg
  have hwx := okWx_gaOk (okSe_wx h.s)
  have a1 := gAtL l.s.w.east l.t ⟨hwx.east, h.t⟩
  have a2 := gAtL l.s.w.north l.t ⟨hwx.north, h.t⟩
  have a3 := gAtL l.s.w.wave l.t ⟨hwx.wave, h.t⟩
  have a4 := gAtL l.s.w.swell l.t ⟨hwx.swell, h.t⟩
  have a5 := gAtL l.s.w.tide l.t ⟨hwx.tide, h.t⟩
  obtain ⟨e1, e2⟩ := okWind_at hwx.east l.t
  obtain ⟨n1, n2⟩ := okWind_at hwx.north l.t
  have hwy := (okSp_ce h.p).1
  have c1 := gRc_eq l.p l.n hwy e1 n1 h.n
  have c2 := gRc_eq l.p l.n hwy e1 n2 h.n
  have c3 := gRc_eq l.p l.n hwy e2 n1 h.n
  have c4 := gRc_eq l.p l.n hwy e2 n2 h.n
  have hl0 : D.ltL 0 (l.s.c l.gd) = true := by simp [D.ltL, D.lt, lg]
  refine pure_of_wc (rs := [.tmp 8]) (m := 120) [(2, [(24, true, false, []), (4, false, false, [])]), (7, [(16, false, false, [])])] o37_ok (by kernel_rfl) Tryz.func28 rfl (by kernel_rfl) rfl rfl (by kernel_rfl) ?_
  simp only [FS, ↓RE, okR, argEnv, Nat.reduceAdd, Nat.reduceSub, Nat.reduceLT, Nat.reduceLeDiff, Nat.reduceEqDiff, reduceIte]
  refine call_of_pure' (ends_t l.s l.gd h.se h.s l.t true) (by simp [D.ltL, D.lt, lg]) (by simp [D.ltL, D.lt]) ?_
  simp only [FS, ↓RE, okR, argEnv, Nat.reduceAdd, Nat.reduceSub, Nat.reduceLT, Nat.reduceLeDiff, Nat.reduceEqDiff, reduceIte, ex_tup, vg, lg, a1, a2, a3, a4]
  refine call_of_pure (rclear_t l.s l.gd h.se h.s l.p h.p l.t) rfl ?_
  have hcl : (!(l.s.glares.any (blindG l.p.way l.t))) = !blindL l := rfl
  rw [hcl]
  have ht := (at_bounds hwx.tide l.t).1
  have hrun := rrun_t l.s l.gd h.se h.s l.p h.p l.n.draught l.n.run (atL l.s.w.tide l.t).1 (okNd_run h.n) (endD true l.s) (endB true l.s l.t) ht (by simp [endD]) (endD_ok h.s true) (by simp [endB])
  rw [goodR_end, ← offL_eq l h] at hrun
  have hoff : 0 ≤ offL l ∨ offL l = -1 := by rw [offL_eq l h]; exact (runS_cases _ _ _).symm
  have f1 : decide ((atL l.s.w.wave l.t).1 < l.n.calm) = !decide (l.n.calm ≤ (atL l.s.w.wave l.t).1) := by rw [← decide_not]; congr 1; simp
  have f2 : decide (l.n.wave < (atL l.s.w.wave l.t).2) = !decide ((atL l.s.w.wave l.t).2 ≤ l.n.wave) := by rw [← decide_not]; congr 1; simp
  have f3 : decide (l.n.swell < (atL l.s.w.swell l.t).2) = !decide ((atL l.s.w.swell l.t).2 ≤ l.n.swell) := by rw [← decide_not]; congr 1; simp
  cases q0 : blindL l
  rotate_left
  · simp only [FS, ↓RE, okR, argEnv, Nat.reduceAdd, Nat.reduceSub, Nat.reduceLT, Nat.reduceLeDiff, Nat.reduceEqDiff, reduceIte]
    simp [surelyB, q0]
  cases q1 : decide (l.n.calm ≤ (atL l.s.w.wave l.t).1)
  · simp only [FS, ↓RE, okR, argEnv, Nat.reduceAdd, Nat.reduceSub, Nat.reduceLT, Nat.reduceLeDiff, Nat.reduceEqDiff, reduceIte, f1, q1]
    simp [surelyB, flatS, q1]
  cases q2 : decide ((atL l.s.w.wave l.t).2 ≤ l.n.wave)
  · simp only [FS, ↓RE, okR, argEnv, Nat.reduceAdd, Nat.reduceSub, Nat.reduceLT, Nat.reduceLeDiff, Nat.reduceEqDiff, reduceIte, f1, q1, f2, q2]
    simp [surelyB, flatS, q2]
  cases q3 : decide ((atL l.s.w.swell l.t).2 ≤ l.n.swell)
  · simp only [FS, ↓RE, okR, argEnv, Nat.reduceAdd, Nat.reduceSub, Nat.reduceLT, Nat.reduceLeDiff, Nat.reduceEqDiff, reduceIte, f1, q1, f2, q2, f3, q3]
    simp [surelyB, flatS, q3]
  cases r1 : calmB l.p.way l.n (atL l.s.w.east l.t).1 (atL l.s.w.north l.t).1
  · simp only [FS, ↓RE, okR, argEnv, Nat.reduceAdd, Nat.reduceSub, Nat.reduceLT, Nat.reduceLeDiff, Nat.reduceEqDiff, reduceIte, f1, q1, f2, q2, f3, q3, c1, r1]
    simp [surelyB, calmS, r1]
  cases r2 : calmB l.p.way l.n (atL l.s.w.east l.t).1 (atL l.s.w.north l.t).2
  · simp only [FS, ↓RE, okR, argEnv, Nat.reduceAdd, Nat.reduceSub, Nat.reduceLT, Nat.reduceLeDiff, Nat.reduceEqDiff, reduceIte, f1, q1, f2, q2, f3, q3, c1, r1, c2, r2]
    simp [surelyB, calmS, r2]
  cases r3 : calmB l.p.way l.n (atL l.s.w.east l.t).2 (atL l.s.w.north l.t).1
  · simp only [FS, ↓RE, okR, argEnv, Nat.reduceAdd, Nat.reduceSub, Nat.reduceLT, Nat.reduceLeDiff, Nat.reduceEqDiff, reduceIte, f1, q1, f2, q2, f3, q3, c1, r1, c2, r2, c3, r3]
    simp [surelyB, calmS, r3]
  cases r4 : calmB l.p.way l.n (atL l.s.w.east l.t).2 (atL l.s.w.north l.t).2
  · simp only [FS, ↓RE, okR, argEnv, Nat.reduceAdd, Nat.reduceSub, Nat.reduceLT, Nat.reduceLeDiff, Nat.reduceEqDiff, reduceIte, f1, q1, f2, q2, f3, q3, c1, r1, c2, r2, c3, r3, c4, r4]
    simp [surelyB, calmS, r4]
  simp only [FS, ↓RE, okR, argEnv, Nat.reduceAdd, Nat.reduceSub, Nat.reduceLT, Nat.reduceLeDiff, Nat.reduceEqDiff, reduceIte, f1, q1, f2, q2, f3, q3, c1, r1, c2, r2, c3, r3, c4, r4, a5, vg, lg]
  refine call_of_pure hrun rfl ?_
  simp only [FS, ↓RE, okR, argEnv, Nat.reduceAdd, Nat.reduceSub, Nat.reduceLT, Nat.reduceLeDiff, Nat.reduceEqDiff, reduceIte]
  simp only [surelyB, calmS, flatS, q0, q1, q2, q3, r1, r2, r3, r4, Bool.and_self, Bool.not_false, Bool.and_true]
  rcases hoff with h0 | h0
  · simp [h0]
  · simp [h0]
end Go.Sx
