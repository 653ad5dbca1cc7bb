/- Own work: contracts of functions, used in the proof of a law. -/
import Derived.Test.YtjhoplbdpdbgaaaGreatDoorSxC31z
set_option linter.unusedVariables false
set_option linter.unusedSimpArgs false
namespace Go.Sx
open Go.Proofs
set_option maxRecDepth 10000

/-- A look that is as defined. -/
structure LkOk (l : Lk) : Prop where
  se : SeL l.s l.gd
  s : okSe l.s = true
  p : okSp l.s l.p = true
  n : okNd l.n = true
  t : 0 ≤ l.t ∧ l.t ≤ 1440
theorem okNd_run {n : Nd} (h : okNd n = true) : 1 ≤ n.run ∧ n.run ≤ 12 := by
  simp only [okNd, Bool.and_eq_true, bIn, decide_eq_true_eq] at h
  exact h.2.1
theorem gAtL (g : Ga) (t : Int) (h : gaOk g = true ∧ 0 ≤ t ∧ t ≤ 1440) : gAt [.agg [.int .i64 g.rate, .int .i64 g.least, .int .i64 g.most, .sl (g.rs.map Rd.d)], .int .i64 t] = some (.agg [.int .i64 (atL g t).1, .int .i64 (atL g t).2]) := gAt_eq (a := g.rate) (b := g.least) (c := g.most) (rs := g.rs) (t := t) h
def offL (l : Lk) : Int := runP (goodK l (fun i => (dpAt l.s i).1) (atL l.s.w.tide l.t).1 (passB l)) l.n.run l.p.cells.toNat 0 0

theorem offset_t (l : Lk) (h : LkOk l) : Pure Tryz.prog 68 [.agg l.c] (.int .i64 (offL l)) := by
  have hg := h.se.gd
  have vg := fun hp => En.view hg hp
  have lg := En.lt hg
  have hwx := okWx_gaOk (okSe_wx h.s)
  have hat := gAtL l.s.w.tide l.t ⟨hwx.tide, h.t⟩
  have htb := (at_bounds hwx.tide l.t).1
  refine pure_of_wc (rs := [.tmp 2]) (m := 18) [] o29_ok (by kernel_rfl) Tryz.func68 rfl (by kernel_rfl) rfl rfl (by kernel_rfl) ?_
  simp only [FS, ↓RE, okR, argEnv, Nat.reduceAdd, Nat.reduceSub, Nat.reduceLT, Nat.reduceLeDiff, Nat.reduceEqDiff, reduceIte, vg, lg, hat]
  refine call_of_pure (run_t l hg l.n.run (okNd_run h.n) (okSp_ce h.p).2 120 [] [.ref l.c 0, .ref [.int .i64 (atL l.s.w.tide l.t).1] 0] (goodK l (fun i => (dpAt l.s i).1) (atL l.s.w.tide l.t).1 (passB l)) (fun _ => rfl) (fun _ => rfl) (fun _ _ => rfl) fun i hi => off1_t l hg h.s h.p h.se.boats _ htb i hi) rfl ?_
  simp only [FS, ↓RE, okR, argEnv, Nat.reduceAdd, Nat.reduceSub, Nat.reduceLT, Nat.reduceLeDiff, Nat.reduceEqDiff, reduceIte]
  rfl

/-! Glares -/
def blindG (w t : Int) (g : Gl) : Bool := (decide ((g.way - w + 8).tmod 8 ≤ 1) || ((g.way - w + 8).tmod 8 == 7)) && bIn t g.t.1 g.t.2
theorem blind1_t (l : Lk) (hg : enGl.sl l.gd = some l.s.glares) (hw : okWay l.p.way = true) (g : Gl) (hgw : okWay g.way = true) : Pure Tryz.prog 132 [.agg (enGl.d g), .ref l.c 0] (.bool (blindG l.p.way l.t g)) := by
  have vg := fun hp => En.view hg hp
  have lg := En.lt hg
  obtain ⟨gw, ⟨t1, t2⟩⟩ := g
  simp only [okWay, Bool.and_eq_true, decide_eq_true_eq] at hw hgw
  have h1 := wrap_i64 (z := gw - l.p.way) (by omega) (by omega)
  have h2 := wrap_i64 (z := gw - l.p.way + 8) (by omega) (by omega)
  have hr := a_rem' (k := .i64) (x := gw - l.p.way + 8) (y := 8) (by omega)
  simp only [enGl]
  refine pure_of_wc (rs := [.tmp 3]) (m := 30) [] o29_ok (by kernel_rfl) Tryz.func132 rfl (by kernel_rfl) rfl rfl (by kernel_rfl) ?_
  cases q1 : decide ((gw - l.p.way + 8).tmod 8 ≤ 1) <;> cases q2 : ((gw - l.p.way + 8).tmod 8 == 7) <;>
  · simp only [FS, ↓RE, okR, argEnv, Nat.reduceAdd, Nat.reduceSub, Nat.reduceLT, Nat.reduceLeDiff, Nat.reduceEqDiff, reduceIte, h1, h2, hr, gIn_eq, q1, q2]
    simp [blindG, q1, q2]
def blindL (l : Lk) : Bool := l.s.glares.any (blindG l.p.way l.t)
theorem okSe_gl {s : Se} (h : okSe s = true) : ∀ g ∈ s.glares, okWay g.way = true ∧ okTimes g.t = true := by
  simp only [okSe, Bool.and_eq_true, List.all_eq_true] at h
  intro g hg
  have := h.2.2.2.2.2.2 g hg
  simpa [okGl] using this
theorem blind_t (l : Lk) (h : LkOk l) : Pure Tryz.prog 87 [.agg l.c] (.bool (blindL l)) := by
  have hg := h.se.gd
  have vg := fun hp => En.view hg hp
  have lg := En.lt hg
  refine pure_of_wc (rs := [.tmp 2]) (m := 8) [] o29_ok (by kernel_rfl) Tryz.func87 rfl (by kernel_rfl) rfl rfl (by kernel_rfl) ?_
  simp only [FS, ↓RE, okR, argEnv, Nat.reduceAdd, Nat.reduceSub, Nat.reduceLT, Nat.reduceLeDiff, Nat.reduceEqDiff, reduceIte, vg, lg]
  refine call_of_pure (gl_has l.s.glares l.gd hg 132 [.ref l.c 0] (blindG l.p.way l.t) h.se.glares (fun _ => rfl) (fun _ => rfl) fun g hgm => blind1_t l hg (okSp_ce h.p).1 g (okSe_gl h.s g hgm).1) rfl ?_
  simp only [FS, ↓RE, okR, argEnv, Nat.reduceAdd, Nat.reduceSub, Nat.reduceLT, Nat.reduceLeDiff, Nat.reduceEqDiff, reduceIte]
  rfl
theorem clear_t (l : Lk) (h : LkOk l) : Pure Tryz.prog 118 [.agg l.c] (.bool (!blindL l)) := by
  have hg := h.se.gd
  have vg := fun hp => En.view hg hp
  have lg := En.lt hg
  refine pure_of_wc (rs := [.tmp 2]) (m := 6) [] o29_ok (by kernel_rfl) Tryz.func118 rfl (by kernel_rfl) rfl rfl (by kernel_rfl) ?_
  simp only [FS, ↓RE, okR, argEnv, Nat.reduceAdd, Nat.reduceSub, Nat.reduceLT, Nat.reduceLeDiff, Nat.reduceEqDiff, reduceIte, vg, lg]
  refine call_of_pure (blind_t l h) rfl ?_
  simp only [FS, ↓RE, okR, argEnv, Nat.reduceAdd, Nat.reduceSub, Nat.reduceLT, Nat.reduceLeDiff, Nat.reduceEqDiff, reduceIte]
theorem surelyDeep_t (l : Lk) (h : LkOk l) : Pure Tryz.prog 115 [.agg l.c] (.bool (decide (0 ≤ offL l))) := by
  have hg := h.se.gd
  have vg := fun hp => En.view hg hp
  have lg := En.lt hg
  refine pure_of_wc (rs := [.tmp 2]) (m := 6) [] o29_ok (by kernel_rfl) Tryz.func115 rfl (by kernel_rfl) rfl rfl (by kernel_rfl) ?_
  simp only [FS, ↓RE, okR, argEnv, Nat.reduceAdd, Nat.reduceSub, Nat.reduceLT, Nat.reduceLeDiff, Nat.reduceEqDiff, reduceIte, vg, lg]
  refine call_of_pure (offset_t l h) rfl ?_
  simp only [FS, ↓RE, okR, argEnv, Nat.reduceAdd, Nat.reduceSub, Nat.reduceLT, Nat.reduceLeDiff, Nat.reduceEqDiff, reduceIte]
def flatS (l : Lk) : Bool := decide (l.n.calm ≤ (atL l.s.w.wave l.t).1) && (decide ((atL l.s.w.wave l.t).2 ≤ l.n.wave) && decide ((atL l.s.w.swell l.t).2 ≤ l.n.swell))
theorem surelyFlat_t (l : Lk) (h : LkOk l) : Pure Tryz.prog 117 [.agg l.c] (.bool (flatS l)) := by
  have hg := h.se.gd
  have vg := fun hp => En.view hg hp
  have lg := En.lt hg
  have hwx := okWx_gaOk (okSe_wx h.s)
  have h1 := gAtL l.s.w.wave l.t ⟨hwx.wave, h.t⟩
  have h2 := gAtL l.s.w.swell l.t ⟨hwx.swell, h.t⟩
  refine pure_of_wc (rs := [.tmp 2]) (m := 39) [(2, [(29, false, false, [])])] o29_ok (by kernel_rfl) Tryz.func117 rfl (by kernel_rfl) rfl rfl (by kernel_rfl) ?_
  cases q1 : decide (l.n.calm ≤ (atL l.s.w.wave l.t).1) <;> cases q2 : decide ((atL l.s.w.wave l.t).2 ≤ l.n.wave) <;>
  · simp only [FS, ↓RE, okR, argEnv, Nat.reduceAdd, Nat.reduceSub, Nat.reduceLT, Nat.reduceLeDiff, Nat.reduceEqDiff, reduceIte, vg, lg, h1, h2, q1, q2]
    simp [flatS, q1, q2]
def flatP (l : Lk) : Bool := decide (max (atL l.s.w.wave l.t).1 l.n.calm ≤ min (atL l.s.w.wave l.t).2 l.n.wave) && decide ((atL l.s.w.swell l.t).1 ≤ l.n.swell)
theorem possiblyFlat_t (l : Lk) (h : LkOk l) : Pure Tryz.prog 123 [.agg l.c] (.bool (flatP l)) := by
  have hg := h.se.gd
  have vg := fun hp => En.view hg hp
  have lg := En.lt hg
  have hwx := okWx_gaOk (okSe_wx h.s)
  have h1 := gAtL l.s.w.wave l.t ⟨hwx.wave, h.t⟩
  have h2 := gAtL l.s.w.swell l.t ⟨hwx.swell, h.t⟩
  refine pure_of_wc (rs := [.tmp 2]) (m := 38) [(2, [(28, false, false, [])])] o29_ok (by kernel_rfl) Tryz.func123 rfl (by kernel_rfl) rfl rfl (by kernel_rfl) ?_
  cases q1 : decide (max (atL l.s.w.wave l.t).1 l.n.calm ≤ min (atL l.s.w.wave l.t).2 l.n.wave) <;>
  · simp only [FS, ↓RE, okR, argEnv, Nat.reduceAdd, Nat.reduceSub, Nat.reduceLT, Nat.reduceLeDiff, Nat.reduceEqDiff, reduceIte, vg, lg, h1, h2, q1]
    simp [flatP, q1]
end Go.Sx
