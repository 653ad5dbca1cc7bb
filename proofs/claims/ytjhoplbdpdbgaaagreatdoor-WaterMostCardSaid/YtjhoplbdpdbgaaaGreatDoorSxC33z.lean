/- Own work: contracts of functions, used in the proof of a law. -/
import Derived.Test.YtjhoplbdpdbgaaaGreatDoorSxC32z
set_option linter.unusedVariables false
set_option linter.unusedSimpArgs false
namespace Go.Sx
open Go.Proofs
set_option maxRecDepth 10000

theorem take_one {α : Type} (a : α) (l : List α) : (a :: l).take 1 = [a] := by cases l <;> rfl
def calmS (l : Lk) : Bool := (calmB l.p.way l.n (atL l.s.w.east l.t).1 (atL l.s.w.north l.t).1 && calmB l.p.way l.n (atL l.s.w.east l.t).1 (atL l.s.w.north l.t).2) && (calmB l.p.way l.n (atL l.s.w.east l.t).2 (atL l.s.w.north l.t).1 && calmB l.p.way l.n (atL l.s.w.east l.t).2 (atL l.s.w.north l.t).2)
theorem okWind_at {g : Ga} (h : gaOk g = true) (t : Int) : okWind (atL g t).1 = true ∧ okWind (atL g t).2 = true := by
  obtain ⟨⟨a1, a2⟩, a3, a4⟩ := at_bounds h t
  have b1 : -100000 ≤ (atL g t).1 := a1
  have b2 : (atL g t).1 ≤ 100000 := a2
  have b3 : -100000 ≤ (atL g t).2 := a3
  have b4 : (atL g t).2 ≤ 100000 := a4
  simp only [okWind, bIn, Bool.and_eq_true, decide_eq_true_eq]
  exact ⟨⟨by omega, by omega⟩, by omega, by omega⟩
theorem surelyCalm_t (l : Lk) (h : LkOk l) : Pure Tryz.prog 116 [.agg l.c] (.bool (calmS l)) := by
  have hg := h.se.gd
  have vg := fun hp => En.view hg hp
  have lg := En.lt hg
  have hwx := okWx_gaOk (okSe_wx h.s)
  have h1 := gAtL l.s.w.east l.t ⟨hwx.east, h.t⟩
  have h2 := gAtL l.s.w.north l.t ⟨hwx.north, h.t⟩
  obtain ⟨e1, e2⟩ := okWind_at hwx.east l.t
  obtain ⟨n1, n2⟩ := okWind_at hwx.north l.t
  refine pure_of_wc (rs := [.tmp 2]) (m := 44) [(1, [(16, true, false, []), (2, false, false, [])])] o29_ok (by kernel_rfl) Tryz.func116 rfl (by kernel_rfl) rfl rfl (by kernel_rfl) ?_
  simp only [FS, ↓RE, okR, argEnv, Nat.reduceAdd, Nat.reduceSub, Nat.reduceLT, Nat.reduceLeDiff, Nat.reduceEqDiff, reduceIte, vg, lg, h1, h2]
  refine loopV (ι := Nat) o29_ok [(1, [(16, true, false, []), (2, false, false, [])])] (fun i => [(1, .ptr 0 0), (4, .ptr 2 0), (25, .agg [.int .i64 (atL l.s.w.east l.t).1, .int .i64 (atL l.s.w.east l.t).2]), (26, .int .i64 (i : Int))])
    (fun i => [(2, .box [.int .i64 (atL l.s.w.north l.t).1, .int .i64 (atL l.s.w.north l.t).2]), (0, .box l.c)]) 3
    (fun i => i ≤ 2 ∧ (([(atL l.s.w.east l.t).1, (atL l.s.w.east l.t).2] : List Int).take i).all (fun x => calmB l.p.way l.n x (atL l.s.w.north l.t).1 && calmB l.p.way l.n x (atL l.s.w.north l.t).2) = true) (fun i => 2 - i) 0 (by kernel_rfl) (by kernel_rfl) ⟨Nat.zero_le _, rfl⟩ ?_ ?_
  · simp [headW, heapW, envW, blkLt, D.ltL, D.lt, look, hget, lg]
  rintro i ⟨hi, hok⟩
  have hS : calmS l = ([(atL l.s.w.east l.t).1, (atL l.s.w.east l.t).2] : List Int).all (fun x => calmB l.p.way l.n x (atL l.s.w.north l.t).1 && calmB l.p.way l.n x (atL l.s.w.north l.t).2) := by simp [calmS]
  rcases Nat.lt_or_ge i 2 with hlt | hge
  · obtain ⟨x, hx, hwx2, hd⟩ : ∃ x : Int, okWind x = true ∧ ([(atL l.s.w.east l.t).1, (atL l.s.w.east l.t).2] : List Int)[i]? = some x ∧ partD Tryz.prog 3 [.int .i64 (atL l.s.w.east l.t).1, .int .i64 (atL l.s.w.east l.t).2] (i * 1) = some (.int .i64 x) := by
      have h5 : i = 0 ∨ i = 1 := by omega
      rcases h5 with rfl | rfl
      · exact ⟨_, e1, rfl, rfl⟩
      · exact ⟨_, e2, rfl, rfl⟩
    have hix := ix_arr (P := Tryz.prog) Fz.und_181 Fz.size_3 hlt [.int .i64 (atL l.s.w.east l.t).1, .int .i64 (atL l.s.w.east l.t).2] .i64
    rw [hd] at hix
    have hc : ((i : Int) < 2) = True := by simp; omega
    have hwi := wrap_i64 (z := (i : Int) + 1) (by omega) (by omega)
    have c1 := gL2_eq (fun q => okWd q && okNd q.1.n) (fun q => .bool (calmB q.1.p.way q.1.n q.2.1 q.2.2)) l hg (i := x) (j := (atL l.s.w.north l.t).1) (by simp [okWd, (okSp_ce h.p).1, hx, n1, h.n])
    have c2 := gL2_eq (fun q => okWd q && okNd q.1.n) (fun q => .bool (calmB q.1.p.way q.1.n q.2.1 q.2.2)) l hg (i := x) (j := (atL l.s.w.north l.t).2) (by simp [okWd, (okSp_ce h.p).1, hx, n2, h.n])
    simp only [Lk.c, Se.cr, Wx.c, gaC] at c1 c2
    cases q1 : calmB l.p.way l.n x (atL l.s.w.north l.t).1
    · simp only [FS, ↓RE, okR, argEnv, Nat.reduceAdd, Nat.reduceSub, Nat.reduceLT, Nat.reduceLeDiff, Nat.reduceEqDiff, reduceIte, vg, lg, hc, decide_true, hix, c1, q1]
      rw [hS, all_not hwx2 (by rw [q1]; rfl)]
    cases q2 : calmB l.p.way l.n x (atL l.s.w.north l.t).2
    · simp only [FS, ↓RE, okR, argEnv, Nat.reduceAdd, Nat.reduceSub, Nat.reduceLT, Nat.reduceLeDiff, Nat.reduceEqDiff, reduceIte, vg, lg, hc, decide_true, hix, c1, q1, c2, q2]
      rw [hS, all_not hwx2 (by rw [q1, q2]; rfl)]
    · simp only [FS, ↓RE, okR, argEnv, Nat.reduceAdd, Nat.reduceSub, Nat.reduceLT, Nat.reduceLeDiff, Nat.reduceEqDiff, reduceIte, vg, lg, hc, decide_true, hix, c1, q1, c2, q2, hwi]
      exact ⟨i + 1, ⟨by omega, all_take hwx2 hok (by rw [q1, q2]; rfl)⟩, by omega, by simp [headW, heapW, envW, blkLt, D.ltL, D.lt, look, hget, lg]⟩
  have : i = 2 := by omega
  subst this
  simp only [FS, ↓RE, okR, argEnv, Nat.reduceAdd, Nat.reduceSub, Nat.reduceLT, Nat.reduceLeDiff, Nat.reduceEqDiff, reduceIte, Int.cast_ofNat_Int, Int.lt_irrefl, decide_false]
  rw [hS]
  rw [show (([(atL l.s.w.east l.t).1, (atL l.s.w.east l.t).2] : List Int).take 2) = [(atL l.s.w.east l.t).1, (atL l.s.w.east l.t).2] from rfl] at hok
  rw [hok]

/-! All of some conditions -/
theorem all_t (fs : List (FuncId × List D)) (bs : FuncId × List D → Bool) (hfl : ∀ f ∈ fs, ∀ m, D.ltL m f.2 = true) (hva : ∀ f ∈ fs, ∀ h, viewL h f.2 = f.2) (hn : fs.length ≤ 100) (hq : ∀ f ∈ fs, Pure Tryz.prog f.1 f.2 (.bool (bs f))) :
    Pure Tryz.prog 119 [.sl (fs.map fun f => [.fn (.func f.1) f.2 []])] (.bool (fs.all bs)) := by
  refine pure_of_wc (rs := [.tmp 2]) (m := 15) [] oNone_ok (by kernel_rfl) Tryz.func119 rfl (by kernel_rfl) rfl rfl (by kernel_rfl) ?_
  simp only [FS, ↓RE, okR, argEnv, Nat.reduceAdd, Nat.reduceSub, Nat.reduceLT, Nat.reduceLeDiff, Nat.reduceEqDiff, reduceIte, List.length_map]
  refine loopV (ι := Nat) oNone_ok [] (fun i => [(5, .sl (fs.map fun f => [.fn (.func f.1) f.2 []])), (6, .int .i64 (fs.length : Int)), (7, .int .i64 (i : Int))])
    (fun i => []) 0 (fun i => i ≤ fs.length ∧ (fs.take i).all bs = true) (fun i => fs.length - i) 0 (by kernel_rfl) (by kernel_rfl) ⟨Nat.zero_le _, by simp⟩ ?_ ?_
  · simp [headW, heapW, envW, blkLt, D.ltL, D.lt, look, hget]
  rintro i ⟨hi, hok⟩
  rcases Nat.lt_or_ge i fs.length with hlt | hge
  · have hc : ((i : Int) < (fs.length : Int)) = True := by simp [hlt]
    obtain ⟨f, hf⟩ : ∃ f, fs[i]? = some f := ⟨fs[i], by simp [hlt]⟩
    have hfm := List.mem_of_getElem? hf
    have hix : ∀ hp, indexAddrD Tryz.prog hp 165 (.sl (fs.map fun f => [.fn (.func f.1) f.2 []])) (.int .i64 (i : Int)) = some (.ref [.fn (.func f.1) f.2 []] 0) := fun hp => ix_sl Fz.und_165 Fz.size_38 (c := [.fn (.func f.1) f.2 []]) (by simp [hf]) rfl hp .i64
    have hwi := wrap_i64 (z := (i : Int) + 1) (by omega) (by omega)
    simp only [FS, ↓RE, okR, argEnv, Nat.reduceAdd, Nat.reduceSub, Nat.reduceLT, Nat.reduceLeDiff, Nat.reduceEqDiff, reduceIte, hc, decide_true, hix]
    refine call_of_pure (by rw [List.append_nil, List.append_nil, hva f hfm]; exact hq f hfm) rfl ?_
    cases hb : bs f
    · simp only [FS, ↓RE, okR, argEnv, Nat.reduceAdd, Nat.reduceSub, Nat.reduceLT, Nat.reduceLeDiff, Nat.reduceEqDiff, reduceIte]
      rw [all_not hf hb]
    · simp only [FS, ↓RE, okR, argEnv, Nat.reduceAdd, Nat.reduceSub, Nat.reduceLT, Nat.reduceLeDiff, Nat.reduceEqDiff, reduceIte, hwi]
      exact ⟨i + 1, ⟨by omega, all_take hf hok hb⟩, by omega, by simp [headW, heapW, envW, blkLt, D.ltL, D.lt, look, hget]⟩
  have : i = fs.length := by omega
  subst this
  rw [List.take_length] at hok
  simp only [FS, ↓RE, okR, argEnv, Nat.reduceAdd, Nat.reduceSub, Nat.reduceLT, Nat.reduceLeDiff, Nat.reduceEqDiff, reduceIte, Int.lt_irrefl, decide_false]
  rw [hok]
end Go.Sx
