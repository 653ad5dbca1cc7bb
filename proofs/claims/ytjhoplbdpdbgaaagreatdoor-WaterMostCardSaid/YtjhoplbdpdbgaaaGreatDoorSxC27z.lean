/- Own work: contracts of functions, used in the proof of a law. -/
import Derived.Test.YtjhoplbdpdbgaaaGreatDoorSxC26z
set_option linter.unusedVariables false
set_option linter.unusedSimpArgs false
namespace Go.Sx
open Go.Proofs
set_option maxRecDepth 10000

theorem okNd_ct {n : Nd} (hnd : okNd n = true) : (0 ≤ n.cross ∧ n.cross ≤ 300) ∧ (0 ≤ n.tail ∧ n.tail ≤ 300) := by
  simp only [okNd, Bool.and_eq_true, bIn, decide_eq_true_eq] at hnd
  exact ⟨hnd.2.2.1, hnd.2.2.2.1⟩
theorem rcalm_t (p : Sp) (n : Nd) (e k : Int) (hw : okWay p.way = true) (he : okWind e = true) (hk : okWind k = true) (hnd : okNd n = true) :
    Pure Tryz.prog 81 [.agg p.c, .agg n.c, .int .i64 e, .int .i64 k] (.bool (calmB p.way n e k)) := by
  have m1 := mulw _ e hw he
  have m2 := mulw _ k hw hk
  obtain ⟨d1, d2, _⟩ := dx_cases p.way hw
  have hl := len_cases p.way hw
  have hcr := okNd_ct hnd
  have b1 := sqb (a := acrW p.way e k) (M := 400000) (by simp only [acrW]; omega) (by omega)
  have b2 := sqb (a := aloW p.way e k) (M := 400000) (by simp only [aloW]; omega) (by omega)
  have k1 := lenb hw hcr.1
  have k2 := lenb hw hcr.2
  have w1 := wrap_i64 (z := dxW p.way * dxW p.way) (by rcases d1 with h | h | h <;> rw [h] <;> omega) (by rcases d1 with h | h | h <;> rw [h] <;> omega)
  have w2 := wrap_i64 (z := dyW p.way * dyW p.way) (by rcases d2 with h | h | h <;> rw [h] <;> omega) (by rcases d2 with h | h | h <;> rw [h] <;> omega)
  have w3 : IntKind.i64.wrap (dxW p.way * dxW p.way + dyW p.way * dyW p.way) = lenW p.way := wrap_i64 (z := lenW p.way) (by omega) (by omega)
  have w4 := wrap_i64 (z := e * dyW p.way) (by omega) (by omega)
  have w5 := wrap_i64 (z := k * dxW p.way) (by omega) (by omega)
  have w6 : IntKind.i64.wrap (e * dyW p.way - k * dxW p.way) = acrW p.way e k := wrap_i64 (z := acrW p.way e k) (by simp only [acrW]; omega) (by simp only [acrW]; omega)
  have w7 := wrap_i64 (z := e * dxW p.way) (by omega) (by omega)
  have w8 := wrap_i64 (z := k * dyW p.way) (by omega) (by omega)
  have w9 : IntKind.i64.wrap (e * dxW p.way + k * dyW p.way) = aloW p.way e k := wrap_i64 (z := aloW p.way e k) (by simp only [aloW]; omega) (by simp only [aloW]; omega)
  have h1 := wrap_i64 (z := acrW p.way e k * acrW p.way e k) (by omega) (by omega)
  have h2 := wrap_i64 (z := aloW p.way e k * aloW p.way e k) (by omega) (by omega)
  have h3 := wrap_i64 (z := lenW p.way * n.cross) (by omega) (by omega)
  have h4 := wrap_i64 (z := lenW p.way * n.cross * n.cross) (by omega) (by omega)
  have h5 := wrap_i64 (z := lenW p.way * n.tail) (by omega) (by omega)
  have h6 := wrap_i64 (z := lenW p.way * n.tail * n.tail) (by omega) (by omega)
  refine pure_of_wc (rs := [.tmp 8]) (m := 69) [] o26_ok (by kernel_rfl) Tryz.func81 rfl (by kernel_rfl) rfl rfl (by kernel_rfl) ?_
  cases q1 : decide (acrW p.way e k * acrW p.way e k ≤ lenW p.way * n.cross * n.cross)
  · simp only [FS, ↓RE, okR, argEnv, Nat.reduceAdd, Nat.reduceSub, Nat.reduceLT, Nat.reduceLeDiff, Nat.reduceEqDiff, reduceIte, gSt_eq hw, ex_tup, w1, w2, w3, w4, w5, w6, w7, w8, w9, h1, h2, h3, h4, h5, h6, q1]
    simp [calmB, q1]
  cases q2 : decide (aloW p.way e k ≤ 0)
  · simp only [FS, ↓RE, okR, argEnv, Nat.reduceAdd, Nat.reduceSub, Nat.reduceLT, Nat.reduceLeDiff, Nat.reduceEqDiff, reduceIte, gSt_eq hw, ex_tup, w1, w2, w3, w4, w5, w6, w7, w8, w9, h1, h2, h3, h4, h5, h6, q1, q2]
    simp [calmB, q1, q2]
  · simp only [FS, ↓RE, okR, argEnv, Nat.reduceAdd, Nat.reduceSub, Nat.reduceLT, Nat.reduceLeDiff, Nat.reduceEqDiff, reduceIte, gSt_eq hw, ex_tup, w1, w2, w3, w4, w5, w6, w7, w8, w9, h1, h2, h3, h4, h5, h6, q1, q2]
    simp [calmB, q1, q2]

/-! All gauges have a course -/
def wxL (w : Wx) : List Ga := [w.tide, w.east, w.north, w.wave, w.swell]
def Ga.d (g : Ga) : List D := gaC g []

theorem sound_t (l : Lk) (hg : enGl.sl l.gd = some l.s.glares) (hw : WxOk l.s.w) : Pure Tryz.prog 64 [.agg l.c] (.bool (soundW l.s.w)) := by
  have vg := fun hp => En.view hg hp
  have lg := En.lt hg
  refine pure_of_wc (rs := [.tmp 2]) (m := 33) [] o26_ok (by kernel_rfl) Tryz.func64 rfl (by kernel_rfl) rfl rfl (by kernel_rfl) ?_
  simp only [FS, ↓RE, okR, argEnv, Nat.reduceAdd, Nat.reduceSub, Nat.reduceLT, Nat.reduceLeDiff, Nat.reduceEqDiff, reduceIte]
  refine loopV (ι := Nat) o26_ok [] (fun i => [(25, .agg (l.s.w.c [])), (26, .int .i64 (i : Int))])
    (fun i => []) 1 (fun i => i ≤ 5 ∧ ((wxL l.s.w).take i).all runG = true) (fun i => 5 - i) 0 (by kernel_rfl) (by kernel_rfl) ⟨Nat.zero_le _, rfl⟩ ?_ ?_
  · simp [headW, heapW, envW, blkLt, D.ltL, D.lt, look, hget]
  rintro i ⟨hi, hok⟩
  have hix : ∀ j : Nat, j < 5 → indexD Tryz.prog 162 (.agg (l.s.w.c [])) (.int .i64 (j : Int)) = some (.agg (((l.s.w.c []).drop (j * 4)).take 4)) := by
    intro j hj
    simp only [indexD, Fz.und_162, Fz.size_27]
    rw [if_pos (by omega)]
    simp only [partD_agg Fz.agg_27 Fz.size_27, Int.toNat_natCast]
  have hsw : soundW l.s.w = (wxL l.s.w).all runG := by simp [soundW, wxL]
  rcases Nat.lt_or_ge i 5 with hlt | hge
  · obtain ⟨g, hga, hgj, hd⟩ : ∃ g : Ga, gaOk g = true ∧ (wxL l.s.w)[i]? = some g ∧ ((l.s.w.c []).drop (i * 4)).take 4 = g.d := by
      have h5 : i = 0 ∨ i = 1 ∨ i = 2 ∨ i = 3 ∨ i = 4 := by omega
      rcases h5 with rfl | rfl | rfl | rfl | rfl
      · exact ⟨l.s.w.tide, hw.tide, rfl, rfl⟩
      · exact ⟨l.s.w.east, hw.east, rfl, rfl⟩
      · exact ⟨l.s.w.north, hw.north, rfl, rfl⟩
      · exact ⟨l.s.w.wave, hw.wave, rfl, rfl⟩
      · exact ⟨l.s.w.swell, hw.swell, rfl, rfl⟩
    have h1 := hix i hlt
    rw [hd] at h1
    have hc : ((i : Int) < 5) = True := by simp; omega
    have hwi := wrap_i64 (z := (i : Int) + 1) (by omega) (by omega)
    obtain ⟨a, b, c, rs⟩ := g
    simp only [Ga.d, gaC] at h1
    cases hr : runG ⟨a, b, c, rs⟩
    · have hr' : (clashG ⟨a, b, c, rs⟩).2.2 = true := by simpa [runG] using hr
      simp only [FS, ↓RE, okR, argEnv, Nat.reduceAdd, Nat.reduceSub, Nat.reduceLT, Nat.reduceLeDiff, Nat.reduceEqDiff, reduceIte, hc, decide_true, h1, r_index, gGk_eq hga, hr']
      rw [hsw, all_not hgj hr]
    · have hr' : (clashG ⟨a, b, c, rs⟩).2.2 = false := by simpa [runG] using hr
      simp only [FS, ↓RE, okR, argEnv, Nat.reduceAdd, Nat.reduceSub, Nat.reduceLT, Nat.reduceLeDiff, Nat.reduceEqDiff, reduceIte, hc, decide_true, h1, r_index, gGk_eq hga, hr', hwi]
      exact ⟨i + 1, ⟨by omega, all_take hgj hok hr⟩, by omega, by simp [headW, heapW, envW, blkLt, D.ltL, D.lt, look, hget]⟩
  have : i = 5 := by omega
  subst this
  simp only [FS, ↓RE, okR, argEnv, Nat.reduceAdd, Nat.reduceSub, Nat.reduceLT, Nat.reduceLeDiff, Nat.reduceEqDiff, reduceIte, Int.cast_ofNat_Int, Int.lt_irrefl, decide_false]
  rw [hsw]
  rw [show (wxL l.s.w).take 5 = wxL l.s.w from rfl] at hok
  rw [hok]
end Go.Sx
