/- Own work: contracts of functions, used in the proof of a law. -/
import Derived.Test.YtjhoplbdpdbgaaaGreatDoorSxC23z
set_option linter.unusedVariables false
set_option linter.unusedSimpArgs false
namespace Go.Sx
open Go.Proofs
set_option maxRecDepth 10000

theorem rsea_t (s : Se) (gd : D) (h : SeL s gd) : Pure Tryz.prog 14 [.agg (s.c gd)] (.bool (okSe s)) := by
  have vg := fun hp => En.view h.gd hp
  have lg := En.lt h.gd
  have ng := fun hp => En.len (P := Tryz.prog) Fz.und_31 h.gd hp
  have hdl := fun hp => En.len (P := Tryz.prog) Fz.und_22 (En.sl_map (E := enS) s.depths) hp
  have hbl := fun hp => En.len (P := Tryz.prog) Fz.und_30 (En.sl_map (E := enBt) s.boats) hp
  refine pure_of_wc (rs := [.tmp 2]) (m := 128) [] o21_ok (by kernel_rfl) Tryz.func14 rfl (by kernel_rfl) rfl rfl (by kernel_rfl) ?_
  cases hw : bIn s.wide 1 12
  · simp only [FS, ↓RE, okR, argEnv, Nat.reduceAdd, Nat.reduceSub, Nat.reduceLT, Nat.reduceLeDiff, Nat.reduceEqDiff, reduceIte, gIn_eq, hw]
    simp [okSe, okSz, hw]
  cases hd : bIn s.deep 1 12
  · simp only [FS, ↓RE, okR, argEnv, Nat.reduceAdd, Nat.reduceSub, Nat.reduceLT, Nat.reduceLeDiff, Nat.reduceEqDiff, reduceIte, gIn_eq, hw, hd]
    simp [okSe, okSz, hw, hd]
  have hw' : 1 ≤ s.wide ∧ s.wide ≤ 12 := by simpa [bIn] using hw
  have hd' : 1 ≤ s.deep ∧ s.deep ≤ 12 := by simpa [bIn] using hd
  have hm1 : s.wide * s.deep ≤ 12 * 12 := Int.mul_le_mul hw'.2 hd'.2 (by omega) (by omega)
  have hm0 : 0 ≤ s.wide * s.deep := Int.mul_nonneg (by omega) (by omega)
  have h1 := wrap_i64 (z := s.wide * s.deep) (by omega) (by omega)
  cases hn : ((s.depths.length : Int) == s.wide * s.deep)
  · simp only [FS, ↓RE, okR, argEnv, Nat.reduceAdd, Nat.reduceSub, Nat.reduceLT, Nat.reduceLeDiff, Nat.reduceEqDiff, reduceIte, gIn_eq, hw, hd, hdl, h1, bne, hn]
    simp [okSe, okSz, hn]
  cases hx : okWx s.w
  · simp only [FS, ↓RE, okR, argEnv, Nat.reduceAdd, Nat.reduceSub, Nat.reduceLT, Nat.reduceLeDiff, Nat.reduceEqDiff, reduceIte, gIn_eq, hw, hd, hdl, h1, bne, hn, gWx_eq h.w, hx]
    simp [okSe, hx]
  by_cases hb : s.boats.length ≤ 12
  rotate_left
  · have hb2 : decide ((12 : Int) < (s.boats.length : Int)) = true := by simp; omega
    simp only [FS, ↓RE, okR, argEnv, Nat.reduceAdd, Nat.reduceSub, Nat.reduceLT, Nat.reduceLeDiff, Nat.reduceEqDiff, reduceIte, gIn_eq, hw, hd, hdl, h1, bne, hn, hbl, hb2, gWx_eq h.w, hx]
    simp [okSe, hb]
  have hb2 : decide ((12 : Int) < (s.boats.length : Int)) = false := by simp; omega
  by_cases hg : s.glares.length ≤ 6
  rotate_left
  · have hg2 : decide ((6 : Int) < (s.glares.length : Int)) = true := by simp; omega
    simp only [FS, ↓RE, okR, argEnv, Nat.reduceAdd, Nat.reduceSub, Nat.reduceLT, Nat.reduceLeDiff, Nat.reduceEqDiff, reduceIte, gIn_eq, hw, hd, hdl, h1, bne, hn, hbl, hb2, ng, hg2, gWx_eq h.w, hx]
    simp [okSe, hg]
  have hg2 : decide ((6 : Int) < (s.glares.length : Int)) = false := by simp; omega
  simp only [FS, ↓RE, okR, argEnv, Nat.reduceAdd, Nat.reduceSub, Nat.reduceLT, Nat.reduceLeDiff, Nat.reduceEqDiff, reduceIte, gIn_eq, hw, hd, hdl, h1, bne, hn, hbl, hb2, ng, hg2, gWx_eq h.w, hx]
  have hdL := h.depths
  have hbL := h.boats
  refine loopV (ι := Nat) o21_ok [] (fun i => [(1, .ptr 0 0), (3, .int .i64 (i : Int))])
    (fun i => [(0, .box (s.c gd))]) 1 (fun i => i ≤ s.depths.length ∧ (s.depths.take i).all okDp = true) (fun i => s.depths.length - i) 0 (by kernel_rfl) (by kernel_rfl) ⟨Nat.zero_le _, by simp⟩ ?_ ?_
  · simp [headW, heapW, envW, blkLt, D.ltL, D.lt, look, hget, lg]
  rintro i ⟨hi, hok⟩
  rcases Nat.lt_or_ge i s.depths.length with hlt | hge
  · have hc : ((i : Int) < (s.depths.length : Int)) = True := by simp [hlt]
    obtain ⟨r, hr⟩ : ∃ r, s.depths[i]? = some r := ⟨s.depths[i], by simp [hlt]⟩
    have hix := fun hp => En.ix (P := Tryz.prog) Fz.und_22 Fz.size_70 (En.sl_map (E := enS) s.depths) hr hp .i64
    have hwi := wrap_i64 (z := (i : Int) + 1) (by omega) (by omega)
    obtain ⟨r1, r2⟩ := r
    have hk : okDp (r1, r2) = bSpan r1 r2 (-5000) 5000 := rfl
    have hix2 : ∀ hp, indexAddrD Tryz.prog hp 22 (.sl (s.depths.map enS.d)) (.int .i64 (i : Int)) = some (.ref [.int .i64 r1, .int .i64 r2] 0) := hix
    cases hs : bSpan r1 r2 (-5000) 5000
    · simp only [FS, ↓RE, okR, argEnv, Nat.reduceAdd, Nat.reduceSub, Nat.reduceLT, Nat.reduceLeDiff, Nat.reduceEqDiff, reduceIte, hix2, hdl, hc, decide_true, gSpan_eq, hs]
      simp [okSe, all_not hr (hk.trans hs)]
    · simp only [FS, ↓RE, okR, argEnv, Nat.reduceAdd, Nat.reduceSub, Nat.reduceLT, Nat.reduceLeDiff, Nat.reduceEqDiff, reduceIte, hix2, hdl, hc, decide_true, gSpan_eq, hs, hwi]
      exact ⟨i + 1, ⟨by omega, all_take hr hok (hk.trans hs)⟩, by omega, by simp [headW, heapW, envW, blkLt, D.ltL, D.lt, look, hget, lg]⟩
  have : i = s.depths.length := by omega
  subst this
  rw [List.take_length] at hok
  simp only [FS, ↓RE, okR, argEnv, Nat.reduceAdd, Nat.reduceSub, Nat.reduceLT, Nat.reduceLeDiff, Nat.reduceEqDiff, reduceIte, hdl, Int.lt_irrefl, decide_false]
  refine loopV (ι := Nat) o21_ok [] (fun i => [(1, .ptr 0 0), (4, .int .i64 (i : Int))])
    (fun i => [(0, .box (s.c gd))]) 1 (fun i => i ≤ s.boats.length ∧ (s.boats.take i).all (okBt s) = true) (fun i => s.boats.length - i) 0 (by kernel_rfl) (by kernel_rfl) ⟨Nat.zero_le _, by simp⟩ ?_ ?_
  · simp [headW, heapW, envW, blkLt, D.ltL, D.lt, look, hget, lg]
  rintro i ⟨hi, hok2⟩
  rcases Nat.lt_or_ge i s.boats.length with hlt | hge
  · have hc : ((i : Int) < (s.boats.length : Int)) = True := by simp [hlt]
    obtain ⟨r, hr⟩ : ∃ r, s.boats[i]? = some r := ⟨s.boats[i], by simp [hlt]⟩
    have hix := fun hp => En.ix (P := Tryz.prog) Fz.und_30 Fz.size_72 (En.sl_map (E := enBt) s.boats) hr hp .i64
    have hwi := wrap_i64 (z := (i : Int) + 1) (by omega) (by omega)
    have hw1 := wrap_i64 (z := s.wide - 1) (by omega) (by omega)
    have hw2 := wrap_i64 (z := s.deep - 1) (by omega) (by omega)
    obtain ⟨⟨x1, x2⟩, ⟨y1, y2⟩, ⟨t1, t2⟩, su⟩ := r
    have hk : okBt s ⟨(x1, x2), (y1, y2), (t1, t2), su⟩ = (bSpan x1 x2 0 (s.wide - 1) && (bSpan y1 y2 0 (s.deep - 1) && okTimes (t1, t2))) := rfl
    have hix2 : ∀ hp, indexAddrD Tryz.prog hp 30 (.sl (s.boats.map enBt.d)) (.int .i64 (i : Int)) = some (.ref [.int .i64 x1, .int .i64 x2, .int .i64 y1, .int .i64 y2, .int .i64 t1, .int .i64 t2, .bool su] 0) := hix
    cases hs1 : bSpan x1 x2 0 (s.wide - 1)
    · simp only [FS, ↓RE, okR, argEnv, Nat.reduceAdd, Nat.reduceSub, Nat.reduceLT, Nat.reduceLeDiff, Nat.reduceEqDiff, reduceIte, hix2, hbl, hc, decide_true, gSpan_eq, hw1, hs1]
      simp [okSe, all_not hr (hk.trans (by rw [hs1]; rfl))]
    cases hs2 : bSpan y1 y2 0 (s.deep - 1)
    · simp only [FS, ↓RE, okR, argEnv, Nat.reduceAdd, Nat.reduceSub, Nat.reduceLT, Nat.reduceLeDiff, Nat.reduceEqDiff, reduceIte, hix2, hbl, hc, decide_true, gSpan_eq, hw1, hs1, hw2, hs2]
      simp [okSe, all_not hr (hk.trans (by rw [hs1, hs2]; rfl))]
    cases hs3 : okTimes (t1, t2)
    · simp only [FS, ↓RE, okR, argEnv, Nat.reduceAdd, Nat.reduceSub, Nat.reduceLT, Nat.reduceLeDiff, Nat.reduceEqDiff, reduceIte, hix2, hbl, hc, decide_true, gSpan_eq, hw1, hs1, hw2, hs2, gTi_eq, hs3]
      simp [okSe, all_not hr (hk.trans (by rw [hs1, hs2, hs3]; rfl))]
    · simp only [FS, ↓RE, okR, argEnv, Nat.reduceAdd, Nat.reduceSub, Nat.reduceLT, Nat.reduceLeDiff, Nat.reduceEqDiff, reduceIte, hix2, hbl, hc, decide_true, gSpan_eq, hw1, hs1, hw2, hs2, gTi_eq, hs3, hwi]
      exact ⟨i + 1, ⟨by omega, all_take hr hok2 (hk.trans (by rw [hs1, hs2, hs3]; rfl))⟩, by omega, by simp [headW, heapW, envW, blkLt, D.ltL, D.lt, look, hget, lg]⟩
  have : i = s.boats.length := by omega
  subst this
  rw [List.take_length] at hok2
  simp only [FS, ↓RE, okR, argEnv, Nat.reduceAdd, Nat.reduceSub, Nat.reduceLT, Nat.reduceLeDiff, Nat.reduceEqDiff, reduceIte, hbl, Int.lt_irrefl, decide_false]
  have hgL := h.glares
  refine loopV (ι := Nat) o21_ok [] (fun i => [(1, .ptr 0 0), (6, .int .i64 (i : Int))])
    (fun i => [(0, .box (s.c gd))]) 1 (fun i => i ≤ s.glares.length ∧ (s.glares.take i).all okGl = true) (fun i => s.glares.length - i) 0 (by kernel_rfl) (by kernel_rfl) ⟨Nat.zero_le _, by simp⟩ ?_ ?_
  · simp [headW, heapW, envW, blkLt, D.ltL, D.lt, look, hget, lg]
  rintro i ⟨hi, hok3⟩
  rcases Nat.lt_or_ge i s.glares.length with hlt | hge
  · have hc : ((i : Int) < (s.glares.length : Int)) = True := by simp [hlt]
    obtain ⟨r, hr⟩ : ∃ r, s.glares[i]? = some r := ⟨s.glares[i], by simp [hlt]⟩
    have hix := fun hp => En.ix (P := Tryz.prog) Fz.und_31 Fz.size_106 h.gd hr hp .i64
    have hwi := wrap_i64 (z := (i : Int) + 1) (by omega) (by omega)
    obtain ⟨w, ⟨t1, t2⟩⟩ := r
    have hk : okGl ⟨w, (t1, t2)⟩ = (okWay w && okTimes (t1, t2)) := rfl
    simp only [enGl] at hix
    cases hs1 : okWay w
    · simp only [FS, ↓RE, okR, argEnv, Nat.reduceAdd, Nat.reduceSub, Nat.reduceLT, Nat.reduceLeDiff, Nat.reduceEqDiff, reduceIte, hix, ng, hc, decide_true, gWy_eq, hs1]
      simp [okSe, all_not hr (hk.trans (by rw [hs1]; rfl))]
    cases hs2 : okTimes (t1, t2)
    · simp only [FS, ↓RE, okR, argEnv, Nat.reduceAdd, Nat.reduceSub, Nat.reduceLT, Nat.reduceLeDiff, Nat.reduceEqDiff, reduceIte, hix, ng, hc, decide_true, gWy_eq, hs1, gTi_eq, hs2]
      simp [okSe, all_not hr (hk.trans (by rw [hs1, hs2]; rfl))]
    · simp only [FS, ↓RE, okR, argEnv, Nat.reduceAdd, Nat.reduceSub, Nat.reduceLT, Nat.reduceLeDiff, Nat.reduceEqDiff, reduceIte, hix, ng, hc, decide_true, gWy_eq, hs1, gTi_eq, hs2, hwi]
      exact ⟨i + 1, ⟨by omega, all_take hr hok3 (hk.trans (by rw [hs1, hs2]; rfl))⟩, by omega, by simp [headW, heapW, envW, blkLt, D.ltL, D.lt, look, hget, lg]⟩
  have : i = s.glares.length := by omega
  subst this
  rw [List.take_length] at hok3
  simp only [FS, ↓RE, okR, argEnv, Nat.reduceAdd, Nat.reduceSub, Nat.reduceLT, Nat.reduceLeDiff, Nat.reduceEqDiff, reduceIte, ng, Int.lt_irrefl, decide_false]
  simp [okSe, okSz, hw, hd, hn, hb, hg, hx, hok, hok2, hok3]
end Go.Sx
