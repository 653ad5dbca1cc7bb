/- Own work: contracts of functions, used in the proof of a law. -/
import Derived.Test.YtjhoplbdpdbgaaaGreatDoorSxC27z
set_option linter.unusedVariables false
set_option linter.unusedSimpArgs false
namespace Go.Sx
open Go.Proofs
set_option maxRecDepth 10000

def enGa : En Ga where
  d := Ga.d
  dec cs := match decGa cs with
    | some (g, []) => some g
    | _ => none
  h1 g := by have := decGa_eq g []; simp only [Ga.d, this]
  h2 c g h := by
    split at h
    · rename_i h1; cases h; exact decGa_inv h1
    · cases h
  sz := 4
  hsz _ := rfl
theorem rsound_t (w : Wx) (hw : WxOk w) : Pure Tryz.prog 19 [.agg (w.c [])] (.bool (soundW w)) := by
  refine pure_of_wc (rs := [.tmp 2]) (m := 35) [] o26_ok (by kernel_rfl) Tryz.func19 rfl (by kernel_rfl) rfl rfl (by kernel_rfl) ?_
  have hlit : ∀ (h : H) (nid : Nat), litOpD Tryz.prog h nid 120 5 [(0, .agg w.tide.d), (1, .agg w.east.d), (2, .agg w.north.d), (3, .agg w.wave.d), (4, .agg w.swell.d)] = some (.osl nid 5, (nid, .arr 27 4 ((wxL w).map Ga.d)) :: h, nid + 1) := by
    intro h nid
    kernel_rfl
  simp only [Ga.d, gaC] at hlit
  simp only [FS, ↓RE, okR, argEnv, Nat.reduceAdd, Nat.reduceSub, Nat.reduceLT, Nat.reduceLeDiff, Nat.reduceEqDiff, reduceIte, hlit]
  refine loopW (ι := Nat) o26_ok [] (fun i => [(3, .sl ((wxL w).map enGa.d)), (4, .int .i64 (i : Int))])
    (fun i => []) 2 (fun i => i ≤ 5 ∧ ((wxL w).take i).all runG = true) (fun i => 5 - i) 0 (by kernel_rfl) (by kernel_rfl) ⟨Nat.zero_le _, rfl⟩ ?_ ?_
  · refine imp_frz 1 ?_
    simp [headW, heapW, envW, blkLt, D.ltL, D.lt, look, hget, frzD, herase, wxL, Ga.d, enGa]
  rintro i ⟨hi, hok⟩
  have hsw : soundW w = (wxL w).all runG := by simp [soundW, wxL]
  have hlen : ((wxL w).length : Int) = 5 := rfl
  rcases Nat.lt_or_ge i 5 with hlt | hge
  · obtain ⟨g, hga, hgj⟩ : ∃ g : Ga, gaOk g = true ∧ (wxL w)[i]? = some g := by
      have h5 : i = 0 ∨ i = 1 ∨ i = 2 ∨ i = 3 ∨ i = 4 := by omega
      rcases h5 with rfl | rfl | rfl | rfl | rfl
      · exact ⟨w.tide, hw.tide, rfl⟩
      · exact ⟨w.east, hw.east, rfl⟩
      · exact ⟨w.north, hw.north, rfl⟩
      · exact ⟨w.wave, hw.wave, rfl⟩
      · exact ⟨w.swell, hw.swell, rfl⟩
    have hix := fun hp => En.ix (P := Tryz.prog) Fz.und_120 Fz.size_27 (En.sl_map (E := enGa) (wxL w)) hgj hp .i64
    have hc : ((i : Int) < 5) = True := by simp; omega
    have hwi := wrap_i64 (z := (i : Int) + 1) (by omega) (by omega)
    obtain ⟨a, b, c, rs⟩ := g
    have hix2 : ∀ hp, indexAddrD Tryz.prog hp 120 (.sl ((wxL w).map enGa.d)) (.int .i64 (i : Int)) = some (.ref [.int .i64 a, .int .i64 b, .int .i64 c, .sl (rs.map Rd.d)] 0) := hix
    cases hr : runG ⟨a, b, c, rs⟩
    · have hr' : (clashG ⟨a, b, c, rs⟩).2.2 = true := by simpa [runG] using hr
      simp only [FS, ↓RE, okR, argEnv, Nat.reduceAdd, Nat.reduceSub, Nat.reduceLT, Nat.reduceLeDiff, Nat.reduceEqDiff, reduceIte, List.length_map, hlen, hc, decide_true, hix2, gGk_eq hga, clD, ex_tup, hr']
      rw [hsw, all_not hgj hr]
    · have hr' : (clashG ⟨a, b, c, rs⟩).2.2 = false := by simpa [runG] using hr
      simp only [FS, ↓RE, okR, argEnv, Nat.reduceAdd, Nat.reduceSub, Nat.reduceLT, Nat.reduceLeDiff, Nat.reduceEqDiff, reduceIte, List.length_map, hlen, hc, decide_true, hix2, gGk_eq hga, clD, ex_tup, hr', hwi]
      exact ⟨i + 1, ⟨by omega, all_take hgj hok hr⟩, by omega, imp_head (by simp [headW, heapW, envW, blkLt, D.ltL, D.lt, look, hget])⟩
  have : i = 5 := by omega
  subst this
  simp only [FS, ↓RE, okR, argEnv, Nat.reduceAdd, Nat.reduceSub, Nat.reduceLT, Nat.reduceLeDiff, Nat.reduceEqDiff, reduceIte, List.length_map, hlen, Int.cast_ofNat_Int, Int.lt_irrefl, decide_false]
  rw [hsw]
  rw [show (wxL w).take 5 = wxL w from rfl] at hok
  rw [hok]

abbrev o28 : List (FuncId × (List D → Option D)) := (64, gL0 (fun l => okWx l.s.w) fun l => .bool (soundW l.s.w)) :: (19, orc decWx okWx fun w => .bool (soundW w)) :: (86, gL2 (fun q => okWd q && okNd q.1.n) fun q => .bool (calmB q.1.p.way q.1.n q.2.1 q.2.2)) :: o26
theorem o28_ok : OkO Tryz.prog (mkO o28) :=
  mkO_ok (orc_ok fun ds l hd hk => by
    obtain ⟨rfl, hg⟩ := decL0_inv hd
    exact sound_t _ hg (okWx_gaOk hk)) <|
  mkO_ok (orc_ok fun ds w hd hk => by rw [decWx_inv hd]; exact rsound_t w (okWx_gaOk hk)) <|
  mkO_ok (orc_ok fun ds q hd hk => by
    obtain ⟨rfl, hg⟩ := decL2_inv hd
    simp only [okWd, Bool.and_eq_true] at hk
    exact calm_t _ hg _ _ hk.1.1 hk.1.2.1 hk.1.2.2 hk.2) o26_ok

/-- What is said of what is asked. -/
def askE (l : Lk) : Int := if okSe l.s && (okSp l.s l.p && (okNd l.n && bIn l.t 0 1440)) then (if soundW l.s.w then 0 else 5) else 2
theorem okSe_wx {s : Se} (h : okSe s = true) : okWx s.w = true := by
  simp only [okSe, Bool.and_eq_true] at h
  exact h.2.2.2.1
theorem asked_t (l : Lk) (h : SeL l.s l.gd) : Pure Tryz.prog 67 [.agg l.c] (.int .i64 (askE l)) := by
  have vg := fun hp => En.view h.gd hp
  have lg := En.lt h.gd
  have h1 := gSe_eq h
  have h3 := gNd_eq l.n
  simp only [Se.c, Se.cr, Wx.c, gaC] at h1
  refine pure_of_wc (rs := [.tmp 2]) (m := 30) [] o28_ok (by kernel_rfl) Tryz.func67 rfl (by kernel_rfl) rfl rfl (by kernel_rfl) ?_
  cases hs : okSe l.s
  · simp only [FS, ↓RE, okR, argEnv, Nat.reduceAdd, Nat.reduceSub, Nat.reduceLT, Nat.reduceLeDiff, Nat.reduceEqDiff, reduceIte, vg, lg, h1, hs]
    simp [askE, hs]
  have h2 := gSp_eq h hs l.p
  simp only [Se.c, Se.cr, Wx.c, gaC] at h2
  cases hp : okSp l.s l.p
  · simp only [FS, ↓RE, okR, argEnv, Nat.reduceAdd, Nat.reduceSub, Nat.reduceLT, Nat.reduceLeDiff, Nat.reduceEqDiff, reduceIte, vg, lg, h1, hs, h2, hp]
    simp [askE, hs, hp]
  cases hn : okNd l.n
  · simp only [FS, ↓RE, okR, argEnv, Nat.reduceAdd, Nat.reduceSub, Nat.reduceLT, Nat.reduceLeDiff, Nat.reduceEqDiff, reduceIte, vg, lg, h1, hs, h2, hp, h3, hn]
    simp [askE, hs, hp, hn]
  cases ht : bIn l.t 0 1440
  · simp only [FS, ↓RE, okR, argEnv, Nat.reduceAdd, Nat.reduceSub, Nat.reduceLT, Nat.reduceLeDiff, Nat.reduceEqDiff, reduceIte, vg, lg, h1, hs, h2, hp, h3, hn, gIn_eq, ht]
    simp [askE, hs, hp, hn, ht]
  have h4 := gL0_eq (fun l => okWx l.s.w) (fun l => .bool (soundW l.s.w)) l h.gd (okSe_wx hs)
  simp only [Lk.c, Se.cr, Wx.c, gaC] at h4
  cases hso : soundW l.s.w
  · simp only [FS, ↓RE, okR, argEnv, Nat.reduceAdd, Nat.reduceSub, Nat.reduceLT, Nat.reduceLeDiff, Nat.reduceEqDiff, reduceIte, vg, lg, h1, hs, h2, hp, h3, hn, gIn_eq, ht, h4, hso]
    simp [askE, hs, hp, hn, ht, hso]
  · simp only [FS, ↓RE, okR, argEnv, Nat.reduceAdd, Nat.reduceSub, Nat.reduceLT, Nat.reduceLeDiff, Nat.reduceEqDiff, reduceIte, vg, lg, h1, hs, h2, hp, h3, hn, gIn_eq, ht, h4, hso]
    simp [askE, hs, hp, hn, ht, hso]
end Go.Sx
