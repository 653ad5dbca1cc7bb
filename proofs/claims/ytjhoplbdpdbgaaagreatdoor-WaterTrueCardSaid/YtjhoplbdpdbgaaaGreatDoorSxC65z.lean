/- Own work: contracts of functions, used in the proof of a law. -/
import Derived.Test.YtjhoplbdpdbgaaaGreatDoorSxCx
set_option linter.unusedVariables false
set_option linter.unusedSimpArgs false
namespace Go.Sx
open Go.Proofs
set_option maxRecDepth 10000

theorem tyTr {n : Nat} {ds : List D} (h : TyD Tryz.prog n 65 ds) : ∃ t : Tr, ds = t.c ∧ t.depths.length ≤ 9223372036854775807 := by
  obtain ⟨hl, m, hf⟩ := tySt Tryz.underlying65 (by decide +kernel) h
  obtain ⟨a, b, c, d, e, f, g, i, rfl⟩ : ∃ a b c d e f g i, ds = [a, b, c, d, e, f, g, i] := by
    match ds, hl.trans (by kernel_rfl : _ = 8) with
    | [a, b, c, d, e, f, g, i], _ => exact ⟨a, b, c, d, e, f, g, i, rfl⟩
  obtain ⟨x0, h0, _⟩ := tyInt Fz.und_3 (hf 0 _ rfl)
  obtain ⟨x1, h1, _⟩ := tyInt Fz.und_3 (hf 1 _ rfl)
  obtain ⟨x2, h2, _⟩ := tyInt Fz.und_3 (hf 2 _ rfl)
  obtain ⟨x3, h3, _⟩ := tyInt Fz.und_3 (hf 3 _ rfl)
  obtain ⟨x4, h4, _⟩ := tyInt Fz.und_3 (hf 4 _ rfl)
  obtain ⟨x5, h5, _⟩ := tyInt Fz.und_3 (hf 5 _ rfl)
  obtain ⟨l6, h6, hl6⟩ := tyEn (E := enI) Fz.und_62 (by decide +kernel) (fun m c h => by obtain ⟨x, hx, _⟩ := tyInt Fz.und_3 h; exact ⟨x, hx⟩) (hf 6 _ rfl)
  obtain ⟨l7, h7, _⟩ := tyEn (E := enB) Fz.und_63 (by decide +kernel) (fun m c h => by obtain ⟨x, hx⟩ := tyBool Fz.und_4 h; exact ⟨x, hx⟩) (hf 7 _ rfl)
  cases h0; cases h1; cases h2; cases h3; cases h4; cases h5; cases h6; cases h7
  exact ⟨⟨x0, x1, x2, x3, x4, x5, l6, l7⟩, rfl, hl6⟩

set_option maxHeartbeats 8000000 in
theorem waterTrue_at (s : Se) (gd : D) (h : SeL s gd) (t : Tr) (hd : t.depths.length ≤ 9223372036854775807) (p : Sp) (n : Nd) : Pure Tryz.prog 5 [.agg (s.c gd), .agg t.c, .agg p.c, .agg n.c] (.bool true) := by
  have vg := fun hp => En.view h.gd hp
  have lg := En.lt h.gd
  have cg := fun hp => En.cur h.gd hp
  have h0 := gTn_eq h
  have h1 := gSe_eq h
  have h3 := gNd_eq n
  have hSu := gSu_eq (l := trL s gd p n t) h
  have hPo := gPo_eq (l := trL s gd p n t) h
  simp only [Se.c, Se.cr, Wx.c, gaC] at h0 h1 hSu hPo
  have l1 := fun hp => En.len (P := Tryz.prog) Fz.und_62 (En.sl_map (E := enI) t.depths) hp
  have l3 := fun hp => En.len (P := Tryz.prog) Fz.und_63 (En.sl_map (E := enB) t.boats) hp
  refine pure_of_wc (rs := [.tmp 8]) (m := 227) [(16, [(14, false, false, [])]), (17, [(17, false, false, [])])] o54_ok (by kernel_rfl) Tryz.func5 rfl (by kernel_rfl) rfl rfl (by kernel_rfl) ?_
  cases t0 : tinyB s
  · simp only [FS, ↓RE, okR, argEnv, Nat.reduceAdd, Nat.reduceSub, Nat.reduceLT, Nat.reduceLeDiff, Nat.reduceEqDiff, reduceIte, vg, lg, cg, h0, t0, gTrue_eq]
  cases hs : okSe s
  · simp only [FS, ↓RE, okR, argEnv, Nat.reduceAdd, Nat.reduceSub, Nat.reduceLT, Nat.reduceLeDiff, Nat.reduceEqDiff, reduceIte, vg, lg, cg, h0, t0, gTrue_eq, h1, hs]
  have hsw : orc decWx okWx (fun w => .bool (soundW w)) [.agg (s.w.c [])] = some (.bool (soundW s.w)) := orc_eq (decWx_eq s.w) (okSe_wx hs)
  simp only [Wx.c, gaC] at hsw
  cases hso : soundW s.w
  · simp only [FS, ↓RE, okR, argEnv, Nat.reduceAdd, Nat.reduceSub, Nat.reduceLT, Nat.reduceLeDiff, Nat.reduceEqDiff, reduceIte, vg, lg, cg, h0, t0, gTrue_eq, h1, hs, hsw, hso]
  by_cases t1 : (200 : Int) < (t.depths.length : Int)
  · simp only [FS, ↓RE, okR, argEnv, Nat.reduceAdd, Nat.reduceSub, Nat.reduceLT, Nat.reduceLeDiff, Nat.reduceEqDiff, reduceIte, vg, lg, cg, h0, t0, gTrue_eq, h1, hs, hsw, hso, l1, t1, decide_true]
  by_cases t2 : (20 : Int) < (t.boats.length : Int)
  · simp only [FS, ↓RE, okR, argEnv, Nat.reduceAdd, Nat.reduceSub, Nat.reduceLT, Nat.reduceLeDiff, Nat.reduceEqDiff, reduceIte, vg, lg, cg, h0, t0, gTrue_eq, h1, hs, hsw, hso, l1, t1, l3, t2, decide_true, decide_false]
  have hrT := rTruth_t s gd h t (by omega)
  simp only [FS, ↓RE, okR, argEnv, Nat.reduceAdd, Nat.reduceSub, Nat.reduceLT, Nat.reduceLeDiff, Nat.reduceEqDiff, reduceIte, vg, lg, cg, h0, t0, gTrue_eq, h1, hs, hsw, hso, l1, t1, l3, t2, decide_false]
  refine call_of_pure' hrT (by simp [D.ltL, D.lt, lg]) (by simp [D.lt]) ?_
  cases htr : okTr s t
  · simp only [FS, ↓RE, okR, argEnv, Nat.reduceAdd, Nat.reduceSub, Nat.reduceLT, Nat.reduceLeDiff, Nat.reduceEqDiff, reduceIte, vg, lg, cg, gTrue_eq]
  have ht := trOk htr
  simp only [FS, ↓RE, okR, argEnv, Nat.reduceAdd, Nat.reduceSub, Nat.reduceLT, Nat.reduceLeDiff, Nat.reduceEqDiff, reduceIte, vg, lg, cg, gTrue_eq]
  refine call_of_pure' (rAgrees_t s gd h hs t ht) (by simp [D.ltL, D.lt, lg]) (by simp [D.lt]) ?_
  cases hag : agB s t
  · simp only [FS, ↓RE, okR, argEnv, Nat.reduceAdd, Nat.reduceSub, Nat.reduceLT, Nat.reduceLeDiff, Nat.reduceEqDiff, reduceIte, vg, lg, cg, gTrue_eq]
  have ha := agOk hag
  have h2 := gSp_eq h hs p
  simp only [Se.c, Se.cr, Wx.c, gaC] at h2
  cases hp : okSp s p
  · simp only [FS, ↓RE, okR, argEnv, Nat.reduceAdd, Nat.reduceSub, Nat.reduceLT, Nat.reduceLeDiff, Nat.reduceEqDiff, reduceIte, vg, lg, cg, gTrue_eq, h2, hp]
  cases hn : okNd n
  · simp only [FS, ↓RE, okR, argEnv, Nat.reduceAdd, Nat.reduceSub, Nat.reduceLT, Nat.reduceLeDiff, Nat.reduceEqDiff, reduceIte, vg, lg, cg, gTrue_eq, h2, hp, h3, hn]
  have hk : LkOk (trL s gd p n t) := ⟨h, hs, hp, hn, ht.minute⟩
  have hUs := Usable_t s gd h p n t hd
  have hUA : UsA s gd p n t = (usB (trL s gd p n t) t, 0) := by simp [UsA, hs, htr, hp, hn]
  rw [hUA] at hUs
  have hT := minTail (trL s gd p n t) h hs hp (by have := ht.minute; simp [bIn]; omega)
  have hPA : PossA (trL s gd p n t) = (possB (trL s gd p n t), 0) := by
    rcases hT with ⟨q, _⟩ | ⟨_, q, _⟩ | ⟨_, _, q, _⟩
    · rw [show okNd n = true from hn] at q; cases q
    · rw [show soundW s.w = true from hso] at q; cases q
    · exact q
  have hSA : (surelyB (trL s gd p n t) = false ∧ SureA (trL s gd p n t) = (0, 7)) ∨ (surelyB (trL s gd p n t) = true ∧ SureA (trL s gd p n t) = (offL (trL s gd p n t), 0)) := by
    rcases hT with ⟨q, _⟩ | ⟨_, q, _⟩ | ⟨_, _, _, q | ⟨q1, q2, _⟩⟩
    · rw [show okNd n = true from hn] at q; cases q
    · rw [show soundW s.w = true from hso] at q; cases q
    · exact .inl q
    · exact .inr ⟨q1, q2⟩
  rw [hPA] at hPo
  have hup := us_poss hk ht ha
  simp only [FS, ↓RE, okR, argEnv, Nat.reduceAdd, Nat.reduceSub, Nat.reduceLT, Nat.reduceLeDiff, Nat.reduceEqDiff, reduceIte, vg, lg, cg, gTrue_eq, h2, hp, h3, hn]
  refine call_of_pure' hUs (by simp [D.ltL, D.lt, lg]) (by simp [D.ltL, D.lt]) ?_
  rcases hSA with ⟨hsu, hSA⟩ | ⟨hsu, hSA⟩
  · rw [hSA] at hSu
    cases hus : usB (trL s gd p n t) t
    · simp only [FS, ↓RE, okR, argEnv, Nat.reduceAdd, Nat.reduceSub, Nat.reduceLT, Nat.reduceLeDiff, Nat.reduceEqDiff, reduceIte, vg, lg, cg, ex_tup, hSu, hPo, gTrue_eq, bne_self_eq_false, Int.reduceBNe]
    · rw [hup hus] at hPo
      simp only [FS, ↓RE, okR, argEnv, Nat.reduceAdd, Nat.reduceSub, Nat.reduceLT, Nat.reduceLeDiff, Nat.reduceEqDiff, reduceIte, vg, lg, cg, ex_tup, hSu, hPo, gTrue_eq, bne_self_eq_false, Int.reduceBNe]
  obtain ⟨o, ho, hoc, hrun⟩ := surely_run hk ht ha hsu
  have hus := surely_us hk ht ha hsu
  rw [hSA, ho] at hSu
  rw [hup hus] at hPo
  rw [hus]
  have hnr := okNd_run hn
  obtain ⟨hwy, hce⟩ := okSp_ce hp
  obtain ⟨hw, hdp, hlen⟩ := okSe_sz hs
  have c1 : ((o : Int) < 0) = False := by simp
  have w1 := wrap_i64 (z := p.cells - n.run) (by omega) (by omega)
  have c2 : (p.cells - n.run < (o : Int)) = False := by simp; omega
  simp only [FS, ↓RE, okR, argEnv, Nat.reduceAdd, Nat.reduceSub, Nat.reduceLT, Nat.reduceLeDiff, Nat.reduceEqDiff, reduceIte, vg, lg, cg, ex_tup, hSu, hPo, gTrue_eq, bne_self_eq_false, Int.reduceBNe, c1, w1, c2, decide_false, gSt_eq hwy]
  have w2 := wrap_i64 (z := (o : Int) + n.run) (by omega) (by omega)
  obtain ⟨d1, d2, _⟩ := dx_cases p.way hwy
  have hm : s.wide * s.deep ≤ 12 * 12 := Int.mul_le_mul hw.2 hdp.2 (by omega) (by omega)
  refine loopV (ι := Nat) o54_ok [(16, [(14, false, false, [])]), (17, [(17, false, false, [])])] (fun k => [(4, .ptr 0 0), (5, .ptr 1 0), (6, .ptr 2 0), (7, .ptr 3 0), (11, .int .i64 (o : Int)), (15, .int .i64 (dxW p.way)), (16, .int .i64 (dyW p.way)), (17, .int .i64 (k : Int))])
    (fun k => [(3, .box n.c), (2, .box p.c), (1, .box t.c), (0, .box (s.c gd))]) 4 (fun k => o ≤ k ∧ k ≤ o + n.run.toNat) (fun k => o + n.run.toNat - k) o (by kernel_rfl) (by kernel_rfl) ⟨Nat.le_refl _, Nat.le_add_right _ _⟩ ?_ ?_
  · simp [headW, heapW, envW, blkLt, D.ltL, D.lt, look, hget, lg]
  rintro k ⟨hk1, hk2⟩
  by_cases hkr : (k : Int) < (o : Int) + n.run
  rotate_left
  · simp only [FS, ↓RE, okR, argEnv, Nat.reduceAdd, Nat.reduceSub, Nat.reduceLT, Nat.reduceLeDiff, Nat.reduceEqDiff, reduceIte, vg, lg, cg, w2, hkr, decide_false, gTrue_eq]
  have hgood := hrun k hk1 hkr
  have hk' : 0 ≤ (k : Int) ∧ (k : Int) ≤ p.cells - 1 := by omega
  obtain ⟨hx, hy⟩ := cell_xy hp hk'
  have hcl := cell_lt hw.1 hp hk'
  simp only [goodTr, goodK, Bool.and_eq_true, decide_eq_true_eq] at hgood
  obtain ⟨hg1, hg2⟩ := hgood
  have hlt : (cellI s p k).toNat < t.depths.length := by rw [ht.dl]; omega
  have hxd : t.depths[(cellI s p k).toNat]? = some (iAt t.depths (cellI s p k)) := by simp [iAt, hlt, List.getD]
  have hdv := ht.dv _ (List.mem_of_getElem? hxd)
  have hix := fun hh => En.ix (P := Tryz.prog) Fz.und_62 Fz.size_3 (En.sl_map (E := enI) t.depths) hxd hh .i64
  rw [Int.toNat_of_nonneg hcl.1] at hix
  have hix2 : ∀ hh, indexAddrD Tryz.prog hh 62 (.sl (t.depths.map enI.d)) (.int .i64 (cellI s p k)) = some (.ref [.int .i64 (iAt t.depths (cellI s p k))] 0) := hix
  have htd := ht.tide
  have q1 : IntKind.i64.wrap (dxW p.way * (k : Int)) = (k : Int) * dxW p.way := by
    rw [Int.mul_comm]; exact wrap_i64 (by rcases d1 with h | h | h <;> rw [h] <;> omega) (by rcases d1 with h | h | h <;> rw [h] <;> omega)
  have q2 : IntKind.i64.wrap (dyW p.way * (k : Int)) = (k : Int) * dyW p.way := by
    rw [Int.mul_comm]; exact wrap_i64 (by rcases d2 with h | h | h <;> rw [h] <;> omega) (by rcases d2 with h | h | h <;> rw [h] <;> omega)
  have q3 : IntKind.i64.wrap (p.x + (k : Int) * dxW p.way) = pxK p k := wrap_i64 (z := pxK p k) (by omega) (by omega)
  have q4 : IntKind.i64.wrap (p.y + (k : Int) * dyW p.way) = pyK p k := wrap_i64 (z := pyK p k) (by omega) (by omega)
  have q5' : 0 ≤ pyK p k * s.wide := Int.mul_nonneg hy.1 (by omega)
  have q5 := wrap_i64 (z := pyK p k * s.wide) (by omega) (by simp only [cellI] at hcl; omega)
  have q6 : IntKind.i64.wrap (pyK p k * s.wide + pxK p k) = cellI s p k := wrap_i64 (z := cellI s p k) (by omega) (by omega)
  have q7 := wrap_i64 (z := iAt t.depths (cellI s p k) + t.tide) (by omega) (by omega)
  have q8 : (iAt t.depths (cellI s p k) + t.tide < n.draught) = False := by simp only [eq_iff_iff, iff_false]; exact fun hh => absurd hg1 (by omega)
  have hwk := wrap_i64 (z := (k : Int) + 1) (by omega) (by omega)
  have hfr := freeB_iff.1 hg2
  simp only [FS, ↓RE, okR, argEnv, Nat.reduceAdd, Nat.reduceSub, Nat.reduceLT, Nat.reduceLeDiff, Nat.reduceEqDiff, reduceIte, vg, lg, cg, w2, hkr, decide_true, decide_false, q1, q2, q3, q4, q5, q6, hix2, q7, q8]
  refine loopV (ι := Nat) o54_ok [(16, [(14, false, false, [])]), (17, [(17, false, false, [])])] (fun i => [(4, .ptr 0 0), (5, .ptr 1 0), (6, .ptr 2 0), (7, .ptr 3 0), (11, .int .i64 (o : Int)), (15, .int .i64 (dxW p.way)), (16, .int .i64 (dyW p.way)), (17, .int .i64 (k : Int)), (18, .int .i64 (pxK p k)), (19, .int .i64 (pyK p k)), (20, .int .i64 (i : Int))])
    (fun i => [(3, .box n.c), (2, .box p.c), (1, .box t.c), (0, .box (s.c gd))]) 4 (fun i => i ≤ t.boats.length) (fun i => t.boats.length - i) 0 (by kernel_rfl) (by kernel_rfl) (Nat.zero_le _) ?_ ?_
  · simp [headW, heapW, envW, blkLt, D.ltL, D.lt, look, hget, lg]
  intro i hi
  rcases Nat.lt_or_ge i t.boats.length with hilt | hige
  rotate_left
  · have hc3 : ((i : Int) < (t.boats.length : Int)) = False := by simp; omega
    simp only [FS, ↓RE, okR, argEnv, Nat.reduceAdd, Nat.reduceSub, Nat.reduceLT, Nat.reduceLeDiff, Nat.reduceEqDiff, reduceIte, l3, hc3, decide_false, hwk]
    exact ⟨k + 1, by omega, by omega, by simp [headW, heapW, envW, blkLt, D.ltL, D.lt, look, hget, lg]⟩
  have hc3 : ((i : Int) < (t.boats.length : Int)) = True := by simp [hilt]
  obtain ⟨b, hb⟩ : ∃ b, s.boats[i]? = some b := ⟨s.boats[i]'(by rw [← ht.bl]; exact hilt), by rw [List.getElem?_eq_getElem]⟩
  have hbx : t.boats[i]? = some (bAt t.boats i) := by simp [bAt, hilt, List.getD]
  have hno := hfr i b hb
  rw [Nat.zero_add] at hno
  have hixb := fun hp => En.ix (P := Tryz.prog) Fz.und_30 Fz.size_72 (En.sl_map (E := enBt) s.boats) hb hp .i64
  have hixt : ∀ hp, indexAddrD Tryz.prog hp 63 (.sl (t.boats.map enB.d)) (.int .i64 (i : Int)) = some (.ref [.bool (bAt t.boats i)] 0) := fun hp => En.ix (P := Tryz.prog) Fz.und_63 Fz.size_4 (En.sl_map (E := enB) t.boats) hbx hp .i64
  have hwi := wrap_i64 (z := (i : Int) + 1) (by omega) (by omega)
  obtain ⟨⟨x1, x2⟩, ⟨y1, y2⟩, ⟨t1, t2⟩, su⟩ := b
  have hixb2 : ∀ hp, indexAddrD Tryz.prog hp 30 (.sl (s.boats.map enBt.d)) (.int .i64 (i : Int)) = some (.ref [.int .i64 x1, .int .i64 x2, .int .i64 y1, .int .i64 y2, .int .i64 t1, .int .i64 t2, .bool su] 0) := hixb
  simp only [inW, bIn] at hno
  generalize bAt t.boats i = tb at hno hixt
  cases tb
  · simp only [FS, ↓RE, okR, argEnv, Nat.reduceAdd, Nat.reduceSub, Nat.reduceLT, Nat.reduceLeDiff, Nat.reduceEqDiff, reduceIte, l3, hc3, decide_true, hixt, hixb2, hwi]
    exact ⟨i + 1, by omega, by omega, by simp [headW, heapW, envW, blkLt, D.ltL, D.lt, look, hget, lg]⟩
  have hno := hno rfl
  cases r1 : decide (x1 ≤ pxK p k)
  · simp only [FS, ↓RE, okR, argEnv, Nat.reduceAdd, Nat.reduceSub, Nat.reduceLT, Nat.reduceLeDiff, Nat.reduceEqDiff, reduceIte, l3, hc3, decide_true, hixt, hixb2, hwi, r1]
    exact ⟨i + 1, by omega, by omega, by simp [headW, heapW, envW, blkLt, D.ltL, D.lt, look, hget, lg]⟩
  cases r2 : decide (pxK p k ≤ x2)
  · simp only [FS, ↓RE, okR, argEnv, Nat.reduceAdd, Nat.reduceSub, Nat.reduceLT, Nat.reduceLeDiff, Nat.reduceEqDiff, reduceIte, l3, hc3, decide_true, hixt, hixb2, hwi, r1, r2]
    exact ⟨i + 1, by omega, by omega, by simp [headW, heapW, envW, blkLt, D.ltL, D.lt, look, hget, lg]⟩
  cases r3 : decide (y1 ≤ pyK p k)
  · simp only [FS, ↓RE, okR, argEnv, Nat.reduceAdd, Nat.reduceSub, Nat.reduceLT, Nat.reduceLeDiff, Nat.reduceEqDiff, reduceIte, l3, hc3, decide_true, hixt, hixb2, hwi, r1, r2, r3]
    exact ⟨i + 1, by omega, by omega, by simp [headW, heapW, envW, blkLt, D.ltL, D.lt, look, hget, lg]⟩
  cases r4 : decide (pyK p k ≤ y2)
  · simp only [FS, ↓RE, okR, argEnv, Nat.reduceAdd, Nat.reduceSub, Nat.reduceLT, Nat.reduceLeDiff, Nat.reduceEqDiff, reduceIte, l3, hc3, decide_true, hixt, hixb2, hwi, r1, r2, r3, r4]
    exact ⟨i + 1, by omega, by omega, by simp [headW, heapW, envW, blkLt, D.ltL, D.lt, look, hget, lg]⟩
  · rw [r1, r2, r3, r4] at hno
    cases hno

theorem waterTrue_pure : ∀ Ds, TyL Tryz.prog Tryz.f5.params.toList Ds → Pure Tryz.prog 5 Ds (.bool true) := by
  intro Ds h
  rw [Tryz.params5] at h
  match Ds, h with
  | [_, _, _, _], ⟨⟨n, _, hg, he⟩, ⟨n4, _, ht, he4⟩, ⟨n2, _, hf, he2⟩, ⟨n3, _, hu, he3⟩, _⟩ =>
    rw [Tryz.underlying33] at he
    rw [Tryz.underlying65] at he4
    rw [Tryz.underlying46] at he2
    rw [Tryz.underlying36] at he3
    dsimp only at he he2 he3 he4
    obtain ⟨s, rfl, hl⟩ := tySe hg
    obtain ⟨t, rfl, hd⟩ := tyTr ht
    obtain ⟨p, rfl⟩ := tySp hf
    obtain ⟨nd, rfl⟩ := tyNd hu
    subst he
    subst he2
    subst he3
    subst he4
    exact waterTrue_at s _ hl t hd p nd
end Go.Sx
