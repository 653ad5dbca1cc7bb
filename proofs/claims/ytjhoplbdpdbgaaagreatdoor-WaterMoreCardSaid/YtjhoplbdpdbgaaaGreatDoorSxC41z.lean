/- Own work: contracts of functions, used in the proof of a law. -/
import Derived.Test.YtjhoplbdpdbgaaaGreatDoorSxC40z
set_option linter.unusedVariables false
set_option linter.unusedSimpArgs false
namespace Go.Sx
open Go.Proofs
set_option maxRecDepth 10000

theorem cutAt {α : Type} {l : List α} {o n : Nat} {a : List α} (h : (l.drop o).take n = a) : l.drop o = a ++ l.drop (o + n) := by
  rw [← h, ← List.drop_drop, List.take_append_drop]
theorem tyWx {n : Nat} {ds : List D} (h : TyD Tryz.prog n 29 ds) : ∃ w : Wx, ds = w.c [] ∧ WxL w := by
  obtain ⟨hl, m, hf⟩ := tySt Tryz.underlying29 (by decide +kernel) h
  have hl : ds.length = 20 := hl.trans (by kernel_rfl)
  obtain ⟨g1, h1, l1⟩ := tyGa (hf 0 _ rfl)
  obtain ⟨g2, h2, l2⟩ := tyGa (hf 1 _ rfl)
  obtain ⟨g3, h3, l3⟩ := tyGa (hf 2 _ rfl)
  obtain ⟨g4, h4, l4⟩ := tyGa (hf 3 _ rfl)
  obtain ⟨g5, h5, l5⟩ := tyGa (hf 4 _ rfl)
  refine ⟨⟨g1, g2, g3, g4, g5⟩, ?_, ⟨l1, l2, l3, l4, l5⟩⟩
  have e0 : ds = ds.drop 0 := rfl
  have e1 : ds.drop 0 = g1.c ++ ds.drop 4 := cutAt h1
  have e2 : ds.drop 4 = g2.c ++ ds.drop 8 := cutAt h2
  have e3 : ds.drop 8 = g3.c ++ ds.drop 12 := cutAt h3
  have e4 : ds.drop 12 = g4.c ++ ds.drop 16 := cutAt h4
  have e5 : ds.drop 16 = g5.c ++ ds.drop 20 := cutAt h5
  have e6 : ds.drop 20 = [] := List.drop_of_length_le (by omega)
  rw [e0, e1, e2, e3, e4, e5, e6]
  rfl
theorem tySe {n : Nat} {ds : List D} (h : TyD Tryz.prog n 33 ds) : ∃ s : Se, ds = s.c (.sl (s.glares.map enGl.d)) ∧ SeL s (.sl (s.glares.map enGl.d)) := by
  obtain ⟨hl, m, hf⟩ := tySt Tryz.underlying33 (by decide +kernel) h
  have hl : ds.length = 25 := hl.trans (by kernel_rfl)
  have hc := hf 0 _ rfl
  obtain ⟨w, h2, hw⟩ := tyWx (hf 1 _ rfl)
  obtain ⟨bs, h3, hb⟩ := tyEn (E := enBt) Fz.und_30 (by decide +kernel) (fun m c h => tyBt h) (hf 2 _ rfl)
  obtain ⟨gs, h4, hg⟩ := tyEn (E := enGl) Fz.und_31 (by decide +kernel) (fun m c h => tyGl h) (hf 3 _ rfl)
  obtain ⟨hl2, m2, hf2⟩ := tySt Tryz.underlying24 (by decide +kernel) hc
  obtain ⟨x, h5, _⟩ := tyInt Fz.und_3 (hf2 0 _ rfl)
  obtain ⟨y, h6, _⟩ := tyInt Fz.und_3 (hf2 1 _ rfl)
  obtain ⟨dp, h7, hd⟩ := tyEn (E := enS) Fz.und_22 (by decide +kernel) (fun m c h => tySpan' h) (hf2 2 _ rfl)
  refine ⟨⟨x, y, dp, w, bs, gs⟩, ?_, ⟨hw, hd, hb, hg, En.sl_map _⟩⟩
  have h5 : (ds.drop 0).take 1 = [.int .i64 x] := by
    have : ((((ds.drop 0).take 3).drop 0).take 1) = [D.int .i64 x] := h5
    rw [List.drop_take, List.take_take] at this
    exact this
  have h6 : (ds.drop 1).take 1 = [.int .i64 y] := by
    have : ((((ds.drop 0).take 3).drop 1).take 1) = [D.int .i64 y] := h6
    rw [List.drop_take, List.take_take, List.drop_drop] at this
    exact this
  have h7 : (ds.drop 2).take 1 = [.sl (dp.map enS.d)] := by
    have : ((((ds.drop 0).take 3).drop 2).take 1) = [D.sl (dp.map enS.d)] := h7
    rw [List.drop_take, List.take_take, List.drop_drop] at this
    exact this
  have e0 : ds = ds.drop 0 := rfl
  have e1 : ds.drop 0 = [.int .i64 x] ++ ds.drop 1 := cutAt h5
  have e2 : ds.drop 1 = [.int .i64 y] ++ ds.drop 2 := cutAt h6
  have e3 : ds.drop 2 = [.sl (dp.map enS.d)] ++ ds.drop 3 := cutAt h7
  have e4 : ds.drop 3 = w.c [] ++ ds.drop 23 := cutAt h2
  have e5 : ds.drop 23 = [.sl (bs.map enBt.d)] ++ ds.drop 24 := cutAt h3
  have e6 : ds.drop 24 = [.sl (gs.map enGl.d)] ++ ds.drop 25 := cutAt h4
  have e7 : ds.drop 25 = [] := List.drop_of_length_le (by omega)
  rw [e0, e1, e2, e3, e4, e5, e6, e7]
  rfl

def gTn : List D → Option D := orc decSe (fun p => seLen p.1) fun p => .bool (tinyB p.1)
theorem gTn_eq {s : Se} {gd : D} (h : SeL s gd) : gTn [.agg (s.c gd)] = some (.bool (tinyB s)) := orc_eq (decSe_eq h.gd) ((seLen_iff h.gd).2 h)
abbrev o41 : List (FuncId × (List D → Option D)) := (15, gTrue) :: (13, gTn) :: o38
theorem o41_ok : OkO Tryz.prog (mkO o41) :=
  mkO_ok (fun ds r h => by obtain ⟨rfl, rfl⟩ := gTrue_inv h; exact known_t) <|
  mkO_ok (orc_ok fun ds q hd hk => by obtain ⟨s, gd⟩ := q; obtain ⟨rfl, hg⟩ := decSe_inv hd; exact tiny_t s gd ((seLen_iff hg).1 hk)) o38_ok

theorem waterBest_at (s : Se) (gd : D) (h : SeL s gd) (ps : List Sp) (hl : ps.length ≤ 9223372036854775807) (n : Nd) : Pure Tryz.prog 3 [.agg (s.c gd), .sl (ps.map enSp.d), .agg n.c] (.bool true) := by
  have vg := fun hp => En.view h.gd hp
  have lg := En.lt h.gd
  have hpl := fun hp => En.len (P := Tryz.prog) Fz.und_34 (En.sl_map (E := enSp) ps) hp
  have hdl := fun hp => En.len (P := Tryz.prog) Fz.und_22 (En.sl_map (E := enS) s.depths) hp
  have h0 := gTn_eq h
  have h1 := gSe_eq h
  have h3 := gNd_eq n
  simp only [Se.c, Se.cr, Wx.c, gaC] at h0 h1
  have hB := Best_t s gd h n ps hl
  refine pure_of_wc (rs := [.tmp 6]) (m := 137) [(12, [(7, false, false, [])])] o41_ok (by kernel_rfl) Tryz.func3 rfl (by kernel_rfl) rfl rfl (by kernel_rfl) ?_
  cases t0 : tinyB s
  · simp only [FS, ↓RE, okR, argEnv, Nat.reduceAdd, Nat.reduceSub, Nat.reduceLT, Nat.reduceLeDiff, Nat.reduceEqDiff, reduceIte, vg, lg, h0, t0, gTrue_eq]
  by_cases tb : okSe s = true ∧ (30 : Int) < (s.depths.length : Int)
  · simp only [FS, ↓RE, okR, argEnv, Nat.reduceAdd, Nat.reduceSub, Nat.reduceLT, Nat.reduceLeDiff, Nat.reduceEqDiff, reduceIte, vg, lg, h0, t0, gTrue_eq, h1, tb.1, hdl, tb.2, decide_true]
  have tb2 : okSe s = true → decide ((30 : Int) < (s.depths.length : Int)) = false := fun hs => by simpa [hs] using tb
  by_cases q20 : (20 : Int) < (ps.length : Int)
  · have q3 : (3 : Int) < (ps.length : Int) := by omega
    have q20' : ((ps.length : Int) ≤ 20) = False := by simp; omega
    have hA : BestA s gd ps n = (0, 0, 3) := by simp [BestA, q20]
    rw [hA] at hB
    by_cases q30 : (30 : Int) < (ps.length : Int)
    · cases hs : okSe s
      · simp only [FS, ↓RE, okR, argEnv, Nat.reduceAdd, Nat.reduceSub, Nat.reduceLT, Nat.reduceLeDiff, Nat.reduceEqDiff, reduceIte, vg, lg, h0, t0, gTrue_eq, h1, hs, hpl, q3, q20', q30, decide_true, decide_false]
      · simp only [FS, ↓RE, okR, argEnv, Nat.reduceAdd, Nat.reduceSub, Nat.reduceLT, Nat.reduceLeDiff, Nat.reduceEqDiff, reduceIte, vg, lg, h0, t0, gTrue_eq, h1, hs, hdl, tb2 hs, hpl, q3, q20', q30, decide_true, decide_false]
    · cases hs : okSe s
      · simp only [FS, ↓RE, okR, argEnv, Nat.reduceAdd, Nat.reduceSub, Nat.reduceLT, Nat.reduceLeDiff, Nat.reduceEqDiff, reduceIte, vg, lg, h0, t0, gTrue_eq, h1, hs, hpl, q3, q20', q30, decide_true, decide_false]
        refine call_of_pure' hB (by simp [D.ltL, D.lt, lg]) (by simp [D.ltL, D.lt]) ?_
        simp only [FS, ↓RE, okR, argEnv, Nat.reduceAdd, Nat.reduceSub, Nat.reduceLT, Nat.reduceLeDiff, Nat.reduceEqDiff, reduceIte, ex_tup, hpl, q20, decide_true, beq_self_eq_true, bne_self_eq_false, Int.reduceBEq, Int.reduceBNe, gTrue_eq]
      · simp only [FS, ↓RE, okR, argEnv, Nat.reduceAdd, Nat.reduceSub, Nat.reduceLT, Nat.reduceLeDiff, Nat.reduceEqDiff, reduceIte, vg, lg, h0, t0, gTrue_eq, h1, hs, hdl, tb2 hs, hpl, q3, q20', q30, decide_true, decide_false]
        refine call_of_pure' hB (by simp [D.ltL, D.lt, lg]) (by simp [D.ltL, D.lt]) ?_
        simp only [FS, ↓RE, okR, argEnv, Nat.reduceAdd, Nat.reduceSub, Nat.reduceLT, Nat.reduceLeDiff, Nat.reduceEqDiff, reduceIte, ex_tup, hpl, q20, decide_true, beq_self_eq_true, bne_self_eq_false, Int.reduceBEq, Int.reduceBNe, gTrue_eq]
  have q20' : ((ps.length : Int) ≤ 20) = True := by simp; omega
  have q30 : ¬((30 : Int) < (ps.length : Int)) := by omega
  by_cases q3 : (3 : Int) < (ps.length : Int)
  · cases hs : okSe s
    · simp only [FS, ↓RE, okR, argEnv, Nat.reduceAdd, Nat.reduceSub, Nat.reduceLT, Nat.reduceLeDiff, Nat.reduceEqDiff, reduceIte, vg, lg, h0, t0, gTrue_eq, h1, hs, hpl, q3, q20', q30, decide_true, decide_false]
    · simp only [FS, ↓RE, okR, argEnv, Nat.reduceAdd, Nat.reduceSub, Nat.reduceLT, Nat.reduceLeDiff, Nat.reduceEqDiff, reduceIte, vg, lg, h0, t0, gTrue_eq, h1, hs, hdl, tb2 hs, hpl, q3, q20', q30, decide_true, decide_false]
  cases hs : okSe s
  · have hA : BestA s gd ps n = (0, 0, 2) := by simp [BestA, q20, hs]
    rw [hA] at hB
    simp only [FS, ↓RE, okR, argEnv, Nat.reduceAdd, Nat.reduceSub, Nat.reduceLT, Nat.reduceLeDiff, Nat.reduceEqDiff, reduceIte, vg, lg, h0, t0, gTrue_eq, h1, hs, hpl, q3, q20', q30, decide_true, decide_false]
    refine call_of_pure' hB (by simp [D.ltL, D.lt, lg]) (by simp [D.ltL, D.lt]) ?_
    simp only [FS, ↓RE, okR, argEnv, Nat.reduceAdd, Nat.reduceSub, Nat.reduceLT, Nat.reduceLeDiff, Nat.reduceEqDiff, reduceIte, ex_tup, hpl, q20, vg, lg, h1, hs, decide_false, beq_self_eq_true, bne_self_eq_false, Int.reduceBEq, Int.reduceBNe, gTrue_eq]
  cases hn : okNd n
  · have hA : BestA s gd ps n = (0, 0, 2) := by simp [BestA, q20, hs, hn]
    rw [hA] at hB
    simp only [FS, ↓RE, okR, argEnv, Nat.reduceAdd, Nat.reduceSub, Nat.reduceLT, Nat.reduceLeDiff, Nat.reduceEqDiff, reduceIte, vg, lg, h0, t0, gTrue_eq, h1, hs, hdl, tb2 hs, hpl, q3, q20', q30, decide_true, decide_false]
    refine call_of_pure' hB (by simp [D.ltL, D.lt, lg]) (by simp [D.ltL, D.lt]) ?_
    simp only [FS, ↓RE, okR, argEnv, Nat.reduceAdd, Nat.reduceSub, Nat.reduceLT, Nat.reduceLeDiff, Nat.reduceEqDiff, reduceIte, ex_tup, hpl, q20, vg, lg, h1, hs, h3, hn, decide_false, beq_self_eq_true, bne_self_eq_false, Int.reduceBEq, Int.reduceBNe, gTrue_eq]
  simp only [FS, ↓RE, okR, argEnv, Nat.reduceAdd, Nat.reduceSub, Nat.reduceLT, Nat.reduceLeDiff, Nat.reduceEqDiff, reduceIte, vg, lg, h0, t0, gTrue_eq, h1, hs, hdl, tb2 hs, hpl, q3, q20', q30, decide_true, decide_false]
  refine call_of_pure' hB (by simp [D.ltL, D.lt, lg]) (by simp [D.ltL, D.lt]) ?_
  simp only [FS, ↓RE, okR, argEnv, Nat.reduceAdd, Nat.reduceSub, Nat.reduceLT, Nat.reduceLeDiff, Nat.reduceEqDiff, reduceIte, ex_tup, hpl, q20, vg, lg, h1, hs, h3, hn, decide_false]
  have hso : gWx = gWx := rfl
  refine loopV (ι := Nat) o41_ok [(12, [(7, false, false, [])])] (fun k => [(1, .sl (ps.map enSp.d)), (3, .ptr 0 0), (5, .ptr 1 0), (7, .int .i64 (BestA s gd ps n).1), (8, .int .i64 (BestA s gd ps n).2.1), (9, .int .i64 (BestA s gd ps n).2.2), (10, .int .i64 (if (ps.take k).all (okSp s) then 0 else 2)), (11, .int .i64 (k : Int))])
    (fun k => [(1, .box n.c), (0, .box (s.c gd))]) 2 (fun k => k ≤ ps.length) (fun k => ps.length - k) 0 (by kernel_rfl) (by kernel_rfl) (Nat.zero_le _) ?_ ?_
  · simp [headW, heapW, envW, blkLt, D.ltL, D.lt, look, hget, lg]
  intro k hk
  rcases Nat.lt_or_ge k ps.length with hkl | hkg
  · have hc : ((k : Int) < (ps.length : Int)) = True := by simp [hkl]
    obtain ⟨p, hp⟩ : ∃ p, ps[k]? = some p := ⟨ps[k], by simp [hkl]⟩
    have hix : ∀ hh, indexAddrD Tryz.prog hh 34 (.sl (ps.map enSp.d)) (.int .i64 (k : Int)) = some (.ref [.int .i64 p.x, .int .i64 p.y, .int .i64 p.way, .int .i64 p.cells] 0) := fun hh => En.ix (P := Tryz.prog) Fz.und_34 Fz.size_46 (En.sl_map (E := enSp) ps) hp hh .i64
    have h2 := gSp_eq h hs p
    simp only [Se.c, Se.cr, Wx.c, gaC] at h2
    have hwk := wrap_i64 (z := (k : Int) + 1) (by omega) (by omega)
    have hts : (ps.take (k + 1)).all (okSp s) = ((ps.take k).all (okSp s) && okSp s p) := by
      rw [List.take_add_one, hp]; simp
    cases q : okSp s p
    · rw [q, Bool.and_false] at hts
      simp only [FS, ↓RE, okR, argEnv, Nat.reduceAdd, Nat.reduceSub, Nat.reduceLT, Nat.reduceLeDiff, Nat.reduceEqDiff, reduceIte, hpl, hc, decide_true, hix, vg, lg, h2, q, hwk]
      exact ⟨k + 1, by omega, by omega, by simp [headW, heapW, envW, blkLt, D.ltL, D.lt, look, hget, lg, hts]⟩
    · rw [q, Bool.and_true] at hts
      simp only [FS, ↓RE, okR, argEnv, Nat.reduceAdd, Nat.reduceSub, Nat.reduceLT, Nat.reduceLeDiff, Nat.reduceEqDiff, reduceIte, hpl, hc, decide_true, hix, vg, lg, h2, q, hwk]
      exact ⟨k + 1, by omega, by omega, by simp [headW, heapW, envW, blkLt, D.ltL, D.lt, look, hget, lg, hts]⟩
  have : k = ps.length := by omega
  subst this
  rw [List.take_length]
  cases ha : ps.all (okSp s)
  · have hA : BestA s gd ps n = (0, 0, 2) := by simp [BestA, q20, hs, hn, ha]
    rw [hA]
    simp only [FS, ↓RE, okR, argEnv, Nat.reduceAdd, Nat.reduceSub, Nat.reduceLT, Nat.reduceLeDiff, Nat.reduceEqDiff, reduceIte, hpl, Int.lt_irrefl, decide_false, Bool.false_eq_true, Int.reduceBEq, Int.reduceBNe, beq_self_eq_true, bne_self_eq_false, gTrue_eq]
  have hsw : orc decWx okWx (fun w => .bool (soundW w)) [.agg (s.w.c [])] = some (.bool (soundW s.w)) := orc_eq (decWx_eq s.w) (okSe_wx hs)
  simp only [Wx.c, gaC] at hsw
  cases hsd : soundW s.w
  · have hA : BestA s gd ps n = (0, 0, 5) := by simp [BestA, q20, hs, hn, ha, hsd]
    rw [hA]
    simp only [FS, ↓RE, okR, argEnv, Nat.reduceAdd, Nat.reduceSub, Nat.reduceLT, Nat.reduceLeDiff, Nat.reduceEqDiff, reduceIte, hpl, Int.lt_irrefl, decide_false, Int.reduceBEq, Int.reduceBNe, beq_self_eq_true, bne_self_eq_false, gTrue_eq, hsw, hsd]
  have hps : ∀ p ∈ ps, okSp s p = true := List.all_eq_true.1 ha
  have hR := rBest_t s gd h hs n hn ps hps (by omega)
  have hA : BestA s gd ps n = if (bestG (cntS s gd n) ps 0 (0, 0)).2 = 0 then (0, 0, 7) else ((bestG (cntS s gd n) ps 0 (0, 0)).1, (bestG (cntS s gd n) ps 0 (0, 0)).2, 0) := by simp [BestA, q20, hs, hn, ha, hsd]
  simp only [FS, ↓RE, okR, argEnv, Nat.reduceAdd, Nat.reduceSub, Nat.reduceLT, Nat.reduceLeDiff, Nat.reduceEqDiff, reduceIte, hpl, Int.lt_irrefl, decide_false, Int.reduceBEq, Int.reduceBNe, beq_self_eq_true, bne_self_eq_false, gTrue_eq, hsw, hsd, vg, lg]
  refine call_of_pure' hR (by simp [D.ltL, D.lt, lg]) (by simp [D.ltL, D.lt]) ?_
  by_cases hz : (bestG (cntS s gd n) ps 0 (0, 0)).2 = 0
  · rw [if_pos hz] at hA
    rw [hA, hz]
    simp only [FS, ↓RE, okR, argEnv, Nat.reduceAdd, Nat.reduceSub, Nat.reduceLT, Nat.reduceLeDiff, Nat.reduceEqDiff, reduceIte, ex_tup, Int.reduceBEq, Int.reduceBNe, beq_self_eq_true, bne_self_eq_false, gTrue_eq]
  · rw [if_neg hz] at hA
    have hz2 : ((bestG (cntS s gd n) ps 0 (0, 0)).2 == 0) = false := by simpa using hz
    rw [hA]
    simp only [FS, ↓RE, okR, argEnv, Nat.reduceAdd, Nat.reduceSub, Nat.reduceLT, Nat.reduceLeDiff, Nat.reduceEqDiff, reduceIte, ex_tup, hz2, Int.reduceBEq, Int.reduceBNe, beq_self_eq_true, bne_self_eq_false, gTrue_eq]

theorem waterBest_pure : ∀ Ds, TyL Tryz.prog Tryz.f3.params.toList Ds → Pure Tryz.prog 3 Ds (.bool true) := by
  intro Ds h
  rw [Tryz.params3] at h
  match Ds, h with
  | [_, _, _], ⟨⟨n, _, hg, he⟩, ⟨n2, _, hf, he2⟩, ⟨n3, _, hu, he3⟩, _⟩ =>
    rw [Tryz.underlying33] at he
    rw [Fz.und_34] at he2
    rw [Tryz.underlying36] at he3
    dsimp only at he he2 he3
    obtain ⟨s, rfl, hl⟩ := tySe hg
    obtain ⟨ps, rfl, hl2⟩ := tyEn (E := enSp) Fz.und_34 (by decide +kernel) (fun m c h => tySp h) hf
    obtain ⟨nd, rfl⟩ := tyNd hu
    cases he2
    subst he
    subst he3
    exact waterBest_at s _ hl ps hl2 nd
end Go.Sx
