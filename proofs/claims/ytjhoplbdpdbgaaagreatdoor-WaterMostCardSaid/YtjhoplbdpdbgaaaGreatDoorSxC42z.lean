/- Own work: contracts of functions, used in the proof of a law. -/
import Derived.Test.YtjhoplbdpdbgaaaGreatDoorSxC39z
set_option linter.unusedVariables false
set_option linter.unusedSimpArgs false
namespace Go.Sx
open Go.Proofs
set_option maxRecDepth 10000

/-! Possibly deep -/
def sureB (l : Lk) (i : Nat) : Bool := (match l.s.boats[i]? with
  | some b => b.sure
  | none => false) && passB l i
theorem pd11_t (l : Lk) (hg : enGl.sl l.gd = some l.s.glares) (i : Nat) (hi : i < l.s.boats.length) : Pure Tryz.prog 148 [.int .i64 (i : Int), .ref l.c 0] (.bool (sureB l i)) := by
  have vg := fun hp => En.view hg hp
  have lg := En.lt hg
  obtain ⟨b, hb⟩ : ∃ b, l.s.boats[i]? = some b := ⟨l.s.boats[i], by simp [hi]⟩
  have hix := fun hp => En.ix (P := Tryz.prog) Fz.und_30 Fz.size_72 (En.sl_map (E := enBt) l.s.boats) hb hp .i64
  have hp := gL1_eq okPs (fun q => .bool (passB q.1 q.2.toNat)) l hg (i := (i : Int)) (by simp [okPs, hi])
  have hsb : sureB l i = (b.sure && passB l i) := by simp [sureB, hb]
  obtain ⟨⟨x1, x2⟩, ⟨y1, y2⟩, ⟨t1, t2⟩, su⟩ := b
  have hix2 : ∀ hp, indexAddrD Tryz.prog hp 30 (.sl (l.s.boats.map enBt.d)) (.int .i64 (i : Int)) = some (.ref [.int .i64 x1, .int .i64 x2, .int .i64 y1, .int .i64 y2, .int .i64 t1, .int .i64 t2, .bool su] 0) := hix
  simp only [Lk.c, Se.cr, Wx.c, gaC, Int.toNat_natCast] at hp
  rw [hsb]
  refine pure_of_wc (rs := [.tmp 3]) (m := 16) [] o38_ok (by kernel_rfl) Tryz.func148 rfl (by kernel_rfl) rfl rfl (by kernel_rfl) ?_
  cases su
  · simp only [FS, ↓RE, okR, argEnv, Nat.reduceAdd, Nat.reduceSub, Nat.reduceLT, Nat.reduceLeDiff, Nat.reduceEqDiff, reduceIte, vg, lg, hix2, hp]
    simp
  · simp only [FS, ↓RE, okR, argEnv, Nat.reduceAdd, Nat.reduceSub, Nat.reduceLT, Nat.reduceLeDiff, Nat.reduceEqDiff, reduceIte, vg, lg, hix2, hp]
    simp
theorem pd1_t (l : Lk) (hg : enGl.sl l.gd = some l.s.glares) (hs : okSe l.s = true) (hp : okSp l.s l.p = true) (hbl : l.s.boats.length ≤ 9223372036854775807) (tide : Int) (ht : -100000 ≤ tide ∧ tide ≤ 100000) (k : Nat) (hk : (k : Int) < l.p.cells) :
    Pure Tryz.prog 147 [.int .i64 (k : Int), .ref l.c 0, .ref [.int .i64 tide] 0] (.bool (goodK l (fun i => (dpAt l.s i).2) tide (sureB l) k)) := by
  have vg := fun hp => En.view hg hp
  have lg := En.lt hg
  obtain ⟨hw, hd, hlen⟩ := okSe_sz hs
  have hk' : 0 ≤ (k : Int) ∧ (k : Int) ≤ l.p.cells - 1 := by omega
  have hcl := cell_lt hw.1 hp hk'
  obtain ⟨hdp, hdb⟩ := dp_ok hs hcl.1 hcl.2
  have hce := gL1_eq okCl (fun q => .tup [.int .i64 (cellI q.1.s q.1.p q.2), .int .i64 (pxK q.1.p q.2), .int .i64 (pyK q.1.p q.2)]) l hg (i := (k : Int)) (by simp [okCl, bIn, hp]; omega)
  have hix := fun hh => En.ix (P := Tryz.prog) Fz.und_22 Fz.size_70 (En.sl_map (E := enS) l.s.depths) hdp hh .i64
  rw [Int.toNat_of_nonneg hcl.1] at hix
  have hix2 : ∀ hh, indexAddrD Tryz.prog hh 22 (.sl (l.s.depths.map enS.d)) (.int .i64 (cellI l.s l.p k)) = some (.ref [.int .i64 (dpAt l.s (cellI l.s l.p k)).1, .int .i64 (dpAt l.s (cellI l.s l.p k)).2] 0) := hix
  have hwr := wrap_i64 (z := (dpAt l.s (cellI l.s l.p k)).2 + tide) (by omega) (by omega)
  simp only [Lk.c, Se.cr, Wx.c, gaC] at hce
  refine pure_of_wc (rs := [.tmp 4]) (m := 36) [(2, [(22, false, false, [])])] o38_ok (by kernel_rfl) Tryz.func147 rfl (by kernel_rfl) rfl rfl (by kernel_rfl) ?_
  cases hq : decide (l.n.draught ≤ (dpAt l.s (cellI l.s l.p k)).2 + tide)
  · simp only [FS, ↓RE, okR, argEnv, Nat.reduceAdd, Nat.reduceSub, Nat.reduceLT, Nat.reduceLeDiff, Nat.reduceEqDiff, reduceIte, vg, lg, hce, ex_tup, hix2, hwr, hq]
    simp [goodK, hq]
  simp only [FS, ↓RE, okR, argEnv, Nat.reduceAdd, Nat.reduceSub, Nat.reduceLT, Nat.reduceLeDiff, Nat.reduceEqDiff, reduceIte, vg, lg, hce, ex_tup, hix2, hwr, hq]
  refine call_of_pure (free_t l hg hbl (pxK l.p k) (pyK l.p k) 148 [] [.ref l.c 0] (sureB l) (fun _ => rfl) (fun _ => rfl) (fun _ => rfl) (fun _ => rfl) (fun _ _ => rfl) fun i hi => pd11_t l hg i hi) rfl ?_
  simp only [FS, ↓RE, okR, argEnv, Nat.reduceAdd, Nat.reduceSub, Nat.reduceLT, Nat.reduceLeDiff, Nat.reduceEqDiff, reduceIte, vg, lg]
  simp [goodK, hq]
def offP (l : Lk) : Int := runP (goodK l (fun i => (dpAt l.s i).2) (atL l.s.w.tide l.t).2 (sureB l)) l.n.run l.p.cells.toNat 0 0
theorem possiblyDeep_t (l : Lk) (h : LkOk l) : Pure Tryz.prog 121 [.agg l.c] (.bool (decide (0 ≤ offP l))) := by
  have hg := h.se.gd
  have vg := fun hp => En.view hg hp
  have lg := En.lt hg
  have hwx := okWx_gaOk (okSe_wx h.s)
  have hat := gAtL l.s.w.tide l.t ⟨hwx.tide, h.t⟩
  have htb := (at_bounds hwx.tide l.t).2
  refine pure_of_wc (rs := [.tmp 2]) (m := 19) [] o38_ok (by kernel_rfl) Tryz.func121 rfl (by kernel_rfl) rfl rfl (by kernel_rfl) ?_
  simp only [FS, ↓RE, okR, argEnv, Nat.reduceAdd, Nat.reduceSub, Nat.reduceLT, Nat.reduceLeDiff, Nat.reduceEqDiff, reduceIte, vg, lg, hat]
  refine call_of_pure (run_t l hg l.n.run (okNd_run h.n) (okSp_ce h.p).2 147 [] [.ref l.c 0, .ref [.int .i64 (atL l.s.w.tide l.t).2] 0] (goodK l (fun i => (dpAt l.s i).2) (atL l.s.w.tide l.t).2 (sureB l)) (fun _ => rfl) (fun _ => rfl) (fun _ _ => rfl) fun i hi => pd1_t l hg h.s h.p h.se.boats _ htb i hi) rfl ?_
  simp only [FS, ↓RE, okR, argEnv, Nat.reduceAdd, Nat.reduceSub, Nat.reduceLT, Nat.reduceLeDiff, Nat.reduceEqDiff, reduceIte]
  rfl

/-! The side of a wind -/
def sideW (w : Int) (n : Nd) (e k : Int) : Int := if acrW w e k * acrW w e k ≤ lenW w * n.cross * n.cross then 0 else if dxW w = 0 ∨ (decide (acrW w e k < 0) == decide (0 < dxW w)) = true then 1 else -1
theorem side_t (l : Lk) (hg : enGl.sl l.gd = some l.s.glares) (e n : Int) (hw : okWay l.p.way = true) (he : okWind e = true) (hn : okWind n = true) (hnd : okNd l.n = true) :
    Pure Tryz.prog 151 [.agg l.c, .int .i64 e, .int .i64 n] (.int .i64 (sideW l.p.way l.n e n)) := by
  have vg := fun hp => En.view hg hp
  have lg := En.lt hg
  have m1 := mulw _ e hw he
  have m2 := mulw _ n hw hn
  have hok : okWd (l, e, n) = true := by simp [okWd, hw, he, hn]
  have c1 := gL2_eq okWd (fun q => .int .i64 (acrW q.1.p.way q.2.1 q.2.2)) l hg hok
  have c3 := gL0_eq (fun l => okWay l.p.way) (fun l => .int .i64 (lenW l.p.way)) l hg hw
  have hcr := okNd_ct hnd
  have b1 := sqb (a := acrW l.p.way e n) (M := 400000) (by simp only [acrW]; omega) (by omega)
  have k1 := lenb hw hcr.1
  have h1 := wrap_i64 (z := acrW l.p.way e n * acrW l.p.way e n) (by omega) (by omega)
  have h3 := wrap_i64 (z := lenW l.p.way * l.n.cross) (by omega) (by omega)
  have h4 := wrap_i64 (z := lenW l.p.way * l.n.cross * l.n.cross) (by omega) (by omega)
  simp only [Lk.c, Se.cr, Wx.c, gaC] at c1 c3
  refine pure_of_wc (rs := [.tmp 6]) (m := 44) [(2, [(14, false, false, [])])] o38_ok (by kernel_rfl) Tryz.func151 rfl (by kernel_rfl) rfl rfl (by kernel_rfl) ?_
  by_cases q1 : acrW l.p.way e n * acrW l.p.way e n ≤ lenW l.p.way * l.n.cross * l.n.cross
  · simp only [FS, ↓RE, okR, argEnv, Nat.reduceAdd, Nat.reduceSub, Nat.reduceLT, Nat.reduceLeDiff, Nat.reduceEqDiff, reduceIte, vg, lg, c1, c3, h1, h3, h4, q1, decide_true]
    simp [sideW, q1]
  by_cases q2 : dxW l.p.way = 0
  · have q2' : (dxW l.p.way == 0) = true := by simpa using q2
    simp only [FS, ↓RE, okR, argEnv, Nat.reduceAdd, Nat.reduceSub, Nat.reduceLT, Nat.reduceLeDiff, Nat.reduceEqDiff, reduceIte, vg, lg, c1, c3, h1, h3, h4, q1, decide_false, gSt_eq hw, ex_tup, q2']
    simp [sideW, q1, q2]
  have q2' : (dxW l.p.way == 0) = false := by simpa using q2
  have hbb := fun x y => binB_eq (P := Tryz.prog) Fz.und_4 x y
  cases q3 : (decide (acrW l.p.way e n < 0) == decide (0 < dxW l.p.way))
  · simp only [FS, ↓RE, okR, argEnv, Nat.reduceAdd, Nat.reduceSub, Nat.reduceLT, Nat.reduceLeDiff, Nat.reduceEqDiff, reduceIte, vg, lg, c1, c3, h1, h3, h4, q1, decide_false, gSt_eq hw, ex_tup, q2', hbb, q3]
    simp only [sideW, if_neg q1, q3, q2]
    simp
  · simp only [FS, ↓RE, okR, argEnv, Nat.reduceAdd, Nat.reduceSub, Nat.reduceLT, Nat.reduceLeDiff, Nat.reduceEqDiff, reduceIte, vg, lg, c1, c3, h1, h3, h4, q1, decide_false, gSt_eq hw, ex_tup, q2', hbb, q3]
    simp only [sideW, if_neg q1, q3]
    simp
def gSide : List D → Option D := gL2 (fun q => okWd q && okNd q.1.n) fun q => .int .i64 (sideW q.1.p.way q.1.n q.2.1 q.2.2)
abbrev o42 : List (FuncId × (List D → Option D)) := (151, gSide) :: o38
theorem o42_ok : OkO Tryz.prog (mkO o42) :=
  mkO_ok (orc_ok fun ds q hd hk => by
    obtain ⟨rfl, hg⟩ := decL2_inv hd
    simp only [okWd, Bool.and_eq_true] at hk
    exact side_t _ hg _ _ hk.1.1 hk.1.2.1 hk.1.2.2 hk.2) o38_ok
theorem pc1_t (l : Lk) (hg : enGl.sl l.gd = some l.s.glares) (e n : Int) (hw : okWay l.p.way = true) (he : okWind e = true) (hn : okWind n = true) (hnd : okNd l.n = true) :
    Pure Tryz.prog 150 [.int .i64 n, .ref l.c 0, .ref [.int .i64 e] 0] (.bool (decide (0 ≤ sideW l.p.way l.n e n))) := by
  have vg := fun hp => En.view hg hp
  have lg := En.lt hg
  have c1 := gL2_eq (fun q => okWd q && okNd q.1.n) (fun q => .int .i64 (sideW q.1.p.way q.1.n q.2.1 q.2.2)) l hg (i := e) (j := n) (by simp [okWd, hw, he, hn, hnd])
  have c1 : gSide [.agg l.c, .int .i64 e, .int .i64 n] = _ := c1
  simp only [Lk.c, Se.cr, Wx.c, gaC] at c1
  refine pure_of_wc (rs := [.tmp 4]) (m := 10) [] o42_ok (by kernel_rfl) Tryz.func150 rfl (by kernel_rfl) rfl rfl (by kernel_rfl) ?_
  simp only [FS, ↓RE, okR, argEnv, Nat.reduceAdd, Nat.reduceSub, Nat.reduceLT, Nat.reduceLeDiff, Nat.reduceEqDiff, reduceIte, vg, lg, c1]
theorem pc2_t (l : Lk) (hg : enGl.sl l.gd = some l.s.glares) (e n : Int) (hw : okWay l.p.way = true) (he : okWind e = true) (hn : okWind n = true) (hnd : okNd l.n = true) :
    Pure Tryz.prog 152 [.int .i64 n, .ref l.c 0, .ref [.int .i64 e] 0] (.bool (decide (0 < sideW l.p.way l.n e n))) := by
  have vg := fun hp => En.view hg hp
  have lg := En.lt hg
  have c1 := gL2_eq (fun q => okWd q && okNd q.1.n) (fun q => .int .i64 (sideW q.1.p.way q.1.n q.2.1 q.2.2)) l hg (i := e) (j := n) (by simp [okWd, hw, he, hn, hnd])
  have c1 : gSide [.agg l.c, .int .i64 e, .int .i64 n] = _ := c1
  simp only [Lk.c, Se.cr, Wx.c, gaC] at c1
  refine pure_of_wc (rs := [.tmp 4]) (m := 10) [] o42_ok (by kernel_rfl) Tryz.func152 rfl (by kernel_rfl) rfl rfl (by kernel_rfl) ?_
  simp only [FS, ↓RE, okR, argEnv, Nat.reduceAdd, Nat.reduceSub, Nat.reduceLT, Nat.reduceLeDiff, Nat.reduceEqDiff, reduceIte, vg, lg, c1]
end Go.Sx
