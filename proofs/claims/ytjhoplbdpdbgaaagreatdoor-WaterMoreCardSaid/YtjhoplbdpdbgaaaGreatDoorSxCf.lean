/- Own work: a calculus of contracts for the programs of this kit: parts SxC42z, SxC43z, SxC44z, SxC45z, SxC46z, SxC47z. -/
import Derived.Test.YtjhoplbdpdbgaaaGreatDoorSxCe
set_option linter.unusedVariables false
set_option linter.unusedSimpArgs false
namespace Go.Sx
open Go.Proofs
set_option maxRecDepth 10000

/-! Possibly deep -/
def sureB (l : Lk) (i : Nat) : Bool := (match l.s.boats[i]? with
  | some b => b.sure
  | none => false) && passB l i
theorem pd11_t (l : Lk) (hg : enGl.sl l.gd = some l.s.glares) (i : Nat) (hi : i < l.s.boats.length) : Pure Tryz.prog 148 [.int .i64 (i : Int), .ref l.c 0] (.bool (sureB l i)) := by
  have vg := fun hp => En.view hg hp
  have lg := En.lt hg
  obtain ⟨b, hb⟩ : ∃ b, l.s.boats[i]? = some b := ⟨l.s.boats[i], by simp [hi]⟩
  have hix := fun hp => En.ix (P := Tryz.prog) Fz.und_30 Fz.size_72 (En.sl_map (E := enBt) l.s.boats) hb hp .i64
  have hp := gL1_eq okPs (fun q => .bool (passB q.1 q.2.toNat)) l hg (i := (i : Int)) (by simp [okPs, hi])
  have hsb : sureB l i = (b.sure && passB l i) := by simp [sureB, hb]
  obtain ⟨⟨x1, x2⟩, ⟨y1, y2⟩, ⟨t1, t2⟩, su⟩ := b
  have hix2 : ∀ hp, indexAddrD Tryz.prog hp 30 (.sl (l.s.boats.map enBt.d)) (.int .i64 (i : Int)) = some (.ref [.int .i64 x1, .int .i64 x2, .int .i64 y1, .int .i64 y2, .int .i64 t1, .int .i64 t2, .bool su] 0) := hix
  simp only [Lk.c, Se.cr, Wx.c, gaC, Int.toNat_natCast] at hp
  rw [hsb]
  refine pure_of_wc (rs := [.tmp 3]) (m := 16) [] o38_ok (by kernel_rfl) Tryz.func148 rfl (by kernel_rfl) rfl rfl (by kernel_rfl) ?_
  cases su
  · simp only [FS, ↓RE, okR, argEnv, Nat.reduceAdd, Nat.reduceSub, Nat.reduceLT, Nat.reduceLeDiff, Nat.reduceEqDiff, reduceIte, vg, lg, hix2, hp]
    simp
  · simp only [FS, ↓RE, okR, argEnv, Nat.reduceAdd, Nat.reduceSub, Nat.reduceLT, Nat.reduceLeDiff, Nat.reduceEqDiff, reduceIte, vg, lg, hix2, hp]
    simp
theorem pd1_t (l : Lk) (hg : enGl.sl l.gd = some l.s.glares) (hs : okSe l.s = true) (hp : okSp l.s l.p = true) (hbl : l.s.boats.length ≤ 9223372036854775807) (tide : Int) (ht : -100000 ≤ tide ∧ tide ≤ 100000) (k : Nat) (hk : (k : Int) < l.p.cells) :
    Pure Tryz.prog 147 [.int .i64 (k : Int), .ref l.c 0, .ref [.int .i64 tide] 0] (.bool (goodK l (fun i => (dpAt l.s i).2) tide (sureB l) k)) := by
  have vg := fun hp => En.view hg hp
  have lg := En.lt hg
  obtain ⟨hw, hd, hlen⟩ := okSe_sz hs
  have hk' : 0 ≤ (k : Int) ∧ (k : Int) ≤ l.p.cells - 1 := by omega
  have hcl := cell_lt hw.1 hp hk'
  obtain ⟨hdp, hdb⟩ := dp_ok hs hcl.1 hcl.2
  have hce := gL1_eq okCl (fun q => .tup [.int .i64 (cellI q.1.s q.1.p q.2), .int .i64 (pxK q.1.p q.2), .int .i64 (pyK q.1.p q.2)]) l hg (i := (k : Int)) (by simp [okCl, bIn, hp]; omega)
  have hix := fun hh => En.ix (P := Tryz.prog) Fz.und_22 Fz.size_70 (En.sl_map (E := enS) l.s.depths) hdp hh .i64
  rw [Int.toNat_of_nonneg hcl.1] at hix
  have hix2 : ∀ hh, indexAddrD Tryz.prog hh 22 (.sl (l.s.depths.map enS.d)) (.int .i64 (cellI l.s l.p k)) = some (.ref [.int .i64 (dpAt l.s (cellI l.s l.p k)).1, .int .i64 (dpAt l.s (cellI l.s l.p k)).2] 0) := hix
  have hwr := wrap_i64 (z := (dpAt l.s (cellI l.s l.p k)).2 + tide) (by omega) (by omega)
  simp only [Lk.c, Se.cr, Wx.c, gaC] at hce
  refine pure_of_wc (rs := [.tmp 4]) (m := 36) [(2, [(22, false, false, [])])] o38_ok (by kernel_rfl) Tryz.func147 rfl (by kernel_rfl) rfl rfl (by kernel_rfl) ?_
  cases hq : decide (l.n.draught ≤ (dpAt l.s (cellI l.s l.p k)).2 + tide)
  · simp only [FS, ↓RE, okR, argEnv, Nat.reduceAdd, Nat.reduceSub, Nat.reduceLT, Nat.reduceLeDiff, Nat.reduceEqDiff, reduceIte, vg, lg, hce, ex_tup, hix2, hwr, hq]
    simp [goodK, hq]
  simp only [FS, ↓RE, okR, argEnv, Nat.reduceAdd, Nat.reduceSub, Nat.reduceLT, Nat.reduceLeDiff, Nat.reduceEqDiff, reduceIte, vg, lg, hce, ex_tup, hix2, hwr, hq]
  refine call_of_pure (free_t l hg hbl (pxK l.p k) (pyK l.p k) 148 [] [.ref l.c 0] (sureB l) (fun _ => rfl) (fun _ => rfl) (fun _ => rfl) (fun _ => rfl) (fun _ _ => rfl) fun i hi => pd11_t l hg i hi) rfl ?_
  simp only [FS, ↓RE, okR, argEnv, Nat.reduceAdd, Nat.reduceSub, Nat.reduceLT, Nat.reduceLeDiff, Nat.reduceEqDiff, reduceIte, vg, lg]
  simp [goodK, hq]
def offP (l : Lk) : Int := runP (goodK l (fun i => (dpAt l.s i).2) (atL l.s.w.tide l.t).2 (sureB l)) l.n.run l.p.cells.toNat 0 0
theorem possiblyDeep_t (l : Lk) (h : LkOk l) : Pure Tryz.prog 121 [.agg l.c] (.bool (decide (0 ≤ offP l))) := by
  have hg := h.se.gd
  have vg := fun hp => En.view hg hp
  have lg := En.lt hg
  have hwx := okWx_gaOk (okSe_wx h.s)
  have hat := gAtL l.s.w.tide l.t ⟨hwx.tide, h.t⟩
  have htb := (at_bounds hwx.tide l.t).2
  refine pure_of_wc (rs := [.tmp 2]) (m := 19) [] o38_ok (by kernel_rfl) Tryz.func121 rfl (by kernel_rfl) rfl rfl (by kernel_rfl) ?_
  simp only [FS, ↓RE, okR, argEnv, Nat.reduceAdd, Nat.reduceSub, Nat.reduceLT, Nat.reduceLeDiff, Nat.reduceEqDiff, reduceIte, vg, lg, hat]
  refine call_of_pure (run_t l hg l.n.run (okNd_run h.n) (okSp_ce h.p).2 147 [] [.ref l.c 0, .ref [.int .i64 (atL l.s.w.tide l.t).2] 0] (goodK l (fun i => (dpAt l.s i).2) (atL l.s.w.tide l.t).2 (sureB l)) (fun _ => rfl) (fun _ => rfl) (fun _ _ => rfl) fun i hi => pd1_t l hg h.s h.p h.se.boats _ htb i hi) rfl ?_
  simp only [FS, ↓RE, okR, argEnv, Nat.reduceAdd, Nat.reduceSub, Nat.reduceLT, Nat.reduceLeDiff, Nat.reduceEqDiff, reduceIte]
  rfl

/-! The side of a wind -/
def sideW (w : Int) (n : Nd) (e k : Int) : Int := if acrW w e k * acrW w e k ≤ lenW w * n.cross * n.cross then 0 else if dxW w = 0 ∨ (decide (acrW w e k < 0) == decide (0 < dxW w)) = true then 1 else -1
theorem side_t (l : Lk) (hg : enGl.sl l.gd = some l.s.glares) (e n : Int) (hw : okWay l.p.way = true) (he : okWind e = true) (hn : okWind n = true) (hnd : okNd l.n = true) :
    Pure Tryz.prog 151 [.agg l.c, .int .i64 e, .int .i64 n] (.int .i64 (sideW l.p.way l.n e n)) := by
  have vg := fun hp => En.view hg hp
  have lg := En.lt hg
  have m1 := mulw _ e hw he
  have m2 := mulw _ n hw hn
  have hok : okWd (l, e, n) = true := by simp [okWd, hw, he, hn]
  have c1 := gL2_eq okWd (fun q => .int .i64 (acrW q.1.p.way q.2.1 q.2.2)) l hg hok
  have c3 := gL0_eq (fun l => okWay l.p.way) (fun l => .int .i64 (lenW l.p.way)) l hg hw
  have hcr := okNd_ct hnd
  have b1 := sqb (a := acrW l.p.way e n) (M := 400000) (by simp only [acrW]; omega) (by omega)
  have k1 := lenb hw hcr.1
  have h1 := wrap_i64 (z := acrW l.p.way e n * acrW l.p.way e n) (by omega) (by omega)
  have h3 := wrap_i64 (z := lenW l.p.way * l.n.cross) (by omega) (by omega)
  have h4 := wrap_i64 (z := lenW l.p.way * l.n.cross * l.n.cross) (by omega) (by omega)
  simp only [Lk.c, Se.cr, Wx.c, gaC] at c1 c3
  refine pure_of_wc (rs := [.tmp 6]) (m := 44) [(2, [(14, false, false, [])])] o38_ok (by kernel_rfl) Tryz.func151 rfl (by kernel_rfl) rfl rfl (by kernel_rfl) ?_
  by_cases q1 : acrW l.p.way e n * acrW l.p.way e n ≤ lenW l.p.way * l.n.cross * l.n.cross
  · simp only [FS, ↓RE, okR, argEnv, Nat.reduceAdd, Nat.reduceSub, Nat.reduceLT, Nat.reduceLeDiff, Nat.reduceEqDiff, reduceIte, vg, lg, c1, c3, h1, h3, h4, q1, decide_true]
    simp [sideW, q1]
  by_cases q2 : dxW l.p.way = 0
  · have q2' : (dxW l.p.way == 0) = true := by simpa using q2
    simp only [FS, ↓RE, okR, argEnv, Nat.reduceAdd, Nat.reduceSub, Nat.reduceLT, Nat.reduceLeDiff, Nat.reduceEqDiff, reduceIte, vg, lg, c1, c3, h1, h3, h4, q1, decide_false, gSt_eq hw, ex_tup, q2']
    simp [sideW, q1, q2]
  have q2' : (dxW l.p.way == 0) = false := by simpa using q2
  have hbb := fun x y => binB_eq (P := Tryz.prog) Fz.und_4 x y
  cases q3 : (decide (acrW l.p.way e n < 0) == decide (0 < dxW l.p.way))
  · simp only [FS, ↓RE, okR, argEnv, Nat.reduceAdd, Nat.reduceSub, Nat.reduceLT, Nat.reduceLeDiff, Nat.reduceEqDiff, reduceIte, vg, lg, c1, c3, h1, h3, h4, q1, decide_false, gSt_eq hw, ex_tup, q2', hbb, q3]
    simp only [sideW, if_neg q1, q3, q2]
    simp
  · simp only [FS, ↓RE, okR, argEnv, Nat.reduceAdd, Nat.reduceSub, Nat.reduceLT, Nat.reduceLeDiff, Nat.reduceEqDiff, reduceIte, vg, lg, c1, c3, h1, h3, h4, q1, decide_false, gSt_eq hw, ex_tup, q2', hbb, q3]
    simp only [sideW, if_neg q1, q3]
    simp
def gSide : List D → Option D := gL2 (fun q => okWd q && okNd q.1.n) fun q => .int .i64 (sideW q.1.p.way q.1.n q.2.1 q.2.2)
abbrev o42 : List (FuncId × (List D → Option D)) := (151, gSide) :: o38
theorem o42_ok : OkO Tryz.prog (mkO o42) :=
  mkO_ok (orc_ok fun ds q hd hk => by
    obtain ⟨rfl, hg⟩ := decL2_inv hd
    simp only [okWd, Bool.and_eq_true] at hk
    exact side_t _ hg _ _ hk.1.1 hk.1.2.1 hk.1.2.2 hk.2) o38_ok
theorem pc1_t (l : Lk) (hg : enGl.sl l.gd = some l.s.glares) (e n : Int) (hw : okWay l.p.way = true) (he : okWind e = true) (hn : okWind n = true) (hnd : okNd l.n = true) :
    Pure Tryz.prog 150 [.int .i64 n, .ref l.c 0, .ref [.int .i64 e] 0] (.bool (decide (0 ≤ sideW l.p.way l.n e n))) := by
  have vg := fun hp => En.view hg hp
  have lg := En.lt hg
  have c1 := gL2_eq (fun q => okWd q && okNd q.1.n) (fun q => .int .i64 (sideW q.1.p.way q.1.n q.2.1 q.2.2)) l hg (i := e) (j := n) (by simp [okWd, hw, he, hn, hnd])
  have c1 : gSide [.agg l.c, .int .i64 e, .int .i64 n] = _ := c1
  simp only [Lk.c, Se.cr, Wx.c, gaC] at c1
  refine pure_of_wc (rs := [.tmp 4]) (m := 10) [] o42_ok (by kernel_rfl) Tryz.func150 rfl (by kernel_rfl) rfl rfl (by kernel_rfl) ?_
  simp only [FS, ↓RE, okR, argEnv, Nat.reduceAdd, Nat.reduceSub, Nat.reduceLT, Nat.reduceLeDiff, Nat.reduceEqDiff, reduceIte, vg, lg, c1]
theorem pc2_t (l : Lk) (hg : enGl.sl l.gd = some l.s.glares) (e n : Int) (hw : okWay l.p.way = true) (he : okWind e = true) (hn : okWind n = true) (hnd : okNd l.n = true) :
    Pure Tryz.prog 152 [.int .i64 n, .ref l.c 0, .ref [.int .i64 e] 0] (.bool (decide (0 < sideW l.p.way l.n e n))) := by
  have vg := fun hp => En.view hg hp
  have lg := En.lt hg
  have c1 := gL2_eq (fun q => okWd q && okNd q.1.n) (fun q => .int .i64 (sideW q.1.p.way q.1.n q.2.1 q.2.2)) l hg (i := e) (j := n) (by simp [okWd, hw, he, hn, hnd])
  have c1 : gSide [.agg l.c, .int .i64 e, .int .i64 n] = _ := c1
  simp only [Lk.c, Se.cr, Wx.c, gaC] at c1
  refine pure_of_wc (rs := [.tmp 4]) (m := 10) [] o42_ok (by kernel_rfl) Tryz.func152 rfl (by kernel_rfl) rfl rfl (by kernel_rfl) ?_
  simp only [FS, ↓RE, okR, argEnv, Nat.reduceAdd, Nat.reduceSub, Nat.reduceLT, Nat.reduceLeDiff, Nat.reduceEqDiff, reduceIte, vg, lg, c1]
end Go.Sx

namespace Go.Sx
open Go.Proofs
set_option maxRecDepth 10000

/-- Where something begins to hold: the search by halves finds it. -/
theorem first_t (lo hi r : Int) (hb : -1000000 ≤ lo ∧ hi ≤ 1000000) (hr : lo ≤ r ∧ r ≤ hi) (f : FuncId) (fst caps : List D) (p : Int → Bool) (hfl : ∀ m, D.ltL m fst = true) (hcl : ∀ m, D.ltL m caps = true)
    (hva : ∀ h i, viewL h (fst ++ [D.int .i64 i] ++ caps) = fst ++ [D.int .i64 i] ++ caps) (hf : ∀ i, lo ≤ i → i < r → p i = false) (ht : ∀ i, r ≤ i → i < hi → p i = true)
    (hq : ∀ i, lo ≤ i → i < hi → Pure Tryz.prog f (fst ++ [.int .i64 i] ++ caps) (.bool (p i))) :
    Pure Tryz.prog 149 [.int .i64 lo, .int .i64 hi, .fn (.func f) fst caps] (.int .i64 r) := by
  refine pure_of_wc (rs := [.tmp 6]) (m := 24) [] oNone_ok (by kernel_rfl) Tryz.func149 rfl (by kernel_rfl) rfl rfl (by kernel_rfl) ?_
  simp only [FS, ↓RE, okR, argEnv, Nat.reduceAdd, Nat.reduceSub, Nat.reduceLT, Nat.reduceLeDiff, Nat.reduceEqDiff, reduceIte]
  refine loopV (ι := Int × Int) oNone_ok [] (fun i => [(0, .int .i64 i.1), (1, .int .i64 i.2), (2, .fn (.func f) fst caps)])
    (fun i => []) 0 (fun i => lo ≤ i.1 ∧ i.1 ≤ r ∧ r ≤ i.2 ∧ i.2 ≤ hi) (fun i => (i.2 - i.1).toNat) (lo, hi) (by kernel_rfl) (by kernel_rfl) ⟨Int.le_refl _, hr.1, hr.2, Int.le_refl _⟩ ?_ ?_
  · simp [headW, heapW, envW, blkLt, D.ltL, D.lt, look, hget, hfl, hcl]
  rintro ⟨a, b⟩ ⟨h1, h2, h3, h4⟩
  dsimp only at h1 h2 h3 h4 ⊢
  by_cases hab : a < b
  rotate_left
  · simp only [FS, ↓RE, okR, argEnv, Nat.reduceAdd, Nat.reduceSub, Nat.reduceLT, Nat.reduceLeDiff, Nat.reduceEqDiff, reduceIte, hab, decide_false]
    have : a = r := by omega
    rw [this]
  have w1 := wrap_i64 (z := b - a) (by omega) (by omega)
  have hd := a_quo' (k := .i64) (x := b - a) (y := 2) (by omega)
  have he : (b - a).tdiv 2 = (b - a) / 2 := Int.tdiv_eq_ediv_of_nonneg (by omega)
  have w2 := wrap_i64 (z := (b - a) / 2) (by omega) (by omega)
  have w3 := wrap_i64 (z := a + (b - a) / 2) (by omega) (by omega)
  have w4 := wrap_i64 (z := a + (b - a) / 2 + 1) (by omega) (by omega)
  simp only [FS, ↓RE, okR, argEnv, Nat.reduceAdd, Nat.reduceSub, Nat.reduceLT, Nat.reduceLeDiff, Nat.reduceEqDiff, reduceIte, hab, decide_true, w1, hd, he, w2, w3]
  refine call_of_pure (by rw [hva]; exact hq (a + (b - a) / 2) (by omega) (by omega)) rfl ?_
  cases q : p (a + (b - a) / 2)
  · have : a + (b - a) / 2 < r := by
      by_cases h : a + (b - a) / 2 < r
      · exact h
      · rw [ht _ (by omega) (by omega)] at q; cases q
    simp only [FS, ↓RE, okR, argEnv, Nat.reduceAdd, Nat.reduceSub, Nat.reduceLT, Nat.reduceLeDiff, Nat.reduceEqDiff, reduceIte, w4]
    exact ⟨(a + (b - a) / 2 + 1, b), ⟨by simp only; omega, by simp only; omega, h3, h4⟩, by simp only; omega, by simp [headW, heapW, envW, blkLt, D.ltL, D.lt, look, hget, hfl, hcl]⟩
  · have : r ≤ a + (b - a) / 2 := by
      by_cases h : a + (b - a) / 2 < r
      · rw [hf _ (by omega) h] at q; cases q
      · omega
    simp only [FS, ↓RE, okR, argEnv, Nat.reduceAdd, Nat.reduceSub, Nat.reduceLT, Nat.reduceLeDiff, Nat.reduceEqDiff, reduceIte]
    exact ⟨(a, a + (b - a) / 2), ⟨h1, h2, this, by simp only; omega⟩, by simp only; omega, by simp [headW, heapW, envW, blkLt, D.ltL, D.lt, look, hget, hfl, hcl]⟩

theorem thr (p : Int → Bool) (lo : Int) : ∀ m : Nat, (∀ i j, lo ≤ i → i ≤ j → j < lo + m → p i = true → p j = true) → ∃ r, lo ≤ r ∧ r ≤ lo + m ∧ (∀ i, lo ≤ i → i < r → p i = false) ∧ ∀ i, r ≤ i → i < lo + m → p i = true
  | 0, _ => ⟨lo, Int.le_refl _, by omega, fun i a b => by omega, fun i a b => by omega⟩
  | m + 1, hm => by
    obtain ⟨r, h1, h2, h3, h4⟩ := thr p lo m fun i j a b c d => hm i j a b (by omega) d
    by_cases hr : r < lo + m
    · refine ⟨r, h1, by omega, h3, fun i a b => ?_⟩
      exact hm r i h1 a (by omega) (h4 r (Int.le_refl _) hr)
    · cases hp : p (lo + m)
      · refine ⟨r + 1, by omega, by omega, fun i a b => ?_, fun i a b => by omega⟩
        by_cases hi : i < r
        · exact h3 i a hi
        · rw [show i = lo + m by omega]; exact hp
      · refine ⟨r, h1, by omega, h3, fun i a b => ?_⟩
        rw [show i = lo + m by omega]; exact hp

theorem sq_le {x y : Int} (h0 : 0 ≤ x) (h : x ≤ y) : x * x ≤ y * y := Int.mul_le_mul h h h0 (by omega)
theorem sq_le' {x y : Int} (h0 : y ≤ 0) (h : x ≤ y) : y * y ≤ x * x := by
  have := sq_le (x := -y) (y := -x) (by omega) (by omega)
  rwa [Int.neg_mul_neg, Int.neg_mul_neg] at this
theorem side_mono {w : Int} {n : Nd} {e i j : Int} (hw : okWay w = true) (hij : i ≤ j) : (0 ≤ sideW w n e i → 0 ≤ sideW w n e j) ∧ (0 < sideW w n e i → 0 < sideW w n e j) := by
  obtain ⟨d1, _, _⟩ := dx_cases w hw
  rcases d1 with hd | hd | hd
  · have : sideW w n e i = sideW w n e j := by simp [sideW, acrW, hd]
    rw [this]; exact ⟨id, id⟩
  · have ea : acrW w e j ≤ acrW w e i := by simp only [acrW, hd]; omega
    have hS : ∀ k, sideW w n e k = if acrW w e k * acrW w e k ≤ lenW w * n.cross * n.cross then 0 else if acrW w e k < 0 then 1 else -1 := by
      intro k
      simp only [sideW, hd]
      by_cases hx0 : acrW w e k < 0 <;> simp [hx0]
    rw [hS i, hS j]
    generalize acrW w e i = a at *
    generalize acrW w e j = b at *
    generalize lenW w * n.cross * n.cross = C at *
    have h1 : 0 ≤ b → b * b ≤ a * a := fun hb => sq_le hb ea
    have h2 : a ≤ 0 → a * a ≤ b * b := fun ha => sq_le' ha ea
    generalize a * a = A at *
    generalize b * b = B at *
    constructor <;> intro h <;> split <;> (try split) <;> (try split at h) <;> (try split at h) <;> omega
  · have ea : acrW w e i ≤ acrW w e j := by simp only [acrW, hd]; omega
    have hS : ∀ k, sideW w n e k = if acrW w e k * acrW w e k ≤ lenW w * n.cross * n.cross then 0 else if acrW w e k < 0 then -1 else 1 := by
      intro k
      simp only [sideW, hd]
      by_cases hx0 : acrW w e k < 0 <;> simp [hx0]
    rw [hS i, hS j]
    generalize acrW w e i = a at *
    generalize acrW w e j = b at *
    generalize lenW w * n.cross * n.cross = C at *
    have h1 : 0 ≤ a → a * a ≤ b * b := fun ha => sq_le ha ea
    have h2 : b ≤ 0 → b * b ≤ a * a := fun hb => sq_le' hb ea
    generalize a * a = A at *
    generalize b * b = B at *
    constructor <;> intro h <;> split <;> (try split) <;> (try split at h) <;> (try split at h) <;> omega

/-- All numbers of a range. -/
def anyI (lo hi : Int) (p : Int → Bool) : Bool := (List.range (hi + 1 - lo).toNat).any fun i => p (lo + i)
theorem anyI_iff {lo hi : Int} {p : Int → Bool} : anyI lo hi p = true ↔ ∃ i, lo ≤ i ∧ i ≤ hi ∧ p i = true := by
  simp only [anyI, List.any_eq_true, List.mem_range]
  constructor
  · rintro ⟨i, h1, h2⟩; exact ⟨lo + i, by omega, by omega, h2⟩
  · rintro ⟨i, h1, h2, h3⟩
    refine ⟨(i - lo).toNat, by omega, ?_⟩
    rw [show lo + ((i - lo).toNat : Int) = i by omega]; exact h3
theorem anyI_step {lo hi : Int} {p : Int → Bool} (h : lo ≤ hi) : anyI lo hi p = (p lo || anyI (lo + 1) hi p) := by
  rw [Bool.eq_iff_iff, Bool.or_eq_true, anyI_iff, anyI_iff]
  constructor
  · rintro ⟨i, h1, h2, h3⟩
    by_cases hi0 : i = lo
    · left; rw [← hi0]; exact h3
    · right; exact ⟨i, by omega, h2, h3⟩
  · rintro (h1 | ⟨i, h1, h2, h3⟩)
    · exact ⟨lo, Int.le_refl _, h, h1⟩
    · exact ⟨i, by omega, h2, h3⟩
theorem anyI_none {lo hi : Int} {p : Int → Bool} (h : hi < lo) : anyI lo hi p = false := by
  rw [Bool.eq_false_iff]
  intro h1
  obtain ⟨i, a, b, _⟩ := anyI_iff.1 h1
  omega

/-- What the ends of the winds that are not too strong across tell of all winds. -/
theorem calm_ends {w : Int} {n : Nd} {e lo hi r1 r2 : Int} (hw : okWay w = true) (hl : 0 ≤ lenW w * n.tail * n.tail) (h1 : lo ≤ r1 ∧ r1 ≤ hi + 1) (h2 : lo ≤ r2 ∧ r2 ≤ hi + 1)
    (f1 : ∀ k, lo ≤ k → k < r1 → decide (0 ≤ sideW w n e k) = false) (t1 : ∀ k, r1 ≤ k → k < hi + 1 → decide (0 ≤ sideW w n e k) = true) (f2 : ∀ k, lo ≤ k → k < r2 → decide (0 < sideW w n e k) = false) (t2 : ∀ k, r2 ≤ k → k < hi + 1 → decide (0 < sideW w n e k) = true) :
    (decide (r1 ≤ r2 - 1) && (calmB w n e r1 || calmB w n e (r2 - 1))) = anyI lo hi (calmB w n e) := by
  rw [Bool.eq_iff_iff, anyI_iff]
  simp only [Bool.and_eq_true, Bool.or_eq_true, decide_eq_true_eq]
  have hside : ∀ k, sideW w n e k = 0 ↔ acrW w e k * acrW w e k ≤ lenW w * n.cross * n.cross := by
    intro k
    simp only [sideW]
    split
    · simp [*]
    · split <;> simp [*]
  have hcalm : ∀ k, calmB w n e k = true ↔ sideW w n e k = 0 ∧ (aloW w e k ≤ 0 ∨ aloW w e k * aloW w e k ≤ lenW w * n.tail * n.tail) := by
    intro k
    simp only [calmB, Bool.and_eq_true, Bool.or_eq_true, decide_eq_true_eq, hside]
  constructor
  · rintro ⟨h3, h4 | h4⟩
    · exact ⟨r1, h1.1, by omega, h4⟩
    · exact ⟨r2 - 1, by omega, by omega, h4⟩
  · rintro ⟨k, hk1, hk2, hk⟩
    obtain ⟨hs, ha⟩ := (hcalm k).1 hk
    have g1 : r1 ≤ k := by
      by_cases h : r1 ≤ k
      · exact h
      · have := f1 k hk1 (by omega)
        simp [hs] at this
    have g2 : k ≤ r2 - 1 := by
      by_cases h : r2 ≤ k
      · have := t2 k h (by omega)
        simp [hs] at this
      · omega
    refine ⟨by omega, ?_⟩
    have mid : ∀ j, r1 ≤ j → j ≤ r2 - 1 → sideW w n e j = 0 := by
      intro j a b
      have c := of_decide_eq_true (t1 j a (by omega))
      have d := of_decide_eq_false (f2 j (by omega) (by omega))
      omega
    rw [hcalm, hcalm]
    have mono : ∀ x, aloW w e x ≤ aloW w e k → (aloW w e x ≤ 0 ∨ aloW w e x * aloW w e x ≤ lenW w * n.tail * n.tail) := by
      intro x hx
      by_cases h0 : aloW w e x ≤ 0
      · exact .inl h0
      · rcases ha with ha | ha
        · omega
        · right
          have := sq_le (x := aloW w e x) (y := aloW w e k) (by omega) hx
          omega
    obtain ⟨_, d2, _⟩ := dx_cases w hw
    rcases d2 with hd | hd | hd
    · exact .inl ⟨mid r1 (Int.le_refl _) (by omega), mono r1 (by simp only [aloW, hd]; omega)⟩
    · exact .inl ⟨mid r1 (Int.le_refl _) (by omega), mono r1 (by simp only [aloW, hd]; omega)⟩
    · exact .inr ⟨mid (r2 - 1) (by omega) (Int.le_refl _), mono (r2 - 1) (by simp only [aloW, hd]; omega)⟩
end Go.Sx

namespace Go.Sx
open Go.Proofs
set_option maxRecDepth 10000

theorem at_le {g : Ga} (hga : gaOk g = true) (hr : runG g = true) {t : Int} (ht : 0 ≤ t ∧ t ≤ 1440) : (atL g t).1 ≤ (atL g t).2 := by
  have hn : (clashG g).2.2 = false := by simpa [runG] using hr
  have := fit_bounds hga (low_fits hga hn) ht
  simp only [atL]; omega
def calmP (l : Lk) : Bool := anyI (atL l.s.w.east l.t).1 (atL l.s.w.east l.t).2 fun e => anyI (atL l.s.w.north l.t).1 (atL l.s.w.north l.t).2 (calmB l.p.way l.n e)
theorem okWind_mid {e : Int} (h : -100001 ≤ e ∧ e ≤ 100001) : okWind e = true := by
  simp only [okWind, bIn, Bool.and_eq_true, decide_eq_true_eq]; omega
theorem calmP_t (l : Lk) (h : LkOk l) (hr : runG l.s.w.north = true) : Pure Tryz.prog 122 [.agg l.c] (.bool (calmP l)) := by
  have hg := h.se.gd
  have vg := fun hp => En.view hg hp
  have lg := En.lt hg
  have hwx := okWx_gaOk (okSe_wx h.s)
  have h1 := gAtL l.s.w.east l.t ⟨hwx.east, h.t⟩
  have h2 := gAtL l.s.w.north l.t ⟨hwx.north, h.t⟩
  have hle := at_le hwx.north hr h.t
  have hwy := (okSp_ce h.p).1
  obtain ⟨⟨b1, b2⟩, b3, b4⟩ := at_bounds hwx.east l.t
  obtain ⟨⟨c1, c2⟩, c3, c4⟩ := at_bounds hwx.north l.t
  have b1 : -100000 ≤ (atL l.s.w.east l.t).1 := b1
  have b2 : (atL l.s.w.east l.t).1 ≤ 100000 := b2
  have b3 : -100000 ≤ (atL l.s.w.east l.t).2 := b3
  have b4 : (atL l.s.w.east l.t).2 ≤ 100000 := b4
  have c1 : -100000 ≤ (atL l.s.w.north l.t).1 := c1
  have c2 : (atL l.s.w.north l.t).1 ≤ 100000 := c2
  have c3 : -100000 ≤ (atL l.s.w.north l.t).2 := c3
  have c4 : (atL l.s.w.north l.t).2 ≤ 100000 := c4
  have hcr := okNd_ct h.n
  have hlt := (lenb hwy hcr.2).2.1
  refine pure_of_wc (rs := [.tmp 2]) (m := 61) [(1, [(16, true, false, []), (2, false, false, [])])] o42_ok (by kernel_rfl) Tryz.func122 rfl (by kernel_rfl) rfl rfl (by kernel_rfl) ?_
  simp only [FS, ↓RE, okR, argEnv, Nat.reduceAdd, Nat.reduceSub, Nat.reduceLT, Nat.reduceLeDiff, Nat.reduceEqDiff, reduceIte, vg, lg, h1, h2]
  generalize hE : atL l.s.w.east l.t = E at *
  generalize hN : atL l.s.w.north l.t = N at *
  obtain ⟨e1, e2⟩ := E
  obtain ⟨n1, n2⟩ := N
  dsimp only at *
  have hP : calmP l = anyI e1 e2 fun e => anyI n1 n2 (calmB l.p.way l.n e) := by simp only [calmP, hE, hN]
  refine loopN (ι := Int × Nat) o42_ok [(1, [(16, true, false, []), (2, false, false, [])])] (fun i => [(1, .ptr 0 0), (3, .ptr 1 0), (4, .ptr 2 0), (5, .ptr i.2 0)])
    (fun i => [(i.2, .box [.int .i64 i.1]), (2, .box [.int .i64 n1, .int .i64 n2]), (1, .box [.int .i64 e1, .int .i64 e2]), (0, .box l.c)]) (fun i => i.2 + 1)
    (fun i => 3 ≤ i.2 ∧ (-100000 ≤ i.1 ∧ i.1 ≤ 100001) ∧ calmP l = anyI i.1 e2 fun e => anyI n1 n2 (calmB l.p.way l.n e)) (fun i => (e2 + 1 - i.1).toNat) (e1, 3) (by kernel_rfl) (by kernel_rfl) ⟨Nat.le_refl _, ⟨b1, by simp only; omega⟩, hP⟩ ?_ ?_
  · refine imp_head ?_
    simp [headW, heapW, envW, blkLt, D.ltL, D.lt, look, hget, hset, lg]
  rintro ⟨x, B⟩ ⟨hB, hx, hax⟩
  dsimp only at hB hx hax ⊢
  have f0 : (0 = B) = False := by simp; omega
  have f1 : (1 = B) = False := by simp; omega
  have f2 : (2 = B) = False := by simp; omega
  have f3 : (0 = B + 1) = False := by simp
  have f4 : (1 = B + 1) = False := by simp; omega
  have f5 : (2 = B + 1) = False := by simp; omega
  have f6 : (B = B + 1) = False := by simp
  by_cases hxe : x ≤ e2
  rotate_left
  · simp only [FS, ↓RE, okR, argEnv, Nat.reduceAdd, Nat.reduceSub, Nat.reduceLT, Nat.reduceLeDiff, Nat.reduceEqDiff, reduceIte, f0, f1, f2, hxe, decide_false]
    rw [hax, anyI_none (by omega)]
  have hw1 := wrap_i64 (z := n2 + 1) (by omega) (by omega)
  have hwx1 := wrap_i64 (z := x + 1) (by omega) (by omega)
  have m1 : ∀ i j : Int, n1 ≤ i → i ≤ j → j < n1 + ((n2 + 1 - n1).toNat : Int) → decide (0 ≤ sideW l.p.way l.n x i) = true → decide (0 ≤ sideW l.p.way l.n x j) = true := fun i j _ hij _ hp => decide_eq_true ((side_mono hwy hij).1 (of_decide_eq_true hp))
  have m2 : ∀ i j : Int, n1 ≤ i → i ≤ j → j < n1 + ((n2 + 1 - n1).toNat : Int) → decide (0 < sideW l.p.way l.n x i) = true → decide (0 < sideW l.p.way l.n x j) = true := fun i j _ hij _ hp => decide_eq_true ((side_mono hwy hij).2 (of_decide_eq_true hp))
  have hm : n1 + ((n2 + 1 - n1).toNat : Int) = n2 + 1 := by omega
  obtain ⟨r1, p1, p2, p3, p4⟩ := thr _ n1 _ m1
  obtain ⟨r2, s1, s2, s3, s4⟩ := thr _ n1 _ m2
  rw [hm] at p2 p4 s2 s4
  have hends := calm_ends hwy hlt ⟨p1, p2⟩ ⟨s1, s2⟩ p3 p4 s3 s4
  have F1 := first_t n1 (n2 + 1) r1 (by omega) ⟨p1, p2⟩ 150 [] [.ref l.c 0, .ref [.int .i64 x] 0] _ (fun _ => rfl) (fun _ => rfl) (fun _ _ => rfl) p3 p4 fun i a b => pc1_t l hg x i hwy (okWind_mid (by omega)) (okWind_mid (by omega)) h.n
  have F2 := first_t n1 (n2 + 1) r2 (by omega) ⟨s1, s2⟩ 152 [] [.ref l.c 0, .ref [.int .i64 x] 0] _ (fun _ => rfl) (fun _ => rfl) (fun _ _ => rfl) s3 s4 fun i a b => pc2_t l hg x i hwy (okWind_mid (by omega)) (okWind_mid (by omega)) h.n
  simp only [FS, ↓RE, okR, argEnv, Nat.reduceAdd, Nat.reduceSub, Nat.reduceLT, Nat.reduceLeDiff, Nat.reduceEqDiff, reduceIte, f0, f1, f2, hxe, decide_true, vg, lg, hw1]
  refine call_of_pure F1 rfl ?_
  simp only [FS, ↓RE, okR, argEnv, Nat.reduceAdd, Nat.reduceSub, Nat.reduceLT, Nat.reduceLeDiff, Nat.reduceEqDiff, reduceIte, f0, f1, f2, vg, lg, hw1]
  refine call_of_pure F2 rfl ?_
  have hw2 := wrap_i64 (z := r2 - 1) (by omega) (by omega)
  have k1 := gL2_eq (fun q => okWd q && okNd q.1.n) (fun q => .bool (calmB q.1.p.way q.1.n q.2.1 q.2.2)) l hg (i := x) (j := r1) (by simp [okWd, hwy, okWind_mid (e := x) (by omega), okWind_mid (e := r1) (by omega), h.n])
  have k2 := gL2_eq (fun q => okWd q && okNd q.1.n) (fun q => .bool (calmB q.1.p.way q.1.n q.2.1 q.2.2)) l hg (i := x) (j := r2 - 1) (by simp [okWd, hwy, okWind_mid (e := x) (by omega), okWind_mid (e := r2 - 1) (by omega), h.n])
  simp only [Lk.c, Se.cr, Wx.c, gaC] at k1 k2
  rw [anyI_step hxe, ← hends] at hax
  by_cases q0 : r1 ≤ r2 - 1
  rotate_left
  · rw [decide_eq_false q0, Bool.false_and, Bool.false_or] at hax
    simp only [FS, ↓RE, okR, argEnv, Nat.reduceAdd, Nat.reduceSub, Nat.reduceLT, Nat.reduceLeDiff, Nat.reduceEqDiff, reduceIte, f0, f1, f2, f3, f4, f5, f6, vg, lg, hw2, q0, decide_false, hwx1]
    exact ⟨(x + 1, B + 1), ⟨by simp only; omega, by simp only; omega, hax⟩, by simp only; omega, imp_head (by
      simp [headW, heapW, envW, blkLt, D.ltL, D.lt, look, hget, hset, lg, f0, f1, f2, f3, f4, f5, f6, Nat.blt_eq]
      omega)⟩
  rw [decide_eq_true q0, Bool.true_and] at hax
  cases q1 : calmB l.p.way l.n x r1
  · rw [q1, Bool.false_or] at hax
    cases q2 : calmB l.p.way l.n x (r2 - 1)
    · rw [q2, Bool.false_or] at hax
      simp only [FS, ↓RE, okR, argEnv, Nat.reduceAdd, Nat.reduceSub, Nat.reduceLT, Nat.reduceLeDiff, Nat.reduceEqDiff, reduceIte, f0, f1, f2, f3, f4, f5, f6, vg, lg, hw2, q0, decide_true, hwx1, k1, k2, q1, q2]
      exact ⟨(x + 1, B + 1), ⟨by simp only; omega, by simp only; omega, hax⟩, by simp only; omega, imp_head (by
        simp [headW, heapW, envW, blkLt, D.ltL, D.lt, look, hget, hset, lg, f0, f1, f2, f3, f4, f5, f6, Nat.blt_eq]
        omega)⟩
    · rw [q2, Bool.true_or] at hax
      simp only [FS, ↓RE, okR, argEnv, Nat.reduceAdd, Nat.reduceSub, Nat.reduceLT, Nat.reduceLeDiff, Nat.reduceEqDiff, reduceIte, f0, f1, f2, f3, f4, f5, f6, vg, lg, hw2, q0, decide_true, hwx1, k1, k2, q1, q2]
      rw [hax]
  · rw [q1, Bool.true_or, Bool.true_or] at hax
    simp only [FS, ↓RE, okR, argEnv, Nat.reduceAdd, Nat.reduceSub, Nat.reduceLT, Nat.reduceLeDiff, Nat.reduceEqDiff, reduceIte, f0, f1, f2, f3, f4, f5, f6, vg, lg, hw2, q0, decide_true, hwx1, k1, q1]
    rw [hax]
end Go.Sx

namespace Go.Sx
open Go.Proofs
set_option maxRecDepth 10000

def possB (l : Lk) : Bool := decide (0 ≤ offP l) && (calmP l && (flatP l && !blindL l))
theorem sound_north {w : Wx} (h : soundW w = true) : runG w.tide = true ∧ runG w.east = true ∧ runG w.north = true ∧ runG w.wave = true ∧ runG w.swell = true := by
  simpa [soundW] using h
theorem possibly_t (l : Lk) (h : LkOk l) (hs : soundW l.s.w = true) : Pure Tryz.prog 69 [.agg l.c] (.bool (possB l)) := by
  have hg := h.se.gd
  have vg := fun hp => En.view hg hp
  have lg := En.lt hg
  have hv : ∀ a b c d : D, D.ltL 0 [a, b, c, d] = true → viewC 0 4 1 (some (.box [a, b, c, d])) = .sl [[a], [b], [c], [d]] := fun a b c d h => by
    rw [viewC_box _ _ _ _ h rfl]; rfl
  refine pure_of_wc (rs := [.tmp 2]) (m := 15) [] o42_ok (by kernel_rfl) Tryz.func69 rfl (by kernel_rfl) rfl rfl (by kernel_rfl) ?_
  simp only [FS, ↓RE, okR, argEnv, Nat.reduceAdd, Nat.reduceSub, Nat.reduceLT, Nat.reduceLeDiff, Nat.reduceEqDiff, reduceIte, vg, lg, hv]
  refine call_of_pure (all_t [(121, [.agg l.c]), (122, [.agg l.c]), (123, [.agg l.c]), (118, [.agg l.c])]
    (fun f => if f.1 = 121 then decide (0 ≤ offP l) else if f.1 = 122 then calmP l else if f.1 = 123 then flatP l else !blindL l) ?_ ?_ (by simp) ?_) rfl ?_
  · intro f hf m
    simp only [List.mem_cons, List.not_mem_nil, or_false] at hf
    rcases hf with rfl | rfl | rfl | rfl <;> simp [D.ltL, D.lt, lg]
  · intro f hf hh
    simp only [List.mem_cons, List.not_mem_nil, or_false] at hf
    rcases hf with rfl | rfl | rfl | rfl <;> simp [viewL, view, vg]
  · intro f hf
    simp only [List.mem_cons, List.not_mem_nil, or_false] at hf
    rcases hf with rfl | rfl | rfl | rfl
    · exact possiblyDeep_t l h
    · exact calmP_t l h (sound_north hs).2.2.1
    · exact possiblyFlat_t l h
    · exact clear_t l h
  simp only [FS, ↓RE, okR, argEnv, Nat.reduceAdd, Nat.reduceSub, Nat.reduceLT, Nat.reduceLeDiff, Nat.reduceEqDiff, reduceIte]
  simp [possB]
def PossA (l : Lk) : Bool × Int := if askE l = 0 then (possB l, 0) else (false, askE l)
theorem Possible_t (l : Lk) (h : SeL l.s l.gd) : Pure Tryz.prog 23 [.agg (l.s.c l.gd), .agg l.p.c, .agg l.n.c, .int .i64 l.t] (.tup [.bool (PossA l).1, .int .i64 (PossA l).2]) := by
  have vg := fun hp => En.view h.gd hp
  have lg := En.lt h.gd
  have cg := fun hp => En.cur h.gd hp
  refine pure_of_wc (rs := [.tmp 8, .tmp 9]) (m := 24) [] o42_ok (by kernel_rfl) Tryz.func23 rfl (by kernel_rfl) rfl rfl (by kernel_rfl) ?_
  simp only [FS, ↓RE, okR, argEnv, Nat.reduceAdd, Nat.reduceSub, Nat.reduceLT, Nat.reduceLeDiff, Nat.reduceEqDiff, reduceIte, vg, lg, cg]
  refine call_of_pure (asked_t l h) rfl ?_
  rcases askE_cases l with ha | ha | ha
  · obtain ⟨hok, hso⟩ := lk_ok h ha
    simp only [FS, ↓RE, okR, argEnv, Nat.reduceAdd, Nat.reduceSub, Nat.reduceLT, Nat.reduceLeDiff, Nat.reduceEqDiff, reduceIte, ha, vg, lg, bne_self_eq_false]
    refine call_of_pure (possibly_t l hok hso) rfl ?_
    simp only [FS, ↓RE, okR, argEnv, Nat.reduceAdd, Nat.reduceSub, Nat.reduceLT, Nat.reduceLeDiff, Nat.reduceEqDiff, reduceIte]
    simp [PossA, ha]
  · simp only [FS, ↓RE, okR, argEnv, Nat.reduceAdd, Nat.reduceSub, Nat.reduceLT, Nat.reduceLeDiff, Nat.reduceEqDiff, reduceIte, ha, Int.reduceBNe]
    simp [PossA, ha]
  · simp only [FS, ↓RE, okR, argEnv, Nat.reduceAdd, Nat.reduceSub, Nat.reduceLT, Nat.reduceLeDiff, Nat.reduceEqDiff, reduceIte, ha, Int.reduceBNe]
    simp [PossA, ha]

/-! The reference -/
theorem bAt_endP (l : Lk) : bAt (endB false l.s l.t) = sureB l := by
  funext i
  simp only [bAt, endB, sureB, passB, List.getD_eq_getElem?_getD, List.getElem?_map]
  cases l.s.boats[i]? <;> simp [Bool.and_comm]
theorem goodR_endP (l : Lk) (tide : Int) : goodR l.s l.p l.n.draught tide (endD false l.s) (endB false l.s l.t) = goodK l (fun i => (dpAt l.s i).2) tide (sureB l) := by
  funext k
  simp only [goodR, goodK, bAt_endP]
  have : iAt (endD false l.s) (cellI l.s l.p k) = (dpAt l.s (cellI l.s l.p k)).2 := by
    simp only [iAt, endD, dpAt, if_false, Bool.false_eq_true]
    exact getD_map (fun d : Int × Int => d.2) l.s.depths _ (0, 0)
  rw [this]
theorem offP_eq (l : Lk) (h : LkOk l) : offP l = runS (goodK l (fun i => (dpAt l.s i).2) (atL l.s.w.tide l.t).2 (sureB l)) l.p.cells.toNat l.n.run.toNat := by
  have hr := okNd_run h.n
  have := runP_eq (goodK l (fun i => (dpAt l.s i).2) (atL l.s.w.tide l.t).2 (sureB l)) l.p.cells.toNat l.n.run.toNat (by omega) l.p.cells.toNat 0 0 (by omega) (by omega) (by omega) (fun i a b => by omega) (.inl rfl) (fun o ho => by omega)
  rw [Int.toNat_of_nonneg (by omega)] at this
  exact this
theorem rPossible_t (l : Lk) (h : LkOk l) (hso : soundW l.s.w = true) : Pure Tryz.prog 27 [.agg (l.s.c l.gd), .agg l.p.c, .agg l.n.c, .int .i64 l.t] (.bool (possB l)) := by
  have hg := h.se.gd
  have vg := fun hp => En.view hg hp
  have lg := En.lt hg
  have hwx := okWx_gaOk (okSe_wx h.s)
  have a1 := gAtL l.s.w.east l.t ⟨hwx.east, h.t⟩
  have a2 := gAtL l.s.w.north l.t ⟨hwx.north, h.t⟩
  have a3 := gAtL l.s.w.wave l.t ⟨hwx.wave, h.t⟩
  have a4 := gAtL l.s.w.swell l.t ⟨hwx.swell, h.t⟩
  have a5 := gAtL l.s.w.tide l.t ⟨hwx.tide, h.t⟩
  have hwy := (okSp_ce h.p).1
  have hwl := at_le hwx.wave (sound_north hso).2.2.2.1 h.t
  have hcw : 0 ≤ l.n.calm ∧ l.n.calm ≤ l.n.wave := by
    have := h.n
    simp only [okNd, Bool.and_eq_true, bIn, decide_eq_true_eq] at this
    exact this.2.2.2.2.1
  have hflat : flatP l = (!decide ((atL l.s.w.wave l.t).2 < l.n.calm) && (!decide (l.n.wave < (atL l.s.w.wave l.t).1) && !decide (l.n.swell < (atL l.s.w.swell l.t).1))) := by
    simp only [flatP, ← decide_not, ← Bool.decide_and]
    congr 1
    simp only [eq_iff_iff]
    omega
  obtain ⟨⟨b1, b2⟩, b3, b4⟩ := at_bounds hwx.east l.t
  obtain ⟨⟨c1, c2⟩, c3, c4⟩ := at_bounds hwx.north l.t
  have b1 : -100000 ≤ (atL l.s.w.east l.t).1 := b1
  have b2 : (atL l.s.w.east l.t).1 ≤ 100000 := b2
  have b3 : -100000 ≤ (atL l.s.w.east l.t).2 := b3
  have b4 : (atL l.s.w.east l.t).2 ≤ 100000 := b4
  have c1 : -100000 ≤ (atL l.s.w.north l.t).1 := c1
  have c2 : (atL l.s.w.north l.t).1 ≤ 100000 := c2
  have c3 : -100000 ≤ (atL l.s.w.north l.t).2 := c3
  have c4 : (atL l.s.w.north l.t).2 ≤ 100000 := c4
  have ht := (at_bounds hwx.tide l.t).2
  have hrun := rrun_t l.s l.gd h.se h.s l.p h.p l.n.draught l.n.run (atL l.s.w.tide l.t).2 (okNd_run h.n) (endD false l.s) (endB false l.s l.t) ht (by simp [endD]) (endD_ok h.s false) (by simp [endB])
  rw [goodR_endP, ← offP_eq l h] at hrun
  refine pure_of_wc (rs := [.tmp 8]) (m := 108) [(2, [(24, true, false, []), (4, false, false, [])]), (3, [(44, false, false, [])])] o37_ok (by kernel_rfl) Tryz.func27 rfl (by kernel_rfl) rfl rfl (by kernel_rfl) ?_
  simp only [FS, ↓RE, okR, argEnv, Nat.reduceAdd, Nat.reduceSub, Nat.reduceLT, Nat.reduceLeDiff, Nat.reduceEqDiff, reduceIte]
  refine call_of_pure' (ends_t l.s l.gd h.se h.s l.t false) (by simp [D.ltL, D.lt, lg]) (by simp [D.ltL, D.lt]) ?_
  simp only [FS, ↓RE, okR, argEnv, Nat.reduceAdd, Nat.reduceSub, Nat.reduceLT, Nat.reduceLeDiff, Nat.reduceEqDiff, reduceIte, ex_tup, vg, lg, a1, a2, a3, a4]
  refine call_of_pure (rclear_t l.s l.gd h.se h.s l.p h.p l.t) rfl ?_
  have hcl : (!(l.s.glares.any (blindG l.p.way l.t))) = !blindL l := rfl
  rw [hcl]
  cases q0 : blindL l
  rotate_left
  · simp only [FS, ↓RE, okR, argEnv, Nat.reduceAdd, Nat.reduceSub, Nat.reduceLT, Nat.reduceLeDiff, Nat.reduceEqDiff, reduceIte]
    simp [possB, q0]
  cases q1 : decide ((atL l.s.w.wave l.t).2 < l.n.calm)
  rotate_left
  · simp only [FS, ↓RE, okR, argEnv, Nat.reduceAdd, Nat.reduceSub, Nat.reduceLT, Nat.reduceLeDiff, Nat.reduceEqDiff, reduceIte, q1]
    rw [possB, hflat, q1]; simp
  cases q2 : decide (l.n.wave < (atL l.s.w.wave l.t).1)
  rotate_left
  · simp only [FS, ↓RE, okR, argEnv, Nat.reduceAdd, Nat.reduceSub, Nat.reduceLT, Nat.reduceLeDiff, Nat.reduceEqDiff, reduceIte, q1, q2]
    rw [possB, hflat, q2]; simp
  cases q3 : decide (l.n.swell < (atL l.s.w.swell l.t).1)
  rotate_left
  · simp only [FS, ↓RE, okR, argEnv, Nat.reduceAdd, Nat.reduceSub, Nat.reduceLT, Nat.reduceLeDiff, Nat.reduceEqDiff, reduceIte, q1, q2, q3]
    rw [possB, hflat, q3]; simp
  simp only [FS, ↓RE, okR, argEnv, Nat.reduceAdd, Nat.reduceSub, Nat.reduceLT, Nat.reduceLeDiff, Nat.reduceEqDiff, reduceIte, q1, q2, q3, vg, lg, a5]
  refine call_of_pure hrun rfl ?_
  cases q4 : decide (offP l < 0)
  rotate_left
  · have : decide (0 ≤ offP l) = false := by simpa using q4
    simp only [FS, ↓RE, okR, argEnv, Nat.reduceAdd, Nat.reduceSub, Nat.reduceLT, Nat.reduceLeDiff, Nat.reduceEqDiff, reduceIte, q4]
    rw [possB, this]; rfl
  have q5 : decide (0 ≤ offP l) = true := by simpa using q4
  simp only [FS, ↓RE, okR, argEnv, Nat.reduceAdd, Nat.reduceSub, Nat.reduceLT, Nat.reduceLeDiff, Nat.reduceEqDiff, reduceIte, q4]
  have hPB : possB l = calmP l := by rw [possB, hflat, q0, q1, q2, q3, q5]; simp
  rw [hPB]
  generalize hE : atL l.s.w.east l.t = E at *
  generalize hN : atL l.s.w.north l.t = N at *
  obtain ⟨e1, e2⟩ := E
  obtain ⟨n1, n2⟩ := N
  dsimp only at *
  have hP : calmP l = anyI e1 e2 fun e => anyI n1 n2 (calmB l.p.way l.n e) := by simp only [calmP, hE, hN]
  refine loopV (ι := Int) o37_ok [(2, [(24, true, false, []), (4, false, false, [])]), (3, [(44, false, false, [])])] (fun x => [(5, .ptr 1 0), (6, .ptr 2 0), (11, .ptr 3 0), (12, .ptr 4 0), (15, .int .i64 x)])
    (fun i => [(4, .box [.int .i64 n1, .int .i64 n2]), (3, .box [.int .i64 e1, .int .i64 e2]), (2, .box l.n.c), (1, .box l.p.c)]) 7
    (fun x => (-100000 ≤ x ∧ x ≤ 100001) ∧ calmP l = anyI x e2 fun e => anyI n1 n2 (calmB l.p.way l.n e)) (fun x => (e2 + 1 - x).toNat) e1 (by kernel_rfl) (by kernel_rfl) ⟨⟨b1, by omega⟩, hP⟩ ?_ ?_
  · simp [headW, heapW, envW, blkLt, D.ltL, D.lt, look, hget, hset, lg]
  rintro x ⟨hx, hax⟩
  by_cases hxe : x ≤ e2
  rotate_left
  · simp only [FS, ↓RE, okR, argEnv, Nat.reduceAdd, Nat.reduceSub, Nat.reduceLT, Nat.reduceLeDiff, Nat.reduceEqDiff, reduceIte, hxe, decide_false]
    rw [hax, anyI_none (by omega)]
  have hwx1 := wrap_i64 (z := x + 1) (by omega) (by omega)
  rw [anyI_step hxe] at hax
  simp only [FS, ↓RE, okR, argEnv, Nat.reduceAdd, Nat.reduceSub, Nat.reduceLT, Nat.reduceLeDiff, Nat.reduceEqDiff, reduceIte, hxe, decide_true]
  refine loopV (ι := Int) o37_ok [(2, [(24, true, false, []), (4, false, false, [])]), (3, [(44, false, false, [])])] (fun y => [(5, .ptr 1 0), (6, .ptr 2 0), (11, .ptr 3 0), (12, .ptr 4 0), (15, .int .i64 x), (16, .int .i64 y)])
    (fun i => [(4, .box [.int .i64 n1, .int .i64 n2]), (3, .box [.int .i64 e1, .int .i64 e2]), (2, .box l.n.c), (1, .box l.p.c)]) 7
    (fun y => (-100000 ≤ y ∧ y ≤ 100001) ∧ anyI n1 n2 (calmB l.p.way l.n x) = anyI y n2 (calmB l.p.way l.n x)) (fun y => (n2 + 1 - y).toNat) n1 (by kernel_rfl) (by kernel_rfl) ⟨⟨c1, by omega⟩, rfl⟩ ?_ ?_
  · simp [headW, heapW, envW, blkLt, D.ltL, D.lt, look, hget, hset, lg]
  rintro y ⟨hy, hay⟩
  by_cases hyn : y ≤ n2
  rotate_left
  · rw [anyI_none (show n2 < y by omega)] at hay
    rw [hay, Bool.false_or] at hax
    simp only [FS, ↓RE, okR, argEnv, Nat.reduceAdd, Nat.reduceSub, Nat.reduceLT, Nat.reduceLeDiff, Nat.reduceEqDiff, reduceIte, hyn, decide_false, hwx1]
    exact ⟨x + 1, ⟨by omega, hax⟩, by omega, by simp [headW, heapW, envW, blkLt, D.ltL, D.lt, look, hget, lg]⟩
  have hwy1 := wrap_i64 (z := y + 1) (by omega) (by omega)
  rw [anyI_step hyn] at hay
  have hc := gRc_eq l.p l.n hwy (okWind_mid (e := x) (by omega)) (okWind_mid (e := y) (by omega)) h.n
  cases q : calmB l.p.way l.n x y
  · rw [q, Bool.false_or] at hay
    simp only [FS, ↓RE, okR, argEnv, Nat.reduceAdd, Nat.reduceSub, Nat.reduceLT, Nat.reduceLeDiff, Nat.reduceEqDiff, reduceIte, hyn, decide_true, hc, q, hwy1]
    exact ⟨y + 1, ⟨by omega, hay⟩, by omega, by simp [headW, heapW, envW, blkLt, D.ltL, D.lt, look, hget, lg]⟩
  · rw [q, Bool.true_or] at hay
    rw [hay, Bool.true_or] at hax
    simp only [FS, ↓RE, okR, argEnv, Nat.reduceAdd, Nat.reduceSub, Nat.reduceLT, Nat.reduceLeDiff, Nat.reduceEqDiff, reduceIte, hyn, decide_true, hc, q]
    rw [hax]
end Go.Sx

namespace Go.Sx
open Go.Proofs
set_option maxRecDepth 10000

/-! The deepest draught -/
def leastR (fr : Nat → Bool) (dp : Nat → Int) (o : Nat) : Nat → Nat → Int → Int
  | 0, _, v => v
  | m + 1, j, v => if fr (o + j) then leastR fr dp o m (j + 1) (min v (dp (o + j))) else -1
def bestD (fr : Nat → Bool) (dp : Nat → Int) (c : Nat) : Nat → Int
  | 0 => -1
  | o + 1 => max (bestD fr dp c o) (leastR fr dp o c 0 1073741824)
theorem leastR_le {fr : Nat → Bool} {dp : Nat → Int} {o : Nat} {x : Int} (hx : 0 ≤ x) : ∀ (m j : Nat) (v : Int), x ≤ leastR fr dp o m j v ↔ (m = 0 ∧ x ≤ v) ∨ (0 < m ∧ x ≤ v ∧ ∀ i, i < m → fr (o + j + i) = true ∧ x ≤ dp (o + j + i))
  | 0, j, v => by simp [leastR]
  | m + 1, j, v => by
    simp only [leastR]
    cases hf : fr (o + j)
    · simp only [Bool.false_eq_true, if_false]
      constructor
      · intro h; omega
      · rintro (h | ⟨_, _, h⟩)
        · omega
        · have := (h 0 (by omega)).1
          rw [Nat.add_zero, hf] at this; cases this
    · rw [if_pos rfl, leastR_le hx m (j + 1)]
      have hs : ∀ i, o + (j + 1) + i = o + j + (i + 1) := fun i => by omega
      constructor
      · rintro (⟨h1, h2⟩ | ⟨h1, h2, h3⟩)
        · refine .inr ⟨by omega, by omega, fun i hi => ?_⟩
          have : i = 0 := by omega
          subst this
          exact ⟨by simpa using hf, by simpa using (by omega : x ≤ dp (o + j))⟩
        · refine .inr ⟨by omega, by omega, fun i hi => ?_⟩
          cases i with
          | zero => exact ⟨by simpa using hf, by simpa using (by omega : x ≤ dp (o + j))⟩
          | succ i =>
            have := h3 i (by omega)
            rwa [hs] at this
      · rintro (h | ⟨_, h2, h3⟩)
        · omega
        · have h0 := (h3 0 (by omega)).2
          rw [Nat.add_zero] at h0
          rcases Nat.eq_zero_or_pos m with hm | hm
          · exact .inl ⟨hm, by omega⟩
          · refine .inr ⟨hm, by omega, fun i hi => ?_⟩
            rw [hs]; exact h3 (i + 1) (by omega)
theorem least_all {fr : Nat → Bool} {dp : Nat → Int} {o c : Nat} {x : Int} (hc : 0 < c) (hx : 0 ≤ x ∧ x ≤ 1073741824) : x ≤ leastR fr dp o c 0 1073741824 ↔ allG (fun k => decide (x ≤ dp k) && fr k) o c = true := by
  rw [leastR_le hx.1, allG_iff]
  simp only [Bool.and_eq_true, decide_eq_true_eq, Nat.add_zero]
  constructor
  · rintro (h | ⟨_, _, h⟩)
    · omega
    · exact fun j hj => ⟨(h j hj).2, (h j hj).1⟩
  · intro h
    exact .inr ⟨hc, hx.2, fun i hi => ⟨(h i hi).2, (h i hi).1⟩⟩
theorem bestD_le {fr : Nat → Bool} {dp : Nat → Int} {c : Nat} {x : Int} (hx : 0 ≤ x) : ∀ m, x ≤ bestD fr dp c m ↔ ∃ o, o < m ∧ x ≤ leastR fr dp o c 0 1073741824
  | 0 => by simp [bestD]; omega
  | m + 1 => by
    have ih := bestD_le (fr := fr) (dp := dp) (c := c) hx m
    simp only [bestD]
    constructor
    · intro h
      by_cases h1 : x ≤ bestD fr dp c m
      · obtain ⟨o, a, b⟩ := ih.1 h1; exact ⟨o, by omega, b⟩
      · exact ⟨m, by omega, by omega⟩
    · rintro ⟨o, a, b⟩
      by_cases h1 : o < m
      · have := ih.2 ⟨o, h1, b⟩; omega
      · have : o = m := by omega
        subst this; omega
/-- There is a run just if the draught is at most the best. -/
theorem run_best {fr : Nat → Bool} {dp : Nat → Int} {n c : Nat} {x : Int} (hc : 0 < c) (hx : 0 ≤ x ∧ x ≤ 5000) : 0 ≤ runS (fun k => decide (x ≤ dp k) && fr k) n c ↔ x ≤ bestD fr dp c (n + 1 - c) := by
  rw [bestD_le hx.1]
  have key : ∀ o, x ≤ leastR fr dp o c 0 1073741824 ↔ allG (fun k => decide (x ≤ dp k) && fr k) o c = true := fun o => least_all hc ⟨hx.1, by omega⟩
  simp only [runS]
  constructor
  · intro h
    split at h
    · rename_i o ho
      have h1 := List.mem_of_find?_eq_some ho
      have h2 := List.find?_some ho
      exact ⟨o, List.mem_range.1 h1, (key o).2 h2⟩
    · omega
  · rintro ⟨o, a, b⟩
    split
    · omega
    · rename_i hno
      have := List.find?_eq_none.1 hno o (List.mem_range.2 a)
      rw [(key o).1 b] at this
      exact absurd rfl this
theorem leastR_b {fr : Nat → Bool} {dp : Nat → Int} {o : Nat} (hd : ∀ k, -200000 ≤ dp k ∧ dp k ≤ 200000) : ∀ (m j : Nat) (v : Int), (-200000 ≤ v ∧ v ≤ 1073741824) → -200000 ≤ leastR fr dp o m j v ∧ leastR fr dp o m j v ≤ 1073741824
  | 0, _, v, h => h
  | m + 1, j, v, h => by
    simp only [leastR]
    split
    · have := hd (o + j)
      exact leastR_b hd m (j + 1) _ (by omega)
    · omega
theorem bestD_b {fr : Nat → Bool} {dp : Nat → Int} {c : Nat} (hd : ∀ k, -200000 ≤ dp k ∧ dp k ≤ 200000) : ∀ m, -1 ≤ bestD fr dp c m ∧ bestD fr dp c m ≤ 1073741824
  | 0 => by simp [bestD]
  | m + 1 => by
    have h1 := bestD_b (fr := fr) (c := c) hd m
    have h2 := leastR_b (fr := fr) (o := m) hd c 0 1073741824 (by omega)
    simp only [bestD]; omega

def nd0 : Nd := ⟨0, 0, 0, 0, 0, 0, 0⟩
def frL (l : Lk) (k : Nat) : Bool := freeB (passB l) (pxK l.p k) (pyK l.p k) l.s.boats 0
def dpL (l : Lk) (k : Nat) : Int := (dpAt l.s (cellI l.s l.p k)).1 + (atL l.s.w.tide l.t).1
def deepB (l : Lk) (c : Int) : Int := bestD (frL l) (dpL l) c.toNat (l.p.cells.toNat + 1 - c.toNat)
theorem goodR_deep (l : Lk) (x : Int) : goodR l.s l.p x (atL l.s.w.tide l.t).1 (endD true l.s) (endB true l.s l.t) = fun k => decide (x ≤ dpL l k) && frL l k := by
  have := goodR_end ⟨l.s, l.gd, l.p, ⟨x, 0, 0, 0, 0, 0, 0⟩, l.t⟩ (atL l.s.w.tide l.t).1
  exact this
structure LkP (l : Lk) : Prop where
  se : SeL l.s l.gd
  s : okSe l.s = true
  p : okSp l.s l.p = true
  t : 0 ≤ l.t ∧ l.t ≤ 1440
theorem rDeepest_t (l : Lk) (h : LkP l) (c : Int) (hc : 1 ≤ c ∧ c ≤ 12) : Pure Tryz.prog 26 [.agg (l.s.c l.gd), .agg l.p.c, .int .i64 c, .int .i64 l.t] (.int .i64 (min (deepB l c) 5000)) := by
  have hg := h.se.gd
  have vg := fun hp => En.view hg hp
  have lg := En.lt hg
  have hwx := okWx_gaOk (okSe_wx h.s)
  have a5 := gAtL l.s.w.tide l.t ⟨hwx.tide, h.t⟩
  have ht := (at_bounds hwx.tide l.t).1
  have hrun := fun x => rrun_t l.s l.gd h.se h.s l.p h.p x c (atL l.s.w.tide l.t).1 hc (endD true l.s) (endB true l.s l.t) ht (by simp [endD]) (endD_ok h.s true) (by simp [endB])
  have hb1 : -1 ≤ deepB l c := by
    simp only [deepB]
    generalize (l.p.cells.toNat + 1 - c.toNat) = m
    induction m with
    | zero => simp [bestD]
    | succ m ih => simp only [bestD]; omega
  refine pure_of_wc (rs := [.tmp 8]) (m := 50) [] o37_ok (by kernel_rfl) Tryz.func26 rfl (by kernel_rfl) rfl rfl (by kernel_rfl) ?_
  simp only [FS, ↓RE, okR, argEnv, Nat.reduceAdd, Nat.reduceSub, Nat.reduceLT, Nat.reduceLeDiff, Nat.reduceEqDiff, reduceIte]
  refine call_of_pure' (ends_t l.s l.gd h.se h.s l.t true) (by simp [D.ltL, D.lt, lg]) (by simp [D.ltL, D.lt]) ?_
  simp only [FS, ↓RE, okR, argEnv, Nat.reduceAdd, Nat.reduceSub, Nat.reduceLT, Nat.reduceLeDiff, Nat.reduceEqDiff, reduceIte, ex_tup, vg, lg, a5]
  refine loopV (ι := Int × Int) o37_ok [] (fun i => [(2, .int .i64 c), (4, .ptr 0 0), (5, .ptr 1 0), (9, .sl (iL (endD true l.s))), (10, .sl (bL (endB true l.s l.t))), (11, .int .i64 (atL l.s.w.tide l.t).1), (12, .int .i64 i.1), (13, .int .i64 i.2)])
    (fun i => [(1, .box l.p.c), (0, .box (l.s.c l.gd))]) 2 (fun i => -1 ≤ i.1 ∧ i.1 ≤ min (deepB l c) 5000 ∧ min (deepB l c) 5000 ≤ i.2 ∧ i.2 ≤ 5000) (fun i => (i.2 - i.1).toNat) (-1, 5000) (by kernel_rfl) (by kernel_rfl) ⟨Int.le_refl _, by omega, by simp only; omega, Int.le_refl _⟩ ?_ ?_
  · simp [headW, heapW, envW, blkLt, D.ltL, D.lt, look, hget, lg]
  rintro ⟨a, b⟩ ⟨h1, h2, h3, h4⟩
  dsimp only at h1 h2 h3 h4 ⊢
  by_cases hab : a < b
  rotate_left
  · simp only [FS, ↓RE, okR, argEnv, Nat.reduceAdd, Nat.reduceSub, Nat.reduceLT, Nat.reduceLeDiff, Nat.reduceEqDiff, reduceIte, hab, decide_false]
    have : a = min (deepB l c) 5000 := by omega
    rw [← this]
  have w1 := wrap_i64 (z := b - a) (by omega) (by omega)
  have w2 := wrap_i64 (z := b - a + 1) (by omega) (by omega)
  have hd := a_quo' (k := .i64) (x := b - a + 1) (y := 2) (by omega)
  have he : (b - a + 1).tdiv 2 = (b - a + 1) / 2 := Int.tdiv_eq_ediv_of_nonneg (by omega)
  have w3 := wrap_i64 (z := (b - a + 1) / 2) (by omega) (by omega)
  have w4 := wrap_i64 (z := a + (b - a + 1) / 2) (by omega) (by omega)
  have w5 := wrap_i64 (z := a + (b - a + 1) / 2 - 1) (by omega) (by omega)
  simp only [FS, ↓RE, okR, argEnv, Nat.reduceAdd, Nat.reduceSub, Nat.reduceLT, Nat.reduceLeDiff, Nat.reduceEqDiff, reduceIte, hab, decide_true, w1, w2, hd, he, w3, w4, vg, lg]
  refine call_of_pure (hrun _) rfl ?_
  rw [goodR_deep]
  have hrb := run_best (fr := frL l) (dp := dpL l) (n := l.p.cells.toNat) (c := c.toNat) (x := a + (b - a + 1) / 2) (by omega) (by omega)
  rw [show bestD (frL l) (dpL l) c.toNat (l.p.cells.toNat + 1 - c.toNat) = deepB l c from rfl] at hrb
  by_cases q : 0 ≤ runS (fun k => decide (a + (b - a + 1) / 2 ≤ dpL l k) && frL l k) l.p.cells.toNat c.toNat
  · have := hrb.1 q
    simp only [FS, ↓RE, okR, argEnv, Nat.reduceAdd, Nat.reduceSub, Nat.reduceLT, Nat.reduceLeDiff, Nat.reduceEqDiff, reduceIte, q, decide_true]
    exact ⟨(a + (b - a + 1) / 2, b), ⟨by simp only; omega, by simp only; omega, h3, h4⟩, by simp only; omega, by simp [headW, heapW, envW, blkLt, D.ltL, D.lt, look, hget, lg]⟩
  · have := fun x => q (hrb.2 x)
    simp only [FS, ↓RE, okR, argEnv, Nat.reduceAdd, Nat.reduceSub, Nat.reduceLT, Nat.reduceLeDiff, Nat.reduceEqDiff, reduceIte, q, decide_false, w5]
    exact ⟨(a, a + (b - a + 1) / 2 - 1), ⟨h1, h2, by simp only; omega, by simp only; omega⟩, by simp only; omega, by simp [headW, heapW, envW, blkLt, D.ltL, D.lt, look, hget, lg]⟩
end Go.Sx

namespace Go.Sx
open Go.Proofs
set_option maxRecDepth 10000

theorem dpAt_b {s : Se} (hs : okSe s = true) (i : Int) : -5000 ≤ (dpAt s i).1 ∧ (dpAt s i).1 ≤ 5000 := by
  simp only [dpAt, List.getD_eq_getElem?_getD]
  cases hg : s.depths[i.toNat]? with
  | none => simp
  | some d =>
    simp only [okSe, Bool.and_eq_true, List.all_eq_true] at hs
    have := hs.2.2.2.2.1 d (List.mem_of_getElem? hg)
    simp only [okDp, bSpan, Bool.and_eq_true, decide_eq_true_eq] at this
    simp only [Option.getD_some]; omega
theorem dpL_b (l : Lk) (hs : okSe l.s = true) (k : Nat) : -200000 ≤ dpL l k ∧ dpL l k ≤ 200000 := by
  have h1 := dpAt_b hs (cellI l.s l.p k)
  have h2 := (at_bounds (okWx_gaOk (okSe_wx hs)).tide l.t).1
  have h3 : -100000 ≤ (atL l.s.w.tide l.t).1 := h2.1
  have h4 : (atL l.s.w.tide l.t).1 ≤ 100000 := h2.2
  simp only [dpL]; omega
def DeepA (l : Lk) (c : Int) : Int × Int := if okSe l.s && (okSp l.s l.p && (bIn c 1 12 && bIn l.t 0 1440)) then (if runG l.s.w.tide then (if deepB l c < 0 then (0, 7) else (min (deepB l c) 5000, 0)) else (0, 5)) else (0, 2)
theorem Deepest_t (l : Lk) (h : SeL l.s l.gd) (c : Int) : Pure Tryz.prog 24 [.agg (l.s.c l.gd), .agg l.p.c, .int .i64 c, .int .i64 l.t] (.tup [.int .i64 (DeepA l c).1, .int .i64 (DeepA l c).2]) := by
  have hg := h.gd
  have vg := fun hp => En.view hg hp
  have lg := En.lt hg
  have cg := fun hp => En.cur hg hp
  have h1 := gSe_eq h
  simp only [Se.c, Se.cr, Wx.c, gaC] at h1
  refine pure_of_wc (rs := [.tmp 8, .tmp 9]) (m := 100) [(17, [(17, false, false, [])])] o42_ok (by kernel_rfl) Tryz.func24 rfl (by kernel_rfl) rfl rfl (by kernel_rfl) ?_
  cases hs : okSe l.s
  · simp only [FS, ↓RE, okR, argEnv, Nat.reduceAdd, Nat.reduceSub, Nat.reduceLT, Nat.reduceLeDiff, Nat.reduceEqDiff, reduceIte, vg, lg, h1, hs]
    simp [DeepA, hs]
  have h2 := gSp_eq h hs l.p
  simp only [Se.c, Se.cr, Wx.c, gaC] at h2
  cases hp : okSp l.s l.p
  · simp only [FS, ↓RE, okR, argEnv, Nat.reduceAdd, Nat.reduceSub, Nat.reduceLT, Nat.reduceLeDiff, Nat.reduceEqDiff, reduceIte, vg, lg, h1, hs, h2, hp]
    simp [DeepA, hs, hp]
  cases hc : bIn c 1 12
  · simp only [FS, ↓RE, okR, argEnv, Nat.reduceAdd, Nat.reduceSub, Nat.reduceLT, Nat.reduceLeDiff, Nat.reduceEqDiff, reduceIte, vg, lg, h1, hs, h2, hp, gIn_eq, hc]
    simp [DeepA, hs, hp, hc]
  cases ht : bIn l.t 0 1440
  · simp only [FS, ↓RE, okR, argEnv, Nat.reduceAdd, Nat.reduceSub, Nat.reduceLT, Nat.reduceLeDiff, Nat.reduceEqDiff, reduceIte, vg, lg, h1, hs, h2, hp, gIn_eq, hc, ht]
    simp [DeepA, hs, hp, hc, ht]
  have hc' : 1 ≤ c ∧ c ≤ 12 := by simpa [bIn] using hc
  have ht' : 0 ≤ l.t ∧ l.t ≤ 1440 := by simpa [bIn] using ht
  have hwx := okWx_gaOk (okSe_wx hs)
  have hru := gGk_eq (k := fun g => .bool (!(clashG g).2.2)) (a := l.s.w.tide.rate) (b := l.s.w.tide.least) (c := l.s.w.tide.most) (rs := l.s.w.tide.rs) hwx.tide
  have hru : gGk (fun g => .bool (!(clashG g).2.2)) [.agg [.int .i64 l.s.w.tide.rate, .int .i64 l.s.w.tide.least, .int .i64 l.s.w.tide.most, .sl (l.s.w.tide.rs.map Rd.d)]] = some (.bool (runG l.s.w.tide)) := hru
  cases hr : runG l.s.w.tide
  · simp only [FS, ↓RE, okR, argEnv, Nat.reduceAdd, Nat.reduceSub, Nat.reduceLT, Nat.reduceLeDiff, Nat.reduceEqDiff, reduceIte, vg, lg, h1, hs, h2, hp, gIn_eq, hc, ht, hru, hr]
    simp [DeepA, hs, hp, hc, ht, hr]
  have hA : DeepA l c = if deepB l c < 0 then (0, 7) else (min (deepB l c) 5000, 0) := by simp [DeepA, hs, hp, hc, ht, hr]
  rw [hA]
  obtain ⟨hwd, hdp, hlen⟩ := okSe_sz hs
  obtain ⟨hwy, hce⟩ := okSp_ce hp
  have wn1 := wrap_i64 (z := l.p.cells - c) (by omega) (by omega)
  have wn2 := wrap_i64 (z := l.p.cells - c + 1) (by omega) (by omega)
  simp only [FS, ↓RE, okR, argEnv, Nat.reduceAdd, Nat.reduceSub, Nat.reduceLT, Nat.reduceLeDiff, Nat.reduceEqDiff, reduceIte, vg, lg, cg, h1, hs, h2, hp, gIn_eq, hc, ht, hru, hr, wn1, wn2]
  have hdb := dpL_b l hs
  have hbb := fun m => bestD_b (fr := frL l) (dp := dpL l) (c := c.toNat) hdb m
  refine loopV (ι := Nat) o42_ok [(17, [(17, false, false, [])])] (fun o => [(2, .int .i64 c), (3, .int .i64 l.t), (4, .ptr 0 0), (10, .ptr 2 0), (11, .int .i64 (bestD (frL l) (dpL l) c.toNat o)), (51, .int .i64 (l.p.cells - c + 1)), (52, .int .i64 (o : Int))])
    (fun o => [(2, .box (⟨l.s, l.gd, l.p, nd0, l.t⟩ : Lk).c), (0, .box (l.s.c l.gd))]) 3 (fun o => o ≤ l.p.cells.toNat + 1 - c.toNat) (fun o => l.p.cells.toNat + 1 - c.toNat - o) 0 (by kernel_rfl) (by kernel_rfl) (Nat.zero_le _) ?_ ?_
  · simp [headW, heapW, envW, blkLt, D.ltL, D.lt, look, hget, hset, lg, bestD, nd0]
  intro o ho
  rcases Nat.lt_or_ge o (l.p.cells.toNat + 1 - c.toNat) with hlt | hge
  rotate_left
  · have hc2 : ((o : Int) < l.p.cells - c + 1) = False := by simp; omega
    have : o = l.p.cells.toNat + 1 - c.toNat := by omega
    have hd : bestD (frL l) (dpL l) c.toNat o = deepB l c := by rw [this]; rfl
    rw [hd]
    by_cases q : deepB l c < 0
    · simp only [FS, ↓RE, okR, argEnv, Nat.reduceAdd, Nat.reduceSub, Nat.reduceLT, Nat.reduceLeDiff, Nat.reduceEqDiff, reduceIte, hc2, decide_false, q, decide_true]
    · simp only [FS, ↓RE, okR, argEnv, Nat.reduceAdd, Nat.reduceSub, Nat.reduceLT, Nat.reduceLeDiff, Nat.reduceEqDiff, reduceIte, hc2, decide_false, q]
  have hc2 : ((o : Int) < l.p.cells - c + 1) = True := by simp; omega
  have hwo := wrap_i64 (z := (o : Int) + 1) (by omega) (by omega)
  simp only [FS, ↓RE, okR, argEnv, Nat.reduceAdd, Nat.reduceSub, Nat.reduceLT, Nat.reduceLeDiff, Nat.reduceEqDiff, reduceIte, hc2, decide_true]
  refine loopV (ι := Nat × Int) o42_ok [(17, [(17, false, false, [])])] (fun i => [(2, .int .i64 c), (3, .int .i64 l.t), (4, .ptr 0 0), (10, .ptr 2 0), (11, .int .i64 (bestD (frL l) (dpL l) c.toNat o)), (12, .int .i64 (o : Int)), (13, .int .i64 i.2), (51, .int .i64 (l.p.cells - c + 1)), (52, .int .i64 (o : Int)), (55, .int .i64 c), (56, .int .i64 (i.1 : Int))])
    (fun i => [(2, .box (⟨l.s, l.gd, l.p, nd0, l.t⟩ : Lk).c), (0, .box (l.s.c l.gd))]) 3 (fun i => i.1 ≤ c.toNat ∧ (-200000 ≤ i.2 ∧ i.2 ≤ 1073741824) ∧ leastR (frL l) (dpL l) o c.toNat 0 1073741824 = leastR (frL l) (dpL l) o (c.toNat - i.1) i.1 i.2) (fun i => c.toNat - i.1) (0, 1073741824) (by kernel_rfl) (by kernel_rfl) ⟨Nat.zero_le _, by simp, rfl⟩ ?_ ?_
  · simp [headW, heapW, envW, blkLt, D.ltL, D.lt, look, hget, hset, lg, nd0]
  rintro ⟨j, v⟩ ⟨hj, hv, hl⟩
  dsimp only at hj hv hl ⊢
  have hb0 := hbb o
  rcases Nat.lt_or_ge j c.toNat with hjlt | hjge
  rotate_left
  · have hc3 : ((j : Int) < c) = False := by simp; omega
    rw [show c.toNat - j = 0 by omega] at hl
    simp only [leastR] at hl
    simp only [FS, ↓RE, okR, argEnv, Nat.reduceAdd, Nat.reduceSub, Nat.reduceLT, Nat.reduceLeDiff, Nat.reduceEqDiff, reduceIte, hc3, decide_false, hwo]
    exact ⟨o + 1, by omega, by omega, by simp [headW, heapW, envW, blkLt, D.ltL, D.lt, look, hget, lg, nd0, bestD, hl]⟩
  have hc3 : ((j : Int) < c) = True := by simp; omega
  rw [show c.toNat - j = (c.toNat - (j + 1)) + 1 by omega] at hl
  simp only [leastR] at hl
  have hwj := wrap_i64 (z := (j : Int) + 1) (by omega) (by omega)
  have hwk : IntKind.i64.wrap ((o : Int) + (j : Int)) = ((o + j : Nat) : Int) := by
    rw [show ((o + j : Nat) : Int) = (o : Int) + (j : Int) by omega]; exact wrap_i64 (by omega) (by omega)
  have hk' : 0 ≤ ((o + j : Nat) : Int) ∧ ((o + j : Nat) : Int) ≤ l.p.cells - 1 := by omega
  have hcl := cell_lt hwd.1 hp hk'
  obtain ⟨hdq, _⟩ := dp_ok hs hcl.1 hcl.2
  have hce2 := gL1_eq okCl (fun q => .tup [.int .i64 (cellI q.1.s q.1.p q.2), .int .i64 (pxK q.1.p q.2), .int .i64 (pyK q.1.p q.2)]) ⟨l.s, l.gd, l.p, nd0, l.t⟩ hg (i := ((o + j : Nat) : Int)) (by simp [okCl, bIn, hp]; omega)
  simp only [Lk.c, Se.cr, Wx.c, gaC, nd0] at hce2
  have hfr := free_t ⟨l.s, l.gd, l.p, nd0, l.t⟩ hg h.boats (pxK l.p ((o + j : Nat) : Int)) (pyK l.p ((o + j : Nat) : Int)) 74 [.agg (⟨l.s, l.gd, l.p, nd0, l.t⟩ : Lk).c] [] (passB l) (fun m => by simp [D.ltL, D.lt, lg]) (fun h => by simp [viewL, view, vg]) (fun _ => rfl) (fun _ => rfl) (fun h i => by simp [viewL, view, vg]) fun i hi => passes_t ⟨l.s, l.gd, l.p, nd0, l.t⟩ hg i hi
  have hix := fun hh => En.ix (P := Tryz.prog) Fz.und_22 Fz.size_70 (En.sl_map (E := enS) l.s.depths) hdq hh .i64
  rw [Int.toNat_of_nonneg hcl.1] at hix
  have hix2 : ∀ hh, indexAddrD Tryz.prog hh 22 (.sl (l.s.depths.map enS.d)) (.int .i64 (cellI l.s l.p ((o + j : Nat) : Int))) = some (.ref [.int .i64 (dpAt l.s (cellI l.s l.p ((o + j : Nat) : Int))).1, .int .i64 (dpAt l.s (cellI l.s l.p ((o + j : Nat) : Int))).2] 0) := hix
  have hat := gAtL l.s.w.tide l.t ⟨hwx.tide, ht'⟩
  have hdv := hdb (o + j)
  have hwv : IntKind.i64.wrap ((dpAt l.s (cellI l.s l.p ((o + j : Nat) : Int))).1 + (atL l.s.w.tide l.t).1) = dpL l (o + j) := wrap_i64 (z := dpL l (o + j)) (by omega) (by omega)
  simp only [FS, ↓RE, okR, argEnv, Nat.reduceAdd, Nat.reduceSub, Nat.reduceLT, Nat.reduceLeDiff, Nat.reduceEqDiff, reduceIte, hc3, decide_true, hwk, hce2, ex_tup, vg, lg, nd0]
  refine call_of_pure hfr rfl ?_
  have hfl : freeB (passB l) (pxK l.p ((o + j : Nat) : Int)) (pyK l.p ((o + j : Nat) : Int)) l.s.boats 0 = frL l (o + j) := rfl
  rw [hfl]
  cases q : frL l (o + j)
  · rw [q, if_neg Bool.false_ne_true] at hl
    simp only [FS, ↓RE, okR, argEnv, Nat.reduceAdd, Nat.reduceSub, Nat.reduceLT, Nat.reduceLeDiff, Nat.reduceEqDiff, reduceIte, hwo]
    exact ⟨o + 1, by omega, by omega, by simp [headW, heapW, envW, blkLt, D.ltL, D.lt, look, hget, lg, nd0, bestD, hl]⟩
  · rw [q, if_pos rfl] at hl
    simp only [FS, ↓RE, okR, argEnv, Nat.reduceAdd, Nat.reduceSub, Nat.reduceLT, Nat.reduceLeDiff, Nat.reduceEqDiff, reduceIte, hix2, hat, hwv, hwj]
    exact ⟨(j + 1, min v (dpL l (o + j))), ⟨by simp only; omega, by simp only; omega, hl⟩, by simp only; omega, by simp [headW, heapW, envW, blkLt, D.ltL, D.lt, look, hget, lg, nd0]⟩
end Go.Sx
