/- Own work: a calculus of contracts for the programs of this kit: parts SxC30t, SxC31t, SxC32t, SxC33t, SxC34t, SxC35t, SxC36t, SxC37t, SxC38t, SxC42t, SxC43t, SxC44t, SxC45t, SxC46t, SxC47t. -/
import Derived.Test.YtaifjmjooapmhaaGreatSxTb
set_option linter.unusedVariables false
set_option linter.unusedSimpArgs false
namespace Go.Sx
open Go.Proofs
set_option maxRecDepth 10000

end Go.Sx

namespace Go.Sx
open Go.Proofs
set_option maxRecDepth 10000

theorem at_bounds {g : Ga} (hga : gaOk g = true) (t : Int) : (-100000 ≤ (atG g.rate g.least g.most g.rs t).1 ∧ (atG g.rate g.least g.most g.rs t).1 ≤ 100000) ∧ (-100000 ≤ (atG g.rate g.least g.most g.rs t).2 ∧ (atG g.rate g.least g.most g.rs t).2 ≤ 100000) := by
 obtain ⟨hrs, hrate, hspan, _⟩ := gaOk_inv hga
 have h1 := (atG_lo g.rate t _ g.rs g.least g.most).1 (Int.le_refl _)
 have h2 := (atG_hi g.rate t _ g.rs g.least g.most).1 (Int.le_refl _)
 refine ⟨⟨by omega, ?_⟩, ?_, by omega⟩
 ·rw [atG_lo]
  refine ⟨by omega, fun r hr => ?_⟩
  have := hrs r hr
  have := far_nonneg g.rate r.minute t hrate.1
  omega
 ·rw [atG_hi]
  refine ⟨by omega, fun r hr => ?_⟩
  have := hrs r hr
  have := far_nonneg g.rate r.minute t hrate.1
  omega

def dpAt (s : Se) (i : Int) : Int × Int := s.depths.getD i.toNat (0, 0)
def atL (g : Ga) (t : Int) : Int × Int := atG g.rate g.least g.most g.rs t
theorem dp_ok {s : Se} (h : okSe s = true) {i : Int} (h0 : 0 ≤ i) (hi : i < s.wide * s.deep) : s.depths[i.toNat]? = some (dpAt s i) ∧ (-5000 ≤ (dpAt s i).1 ∧ (dpAt s i).1 ≤ (dpAt s i).2 ∧ (dpAt s i).2 ≤ 5000) := by
 have hlen := (okSe_sz h).2.2
 have hlt : i.toNat < s.depths.length := by omega
 have hg : s.depths[i.toNat]? = some (dpAt s i) := by simp [dpAt, hlt, List.getD]
 refine ⟨hg, ?_⟩
 simp only [okSe, Bool.and_eq_true, List.all_eq_true] at h
 have := h.2.2.2.2.1 _ (List.mem_of_getElem? hg)
 simpa [okDp, bSpan] using this
end Go.Sx

namespace Go.Sx
open Go.Proofs
set_option maxRecDepth 10000

structure LkOk (l : Lk) : Prop where
 se : SeL l.s l.gd
 s : okSe l.s = true
 p : okSp l.s l.p = true
 n : okNd l.n = true
 t : 0 ≤ l.t ∧ l.t ≤ 1440
theorem gAtL (g : Ga) (t : Int) (h : gaOk g = true ∧ 0 ≤ t ∧ t ≤ 1440) : gAt [.agg [.int .i64 g.rate, .int .i64 g.least, .int .i64 g.most, .sl (g.rs.map Rd.d)], .int .i64 t] = some (.agg [.int .i64 (atL g t).1, .int .i64 (atL g t).2]) := gAt_eq (a := g.rate) (b := g.least) (c := g.most) (rs := g.rs) (t := t) h
end Go.Sx

namespace Go.Sx
open Go.Proofs
set_option maxRecDepth 10000

end Go.Sx

namespace Go.Sx
open Go.Proofs
set_option maxRecDepth 10000

theorem En.cur {α : Type} {E : En α} {x : D} {l : List α} (h : E.sl x = some l) (hp : H) : curD hp x = true := by
 rcases En.inv h with rfl | ⟨rfl, rfl⟩ <;> rfl
end Go.Sx

namespace Go.Sx
open Go.Proofs
set_option maxRecDepth 10000

end Go.Sx

namespace Go.Sx
open Go.Proofs
set_option maxRecDepth 10000

abbrev o36 : List (FuncId × (List D → Option D)) := o29

theorem o36_ok : OkO Tryz.prog (mkO o36) :=  o29_ok

def bAt (l : List Bool) (i : Nat) : Bool := l.getD i false
end Go.Sx

namespace Go.Sx
open Go.Proofs
set_option maxRecDepth 10000

abbrev o37 : List (FuncId × (List D → Option D)) := o36

theorem o37_ok : OkO Tryz.prog (mkO o37) :=  o36_ok

end Go.Sx

namespace Go.Sx
open Go.Proofs
set_option maxRecDepth 10000

abbrev o38 : List (FuncId × (List D → Option D)) := o37

theorem o38_ok : OkO Tryz.prog (mkO o38) :=  o37_ok

end Go.Sx

namespace Go.Sx
open Go.Proofs
set_option maxRecDepth 10000

def sureB (l : Lk) (i : Nat) : Bool := (match l.s.boats[i]? with
 | some b => b.sure
 | none => false) && passB l i
abbrev o42 : List (FuncId × (List D → Option D)) := o38

theorem o42_ok : OkO Tryz.prog (mkO o42) :=  o38_ok

end Go.Sx

namespace Go.Sx
open Go.Proofs
set_option maxRecDepth 10000

end Go.Sx

namespace Go.Sx
open Go.Proofs
set_option maxRecDepth 10000

end Go.Sx

namespace Go.Sx
open Go.Proofs
set_option maxRecDepth 10000

end Go.Sx

namespace Go.Sx
open Go.Proofs
set_option maxRecDepth 10000

def leastR (fr : Nat → Bool) (dp : Nat → Int) (o : Nat) : Nat → Nat → Int → Int
 | 0, _, v => v
 | m + 1, j, v => if fr (o + j) then leastR fr dp o m (j + 1) (min v (dp (o + j))) else -1
def bestD (fr : Nat → Bool) (dp : Nat → Int) (c : Nat) : Nat → Int
 | 0 => -1
 | o + 1 => max (bestD fr dp c o) (leastR fr dp o c 0 1073741824)
theorem leastR_le {fr : Nat → Bool} {dp : Nat → Int} {o : Nat} {x : Int} (hx : 0 ≤ x) : ∀ (m j : Nat) (v : Int), x ≤ leastR fr dp o m j v ↔ (m = 0 ∧ x ≤ v) ∨ (0 < m ∧ x ≤ v ∧ ∀ i, i < m → fr (o + j + i) = true ∧ x ≤ dp (o + j + i))
 | 0, j, v => by simp [leastR]
 | m + 1, j, v => by
  simp only [leastR]
  cases hf : fr (o + j)
  ·simp only [Bool.false_eq_true, if_false]
   constructor
   ·intro h; omega
   ·rintro (h | ⟨_, _, h⟩)
    ·omega
    ·have := (h 0 (by omega)).1
     rw [Nat.add_zero, hf] at this; cases this
  ·rw [if_pos rfl, leastR_le hx m (j + 1)]
   have hs : ∀ i, o + (j + 1) + i = o + j + (i + 1) := fun i => by omega
   constructor
   ·rintro (⟨h1, h2⟩ | ⟨h1, h2, h3⟩)
    ·refine .inr ⟨by omega, by omega, fun i hi => ?_⟩
     have : i = 0 := by omega
     subst this
     exact ⟨by simpa using hf, by simpa using (by omega : x ≤ dp (o + j))⟩
    ·refine .inr ⟨by omega, by omega, fun i hi => ?_⟩
     cases i with
     | zero => exact ⟨by simpa using hf, by simpa using (by omega : x ≤ dp (o + j))⟩
     | succ i =>
      have := h3 i (by omega)
      rwa [hs] at this
   ·rintro (h | ⟨_, h2, h3⟩)
    ·omega
    ·have h0 := (h3 0 (by omega)).2
     rw [Nat.add_zero] at h0
     rcases Nat.eq_zero_or_pos m with hm | hm
     ·exact .inl ⟨hm, by omega⟩
     ·refine .inr ⟨hm, by omega, fun i hi => ?_⟩
      rw [hs]; exact h3 (i + 1) (by omega)
theorem bestD_le {fr : Nat → Bool} {dp : Nat → Int} {c : Nat} {x : Int} (hx : 0 ≤ x) : ∀ m, x ≤ bestD fr dp c m ↔ ∃ o, o < m ∧ x ≤ leastR fr dp o c 0 1073741824
 | 0 => by simp [bestD]; omega
 | m + 1 => by
  have ih := bestD_le (fr := fr) (dp := dp) (c := c) hx m
  simp only [bestD]
  constructor
  ·intro h
   by_cases h1 : x ≤ bestD fr dp c m
   ·obtain ⟨o, a, b⟩ := ih.1 h1; exact ⟨o, by omega, b⟩
   ·exact ⟨m, by omega, by omega⟩
  ·rintro ⟨o, a, b⟩
   by_cases h1 : o < m
   ·have := ih.2 ⟨o, h1, b⟩; omega
   ·have : o = m := by omega
    subst this; omega
theorem leastR_b {fr : Nat → Bool} {dp : Nat → Int} {o : Nat} (hd : ∀ k, -200000 ≤ dp k ∧ dp k ≤ 200000) : ∀ (m j : Nat) (v : Int), (-200000 ≤ v ∧ v ≤ 1073741824) → -200000 ≤ leastR fr dp o m j v ∧ leastR fr dp o m j v ≤ 1073741824
 | 0, _, v, h => h
 | m + 1, j, v, h => by
  simp only [leastR]
  split
  ·have := hd (o + j)
   exact leastR_b hd m (j + 1) _ (by omega)
  ·omega
theorem bestD_b {fr : Nat → Bool} {dp : Nat → Int} {c : Nat} (hd : ∀ k, -200000 ≤ dp k ∧ dp k ≤ 200000) : ∀ m, -1 ≤ bestD fr dp c m ∧ bestD fr dp c m ≤ 1073741824
 | 0 => by simp [bestD]
 | m + 1 => by
  have h1 := bestD_b (fr := fr) (c := c) hd m
  have h2 := leastR_b (fr := fr) (o := m) hd c 0 1073741824 (by omega)
  simp only [bestD]; omega

def nd0 : Nd := ⟨0, 0, 0, 0, 0, 0, 0⟩
def frL (l : Lk) (k : Nat) : Bool := freeB (passB l) (pxK l.p k) (pyK l.p k) l.s.boats 0
def dpL (l : Lk) (k : Nat) : Int := (dpAt l.s (cellI l.s l.p k)).1 + (atL l.s.w.tide l.t).1
def deepB (l : Lk) (c : Int) : Int := bestD (frL l) (dpL l) c.toNat (l.p.cells.toNat + 1 - c.toNat)
structure LkP (l : Lk) : Prop where
 se : SeL l.s l.gd
 s : okSe l.s = true
 p : okSp l.s l.p = true
 t : 0 ≤ l.t ∧ l.t ≤ 1440
end Go.Sx

namespace Go.Sx
open Go.Proofs
set_option maxRecDepth 10000

theorem dpAt_b {s : Se} (hs : okSe s = true) (i : Int) : -5000 ≤ (dpAt s i).1 ∧ (dpAt s i).1 ≤ 5000 := by
 simp only [dpAt, List.getD_eq_getElem?_getD]
 cases hg : s.depths[i.toNat]? with
 | none => simp
 | some d =>
  simp only [okSe, Bool.and_eq_true, List.all_eq_true] at hs
  have := hs.2.2.2.2.1 d (List.mem_of_getElem? hg)
  simp only [okDp, bSpan, Bool.and_eq_true, decide_eq_true_eq] at this
  simp only [Option.getD_some]; omega
theorem dpL_b (l : Lk) (hs : okSe l.s = true) (k : Nat) : -200000 ≤ dpL l k ∧ dpL l k ≤ 200000 := by
 have h1 := dpAt_b hs (cellI l.s l.p k)
 have h2 := (at_bounds (okWx_gaOk (okSe_wx hs)).tide l.t).1
 have h3 : -100000 ≤ (atL l.s.w.tide l.t).1 := h2.1
 have h4 : (atL l.s.w.tide l.t).1 ≤ 100000 := h2.2
 simp only [dpL]; omega
def DeepA (l : Lk) (c : Int) : Int × Int := if okSe l.s && (okSp l.s l.p && (bIn c 1 12 && bIn l.t 0 1440)) then (if runG l.s.w.tide then (if deepB l c < 0 then (0, 7) else (min (deepB l c) 5000, 0)) else (0, 5)) else (0, 2)
theorem Deepest_t (l : Lk) (h : SeL l.s l.gd) (c : Int) : Pure Tryz.prog 8 [.agg (l.s.c l.gd), .agg l.p.c, .int .i64 c, .int .i64 l.t] (.tup [.int .i64 (DeepA l c).1, .int .i64 (DeepA l c).2]) := by
 have hg := h.gd
 have vg := fun hp => En.view hg hp
 have lg := En.lt hg
 have cg := fun hp => En.cur hg hp
 have h1 := gSe_eq h
 simp only [Se.c, Se.cr, Wx.c, gaC] at h1
 refine pure_of_wc (rs := [.tmp 8, .tmp 9]) (m := 100) [(17, [(17, false, false, [])])] o42_ok (by kernel_rfl) Tryz.func8 rfl (by kernel_rfl) rfl rfl (by kernel_rfl) ?_
 cases hs : okSe l.s
 ·simp only [FS, ↓RE, okR, argEnv, Nat.reduceAdd, Nat.reduceSub, Nat.reduceLT, Nat.reduceLeDiff, Nat.reduceEqDiff, reduceIte, vg, lg, h1, hs]
  simp [DeepA, hs]
 have h2 := gSp_eq h hs l.p
 simp only [Se.c, Se.cr, Wx.c, gaC] at h2
 cases hp : okSp l.s l.p
 ·simp only [FS, ↓RE, okR, argEnv, Nat.reduceAdd, Nat.reduceSub, Nat.reduceLT, Nat.reduceLeDiff, Nat.reduceEqDiff, reduceIte, vg, lg, h1, hs, h2, hp]
  simp [DeepA, hs, hp]
 cases hc : bIn c 1 12
 ·simp only [FS, ↓RE, okR, argEnv, Nat.reduceAdd, Nat.reduceSub, Nat.reduceLT, Nat.reduceLeDiff, Nat.reduceEqDiff, reduceIte, vg, lg, h1, hs, h2, hp, gIn_eq, hc]
  simp [DeepA, hs, hp, hc]
 cases ht : bIn l.t 0 1440
 ·simp only [FS, ↓RE, okR, argEnv, Nat.reduceAdd, Nat.reduceSub, Nat.reduceLT, Nat.reduceLeDiff, Nat.reduceEqDiff, reduceIte, vg, lg, h1, hs, h2, hp, gIn_eq, hc, ht]
  simp [DeepA, hs, hp, hc, ht]
 have hc' : 1 ≤ c ∧ c ≤ 12 := by simpa [bIn] using hc
 have ht' : 0 ≤ l.t ∧ l.t ≤ 1440 := by simpa [bIn] using ht
 have hwx := okWx_gaOk (okSe_wx hs)
 have hru := gGk_eq (k := fun g => .bool (!(clashG g).2.2)) (a := l.s.w.tide.rate) (b := l.s.w.tide.least) (c := l.s.w.tide.most) (rs := l.s.w.tide.rs) hwx.tide
 have hru : gGk (fun g => .bool (!(clashG g).2.2)) [.agg [.int .i64 l.s.w.tide.rate, .int .i64 l.s.w.tide.least, .int .i64 l.s.w.tide.most, .sl (l.s.w.tide.rs.map Rd.d)]] = some (.bool (runG l.s.w.tide)) := hru
 cases hr : runG l.s.w.tide
 ·simp only [FS, ↓RE, okR, argEnv, Nat.reduceAdd, Nat.reduceSub, Nat.reduceLT, Nat.reduceLeDiff, Nat.reduceEqDiff, reduceIte, vg, lg, h1, hs, h2, hp, gIn_eq, hc, ht, hru, hr]
  simp [DeepA, hs, hp, hc, ht, hr]
 have hA : DeepA l c = if deepB l c < 0 then (0, 7) else (min (deepB l c) 5000, 0) := by simp [DeepA, hs, hp, hc, ht, hr]
 rw [hA]
 obtain ⟨hwd, hdp, hlen⟩ := okSe_sz hs
 obtain ⟨hwy, hce⟩ := okSp_ce hp
 have wn1 := wrap_i64 (z := l.p.cells - c) (by omega) (by omega)
 have wn2 := wrap_i64 (z := l.p.cells - c + 1) (by omega) (by omega)
 simp only [FS, ↓RE, okR, argEnv, Nat.reduceAdd, Nat.reduceSub, Nat.reduceLT, Nat.reduceLeDiff, Nat.reduceEqDiff, reduceIte, vg, lg, cg, h1, hs, h2, hp, gIn_eq, hc, ht, hru, hr, wn1, wn2]
 have hdb := dpL_b l hs
 have hbb := fun m => bestD_b (fr := frL l) (dp := dpL l) (c := c.toNat) hdb m
 refine loopV (ι := Nat) o42_ok [(17, [(17, false, false, [])])] (fun o => [(2, .int .i64 c), (3, .int .i64 l.t), (4, .ptr 0 0), (10, .ptr 2 0), (11, .int .i64 (bestD (frL l) (dpL l) c.toNat o)), (51, .int .i64 (l.p.cells - c + 1)), (52, .int .i64 (o : Int))])
  (fun o => [(2, .box (⟨l.s, l.gd, l.p, nd0, l.t⟩ : Lk).c), (0, .box (l.s.c l.gd))]) 3 (fun o => o ≤ l.p.cells.toNat + 1 - c.toNat) (fun o => l.p.cells.toNat + 1 - c.toNat - o) 0 (by kernel_rfl) (by kernel_rfl) (Nat.zero_le _) ?_ ?_
 ·simp [headW, heapW, envW, blkLt, D.ltL, D.lt, look, hget, hset, lg, bestD, nd0]
 intro o ho
 rcases Nat.lt_or_ge o (l.p.cells.toNat + 1 - c.toNat) with hlt | hge
 rotate_left
 ·have hc2 : ((o : Int) < l.p.cells - c + 1) = False := by simp; omega
  have : o = l.p.cells.toNat + 1 - c.toNat := by omega
  have hd : bestD (frL l) (dpL l) c.toNat o = deepB l c := by rw [this]; rfl
  rw [hd]
  by_cases q : deepB l c < 0
  ·simp only [FS, ↓RE, okR, argEnv, Nat.reduceAdd, Nat.reduceSub, Nat.reduceLT, Nat.reduceLeDiff, Nat.reduceEqDiff, reduceIte, hc2, decide_false, q, decide_true]
  ·simp only [FS, ↓RE, okR, argEnv, Nat.reduceAdd, Nat.reduceSub, Nat.reduceLT, Nat.reduceLeDiff, Nat.reduceEqDiff, reduceIte, hc2, decide_false, q]
 have hc2 : ((o : Int) < l.p.cells - c + 1) = True := by simp; omega
 have hwo := wrap_i64 (z := (o : Int) + 1) (by omega) (by omega)
 simp only [FS, ↓RE, okR, argEnv, Nat.reduceAdd, Nat.reduceSub, Nat.reduceLT, Nat.reduceLeDiff, Nat.reduceEqDiff, reduceIte, hc2, decide_true]
 refine loopV (ι := Nat × Int) o42_ok [(17, [(17, false, false, [])])] (fun i => [(2, .int .i64 c), (3, .int .i64 l.t), (4, .ptr 0 0), (10, .ptr 2 0), (11, .int .i64 (bestD (frL l) (dpL l) c.toNat o)), (12, .int .i64 (o : Int)), (13, .int .i64 i.2), (51, .int .i64 (l.p.cells - c + 1)), (52, .int .i64 (o : Int)), (55, .int .i64 c), (56, .int .i64 (i.1 : Int))])
  (fun i => [(2, .box (⟨l.s, l.gd, l.p, nd0, l.t⟩ : Lk).c), (0, .box (l.s.c l.gd))]) 3 (fun i => i.1 ≤ c.toNat ∧ (-200000 ≤ i.2 ∧ i.2 ≤ 1073741824) ∧ leastR (frL l) (dpL l) o c.toNat 0 1073741824 = leastR (frL l) (dpL l) o (c.toNat - i.1) i.1 i.2) (fun i => c.toNat - i.1) (0, 1073741824) (by kernel_rfl) (by kernel_rfl) ⟨Nat.zero_le _, by simp, rfl⟩ ?_ ?_
 ·simp [headW, heapW, envW, blkLt, D.ltL, D.lt, look, hget, hset, lg, nd0]
 rintro ⟨j, v⟩ ⟨hj, hv, hl⟩
 dsimp only at hj hv hl ⊢
 have hb0 := hbb o
 rcases Nat.lt_or_ge j c.toNat with hjlt | hjge
 rotate_left
 ·have hc3 : ((j : Int) < c) = False := by simp; omega
  rw [show c.toNat - j = 0 by omega] at hl
  simp only [leastR] at hl
  simp only [FS, ↓RE, okR, argEnv, Nat.reduceAdd, Nat.reduceSub, Nat.reduceLT, Nat.reduceLeDiff, Nat.reduceEqDiff, reduceIte, hc3, decide_false, hwo]
  exact ⟨o + 1, by omega, by omega, by simp [headW, heapW, envW, blkLt, D.ltL, D.lt, look, hget, lg, nd0, bestD, hl]⟩
 have hc3 : ((j : Int) < c) = True := by simp; omega
 rw [show c.toNat - j = (c.toNat - (j + 1)) + 1 by omega] at hl
 simp only [leastR] at hl
 have hwj := wrap_i64 (z := (j : Int) + 1) (by omega) (by omega)
 have hwk : IntKind.i64.wrap ((o : Int) + (j : Int)) = ((o + j : Nat) : Int) := by
  rw [show ((o + j : Nat) : Int) = (o : Int) + (j : Int) by omega]; exact wrap_i64 (by omega) (by omega)
 have hk' : 0 ≤ ((o + j : Nat) : Int) ∧ ((o + j : Nat) : Int) ≤ l.p.cells - 1 := by omega
 have hcl := cell_lt hwd.1 hp hk'
 obtain ⟨hdq, _⟩ := dp_ok hs hcl.1 hcl.2
 have hce2 := gL1_eq okCl (fun q => .tup [.int .i64 (cellI q.1.s q.1.p q.2), .int .i64 (pxK q.1.p q.2), .int .i64 (pyK q.1.p q.2)]) ⟨l.s, l.gd, l.p, nd0, l.t⟩ hg (i := ((o + j : Nat) : Int)) (by simp [okCl, bIn, hp]; omega)
 simp only [Lk.c, Se.cr, Wx.c, gaC, nd0] at hce2
 have hfr := free_t ⟨l.s, l.gd, l.p, nd0, l.t⟩ hg h.boats (pxK l.p ((o + j : Nat) : Int)) (pyK l.p ((o + j : Nat) : Int)) 28 [.agg (⟨l.s, l.gd, l.p, nd0, l.t⟩ : Lk).c] [] (passB l) (fun m => by simp [D.ltL, D.lt, lg]) (fun h => by simp [viewL, view, vg]) (fun _ => rfl) (fun _ => rfl) (fun h i => by simp [viewL, view, vg]) fun i hi => passes_t ⟨l.s, l.gd, l.p, nd0, l.t⟩ hg i hi
 have hix := fun hh => En.ix (P := Tryz.prog) Fz.und_22 Fz.size_52 (En.sl_map (E := enS) l.s.depths) hdq hh .i64
 rw [Int.toNat_of_nonneg hcl.1] at hix
 have hix2 : ∀ hh, indexAddrD Tryz.prog hh 22 (.sl (l.s.depths.map enS.d)) (.int .i64 (cellI l.s l.p ((o + j : Nat) : Int))) = some (.ref [.int .i64 (dpAt l.s (cellI l.s l.p ((o + j : Nat) : Int))).1, .int .i64 (dpAt l.s (cellI l.s l.p ((o + j : Nat) : Int))).2] 0) := hix
 have hat := gAtL l.s.w.tide l.t ⟨hwx.tide, ht'⟩
 have hdv := hdb (o + j)
 have hwv : IntKind.i64.wrap ((dpAt l.s (cellI l.s l.p ((o + j : Nat) : Int))).1 + (atL l.s.w.tide l.t).1) = dpL l (o + j) := wrap_i64 (z := dpL l (o + j)) (by omega) (by omega)
 simp only [FS, ↓RE, okR, argEnv, Nat.reduceAdd, Nat.reduceSub, Nat.reduceLT, Nat.reduceLeDiff, Nat.reduceEqDiff, reduceIte, hc3, decide_true, hwk, hce2, ex_tup, vg, lg, nd0]
 refine call_of_pure hfr rfl ?_
 have hfl : freeB (passB l) (pxK l.p ((o + j : Nat) : Int)) (pyK l.p ((o + j : Nat) : Int)) l.s.boats 0 = frL l (o + j) := rfl
 rw [hfl]
 cases q : frL l (o + j)
 ·rw [q, if_neg Bool.false_ne_true] at hl
  simp only [FS, ↓RE, okR, argEnv, Nat.reduceAdd, Nat.reduceSub, Nat.reduceLT, Nat.reduceLeDiff, Nat.reduceEqDiff, reduceIte, hwo]
  exact ⟨o + 1, by omega, by omega, by simp [headW, heapW, envW, blkLt, D.ltL, D.lt, look, hget, lg, nd0, bestD, hl]⟩
 ·rw [q, if_pos rfl] at hl
  simp only [FS, ↓RE, okR, argEnv, Nat.reduceAdd, Nat.reduceSub, Nat.reduceLT, Nat.reduceLeDiff, Nat.reduceEqDiff, reduceIte, hix2, hat, hwv, hwj]
  exact ⟨(j + 1, min v (dpL l (o + j))), ⟨by simp only; omega, by simp only; omega, hl⟩, by simp only; omega, by simp [headW, heapW, envW, blkLt, D.ltL, D.lt, look, hget, lg, nd0]⟩
end Go.Sx
