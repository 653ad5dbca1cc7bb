/- Own work: a calculus of contracts for the programs of this kit: parts SxE12t, SxE13t, SxE14t, SxE15t, SxE16t. -/
import Derived.Test.YtaifjmjooapmhaaGreatSxTe
import Derived.Test.YtaifjmjooapmhaaGreatSxMg
import Derived.Test.YtaifjmjooapmhaaGreatSxMh
set_option linter.unusedVariables false
set_option linter.unusedSimpArgs false
namespace Go.Sx.E
open Go.Proofs
set_option maxRecDepth 10000

structure Stp where
 cell : Int
 dx : Int
 dy : Int
 deriving DecidableEq
def Stp.c (s : Stp) : List D := [.int .i64 s.cell, .int .i64 s.dx, .int .i64 s.dy]
def lenS (dx dy : Int) : Int := if dx ≠ 0 ∧ dy ≠ 0 then 14 else 10
theorem lenS_b (dx dy : Int) : 10 ≤ lenS dx dy ∧ lenS dx dy ≤ 14 := by unfold lenS; split <;> omega
theorem step_length_t (s : Stp) : Pure Tryz.prog 34 [.agg s.c] (.int .i64 (lenS s.dx s.dy)) := by
 simp only [Stp.c]
 refine pure_of_wc (rs := [.tmp 2]) (m := 11) [] oNone_ok (by kernel_rfl) Tryz.func34 rfl (by kernel_rfl) rfl rfl (by kernel_rfl) ?_
 by_cases h1 : s.dx = 0
 ·have b1 : (s.dx != 0) = false := by simpa using h1
  simp only [RT, FS, ↓RE, okR, argEnv, Nat.reduceAdd, Nat.reduceSub, Nat.reduceLT, Nat.reduceLeDiff, Nat.reduceEqDiff, reduceIte, b1]
  simp [lenS, h1]
 have b1 : (s.dx != 0) = true := by simpa using h1
 by_cases h2 : s.dy = 0
 ·have b2 : (s.dy != 0) = false := by simpa using h2
  simp only [RT, FS, ↓RE, okR, argEnv, Nat.reduceAdd, Nat.reduceSub, Nat.reduceLT, Nat.reduceLeDiff, Nat.reduceEqDiff, reduceIte, b1, b2]
  simp [lenS, h2]
 ·have b2 : (s.dy != 0) = true := by simpa using h2
  simp only [RT, FS, ↓RE, okR, argEnv, Nat.reduceAdd, Nat.reduceSub, Nat.reduceLT, Nat.reduceLeDiff, Nat.reduceEqDiff, reduceIte, b1, b2]
  simp [lenS, h1, h2]
def partI (n len : Int) : Int := (n * len + 9) / 10
theorem partI_b {n len : Int} (hn : 0 ≤ n ∧ n ≤ 20000) (hl : 10 ≤ len ∧ len ≤ 14) : 0 ≤ partI n len ∧ partI n len ≤ 28001 := by
 have h1 : 0 ≤ n * len := Int.mul_nonneg hn.1 (by omega)
 have h2 : n * len ≤ 20000 * 14 := Int.mul_le_mul hn.2 hl.2 (by omega) (by omega)
 unfold partI; omega
theorem run_part_t (n len : Int) (hn : 0 ≤ n ∧ n ≤ 20000) (hl : 10 ≤ len ∧ len ≤ 14) : Pure Tryz.prog 119 [.int .i64 n, .int .i64 len] (.int .i64 (partI n len)) := by
 have h1 : 0 ≤ n * len := Int.mul_nonneg hn.1 (by omega)
 have h2 : n * len ≤ 20000 * 14 := Int.mul_le_mul hn.2 hl.2 (by omega) (by omega)
 have w1 := wrap_i64 (z := n * len) (by omega) (by omega)
 have w2 := wrap_i64 (z := n * len + 9) (by omega) (by omega)
 have hd := a_quo' (k := .i64) (x := n * len + 9) (y := 10) (by omega)
 have he : (n * len + 9).tdiv 10 = (n * len + 9) / 10 := Int.tdiv_eq_ediv_of_nonneg (by omega)
 have w3 := wrap_i64 (z := (n * len + 9) / 10) (by omega) (by omega)
 refine pure_of_wc (rs := [.tmp 4]) (m := 10) [] oNone_ok (by kernel_rfl) Tryz.func119 rfl (by kernel_rfl) rfl rfl (by kernel_rfl) ?_
 simp only [RT, FS, ↓RE, okR, argEnv, Nat.reduceAdd, Nat.reduceSub, Nat.reduceLT, Nat.reduceLeDiff, Nat.reduceEqDiff, reduceIte, w1, w2, hd, he, w3]
 rfl

def flD (c : Craft) (w d : Int) (g wa : D) (cl : Int) (a : AirW) (ce : Int) : List D :=
 [.sl (c.off.map RRow.d), .sl (c.on.map RRow.d), .int .i64 c.glass, .int .i64 c.rough, .int .i64 c.gby, .int .i64 c.rby, .int .i64 c.head, .int .i64 c.tail, .int .i64 c.eng, .int .i64 c.fall, .int .i64 c.drag, .sl (c.ceil.map RRow.d), .int .i64 c.sink,
  .int .i64 w, .int .i64 d, g, wa, .int .i64 cl, .int .i64 a.e.lo, .int .i64 a.e.hi, .int .i64 a.n.lo, .int .i64 a.n.hi, .int .i64 ce]
structure AirOk (a : AirW) : Prop where
 e : -300 ≤ a.e.lo ∧ a.e.lo ≤ a.e.hi ∧ a.e.hi ≤ 300
 n : -300 ≤ a.n.lo ∧ a.n.lo ≤ a.n.hi ∧ a.n.hi ≤ 300
theorem air_ok {a : AirW} (h : airB a = true) : AirOk a := by
 simp only [airB, rS, Bool.and_eq_true, decide_eq_true_eq] at h
 exact ⟨h.1, h.2⟩
structure DirOk (s : Stp) : Prop where
 x : -1 ≤ s.dx ∧ s.dx ≤ 1
 y : -1 ≤ s.dy ∧ s.dy ≤ 1
def aheadI (a : AirW) (s : Stp) : SpI := wideI (-(a.e.lo * s.dx + a.n.lo * s.dy)) [-(a.e.lo * s.dx + a.n.hi * s.dy), -(a.e.hi * s.dx + a.n.lo * s.dy), -(a.e.hi * s.dx + a.n.hi * s.dy)]
theorem dir_mul {e d : Int} (he : -300 ≤ e ∧ e ≤ 300) (hd : -1 ≤ d ∧ d ≤ 1) : -300 ≤ e * d ∧ e * d ≤ 300 := by
 have : d = -1 ∨ d = 0 ∨ d = 1 := by omega
 rcases this with rfl | rfl | rfl <;> simp <;> omega
set_option maxHeartbeats 400000 in
theorem ahead_t (c : Craft) (w d : Int) (g wa : D) (cl : Int) (a : AirW) (ha : AirOk a) (ce : Int) (s : Stp) (hs : DirOk s) :
  Pure Tryz.prog 123 [.ref (flD c w d g wa cl a ce) 0, .agg s.c] (.agg (aheadI a s).c) := by
 have m1 := dir_mul (e := a.e.lo) (by have := ha.e; omega) hs.x
 have m2 := dir_mul (e := a.e.hi) (by have := ha.e; omega) hs.x
 have m3 := dir_mul (e := a.n.lo) (by have := ha.n; omega) hs.y
 have m4 := dir_mul (e := a.n.hi) (by have := ha.n; omega) hs.y
 have key := fun z (h1 : -100000 ≤ z) (h2 : z ≤ 100000) => wrap_i64 (z := z) (by omega) (by omega)
 have w1 := key _ (show -100000 ≤ a.e.lo * s.dx by omega) (by omega)
 have w2 := key _ (show -100000 ≤ a.e.hi * s.dx by omega) (by omega)
 have w3 := key _ (show -100000 ≤ a.n.lo * s.dy by omega) (by omega)
 have w4 := key _ (show -100000 ≤ a.n.hi * s.dy by omega) (by omega)
 have x1 := key _ (show -100000 ≤ a.e.lo * s.dx + a.n.lo * s.dy by omega) (by omega)
 have x2 := key _ (show -100000 ≤ a.e.lo * s.dx + a.n.hi * s.dy by omega) (by omega)
 have x3 := key _ (show -100000 ≤ a.e.hi * s.dx + a.n.lo * s.dy by omega) (by omega)
 have x4 := key _ (show -100000 ≤ a.e.hi * s.dx + a.n.hi * s.dy by omega) (by omega)
 have y1 : IntKind.i64.wrap (0 - (a.e.lo * s.dx + a.n.lo * s.dy)) = -(a.e.lo * s.dx + a.n.lo * s.dy) := by rw [key _ (by omega) (by omega)]; omega
 have y2 : IntKind.i64.wrap (0 - (a.e.lo * s.dx + a.n.hi * s.dy)) = -(a.e.lo * s.dx + a.n.hi * s.dy) := by rw [key _ (by omega) (by omega)]; omega
 have y3 : IntKind.i64.wrap (0 - (a.e.hi * s.dx + a.n.lo * s.dy)) = -(a.e.hi * s.dx + a.n.lo * s.dy) := by rw [key _ (by omega) (by omega)]; omega
 have y4 : IntKind.i64.wrap (0 - (a.e.hi * s.dx + a.n.hi * s.dy)) = -(a.e.hi * s.dx + a.n.hi * s.dy) := by rw [key _ (by omega) (by omega)]; omega
 have pw : Pure Tryz.prog 125 [.sl (intL [-(a.e.lo * s.dx + a.n.lo * s.dy), -(a.e.lo * s.dx + a.n.hi * s.dy), -(a.e.hi * s.dx + a.n.lo * s.dy), -(a.e.hi * s.dx + a.n.hi * s.dy)])] (.agg (aheadI a s).c) := run_wide_t _ _ (by simp)
 generalize aheadI a s = A at pw ⊢
 simp only [Stp.c, flD, SpI.c] at pw ⊢
 refine pure_of_wc (rs := [.cell 4 52]) (m := 87) [(1, [(83, false, false, [])])] oNone_ok (by kernel_rfl) Tryz.func123 rfl (by kernel_rfl) rfl rfl (by kernel_rfl) ?_
 simp only [List.append_eq, List.cons_append, List.nil_append]
 simp only [RT, FS, ↓RE, okR, argEnv, Nat.reduceAdd, Nat.reduceSub, Nat.reduceLT, Nat.reduceLeDiff, Nat.reduceEqDiff, reduceIte, w1, w2, w3, w4, x1, x2, x3, x4, y1, y2, y3, y4, litD_4]
 refine call_of_pure pw rfl ?_
 simp only [RT, FS, ↓RE, okR, argEnv, Nat.reduceAdd, Nat.reduceSub, Nat.reduceLT, Nat.reduceLeDiff, Nat.reduceEqDiff, reduceIte]
theorem aheadI_b {a : AirW} (ha : AirOk a) {s : Stp} (hs : DirOk s) : -600 ≤ (aheadI a s).lo ∧ (aheadI a s).lo ≤ (aheadI a s).hi ∧ (aheadI a s).hi ≤ 600 := by
 have m1 := dir_mul (e := a.e.lo) (by have := ha.e; omega) hs.x
 have m2 := dir_mul (e := a.e.hi) (by have := ha.e; omega) hs.x
 have m3 := dir_mul (e := a.n.lo) (by have := ha.n; omega) hs.y
 have m4 := dir_mul (e := a.n.hi) (by have := ha.n; omega) hs.y
 simp only [aheadI, wideI, List.foldl_cons, List.foldl_nil]
 omega
def lostI (c : Craft) (a : AirW) (s : Stp) : SpI := ⟨max 1 (partI c.fall (lenS s.dx s.dy) + c.drag * (aheadI a s).lo), max 1 (partI c.fall (lenS s.dx s.dy) + c.drag * (aheadI a s).hi)⟩
theorem lostI_b {c : Craft} (hc : CraftOk c) {a : AirW} (ha : AirOk a) {s : Stp} (hs : DirOk s) : 1 ≤ (lostI c a s).lo ∧ (lostI c a s).lo ≤ (lostI c a s).hi ∧ (lostI c a s).hi ≤ 58001 := by
 have h1 := aheadI_b ha hs
 have h2 := partI_b (n := c.fall) (by have := hc.fall; omega) (lenS_b s.dx s.dy)
 have h3 := drag_le hc.drag (a := (aheadI a s).hi) (by omega)
 have h4 : c.drag * (aheadI a s).lo ≤ c.drag * (aheadI a s).hi := Int.mul_le_mul_of_nonneg_left h1.2.1 hc.drag.1
 simp only [lostI]; omega
theorem lost_t (c : Craft) (hc : CraftOk c) (w d : Int) (g wa : D) (cl : Int) (a : AirW) (ha : AirOk a) (ce : Int) (s : Stp) (hs : DirOk s) :
  Pure Tryz.prog 118 [.ref (flD c w d g wa cl a ce) 0, .agg s.c] (.agg (lostI c a s).c) := by
 have h1 := aheadI_b ha hs
 have h2 := partI_b (n := c.fall) (by have := hc.fall; omega) (lenS_b s.dx s.dy)
 have h3 := drag_le hc.drag (a := (aheadI a s).hi) (by omega)
 have h4 := drag_le hc.drag (a := (aheadI a s).lo) (by omega)
 have p1 := step_length_t s
 have p2 := run_part_t c.fall (lenS s.dx s.dy) (by have := hc.fall; omega) (lenS_b s.dx s.dy)
 have p3 := ahead_t c w d g wa cl a ha ce s hs
 simp only [lostI]
 generalize aheadI a s = A at *
 generalize partI c.fall (lenS s.dx s.dy) = N at *
 have w1 := wrap_i64 (z := c.drag * A.lo) (by omega) (by omega)
 have w2 := wrap_i64 (z := c.drag * A.hi) (by omega) (by omega)
 have w3 := wrap_i64 (z := N + c.drag * A.lo) (by omega) (by omega)
 have w4 := wrap_i64 (z := N + c.drag * A.hi) (by omega) (by omega)
 simp only [Stp.c, flD, SpI.c] at p1 p2 p3 ⊢
 refine pure_of_wc (rs := [.cell 4 52]) (m := 41) [(1, [(12, true, false, []), (2, false, false, [])]), (2, [(24, false, false, [])])] oNone_ok (by kernel_rfl) Tryz.func118 rfl (by kernel_rfl) rfl rfl (by kernel_rfl) ?_
 simp only [RT, FS, ↓RE, okR, argEnv, Nat.reduceAdd, Nat.reduceSub, Nat.reduceLT, Nat.reduceLeDiff, Nat.reduceEqDiff, reduceIte]
 refine call_of_pure p1 rfl ?_
 simp only [RT, FS, ↓RE, okR, argEnv, Nat.reduceAdd, Nat.reduceSub, Nat.reduceLT, Nat.reduceLeDiff, Nat.reduceEqDiff, reduceIte]
 refine call_of_pure p2 rfl ?_
 simp only [RT, FS, ↓RE, okR, argEnv, Nat.reduceAdd, Nat.reduceSub, Nat.reduceLT, Nat.reduceLeDiff, Nat.reduceEqDiff, reduceIte]
 refine call_of_pure p3 rfl ?_
 simp only [RT, FS, ↓RE, okR, argEnv, Nat.reduceAdd, Nat.reduceSub, Nat.reduceLT, Nat.reduceLeDiff, Nat.reduceEqDiff, reduceIte, w1, w2, w3, w4]
end Go.Sx.E

namespace Go.Sx.E
open Go.Proofs
set_option maxRecDepth 10000

def needF (c : Craft) (a : AirW) (ce : Int) (s : Stp) (h : Int) : Int := if c.eng = 1 then h + (lostI c a s).hi else if h ≤ ce then h else h + partI c.sink (lenS s.dx s.dy)
section
variable (c : Craft) (hc : CraftOk c) (w d : Int) (g wa : D) (cl : Int) (a : AirW) (ha : AirOk a) (ce : Int) (s : Stp) (hs : DirOk s) (h : Int) (hh : -100000 ≤ h ∧ h ≤ 2000000)
include hc ha hs hh
theorem needOne_t : Pure Tryz.prog 106 [.ref (flD c w d g wa cl a ce) 0, .agg s.c, .int .i64 h] (.int .i64 (h + (lostI c a s).hi)) := by
 have hb := lostI_b hc ha hs
 have p := lost_t c hc w d g wa cl a ha ce s hs
 have w1 := wrap_i64 (z := h + (lostI c a s).hi) (by omega) (by omega)
 simp only [Stp.c, flD, SpI.c] at p ⊢
 refine pure_of_wc (rs := [.tmp 6]) (m := 13) [] oNone_ok (by kernel_rfl) Tryz.func106 rfl (by kernel_rfl) rfl rfl (by kernel_rfl) ?_
 simp only [RT, FS, ↓RE, okR, argEnv, Nat.reduceAdd, Nat.reduceSub, Nat.reduceLT, Nat.reduceLeDiff, Nat.reduceEqDiff, reduceIte]
 refine call_of_pure p rfl ?_
 simp only [RT, FS, ↓RE, okR, argEnv, Nat.reduceAdd, Nat.reduceSub, Nat.reduceLT, Nat.reduceLeDiff, Nat.reduceEqDiff, reduceIte, w1]
omit hs ha in
theorem needTwo_t : Pure Tryz.prog 108 [.ref (flD c w d g wa cl a ce) 0, .agg s.c, .int .i64 h] (.int .i64 (if h ≤ ce then h else h + partI c.sink (lenS s.dx s.dy))) := by
 have hb := partI_b (n := c.sink) hc.sink (lenS_b s.dx s.dy)
 have p1 := step_length_t s
 have p2 := run_part_t c.sink (lenS s.dx s.dy) hc.sink (lenS_b s.dx s.dy)
 generalize partI c.sink (lenS s.dx s.dy) = N at *
 have w1 := wrap_i64 (z := h + N) (by omega) (by omega)
 simp only [Stp.c, flD, SpI.c] at p1 p2 ⊢
 refine pure_of_wc (rs := [.tmp 6]) (m := 24) [(3, [(11, false, false, [])])] oNone_ok (by kernel_rfl) Tryz.func108 rfl (by kernel_rfl) rfl rfl (by kernel_rfl) ?_
 by_cases q : h ≤ ce
 ·simp only [RT, FS, ↓RE, okR, argEnv, Nat.reduceAdd, Nat.reduceSub, Nat.reduceLT, Nat.reduceLeDiff, Nat.reduceEqDiff, reduceIte, q, decide_true]
 ·simp only [RT, FS, ↓RE, okR, argEnv, Nat.reduceAdd, Nat.reduceSub, Nat.reduceLT, Nat.reduceLeDiff, Nat.reduceEqDiff, reduceIte, q, decide_false]
  refine call_of_pure p1 rfl ?_
  simp only [RT, FS, ↓RE, okR, argEnv, Nat.reduceAdd, Nat.reduceSub, Nat.reduceLT, Nat.reduceLeDiff, Nat.reduceEqDiff, reduceIte]
  refine call_of_pure p2 rfl ?_
  simp only [RT, FS, ↓RE, okR, argEnv, Nat.reduceAdd, Nat.reduceSub, Nat.reduceLT, Nat.reduceLeDiff, Nat.reduceEqDiff, reduceIte, w1]
end
def needFn (c : Craft) : FuncId := if c.eng = 1 then 106 else 108
def leftFn (c : Craft) : FuncId := if c.eng = 1 then 105 else 107
theorem need_t (c : Craft) (hc : CraftOk c) (w d : Int) (g wa : D) (cl : Int) (a : AirW) (ha : AirOk a) (ce : Int) (s : Stp) (hs : DirOk s) (h : Int) (hh : -100000 ≤ h ∧ h ≤ 2000000) :
  Pure Tryz.prog (needFn c) [.ref (flD c w d g wa cl a ce) 0, .agg s.c, .int .i64 h] (.int .i64 (needF c a ce s h)) := by
 unfold needFn needF; split
 ·exact needOne_t c hc w d g wa cl a ha ce s hs h hh
 ·exact needTwo_t c hc w d g wa cl a ce s h hh
theorem way_t (c : Craft) (hc : CraftOk c) (w d : Int) (g wa : D) (cl : Int) (a : AirW) (ce : Int) :
  Pure Tryz.prog 84 [.ref (flD c w d g wa cl a ce) 0] (.agg [.fn (.func (leftFn c)) [.ref (flD c w d g wa cl a ce) 0] [], .fn (.func (needFn c)) [.ref (flD c w d g wa cl a ce) 0] []]) := by
 have i0 : ∀ cs, indexD Tryz.prog 187 (.agg cs) (.int .i64 0) = partD Tryz.prog 176 cs 0 := fun cs => by simpa using ix_arr (P := Tryz.prog) Fz.und_187 Fz.size_176 (i := 0) (by decide) cs .i64
 have i1 : ∀ cs, indexD Tryz.prog 187 (.agg cs) (.int .i64 1) = partD Tryz.prog 176 cs 2 := fun cs => by simpa using ix_arr (P := Tryz.prog) Fz.und_187 Fz.size_176 (i := 1) (by decide) cs .i64
 simp only [flD]
 rcases hc.eng with h | h
 ·have w1 : IntKind.i64.wrap (c.eng - 1) = 0 := by rw [h]; decide
  have e1 : leftFn c = 105 := if_pos h
  have e2 : needFn c = 106 := if_pos h
  rw [e1, e2]
  refine pure_of_wc (rs := [.cell 2 176]) (m := 21) [] oNone_ok (by kernel_rfl) Tryz.func84 rfl (by kernel_rfl) rfl rfl (by kernel_rfl) ?_
  simp only [RT, FS, ↓RE, okR, argEnv, Nat.reduceAdd, Nat.reduceSub, Nat.reduceLT, Nat.reduceLeDiff, Nat.reduceEqDiff, reduceIte, w1, i0]
 ·have w1 : IntKind.i64.wrap (c.eng - 1) = 1 := by rw [h]; decide
  have e1 : leftFn c = 107 := if_neg (by omega)
  have e2 : needFn c = 108 := if_neg (by omega)
  rw [e1, e2]
  refine pure_of_wc (rs := [.cell 2 176]) (m := 21) [] oNone_ok (by kernel_rfl) Tryz.func84 rfl (by kernel_rfl) rfl rfl (by kernel_rfl) ?_
  simp only [RT, FS, ↓RE, okR, argEnv, Nat.reduceAdd, Nat.reduceSub, Nat.reduceLT, Nat.reduceLeDiff, Nat.reduceEqDiff, reduceIte, w1, i1]
end Go.Sx.E

namespace Go.Sx.E
open Go.Proofs
set_option maxRecDepth 10000

structure LandOk (l : LandM) : Prop where
 len : LandL l
 b : landB l = true
 ground : ∀ n ∈ l.ground, 0 ≤ n ∧ n ≤ 20000
 wide : 1 ≤ l.wide ∧ l.wide ≤ 12
 deep : 1 ≤ l.deep ∧ l.deep ≤ 12
 size : (l.ground.length : Int) = l.wide * l.deep
 water : l.water.length = l.ground.length
 clear : 0 ≤ l.clear ∧ l.clear ≤ 20000
 small : 1 ≤ l.ground.length ∧ l.ground.length ≤ 144
theorem land_ok {l : LandM} (h : LandL l) (hb : landB l = true) : LandOk l := by
 have hb' := hb
 simp only [landB, rI, Bool.and_eq_true, decide_eq_true_eq, List.all_eq_true] at hb
 obtain ⟨h1, h2, h3, h4, h5, h6⟩ := hb
 have := mul_le h2 h3
 exact ⟨h, hb', h1, h2, h3, h4, h5, h6, by omega⟩
def gAt (l : LandM) (i : Nat) : Int := l.ground[i]?.getD 0
def wAt (l : LandM) (i : Nat) : Bool := l.water[i]?.getD false
theorem LandOk.g_at {l : LandM} (h : LandOk l) {i : Nat} (hi : i < l.ground.length) : l.ground[i]? = some (gAt l i) ∧ 0 ≤ gAt l i ∧ gAt l i ≤ 20000 := by
 have h1 : l.ground[i]? = some l.ground[i] := by simp [hi]
 have h2 := h.ground _ (List.mem_of_getElem? h1)
 simp [gAt, h1, h2]
theorem LandOk.w_at {l : LandM} (h : LandOk l) {i : Nat} (hi : i < l.ground.length) : l.water[i]? = some (wAt l i) := by
 have h1 : l.water[i]? = some (l.water[i]'(by rw [h.water]; exact hi)) := by simp
 simp [wAt, h1]
def bareI (l : LandM) (i : Nat) : Int := if wAt l i then gAt l i else gAt l i + l.clear
theorem bareI_b {l : LandM} (h : LandOk l) {i : Nat} (hi : i < l.ground.length) : 0 ≤ bareI l i ∧ bareI l i ≤ 40000 := by
 have := (h.g_at hi).2
 have := h.clear
 unfold bareI; split <;> omega
def flO (c : Craft) (l : LandM) (a : AirW) (ce : Int) : List D := flD c l.wide l.deep (.sl (intL l.ground)) (.sl (boolL l.water)) l.clear a ce
theorem bare_t (c : Craft) (l : LandM) (hl : LandOk l) (a : AirW) (ce : Int) (i : Nat) (hi : i < l.ground.length) :
  Pure Tryz.prog 82 [.ref (flO c l a ce) 0, .int .i64 (i : Int)] (.int .i64 (bareI l i)) := by
 have h1 := hl.g_at hi
 have hg := sI_ix h1.1
 have hw := sB_ix (hl.w_at hi)
 have hc := hl.clear
 have w1 := wrap_i64 (z := gAt l i + l.clear) (by omega) (by omega)
 simp only [flO, flD]
 unfold bareI
 generalize gAt l i = G at *
 cases h : wAt l i
 ·rw [h] at hw
  refine pure_of_wc (rs := [.tmp 4]) (m := 35) [(3, [(15, false, false, [])])] oNone_ok (by kernel_rfl) Tryz.func82 rfl (by kernel_rfl) rfl rfl (by kernel_rfl) ?_
  simp only [RT, FS, ↓RE, okR, argEnv, Nat.reduceAdd, Nat.reduceSub, Nat.reduceLT, Nat.reduceLeDiff, Nat.reduceEqDiff, reduceIte, hg, hw, w1]
  all_goals rfl
 ·rw [h] at hw
  refine pure_of_wc (rs := [.tmp 4]) (m := 35) [(3, [(15, false, false, [])])] oNone_ok (by kernel_rfl) Tryz.func82 rfl (by kernel_rfl) rfl rfl (by kernel_rfl) ?_
  simp only [RT, FS, ↓RE, okR, argEnv, Nat.reduceAdd, Nat.reduceSub, Nat.reduceLT, Nat.reduceLeDiff, Nat.reduceEqDiff, reduceIte, hg, hw, w1]
  all_goals rfl
def cellB (l : LandM) (n : Int) : Bool := landB l && rI n 0 (l.ground.length - 1)
theorem run_cell_t (l : LandM) (hl : LandL l) (n : Int) : Pure Tryz.prog 30 [.agg l.c, .int .i64 n] (.bool (cellB l n)) := by
 have o1 := gLa_eq hl
 have hg := hl.ground
 have w1 := wrap_i64 (z := (l.ground.length : Int) - 1) (by omega) (by omega)
 unfold cellB
 simp only [LandM.c, grD, waD] at o1 ⊢
 cases h : landB l
 ·refine pure_of_wc (rs := [.tmp 4]) (m := 15) [] e3_ok (by kernel_rfl) Tryz.func30 rfl (by kernel_rfl) rfl rfl (by kernel_rfl) ?_
  simp only [RT, FS, ↓RE, okR, argEnv, Nat.reduceAdd, Nat.reduceSub, Nat.reduceLT, Nat.reduceLeDiff, Nat.reduceEqDiff, reduceIte, o1, h]
  simp

 ·refine pure_of_wc (rs := [.tmp 4]) (m := 15) [] e3_ok (by kernel_rfl) Tryz.func30 rfl (by kernel_rfl) rfl rfl (by kernel_rfl) ?_
  simp only [RT, FS, ↓RE, okR, argEnv, Nat.reduceAdd, Nat.reduceSub, Nat.reduceLT, Nat.reduceLeDiff, Nat.reduceEqDiff, reduceIte, o1, h, List.length_map, w1, gI3_eq]
  simp
noncomputable def gCe : List D → Option D := orcF (fun p : LandM × Int => LandL p.1) (fun p => [.agg p.1.c, .int .i64 p.2]) fun p => .bool (cellB p.1 p.2)
theorem gCe_eq {l : LandM} (h : LandL l) (n : Int) : gCe [.agg l.c, .int .i64 n] = some (.bool (cellB l n)) := orcF_eq (ok := fun p : LandM × Int => LandL p.1) (dsf := fun p => [.agg p.1.c, .int .i64 p.2]) (rf := fun p => .bool (cellB p.1 p.2)) (l, n) h fun b hb => by
 simp only [List.cons.injEq, D.agg.injEq, D.int.injEq, true_and, and_true] at hb; rw [LandM.c_inj hb.1, hb.2]

def startE (c : Craft) (l : LandM) (a : AirW) (w : Int) (fine : Bool) : Int :=
 if craftB c && (landB l && (airB a && (rI w 0 100000 && fine))) then (if (sayO c.ceil w).isNone && (c.eng == 2) then 7 else 0) else 2
def ceilI (c : Craft) (w : Int) : Int := (sayO c.ceil w).getD 0
def startR (c : Craft) (l : LandM) (a : AirW) (w : Int) (fine : Bool) : D := .tup [if startE c l a w fine = 0 then .ref (flO c l a (ceilI c w)) 0 else .nilp, .int .i64 (startE c l a w fine)]
theorem run_start_t (c : Craft) (hc : CraftL c) (l : LandM) (hl : LandL l) (a : AirW) (w : Int) (fine : Bool) :
  Pure Tryz.prog 45 [.agg c.c, .agg l.c, .agg a.c, .int .i64 w, .bool fine] (startR c l a w fine) := by
 have o1 := gCr_eq hc
 have o2 := gLa_eq hl
 cases h1 : craftB c
 ·simp only [Craft.c, LandM.c, grD, waD, AirW.c] at o1 o2 ⊢
  refine pure_of_wc (rs := [.tmp 10, .tmp 11]) (m := 56) [] e3_ok (by kernel_rfl) Tryz.func45 rfl (by kernel_rfl) rfl rfl (by kernel_rfl) ?_
  simp only [RT, FS, ↓RE, okR, argEnv, Nat.reduceAdd, Nat.reduceSub, Nat.reduceLT, Nat.reduceLeDiff, Nat.reduceEqDiff, reduceIte, o1, h1]
  simp [view, startR, startE, h1]
 cases h2 : landB l
 ·simp only [Craft.c, LandM.c, grD, waD, AirW.c] at o1 o2 ⊢
  refine pure_of_wc (rs := [.tmp 10, .tmp 11]) (m := 56) [] e3_ok (by kernel_rfl) Tryz.func45 rfl (by kernel_rfl) rfl rfl (by kernel_rfl) ?_
  simp only [RT, FS, ↓RE, okR, argEnv, Nat.reduceAdd, Nat.reduceSub, Nat.reduceLT, Nat.reduceLeDiff, Nat.reduceEqDiff, reduceIte, o1, h1, o2, h2]
  simp [view, startR, startE, h1, h2]
 cases h3 : airB a
 ·simp only [Craft.c, LandM.c, grD, waD, AirW.c] at o1 o2 ⊢
  refine pure_of_wc (rs := [.tmp 10, .tmp 11]) (m := 56) [] e3_ok (by kernel_rfl) Tryz.func45 rfl (by kernel_rfl) rfl rfl (by kernel_rfl) ?_
  simp only [RT, FS, ↓RE, okR, argEnv, Nat.reduceAdd, Nat.reduceSub, Nat.reduceLT, Nat.reduceLeDiff, Nat.reduceEqDiff, reduceIte, o1, h1, o2, h2, gAi_eq, h3]
  simp [view, startR, startE, h1, h2, h3]
 cases h4 : rI w 0 100000
 ·simp only [Craft.c, LandM.c, grD, waD, AirW.c] at o1 o2 ⊢
  refine pure_of_wc (rs := [.tmp 10, .tmp 11]) (m := 56) [] e3_ok (by kernel_rfl) Tryz.func45 rfl (by kernel_rfl) rfl rfl (by kernel_rfl) ?_
  simp only [RT, FS, ↓RE, okR, argEnv, Nat.reduceAdd, Nat.reduceSub, Nat.reduceLT, Nat.reduceLeDiff, Nat.reduceEqDiff, reduceIte, o1, h1, o2, h2, gAi_eq, h3, gI3_eq, h4]
  simp [view, startR, startE, h1, h2, h3, h4]
 cases h5 : fine
 ·simp only [Craft.c, LandM.c, grD, waD, AirW.c] at o1 o2 ⊢
  refine pure_of_wc (rs := [.tmp 10, .tmp 11]) (m := 56) [] e3_ok (by kernel_rfl) Tryz.func45 rfl (by kernel_rfl) rfl rfl (by kernel_rfl) ?_
  simp only [RT, FS, ↓RE, okR, argEnv, Nat.reduceAdd, Nat.reduceSub, Nat.reduceLT, Nat.reduceLeDiff, Nat.reduceEqDiff, reduceIte, o1, h1, o2, h2, gAi_eq, h3, gI3_eq, h4]
  simp [view, startR, startE, h1, h2, h3, h4]
 have hk := craft_ok hc h1
 have ps := run_says_t c.ceil w hk.ceil.1 hk.ceil.2.1
 rw [sayD_eq] at ps
 cases hs : sayO c.ceil w with
 | none =>
  rw [hs] at ps
  simp only [Option.getD_none, Option.isSome_none] at ps
  by_cases h6 : c.eng = 2
  ·have b6 : (c.eng == 2) = true := by simpa using h6
   simp only [Craft.c, LandM.c, grD, waD, AirW.c] at o1 o2 ⊢
   refine pure_of_wc (rs := [.tmp 10, .tmp 11]) (m := 56) [] e3_ok (by kernel_rfl) Tryz.func45 rfl (by kernel_rfl) rfl rfl (by kernel_rfl) ?_
   simp only [RT, FS, ↓RE, okR, argEnv, Nat.reduceAdd, Nat.reduceSub, Nat.reduceLT, Nat.reduceLeDiff, Nat.reduceEqDiff, reduceIte, o1, h1, o2, h2, gAi_eq, h3, gI3_eq, h4]
   refine call_of_pure ps rfl ?_
   simp only [RT, FS, ↓RE, okR, argEnv, Nat.reduceAdd, Nat.reduceSub, Nat.reduceLT, Nat.reduceLeDiff, Nat.reduceEqDiff, reduceIte, b6]
   simp [view, startR, startE, h1, h2, h3, h4, hs, h6]
  ·have b6 : (c.eng == 2) = false := by simpa using h6
   simp only [Craft.c, LandM.c, grD, waD, AirW.c] at o1 o2 ⊢
   refine pure_of_wc (rs := [.tmp 10, .tmp 11]) (m := 56) [] e3_ok (by kernel_rfl) Tryz.func45 rfl (by kernel_rfl) rfl rfl (by kernel_rfl) ?_
   simp only [RT, FS, ↓RE, okR, argEnv, Nat.reduceAdd, Nat.reduceSub, Nat.reduceLT, Nat.reduceLeDiff, Nat.reduceEqDiff, reduceIte, o1, h1, o2, h2, gAi_eq, h3, gI3_eq, h4]
   refine call_of_pure ps rfl ?_
   simp only [RT, FS, ↓RE, okR, argEnv, Nat.reduceAdd, Nat.reduceSub, Nat.reduceLT, Nat.reduceLeDiff, Nat.reduceEqDiff, reduceIte, b6]
   simp [view, startR, startE, h1, h2, h3, h4, hs, h6, flO, flD, ceilI, intL, boolL]
 | some m =>
  rw [hs] at ps
  simp only [Option.getD_some, Option.isSome_some] at ps
  simp only [Craft.c, LandM.c, grD, waD, AirW.c] at o1 o2 ⊢
  refine pure_of_wc (rs := [.tmp 10, .tmp 11]) (m := 56) [] e3_ok (by kernel_rfl) Tryz.func45 rfl (by kernel_rfl) rfl rfl (by kernel_rfl) ?_
  simp only [RT, FS, ↓RE, okR, argEnv, Nat.reduceAdd, Nat.reduceSub, Nat.reduceLT, Nat.reduceLeDiff, Nat.reduceEqDiff, reduceIte, o1, h1, o2, h2, gAi_eq, h3, gI3_eq, h4]
  refine call_of_pure ps rfl ?_
  simp only [RT, FS, ↓RE, okR, argEnv, Nat.reduceAdd, Nat.reduceSub, Nat.reduceLT, Nat.reduceLeDiff, Nat.reduceEqDiff, reduceIte]
  simp [view, startR, startE, h1, h2, h3, h4, hs, flO, flD, ceilI, intL, boolL]
end Go.Sx.E

namespace Go.Sx.E
open Go.Proofs
set_option maxRecDepth 10000

def stepAt (w d c : Int) (j : Nat) : Option Stp :=
 if (((j % 3 : Nat) : Int) - 1 == 0 && ((j / 3 : Nat) : Int) - 1 == 0) || (!rI (c % w + (((j % 3 : Nat) : Int) - 1)) 0 (w - 1) || !rI (c / w + (((j / 3 : Nat) : Int) - 1)) 0 (d - 1)) then none
 else some ⟨c + (((j / 3 : Nat) : Int) - 1) * w + (((j % 3 : Nat) : Int) - 1), ((j % 3 : Nat) : Int) - 1, ((j / 3 : Nat) : Int) - 1⟩
def stepsN (w d c : Int) (n : Nat) : List Stp := (List.range n).filterMap (stepAt w d c)
def stepsL (w d c : Int) : List Stp := stepsN w d c 9
theorem stepsN_succ (w d c : Int) (n : Nat) : stepsN w d c (n + 1) = stepsN w d c n ++ (stepAt w d c n).toList := by
 simp only [stepsN, List.range_succ, List.filterMap_append]
 congr 1
theorem stepsN_pre (w d c : Int) {n m : Nat} (h : n ≤ m) : stepsN w d c n <+: stepsN w d c m := by
 induction m with
 | zero => rw [show n = 0 by omega]; exact List.prefix_refl _
 | succ m ih =>
  rcases Nat.lt_or_ge n (m + 1) with h1 | h1
  ·rw [stepsN_succ]; exact (ih (by omega)).trans (List.prefix_append _ _)
  ·rw [show n = m + 1 by omega]; exact List.prefix_refl _
theorem stepsN_len (w d c : Int) (n : Nat) : (stepsN w d c n).length ≤ n := by
 have := List.length_filterMap_le (stepAt w d c) (List.range n)
 simpa [stepsN] using this
abbrev StpIn (w d c : Int) := { s : Stp // s ∈ stepsL w d c }
def stepsA (w d c : Int) (n : Nat) : List (StpIn w d c) := (stepsL w d c).attach.take (stepsN w d c n).length
theorem stepsA_none {w d c : Int} {n : Nat} (h : stepAt w d c n = none) : stepsA w d c (n + 1) = stepsA w d c n := by simp [stepsA, stepsN_succ, h]
theorem stepsA_some {w d c : Int} {n : Nat} (hn : n < 9) {x : Stp} (h : stepAt w d c n = some x) : ∃ hx : x ∈ stepsL w d c, stepsA w d c (n + 1) = stepsA w d c n ++ [⟨x, hx⟩] := by
 have hp := stepsN_pre w d c (show n + 1 ≤ 9 by omega)
 have hs : stepsN w d c (n + 1) = stepsN w d c n ++ [x] := by rw [stepsN_succ, h]; rfl
 rw [hs] at hp
 obtain ⟨t, ht⟩ := hp
 have hL : stepsL w d c = stepsN w d c n ++ [x] ++ t := ht.symm
 have hx : x ∈ stepsL w d c := by rw [hL]; simp
 refine ⟨hx, ?_⟩
 have hlen : (stepsN w d c n).length < (stepsL w d c).attach.length := by rw [List.length_attach, hL]; simp
 unfold stepsA
 rw [hs, List.length_append, List.length_singleton, List.take_add_one, List.getElem?_eq_getElem hlen]
 congr 1
 have : ((stepsL w d c).attach[(stepsN w d c n).length]).val = x := by
  rw [List.getElem_attach]
  simp [hL]
 simp only [Option.toList_some, List.cons.injEq, and_true]
 exact Subtype.ext this
theorem stepsA_all (w d c : Int) : stepsA w d c 9 = (stepsL w d c).attach := by
 unfold stepsA
 exact List.take_of_length_le (by rw [List.length_attach]; exact Nat.le_refl _)
theorem stepsA_pre (w d c : Int) (n : Nat) : stepsA w d c n <+: (stepsL w d c).attach := List.take_prefix _ _
theorem stepsA_len (w d c : Int) (n : Nat) : (stepsA w d c n).length ≤ n := by
 have := stepsN_len w d c n
 simp only [stepsA, List.length_take]; omega
theorem steps_t (fl : List D) (cell : Int) : Pure Tryz.prog 33 [.ref fl 0, .int .i64 cell] (.fn (.func 63) [] [.ref [.int .i64 cell] 0, .ref [.ref fl 0] 0]) := by
 refine pure_of_wc (rs := [.tmp 4]) (m := 6) [] oNone_ok (by kernel_rfl) Tryz.func33 rfl (by kernel_rfl) rfl rfl (by kernel_rfl) ?_
 simp only [RT, FS, ↓RE, okR, argEnv, Nat.reduceAdd, Nat.reduceSub, Nat.reduceLT, Nat.reduceLeDiff, Nat.reduceEqDiff, reduceIte]
def stpV (x : Stp) : Array Value := #[.agg #[.int .i64 x.cell, .int .i64 x.dx, .int .i64 x.dy]]
def stpD (x : Stp) : List D := [.agg x.c]
theorem stp_enc (R : Rx) (n : Nat) (x : Stp) : RelL R n (stpV x).toList (stpD x) := by
 refine ⟨rfl, fun i v d hv hd => ?_⟩
 cases i with
 | succ i => simp [stpV] at hv
 | zero =>
  simp only [stpV, stpD, List.getElem?_cons_zero, Option.some.injEq] at hv hd
  subst hv; subst hd
  refine Rel.agg _ [.int .i64 x.cell, .int .i64 x.dx, .int .i64 x.dy] _ rfl fun i v d hv hd => ?_
  match i with
  | 0 => simp [Stp.c] at hv hd; subst hv; subst hd; exact .int _ _ _
  | 1 => simp [Stp.c] at hv hd; subst hv; subst hd; exact .int _ _ _
  | 2 => simp [Stp.c] at hv hd; subst hv; subst hd; exact .int _ _ _
  | i + 3 => simp at hv
theorem stp_dec (R : Rx) (n : Nat) (vs : List Value) (x : Stp) (h : RelL R n vs (stpD x)) : vs = (stpV x).toList := by
 obtain ⟨h1, h2⟩ := h
 obtain ⟨v, rfl⟩ := List.length_eq_one_iff.1 (show vs.length = 1 from h1)
 have := h2 0 _ _ rfl rfl
 simp only [Stp.c] at this
 generalize hd : D.agg [D.int .i64 x.cell, D.int .i64 x.dx, D.int .i64 x.dy] = d at this
 cases this <;> cases hd
 rename_i vs hl hr
 match vs, hl with
 | [a, b, c], _ =>
  have e0 := hr 0 _ _ rfl rfl
  have e1 := hr 1 _ _ rfl rfl
  have e2 := hr 2 _ _ rfl rfl
  cases e0; cases e1; cases e2; rfl
set_option maxHeartbeats 1000000 in
theorem steps_seqF (F : List D) (w d : Int) (f1 : ∀ h, loadAtD Tryz.prog h 3 (.ref F 13) = some (.int .i64 w)) (f2 : ∀ h, loadAtD Tryz.prog h 3 (.ref F 14) = some (.int .i64 d)) (hw : 1 ≤ w ∧ w ≤ 12) (hd : 1 ≤ d ∧ d ≤ 12) (cell : Int) (hc : 0 ≤ cell ∧ cell ≤ 200) :
  SeqP Tryz.prog 63 [.ref [.int .i64 cell] 0, .ref [.ref F 0] 0] (fun x : StpIn w d cell => stpV x.1) (fun xs => xs = (stepsL w d cell).attach) (fun pre => pre <+: (stepsL w d cell).attach) 9 := by
 refine seq_of_awjY (dsf := fun x : StpIn w d cell => stpD x.1) Tryz.func63 rfl rfl (fun R n vs x => stp_dec R n vs x.1) fun S0 l JJ hJ hY => ?_
 have q1 := a_rem' (k := .i64) (x := cell) (y := w) (by omega)
 have q2 := a_quo' (k := .i64) (x := cell) (y := w) (by omega)
 have r1 : cell.tmod w = cell % w := Int.tmod_eq_emod_of_nonneg hc.1
 have hdl : 0 ≤ cell / w ∧ cell / w ≤ 200 := ⟨Int.ediv_nonneg hc.1 (by omega), Int.le_trans (Int.ediv_le_self w hc.1) hc.2⟩
 have hml : 0 ≤ cell % w ∧ cell % w < w := ⟨Int.emod_nonneg _ (by omega), Int.emod_lt_of_pos _ (by omega)⟩
 have r2 : IntKind.i64.wrap (cell.tdiv w) = cell / w := by rw [Int.tdiv_eq_ediv_of_nonneg hc.1]; exact wrap_i64 (by omega) (by omega)
 show AWj _ _ _ _ ⟨[(0, .raw (.func (.yield l) #[] #[])), (1, .ref [.int .i64 cell] 0), (2, .ref [.ref F 0] 0)], [], 0, 79⟩ _ _
 refine awj_seq (awj_piece e3_ok (by kernel_rfl) [(0, [(16, false, false, [])]), (8, [(17, false, false, [])])] hJ (by kernel_rfl) (by kernel_rfl) ?_)
 simp only [RT, FS, ↓RE, okR, argEnv, Nat.reduceAdd, Nat.reduceSub, Nat.reduceLT, Nat.reduceLeDiff, Nat.reduceEqDiff, reduceIte, q1, q2, r1, r2, f1]
 have tac : ∀ i k : Nat, k < 3 → stepAt w d cell (3 * i + k) = if (((k : Int) - 1 == 0) && ((i : Int) - 1 == 0)) || (!rI (cell % w + ((k : Int) - 1)) 0 (w - 1) || !rI (cell / w + ((i : Int) - 1)) 0 (d - 1)) then none
   else some ⟨cell + ((i : Int) - 1) * w + ((k : Int) - 1), (k : Int) - 1, (i : Int) - 1⟩ := fun i k hk => by
  unfold stepAt; rw [show (3 * i + k) % 3 = k by omega, show (3 * i + k) / 3 = i by omega]
 let EA : Env := [(5, .int .i64 (cell / w)), (4, .int .i64 (cell % w)), (2, .ref [.ref F 0] 0), (1, .ref [.int .i64 cell] 0), (0, .raw (.func (.yield l) #[] #[]))]
 refine ⟨⟨EA, [], 0, 79⟩, weakJ_of ⟨.inl ⟨rfl, rfl⟩, .inl ⟨rfl, rfl⟩, .inr ⟨rfl, rfl⟩, .inr ⟨rfl, rfl⟩, .inr ⟨rfl, rfl⟩, trivial⟩, ?_⟩
 simp only [thenJ]
 refine awj_seq (awj_piece e3_ok (by kernel_rfl) [(0, [(16, false, false, [])]), (8, [(17, false, false, [])])] hJ (by kernel_rfl) (by kernel_rfl) ?_)
 simp only [RT, FS, ↓RE, okR, argEnv, Nat.reduceAdd, Nat.reduceSub, Nat.reduceLT, Nat.reduceLeDiff, Nat.reduceEqDiff, reduceIte, EA]
 refine ⟨⟨(6, .int .i64 (-1)) :: EA, [], 0, 79⟩, weakJ_of ⟨.inl ⟨rfl, rfl⟩, .inl ⟨rfl, rfl⟩, .inl ⟨rfl, rfl⟩, .inr ⟨rfl, rfl⟩, .inr ⟨rfl, rfl⟩, .inr ⟨rfl, rfl⟩, trivial⟩, ?_⟩
 simp only [thenJ]
 refine awj_block (awj_loop (ι := Nat) (fun i => ⟨(6, .int .i64 ((i : Int) - 1)) :: EA, [], 0, 79⟩) (fun i => (stepsA w d cell (3 * i), false)) (fun i => i ≤ 3) (fun i => 3 - i) 0 (by omega) rfl (lessJ_of ⟨rfl, rfl, rfl, rfl, rfl, rfl, trivial⟩) fun i hi => ?_)
 rcases Nat.lt_or_ge i 3 with hlt | hge
 rotate_left
 ·have hc : ((i : Int) - 1 ≤ 1) = False := by simp; omega
  refine awj_seq (awj_piece e3_ok (by kernel_rfl) [(0, [(16, false, false, [])]), (8, [(17, false, false, [])])] hJ (by kernel_rfl) (by kernel_rfl) ?_)
  simp only [RT, FS, ↓RE, okR, argEnv, Nat.reduceAdd, Nat.reduceSub, Nat.reduceLT, Nat.reduceLeDiff, Nat.reduceEqDiff, reduceIte, EA, hc, decide_false]
  refine ⟨⟨[], [], 0, 79⟩, weakJ_of trivial, ?_⟩
  simp only [thenJ, blockJ, if_true]
  exact ⟨.inl trivial, .inl ⟨trivial, by rw [show i = 3 by omega]; exact stepsA_all w d cell⟩⟩
 have hc : ((i : Int) - 1 ≤ 1) = True := by simp; omega
 refine awj_seq (awj_piece e3_ok (by kernel_rfl) [(0, [(16, false, false, [])]), (8, [(17, false, false, [])])] hJ (by kernel_rfl) (by kernel_rfl) ?_)
 simp only [RT, FS, ↓RE, okR, argEnv, Nat.reduceAdd, Nat.reduceSub, Nat.reduceLT, Nat.reduceLeDiff, Nat.reduceEqDiff, reduceIte, EA, hc, decide_true]
 refine ⟨⟨(6, .int .i64 ((i : Int) - 1)) :: EA, [], 0, 79⟩, weakJ_of ⟨.inr ⟨rfl, rfl⟩, .inr ⟨rfl, rfl⟩, .inr ⟨rfl, rfl⟩, .inr ⟨rfl, rfl⟩, .inr ⟨rfl, rfl⟩, .inr ⟨rfl, rfl⟩, trivial⟩, ?_⟩
 simp only [thenJ]
 refine awj_seq (awj_block ?_)
 refine awj_seq (awj_piece e3_ok (by kernel_rfl) [(0, [(16, false, false, [])]), (8, [(17, false, false, [])])] hJ (by kernel_rfl) (by kernel_rfl) ?_)
 simp only [RT, FS, ↓RE, okR, argEnv, Nat.reduceAdd, Nat.reduceSub, Nat.reduceLT, Nat.reduceLeDiff, Nat.reduceEqDiff, reduceIte, EA]
 refine ⟨⟨(7, .int .i64 (-1)) :: (6, .int .i64 ((i : Int) - 1)) :: EA, [], 0, 79⟩, weakJ_of ⟨.inl ⟨rfl, rfl⟩, .inr ⟨rfl, rfl⟩, .inr ⟨rfl, rfl⟩, .inr ⟨rfl, rfl⟩, .inr ⟨rfl, rfl⟩, .inr ⟨rfl, rfl⟩, .inr ⟨rfl, rfl⟩, trivial⟩, ?_⟩
 simp only [thenJ]
 refine awj_block (awj_loop (ι := Nat) (fun k => ⟨(7, .int .i64 ((k : Int) - 1)) :: (6, .int .i64 ((i : Int) - 1)) :: EA, [], 0, 79⟩) (fun k => (stepsA w d cell (3 * i + k), false)) (fun k => k ≤ 3) (fun k => 3 - k) 0 (by omega) rfl (lessJ_of ⟨rfl, rfl, rfl, rfl, rfl, rfl, rfl, trivial⟩) fun k hk => ?_)
 rcases Nat.lt_or_ge k 3 with hkl | hkg
 rotate_left
 ·have hc : ((k : Int) - 1 ≤ 1) = False := by simp; omega
  refine awj_seq (awj_piece e3_ok (by kernel_rfl) [(0, [(16, false, false, [])]), (8, [(17, false, false, [])])] hJ (by kernel_rfl) (by kernel_rfl) ?_)
  simp only [RT, FS, ↓RE, okR, argEnv, Nat.reduceAdd, Nat.reduceSub, Nat.reduceLT, Nat.reduceLeDiff, Nat.reduceEqDiff, reduceIte, EA, hc, decide_false]
  refine ⟨⟨(6, .int .i64 ((i : Int) - 1)) :: EA, [], 0, 79⟩, weakJ_of ⟨.inr ⟨rfl, rfl⟩, .inr ⟨rfl, rfl⟩, .inr ⟨rfl, rfl⟩, .inr ⟨rfl, rfl⟩, .inr ⟨rfl, rfl⟩, .inr ⟨rfl, rfl⟩, trivial⟩, ?_⟩
  simp only [thenJ, blockJ, if_true]
  refine awj_piece e3_ok (by kernel_rfl) [(0, [(16, false, false, [])]), (8, [(17, false, false, [])])] hJ (by kernel_rfl) (by kernel_rfl) ?_
  have w1 : IntKind.i64.wrap ((i : Int) - 1 + 1) = ((i + 1 : Nat) : Int) - 1 := by rw [wrap_i64 (by omega) (by omega)]; omega
  simp only [RT, FS, ↓RE, okR, argEnv, Nat.reduceAdd, Nat.reduceSub, Nat.reduceLT, Nat.reduceLeDiff, Nat.reduceEqDiff, reduceIte, EA, w1]
  refine ⟨⟨(6, .int .i64 (((i + 1 : Nat) : Int) - 1)) :: EA, [], 0, 79⟩, weakJ_of ⟨.inl ⟨rfl, rfl⟩, .inr ⟨rfl, rfl⟩, .inr ⟨rfl, rfl⟩, .inr ⟨rfl, rfl⟩, .inr ⟨rfl, rfl⟩, .inr ⟨rfl, rfl⟩, trivial⟩, ?_⟩
  simp only [thenJ]
  exact ⟨i + 1, by omega, by omega, by rw [show 3 * (i + 1) = 3 * i + k by omega], lessJ_of ⟨rfl, rfl, rfl, rfl, rfl, rfl, trivial⟩⟩
 have hc : ((k : Int) - 1 ≤ 1) = True := by simp; omega
 refine awj_seq (awj_piece e3_ok (by kernel_rfl) [(0, [(16, false, false, [])]), (8, [(17, false, false, [])])] hJ (by kernel_rfl) (by kernel_rfl) ?_)
 simp only [RT, FS, ↓RE, okR, argEnv, Nat.reduceAdd, Nat.reduceSub, Nat.reduceLT, Nat.reduceLeDiff, Nat.reduceEqDiff, reduceIte, EA, hc, decide_true]
 refine ⟨⟨(7, .int .i64 ((k : Int) - 1)) :: (6, .int .i64 ((i : Int) - 1)) :: EA, [], 0, 79⟩, weakJ_of ⟨.inr ⟨rfl, rfl⟩, .inr ⟨rfl, rfl⟩, .inr ⟨rfl, rfl⟩, .inr ⟨rfl, rfl⟩, .inr ⟨rfl, rfl⟩, .inr ⟨rfl, rfl⟩, .inr ⟨rfl, rfl⟩, trivial⟩, ?_⟩
 simp only [thenJ]
 have hst := tac i k hkl
 have u1 : IntKind.i64.wrap (cell % w + ((k : Int) - 1)) = cell % w + ((k : Int) - 1) := wrap_i64 (by omega) (by omega)
 have u2 : IntKind.i64.wrap (w - 1) = w - 1 := wrap_i64 (by omega) (by omega)
 have u3 : IntKind.i64.wrap (cell / w + ((i : Int) - 1)) = cell / w + ((i : Int) - 1) := wrap_i64 (by omega) (by omega)
 have u4 : IntKind.i64.wrap (d - 1) = d - 1 := wrap_i64 (by omega) (by omega)
 have w6 : IntKind.i64.wrap ((k : Int) - 1 + 1) = ((k + 1 : Nat) : Int) - 1 := by rw [wrap_i64 (by omega) (by omega)]; omega
 refine awj_seq (awj_block (awj_seq (awj_mono (Q := fun e s' g' => s' = ⟨(7, .int .i64 ((k : Int) - 1)) :: (6, .int .i64 ((i : Int) - 1)) :: EA, [], 0, 79⟩ ∧ g' = (stepsA w d cell (3 * i + k), false) ∧
  ((e = .normal ∧ stepAt w d cell (3 * i + k) = some ⟨cell + ((i : Int) - 1) * w + ((k : Int) - 1), (k : Int) - 1, (i : Int) - 1⟩) ∨ (e = .exit 3 ∧ stepAt w d cell (3 * i + k) = none))) ?_ ?_)))
 ·refine awj_piece e3_ok (by kernel_rfl) [(0, [(16, false, false, [])]), (8, [(17, false, false, [])])] hJ (by kernel_rfl) (by kernel_rfl) ?_
  have key : ∀ b : Bool, ((k : Int) - 1 == 0 && (i : Int) - 1 == 0) = b → (b = true ∧ stepAt w d cell (3 * i + k) = none) ∨ (b = false ∧ stepAt w d cell (3 * i + k) = if !rI (cell % w + ((k : Int) - 1)) 0 (w - 1) || !rI (cell / w + ((i : Int) - 1)) 0 (d - 1) then none
   else some ⟨cell + ((i : Int) - 1) * w + ((k : Int) - 1), (k : Int) - 1, (i : Int) - 1⟩) := fun b hb => by
   rw [hst, hb]; cases b
   ·exact .inr ⟨rfl, by simp⟩
   ·exact .inl ⟨rfl, by simp⟩
  cases b0 : ((k : Int) - 1 == 0)
  ·have hk := key false (by rw [b0]; rfl)
   have hk : stepAt w d cell (3 * i + k) = _ := (hk.resolve_left fun h => by cases h.1).2
   cases b2 : rI (cell % w + ((k : Int) - 1)) 0 (w - 1)
   ·rw [b2] at hk
    simp only [RT, FS, ↓RE, okR, argEnv, Nat.reduceAdd, Nat.reduceSub, Nat.reduceLT, Nat.reduceLeDiff, Nat.reduceEqDiff, reduceIte, EA, gI3_eq, f1, f2, u1, u2, u3, u4, b0, b2]
    exact ⟨⟨(7, .int .i64 ((k : Int) - 1)) :: (6, .int .i64 ((i : Int) - 1)) :: EA, [], 0, 79⟩, weakJ_of ⟨.inr ⟨rfl, rfl⟩, .inr ⟨rfl, rfl⟩, .inr ⟨rfl, rfl⟩, .inr ⟨rfl, rfl⟩, .inr ⟨rfl, rfl⟩, .inr ⟨rfl, rfl⟩, .inr ⟨rfl, rfl⟩, trivial⟩, by simp [EA, hk]⟩
   cases b3 : rI (cell / w + ((i : Int) - 1)) 0 (d - 1)
   ·rw [b2, b3] at hk
    simp only [RT, FS, ↓RE, okR, argEnv, Nat.reduceAdd, Nat.reduceSub, Nat.reduceLT, Nat.reduceLeDiff, Nat.reduceEqDiff, reduceIte, EA, gI3_eq, f1, f2, u1, u2, u3, u4, b0, b2, b3]
    exact ⟨⟨(7, .int .i64 ((k : Int) - 1)) :: (6, .int .i64 ((i : Int) - 1)) :: EA, [], 0, 79⟩, weakJ_of ⟨.inr ⟨rfl, rfl⟩, .inr ⟨rfl, rfl⟩, .inr ⟨rfl, rfl⟩, .inr ⟨rfl, rfl⟩, .inr ⟨rfl, rfl⟩, .inr ⟨rfl, rfl⟩, .inr ⟨rfl, rfl⟩, trivial⟩, by simp [EA, hk]⟩
   ·rw [b2, b3] at hk
    simp only [RT, FS, ↓RE, okR, argEnv, Nat.reduceAdd, Nat.reduceSub, Nat.reduceLT, Nat.reduceLeDiff, Nat.reduceEqDiff, reduceIte, EA, gI3_eq, f1, f2, u1, u2, u3, u4, b0, b2, b3]
    exact ⟨⟨(7, .int .i64 ((k : Int) - 1)) :: (6, .int .i64 ((i : Int) - 1)) :: EA, [], 0, 79⟩, weakJ_of ⟨.inr ⟨rfl, rfl⟩, .inr ⟨rfl, rfl⟩, .inr ⟨rfl, rfl⟩, .inr ⟨rfl, rfl⟩, .inr ⟨rfl, rfl⟩, .inr ⟨rfl, rfl⟩, .inr ⟨rfl, rfl⟩, trivial⟩, by simp [EA, hk]⟩
  cases b1 : ((i : Int) - 1 == 0)
  ·have hk := key false (by rw [b0, b1]; rfl)
   have hk : stepAt w d cell (3 * i + k) = _ := (hk.resolve_left fun h => by cases h.1).2
   cases b2 : rI (cell % w + ((k : Int) - 1)) 0 (w - 1)
   ·rw [b2] at hk
    simp only [RT, FS, ↓RE, okR, argEnv, Nat.reduceAdd, Nat.reduceSub, Nat.reduceLT, Nat.reduceLeDiff, Nat.reduceEqDiff, reduceIte, EA, gI3_eq, f1, f2, u1, u2, u3, u4, b0, b1, b2]
    exact ⟨⟨(7, .int .i64 ((k : Int) - 1)) :: (6, .int .i64 ((i : Int) - 1)) :: EA, [], 0, 79⟩, weakJ_of ⟨.inr ⟨rfl, rfl⟩, .inr ⟨rfl, rfl⟩, .inr ⟨rfl, rfl⟩, .inr ⟨rfl, rfl⟩, .inr ⟨rfl, rfl⟩, .inr ⟨rfl, rfl⟩, .inr ⟨rfl, rfl⟩, trivial⟩, by simp [EA, hk]⟩
   cases b3 : rI (cell / w + ((i : Int) - 1)) 0 (d - 1)
   ·rw [b2, b3] at hk
    simp only [RT, FS, ↓RE, okR, argEnv, Nat.reduceAdd, Nat.reduceSub, Nat.reduceLT, Nat.reduceLeDiff, Nat.reduceEqDiff, reduceIte, EA, gI3_eq, f1, f2, u1, u2, u3, u4, b0, b1, b2, b3]
    exact ⟨⟨(7, .int .i64 ((k : Int) - 1)) :: (6, .int .i64 ((i : Int) - 1)) :: EA, [], 0, 79⟩, weakJ_of ⟨.inr ⟨rfl, rfl⟩, .inr ⟨rfl, rfl⟩, .inr ⟨rfl, rfl⟩, .inr ⟨rfl, rfl⟩, .inr ⟨rfl, rfl⟩, .inr ⟨rfl, rfl⟩, .inr ⟨rfl, rfl⟩, trivial⟩, by simp [EA, hk]⟩
   ·rw [b2, b3] at hk
    simp only [RT, FS, ↓RE, okR, argEnv, Nat.reduceAdd, Nat.reduceSub, Nat.reduceLT, Nat.reduceLeDiff, Nat.reduceEqDiff, reduceIte, EA, gI3_eq, f1, f2, u1, u2, u3, u4, b0, b1, b2, b3]
    exact ⟨⟨(7, .int .i64 ((k : Int) - 1)) :: (6, .int .i64 ((i : Int) - 1)) :: EA, [], 0, 79⟩, weakJ_of ⟨.inr ⟨rfl, rfl⟩, .inr ⟨rfl, rfl⟩, .inr ⟨rfl, rfl⟩, .inr ⟨rfl, rfl⟩, .inr ⟨rfl, rfl⟩, .inr ⟨rfl, rfl⟩, .inr ⟨rfl, rfl⟩, trivial⟩, by simp [EA, hk]⟩
  ·have hk := key true (by rw [b0, b1]; rfl)
   have hk := (hk.resolve_right fun h => by cases h.1).2
   simp only [RT, FS, ↓RE, okR, argEnv, Nat.reduceAdd, Nat.reduceSub, Nat.reduceLT, Nat.reduceLeDiff, Nat.reduceEqDiff, reduceIte, EA, gI3_eq, f1, f2, u1, u2, u3, u4, b0, b1]
   exact ⟨⟨(7, .int .i64 ((k : Int) - 1)) :: (6, .int .i64 ((i : Int) - 1)) :: EA, [], 0, 79⟩, weakJ_of ⟨.inr ⟨rfl, rfl⟩, .inr ⟨rfl, rfl⟩, .inr ⟨rfl, rfl⟩, .inr ⟨rfl, rfl⟩, .inr ⟨rfl, rfl⟩, .inr ⟨rfl, rfl⟩, .inr ⟨rfl, rfl⟩, trivial⟩, by simp [EA, hk]⟩
 rintro e s' g' ⟨rfl, rfl, ⟨rfl, hk⟩ | ⟨rfl, hk⟩⟩
 rotate_left
 ·simp only [thenJ, blockJ, if_true]
  refine awj_piece e3_ok (by kernel_rfl) [(0, [(16, false, false, [])]), (8, [(17, false, false, [])])] hJ (by kernel_rfl) (by kernel_rfl) ?_
  simp only [RT, FS, ↓RE, okR, argEnv, Nat.reduceAdd, Nat.reduceSub, Nat.reduceLT, Nat.reduceLeDiff, Nat.reduceEqDiff, reduceIte, EA, gI3_eq, f1, f2, u1, u2, u3, u4, w6]
  refine ⟨⟨(7, .int .i64 (((k + 1 : Nat) : Int) - 1)) :: (6, .int .i64 ((i : Int) - 1)) :: EA, [], 0, 79⟩, weakJ_of ⟨.inl ⟨rfl, rfl⟩, .inr ⟨rfl, rfl⟩, .inr ⟨rfl, rfl⟩, .inr ⟨rfl, rfl⟩, .inr ⟨rfl, rfl⟩, .inr ⟨rfl, rfl⟩, .inr ⟨rfl, rfl⟩, trivial⟩, ?_⟩
  simp only [thenJ]
  exact ⟨k + 1, by omega, by omega, by rw [show 3 * i + (k + 1) = 3 * i + k + 1 from rfl, stepsA_none hk], lessJ_of ⟨rfl, rfl, rfl, rfl, rfl, rfl, rfl, trivial⟩⟩
 simp only [thenJ]
 refine awj_seq (awj_draw e3_ok (by kernel_rfl) hJ (fun R n vs x => stp_dec R n vs x.1) hY 15 false [] [(1, false, false, [])] (by kernel_rfl) ?_)
 simp only [yDraw]
 have hm1 : -12 ≤ ((i : Int) - 1) * w ∧ ((i : Int) - 1) * w ≤ 12 := by
  have : (i : Int) - 1 = -1 ∨ (i : Int) - 1 = 0 ∨ (i : Int) - 1 = 1 := by omega
  rcases this with h | h | h <;> rw [h] <;> omega
 have u5 : IntKind.i64.wrap (((i : Int) - 1) * w) = ((i : Int) - 1) * w := wrap_i64 (by omega) (by omega)
 have u6 : IntKind.i64.wrap (cell + ((i : Int) - 1) * w) = cell + ((i : Int) - 1) * w := wrap_i64 (by omega) (by omega)
 have u7 : IntKind.i64.wrap (cell + ((i : Int) - 1) * w + ((k : Int) - 1)) = cell + ((i : Int) - 1) * w + ((k : Int) - 1) := wrap_i64 (by omega) (by omega)
 simp only [RT, FS, ↓RE, okR, argEnv, Nat.reduceAdd, Nat.reduceSub, Nat.reduceLT, Nat.reduceLeDiff, Nat.reduceEqDiff, reduceIte, EA, f1, u5, u6, u7]
 refine ⟨⟨(62, .raw (.func (.yield l) #[] #[])) :: (76, .agg [.int .i64 (cell + ((i : Int) - 1) * w + ((k : Int) - 1)), .int .i64 ((k : Int) - 1), .int .i64 ((i : Int) - 1)]) :: (7, .int .i64 ((k : Int) - 1)) :: (6, .int .i64 ((i : Int) - 1)) :: EA, [], 0, 79⟩, weakJ_of ⟨.inl ⟨rfl, rfl⟩, .inl ⟨rfl, rfl⟩, .inr ⟨rfl, rfl⟩, .inr ⟨rfl, rfl⟩, .inr ⟨rfl, rfl⟩, .inr ⟨rfl, rfl⟩, .inr ⟨rfl, rfl⟩, .inr ⟨rfl, rfl⟩, .inr ⟨rfl, rfl⟩, trivial⟩, ?_⟩
 have hln := stepsA_len w d cell (3 * i + k)
 obtain ⟨hxm, hsn⟩ := stepsA_some (show 3 * i + k < 9 by omega) hk
 refine ⟨_, rfl, rfl, _, ⟨⟨cell + ((i : Int) - 1) * w + ((k : Int) - 1), (k : Int) - 1, (i : Int) - 1⟩, hxm⟩, rfl, by omega, rfl, ?_, ?_⟩
 ·simp only [RT, FS, ↓RE, okR, argEnv, Nat.reduceAdd, Nat.reduceSub, Nat.reduceLT, Nat.reduceLeDiff, Nat.reduceEqDiff, reduceIte, EA]
  refine ⟨⟨(78, .bool false) :: (7, .int .i64 ((k : Int) - 1)) :: (6, .int .i64 ((i : Int) - 1)) :: EA, [], 0, 79⟩, weakJ_of ⟨.inl ⟨rfl, rfl⟩, .inr ⟨rfl, rfl⟩, .inr ⟨rfl, rfl⟩, .inr ⟨rfl, rfl⟩, .inr ⟨rfl, rfl⟩, .inr ⟨rfl, rfl⟩, .inr ⟨rfl, rfl⟩, .inr ⟨rfl, rfl⟩, trivial⟩, ?_⟩
  simp only [thenJ]
  refine awj_cond (t := false) rfl (fun h => by cases h) fun _ => awj_skip ?_
  simp only [thenJ, blockJ]
  refine awj_piece e3_ok (by kernel_rfl) [(0, [(16, false, false, [])]), (8, [(17, false, false, [])])] hJ (by kernel_rfl) (by kernel_rfl) ?_
  simp only [RT, FS, ↓RE, okR, argEnv, Nat.reduceAdd, Nat.reduceSub, Nat.reduceLT, Nat.reduceLeDiff, Nat.reduceEqDiff, reduceIte, EA, w6]
  refine ⟨⟨(7, .int .i64 (((k + 1 : Nat) : Int) - 1)) :: (6, .int .i64 ((i : Int) - 1)) :: EA, [], 0, 79⟩, weakJ_of ⟨.inl ⟨rfl, rfl⟩, .inr ⟨rfl, rfl⟩, .inr ⟨rfl, rfl⟩, .inr ⟨rfl, rfl⟩, .inr ⟨rfl, rfl⟩, .inr ⟨rfl, rfl⟩, .inr ⟨rfl, rfl⟩, trivial⟩, ?_⟩
  simp only [thenJ]
  exact ⟨k + 1, by omega, by omega, by rw [show 3 * i + (k + 1) = 3 * i + k + 1 from rfl, hsn], lessJ_of ⟨rfl, rfl, rfl, rfl, rfl, rfl, rfl, trivial⟩⟩
 ·simp only [RT, FS, ↓RE, okR, argEnv, Nat.reduceAdd, Nat.reduceSub, Nat.reduceLT, Nat.reduceLeDiff, Nat.reduceEqDiff, reduceIte, EA, flS, flat1]
  refine ⟨⟨[(78, .bool true)], [], 0, 79⟩, weakJ_of ⟨.inl ⟨rfl, rfl⟩, trivial⟩, ?_⟩
  simp only [thenJ]
  refine awj_cond (t := true) rfl (fun _ => awj_ret ?_) fun h => by cases h
  simp only [thenJ, blockJ]
  refine ⟨.inr trivial, .inr ⟨trivial, ?_⟩⟩
  rw [← hsn]
  exact stepsA_pre w d cell _
theorem steps_seq (c : Craft) (w d : Int) (g wa : D) (cl : Int) (a : AirW) (ce : Int) (hw : 1 ≤ w ∧ w ≤ 12) (hd : 1 ≤ d ∧ d ≤ 12) (cell : Int) (hc : 0 ≤ cell ∧ cell ≤ 200) :
  SeqP Tryz.prog 63 [.ref [.int .i64 cell] 0, .ref [.ref (flD c w d g wa cl a ce) 0] 0] (fun x : StpIn w d cell => stpV x.1) (fun xs => xs = (stepsL w d cell).attach) (fun pre => pre <+: (stepsL w d cell).attach) 9 :=
 steps_seqF _ w d (fun h => by kernel_rfl) (fun h => by kernel_rfl) hw hd cell hc
end Go.Sx.E

namespace Go.Sx.E
open Go.Proofs
set_option maxRecDepth 10000

theorem clone_a (l : List Int) (hl : 1 ≤ l.length ∧ l.length ≤ 1000) (h : H) (nid : Nat) (K : D → H → Nat → Prop) (hK : K (.osl nid l.length) ((nid, .arr 3 1 (intL l)) :: h) (nid + 1)) :
  ACall Tryz.prog 83 [.sl (intL l)] h nid K := by
 have hb := bin_slnil' (P := Tryz.prog) Fz.und_34 (xs := intL l) (by rw [intL_len]; exact hl.1)
 have h0 : ∀ h nid, litOpD Tryz.prog h nid 34 0 [] = some (.osl nid 0, (nid, .arr 3 1 (intL [])) :: h, nid + 1) := fun h nid => by kernel_rfl
 have ha := fun nid => oI_appD (h := (nid, .arr 3 1 (intL [])) :: h) (b := nid) (n := 0) (l := []) (r := l) (by simp [hget]) rfl (nid + 1) (by simp; omega)
 refine acall_of_wc (rs := [.tmp 2]) (m := 8) [] oNone_ok (by kernel_rfl) Tryz.func83 rfl (by kernel_rfl) rfl rfl (by kernel_rfl) ?_
 simp only [RT, FS, ↓RE, okR, argEnv, Nat.reduceAdd, Nat.reduceSub, Nat.reduceLT, Nat.reduceLeDiff, Nat.reduceEqDiff, reduceIte, hb, h0, ha]
 simpa [hset] using hK
theorem equal_t (a b : List Int) (ha : a.length ≤ 1000) (hb : b.length ≤ 1000) : Pure Tryz.prog 85 [.sl (intL a), .sl (intL b)] (.bool (decide (a = b))) := by
 by_cases hlen : a.length = b.length
 rotate_left
 ·have hc : ((a.length : Int) != (b.length : Int)) = true := by simp; omega
  have hab : a ≠ b := fun e => hlen (by rw [e])
  refine pure_of_wc (rs := [.tmp 4]) (m := 26) [(6, [(9, false, false, [])])] oNone_ok (by kernel_rfl) Tryz.func85 rfl (by kernel_rfl) rfl rfl (by kernel_rfl) ?_
  simp only [RT, FS, ↓RE, okR, argEnv, Nat.reduceAdd, Nat.reduceSub, Nat.reduceLT, Nat.reduceLeDiff, Nat.reduceEqDiff, reduceIte, intL_len, hc]
  simp [hab]
 have hc : ((a.length : Int) != (b.length : Int)) = false := by simp; omega
 refine pure_of_wc (rs := [.tmp 4]) (m := 26) [(6, [(9, false, false, [])])] oNone_ok (by kernel_rfl) Tryz.func85 rfl (by kernel_rfl) rfl rfl (by kernel_rfl) ?_
 simp only [RT, FS, ↓RE, okR, argEnv, Nat.reduceAdd, Nat.reduceSub, Nat.reduceLT, Nat.reduceLeDiff, Nat.reduceEqDiff, reduceIte, intL_len, hc]
 refine loopV (ι := Nat) oNone_ok [(6, [(9, false, false, [])])] (fun i => [(0, .sl (intL a)), (1, .sl (intL b)), (12, .int .i64 (a.length : Int)), (13, .int .i64 (i : Int))])
  (fun i => []) 0 (fun i => i ≤ a.length ∧ a.take i = b.take i) (fun i => a.length - i) 0 (by kernel_rfl) (by kernel_rfl) ⟨Nat.zero_le _, by simp⟩ ?_ ?_
 ·simp [headW, heapW, envW, blkLt, D.ltL, D.lt, look, hget]
 rintro i ⟨hi, he⟩
 rcases Nat.lt_or_ge i a.length with hlt | hge
 rotate_left
 ·have hq : ((i : Int) < (a.length : Int)) = False := by simp; omega
  have hab : a = b := by
   rw [List.take_of_length_le (by omega), List.take_of_length_le (by omega)] at he; exact he
  simp only [RT, FS, ↓RE, okR, argEnv, Nat.reduceAdd, Nat.reduceSub, Nat.reduceLT, Nat.reduceLeDiff, Nat.reduceEqDiff, reduceIte, hq, decide_false]
  simp [hab]
 have hq : ((i : Int) < (a.length : Int)) = True := by simp [hlt]
 obtain ⟨x, hx⟩ : ∃ x, a[i]? = some x := ⟨a[i], by simp [hlt]⟩
 obtain ⟨y, hy⟩ : ∃ y, b[i]? = some y := ⟨b[i]'(by omega), by simp⟩
 have ix := sI_ix hx
 have iy := sI_ix hy
 have hw := wrap_i64 (z := (i : Int) + 1) (by omega) (by omega)
 by_cases hxy : x = y
 ·have hc2 : (x != y) = false := by simpa using hxy
  simp only [RT, FS, ↓RE, okR, argEnv, Nat.reduceAdd, Nat.reduceSub, Nat.reduceLT, Nat.reduceLeDiff, Nat.reduceEqDiff, reduceIte, hq, decide_true, ix, iy, hc2, hw]
  exact ⟨i + 1, ⟨by omega, by rw [List.take_add_one, List.take_add_one, hx, hy, he, hxy]⟩, by omega, by simp [headW, heapW, envW, blkLt, D.ltL, D.lt, look, hget]⟩
 ·have hc2 : (x != y) = true := by simpa using hxy
  have hab : a ≠ b := fun e => hxy (by rw [e, hy] at hx; exact (Option.some.inj hx).symm)
  simp only [RT, FS, ↓RE, okR, argEnv, Nat.reduceAdd, Nat.reduceSub, Nat.reduceLT, Nat.reduceLeDiff, Nat.reduceEqDiff, reduceIte, hq, decide_true, ix, iy, hc2, hw]
  simp [hab]

theorem stepAt_ok {w d c : Int} (hw : 1 ≤ w) (hc : 0 ≤ c ∧ c < w * d) {j : Nat} (hj : j < 9) {s : Stp} (h : stepAt w d c j = some s) : (0 ≤ s.cell ∧ s.cell < w * d) ∧ DirOk s ∧ s.cell = (c / w + s.dy) * w + (c % w + s.dx) ∧ (0 ≤ c % w + s.dx ∧ c % w + s.dx < w) ∧ (0 ≤ c / w + s.dy ∧ c / w + s.dy < d) ∧ (s.dx ≠ 0 ∨ s.dy ≠ 0) := by
 unfold stepAt at h
 split at h
 ·cases h
 ·rename_i hn
  cases h
  simp only [Bool.or_eq_true, Bool.and_eq_true, beq_iff_eq, Bool.not_eq_true', not_or, Bool.not_eq_false, rI, decide_eq_true_eq] at hn
  obtain ⟨h1, h2, h3⟩ := hn
  have e := Int.emod_add_mul_ediv c w
  dsimp only
  refine ⟨?_, ⟨by dsimp only; omega, by dsimp only; omega⟩, ?_, by omega, by omega, by omega⟩
  ·have key : c + (((j / 3 : Nat) : Int) - 1) * w + (((j % 3 : Nat) : Int) - 1) = (c / w + (((j / 3 : Nat) : Int) - 1)) * w + (c % w + (((j % 3 : Nat) : Int) - 1)) := by
    rw [Int.add_mul, Int.mul_comm (c / w) w]; omega
   rw [key]
   generalize c / w + (((j / 3 : Nat) : Int) - 1) = y at *
   generalize c % w + (((j % 3 : Nat) : Int) - 1) = x at *
   have h4 : 0 ≤ y * w := Int.mul_nonneg h3.1 (by omega)
   have h5 : y * w ≤ (d - 1) * w := Int.mul_le_mul_of_nonneg_right h3.2 (by omega)
   have h6 : (d - 1) * w = w * d - w := by rw [Int.sub_mul, Int.mul_comm d w]; omega
   omega
  ·rw [Int.add_mul, Int.mul_comm (c / w) w]; omega
theorem mem_steps {w d c : Int} {s : Stp} (h : s ∈ stepsL w d c) : ∃ j, j < 9 ∧ stepAt w d c j = some s := by
 obtain ⟨j, h1, h2⟩ := List.mem_filterMap.1 h
 exact ⟨j, by simpa using h1, h2⟩
end Go.Sx.E
