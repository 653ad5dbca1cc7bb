/- Own work: contracts of functions, used in the proof of a law. -/
import Derived.Test.YthljonnokmkagaaSxE32r
set_option linter.unusedVariables false
set_option linter.unusedSimpArgs false
namespace Go.Sx
open Go.Proofs
set_option maxRecDepth 10000

/-! Steps in a direction -/
def dxW (w : Int) : Int := [0, 1, 1, 1, 0, -1, -1, -1].getD (w - 1).toNat 0
def dyW (w : Int) : Int := [1, 1, 0, -1, -1, -1, 0, 1].getD (w - 1).toNat 0
theorem way_cases {w : Int} (h : rI w 1 8 = true) : w = 1 ∨ w = 2 ∨ w = 3 ∨ w = 4 ∨ w = 5 ∨ w = 6 ∨ w = 7 ∨ w = 8 := by
  have := rI_le h; omega
theorem dx_cases (w : Int) (h : rI w 1 8 = true) : (dxW w = 0 ∨ dxW w = 1 ∨ dxW w = -1) ∧ (dyW w = 0 ∨ dyW w = 1 ∨ dyW w = -1) ∧ ¬(dxW w = 0 ∧ dyW w = 0) := by
  rcases way_cases h with rfl | rfl | rfl | rfl | rfl | rfl | rfl | rfl <;> decide
theorem dirW_ok {w : Int} (h : rI w 1 8 = true) (cell : Int) : DirOk ⟨cell, dxW w, dyW w⟩ := by
  have := dx_cases w h
  exact ⟨by show -1 ≤ dxW w ∧ dxW w ≤ 1; omega, by show -1 ≤ dyW w ∧ dyW w ≤ 1; omega⟩
def orN : CallE := fun _ _ _ _ => none
theorem orN_ok : OkCall Try.prog orN := fun f ds h nid d h' nid' e => by cases e
def tabS : List (Nat × List (Nat × List Ann)) := [(81, []), (82, [(3, [(12, false, false, [])])])]
theorem tabS_ok : (tabS.all fun p => bodyOk Try.prog p.1 p.2) = true := by kernel_rfl
theorem rsteps_t (w : Int) (h : rI w 1 8 = true) : Pure Try.prog 82 [.int .i64 w] (.tup [.int .i64 (dxW w), .int .i64 (dyW w)]) := by
  rcases way_cases h with rfl | rfl | rfl | rfl | rfl | rfl | rfl | rfl <;> exact pure_of_ev (fuel := 1000) (n := 20) (by kernel_rfl) tabS_ok orN_ok oNone_ok (by kernel_rfl)
theorem ref3_Steps_t (w : Int) (h : rI w 1 8 = true) : Pure Try.prog 81 [.int .i64 w] (.int .i64 (lenS (dxW w) (dyW w))) := by
  rcases way_cases h with rfl | rfl | rfl | rfl | rfl | rfl | rfl | rfl <;> exact pure_of_ev (fuel := 1000) (n := 20) (by kernel_rfl) tabS_ok orN_ok oNone_ok (by kernel_rfl)
theorem ref_Way_t (w : Int) : Pure Try.prog 41 [.int .i64 w] (.bool (rI w 1 8)) := by
  refine pure_of_wc (rs := [.tmp 2]) (m := 9) [] oNone_ok (by kernel_rfl) Try.func41 rfl (by kernel_rfl) rfl rfl (by kernel_rfl) ?_
  simp only [RT, FS, ↓RE, okR, argEnv, Nat.reduceAdd, Nat.reduceSub, Nat.reduceLT, Nat.reduceLeDiff, Nat.reduceEqDiff, reduceIte]
  unfold rI
  cases decide (1 ≤ w) <;> simp [BR]
theorem ref3_up10_t (n : Int) (h : 0 ≤ n ∧ n ≤ 1000000000) : Pure Try.prog 80 [.int .i64 n, .int .i64 10] (.int .i64 ((n + 9) / 10)) := by
  have w1 := wrap_i64 (z := n + 10) (by omega) (by omega)
  have w2 := wrap_i64 (z := n + 10 - 1) (by omega) (by omega)
  have hd := a_quo' (k := .i64) (x := n + 10 - 1) (y := 10) (by omega)
  have he : (n + 10 - 1).tdiv 10 = (n + 9) / 10 := by rw [Int.tdiv_eq_ediv_of_nonneg (by omega)]; congr 1; omega
  have w3 := wrap_i64 (z := (n + 9) / 10) (by omega) (by omega)
  refine pure_of_wc (rs := [.tmp 4]) (m := 11) [] oNone_ok (by kernel_rfl) Try.func80 rfl (by kernel_rfl) rfl rfl (by kernel_rfl) ?_
  simp only [RT, FS, ↓RE, okR, argEnv, Nat.reduceAdd, Nat.reduceSub, Nat.reduceLT, Nat.reduceLeDiff, Nat.reduceEqDiff, reduceIte, w1, w2, hd, he, w3]
/-- What is lost in a step, for parts of the wind. -/
def lostP (c : Craft) (w e n : Int) : Int := max 1 (partI c.fall (lenS (dxW w) (dyW w)) - c.drag * (e * dxW w + n * dyW w))
def windOk (x : Int) : Prop := -300 ≤ x ∧ x ≤ 300
theorem ref3_Lost_t (c : Craft) (hc : CraftOk c) (w e n : Int) (hw : rI w 1 8 = true) (he : windOk e) (hn : windOk n) :
    Pure Try.prog 27 [.agg c.c, .int .i64 w, .int .i64 e, .int .i64 n] (.int .i64 (lostP c w e n)) := by
  have p1 := rsteps_t w hw
  have p2 := ref3_Steps_t w hw
  have hdx := (dirW_ok hw 0).x
  have hdy := (dirW_ok hw 0).y
  dsimp only at hdx hdy
  have hl := lenS_b (dxW w) (dyW w)
  have hpb := partI_b (n := c.fall) (by have := hc.fall; omega) hl
  simp only [lostP]
  generalize dxW w = dx at *
  generalize dyW w = dy at *
  have m1 := dir_mul (e := e) he hdx
  have m2 := dir_mul (e := n) hn hdy
  have h3 := drag_le hc.drag (a := e * dx + n * dy) (by omega)
  have f1 : 0 ≤ c.fall * lenS dx dy := Int.mul_nonneg (by have := hc.fall; omega) (by omega)
  have f2 : c.fall * lenS dx dy ≤ 20000 * 14 := Int.mul_le_mul (by have := hc.fall; omega) hl.2 (by omega) (by omega)
  have p3 := ref3_up10_t (c.fall * lenS dx dy) (by omega)
  have w1 := wrap_i64 (z := c.fall * lenS dx dy) (by omega) (by omega)
  have w2 := wrap_i64 (z := e * dx) (by omega) (by omega)
  have w3 := wrap_i64 (z := n * dy) (by omega) (by omega)
  have w4 := wrap_i64 (z := e * dx + n * dy) (by omega) (by omega)
  have w5 := wrap_i64 (z := c.drag * (e * dx + n * dy)) (by omega) (by omega)
  have w6 := wrap_i64 (z := partI c.fall (lenS dx dy) - c.drag * (e * dx + n * dy)) (by omega) (by omega)
  simp only [partI] at w6 ⊢
  simp only [Craft.c]
  refine pure_of_wc (rs := [.tmp 8]) (m := 34) [(2, [(19, false, false, [])])] oNone_ok (by kernel_rfl) Try.func27 rfl (by kernel_rfl) rfl rfl (by kernel_rfl) ?_
  simp only [RT, FS, ↓RE, okR, argEnv, Nat.reduceAdd, Nat.reduceSub, Nat.reduceLT, Nat.reduceLeDiff, Nat.reduceEqDiff, reduceIte]
  refine call_of_pure p1 rfl ?_
  simp only [RT, FS, ↓RE, okR, argEnv, Nat.reduceAdd, Nat.reduceSub, Nat.reduceLT, Nat.reduceLeDiff, Nat.reduceEqDiff, reduceIte, ex_tup, w1, w2, w3, w4, w5, w6]
  refine call_of_pure p2 rfl ?_
  simp only [RT, FS, ↓RE, okR, argEnv, Nat.reduceAdd, Nat.reduceSub, Nat.reduceLT, Nat.reduceLeDiff, Nat.reduceEqDiff, reduceIte, ex_tup, w1, w2, w3, w4, w5, w6]
  refine call_of_pure p3 rfl ?_
  simp only [RT, FS, ↓RE, okR, argEnv, Nat.reduceAdd, Nat.reduceSub, Nat.reduceLT, Nat.reduceLeDiff, Nat.reduceEqDiff, reduceIte, ex_tup, w1, w2, w3, w4, w5, w6]
noncomputable def gLost : List D → Option D := orcF (fun p : Craft × Int × Int × Int => CraftOk p.1 ∧ rI p.2.1 1 8 = true ∧ windOk p.2.2.1 ∧ windOk p.2.2.2) (fun p => [.agg p.1.c, .int .i64 p.2.1, .int .i64 p.2.2.1, .int .i64 p.2.2.2]) (fun p => .int .i64 (lostP p.1 p.2.1 p.2.2.1 p.2.2.2))
theorem gLost_eq {c : Craft} (hc : CraftOk c) {w e n : Int} (hw : rI w 1 8 = true) (he : windOk e) (hn : windOk n) : gLost [.agg c.c, .int .i64 w, .int .i64 e, .int .i64 n] = some (.int .i64 (lostP c w e n)) :=
  orcF_eq (ok := fun p : Craft × Int × Int × Int => CraftOk p.1 ∧ rI p.2.1 1 8 = true ∧ windOk p.2.2.1 ∧ windOk p.2.2.2) (dsf := fun p => [.agg p.1.c, .int .i64 p.2.1, .int .i64 p.2.2.1, .int .i64 p.2.2.2]) (rf := fun p => .int .i64 (lostP p.1 p.2.1 p.2.2.1 p.2.2.2)) (c, w, e, n) ⟨hc, hw, he, hn⟩ fun b hb => by
    simp only [List.cons.injEq, D.agg.injEq, D.int.injEq, true_and, and_true] at hb
    rw [Craft.c_inj hb.1, hb.2.1, hb.2.2.1, hb.2.2.2]
noncomputable abbrev e7 : List (FuncId × (List D → Option D)) := (27, gLost) :: e6
theorem e7_ok : OkO Try.prog (mkO e7) := mkO_ok (orcF_ok fun p h => ref3_Lost_t p.1 h.1 p.2.1 p.2.2.1 p.2.2.2 h.2.1 h.2.2.1 h.2.2.2) e6_ok
/-- The bounds of what is lost, at the corners. -/
def lossL (c : Craft) (a : AirW) (w : Int) : List Int := [lostP c w a.e.lo a.n.hi, lostP c w a.e.hi a.n.lo, lostP c w a.e.hi a.n.hi]
def lossI (c : Craft) (a : AirW) (w : Int) : SpI := wideI (lostP c w a.e.lo a.n.lo) (lossL c a w)
theorem ref3_Loss_t (c : Craft) (hc : CraftOk c) (a : AirW) (ha : AirOk a) (w : Int) (hw : rI w 1 8 = true) : Pure Try.prog 42 [.agg c.c, .agg a.c, .int .i64 w] (.agg (lossI c a w).c) := by
  have k := ha.e
  have k2 := ha.n
  have o1 := gLost_eq hc hw (e := a.e.lo) (n := a.n.lo) ⟨by omega, by omega⟩ ⟨by omega, by omega⟩
  have o2 := gLost_eq hc hw (e := a.e.lo) (n := a.n.hi) ⟨by omega, by omega⟩ ⟨by omega, by omega⟩
  have o3 := gLost_eq hc hw (e := a.e.hi) (n := a.n.lo) ⟨by omega, by omega⟩ ⟨by omega, by omega⟩
  have o4 := gLost_eq hc hw (e := a.e.hi) (n := a.n.hi) ⟨by omega, by omega⟩ ⟨by omega, by omega⟩
  simp only [lossI, lossL]
  generalize lostP c w a.e.lo a.n.lo = x1 at *
  generalize lostP c w a.e.lo a.n.hi = x2 at *
  generalize lostP c w a.e.hi a.n.lo = x3 at *
  generalize lostP c w a.e.hi a.n.hi = x4 at *
  simp only [Craft.c, AirW.c] at o1 o2 o3 o4 ⊢
  have i0 : ∀ h, indexAddrD Try.prog h 25 (.sl (intL [x1, x2, x3, x4])) (.int .i64 0) = some (.ref [.int .i64 x1] 0) := fun h => sI_ix (i := 0) rfl h
  refine pure_of_wc (rs := [.cell 6 30]) (m := 77) [(1, [(38, false, false, [])]), (2, [(8, true, false, []), (1, false, false, [])]), (6, [(16, false, true, [(4, 0), (3, 0), (2, 0)]), (2, false, false, [])])] e7_ok (by kernel_rfl) Try.func42 rfl (by kernel_rfl) rfl rfl (by kernel_rfl) ?_
  simp only [RT, FS, ↓RE, okR, argEnv, Nat.reduceAdd, Nat.reduceSub, Nat.reduceLT, Nat.reduceLeDiff, Nat.reduceEqDiff, reduceIte, o1, o2, o3, o4, litD_4, i0]
  generalize hL : [x1, x2, x3, x4] = L
  have hl : L.length = 4 := by rw [← hL]; rfl
  have hmin : ∀ x y : Int, min x y = if y < x then y else x := fun x y => by omega
  have hmax : ∀ x y : Int, max x y = if x < y then y else x := fun x y => by omega
  refine loopV (ι := Nat) e7_ok [(1, [(38, false, false, [])]), (2, [(8, true, false, []), (1, false, false, [])]), (6, [(16, false, true, [(4, 0), (3, 0), (2, 0)]), (2, false, false, [])])] (fun i => [(6, .ptr 2 0), (7, .sl (intL L)), (8, .ptr 3 0), (9, .int .i64 (i : Int))])
    (fun i => [(3, .box [.int .i64 ((L.take i).foldl min x1), .int .i64 ((L.take i).foldl max x1)]), (2, .box [.int .i64 0, .int .i64 0])]) 4 (fun i => 1 ≤ i ∧ i ≤ 4) (fun i => 4 - i) 1 (by kernel_rfl) (by kernel_rfl) ⟨by omega, by omega⟩ ?_ ?_
  · subst hL
    simp [headW, heapW, envW, blkLt, D.ltL, D.lt, look, hget, hset]
  rintro i ⟨hi1, hi4⟩
  rcases Nat.lt_or_ge i 4 with hlt | hge
  · have hc' : ((i : Int) < (L.length : Int)) = True := by simp; omega
    obtain ⟨x, hx⟩ : ∃ x, L[i]? = some x := ⟨L[i]'(by omega), by simp⟩
    have hix := sI_ix hx
    have hw1 := wrap_i64 (z := (i : Int) + 1) (by omega) (by omega)
    simp only [RT, FS, ↓RE, okR, argEnv, Nat.reduceAdd, Nat.reduceSub, Nat.reduceLT, Nat.reduceLeDiff, Nat.reduceEqDiff, reduceIte, intL_len, hc', decide_true, hix, hw1]
    refine ⟨i + 1, ⟨by omega, by omega⟩, by omega, ?_⟩
    rw [foldl_take hx, foldl_take hx]
    simp [headW, heapW, envW, blkLt, D.ltL, D.lt, look, hget, hset, hmin, hmax]
  · have hc' : ((i : Int) < (L.length : Int)) = False := by simp; omega
    have : i = 4 := by omega
    subst this
    simp only [RT, FS, ↓RE, okR, argEnv, Nat.reduceAdd, Nat.reduceSub, Nat.reduceLT, Nat.reduceLeDiff, Nat.reduceEqDiff, reduceIte, intL_len, hc', decide_false]
    subst hL
    simp [wideI, SpI.c]

/-! run.Loss -/
def LossR (c : Craft) (a : AirW) (w : Int) : SpI × Int := if craftB c && (airB a && rI w 1 8) then (lostI c a ⟨0, dxW w, dyW w⟩, 0) else (⟨0, 0⟩, 2)
theorem run_Loss_t (c : Craft) (l : CraftL c) (a : AirW) (w : Int) : Pure Try.prog 38 [.agg c.c, .agg a.c, .int .i64 w] (.tup [.agg (LossR c a w).1.c, .int .i64 (LossR c a w).2]) := by
  have o1 := gCr_eq l
  have o2 := gAi_eq a.e.lo a.e.hi a.n.lo a.n.hi
  have o2' : airB ⟨⟨a.e.lo, a.e.hi⟩, ⟨a.n.lo, a.n.hi⟩⟩ = airB a := rfl
  rw [o2'] at o2
  have hc := craft_ok l
  have hlt := fun hc ha hw => lost_t c hc 0 0 .nils .nils 0 a ha 0 ⟨0, dxW w, dyW w⟩ (dirW_ok hw 0)
  simp only [Craft.c, AirW.c, SpI.c] at o1 o2 ⊢
  cases h1 : craftB c
  · rw [h1] at o1
    refine pure_of_wc (rs := [.cell 6 30, .tmp 7]) (m := 50) [] e3_ok (by kernel_rfl) Try.func38 rfl (by kernel_rfl) rfl rfl (by kernel_rfl) ?_
    simp only [RT, FS, ↓RE, okR, argEnv, Nat.reduceAdd, Nat.reduceSub, Nat.reduceLT, Nat.reduceLeDiff, Nat.reduceEqDiff, reduceIte, o1]
    simp [LossR, h1]
  rw [h1] at o1
  cases h2 : airB a
  · rw [h2] at o2
    refine pure_of_wc (rs := [.cell 6 30, .tmp 7]) (m := 50) [] e3_ok (by kernel_rfl) Try.func38 rfl (by kernel_rfl) rfl rfl (by kernel_rfl) ?_
    simp only [RT, FS, ↓RE, okR, argEnv, Nat.reduceAdd, Nat.reduceSub, Nat.reduceLT, Nat.reduceLeDiff, Nat.reduceEqDiff, reduceIte, o1, o2]
    simp [LossR, h1, h2]
  rw [h2] at o2
  by_cases h3 : w < 1
  · have hw : rI w 1 8 = false := by simp [rI]; omega
    refine pure_of_wc (rs := [.cell 6 30, .tmp 7]) (m := 50) [] e3_ok (by kernel_rfl) Try.func38 rfl (by kernel_rfl) rfl rfl (by kernel_rfl) ?_
    simp only [RT, FS, ↓RE, okR, argEnv, Nat.reduceAdd, Nat.reduceSub, Nat.reduceLT, Nat.reduceLeDiff, Nat.reduceEqDiff, reduceIte, o1, o2, h3, decide_true]
    simp [LossR, h1, h2, hw]
  by_cases h4 : 8 < w
  · have hw : rI w 1 8 = false := by simp [rI]; omega
    refine pure_of_wc (rs := [.cell 6 30, .tmp 7]) (m := 50) [] e3_ok (by kernel_rfl) Try.func38 rfl (by kernel_rfl) rfl rfl (by kernel_rfl) ?_
    simp only [RT, FS, ↓RE, okR, argEnv, Nat.reduceAdd, Nat.reduceSub, Nat.reduceLT, Nat.reduceLeDiff, Nat.reduceEqDiff, reduceIte, o1, o2, h3, h4, decide_true, decide_false]
    simp [LossR, h1, h2, hw]
  have hw : rI w 1 8 = true := by simp [rI]; omega
  have hL : LossR c a w = (lostI c a ⟨0, dxW w, dyW w⟩, 0) := by simp [LossR, h1, h2, hw]
  have hp := hlt (hc h1) (air_ok h2) hw
  rw [hL]
  dsimp only
  generalize lostI c a ⟨0, dxW w, dyW w⟩ = R at hp ⊢
  simp only [flD, Stp.c, SpI.c] at hp
  have hbf : ∀ h, buildD Try.prog h 139 [(0, .agg c.c), (2, .agg a.c)] = some (.agg (flD c 0 0 .nils .nils 0 a 0)) := fun h => by kernel_rfl
  simp only [flD, Craft.c, AirW.c] at hbf
  have hix : ∀ w, rI w 1 8 = true → indexD Try.prog 137 (.agg [.int .i64 0, .int .i64 1, .int .i64 1, .int .i64 1, .int .i64 1, .int .i64 0, .int .i64 1, .int .i64 (-1), .int .i64 0, .int .i64 (-1), .int .i64 (-1), .int .i64 (-1), .int .i64 (-1), .int .i64 0, .int .i64 (-1), .int .i64 1]) (.int .i64 (w - 1)) = some (.agg [.int .i64 (dxW w), .int .i64 (dyW w)]) := fun w hw => by
    rcases way_cases hw with rfl | rfl | rfl | rfl | rfl | rfl | rfl | rfl <;> kernel_rfl
  have hx := hix w hw
  have w1 : IntKind.i64.wrap (w - 1) = w - 1 := wrap_i64 (by omega) (by omega)
  have j0 : ∀ h b, indexAddrD Try.prog h 136 (.ptr b 0) (.int .i64 0) = atOff h 0 (.ptr b 0) := fun h b => by simp [indexAddrD, Fz.und_136, Fz.size_3]
  have j1 : ∀ h b, indexAddrD Try.prog h 136 (.ptr b 0) (.int .i64 1) = atOff h 1 (.ptr b 0) := fun h b => by simp [indexAddrD, Fz.und_136, Fz.size_3]
  refine pure_of_wc (rs := [.cell 6 30, .tmp 7]) (m := 50) [] e3_ok (by kernel_rfl) Try.func38 rfl (by kernel_rfl) rfl rfl (by kernel_rfl) ?_
  simp only [RT, FS, ↓RE, okR, argEnv, Nat.reduceAdd, Nat.reduceSub, Nat.reduceLT, Nat.reduceLeDiff, Nat.reduceEqDiff, reduceIte, o1, o2, h3, h4, decide_true, decide_false, w1, hx, hbf, j0, j1]
  refine call_of_pure hp rfl ?_
  simp only [RT, FS, ↓RE, okR, argEnv, Nat.reduceAdd, Nat.reduceSub, Nat.reduceLT, Nat.reduceLeDiff, Nat.reduceEqDiff, reduceIte]
end Go.Sx
