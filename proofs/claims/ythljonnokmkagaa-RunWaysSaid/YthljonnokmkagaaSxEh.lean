/- Own work: a calculus of contracts for the programs of this kit: parts SxE43r, SxE44r, SxE45r, SxE46r, SxE47r, SxE48r, SxE49r, SxE50r. -/
import Derived.Test.YthljonnokmkagaaSxEg
set_option linter.unusedVariables false
set_option linter.unusedSimpArgs false
namespace Go.Sx
open Go.Proofs
set_option maxRecDepth 10000

/-! What is left, and what is needed before -/
def stW (w : Int) : Stp := ⟨0, dxW w, dyW w⟩
def htOk (h : Int) : Prop := -100000 ≤ h ∧ h ≤ 2000000
theorem sink_m {c : Craft} (hc : CraftOk c) (w : Int) : 0 ≤ c.sink * lenS (dxW w) (dyW w) ∧ c.sink * lenS (dxW w) (dyW w) ≤ 20000 * 14 :=
  ⟨Int.mul_nonneg hc.sink.1 (by have := lenS_b (dxW w) (dyW w); omega), Int.mul_le_mul hc.sink.2 (lenS_b _ _).2 (by have := lenS_b (dxW w) (dyW w); omega) (by omega)⟩
theorem sayO_getD_b {c : Craft} (hc : CraftOk c) (w : Int) : 0 ≤ ceilI c w ∧ ceilI c w ≤ 20000 := sayO_getD hc.ceil.1 w
theorem ref3_before_t (c : Craft) (hc : CraftOk c) (a : AirW) (ha : AirOk a) (wt w h : Int) (hw : rI w 1 8 = true) (hh : htOk h) :
    Pure Try.prog 122 [.agg c.c, .agg a.c, .int .i64 wt, .int .i64 w, .int .i64 h] (.int .i64 (needF c a (ceilI c wt) (stW w) h)) := by
  have oL := gCAW_eq (ok := fun c a w => CraftOk c ∧ AirOk a ∧ rI w 1 8 = true) RLossD c a w ⟨hc, ha, hw⟩
  have oS := gSays_eq (l := c.ceil) (by have := hc.ceil.2.1; omega) wt
  have hlb := lostI_b hc ha (dirW_ok hw 0)
  have hsm := sink_m hc w
  have hpb := partI_b (n := c.sink) hc.sink (lenS_b (dxW w) (dyW w))
  have p1 := ref3_Steps_t w hw
  have p2 := ref3_up10_t (c.sink * lenS (dxW w) (dyW w)) (by omega)
  have hce := sayO_getD_b hc wt
  simp only [RLossD, loss_eq hc] at oL
  simp only [needF, stW, ceilI] at hce ⊢
  generalize lostI c a ⟨0, dxW w, dyW w⟩ = R at *
  have w1 := wrap_i64 (z := h + R.hi) (by unfold htOk at hh; omega) (by unfold htOk at hh; omega)
  have w2 := wrap_i64 (z := c.sink * lenS (dxW w) (dyW w)) (by omega) (by omega)
  have w3 := wrap_i64 (z := h + partI c.sink (lenS (dxW w) (dyW w))) (by unfold htOk at hh; omega) (by unfold htOk at hh; omega)
  simp only [partI] at w3 ⊢
  simp only [Craft.c, AirW.c, SpI.c] at oL ⊢
  refine pure_of_wc (rs := [.tmp 10]) (m := 42) [(6, [(9, false, false, [])])] e8_ok (by kernel_rfl) Try.func122 rfl (by kernel_rfl) rfl rfl (by kernel_rfl) ?_
  by_cases he : c.eng = 1
  · have q1 : (c.eng == 1) = true := by simpa using he
    simp only [RT, FS, ↓RE, okR, argEnv, Nat.reduceAdd, Nat.reduceSub, Nat.reduceLT, Nat.reduceLeDiff, Nat.reduceEqDiff, reduceIte, q1, oL, w1]
    simp [he]
  have q1 : (c.eng == 1) = false := by simpa using he
  by_cases h1 : h ≤ (sayO c.ceil wt).getD 0
  · simp only [RT, FS, ↓RE, okR, argEnv, Nat.reduceAdd, Nat.reduceSub, Nat.reduceLT, Nat.reduceLeDiff, Nat.reduceEqDiff, reduceIte, q1, oS, ex_tup, h1, decide_true]
    simp [he]
  · simp only [RT, FS, ↓RE, okR, argEnv, Nat.reduceAdd, Nat.reduceSub, Nat.reduceLT, Nat.reduceLeDiff, Nat.reduceEqDiff, reduceIte, q1, oS, ex_tup, h1, decide_false, w2, w3]
    refine call_of_pure p1 rfl ?_
    simp only [RT, FS, ↓RE, okR, argEnv, Nat.reduceAdd, Nat.reduceSub, Nat.reduceLT, Nat.reduceLeDiff, Nat.reduceEqDiff, reduceIte, w2, w3]
    refine call_of_pure p2 rfl ?_
    simp only [RT, FS, ↓RE, okR, argEnv, Nat.reduceAdd, Nat.reduceSub, Nat.reduceLT, Nat.reduceLeDiff, Nat.reduceEqDiff, reduceIte, w2, w3]
    simp [he, h1]
theorem ref3_Left_t (c : Craft) (hc : CraftOk c) (a : AirW) (ha : AirOk a) (wt w h : Int) (hw : rI w 1 8 = true) (hh : htOk h) :
    Pure Try.prog 26 [.agg c.c, .agg a.c, .int .i64 wt, .int .i64 w, .int .i64 h] (.int .i64 (leftF c a (ceilI c wt) (stW w) h)) := by
  have oL := gCAW_eq (ok := fun c a w => CraftOk c ∧ AirOk a ∧ rI w 1 8 = true) RLossD c a w ⟨hc, ha, hw⟩
  have oS := gSays_eq (l := c.ceil) (by have := hc.ceil.2.1; omega) wt
  have hlb := lostI_b hc ha (dirW_ok hw 0)
  have hsm := sink_m hc w
  have hpb := partI_b (n := c.sink) hc.sink (lenS_b (dxW w) (dyW w))
  have p1 := ref3_Steps_t w hw
  have p2 := ref3_up10_t (c.sink * lenS (dxW w) (dyW w)) (by omega)
  have hce := sayO_getD_b hc wt
  simp only [RLossD, loss_eq hc] at oL
  simp only [leftF, stW, ceilI] at hce ⊢
  generalize lostI c a ⟨0, dxW w, dyW w⟩ = R at *
  have w1 := wrap_i64 (z := h - R.hi) (by unfold htOk at hh; omega) (by unfold htOk at hh; omega)
  have w2 := wrap_i64 (z := c.sink * lenS (dxW w) (dyW w)) (by omega) (by omega)
  have w3 := wrap_i64 (z := h - partI c.sink (lenS (dxW w) (dyW w))) (by unfold htOk at hh; omega) (by unfold htOk at hh; omega)
  simp only [partI] at w3 ⊢
  simp only [Craft.c, AirW.c, SpI.c] at oL ⊢
  refine pure_of_wc (rs := [.tmp 10]) (m := 44) [(6, [(11, false, false, [])])] e8_ok (by kernel_rfl) Try.func26 rfl (by kernel_rfl) rfl rfl (by kernel_rfl) ?_
  by_cases he : c.eng = 1
  · have q1 : (c.eng == 1) = true := by simpa using he
    simp only [RT, FS, ↓RE, okR, argEnv, Nat.reduceAdd, Nat.reduceSub, Nat.reduceLT, Nat.reduceLeDiff, Nat.reduceEqDiff, reduceIte, q1, oL, w1]
    simp [he]
  have q1 : (c.eng == 1) = false := by simpa using he
  by_cases h1 : h ≤ (sayO c.ceil wt).getD 0
  · simp only [RT, FS, ↓RE, okR, argEnv, Nat.reduceAdd, Nat.reduceSub, Nat.reduceLT, Nat.reduceLeDiff, Nat.reduceEqDiff, reduceIte, q1, oS, ex_tup, h1, decide_true]
    simp [he]
  · simp only [RT, FS, ↓RE, okR, argEnv, Nat.reduceAdd, Nat.reduceSub, Nat.reduceLT, Nat.reduceLeDiff, Nat.reduceEqDiff, reduceIte, q1, oS, ex_tup, h1, decide_false, w2, w3]
    refine call_of_pure p1 rfl ?_
    simp only [RT, FS, ↓RE, okR, argEnv, Nat.reduceAdd, Nat.reduceSub, Nat.reduceLT, Nat.reduceLeDiff, Nat.reduceEqDiff, reduceIte, w2, w3]
    refine call_of_pure p2 rfl ?_
    simp only [RT, FS, ↓RE, okR, argEnv, Nat.reduceAdd, Nat.reduceSub, Nat.reduceLT, Nat.reduceLeDiff, Nat.reduceEqDiff, reduceIte, w2, w3]
    simp [he, h1]

/-! Neighbours -/
def nextI (l : LandM) (cell w : Int) : Int :=
  if rI (cell % l.wide + dxW w) 0 (l.wide - 1) && rI (cell / l.wide + dyW w) 0 (l.deep - 1) then (cell / l.wide + dyW w) * l.wide + (cell % l.wide + dxW w) else -1
theorem ref3_Next_t (l : LandM) (hl : LandOk l) (cell w : Int) (hw : rI w 1 8 = true) (hc : 0 ≤ cell ∧ cell < (l.ground.length : Int)) :
    Pure Try.prog 79 [.agg l.c, .int .i64 cell, .int .i64 w] (.int .i64 (nextI l cell w)) := by
  have p1 := rsteps_t w hw
  have hdx := (dirW_ok hw 0).x
  have hdy := (dirW_ok hw 0).y
  dsimp only at hdx hdy
  have hwd := hl.wide
  have hdp := hl.deep
  have hsz := hl.size
  unfold nextI
  generalize dxW w = dx at *
  generalize dyW w = dy at *
  have hm1 := Int.emod_nonneg cell (show l.wide ≠ 0 by omega)
  have hm2 := Int.emod_lt_of_pos cell (show 0 < l.wide by omega)
  have hq1 : 0 ≤ cell / l.wide := Int.ediv_nonneg hc.1 (by omega)
  have hq2 : cell / l.wide ≤ cell := Int.ediv_le_self _ hc.1
  have hcl : cell < 144 := by have := hl.small; omega
  have r1 := a_rem' (k := .i64) (x := cell) (y := l.wide) (by omega)
  have r2 := a_quo' (k := .i64) (x := cell) (y := l.wide) (by omega)
  have t1 : cell.tmod l.wide = cell % l.wide := Int.tmod_eq_emod_of_nonneg hc.1
  have t2 : cell.tdiv l.wide = cell / l.wide := Int.tdiv_eq_ediv_of_nonneg hc.1
  generalize cell % l.wide = X at *
  generalize cell / l.wide = Y at *
  have w1 := wrap_i64 (z := X) (by omega) (by omega)
  have w2 := wrap_i64 (z := Y) (by omega) (by omega)
  have w3 := wrap_i64 (z := X + dx) (by omega) (by omega)
  have w4 := wrap_i64 (z := Y + dy) (by omega) (by omega)
  have w5 := wrap_i64 (z := l.wide - 1) (by omega) (by omega)
  have w6 := wrap_i64 (z := l.deep - 1) (by omega) (by omega)
  simp only [LandM.c, grD, waD]
  refine pure_of_wc (rs := [.tmp 6]) (m := 48) [(2, [(14, false, false, [])])] e8_ok (by kernel_rfl) Try.func79 rfl (by kernel_rfl) rfl rfl (by kernel_rfl) ?_
  cases hx : rI (X + dx) 0 (l.wide - 1)
  · simp only [RT, FS, ↓RE, okR, argEnv, Nat.reduceAdd, Nat.reduceSub, Nat.reduceLT, Nat.reduceLeDiff, Nat.reduceEqDiff, reduceIte]
    refine call_of_pure p1 rfl ?_
    simp only [RT, FS, ↓RE, okR, argEnv, Nat.reduceAdd, Nat.reduceSub, Nat.reduceLT, Nat.reduceLeDiff, Nat.reduceEqDiff, reduceIte, ex_tup, r1, r2, t1, t2, w1, w2, w3, w4, w5, w6, gI3_eq, hx]
    simp
  cases hy : rI (Y + dy) 0 (l.deep - 1)
  · simp only [RT, FS, ↓RE, okR, argEnv, Nat.reduceAdd, Nat.reduceSub, Nat.reduceLT, Nat.reduceLeDiff, Nat.reduceEqDiff, reduceIte]
    refine call_of_pure p1 rfl ?_
    simp only [RT, FS, ↓RE, okR, argEnv, Nat.reduceAdd, Nat.reduceSub, Nat.reduceLT, Nat.reduceLeDiff, Nat.reduceEqDiff, reduceIte, ex_tup, r1, r2, t1, t2, w1, w2, w3, w4, w5, w6, gI3_eq, hx, hy]
    simp
  have bx := rI_le hx
  have b_y := rI_le hy
  have m1 := Int.mul_nonneg b_y.1 (show 0 ≤ l.wide by omega)
  have m2 := Int.mul_le_mul (show Y + dy ≤ 12 by omega) hwd.2 (by omega) (by omega)
  have w7 := wrap_i64 (z := (Y + dy) * l.wide) (by omega) (by omega)
  have w8 := wrap_i64 (z := (Y + dy) * l.wide + (X + dx)) (by omega) (by omega)
  simp only [RT, FS, ↓RE, okR, argEnv, Nat.reduceAdd, Nat.reduceSub, Nat.reduceLT, Nat.reduceLeDiff, Nat.reduceEqDiff, reduceIte]
  refine call_of_pure p1 rfl ?_
  simp only [RT, FS, ↓RE, okR, argEnv, Nat.reduceAdd, Nat.reduceSub, Nat.reduceLT, Nat.reduceLeDiff, Nat.reduceEqDiff, reduceIte, ex_tup, r1, r2, t1, t2, w1, w2, w3, w4, w5, w6, w7, w8, gI3_eq, hx, hy]

/-! Small functions of the law -/
theorem asked_t (c : Craft) (hc : CraftL c) (l : LandM) (hl : LandL l) (a : AirW) (w : Int) (is : Bool) :
    Pure Try.prog 16 [.agg c.c, .agg l.c, .agg a.c, .int .i64 w, .bool is] (.int .i64 (startE c l a w is)) := by
  have o1 := gCr_eq hc
  have o2 := gLa_eq hl
  have o3 := gAi_eq a.e.lo a.e.hi a.n.lo a.n.hi
  have o3' : airB ⟨⟨a.e.lo, a.e.hi⟩, ⟨a.n.lo, a.n.hi⟩⟩ = airB a := rfl
  have oS := gSays_eq (l := c.ceil) hc.ceil w
  rw [o3'] at o3
  unfold startE
  simp only [Craft.c, LandM.c, grD, waD, AirW.c] at o1 o2 o3 ⊢
  refine pure_of_wc (rs := [.tmp 10]) (m := 49) [] e8_ok (by kernel_rfl) Try.func16 rfl (by kernel_rfl) rfl rfl (by kernel_rfl) ?_
  simp only [RT, FS, ↓RE, okR, argEnv, Nat.reduceAdd, Nat.reduceSub, Nat.reduceLT, Nat.reduceLeDiff, Nat.reduceEqDiff, reduceIte, o1, o2, o3, gInt1_eq, oS, ex_tup]
  cases craftB c
  · simp [BR]
  cases landB l
  · simp [BR]
  cases airB a
  · simp [BR]
  cases rI w 0 100000
  · simp [BR]
  cases is
  · simp [BR]
  cases (c.eng == 2) <;> cases sayO c.ceil w <;> simp [BR]
theorem high_t (n : Int) : Pure Try.prog 23 [.int .i64 n] (.bool (rI n 0 20000)) := by
  refine pure_of_wc (rs := [.tmp 2]) (m := 9) [] oNone_ok (by kernel_rfl) Try.func23 rfl (by kernel_rfl) rfl rfl (by kernel_rfl) ?_
  simp only [RT, FS, ↓RE, okR, argEnv, Nat.reduceAdd, Nat.reduceSub, Nat.reduceLT, Nat.reduceLeDiff, Nat.reduceEqDiff, reduceIte]
  unfold rI
  cases decide (0 ≤ n) <;> simp [BR]
def cellL (l : LandM) (n : Int) : Bool := decide (0 ≤ n) && decide (n < (l.ground.length : Int))
theorem lcell_t (l : LandM) (hl : LandL l) (n : Int) : Pure Try.prog 17 [.agg l.c, .int .i64 n] (.bool (cellL l n)) := by
  simp only [LandM.c, grD, waD]
  have lg := fun hp => En.len (P := Try.prog) Fz.und_25 (En.sl_map (E := enI) l.ground) hp
  refine pure_of_wc (rs := [.tmp 4]) (m := 14) [] oNone_ok (by kernel_rfl) Try.func17 rfl (by kernel_rfl) rfl rfl (by kernel_rfl) ?_
  simp only [RT, FS, ↓RE, okR, argEnv, Nat.reduceAdd, Nat.reduceSub, Nat.reduceLT, Nat.reduceLeDiff, Nat.reduceEqDiff, reduceIte, lg]
  unfold cellL
  cases decide (0 ≤ n) <;> simp [BR]
def tinyL (l : LandM) : Bool := decide (l.ground.length ≤ 200) && decide (l.water.length ≤ 200)
theorem tiny_t (l : LandM) (hl : LandL l) : Pure Try.prog 15 [.agg l.c] (.bool (tinyL l)) := by
  simp only [LandM.c, grD, waD]
  have lg := fun hp => En.len (P := Try.prog) Fz.und_25 (En.sl_map (E := enI) l.ground) hp
  have lw := fun hp => En.len (P := Try.prog) Fz.und_26 (En.sl_map (E := enB) l.water) hp
  have e1 : ((l.ground.length : Int) ≤ 200) = (l.ground.length ≤ 200) := by simp only [eq_iff_iff]; omega
  have e2 : ((l.water.length : Int) ≤ 200) = (l.water.length ≤ 200) := by simp only [eq_iff_iff]; omega
  refine pure_of_wc (rs := [.tmp 2]) (m := 13) [] oNone_ok (by kernel_rfl) Try.func15 rfl (by kernel_rfl) rfl rfl (by kernel_rfl) ?_
  simp only [RT, FS, ↓RE, okR, argEnv, Nat.reduceAdd, Nat.reduceSub, Nat.reduceLT, Nat.reduceLeDiff, Nat.reduceEqDiff, reduceIte, lg, lw, e1, e2]
  unfold tinyL
  cases decide (l.ground.length ≤ 200) <;> simp [BR]
end Go.Sx

namespace Go.Sx
open Go.Proofs
set_option maxRecDepth 10000

/-! The directions are the steps -/
def wayAt (l : LandM) (cell : Int) (j : Nat) : Option Stp := if nextI l cell ((j : Int) + 1) < 0 then none else some ⟨nextI l cell ((j : Int) + 1), dxW ((j : Int) + 1), dyW ((j : Int) + 1)⟩
def kOf (j : Nat) : Nat := [7, 8, 5, 2, 1, 0, 3, 6].getD j 4
theorem nextI_step (l : LandM) (hw : 1 ≤ l.wide) (cell dx dy : Int) :
    (if (if rI (cell % l.wide + dx) 0 (l.wide - 1) && rI (cell / l.wide + dy) 0 (l.deep - 1) then (cell / l.wide + dy) * l.wide + (cell % l.wide + dx) else -1) < 0 then none
      else some (Stp.mk (if rI (cell % l.wide + dx) 0 (l.wide - 1) && rI (cell / l.wide + dy) 0 (l.deep - 1) then (cell / l.wide + dy) * l.wide + (cell % l.wide + dx) else -1) dx dy)) =
    if !rI (cell % l.wide + dx) 0 (l.wide - 1) || !rI (cell / l.wide + dy) 0 (l.deep - 1) then none else some ⟨cell + dy * l.wide + dx, dx, dy⟩ := by
  have e := Int.emod_add_mul_ediv cell l.wide
  have key : cell + dy * l.wide + dx = (cell / l.wide + dy) * l.wide + (cell % l.wide + dx) := by
    rw [Int.add_mul, Int.mul_comm (cell / l.wide) l.wide]; omega
  rw [key]
  cases h1 : rI (cell % l.wide + dx) 0 (l.wide - 1)
  · simp
  cases h2 : rI (cell / l.wide + dy) 0 (l.deep - 1)
  · simp
  have b1 := rI_le h1
  have b2 := rI_le h2
  have := Int.mul_nonneg b2.1 (show 0 ≤ l.wide by omega)
  simp only [Bool.and_self, if_true, Bool.not_true, Bool.or_self, Bool.false_eq_true, if_false]
  rw [if_neg (by omega)]
theorem way_step (l : LandM) (hw : 1 ≤ l.wide) (cell : Int) {j : Nat} (hj : j < 8) : wayAt l cell j = stepAt l.wide l.deep cell (kOf j) := by
  have hd : j = 0 ∨ j = 1 ∨ j = 2 ∨ j = 3 ∨ j = 4 ∨ j = 5 ∨ j = 6 ∨ j = 7 := by omega
  have key := nextI_step l hw cell
  have e : ∀ dx dy : Int, (dx == 0 && dy == 0) = false → stepAt l.wide l.deep cell (((dy + 1) * 3 + (dx + 1)).toNat) = stepAt l.wide l.deep cell (((dy + 1) * 3 + (dx + 1)).toNat) := fun _ _ _ => rfl
  unfold wayAt nextI
  rw [key]
  rcases hd with rfl | rfl | rfl | rfl | rfl | rfl | rfl | rfl <;> rfl
theorem step_way (l : LandM) (hw : 1 ≤ l.wide) (cell : Int) {k : Nat} (hk : k < 9) {s : Stp} (h : stepAt l.wide l.deep cell k = some s) : ∃ j, j < 8 ∧ wayAt l cell j = some s := by
  have hd : k = 0 ∨ k = 1 ∨ k = 2 ∨ k = 3 ∨ k = 4 ∨ k = 5 ∨ k = 6 ∨ k = 7 ∨ k = 8 := by omega
  rcases hd with rfl | rfl | rfl | rfl | rfl | rfl | rfl | rfl | rfl
  · exact ⟨5, by omega, by rw [way_step l hw cell (by omega)]; exact h⟩
  · exact ⟨4, by omega, by rw [way_step l hw cell (by omega)]; exact h⟩
  · exact ⟨3, by omega, by rw [way_step l hw cell (by omega)]; exact h⟩
  · exact ⟨6, by omega, by rw [way_step l hw cell (by omega)]; exact h⟩
  · simp [stepAt] at h
  · exact ⟨2, by omega, by rw [way_step l hw cell (by omega)]; exact h⟩
  · exact ⟨7, by omega, by rw [way_step l hw cell (by omega)]; exact h⟩
  · exact ⟨0, by omega, by rw [way_step l hw cell (by omega)]; exact h⟩
  · exact ⟨1, by omega, by rw [way_step l hw cell (by omega)]; exact h⟩
def waysN (l : LandM) (cell : Int) (n : Nat) : List Stp := (List.range n).filterMap (wayAt l cell)
theorem waysN_succ (l : LandM) (cell : Int) (n : Nat) : waysN l cell (n + 1) = waysN l cell n ++ (wayAt l cell n).toList := by
  simp only [waysN, List.range_succ, List.filterMap_append]
  congr 1
theorem mem_ways {l : LandM} (hw : 1 ≤ l.wide) {cell : Int} {s : Stp} : s ∈ waysN l cell 8 ↔ s ∈ stepsL l.wide l.deep cell := by
  simp only [waysN, stepsL, stepsN, List.mem_filterMap, List.mem_range]
  constructor
  · rintro ⟨j, hj, h⟩
    refine ⟨kOf j, ?_, by rw [← way_step l hw cell hj]; exact h⟩
    have hd : j = 0 ∨ j = 1 ∨ j = 2 ∨ j = 3 ∨ j = 4 ∨ j = 5 ∨ j = 6 ∨ j = 7 := by omega
    rcases hd with rfl | rfl | rfl | rfl | rfl | rfl | rfl | rfl <;> decide
  · rintro ⟨k, hk, h⟩
    exact step_way l hw cell hk h
/-- The least of some numbers knows no order. -/
theorem foldMin_mem (f : Stp → Option Int) : ∀ (l : List Stp) (a : Int), foldMin f l a = a ∨ ∃ s ∈ l, f s = some (foldMin f l a)
  | [], a => .inl (by simp [foldMin])
  | s :: l, a => by
    have h := foldMin_mem f l (match f s with | some v => min a v | none => a)
    have e : foldMin f (s :: l) a = foldMin f l (match f s with | some v => min a v | none => a) := rfl
    rw [e]
    rcases h with h | ⟨t, ht, h⟩
    · cases hf : f s with
      | none => rw [hf] at h; exact .inl h
      | some v =>
        rw [hf] at h
        rcases Int.le_total a v with k | k
        · left; rw [h]; show min a v = a; omega
        · right; refine ⟨s, by simp, ?_⟩; rw [h, hf]; show some v = some (min a v); congr 1; omega
    · exact .inr ⟨t, by simp [ht], h⟩
theorem foldMin_leq (f : Stp → Option Int) : ∀ (l : List Stp) (a : Int) (s : Stp) (v : Int), s ∈ l → f s = some v → foldMin f l a ≤ v
  | s :: l, a, t, v, ht, hv => by
    have e : foldMin f (s :: l) a = foldMin f l (match f s with | some v => min a v | none => a) := rfl
    rw [e]
    rcases List.mem_cons.1 ht with rfl | ht
    · rw [hv]
      exact Int.le_trans (foldMin_le f l _) (Int.min_le_right _ _)
    · exact foldMin_leq f l _ t v ht hv
theorem foldMin_set {f : Stp → Option Int} {l r : List Stp} (h : ∀ s, s ∈ l ↔ s ∈ r) (a : Int) : foldMin f l a = foldMin f r a := by
  have key : ∀ {l r : List Stp}, (∀ s, s ∈ l → s ∈ r) → foldMin f r a ≤ foldMin f l a := fun {l r} h => by
    rcases foldMin_mem f l a with e | ⟨s, hs, e⟩
    · rw [e]; exact foldMin_le f r a
    · exact foldMin_leq f r a s _ (h s hs) e
  exact Int.le_antisymm (key fun s => (h s).2) (key fun s => (h s).1)
end Go.Sx

namespace Go.Sx
open Go.Proofs
set_option maxRecDepth 10000

/-! Oracles of maps and heights -/
theorem app_nils_int (l : List Int) (h : H) (nid : Nat) (hc : l.length ≤ 1000000) : appE Try.prog h nid 25 25 .nils (.sl (intL l)) = some (.osl nid l.length, (nid, .arr 3 1 (intL l)) :: h, nid + 1) := by
  rw [app_nils Fz.und_25 Fz.size_3 Fz.zero_3 rfl (by omega) Fz.bytes_3_25 h nid (x := .sl (intL l)) (xs := intL l) rfl (intL_ok l) (by rw [intL_len]; omega) (by rw [intL_len]; omega), intL_len]
noncomputable def gNext : List D → Option D := orcF (fun p : LandM × Int × Int => LandOk p.1 ∧ rI p.2.2 1 8 = true ∧ (0 ≤ p.2.1 ∧ p.2.1 < (p.1.ground.length : Int))) (fun p => [.agg p.1.c, .int .i64 p.2.1, .int .i64 p.2.2]) (fun p => .int .i64 (nextI p.1 p.2.1 p.2.2))
theorem gNext_eq {l : LandM} (hl : LandOk l) {cell w : Int} (hw : rI w 1 8 = true) (hc : 0 ≤ cell ∧ cell < (l.ground.length : Int)) : gNext [.agg l.c, .int .i64 cell, .int .i64 w] = some (.int .i64 (nextI l cell w)) :=
  orcF_eq (ok := fun p : LandM × Int × Int => LandOk p.1 ∧ rI p.2.2 1 8 = true ∧ (0 ≤ p.2.1 ∧ p.2.1 < (p.1.ground.length : Int))) (dsf := fun p => [.agg p.1.c, .int .i64 p.2.1, .int .i64 p.2.2]) (rf := fun p => .int .i64 (nextI p.1 p.2.1 p.2.2)) (l, cell, w) ⟨hl, hw, hc⟩ fun b hb => by
    simp only [List.cons.injEq, D.agg.injEq, D.int.injEq, true_and, and_true] at hb
    rw [LandM.c_inj hb.1, hb.2.1, hb.2.2]
noncomputable def gCAI (f : Craft → AirW → Int → Int → Int → Int) : List D → Option D :=
  orcF (fun p : Craft × AirW × Int × Int × Int => CraftOk p.1 ∧ AirOk p.2.1 ∧ rI p.2.2.2.1 1 8 = true ∧ htOk p.2.2.2.2) (fun p => [.agg p.1.c, .agg p.2.1.c, .int .i64 p.2.2.1, .int .i64 p.2.2.2.1, .int .i64 p.2.2.2.2]) (fun p => .int .i64 (f p.1 p.2.1 p.2.2.1 p.2.2.2.1 p.2.2.2.2))
theorem gCAI_eq (f : Craft → AirW → Int → Int → Int → Int) {c : Craft} (hc : CraftOk c) {a : AirW} (ha : AirOk a) (wt : Int) {w h : Int} (hw : rI w 1 8 = true) (hh : htOk h) : gCAI f [.agg c.c, .agg a.c, .int .i64 wt, .int .i64 w, .int .i64 h] = some (.int .i64 (f c a wt w h)) :=
  orcF_eq (ok := fun p : Craft × AirW × Int × Int × Int => CraftOk p.1 ∧ AirOk p.2.1 ∧ rI p.2.2.2.1 1 8 = true ∧ htOk p.2.2.2.2) (dsf := fun p => [.agg p.1.c, .agg p.2.1.c, .int .i64 p.2.2.1, .int .i64 p.2.2.2.1, .int .i64 p.2.2.2.2]) (rf := fun p => .int .i64 (f p.1 p.2.1 p.2.2.1 p.2.2.2.1 p.2.2.2.2)) (c, a, wt, w, h) ⟨hc, ha, hw, hh⟩ fun b hb => by
    simp only [List.cons.injEq, D.agg.injEq, D.int.injEq, true_and, and_true] at hb
    rw [Craft.c_inj hb.1, AirW.c_inj hb.2.1, hb.2.2.1, hb.2.2.2.1, hb.2.2.2.2]
def befI (c : Craft) (a : AirW) (wt w h : Int) : Int := needF c a (ceilI c wt) (stW w) h
def leftI (c : Craft) (a : AirW) (wt w h : Int) : Int := leftF c a (ceilI c wt) (stW w) h
noncomputable abbrev nA : List (FuncId × (List D → Option D)) :=
  (79, gNext) :: (122, gCAI befI) :: (26, gCAI leftI) :: e8
theorem nA_ok : OkO Try.prog (mkO nA) :=
  mkO_ok (orcF_ok fun p h => ref3_Next_t p.1 h.1 p.2.1 p.2.2 h.2.1 h.2.2) <| mkO_ok (orcF_ok fun p h => ref3_before_t p.1 h.1 p.2.1 h.2.1 p.2.2.1 p.2.2.2.1 p.2.2.2.2 h.2.2.1 h.2.2.2) <|
  mkO_ok (orcF_ok fun p h => ref3_Left_t p.1 h.1 p.2.1 h.2.1 p.2.2.1 p.2.2.2.1 p.2.2.2.2 h.2.2.1 h.2.2.2) <| e8_ok

/-! A round -/
theorem way_rI {j : Nat} (hj : j < 8) : rI ((j : Int) + 1) 1 8 = true := by simp [rI]; omega
theorem wayAt_in {l : LandM} (hl : LandOk l) {i : Nat} (hi : i < l.ground.length) {j : Nat} (hj : j < 8) (h : ¬nextI l i ((j : Int) + 1) < 0) : (nextI l i ((j : Int) + 1)).toNat < l.ground.length := by
  have hm : (⟨nextI l i ((j : Int) + 1), dxW ((j : Int) + 1), dyW ((j : Int) + 1)⟩ : Stp) ∈ waysN l i 8 := by
    simp only [waysN, List.mem_filterMap, List.mem_range]
    exact ⟨j, hj, by simp [wayAt, h]⟩
  exact (steps_in hl hi ((mem_ways hl.wide.1).1 hm)).1
def ch (x now : List Int) : Bool := decide (x ≠ now)
theorem ch_set {now A : List Int} {i : Nat} {M v : Int} (hl : A.length = now.length) (hA : A[i]? = some M) (hM : M ≤ nAt now i) (hv : v < M) : ch (A.set i v) now = true := by
  simp only [ch, decide_eq_true_eq]
  intro e
  have hi := lt_of_getElem? hA
  have : (A.set i v)[i]? = some v := List.getElem?_set_self hi
  rw [e] at this
  simp [nAt, this] at hM
  omega
section
variable (c : Craft) (hc : CraftOk c) (a : AirW) (ha : AirOk a) (l : LandM) (hl : LandOk l) (wt : Int) (now : List Int) (hno : NowOk l now)
include hc ha hl hno
set_option maxHeartbeats 2000000 in
theorem ref3_round_t : Pure Try.prog 89 [.agg c.c, .agg l.c, .agg a.c, .int .i64 wt, .sl (intL now)] (.tup [.sl (intL (stepN c a (ceilI c wt) l now)), .bool (ch (stepN c a (ceilI c wt) l now) now)]) := by
  have hsm := hl.small
  have oN := fun (i j : Nat) (hi : i < l.ground.length) (hj : j < 8) => gNext_eq hl (cell := (i : Int)) (way_rI hj) ⟨by omega, by omega⟩
  have oB := fun (j : Nat) (hj : j < 8) (h : Int) (hh : htOk h) => gCAI_eq befI hc ha wt (way_rI hj) hh
  have hcn : stepN c a (ceilI c wt) l now = (List.range l.ground.length).map (cellN c a (ceilI c wt) l now) := rfl
  have hwi := fun i hi j hj => wayAt_in hl (i := i) hi (j := j) hj
  have hdef : ∀ i j : Nat, wayAt l i j = if nextI l i ((j : Int) + 1) < 0 then none else some ⟨nextI l i ((j : Int) + 1), dxW ((j : Int) + 1), dyW ((j : Int) + 1)⟩ := fun i j => rfl
  have hvia : ∀ (i j : Nat), viaN c a (ceilI c wt) l now i ⟨nextI l i ((j : Int) + 1), dxW ((j : Int) + 1), dyW ((j : Int) + 1)⟩ =
    if nAt now (nextI l i ((j : Int) + 1)).toNat < 1000000 then some (max (bareI l i) (befI c a wt ((j : Int) + 1) (nAt now (nextI l i ((j : Int) + 1)).toNat))) else none := fun i j => rfl
  have hbb : ∀ (j : Nat), j < 8 → ∀ h, htOk h → h ≤ befI c a wt ((j : Int) + 1) h ∧ befI c a wt ((j : Int) + 1) h ≤ h + 60000 := fun j hj h _ => needF_b hc ha (dirW_ok (way_rI hj) 0) (ceilI c wt) h
  have hce := fun (i : Nat) (h : wAt l i = false) => show cellN c a (ceilI c wt) l now i = foldMin (viaN c a (ceilI c wt) l now i) (waysN l i 8) (nAt now i) by
    simp only [cellN, h, Bool.false_eq_true, if_false]
    exact foldMin_set (fun s => (mem_ways hl.wide.1).symm) _
  have hcw := fun (i : Nat) (h : wAt l i = true) => show cellN c a (ceilI c wt) l now i = nAt now i by simp [cellN, h]
  have hba := fun (i : Nat) (h : wAt l i = false) => show bareI l i = gAt l i + l.clear by simp [bareI, h]
  have hga := fun (i : Nat) hi => hl.g_at (i := i) hi
  have hwa := fun (i : Nat) hi => hl.w_at (i := i) hi
  have hclr := hl.clear
  have hnb := hno.b
  have hna := fun (i : Nat) hi => hno.at_ (i := i) hi
  have hlen := hno.len
  have mkA := fun h nid => app_nils_int now h nid (by omega)
  have hfm := fun (i j : Nat) => foldMin_le (viaN c a (ceilI c wt) l now i) (waysN l i j) (nAt now i)
  have hws' := fun (i j : Nat) => waysN_succ l i j
  generalize hCN : cellN c a (ceilI c wt) l now = CN at *
  generalize hVN : viaN c a (ceilI c wt) l now = VN at *
  generalize hBF : befI c a wt = BF at *
  rw [hlen] at mkA
  rw [hcn]
  clear hcn
  have hlc : l.c = [.int .i64 l.wide, .int .i64 l.deep, .sl (intL l.ground), .sl (boolL l.water), .int .i64 l.clear] := rfl
  generalize hn : l.ground.length = n at *
  simp only [Craft.c, AirW.c] at oB ⊢
  rw [hlc] at oN ⊢
  generalize hNX : nextI l = NX at *
  generalize hWN : (fun i : Nat => waysN l i) = WN at *
  generalize hWA : (fun i : Nat => wayAt l i) = WA at *
  refine pure_of_wc (rs := [.tmp 10, .tmp 11]) (m := 78) [(12, [(19, false, false, [])])] nA_ok (by kernel_rfl) Try.func89 rfl (by kernel_rfl) rfl rfl (by kernel_rfl) ?_
  simp only [RT, FS, ↓RE, okR, argEnv, Nat.reduceAdd, Nat.reduceSub, Nat.reduceLT, Nat.reduceLeDiff, Nat.reduceEqDiff, reduceIte, mkA]
  obtain ⟨AA, hAA⟩ : ∃ AA : Nat → List Int, ∀ i, AA i = (List.range n).map fun j => if j < i then CN j else nAt now j := ⟨_, fun _ => rfl⟩
  have a0 : AA 0 = now := by
    rw [hAA]
    apply List.ext_getElem?
    intro j
    by_cases hj : j < n
    · simp [hj, hna j hj]
    · rw [List.getElem?_eq_none (by simp; omega), List.getElem?_eq_none (by omega)]
  have an : AA n = (List.range n).map CN := by
    rw [hAA]
    apply List.map_congr_left
    intro j hj
    simp at hj; simp [hj]
  have al : ∀ i, (AA i).length = n := fun i => by rw [hAA]; simp
  have ai : ∀ i, i < n → (AA i)[i]? = some (nAt now i) := fun i hi => by rw [hAA]; simp [hi]
  have as' : ∀ i, i < n → (AA i).set i (CN i) = AA (i + 1) := fun i hi => by rw [hAA, hAA]; exact range_upto n CN (nAt now) hi
  have asame : ∀ i, i < n → (AA i).set i (nAt now i) = AA i := fun i hi => by
    apply List.ext_getElem?
    intro j
    rw [List.getElem?_set]
    by_cases hj : i = j
    · subst hj; rw [if_pos rfl, if_pos (by rw [al]; omega), ai i hi]
    · simp [hj]
  rw [← an]
  clear hAA an
  refine loopV (ι := Nat) nA_ok [(12, [(19, false, false, [])])] (fun i => [(3, .int .i64 wt), (4, .sl (intL now)), (5, .ptr 0 0), (6, .ptr 1 0), (7, .ptr 2 0), (12, .osl 3 n), (13, .bool (ch (AA i) now)), (14, .int .i64 (i : Int))])
    (fun i => [(3, .arr 3 1 (intL (AA i))), (2, .box a.c), (1, .box l.c), (0, .box c.c)]) 4 (fun i => i ≤ n) (fun i => n - i) 0 (by kernel_rfl) (by kernel_rfl) (Nat.zero_le _) ?_ ?_
  · simp [headW, heapW, envW, blkLt, D.ltL, D.lt, look, hget, a0, ch, hlc, Craft.c, AirW.c]
  have lc : ∀ m, D.ltL m c.c = true := fun m => by simp [Craft.c, D.ltL, D.lt]
  have la : ∀ m, D.ltL m a.c = true := fun m => by simp [AirW.c, D.ltL, D.lt]
  intro i hi
  have ol := fun h (hb : hget h 3 = some (.arr 3 1 (intL (AA i)))) => oI_len (n := n) hb (al i)
  rcases Nat.lt_or_ge i n with hlt | hge
  rotate_left
  · have hq : ((i : Int) < (n : Int)) = False := by simp; omega
    have : i = n := by omega
    subst this
    simp only [RT, FS, ↓RE, okR, argEnv, Nat.reduceAdd, Nat.reduceSub, Nat.reduceLT, Nat.reduceLeDiff, Nat.reduceEqDiff, reduceIte, ol, hq, decide_false]
    simp [viewA, intL_len, al]
  have hq : ((i : Int) < (n : Int)) = True := by simp [hlt]
  have wi := wrap_i64 (z := (i : Int) + 1) (by omega) (by omega)
  have hws := sB_ix (hwa i hlt)
  have hgs := sI_ix (hga i hlt).1
  cases hw : wAt l i
  rotate_left
  · rw [hw] at hws
    have e1 : AA (i + 1) = AA i := by rw [← as' i hlt, hcw i hw, asame i hlt]
    simp only [RT, FS, ↓RE, okR, argEnv, Nat.reduceAdd, Nat.reduceSub, Nat.reduceLT, Nat.reduceLeDiff, Nat.reduceEqDiff, reduceIte, ol, hq, decide_true, hlc, hws, wi]
    refine ⟨i + 1, by omega, by omega, ?_⟩
    rw [e1]
    simp [headW, heapW, envW, blkLt, D.ltL, D.lt, look, hget, hlc, lc, la]
  rw [hw] at hws
  simp only [RT, FS, ↓RE, okR, argEnv, Nat.reduceAdd, Nat.reduceSub, Nat.reduceLT, Nat.reduceLeDiff, Nat.reduceEqDiff, reduceIte, ol, hq, decide_true, hlc, hws]
  obtain ⟨MM, hMM⟩ : ∃ MM : Nat → Int, ∀ j, MM j = foldMin (VN i) (waysN l i j) (nAt now i) := ⟨_, fun _ => rfl⟩
  have m0 : MM 0 = nAt now i := by rw [hMM]; rfl
  have m8 : MM 8 = CN i := by rw [hMM, hce i hw]
  have mle : ∀ j, MM j ≤ nAt now i := fun j => by rw [hMM]; exact hfm i j
  have mno : ∀ j, wayAt l i j = none → MM (j + 1) = MM j := fun j h => by rw [hMM, hMM, hws' i j, h]; simp
  have mso : ∀ j s, wayAt l i j = some s → MM (j + 1) = match VN i s with | some v => min (MM j) v | none => MM j := fun j s h => by
    rw [hMM, hMM, hws' i j, h, Option.toList_some, foldMin_snoc]; cases VN i s <;> rfl
  clear hMM
  have bl : ∀ x, ((AA i).set i x).length = n := fun x => by rw [List.length_set, al]
  have bi : ∀ x, ((AA i).set i x)[i]? = some x := fun x => List.getElem?_set_self (by rw [al]; omega)
  refine loopV (ι := Nat) nA_ok [(12, [(19, false, false, [])])] (fun j => [(3, .int .i64 wt), (4, .sl (intL now)), (5, .ptr 0 0), (6, .ptr 1 0), (7, .ptr 2 0), (12, .osl 3 n), (13, .bool (ch ((AA i).set i (MM j)) now)), (14, .int .i64 (i : Int)), (15, .int .i64 ((j : Int) + 1))])
    (fun j => [(3, .arr 3 1 (intL ((AA i).set i (MM j)))), (2, .box a.c), (1, .box l.c), (0, .box c.c)]) 4 (fun j => j ≤ 8) (fun j => 8 - j) 0 (by kernel_rfl) (by kernel_rfl) (Nat.zero_le _) ?_ ?_
  · simp [headW, heapW, envW, blkLt, D.ltL, D.lt, look, hget, m0, asame i hlt, hlc, lc, la]
  intro j hj
  rcases Nat.lt_or_ge j 8 with hjl | hjg
  rotate_left
  · have hq8 : (((j : Nat) : Int) + 1 ≤ 8) = False := by simp; omega
    have : j = 8 := by omega
    subst this
    simp only [RT, FS, ↓RE, okR, argEnv, Nat.reduceAdd, Nat.reduceSub, Nat.reduceLT, Nat.reduceLeDiff, Nat.reduceEqDiff, reduceIte, hq8, decide_false, wi]
    refine ⟨i + 1, by omega, by omega, ?_⟩
    rw [m8, as' i hlt]
    simp [headW, heapW, envW, blkLt, D.ltL, D.lt, look, hget, hlc, lc, la]
  have hq8 : (((j : Nat) : Int) + 1 ≤ 8) = True := by simp; omega
  have wj : IntKind.i64.wrap ((j : Int) + 1 + 1) = ((j + 1 : Nat) : Int) + 1 := by rw [wrap_i64 (by omega) (by omega)]; omega
  have oN' := oN i j hlt hjl
  have hin := hwi i hlt j hjl
  have hdef' := hdef i j
  have hvia' := hvia i j
  generalize hX : NX (i : Int) ((j : Int) + 1) = X at *
  by_cases hx : X < 0
  · rw [if_pos hx] at hdef'
    simp only [RT, FS, ↓RE, okR, argEnv, Nat.reduceAdd, Nat.reduceSub, Nat.reduceLT, Nat.reduceLeDiff, Nat.reduceEqDiff, reduceIte, hq8, decide_true, hlc, Craft.c, AirW.c, oN', hx, wj]
    refine ⟨j + 1, by omega, by omega, ?_⟩
    rw [mno j hdef']
    simp [headW, heapW, envW, blkLt, D.ltL, D.lt, look, hget, hlc, lc, la, Craft.c, AirW.c]
  rw [if_neg hx] at hdef'
  have hin := hin hx
  have ms := mso j _ hdef'
  rw [hvia'] at ms
  obtain ⟨k, hk⟩ : ∃ k, k = X.toNat := ⟨_, rfl⟩
  have hkx : X = (k : Int) := by omega
  rw [← hk] at ms hin
  have ixn := sI_ix (hna k hin)
  by_cases hv : nAt now k < 1000000
  rotate_left
  · rw [if_neg hv] at ms
    have hv' : decide (nAt now k ≥ 1000000) = true := by simp; omega
    have hv' : decide (1000000 ≤ nAt now k) = true := by simp; omega
    have hx' : (X < 0) = False := by simp; omega
    subst hkx
    simp only [RT, FS, ↓RE, okR, argEnv, Nat.reduceAdd, Nat.reduceSub, Nat.reduceLT, Nat.reduceLeDiff, Nat.reduceEqDiff, reduceIte, hq8, decide_true, decide_false, hlc, Craft.c, AirW.c, oN', hx', wj, ixn, hv']
    refine ⟨j + 1, by omega, by omega, ?_⟩
    simp only [ms]
    simp [headW, heapW, envW, blkLt, D.ltL, D.lt, look, hget, hlc, lc, la, Craft.c, AirW.c]
  rw [if_pos hv] at ms
  dsimp only at ms
  have hv' : decide (1000000 ≤ nAt now k) = false := by simp; omega
  have hx' : (X < 0) = False := by simp; omega
  have hno' := hnb k hin
  have oB' := oB j hjl (nAt now k) (by unfold htOk; omega)
  have hbb' := hbb j hjl (nAt now k) (by unfold htOk; omega)
  rw [hba i hw] at ms
  have hgb := (hga i hlt).2
  have hmj := mle j
  generalize hG : gAt l i = G at *
  generalize hV : BF ((j : Int) + 1) (nAt now k) = V at *
  generalize hM : MM j = M at *
  have wg := wrap_i64 (z := G + l.clear) (by omega) (by omega)
  have x3 := fun h (hb : hget h 3 = some (.arr 3 1 (intL ((AA i).set i M)))) => oI_ix (n := n) hb (bl _) hlt
  have l3 := fun h (hb : hget h 3 = some (.arr 3 1 (intL ((AA i).set i M)))) => oI_load (n := n) hb (bl _) (bi M)
  have s3 := fun h nid y (hb : hget h 3 = some (.arr 3 1 (intL ((AA i).set i M)))) => oI_store (n := n) hb (bl _) (bi M) nid y
  subst hkx
  generalize hY : max (G + l.clear) V = Y at *
  by_cases hlt2 : Y < M
  · have hq2 : decide (Y < M) = true := by simpa using hlt2
    have hch := ch_set (now := now) (A := (AA i).set i M) (i := i) (M := M) (v := Y) (by rw [bl, hlen]) (bi M) hmj hlt2
    rw [List.set_set] at hch
    simp only [RT, FS, ↓RE, okR, argEnv, Nat.reduceAdd, Nat.reduceSub, Nat.reduceLT, Nat.reduceLeDiff, Nat.reduceEqDiff, reduceIte, hq8, decide_true, decide_false, hlc, Craft.c, AirW.c, oN', hx', wj, ixn, hv', oB', hgs, wg, hY, x3, l3, s3, hq2, List.set_set]
    refine ⟨j + 1, by omega, by omega, ?_⟩
    have e1 : MM (j + 1) = Y := ms.trans (Int.min_eq_right (Int.le_of_lt hlt2))
    simp only [e1, hch]
    simp [headW, heapW, envW, blkLt, D.ltL, D.lt, look, hget, Sx.hset, hlc, lc, la, Craft.c, AirW.c]
  · have hq2 : decide (Y < M) = false := by simpa using hlt2
    simp only [RT, FS, ↓RE, okR, argEnv, Nat.reduceAdd, Nat.reduceSub, Nat.reduceLT, Nat.reduceLeDiff, Nat.reduceEqDiff, reduceIte, hq8, decide_true, decide_false, hlc, Craft.c, AirW.c, oN', hx', wj, ixn, hv', oB', hgs, wg, hY, x3, l3, s3, hq2]
    refine ⟨j + 1, by omega, by omega, ?_⟩
    have e1 : MM (j + 1) = M := ms.trans (Int.min_eq_left (Int.not_lt.1 hlt2))
    simp only [e1]
    simp [headW, heapW, envW, blkLt, D.ltL, D.lt, look, hget, Sx.hset, hlc, lc, la, Craft.c, AirW.c]
end
end Go.Sx

namespace Go.Sx
open Go.Proofs
set_option maxRecDepth 10000

/-! What is needed, and what is left -/
/-! Rounds -/
section
variable {c : Craft} {a : AirW} {l : LandM} (hl : LandOk l) (ce : Int)
include hl
theorem stepN_le {now : List Int} (hno : NowOk l now) {i : Nat} (hi : i < l.ground.length) : nAt (stepN c a ce l now) i ≤ nAt now i := by
  have h1 := cellN_b (c := c) (a := a) hl ce hno hi
  have h2 : nAt (stepN c a ce l now) i = cellN c a ce l now i := by unfold stepN; exact map_at _ hi
  omega
theorem stepN_sum {now : List Int} (hno : NowOk l now) : sumN (stepN c a ce l now) ≤ sumN now ∧ (stepN c a ce l now ≠ now → sumN (stepN c a ce l now) < sumN now) := by
  have h1 := hno.len
  refine sumN_le (by simp [stepN, h1]) fun i hi => ?_
  have hi' : i < l.ground.length := by omega
  exact ⟨((stepN_ok (c := c) (a := a) hl ce hno).b i hi').1, stepN_le hl ce hno hi'⟩
end
section
variable {c : Craft} (hc : CraftOk c) {a : AirW} (ha : AirOk a) {l : LandM} (hl : LandOk l) (ce : Int)
include hc ha hl
/-! An escape, step by step -/
end

/-! The steps go by the numbers of the cells -/
theorem stepAt_cell {w d c : Int} (hw : 1 ≤ w) {j : Nat} {s : Stp} (h : stepAt w d c j = some s) : s.cell = c + (((j / 3 : Nat) : Int) - 1) * w + (((j % 3 : Nat) : Int) - 1) ∧ 0 ≤ c % w + (((j % 3 : Nat) : Int) - 1) ∧ c % w + (((j % 3 : Nat) : Int) - 1) ≤ w - 1 := by
  unfold stepAt at h
  split at h
  · cases h
  · rename_i hb
    cases h
    refine ⟨rfl, ?_⟩
    simp only [Bool.or_eq_true, not_or] at hb
    have := hb.2.1
    simp only [Bool.not_eq_true', Bool.not_eq_false] at this
    exact rI_le this
theorem steps_sorted {w d c : Int} (hw : 1 ≤ w) : (stepsL w d c).Pairwise fun s t => s.cell < t.cell := by
  unfold stepsL stepsN
  rw [List.pairwise_filterMap]
  refine List.Pairwise.imp (fun {i j} hij => ?_) List.pairwise_lt_range
  intro s hs t ht
  have h1 := stepAt_cell hw hs
  have h2 := stepAt_cell hw ht
  rw [h1.1, h2.1]
  have hd : i / 3 = j / 3 ∧ i % 3 < j % 3 ∨ i / 3 < j / 3 := by omega
  rcases hd with ⟨e, hl⟩ | hl
  · rw [e]; omega
  · have : (((i / 3 : Nat) : Int) - 1 + 1) * w ≤ (((j / 3 : Nat) : Int) - 1) * w := Int.mul_le_mul_of_nonneg_right (by omega) (by omega)
    rw [Int.add_mul] at this
    omega
theorem find_least {p : Stp → Bool} {l : List Stp} (hl : l.Pairwise fun s t => s.cell < t.cell) {s : Stp} (h : l.find? p = some s) {t : Stp} (ht : t ∈ l) (hp : p t = true) : t = s ∨ s.cell < t.cell := by
  rw [List.find?_eq_some_iff_append] at h
  obtain ⟨_, xs, bs, rfl, hn⟩ := h
  rw [List.pairwise_append, List.pairwise_cons] at hl
  rcases List.mem_append.1 ht with h | h
  · have := hn t h; simp [hp] at this
  · rcases List.mem_cons.1 h with rfl | h
    · exact .inl rfl
    · exact .inr (hl.2.1.1 t h)
end Go.Sx

namespace Go.Sx
open Go.Proofs
set_option maxRecDepth 10000

noncomputable def gRound : List D → Option D := orcF (fun p : Craft × LandM × AirW × Int × List Int => CraftOk p.1 ∧ LandOk p.2.1 ∧ AirOk p.2.2.1 ∧ NowOk p.2.1 p.2.2.2.2) (fun p => [.agg p.1.c, .agg p.2.1.c, .agg p.2.2.1.c, .int .i64 p.2.2.2.1, .sl (intL p.2.2.2.2)])
  (fun p => .tup [.sl (intL (stepN p.1 p.2.2.1 (ceilI p.1 p.2.2.2.1) p.2.1 p.2.2.2.2)), .bool (ch (stepN p.1 p.2.2.1 (ceilI p.1 p.2.2.2.1) p.2.1 p.2.2.2.2) p.2.2.2.2)])
theorem gRound_eq {c : Craft} (hc : CraftOk c) {l : LandM} (hl : LandOk l) {a : AirW} (ha : AirOk a) (wt : Int) {now : List Int} (hno : NowOk l now) :
    gRound [.agg c.c, .agg l.c, .agg a.c, .int .i64 wt, .sl (intL now)] = some (.tup [.sl (intL (stepN c a (ceilI c wt) l now)), .bool (ch (stepN c a (ceilI c wt) l now) now)]) :=
  orcF_eq (ok := fun p : Craft × LandM × AirW × Int × List Int => CraftOk p.1 ∧ LandOk p.2.1 ∧ AirOk p.2.2.1 ∧ NowOk p.2.1 p.2.2.2.2) (dsf := fun p => [.agg p.1.c, .agg p.2.1.c, .agg p.2.2.1.c, .int .i64 p.2.2.2.1, .sl (intL p.2.2.2.2)])
    (rf := fun p => .tup [.sl (intL (stepN p.1 p.2.2.1 (ceilI p.1 p.2.2.2.1) p.2.1 p.2.2.2.2)), .bool (ch (stepN p.1 p.2.2.1 (ceilI p.1 p.2.2.2.1) p.2.1 p.2.2.2.2) p.2.2.2.2)]) (c, l, a, wt, now) ⟨hc, hl, ha, hno⟩ fun b hb => by
    simp only [List.cons.injEq, D.agg.injEq, D.int.injEq, D.sl.injEq, true_and, and_true] at hb
    rw [Craft.c_inj hb.1, LandM.c_inj hb.2.1, AirW.c_inj hb.2.2.1, hb.2.2.2.1, intL_inj hb.2.2.2.2]
noncomputable abbrev nB : List (FuncId × (List D → Option D)) := (89, gRound) :: nA
theorem nB_ok : OkO Try.prog (mkO nB) := mkO_ok (orcF_ok fun p h => ref3_round_t p.1 h.1 p.2.2.1 h.2.2.1 p.2.1 h.2.1 p.2.2.2.1 p.2.2.2.2 h.2.2.2) <| nA_ok

theorem startN_at {l : LandM} {i : Nat} (hi : i < l.ground.length) : (startN l)[i]? = some (if wAt l i then gAt l i else 1000000) := by
  simp only [startN, List.getElem?_map, List.getElem?_range hi, Option.map_some]
  cases h : wAt l i <;> simp [bareI, h]
theorem startN_len (l : LandM) : (startN l).length = l.ground.length := by simp [startN]

/-! What cells need, of the specification -/
set_option maxHeartbeats 1000000 in
theorem ref3_Needs_t (c : Craft) (hc : CraftOk c) (l : LandM) (hl : LandOk l) (a : AirW) (ha : AirOk a) (wt : Int) :
    Pure Try.prog 36 [.agg c.c, .agg l.c, .agg a.c, .int .i64 wt] (.sl (intL (needsF c a (ceilI c wt) l))) := by
  have oR := fun (now : List Int) (hno : NowOk l now) => gRound_eq hc hl ha wt hno
  have hso := startN_ok hl
  have hs0 : sumN (startN l) < sumN (startN l) + 1 := by omega
  have hlast : (roundsF (stepN c a (ceilI c wt) l) (sumN (startN l) + 1) (startN l)).getLastD [] = needsF c a (ceilI c wt) l := rfl
  have hstp := fun now (hno : NowOk l now) => stepN_ok (c := c) (a := a) hl (ceilI c wt) hno
  have hsum := fun now (hno : NowOk l now) => stepN_sum (c := c) (a := a) hl (ceilI c wt) hno
  have hsl := startN_len l
  have hsm := hl.small
  have hsa := fun i (hi : i < l.ground.length) => startN_at hi
  have hga := fun i (hi : i < l.ground.length) => sI_ix (hl.g_at hi).1
  have hwa := fun i (hi : i < l.ground.length) => sB_ix (hl.w_at hi)
  generalize needsF c a (ceilI c wt) l = R at *
  generalize stepN c a (ceilI c wt) l = step at *
  generalize startN l = S at *
  have hlc : l.c = [.int .i64 l.wide, .int .i64 l.deep, .sl (intL l.ground), .sl (boolL l.water), .int .i64 l.clear] := rfl
  have lc : ∀ m, D.ltL m c.c = true := fun m => by simp [Craft.c, D.ltL, D.lt]
  have la : ∀ m, D.ltL m a.c = true := fun m => by simp [AirW.c, D.ltL, D.lt]
  simp only [Craft.c, AirW.c] at oR ⊢
  rw [hlc] at oR ⊢
  generalize hn : l.ground.length = n at *
  refine pure_of_pieces (rs := [.tmp 8]) (m := 46) [] nB_ok (by kernel_rfl) Try.func36 rfl (by kernel_rfl) rfl rfl (by kernel_rfl) ?_
  refine awp_peel (T := []) nB_ok (by kernel_rfl) (by kernel_rfl) ?_
  simp only [RT, FS, ↓RE, okR, argEnv, Nat.reduceAdd, Nat.reduceSub, Nat.reduceLT, Nat.reduceLeDiff, Nat.reduceEqDiff, reduceIte]
  refine awp_peel (T := []) nB_ok (by kernel_rfl) (by kernel_rfl) ?_
  simp only [RT, FS, ↓RE, okR, argEnv, Nat.reduceAdd, Nat.reduceSub, Nat.reduceLT, Nat.reduceLeDiff, Nat.reduceEqDiff, reduceIte]
  refine awp_cut nB_ok (by kernel_rfl) [(3, .int .i64 wt), (4, .ptr 0 0), (5, .ptr 1 0), (6, .ptr 2 0), (9, .osl 3 n)] [(3, .arr 3 1 (intL S)), (2, .box a.c), (1, .box l.c), (0, .box c.c)] 4 46 (T := []) (by kernel_rfl) ?_ ?_
  · simp only [RT, FS, ↓RE, okR, argEnv, Nat.reduceAdd, Nat.reduceSub, Nat.reduceLT, Nat.reduceLeDiff, Nat.reduceEqDiff, reduceIte]
    refine loopNil 9 3 1 rfl ?_
    refine loopV (ι := Nat) nB_ok [] (fun i => [(3, .int .i64 wt), (4, .ptr 0 0), (5, .ptr 1 0), (6, .ptr 2 0), (9, .osl 3 i), (10, .int .i64 (i : Int))])
      (fun i => [(3, .arr 3 1 (intL (S.take i))), (2, .box a.c), (1, .box l.c), (0, .box c.c)]) 4 (fun i => i ≤ n) (fun i => n - i) 0 (by kernel_rfl) (by kernel_rfl) (Nat.zero_le _) ?_ ?_
    · simp [headW, heapW, envW, blkLt, D.ltL, D.lt, look, hget, eset_nil, eset_cons, hlc, Craft.c, AirW.c, intL]
    intro i hi
    rcases Nat.lt_or_ge i n with hlt | hge
    rotate_left
    · have hq : ((i : Int) < (n : Int)) = False := by simp; omega
      have : i = n := by omega
      subst this
      simp only [RT, FS, ↓RE, okR, argEnv, Nat.reduceAdd, Nat.reduceSub, Nat.reduceLT, Nat.reduceLeDiff, Nat.reduceEqDiff, reduceIte, hlc, intL_len, hn, hq, decide_false]
      rw [← hsl, List.take_length]
      simp [headW, heapW, envW, blkLt, D.ltL, D.lt, look, hget, hlc, lc, la]
    have hq : ((i : Int) < (n : Int)) = True := by simp [hlt]
    have wi := wrap_i64 (z := (i : Int) + 1) (by omega) (by omega)
    have hg := hga i hlt
    have hw := hwa i hlt
    have hs := hsa i hlt
    have htl : (S.take i).length = i := by rw [List.length_take]; omega
    have htk : S.take (i + 1) = S.take i ++ [if wAt l i then gAt l i else 1000000] := by rw [List.take_add_one, hs]; rfl
    have a3 := fun h nid x (hb : hget h 3 = some (.arr 3 1 (intL (S.take i)))) (hb2 : hget h 4 = some (.arr 3 1 [[.int .i64 x]])) => oI_app (n := i) (n2 := 1) (r := [x]) hb htl hb2 rfl nid (by rw [htl]; simp; omega)
    cases hwt : wAt l i
    · rw [hwt] at hw htk
      have a3 := fun h nid => a3 h nid 1000000
      simp only [RT, FS, ↓RE, okR, argEnv, Nat.reduceAdd, Nat.reduceSub, Nat.reduceLT, Nat.reduceLeDiff, Nat.reduceEqDiff, reduceIte, hlc, intL_len, hn, hq, decide_true, hw, hg, lit_1, a3, wi]
      refine ⟨i + 1, by omega, by omega, ?_⟩
      rw [htk]
      simp [headW, heapW, envW, blkLt, D.ltL, D.lt, look, hget, Sx.hset, hlc, lc, la]
    · rw [hwt] at hw htk
      have a3 := fun h nid => a3 h nid (gAt l i)
      simp only [RT, FS, ↓RE, okR, argEnv, Nat.reduceAdd, Nat.reduceSub, Nat.reduceLT, Nat.reduceLeDiff, Nat.reduceEqDiff, reduceIte, hlc, intL_len, hn, hq, decide_true, hw, hg, lit_1, a3, wi]
      refine ⟨i + 1, by omega, by omega, ?_⟩
      rw [htk]
      simp [headW, heapW, envW, blkLt, D.ltL, D.lt, look, hget, Sx.hset, hlc, lc, la]
  refine awp_imp (imp_thaw 3 (.weak (weak_of (e := [(3, .int .i64 wt), (4, .ptr 0 0), (5, .ptr 1 0), (6, .ptr 2 0), (9, .sl (intL S))]) (h := [(2, .box a.c), (1, .box l.c), (0, .box c.c)]) (nid := 3) (n := 46) ?_))) ?_
  · simp [headW, heapW, envW, blkLt, D.ltL, D.lt, look, hget, frzHH, herase, frzBlk, frzD, intL_len, hsl, hlc, Craft.c, AirW.c]
  refine awp_rest (T := []) nB_ok (by kernel_rfl) (by kernel_rfl) ?_
  simp only [RT, FS, ↓RE, okR, argEnv, Nat.reduceAdd, Nat.reduceSub, Nat.reduceLT, Nat.reduceLeDiff, Nat.reduceEqDiff, reduceIte]
  refine loopV (ι := Nat × List Int × Bool) nB_ok [] (fun s => [(3, .int .i64 wt), (4, .ptr 0 0), (5, .ptr 1 0), (6, .ptr 2 0), (9, .sl (intL s.2.1)), (11, .bool s.2.2)])
    (fun s => [(2, .box a.c), (1, .box l.c), (0, .box c.c)]) 3 (fun s => (s.2.2 = true → NowOk l s.2.1 ∧ sumN s.2.1 < s.1 ∧ (roundsF step s.1 s.2.1).getLastD [] = R) ∧ (s.2.2 = false → s.2.1 = R)) (fun s => if s.2.2 then s.1 + 1 else 0) (sumN S + 1, S, true) (by kernel_rfl) (by kernel_rfl)
    ⟨fun _ => ⟨hso, hs0, hlast⟩, fun h => by cases h⟩ ?_ ?_
  · simp [headW, heapW, envW, blkLt, D.ltL, D.lt, look, hget, hlc, lc, la]
  rintro ⟨fu, now, chd⟩ ⟨h1, h2⟩
  dsimp only at h1 h2 ⊢
  cases chd
  · have := h2 rfl
    subst this
    simp only [RT, FS, ↓RE, okR, argEnv, Nat.reduceAdd, Nat.reduceSub, Nat.reduceLT, Nat.reduceLeDiff, Nat.reduceEqDiff, reduceIte]
  obtain ⟨h3, h4, h5⟩ := h1 rfl
  have oR' := oR now h3
  simp only [RT, FS, ↓RE, okR, argEnv, Nat.reduceAdd, Nat.reduceSub, Nat.reduceLT, Nat.reduceLeDiff, Nat.reduceEqDiff, reduceIte, hlc, Craft.c, AirW.c, oR', ex_tup]
  obtain ⟨fv, rfl⟩ : ∃ fv, fu = fv + 1 := ⟨fu - 1, by omega⟩
  by_cases he : step now = now
  · have hc0 : ch (step now) now = false := by simp [ch, he]
    have hr : roundsF step (fv + 1) now = [now] := by simp only [roundsF]; rw [if_pos he]
    rw [hr] at h5
    refine ⟨(0, step now, false), ⟨fun h => (nomatch h), fun _ => ?_⟩, by simp, ?_⟩
    · rw [he]; simpa using h5
    · simp [headW, heapW, envW, blkLt, D.ltL, D.lt, look, hget, hlc, lc, la, Craft.c, AirW.c, hc0]
  · have hc0 : ch (step now) now = true := by simp [ch, he]
    have hr : roundsF step (fv + 1) now = now :: roundsF step fv (step now) := by simp only [roundsF]; rw [if_neg he]
    rw [hr] at h5
    have hs := (hsum now h3).2 he
    have hne := roundsF_ne step fv (step now)
    refine ⟨(fv, step now, true), ⟨fun _ => ⟨hstp now h3, by simp only; omega, ?_⟩, fun h => (nomatch h)⟩, by simp, ?_⟩
    · dsimp only
      rw [← h5]
      rw [List.getLastD_eq_getLast?, List.getLastD_eq_getLast?, List.getLast?_cons_of_ne_nil hne]
    · simp [headW, heapW, envW, blkLt, D.ltL, D.lt, look, hget, hlc, lc, la, Craft.c, AirW.c, hc0]
end Go.Sx

namespace Go.Sx
open Go.Proofs
set_option maxRecDepth 10000

/-! The best step, of the specification -/
section
variable (c : Craft) (a : AirW) (ce : Int) (W : List (List Int)) (k : Nat) (h : Int)
end
end Go.Sx

namespace Go.Sx
open Go.Proofs
set_option maxRecDepth 10000

end Go.Sx

namespace Go.Sx
open Go.Proofs
set_option maxRecDepth 10000

/-! Oracles of flights over maps -/
section
variable {β : Type} (ok : Craft → LandM → AirW → β → Prop) (rest : β → List D) (q : Craft → LandM → AirW → β → D)
noncomputable def gCLA : List D → Option D := orcF (fun p : Craft × LandM × AirW × β => ok p.1 p.2.1 p.2.2.1 p.2.2.2) (fun p => .agg p.1.c :: .agg p.2.1.c :: .agg p.2.2.1.c :: rest p.2.2.2) (fun p => q p.1 p.2.1 p.2.2.1 p.2.2.2)
theorem gCLA_eq (hr : ∀ a b, rest a = rest b → a = b) {c : Craft} {l : LandM} {a : AirW} {b : β} (h : ok c l a b) : gCLA ok rest q (.agg c.c :: .agg l.c :: .agg a.c :: rest b) = some (q c l a b) :=
  orcF_eq (ok := fun p : Craft × LandM × AirW × β => ok p.1 p.2.1 p.2.2.1 p.2.2.2) (dsf := fun p => .agg p.1.c :: .agg p.2.1.c :: .agg p.2.2.1.c :: rest p.2.2.2) (rf := fun p => q p.1 p.2.1 p.2.2.1 p.2.2.2) (c, l, a, b) h fun x hx => by
    simp only [List.cons.injEq, D.agg.injEq] at hx
    rw [Craft.c_inj hx.1, LandM.c_inj hx.2.1, AirW.c_inj hx.2.2.1, hr _ _ hx.2.2.2]
theorem gCLA_ok {f : FuncId} (h : ∀ c l a b, ok c l a b → Pure Try.prog f (.agg c.c :: .agg l.c :: .agg a.c :: rest b) (q c l a b)) (ds : List D) (r : D) (hr : gCLA ok rest q ds = some r) : Pure Try.prog f ds r := orcF_ok (fun p hp => h p.1 p.2.1 p.2.2.1 p.2.2.2 hp) ds r hr
end
def rs1 (w : Int) : List D := [.int .i64 w]
def rs1b (p : Int × Bool) : List D := [.int .i64 p.1, .bool p.2]
def rs3 (p : Int × Int × Int) : List D := [.int .i64 p.1, .int .i64 p.2.1, .int .i64 p.2.2]
def rs4 (p : Int × Int × Int × Int) : List D := [.int .i64 p.1, .int .i64 p.2.1, .int .i64 p.2.2.1, .int .i64 p.2.2.2]
theorem rs1_inj (a b : Int) (h : rs1 a = rs1 b) : a = b := by simpa [rs1] using h
theorem rs1b_inj (a b : Int × Bool) (h : rs1b a = rs1b b) : a = b := by
  obtain ⟨a1, a2⟩ := a; obtain ⟨b1, b2⟩ := b; simp [rs1b] at h; simp [h]
theorem rs3_inj (a b : Int × Int × Int) (h : rs3 a = rs3 b) : a = b := by
  obtain ⟨a1, a2, a3⟩ := a; obtain ⟨b1, b2, b3⟩ := b; simp [rs3] at h; simp [h]
theorem rs4_inj (a b : Int × Int × Int × Int) (h : rs4 a = rs4 b) : a = b := by
  obtain ⟨a1, a2, a3, a4⟩ := a; obtain ⟨b1, b2, b3, b4⟩ := b; simp [rs4] at h; simp [h]
noncomputable def gL1 (q : LandM → D) : List D → Option D := orcF LandL (fun l => [.agg l.c]) q
theorem gL1_eq (q : LandM → D) {l : LandM} (h : LandL l) : gL1 q [.agg l.c] = some (q l) := orcF_eq (ok := LandL) (dsf := fun l : LandM => [.agg l.c]) l h fun b hb => by
  simp only [List.cons.injEq, D.agg.injEq, and_true] at hb
  rw [LandM.c_inj hb]
theorem gL1_ok {f : FuncId} {q : LandM → D} (h : ∀ l, LandL l → Pure Try.prog f [.agg l.c] (q l)) (ds : List D) (r : D) (hr : gL1 q ds = some r) : Pure Try.prog f ds r := orcF_ok h ds r hr
noncomputable def gL2 (q : LandM → Int → D) : List D → Option D := orcF (fun p : LandM × Int => LandL p.1) (fun p => [.agg p.1.c, .int .i64 p.2]) (fun p => q p.1 p.2)
theorem gL2_eq (q : LandM → Int → D) {l : LandM} (h : LandL l) (x : Int) : gL2 q [.agg l.c, .int .i64 x] = some (q l x) := orcF_eq (ok := fun p : LandM × Int => LandL p.1) (dsf := fun p => [.agg p.1.c, .int .i64 p.2]) (rf := fun p => q p.1 p.2) (l, x) h fun b hb => by
  simp only [List.cons.injEq, D.agg.injEq, D.int.injEq, true_and, and_true] at hb
  rw [LandM.c_inj hb.1, hb.2]
theorem gL2_ok {f : FuncId} {q : LandM → Int → D} (h : ∀ l x, LandL l → Pure Try.prog f [.agg l.c, .int .i64 x] (q l x)) (ds : List D) (r : D) (hr : gL2 q ds = some r) : Pure Try.prog f ds r := orcF_ok (fun p hp => h p.1 p.2 hp) ds r hr
def okL (c : Craft) (l : LandM) (_ : AirW) : Prop := CraftL c ∧ LandL l
def okO (c : Craft) (l : LandM) (a : AirW) : Prop := CraftOk c ∧ LandOk l ∧ AirOk a
def cellI (l : LandM) (x : Int) : Prop := 0 ≤ x ∧ x < (l.ground.length : Int)
noncomputable abbrev qNeeds := gCLA (β := Int) (fun c l a _ => okL c l a) rs1 (fun c l a w => NeedsR c l a w)
noncomputable abbrev qEsc := gCLA (β := Int × Int × Int) (fun c l a _ => okL c l a) rs3 (fun c l a p => EscD c l a p.1 p.2.1 p.2.2)
noncomputable abbrev qAsk := gCLA (β := Int × Bool) (fun c l a _ => okL c l a) rs1b (fun c l a p => .int .i64 (startE c l a p.1 p.2))
noncomputable abbrev qRNeeds := gCLA (β := Int) (fun c l a _ => okO c l a) rs1 (fun c l a w => .sl (intL (needsF c a (ceilI c w) l)))
noncomputable abbrev nC0 : List (FuncId × (List D → Option D)) :=
  (15, gL1 fun l => .bool (tinyL l)) :: (17, gL2 fun l x => .bool (cellL l x)) :: (23, qB fun h => rI h 0 20000) :: (34, gL1 fun l => .int .i64 (if landB l then 0 else 2)) ::
  (20, qNeeds) :: (21, qEsc) :: (16, qAsk) :: (36, qRNeeds) :: (35, gSame) :: nB
theorem nC0_ok : OkO Try.prog (mkO nC0) :=
  mkO_ok (gL1_ok tiny_t) <| mkO_ok (gL2_ok fun l x h => lcell_t l h x) <| mkO_ok (gInt1_ok high_t) <| mkO_ok (gL1_ok run_Map_t) <|
  mkO_ok (gCLA_ok _ _ _ fun c l a w h => run_Needs_t c h.1 l h.2 a w) <| mkO_ok (gCLA_ok _ _ _ fun c l a p h => run_Escape_t c h.1 l h.2 a p.1 p.2.1 p.2.2) <| mkO_ok (gCLA_ok _ _ _ fun c l a p h => asked_t c h.1 l h.2 a p.1 p.2) <|
  mkO_ok (gCLA_ok _ _ _ fun c l a w h => ref3_Needs_t c h.1 l h.2.1 a h.2.2 w) <|
  mkO_ok (orcF_ok fun p h => same_t p.1 p.2 h) <| nB_ok
theorem startE_land {c : Craft} {l : LandM} {a : AirW} {w : Int} {b : Bool} (h : landB l = false) : startE c l a w b = 2 := by simp [startE, h]
end Go.Sx
