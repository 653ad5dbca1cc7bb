/- Own work: contracts of functions, used in the proof of a law. -/
import Derived.Test.YthljonnokmkagaaSxE37r
set_option linter.unusedVariables false
set_option linter.unusedSimpArgs false
namespace Go.Sx
open Go.Proofs
set_option maxRecDepth 10000

theorem outI_s (A B : Int → Int) {x : Int} (l : List Int) {i : Nat} (h : i ≠ 0) : outI A B (x :: l) i = ⟨(((x :: l).take i).map A).foldl min (A x), (((x :: l).take i).map B).foldl max (B x)⟩ := by
  simp only [outI, if_neg h]
theorem outI_1 (A B : Int → Int) (x : Int) (l : List Int) : outI A B (x :: l) 1 = ⟨A x, B x⟩ := by
  simp [outI]
theorem outI_next (A B : Int → Int) {ws : List Int} {i : Nat} {y : Int} (h : ws[i]? = some y) (hi : i ≠ 0) : outI A B ws (i + 1) = ⟨min (outI A B ws i).lo (A y), max (outI A B ws i).hi (B y)⟩ := by
  cases ws with
  | nil => simp at h
  | cons x l =>
    rw [outI_s A B l (by omega), outI_s A B l hi, List.take_add_one, h]
    simp
set_option maxHeartbeats 1000000 in
theorem ref3_Bounds_t (c : Craft) (hc : CraftOk c) (k : Int) (w al wv : SpI) (hal : -600 ≤ al.lo ∧ al.lo ≤ 600 ∧ -600 ≤ al.hi ∧ al.hi ≤ 600) :
    Pure Try.prog 48 [.agg c.c, .int .i64 k, .agg w.c, .agg al.c, .agg wv.c] (.tup [.agg ((RBoundsO c k w al wv).getD ⟨0, 0⟩).c, .bool (RBoundsO c k w al wv).isSome]) := by
  have oT := gTabO_eq c k
  have oS := gSays_eq (l := tabOf c k) (by have := (hc.tab k).2.1; omega) w.hi
  have oW := gWavO_eq hc wv
  have oA := fun x => gC5_eq (ok := fun c al => CraftOk c ∧ -600 ≤ al ∧ al ≤ 600) (fun c k w al wv => .tup [.int .i64 ((rlenO c k w al wv).getD 0), .bool (rlenO c k w al wv).isSome]) k w.lo al.lo x ⟨hc, hal.1, hal.2.1⟩
  have oB := fun x => gC5_eq (ok := fun c al => CraftOk c ∧ -600 ≤ al ∧ al ≤ 600) (fun c k w al wv => .tup [.int .i64 ((rlenO c k w al wv).getD 0), .bool (rlenO c k w al wv).isSome]) k w.hi al.hi x ⟨hc, hal.2.2⟩
  cases hs : sayO (tabOf c k) w.hi with
  | none =>
    simp only [hs, Option.isSome_none, Option.getD_none] at oS
    have hR : RBoundsO c k w al wv = none := by simp [RBoundsO, hs]
    rw [hR]
    simp only [Craft.c, SpI.c] at oT oW oA oB ⊢
    refine pure_of_wc (rs := [.cell 10 30, .tmp 11]) (m := 86) [(1, [(11, false, false, [])]), (9, [(16, false, false, [])]), (10, [(16, false, false, [])])] e9_ok (by kernel_rfl) Try.func48 rfl (by kernel_rfl) rfl rfl (by kernel_rfl) ?_
    simp only [RT, FS, ↓RE, okR, argEnv, Nat.reduceAdd, Nat.reduceSub, Nat.reduceLT, Nat.reduceLeDiff, Nat.reduceEqDiff, reduceIte, oT, oS, ex_tup, build_span0]
    simp [SpI.c]
  | some m =>
    simp only [hs, Option.isSome_some, Option.getD_some] at oS
    have hR : RBoundsO c k w al wv = some (rbI (fun x => rlenD c k w.lo al.lo x) (fun x => rlenD c k w.hi al.hi x) (wavesR c wv)) := by simp [RBoundsO, hs]
    rw [hR]
    have hL : 2 ≤ (wavesR c wv).length ∧ (wavesR c wv).length ≤ 6 := by
      have := List.length_filter_le (fun x => rI x wv.lo wv.hi) (cornL c)
      simp only [wavesR, List.length_append, List.length_cons, List.length_nil] at *
      simp only [cornL, List.length_cons, List.length_nil] at this
      simp only [cornL]
      omega
    have hA : ∀ x, (rlenO c k w.lo al.lo x).getD 0 = rlenD c k w.lo al.lo x := fun x => rfl
    have hB : ∀ x, (rlenO c k w.hi al.hi x).getD 0 = rlenD c k w.hi al.hi x := fun x => rfl
    simp only [Craft.c, SpI.c] at oT oW oA oB ⊢
    generalize (wavesR c wv) = W at *
    have hmin : ∀ x y : Int, min x y = if y < x then y else x := fun x y => by omega
    have hmax : ∀ x y : Int, max x y = if x < y then y else x := fun x y => by omega
    refine pure_of_wc (rs := [.cell 10 30, .tmp 11]) (m := 86) [(1, [(11, false, false, [])]), (9, [(16, false, false, [])]), (10, [(16, false, false, [])])] e9_ok (by kernel_rfl) Try.func48 rfl (by kernel_rfl) rfl rfl (by kernel_rfl) ?_
    simp only [RT, FS, ↓RE, okR, argEnv, Nat.reduceAdd, Nat.reduceSub, Nat.reduceLT, Nat.reduceLeDiff, Nat.reduceEqDiff, reduceIte, oT, oS, oW, ex_tup]
    refine loopV (ι := Nat) e9_ok [(1, [(11, false, false, [])]), (9, [(16, false, false, [])]), (10, [(16, false, false, [])])] (fun i => [(1, .int .i64 k), (5, .ptr 0 0), (7, .ptr 1 0), (8, .ptr 2 0), (10, .ptr 4 0), (14, .ptr 5 0), (15, .sl (intL W)), (16, .int .i64 (i : Int))])
      (fun i => [(5, .box [.int .i64 (outI (fun x => rlenD c k w.lo al.lo x) (fun x => rlenD c k w.hi al.hi x) W i).lo, .int .i64 (outI (fun x => rlenD c k w.lo al.lo x) (fun x => rlenD c k w.hi al.hi x) W i).hi]), (4, .box [.int .i64 0, .int .i64 0]), (2, .box [.int .i64 al.lo, .int .i64 al.hi]), (1, .box [.int .i64 w.lo, .int .i64 w.hi]), (0, .box c.c)]) 6
      (fun i => i ≤ W.length) (fun i => W.length - i) 0 (by kernel_rfl) (by kernel_rfl) (Nat.zero_le _) ?_ ?_
    · have h0 : outI (fun x => rlenD c k w.lo al.lo x) (fun x => rlenD c k w.hi al.hi x) W 0 = ⟨0, 0⟩ := by cases W <;> simp [outI]
      rw [h0]
      simp [headW, heapW, envW, blkLt, D.ltL, D.lt, look, hget, hset, Craft.c]
    intro i hi
    rcases Nat.lt_or_ge i W.length with hlt | hge
    rotate_left
    · have hq : ((i : Int) < (W.length : Int)) = False := by simp; omega
      have : i = W.length := by omega
      subst this
      simp only [RT, FS, ↓RE, okR, argEnv, Nat.reduceAdd, Nat.reduceSub, Nat.reduceLT, Nat.reduceLeDiff, Nat.reduceEqDiff, reduceIte, intL_len, hq, decide_false]
      simp [rbI]
    have hq : ((i : Int) < (W.length : Int)) = True := by simp [hlt]
    obtain ⟨x, hx⟩ : ∃ x, W[i]? = some x := ⟨W[i], by simp [hlt]⟩
    have ix := sI_ix hx
    have wi := wrap_i64 (z := (i : Int) + 1) (by omega) (by omega)
    simp only [hA, hB] at oA oB
    by_cases h0 : i = 0
    · have q0 : ((i : Int) == 0) = true := by simp; omega
      simp only [RT, FS, ↓RE, okR, argEnv, Nat.reduceAdd, Nat.reduceSub, Nat.reduceLT, Nat.reduceLeDiff, Nat.reduceEqDiff, reduceIte, intL_len, hq, decide_true, ix, wi, oA, oB, ex_tup, q0, Craft.c]
      have e : outI (fun x => rlenD c k w.lo al.lo x) (fun x => rlenD c k w.hi al.hi x) W (i + 1) = ⟨rlenD c k w.lo al.lo x, rlenD c k w.hi al.hi x⟩ := by
        subst h0
        cases W with
        | nil => simp at hx
        | cons y l => simp at hx; subst hx; rw [outI_1]
      refine ⟨i + 1, by omega, by omega, ?_⟩
      rw [e]
      simp [headW, heapW, envW, blkLt, D.ltL, D.lt, look, hget, hset, Craft.c]
    · have q0 : ((i : Int) == 0) = false := by simp; omega
      simp only [RT, FS, ↓RE, okR, argEnv, Nat.reduceAdd, Nat.reduceSub, Nat.reduceLT, Nat.reduceLeDiff, Nat.reduceEqDiff, reduceIte, intL_len, hq, decide_true, ix, wi, oA, oB, ex_tup, q0, Craft.c]
      refine ⟨i + 1, by omega, by omega, ?_⟩
      rw [outI_next _ _ hx h0]
      simp [headW, heapW, envW, blkLt, D.ltL, D.lt, look, hget, hset, Craft.c]
end Go.Sx
