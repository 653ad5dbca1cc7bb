/- Own work: a calculus of contracts for the programs of this kit: parts SxW35v, SxW36v, SxW37v. -/
import Derived.Test.YtljkgnicmlhipaaGreatSxWhv
import Derived.Test.YtljkgnicmlhipaaGreatSxMi
set_option linter.unusedVariables false
set_option linter.unusedSimpArgs false
namespace Go.Sx
open Go.Proofs
set_option maxRecDepth 10000

def tidyS (m : MpB) (i : Nat) : MpB := if (gget m i).getD false then m else gdel m i
def tidyM (n : Nat) (m : MpB) : MpB := (List.range n).foldl tidyS m
theorem tidyM_succ (n : Nat) (m : MpB) : tidyM (n + 1) m = tidyS (tidyM n m) n := by
 simp only [tidyM, List.range_succ, List.foldl_append]; rfl
theorem set_und : Program.underlying Tryz.prog 70 = some (.map 3 4) := by kernel_rfl
set_option maxHeartbeats 1000000 in
theorem tidy_t {w : WatchW} (l : List MsgW) (hN : w.s.sh.length ≤ 144) (now t : Int) (fl dn : MpB) :
  ACall Tryz.prog 28 [.ptr 4 0] (plcH (folC w l now) t fl dn) 5 fun r h nid =>
   r = .tup [] ∧ h = plcH (folC w l now) t (tidyM w.s.sh.length fl) (tidyM w.s.sh.length dn) ∧ nid = 5 := by
 unfold plcH
 unfold folC
 obtain ⟨⟨sw, sd, sh⟩, ⟨rl, lk⟩, cell, mi, ev, en, af⟩ := w
 dsimp only at hN
 simp only [WatchW.c, SkyW.c, NetW.c, List.cons_append, List.nil_append] at *
 generalize knownL l now = kn at *
 obtain ⟨A, hA⟩ : ∃ A : Nat → MpB, A = fun i => tidyM i fl := ⟨_, rfl⟩
 obtain ⟨B, hB⟩ : ∃ B : Nat → MpB, B = fun i => tidyM i dn := ⟨_, rfl⟩
 have hA0 : A 0 = fl := by rw [hA]; rfl
 have hB0 : B 0 = dn := by rw [hB]; rfl
 have hAS : ∀ i, A (i + 1) = tidyS (A i) i := fun i => by rw [hA]; exact tidyM_succ _ _
 have hBS : ∀ i, B (i + 1) = tidyS (B i) i := fun i => by rw [hB]; exact tidyM_succ _ _
 rw [show tidyM sh.length fl = A sh.length by rw [hA], show tidyM sh.length dn = B sh.length by rw [hB]]
 obtain ⟨A1, hA1⟩ : ∃ A1 : Nat → MpB, A1 = fun q => if q = 0 then fl else A sh.length := ⟨_, rfl⟩
 obtain ⟨B1, hB1⟩ : ∃ B1 : Nat → MpB, B1 = fun q => if q < 2 then dn else B sh.length := ⟨_, rfl⟩
 have hz0 : decide ((0 : Int) < 2) = true := by decide
 have hz1 : decide ((1 : Int) < 2) = true := by decide
 have hv1 : IntKind.i64.wrap 1 = 1 := by decide
 have hv2 : IntKind.i64.wrap 2 = 2 := by decide
 have hz2 : decide ((2 : Int) < 2) = false := by decide
 refine acall_of_pieces (rs := []) (m := 38) [(0, [(10, false, false, [])])] oNone_ok (by kernel_rfl) Tryz.func28 rfl (by kernel_rfl) rfl rfl (by kernel_rfl) ?_
 refine awp_peel (T := [(0, [(10, false, false, [])])]) oNone_ok (by kernel_rfl) (by kernel_rfl) ?_
 simp only [RT, FS, ↓RE, okR, argEnv, Nat.reduceAdd, Nat.reduceSub, Nat.reduceLT, Nat.reduceLeDiff, Nat.reduceEqDiff, reduceIte, RM, List.length_map]
 refine awp_block (awp_loopH (ι := Nat) (fun q => [(0, .ptr 4 0), (13, .agg [.mp 2, .mp 3]), (14, .int .i64 (q : Int))])
  (fun q => [(3, .map (bkv (B1 q))), (2, .map (bkv (A1 q))), (4, .box [.ref [.int .i64 sw, .int .i64 sd, shD sh, rlD rl, lkD lk, .int .i64 cell, .int .i64 mi, .int .i64 ev, .int .i64 en, inD af, msD kn, .int .i64 now] 0, .int .i64 t, .mp 2, .mp 3])]) 5 (fun q => q ≤ 2) (fun q => 2 - q) 0 (by omega) ?_ ?_)
 ·simp only [hA1, hB1]
  simp [headW, heapW, envW, blkLt, D.ltL, D.lt, look, hget, bkv_lt]
 intro q hq
 obtain rfl | rfl | rfl : q = 0 ∨ q = 1 ∨ q = 2 := by omega
 ·-- round 0
  simp only [show ((0 : Nat) : Int) = 0 from rfl]
  refine awp_peel (T := [(0, [(10, false, false, [])])]) oNone_ok (by kernel_rfl) (by kernel_rfl) ?_
  simp only [RT, FS, ↓RE, okR, argEnv, Nat.reduceAdd, Nat.reduceSub, Nat.reduceLT, Nat.reduceLeDiff, Nat.reduceEqDiff, reduceIte, RM, List.length_map, hA1, hB1, hz0]
  refine awp_peel (T := [(0, [(10, false, false, [])])]) oNone_ok (by kernel_rfl) (by kernel_rfl) ?_
  simp only [RT, FS, ↓RE, okR, argEnv, Nat.reduceAdd, Nat.reduceSub, Nat.reduceLT, Nat.reduceLeDiff, Nat.reduceEqDiff, reduceIte, RM, List.length_map]
  refine awp_seq (awp_block ?_)
  refine awp_peel (T := [(0, [(10, false, false, [])])]) oNone_ok (by kernel_rfl) (by kernel_rfl) ?_
  simp only [RT, FS, ↓RE, okR, argEnv, Nat.reduceAdd, Nat.reduceSub, Nat.reduceLT, Nat.reduceLeDiff, Nat.reduceEqDiff, reduceIte, RM, List.length_map]
  refine awp_peel (T := [(0, [(10, false, false, [])])]) oNone_ok (by kernel_rfl) (by kernel_rfl) ?_
  simp only [RT, FS, ↓RE, okR, argEnv, Nat.reduceAdd, Nat.reduceSub, Nat.reduceLT, Nat.reduceLeDiff, Nat.reduceEqDiff, reduceIte, RM, List.length_map]
  refine awp_block (awp_loopH (ι := Nat) (fun i => [(0, .ptr 4 0), (13, .agg [.mp 2, .mp 3]), (14, .int .i64 0), (3, .mp 2), (26, .int .i64 (sh.length : Int)), (27, .int .i64 (i : Int))])
   (fun i => [(3, .map (bkv (dn))), (2, .map (bkv (A i))), (4, .box [.ref [.int .i64 sw, .int .i64 sd, shD sh, rlD rl, lkD lk, .int .i64 cell, .int .i64 mi, .int .i64 ev, .int .i64 en, inD af, msD kn, .int .i64 now] 0, .int .i64 t, .mp 2, .mp 3])]) 5 (fun i => i ≤ sh.length) (fun i => sh.length - i) 0 (Nat.zero_le _) ?_ ?_)
  ·simp only [hA0]
   simp [headW, heapW, envW, blkLt, D.ltL, D.lt, look, hget, bkv_lt]
  intro i hil
  rcases Nat.lt_or_ge i sh.length with hlt | hge
  ·have hc := nat_lt_true hlt
   have hw1 := wrap_i64 (z := (i : Int) + 1) (by omega) (by omega)
   have g1 := fun h (hb : hget h 2 = some (.map (bkv (A i)))) => bm_get hb (i : Int)
   have a1 := hAS i
   refine awp_peel (T := [(0, [(10, false, false, [])])]) oNone_ok (by kernel_rfl) (by kernel_rfl) ?_
   simp only [RT, FS, ↓RE, okR, argEnv, Nat.reduceAdd, Nat.reduceSub, Nat.reduceLT, Nat.reduceLeDiff, Nat.reduceEqDiff, reduceIte, RM, List.length_map, hc, decide_true]
   refine awp_peel (T := [(0, [(10, false, false, [])])]) oNone_ok (by kernel_rfl) (by kernel_rfl) ?_
   simp only [RT, FS, ↓RE, okR, argEnv, Nat.reduceAdd, Nat.reduceSub, Nat.reduceLT, Nat.reduceLeDiff, Nat.reduceEqDiff, reduceIte, RM, List.length_map]
   refine awp_seq (awp_block ?_)
   refine awp_peel (T := [(0, [(10, false, false, [])])]) oNone_ok (by kernel_rfl) (by kernel_rfl) ?_
   simp only [RT, FS, ↓RE, okR, argEnv, Nat.reduceAdd, Nat.reduceSub, Nat.reduceLT, Nat.reduceLeDiff, Nat.reduceEqDiff, reduceIte, RM, List.length_map]
   refine awp_peel (T := [(0, [(10, false, false, [])])]) oNone_ok (by kernel_rfl) (by kernel_rfl) ?_
   cases hx : (gget (A i) (i : Int)).getD false
   ·rw [hx] at g1
    simp only [RT, FS, ↓RE, okR, argEnv, Nat.reduceAdd, Nat.reduceSub, Nat.reduceLT, Nat.reduceLeDiff, Nat.reduceEqDiff, reduceIte, RM, List.length_map, g1, Bool.not_false]
    refine awp_cond (t := true) rfl (fun _ => ?_) (fun h => by cases h)
    refine awp_region (aops_cut (m := 2) oNone_ok rfl rfl ?_)
    simp only [RT, FS, ↓RE, okR, argEnv, Nat.reduceAdd, Nat.reduceSub, Nat.reduceLT, Nat.reduceLeDiff, Nat.reduceEqDiff, reduceIte, RM, List.length_map, List.take_succ_cons, List.take_zero, List.drop_succ_cons, List.drop_zero]
    refine opOk_delete (b := 2) (m := A i) (a := (i : Int)) rfl set_und w_und_i rfl rfl rfl ?_
    simp only [RT, FS, ↓RE, okR, argEnv, Nat.reduceAdd, Nat.reduceSub, Nat.reduceLT, Nat.reduceLeDiff, Nat.reduceEqDiff, reduceIte, RM, List.length_map]
    refine awp_rest (T := [(0, [(10, false, false, [])])]) oNone_ok (by kernel_rfl) (by kernel_rfl) ?_
    simp only [RT, FS, ↓RE, okR, argEnv, Nat.reduceAdd, Nat.reduceSub, Nat.reduceLT, Nat.reduceLeDiff, Nat.reduceEqDiff, reduceIte, RM, List.length_map, hw1]
    exact ⟨i + 1, by omega, by omega, by rw [a1, tidyS, hx]; simp [headW, heapW, envW, blkLt, D.ltL, D.lt, look, hget, bkv_lt]⟩
   ·rw [hx] at g1
    simp only [RT, FS, ↓RE, okR, argEnv, Nat.reduceAdd, Nat.reduceSub, Nat.reduceLT, Nat.reduceLeDiff, Nat.reduceEqDiff, reduceIte, RM, List.length_map, g1, Bool.not_true]
    refine awp_rest (T := [(0, [(10, false, false, [])])]) oNone_ok (by kernel_rfl) (by kernel_rfl) ?_
    simp only [RT, FS, ↓RE, okR, argEnv, Nat.reduceAdd, Nat.reduceSub, Nat.reduceLT, Nat.reduceLeDiff, Nat.reduceEqDiff, reduceIte, RM, List.length_map]
    refine awp_rest (T := [(0, [(10, false, false, [])])]) oNone_ok (by kernel_rfl) (by kernel_rfl) ?_
    simp only [RT, FS, ↓RE, okR, argEnv, Nat.reduceAdd, Nat.reduceSub, Nat.reduceLT, Nat.reduceLeDiff, Nat.reduceEqDiff, reduceIte, RM, List.length_map, hw1]
    exact ⟨i + 1, by omega, by omega, by rw [a1, tidyS, hx]; simp [headW, heapW, envW, blkLt, D.ltL, D.lt, look, hget, bkv_lt]⟩
  ·have hc := nat_lt_false hge
   have : i = sh.length := by omega
   subst this
   refine awp_rest (T := [(0, [(10, false, false, [])])]) oNone_ok (by kernel_rfl) (by kernel_rfl) ?_
   simp only [RT, FS, ↓RE, okR, argEnv, Nat.reduceAdd, Nat.reduceSub, Nat.reduceLT, Nat.reduceLeDiff, Nat.reduceEqDiff, reduceIte, RM, List.length_map, hc, decide_false]
   refine awp_rest (T := [(0, [(10, false, false, [])])]) oNone_ok (by kernel_rfl) (by kernel_rfl) ?_
   simp only [RT, FS, ↓RE, okR, argEnv, Nat.reduceAdd, Nat.reduceSub, Nat.reduceLT, Nat.reduceLeDiff, Nat.reduceEqDiff, reduceIte, RM, List.length_map]
   exact ⟨1, by omega, by omega, by simp [headW, heapW, envW, blkLt, D.ltL, D.lt, look, hget, bkv_lt, hv1]⟩
 ·-- round 1
  simp only [show ((1 : Nat) : Int) = 1 from rfl]
  refine awp_peel (T := [(0, [(10, false, false, [])])]) oNone_ok (by kernel_rfl) (by kernel_rfl) ?_
  simp only [RT, FS, ↓RE, okR, argEnv, Nat.reduceAdd, Nat.reduceSub, Nat.reduceLT, Nat.reduceLeDiff, Nat.reduceEqDiff, reduceIte, RM, List.length_map, hA1, hB1, hz1]
  refine awp_peel (T := [(0, [(10, false, false, [])])]) oNone_ok (by kernel_rfl) (by kernel_rfl) ?_
  simp only [RT, FS, ↓RE, okR, argEnv, Nat.reduceAdd, Nat.reduceSub, Nat.reduceLT, Nat.reduceLeDiff, Nat.reduceEqDiff, reduceIte, RM, List.length_map]
  refine awp_seq (awp_block ?_)
  refine awp_peel (T := [(0, [(10, false, false, [])])]) oNone_ok (by kernel_rfl) (by kernel_rfl) ?_
  simp only [RT, FS, ↓RE, okR, argEnv, Nat.reduceAdd, Nat.reduceSub, Nat.reduceLT, Nat.reduceLeDiff, Nat.reduceEqDiff, reduceIte, RM, List.length_map]
  refine awp_peel (T := [(0, [(10, false, false, [])])]) oNone_ok (by kernel_rfl) (by kernel_rfl) ?_
  simp only [RT, FS, ↓RE, okR, argEnv, Nat.reduceAdd, Nat.reduceSub, Nat.reduceLT, Nat.reduceLeDiff, Nat.reduceEqDiff, reduceIte, RM, List.length_map]
  refine awp_block (awp_loopH (ι := Nat) (fun i => [(0, .ptr 4 0), (13, .agg [.mp 2, .mp 3]), (14, .int .i64 1), (3, .mp 3), (26, .int .i64 (sh.length : Int)), (27, .int .i64 (i : Int))])
   (fun i => [(3, .map (bkv (B i))), (2, .map (bkv (A sh.length))), (4, .box [.ref [.int .i64 sw, .int .i64 sd, shD sh, rlD rl, lkD lk, .int .i64 cell, .int .i64 mi, .int .i64 ev, .int .i64 en, inD af, msD kn, .int .i64 now] 0, .int .i64 t, .mp 2, .mp 3])]) 5 (fun i => i ≤ sh.length) (fun i => sh.length - i) 0 (Nat.zero_le _) ?_ ?_)
  ·simp only [hB0]
   simp [headW, heapW, envW, blkLt, D.ltL, D.lt, look, hget, bkv_lt]
  intro i hil
  rcases Nat.lt_or_ge i sh.length with hlt | hge
  ·have hc := nat_lt_true hlt
   have hw1 := wrap_i64 (z := (i : Int) + 1) (by omega) (by omega)
   have g1 := fun h (hb : hget h 3 = some (.map (bkv (B i)))) => bm_get hb (i : Int)
   have a1 := hBS i
   refine awp_peel (T := [(0, [(10, false, false, [])])]) oNone_ok (by kernel_rfl) (by kernel_rfl) ?_
   simp only [RT, FS, ↓RE, okR, argEnv, Nat.reduceAdd, Nat.reduceSub, Nat.reduceLT, Nat.reduceLeDiff, Nat.reduceEqDiff, reduceIte, RM, List.length_map, hc, decide_true]
   refine awp_peel (T := [(0, [(10, false, false, [])])]) oNone_ok (by kernel_rfl) (by kernel_rfl) ?_
   simp only [RT, FS, ↓RE, okR, argEnv, Nat.reduceAdd, Nat.reduceSub, Nat.reduceLT, Nat.reduceLeDiff, Nat.reduceEqDiff, reduceIte, RM, List.length_map]
   refine awp_seq (awp_block ?_)
   refine awp_peel (T := [(0, [(10, false, false, [])])]) oNone_ok (by kernel_rfl) (by kernel_rfl) ?_
   simp only [RT, FS, ↓RE, okR, argEnv, Nat.reduceAdd, Nat.reduceSub, Nat.reduceLT, Nat.reduceLeDiff, Nat.reduceEqDiff, reduceIte, RM, List.length_map]
   refine awp_peel (T := [(0, [(10, false, false, [])])]) oNone_ok (by kernel_rfl) (by kernel_rfl) ?_
   cases hx : (gget (B i) (i : Int)).getD false
   ·rw [hx] at g1
    simp only [RT, FS, ↓RE, okR, argEnv, Nat.reduceAdd, Nat.reduceSub, Nat.reduceLT, Nat.reduceLeDiff, Nat.reduceEqDiff, reduceIte, RM, List.length_map, g1, Bool.not_false]
    refine awp_cond (t := true) rfl (fun _ => ?_) (fun h => by cases h)
    refine awp_region (aops_cut (m := 2) oNone_ok rfl rfl ?_)
    simp only [RT, FS, ↓RE, okR, argEnv, Nat.reduceAdd, Nat.reduceSub, Nat.reduceLT, Nat.reduceLeDiff, Nat.reduceEqDiff, reduceIte, RM, List.length_map, List.take_succ_cons, List.take_zero, List.drop_succ_cons, List.drop_zero]
    refine opOk_delete (b := 3) (m := B i) (a := (i : Int)) rfl set_und w_und_i rfl rfl rfl ?_
    simp only [RT, FS, ↓RE, okR, argEnv, Nat.reduceAdd, Nat.reduceSub, Nat.reduceLT, Nat.reduceLeDiff, Nat.reduceEqDiff, reduceIte, RM, List.length_map]
    refine awp_rest (T := [(0, [(10, false, false, [])])]) oNone_ok (by kernel_rfl) (by kernel_rfl) ?_
    simp only [RT, FS, ↓RE, okR, argEnv, Nat.reduceAdd, Nat.reduceSub, Nat.reduceLT, Nat.reduceLeDiff, Nat.reduceEqDiff, reduceIte, RM, List.length_map, hw1]
    exact ⟨i + 1, by omega, by omega, by rw [a1, tidyS, hx]; simp [headW, heapW, envW, blkLt, D.ltL, D.lt, look, hget, bkv_lt]⟩
   ·rw [hx] at g1
    simp only [RT, FS, ↓RE, okR, argEnv, Nat.reduceAdd, Nat.reduceSub, Nat.reduceLT, Nat.reduceLeDiff, Nat.reduceEqDiff, reduceIte, RM, List.length_map, g1, Bool.not_true]
    refine awp_rest (T := [(0, [(10, false, false, [])])]) oNone_ok (by kernel_rfl) (by kernel_rfl) ?_
    simp only [RT, FS, ↓RE, okR, argEnv, Nat.reduceAdd, Nat.reduceSub, Nat.reduceLT, Nat.reduceLeDiff, Nat.reduceEqDiff, reduceIte, RM, List.length_map]
    refine awp_rest (T := [(0, [(10, false, false, [])])]) oNone_ok (by kernel_rfl) (by kernel_rfl) ?_
    simp only [RT, FS, ↓RE, okR, argEnv, Nat.reduceAdd, Nat.reduceSub, Nat.reduceLT, Nat.reduceLeDiff, Nat.reduceEqDiff, reduceIte, RM, List.length_map, hw1]
    exact ⟨i + 1, by omega, by omega, by rw [a1, tidyS, hx]; simp [headW, heapW, envW, blkLt, D.ltL, D.lt, look, hget, bkv_lt]⟩
  ·have hc := nat_lt_false hge
   have : i = sh.length := by omega
   subst this
   refine awp_rest (T := [(0, [(10, false, false, [])])]) oNone_ok (by kernel_rfl) (by kernel_rfl) ?_
   simp only [RT, FS, ↓RE, okR, argEnv, Nat.reduceAdd, Nat.reduceSub, Nat.reduceLT, Nat.reduceLeDiff, Nat.reduceEqDiff, reduceIte, RM, List.length_map, hc, decide_false]
   refine awp_rest (T := [(0, [(10, false, false, [])])]) oNone_ok (by kernel_rfl) (by kernel_rfl) ?_
   simp only [RT, FS, ↓RE, okR, argEnv, Nat.reduceAdd, Nat.reduceSub, Nat.reduceLT, Nat.reduceLeDiff, Nat.reduceEqDiff, reduceIte, RM, List.length_map]
   exact ⟨2, by omega, by omega, by simp [headW, heapW, envW, blkLt, D.ltL, D.lt, look, hget, bkv_lt, hv2]⟩
 ·simp only [show ((2 : Nat) : Int) = 2 from rfl]
  refine awp_rest (T := [(0, [(10, false, false, [])])]) oNone_ok (by kernel_rfl) (by kernel_rfl) ?_
  simp only [RT, FS, ↓RE, okR, argEnv, Nat.reduceAdd, Nat.reduceSub, Nat.reduceLT, Nat.reduceLeDiff, Nat.reduceEqDiff, reduceIte, RM, List.length_map, hz2]
  simp only [hA1, hB1]
  simp [tupD]
end Go.Sx

namespace Go.Sx
open Go.Proofs
set_option maxRecDepth 10000

set_option maxHeartbeats 1000000 in
theorem move_t {w : WatchW} (hs : SkyOk w.s) (l : List MsgW) (now : Int) {t : Int} (ht : 0 ≤ t ∧ t ≤ 1440) (hmi : 0 ≤ w.min ∧ w.min ≤ 1440) {fl dn : MpB} (hf : SetOk w.s.sh.length fl) (hd : SetOk w.s.sh.length dn) :
  ACall Tryz.prog 29 [.ptr 4 0] (plcH (folC w l now) t fl dn) 5 fun r h nid =>
   r = .tup [] ∧ nid = 7 ∧ ∃ m', gnd m' ∧ (∀ a, gget m' a = (gget fl a).or (gget dn a)) ∧ hget h 4 = some (.box [.ref (folC w l now) 0, .int .i64 t, .mp 6, .mp 5]) ∧ hget h 5 = some (.map (bkv m')) ∧
    hget h 6 = some (.map (bkv (if w.endu < t - w.min then [] else aroundM w.s fl))) := by
 have hN := hs.le
 have hN2 : w.s.sh.length ≤ 144 := by omega
 have hca := fun h nid y hy => around_call hs hf (h := h) (nid := nid) (y := y) hy
 have hlf := hf.len
 have hld := hd.len
 have hrf := hf.inR (by omega)
 have hrd := hd.inR (by omega)
 unfold plcH
 unfold folC
 obtain ⟨⟨sw, sd, sh⟩, ⟨rl, lk⟩, cell, mi, ev, en, af⟩ := w
 dsimp only at hN hN2 hmi hlf hld
 simp only [WatchW.c, SkyW.c, NetW.c, List.cons_append, List.nil_append] at *
 generalize knownL l now = kn at *
 generalize aroundM ⟨sw, sd, sh⟩ fl = AF at *
 refine acall_of_pieces (rs := []) (m := 60) [(3, [(22, false, false, [])]), (5, [(17, false, false, [])])] oNone_ok (by kernel_rfl) Tryz.func29 rfl (by kernel_rfl) rfl rfl (by kernel_rfl) ?_
 refine awp_peel (T := [(3, [(22, false, false, [])]), (5, [(17, false, false, [])])]) oNone_ok (by kernel_rfl) (by kernel_rfl) ?_
 simp only [RT, FS, ↓RE, okR, argEnv, Nat.reduceAdd, Nat.reduceSub, Nat.reduceLT, Nat.reduceLeDiff, Nat.reduceEqDiff, reduceIte, RM]
 refine call_of_acall ((w_clone (kvs := bkv dn) (.inr ⟨3, rfl, rfl⟩)).mono ?_)
 rintro r h' nid' ⟨rfl, rfl, rfl⟩
 simp only [RT, FS, ↓RE, okR, argEnv, Nat.reduceAdd, Nat.reduceSub, Nat.reduceLT, Nat.reduceLeDiff, Nat.reduceEqDiff, reduceIte, RM]
 refine awp_peel (T := [(3, [(22, false, false, [])]), (5, [(17, false, false, [])])]) oNone_ok (by kernel_rfl) (by kernel_rfl) ?_
 simp only [RT, FS, ↓RE, okR, argEnv, Nat.reduceAdd, Nat.reduceSub, Nat.reduceLT, Nat.reduceLeDiff, Nat.reduceEqDiff, reduceIte, RM]
 refine call_of_acall ((w_copy (b := 5) (md := dn) (ms := fl) rfl (.inr ⟨2, rfl, rfl⟩) (by simp) hrd hrf (by simp only [maxLen]; omega)).mono ?_)
 rintro r h' nid' ⟨rfl, rfl, m', rfl, hm1, hm2⟩
 simp only [RT, FS, ↓RE, okR, argEnv, Nat.reduceAdd, Nat.reduceSub, Nat.reduceLT, Nat.reduceLeDiff, Nat.reduceEqDiff, reduceIte, RM]
 refine awp_peel (T := [(3, [(22, false, false, [])]), (5, [(17, false, false, [])])]) oNone_ok (by kernel_rfl) (by kernel_rfl) ?_
 simp only [RT, FS, ↓RE, okR, argEnv, Nat.reduceAdd, Nat.reduceSub, Nat.reduceLT, Nat.reduceLeDiff, Nat.reduceEqDiff, reduceIte, RM]
 have hw := wrap_i64 (z := t - mi) (by omega) (by omega)
 cases he : decide (en < t - mi)
 case true =>
  have he2 : en < t - mi := by simpa using he
  refine awp_peel (T := [(3, [(22, false, false, [])]), (5, [(17, false, false, [])])]) oNone_ok (by kernel_rfl) (by kernel_rfl) ?_
  simp only [RT, FS, ↓RE, okR, argEnv, Nat.reduceAdd, Nat.reduceSub, Nat.reduceLT, Nat.reduceLeDiff, Nat.reduceEqDiff, reduceIte, RM, hw, he]
  simp only [if_pos he2]
  exact ⟨rfl, m', hm1, hm2, rfl, rfl⟩
 have he2 : ¬ en < t - mi := by simpa using he
 refine awp_peel (T := [(3, [(22, false, false, [])]), (5, [(17, false, false, [])])]) oNone_ok (by kernel_rfl) (by kernel_rfl) ?_
 simp only [RT, FS, ↓RE, okR, argEnv, Nat.reduceAdd, Nat.reduceSub, Nat.reduceLT, Nat.reduceLeDiff, Nat.reduceEqDiff, reduceIte, RM, hw, he]
 simp only [if_neg he2]
 refine (awp_slots (σ := Nat) oNone_ok (by kernel_rfl) (fun m L => (m = 0 ∧ ¬ L 13 ∧ ¬ L 16) ∨ (m = 1 ∧ L 13 ∧ ¬ L 16) ∨ (m = 2 ∧ L 13 ∧ L 16))
  (fun m => match m with | 0 => [(5, .map (bkv m')), (3, .map (bkv dn)), (2, .map (bkv fl)), (4, .box [.ref [.int .i64 sw, .int .i64 sd, shD sh, rlD rl, lkD lk, .int .i64 cell, .int .i64 mi, .int .i64 ev, .int .i64 en, inD af, msD kn, .int .i64 now] 0, .int .i64 t, .mp 2, .mp 5])] | 1 => [(6, .map (bkv AF)), (5, .map (bkv m')), (3, .map (bkv dn)), (2, .map (bkv fl)), (4, .box [.ref [.int .i64 sw, .int .i64 sd, shD sh, rlD rl, lkD lk, .int .i64 cell, .int .i64 mi, .int .i64 ev, .int .i64 en, inD af, msD kn, .int .i64 now] 0, .int .i64 t, .mp 2, .mp 5])] | _ => [(6, .map (bkv AF)), (5, .map (bkv m')), (3, .map (bkv dn)), (2, .map (bkv fl)), (4, .box [.ref [.int .i64 sw, .int .i64 sd, shD sh, rlD rl, lkD lk, .int .i64 cell, .int .i64 mi, .int .i64 ev, .int .i64 en, inD af, msD kn, .int .i64 now] 0, .int .i64 t, .mp 6, .mp 5])])
  (fun m => match m with | 0 => 6 | _ => 7)
  (fun _ i => match i with | 0 | 1 | 2 | 3 | 9 | 10 | 14 => .ptr 4 0 | 4 | 5 | 6 | 7 => .ref [.int .i64 sw, .int .i64 sd, shD sh, rlD rl, lkD lk, .int .i64 cell, .int .i64 mi, .int .i64 ev, .int .i64 en, inD af, msD kn, .int .i64 now] 0 | 8 => .agg [.int .i64 sw, .int .i64 sd, shD sh] | 11 | 15 => .ptr 4 2 | 12 => .mp 2 | 13 => .mp 6 | _ => .any) 0
  (by kernel_rfl) (by kernel_rfl) rfl rfl (.inl ⟨rfl, id, id⟩) ?_ ?_)
 ·intro m L i o e hok hcl ho hnr hr hsl
  have hi : i < 17 := lt_of_arr ho
  obtain rfl | rfl | rfl | rfl | rfl | rfl | rfl | rfl | rfl | rfl | rfl | rfl | rfl | rfl | rfl | rfl | rfl : i = 0 ∨ i = 1 ∨ i = 2 ∨ i = 3 ∨ i = 4 ∨ i = 5 ∨ i = 6 ∨ i = 7 ∨ i = 8 ∨ i = 9 ∨ i = 10 ∨ i = 11 ∨ i = 12 ∨ i = 13 ∨ i = 14 ∨ i = 15 ∨ i = 16 := by omega
  ·simp only [List.getElem?_toArray, List.getElem?_cons_succ, List.getElem?_cons_zero, Option.some.injEq] at ho
   subst ho
   have k0 := hsl.base 0 rfl
   refine ⟨rfl, ?_⟩
   simp only [RT, FS, ↓RE, okR, argEnv, Nat.reduceAdd, Nat.reduceSub, Nat.reduceLT, Nat.reduceLeDiff, Nat.reduceEqDiff, reduceIte, RM, k0]
   exact ⟨m, by simpa using hok, by simp⟩
  ·simp only [List.getElem?_toArray, List.getElem?_cons_succ, List.getElem?_cons_zero, Option.some.injEq] at ho
   subst ho
   have k0 := hsl.base 0 rfl
   refine ⟨rfl, ?_⟩
   simp only [RT, FS, ↓RE, okR, argEnv, Nat.reduceAdd, Nat.reduceSub, Nat.reduceLT, Nat.reduceLeDiff, Nat.reduceEqDiff, reduceIte, RM, k0]
   exact ⟨m, by simpa using hok, by simp⟩
  ·simp only [List.getElem?_toArray, List.getElem?_cons_succ, List.getElem?_cons_zero, Option.some.injEq] at ho
   subst ho
   have k45 := hsl.new 1 _ 45 rfl (hr 1 (by decide)) rfl
   refine ⟨rfl, ?_⟩
   simp only [RT, FS, ↓RE, okR, argEnv, Nat.reduceAdd, Nat.reduceSub, Nat.reduceLT, Nat.reduceLeDiff, Nat.reduceEqDiff, reduceIte, RM, k45]
   exact ⟨m, by simpa using hok, by simp⟩
  ·simp only [List.getElem?_toArray, List.getElem?_cons_succ, List.getElem?_cons_zero, Option.some.injEq] at ho
   subst ho
   have k46 := hsl.new 2 _ 46 rfl (hr 2 (by decide)) rfl
   refine ⟨rfl, ?_⟩
   simp only [RT, FS, ↓RE, okR, argEnv, Nat.reduceAdd, Nat.reduceSub, Nat.reduceLT, Nat.reduceLeDiff, Nat.reduceEqDiff, reduceIte, RM, k46]
   exact ⟨m, by simpa using hok, by simp⟩
  ·simp only [List.getElem?_toArray, List.getElem?_cons_succ, List.getElem?_cons_zero, Option.some.injEq] at ho
   subst ho
   have k47 := hsl.new 3 _ 47 rfl (hr 3 (by decide)) rfl
   refine ⟨rfl, ?_⟩
   have h13 : ¬ L 13 := fun h => hnr (hcl 13 4 h (by decide))
   have h16 : ¬ L 16 := fun h => hnr (hcl 16 4 h (by decide))
   have hm0 : m = 0 := by rcases hok with h | h | h <;> simp_all
   subst hm0
   simp only [RT, FS, ↓RE, okR, argEnv, Nat.reduceAdd, Nat.reduceSub, Nat.reduceLT, Nat.reduceLeDiff, Nat.reduceEqDiff, reduceIte, RM, k47]
   exact ⟨0, by simpa using hok, by simp⟩
  ·simp only [List.getElem?_toArray, List.getElem?_cons_succ, List.getElem?_cons_zero, Option.some.injEq] at ho
   subst ho
   have k48 := hsl.new 4 _ 48 rfl (hr 4 (by decide)) rfl
   refine ⟨rfl, ?_⟩
   simp only [RT, FS, ↓RE, okR, argEnv, Nat.reduceAdd, Nat.reduceSub, Nat.reduceLT, Nat.reduceLeDiff, Nat.reduceEqDiff, reduceIte, RM, k48]
   exact ⟨m, by simpa using hok, by simp⟩
  ·simp only [List.getElem?_toArray, List.getElem?_cons_succ, List.getElem?_cons_zero, Option.some.injEq] at ho
   subst ho
   have k49 := hsl.new 5 _ 49 rfl (hr 5 (by decide)) rfl
   refine ⟨rfl, ?_⟩
   simp only [RT, FS, ↓RE, okR, argEnv, Nat.reduceAdd, Nat.reduceSub, Nat.reduceLT, Nat.reduceLeDiff, Nat.reduceEqDiff, reduceIte, RM, k49]
   exact ⟨m, by simpa using hok, by simp⟩
  ·simp only [List.getElem?_toArray, List.getElem?_cons_succ, List.getElem?_cons_zero, Option.some.injEq] at ho
   subst ho
   have k50 := hsl.new 6 _ 50 rfl (hr 6 (by decide)) rfl
   refine ⟨rfl, ?_⟩
   simp only [RT, FS, ↓RE, okR, argEnv, Nat.reduceAdd, Nat.reduceSub, Nat.reduceLT, Nat.reduceLeDiff, Nat.reduceEqDiff, reduceIte, RM, k50]
   exact ⟨m, by simpa using hok, by simp⟩
  ·simp only [List.getElem?_toArray, List.getElem?_cons_succ, List.getElem?_cons_zero, Option.some.injEq] at ho
   subst ho
   have k51 := hsl.new 7 _ 51 rfl (hr 7 (by decide)) rfl
   refine ⟨rfl, ?_⟩
   have h13 : ¬ L 13 := fun h => hnr (hcl 13 8 h (by decide))
   have h16 : ¬ L 16 := fun h => hnr (hcl 16 8 h (by decide))
   have hm0 : m = 0 := by rcases hok with h | h | h <;> simp_all
   subst hm0
   simp only [RT, FS, ↓RE, okR, argEnv, Nat.reduceAdd, Nat.reduceSub, Nat.reduceLT, Nat.reduceLeDiff, Nat.reduceEqDiff, reduceIte, RM, k51]
   exact ⟨0, by simpa using hok, by simp⟩
  ·simp only [List.getElem?_toArray, List.getElem?_cons_succ, List.getElem?_cons_zero, Option.some.injEq] at ho
   subst ho
   have k0 := hsl.base 0 rfl
   refine ⟨rfl, ?_⟩
   simp only [RT, FS, ↓RE, okR, argEnv, Nat.reduceAdd, Nat.reduceSub, Nat.reduceLT, Nat.reduceLeDiff, Nat.reduceEqDiff, reduceIte, RM, k0]
   exact ⟨m, by simpa using hok, by simp⟩
  ·simp only [List.getElem?_toArray, List.getElem?_cons_succ, List.getElem?_cons_zero, Option.some.injEq] at ho
   subst ho
   have k53 := hsl.new 9 _ 53 rfl (hr 9 (by decide)) rfl
   refine ⟨rfl, ?_⟩
   simp only [RT, FS, ↓RE, okR, argEnv, Nat.reduceAdd, Nat.reduceSub, Nat.reduceLT, Nat.reduceLeDiff, Nat.reduceEqDiff, reduceIte, RM, k53]
   exact ⟨m, by simpa using hok, by simp⟩
  ·simp only [List.getElem?_toArray, List.getElem?_cons_succ, List.getElem?_cons_zero, Option.some.injEq] at ho
   subst ho
   have k54 := hsl.new 10 _ 54 rfl (hr 10 (by decide)) rfl
   refine ⟨rfl, ?_⟩
   simp only [RT, FS, ↓RE, okR, argEnv, Nat.reduceAdd, Nat.reduceSub, Nat.reduceLT, Nat.reduceLeDiff, Nat.reduceEqDiff, reduceIte, RM, k54]
   exact ⟨m, by simpa using hok, by simp⟩
  ·simp only [List.getElem?_toArray, List.getElem?_cons_succ, List.getElem?_cons_zero, Option.some.injEq] at ho
   subst ho
   have k55 := hsl.new 11 _ 55 rfl (hr 11 (by decide)) rfl
   refine ⟨rfl, ?_⟩
   have h13 : ¬ L 13 := fun h => hnr (hcl 13 12 h (by decide))
   have h16 : ¬ L 16 := fun h => hnr (hcl 16 12 h (by decide))
   have hm0 : m = 0 := by rcases hok with h | h | h <;> simp_all
   subst hm0
   simp only [RT, FS, ↓RE, okR, argEnv, Nat.reduceAdd, Nat.reduceSub, Nat.reduceLT, Nat.reduceLeDiff, Nat.reduceEqDiff, reduceIte, RM, k55]
   exact ⟨0, by simpa using hok, by simp⟩
  ·simp only [List.getElem?_toArray, List.getElem?_cons_succ, List.getElem?_cons_zero, Option.some.injEq] at ho
   subst ho
   have k52 := hsl.new 8 _ 52 rfl (hr 8 (by decide)) rfl
   have k56 := hsl.new 12 _ 56 rfl (hr 12 (by decide)) rfl
   refine ⟨rfl, ?_⟩
   have h13 : ¬ L 16 := fun h => hnr (hcl 16 13 h (by decide))
   have hm0 : m = 0 := by rcases hok with h | h | h <;> simp_all
   subst hm0
   simp only [RT, FS, ↓RE, okR, argEnv, Nat.reduceAdd, Nat.reduceSub, Nat.reduceLT, Nat.reduceLeDiff, Nat.reduceEqDiff, reduceIte, RM, k52, k56]
   refine call_of_acall ((hca _ _ _ (bkv_view fl _ 2 rfl)).mono ?_)
   rintro r h' nid' ⟨rfl, rfl, rfl⟩
   exact ⟨1, .inr (.inl ⟨rfl, by simp, by simpa using h13⟩), by simp⟩
  ·simp only [List.getElem?_toArray, List.getElem?_cons_succ, List.getElem?_cons_zero, Option.some.injEq] at ho
   subst ho
   have k44 := hsl.new 0 _ 44 rfl (hr 0 (by decide)) rfl
   refine ⟨rfl, ?_⟩
   simp only [RT, FS, ↓RE, okR, argEnv, Nat.reduceAdd, Nat.reduceSub, Nat.reduceLT, Nat.reduceLeDiff, Nat.reduceEqDiff, reduceIte, RM, k44]
   exact ⟨m, by simpa using hok, by simp⟩
  ·simp only [List.getElem?_toArray, List.getElem?_cons_succ, List.getElem?_cons_zero, Option.some.injEq] at ho
   subst ho
   have k58 := hsl.new 14 _ 58 rfl (hr 14 (by decide)) rfl
   refine ⟨rfl, ?_⟩
   simp only [RT, FS, ↓RE, okR, argEnv, Nat.reduceAdd, Nat.reduceSub, Nat.reduceLT, Nat.reduceLeDiff, Nat.reduceEqDiff, reduceIte, RM, k58]
   exact ⟨m, by simpa using hok, by simp⟩
  ·simp only [List.getElem?_toArray, List.getElem?_cons_succ, List.getElem?_cons_zero, Option.some.injEq] at ho
   subst ho
   have k57 := hsl.new 13 _ 57 rfl (hr 13 (by decide)) rfl
   have k59 := hsl.new 15 _ 59 rfl (hr 15 (by decide)) rfl
   refine ⟨rfl, ?_⟩
   have h13 : L 13 := hr 13 (by decide)
   have hm0 : m = 1 := by rcases hok with h | h | h <;> simp_all
   subst hm0
   simp only [RT, FS, ↓RE, okR, argEnv, Nat.reduceAdd, Nat.reduceSub, Nat.reduceLT, Nat.reduceLeDiff, Nat.reduceEqDiff, reduceIte, RM, k57, k59]
   exact ⟨2, .inr (.inr ⟨rfl, by simp [h13], by simp⟩), by simp⟩
 ·intro m L e hok hall hsl
  have h16 := hall 16 (by decide)
  have hm0 : m = 2 := by rcases hok with h | h | h <;> simp_all
  subst hm0
  simp only [RT, FS, ↓RE, okR, argEnv, Nat.reduceAdd, Nat.reduceSub, Nat.reduceLT, Nat.reduceLeDiff, Nat.reduceEqDiff, reduceIte, RM]
  exact ⟨rfl, m', hm1, hm2, rfl⟩
end Go.Sx

namespace Go.Sx
set_option maxRecDepth 10000

theorem ssorted_ext : ∀ {a b : List Int}, a.Pairwise (· < ·) → b.Pairwise (· < ·) → (∀ x, x ∈ a ↔ x ∈ b) → a = b
 | [], [], _, _, _ => rfl
 | [], y :: b, _, _, h => absurd ((h y).2 (by simp)) (by simp)
 | x :: a, [], _, _, h => absurd ((h x).1 (by simp)) (by simp)
 | x :: a, y :: b, ha, hb, h => by
  have ha := List.pairwise_cons.1 ha
  have hb := List.pairwise_cons.1 hb
  have e : x = y := by
   rcases List.mem_cons.1 ((h x).1 (by simp)) with e | e
   ·exact e
   ·rcases List.mem_cons.1 ((h y).2 (by simp)) with e2 | e2
    ·exact e2.symm
    ·have := ha.1 y e2; have := hb.1 x e; omega
  subst e
  rw [ssorted_ext ha.2 hb.2 fun z => ⟨fun hz => by
   rcases List.mem_cons.1 ((h z).1 (by simp [hz])) with e | e
   ·have := ha.1 z hz; omega
   ·exact e, fun hz => by
   rcases List.mem_cons.1 ((h z).2 (by simp [hz])) with e | e
   ·have := hb.1 z hz; omega
   ·exact e⟩]
def sF (m : MpB) (c : Int) : Bool := (gget m c).getD false
def cellsF (N : Nat) (p : Int → Bool) : List Int := ((List.range N).filter fun i : Nat => p (i : Int)).map fun i : Nat => (i : Int)
theorem cellsF_mem {N : Nat} {p : Int → Bool} {x : Int} : x ∈ cellsF N p ↔ (0 ≤ x ∧ x < (N : Int)) ∧ p x = true := by
 simp only [cellsF, List.mem_map, List.mem_filter, List.mem_range]
 constructor
 ·rintro ⟨i, ⟨h1, h2⟩, rfl⟩; exact ⟨by omega, h2⟩
 ·rintro ⟨⟨h1, h2⟩, h3⟩
  exact ⟨x.toNat, ⟨by omega, by rw [Int.toNat_of_nonneg h1]; exact h3⟩, Int.toNat_of_nonneg h1⟩
theorem cellsF_sorted (N : Nat) (p : Int → Bool) : (cellsF N p).Pairwise (· < ·) := by
 refine List.Pairwise.map _ (fun a b (h : a < b) => ?_) (List.Pairwise.sublist (List.filter_sublist) List.pairwise_lt_range)
 omega
theorem cellsF_congr {N : Nat} {p q : Int → Bool} (h : ∀ c, 0 ≤ c → c < (N : Int) → p c = q c) : cellsF N p = cellsF N q := by
 unfold cellsF
 congr 1
 exact List.filter_congr fun i hi => h i (by omega) (by have := List.mem_range.1 hi; omega)
theorem cellsF_len (N : Nat) (p : Int → Bool) : (cellsF N p).length ≤ N := by
 have := List.length_filter_le (fun i : Nat => p (i : Int)) (List.range N)
 simpa [cellsF] using this
theorem gget_key {β : Type} : ∀ {m : MpG β} {a : Int} {v : β}, gget m a = some v → a ∈ m.map (·.1)
 | [], a, v, h => by simp [gget] at h
 | (x, u) :: m, a, v, h => by
  simp only [gget] at h
  by_cases e : a = x
  ·simp [e]
  ·rw [if_neg e] at h
   have := gget_key h
   simp only [List.map_cons, List.mem_cons]
   exact .inr this
theorem cellsL_mem {m : MpB} {x : Int} : x ∈ cellsL m ↔ sF m x = true := by
 simp only [cellsL, List.mem_filter, keysS_mem]
 constructor
 ·exact fun h => h.2
 ·intro h
  refine ⟨?_, h⟩
  unfold sF at h
  cases hg : gget m x with
  | none => rw [hg] at h; cases h
  | some v => exact gget_key hg
theorem keysS_sorted {β : Type} {m : MpG β} (h : gnd m) : (keysS m).Pairwise (· < ·) := by
 have tr : ∀ a b c : Int, leI a b = true → leI b c = true → leI a c = true := fun a b c h1 h2 => by simp only [leI, decide_eq_true_eq] at *; exact Int.le_trans h1 h2
 have to : ∀ a b : Int, (leI a b || leI b a) = true := fun a b => by simp only [leI, Bool.or_eq_true, decide_eq_true_eq]; exact Int.le_total a b
 have h1 := List.pairwise_mergeSort tr to (m.map (·.1))
 have h2 : (keysS m).Nodup := (List.mergeSort_perm _ _).nodup_iff.2 h
 exact (h1.and h2).imp fun ⟨a, b⟩ => by
  simp only [leI, decide_eq_true_eq] at a
  omega
theorem sF_in {N : Nat} {m : MpB} (h : SetOk N m) {c : Int} (hc : sF m c = true) : 0 ≤ c ∧ c < (N : Int) := cellsL_in h c (cellsL_mem.2 hc)
theorem cellsL_eq {N : Nat} {m : MpB} (h : SetOk N m) : cellsL m = cellsF N (sF m) :=
 ssorted_ext (List.Pairwise.sublist (List.filter_sublist) (keysS_sorted h.nd)) (cellsF_sorted _ _) fun x => by
  rw [cellsL_mem, cellsF_mem]
  exact ⟨fun q => ⟨sF_in h q, q⟩, fun q => q.2⟩
def Tid (m : MpB) : Prop := ∀ c v, gget m c = some v → v = true
theorem Tid.len {m : MpB} (hn : gnd m) (h : Tid m) : (cellsL m).length = m.length := by
 have : cellsL m = keysS m := List.filter_eq_self.2 fun x hx => by
  obtain ⟨p, hp, rfl⟩ := List.mem_map.1 (keysS_mem.1 hx)
  have hg := (gget_mem hn p.1 p.2).2 hp
  rw [hg, h _ _ hg]; rfl
 rw [this, keysS_len]
theorem sF_put (m : MpB) (k : Int) (v : Bool) (c : Int) : sF (gput m k v) c = if c = k then v else sF m c := by
 unfold sF; rw [gget_put]; split <;> rfl
theorem keep_ok {N : Nat} {q : Int → Bool} {m : MpB} (h : SetOk N m) : ∀ n, n ≤ N → SetOk N (keepM q n m) ∧ ∀ c, sF (keepM q n m) c = if 0 ≤ c ∧ c < (n : Int) then sF m c && q c else sF m c
 | 0, _ => ⟨h, fun c => by rw [if_neg (by omega)]; rfl⟩
 | n + 1, hn => by
  obtain ⟨h1, h2⟩ := keep_ok (q := q) h n (by omega)
  rw [keepM_succ]
  refine ⟨h1.put ⟨by omega, by omega⟩ _, fun c => ?_⟩
  rw [sF_put]
  by_cases e : c = (n : Int)
  ·have h3 := h2 c
   rw [if_neg (by omega)] at h3
   rw [if_pos e, if_pos (by omega), ← h3, e]
   rfl
  ·rw [if_neg e, h2 c]
   have : (0 ≤ c ∧ c < ((n + 1 : Nat) : Int)) ↔ (0 ≤ c ∧ c < (n : Int)) := by omega
   simp only [this]
theorem keep_eq {N : Nat} {q : Int → Bool} {m : MpB} (h : SetOk N m) (c : Int) : sF (keepM q N m) c = (sF m c && q c) := by
 rw [(keep_ok h N (Nat.le_refl _)).2 c]
 split
 ·rfl
 ·rename_i hc
  cases hs : sF m c with
  | false => rfl
  | true => exact absurd (sF_in h hs) hc
theorem SetOk.del {N : Nat} {m : MpB} (h : SetOk N m) (a : Int) : SetOk N (gdel m a) := ⟨gdel_nd h.nd a, fun p hp => h.key p (List.mem_filter.1 hp).1⟩
theorem tidy_ok {N : Nat} {m : MpB} (h : SetOk N m) : ∀ n, n ≤ N → SetOk N (tidyM n m) ∧ (∀ c, sF (tidyM n m) c = sF m c) ∧ ∀ c v, c < (n : Int) → gget (tidyM n m) c = some v → v = true
 | 0, _ => ⟨h, fun _ => rfl, fun c v hc hg => by
  obtain ⟨p, hp, e⟩ := List.mem_map.1 (gget_key hg)
  have := (h.key p hp).1; omega⟩
 | n + 1, hn => by
  obtain ⟨h1, h2, h3⟩ := tidy_ok h n (by omega)
  rw [tidyM_succ]
  unfold tidyS
  split
  ·rename_i ht
   refine ⟨h1, h2, fun c v hc hg => ?_⟩
   by_cases e : c = (n : Int)
   ·rw [← e, hg] at ht; exact ht
   ·exact h3 c v (by omega) hg
  ·rename_i ht
   refine ⟨h1.del _, fun c => ?_, fun c v hc hg => ?_⟩
   ·rw [← h2 c]
    unfold sF
    rw [gget_del]
    split
    ·rename_i e
     rw [e]
     cases hg : (gget (tidyM n m) (n : Int)).getD false with
     | false => rfl
     | true => exact absurd hg ht
    ·rfl
   ·rw [gget_del] at hg
    split at hg
    ·cases hg
    ·exact h3 c v (by omega) hg
theorem tidy_tid {N : Nat} {m : MpB} (h : SetOk N m) : Tid (tidyM N m) := fun c v hg => by
 have h1 := tidy_ok h N (Nat.le_refl _)
 obtain ⟨p, hp, e⟩ := List.mem_map.1 (gget_key hg)
 exact h1.2.2 c v (by have := (h1.1.key p hp).2; omega) hg
def aF (s : SkyW) (p : Int → Bool) (c : Int) : Bool := p c || (cellsF s.sh.length p).any fun k => (nbL s.w s.d s.sh k).any fun t => decide (t = c)
theorem sF_nbPut (c : Int) : ∀ (l : List Int) (o : MpB), sF (nbPut o l) c = (sF o c || l.any fun t => decide (t = c))
 | [], o => by simp [nbPut]
 | t :: l, o => by
  have := sF_nbPut c l (gput o t true)
  rw [show nbPut o (t :: l) = nbPut (gput o t true) l from rfl, this, sF_put, List.any_cons]
  by_cases e : c = t
  ·subst e; simp
  ·have e2 : ¬ t = c := fun h => e h.symm
   simp [e, e2]
theorem sF_around_go (s : SkyW) (c : Int) : ∀ (l : List Int) (o : MpB), sF (l.foldl (fun o c => nbPut o (nbL s.w s.d s.sh c)) o) c = (sF o c || l.any fun k => (nbL s.w s.d s.sh k).any fun t => decide (t = c))
 | [], o => by simp
 | k :: l, o => by
  rw [List.foldl_cons, sF_around_go s c l, sF_nbPut, List.any_cons, Bool.or_assoc]
theorem sF_around {s : SkyW} {m : MpB} (h : SetOk s.sh.length m) (c : Int) : sF (aroundM s m) c = aF s (sF m) c := by
 unfold aroundM
 rw [sF_around_go, cellsL_eq h]; rfl
theorem aF_congr {s : SkyW} {p q : Int → Bool} (h : ∀ c, p c = q c) (c : Int) : aF s p c = aF s q c := by
 rw [show p = q from funext h]
theorem sF_or {fl dn m : MpB} (ht : Tid fl) (hm : ∀ a, gget m a = (gget fl a).or (gget dn a)) (c : Int) : sF m c = (sF fl c || sF dn c) := by
 unfold sF
 rw [hm c]
 cases hg : gget fl c with
 | none => simp
 | some v => rw [ht c v hg]; simp
theorem or_ok {N : Nat} {fl dn m : MpB} (hf : SetOk N fl) (hd : SetOk N dn) (hn : gnd m) (hm : ∀ a, gget m a = (gget fl a).or (gget dn a)) : SetOk N m := ⟨hn, fun p hp => by
 have hg := (gget_mem hn p.1 p.2).2 hp
 rw [hm] at hg
 cases h1 : gget fl p.1 with
 | some v => obtain ⟨q, hq, e⟩ := List.mem_map.1 (gget_key h1); rw [← e]; exact hf.key q hq
 | none =>
  rw [h1] at hg
  obtain ⟨q, hq, e⟩ := List.mem_map.1 (gget_key (m := dn) (by simpa using hg)); rw [← e]; exact hd.key q hq⟩

def plF (w : WatchW) (kn : List MsgW) (now : Int) : Nat → (Int → Bool) × (Int → Bool)
 | 0 => (fun c => decide (c = w.cell) && saidB kn w.min c false, fun _ => false)
 | n + 1 => (fun c => ((!(decide (w.endu < (n : Int) + 1)) && aF w.s (plF w kn now n).1 c) && saidB kn (w.min + ((n : Int) + 1)) c false) && !(silentB w kn now (w.min + ((n : Int) + 1)) c),
   fun c => ((plF w kn now n).1 c || (plF w kn now n).2 c) && saidB kn (w.min + ((n : Int) + 1)) c true)
structure PlOk (w : WatchW) (kn : List MsgW) (now : Int) (n : Nat) (fl dn : MpB) : Prop where
 f : SetOk w.s.sh.length fl
 d : SetOk w.s.sh.length dn
 tf : Tid fl
 td : Tid dn
 ef : ∀ c, sF fl c = (plF w kn now n).1 c
 ed : ∀ c, sF dn c = (plF w kn now n).2 c
theorem pl_zero {w : WatchW} (hw : WatchOk w) (kn : List MsgW) (now : Int) :
  PlOk w kn now 0 (tidyM w.s.sh.length (keepM (fun c => saidB kn w.min c false) w.s.sh.length (gput [] w.cell true))) (tidyM w.s.sh.length (keepM (fun c => saidB kn w.min c true) w.s.sh.length [])) := by
 have hc : InS w.s w.cell := free_in hw.c
 have s1 := set_one (N := w.s.sh.length) hc
 have s2 : SetOk w.s.sh.length [] := ⟨List.nodup_nil, by simp⟩
 have k1 := (keep_ok (q := fun c => saidB kn w.min c false) s1 _ (Nat.le_refl _)).1
 have k2 := (keep_ok (q := fun c => saidB kn w.min c true) s2 _ (Nat.le_refl _)).1
 refine ⟨(tidy_ok k1 _ (Nat.le_refl _)).1, (tidy_ok k2 _ (Nat.le_refl _)).1, tidy_tid k1, tidy_tid k2, fun c => ?_, fun c => ?_⟩
 ·rw [(tidy_ok k1 _ (Nat.le_refl _)).2.1, keep_eq s1, sF_put]
  show _ = (decide (c = w.cell) && _)
  by_cases e : c = w.cell
  ·simp [e]
  ·simp [e, sF, gget]
 ·rw [(tidy_ok k2 _ (Nat.le_refl _)).2.1, keep_eq s2]
  simp [sF, gget, plF]
theorem pl_succ {w : WatchW} (hw : WatchOk w) {kn : List MsgW} {now : Int} {n : Nat} {fl dn m : MpB} (h : PlOk w kn now n fl dn) (hn : gnd m) (hm : ∀ a, gget m a = (gget fl a).or (gget dn a)) {t : Int} (ht : t = w.min + ((n : Int) + 1)) {N : Nat} (hN : N = w.s.sh.length) :
  PlOk w kn now (n + 1) (tidyM N (keepM (fun c => !(silentB w kn now t c)) N (keepM (fun c => saidB kn t c false) N (if w.endu < t - w.min then [] else aroundM w.s fl))))
   (tidyM N (keepM (fun c => saidB kn t c true) N m)) := by
 subst hN
 have s1 : SetOk w.s.sh.length (if w.endu < t - w.min then [] else aroundM w.s fl) := by
  split
  ·exact ⟨List.nodup_nil, by simp⟩
  ·exact around_ok hw.s h.f
 have s2 := or_ok h.f h.d hn hm
 have k1 := (keep_ok (q := fun c => saidB kn t c false) s1 _ (Nat.le_refl _)).1
 have k2 := (keep_ok (q := fun c => !(silentB w kn now t c)) k1 _ (Nat.le_refl _)).1
 have k3 := (keep_ok (q := fun c => saidB kn t c true) s2 _ (Nat.le_refl _)).1
 refine ⟨(tidy_ok k2 _ (Nat.le_refl _)).1, (tidy_ok k3 _ (Nat.le_refl _)).1, tidy_tid k2, tidy_tid k3, fun c => ?_, fun c => ?_⟩
 ·rw [(tidy_ok k2 _ (Nat.le_refl _)).2.1, keep_eq k1, keep_eq s1]
  simp only [plF]
  rw [← ht]
  have e : t - w.min = (n : Int) + 1 := by omega
  rw [e]
  by_cases he : w.endu < (n : Int) + 1
  ·rw [if_pos he]; simp [he, sF, gget]
  ·rw [if_neg he, sF_around h.f, aF_congr h.ef]; simp [he]
 ·rw [(tidy_ok k3 _ (Nat.le_refl _)).2.1, keep_eq s2, sF_or h.tf hm, h.ef, h.ed]
  simp only [plF]
  rw [← ht]
def WhereR (w : WatchW) (l : List MsgW) (now : Int) : D := if askedI w l now = 0 then
  (if (cellsF w.s.sh.length (plF w (knownL l now) now (now - w.min).toNat).1).length + (cellsF w.s.sh.length (plF w (knownL l now) now (now - w.min).toNat).2).length = 0 then .tup [.nils, .nils, .int .i64 5]
   else .tup [.sl (intL (cellsF w.s.sh.length (plF w (knownL l now) now (now - w.min).toNat).1)), .sl (intL (cellsF w.s.sh.length (plF w (knownL l now) now (now - w.min).toNat).2)), .int .i64 0])
 else .tup [.nils, .nils, .int .i64 (askedI w l now)]
end Go.Sx
