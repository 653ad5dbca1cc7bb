/- Own work: a calculus of contracts for the programs of this kit: parts SxW31v, SxW32v, SxW33v, SxW34v. -/
import Derived.Test.YtljkgnicmlhipaaGreatSxWgv
set_option linter.unusedVariables false
set_option linter.unusedSimpArgs false
namespace Go.Sx
open Go.Proofs
set_option maxRecDepth 10000

def keepM (q : Int → Bool) (n : Nat) (m : MpB) : MpB := (List.range n).foldl (fun (m : MpB) (i : Nat) => gput m i ((gget m i).getD false && q i)) m
theorem keepM_succ (q : Int → Bool) (n : Nat) (m : MpB) : keepM q (n + 1) m = gput (keepM q n m) n ((gget (keepM q n m) n).getD false && q n) := by
 simp only [keepM, List.range_succ, List.foldl_append]; rfl
def plcH (FC : List D) (t : Int) (fl dn : MpB) : H := [(3, .map (bkv dn)), (2, .map (bkv fl)), (4, .box [.ref FC 0, .int .i64 t, .mp 2, .mp 3])]
set_option maxHeartbeats 1000000 in
theorem say_t {w : WatchW} (l : List MsgW) (hl : l.length ≤ 60) (hN : w.s.sh.length ≤ 144) (now t : Int) (fl dn : MpB) :
  ACall Tryz.prog 27 [.ptr 4 0] (plcH (folC w l now) t fl dn) 5 fun r h nid =>
   r = .tup [] ∧ h = plcH (folC w l now) t (keepM (fun c => saidB (knownL l now) t c false) w.s.sh.length fl) (keepM (fun c => saidB (knownL l now) t c true) w.s.sh.length dn) ∧ nid = 5 := by
 have psd := fun pc pd => said_t w l (by omega) now t pc pd
 unfold plcH
 unfold folC at *
 obtain ⟨⟨sw, sd, sh⟩, ⟨rl, lk⟩, cell, mi, ev, en, af⟩ := w
 dsimp only at hN
 simp only [WatchW.c, SkyW.c, NetW.c, List.cons_append, List.nil_append] at *
 generalize knownL l now = kn at *
 obtain ⟨A, hA⟩ : ∃ A : Nat → MpB, A = fun i => keepM (fun c => saidB kn t c false) i fl := ⟨_, rfl⟩
 obtain ⟨B, hB⟩ : ∃ B : Nat → MpB, B = fun i => keepM (fun c => saidB kn t c true) i dn := ⟨_, rfl⟩
 have hA0 : A 0 = fl := by rw [hA]; rfl
 have hB0 : B 0 = dn := by rw [hB]; rfl
 have hAS : ∀ i, A (i + 1) = gput (A i) i ((gget (A i) i).getD false && saidB kn t i false) := fun i => by rw [hA]; exact keepM_succ _ _ _
 have hBS : ∀ i, B (i + 1) = gput (B i) i ((gget (B i) i).getD false && saidB kn t i true) := fun i => by rw [hB]; exact keepM_succ _ _ _
 rw [show keepM (fun c => saidB kn t c false) sh.length fl = A sh.length by rw [hA], show keepM (fun c => saidB kn t c true) sh.length dn = B sh.length by rw [hB]]
 refine acall_of_wc (rs := []) (m := 65) [(3, [(25, false, false, [])]), (4, [(25, false, false, [])])] oNone_ok (by kernel_rfl) Tryz.func27 rfl (by kernel_rfl) rfl rfl (by kernel_rfl) ?_
 simp only [RT, FS, ↓RE, okR, argEnv, Nat.reduceAdd, Nat.reduceSub, Nat.reduceLT, Nat.reduceLeDiff, Nat.reduceEqDiff, reduceIte, RM, List.length_map]
 refine loopV (ι := Nat) oNone_ok [(3, [(25, false, false, [])]), (4, [(25, false, false, [])])] (fun i => [(0, .ptr 4 0), (12, .int .i64 (sh.length : Int)), (13, .int .i64 (i : Int))])
  (fun i => [(3, .map (bkv (B i))), (2, .map (bkv (A i))), (4, .box [.ref [.int .i64 sw, .int .i64 sd, shD sh, rlD rl, lkD lk, .int .i64 cell, .int .i64 mi, .int .i64 ev, .int .i64 en, inD af, msD kn, .int .i64 now] 0, .int .i64 t, .mp 2, .mp 3])]) 5
  (fun i => i ≤ sh.length) (fun i => sh.length - i) 0 (by kernel_rfl) (by kernel_rfl) (Nat.zero_le _) ?_ ?_
 ·rw [hA0, hB0]
  simp [headW, heapW, envW, blkLt, D.ltL, D.lt, look, hget, bkv_lt]
 intro i hil
 rcases Nat.lt_or_ge i sh.length with hlt | hge
 ·have hc := nat_lt_true hlt
  have hw1 := wrap_i64 (z := (i : Int) + 1) (by omega) (by omega)
  have g1 := fun h (hb : hget h 2 = some (.map (bkv (A i)))) => bm_get hb (i : Int)
  have g2 := fun h (hb : hget h 3 = some (.map (bkv (B i)))) => bm_get hb (i : Int)
  have a1 := hAS i
  have b1 := hBS i
  have hp := fun x h nid (hb : hget h 2 = some (.map (bkv (A i)))) => bm_put hb nid (i : Int) x
  have hq := fun x h nid (hb : hget h 3 = some (.map (bkv (B i)))) => bm_put hb nid (i : Int) x
  have s1 := psd i false
  have s2 := psd i true
  generalize (gget (A i) (i : Int)).getD false = x at *
  generalize (gget (B i) (i : Int)).getD false = y at *
  cases x <;> cases y
  ·simp only [RT, FS, ↓RE, okR, argEnv, Nat.reduceAdd, Nat.reduceSub, Nat.reduceLT, Nat.reduceLeDiff, Nat.reduceEqDiff, reduceIte, RM, hc, decide_true, g1, g2, hp, hq, hw1]
   exact ⟨i + 1, by omega, by omega, by rw [a1, b1]; simp [headW, heapW, envW, blkLt, D.ltL, D.lt, look, hget, bkv_lt]⟩
  ·simp only [RT, FS, ↓RE, okR, argEnv, Nat.reduceAdd, Nat.reduceSub, Nat.reduceLT, Nat.reduceLeDiff, Nat.reduceEqDiff, reduceIte, RM, hc, decide_true, g1, g2, hp, hq, hw1]
   refine call_of_pure' s2 (by simp [D.ltL, D.lt]) (by simp [D.lt]) ?_
   simp only [RT, FS, ↓RE, okR, argEnv, Nat.reduceAdd, Nat.reduceSub, Nat.reduceLT, Nat.reduceLeDiff, Nat.reduceEqDiff, reduceIte, RM, hc, decide_true, g1, g2, hp, hq, hw1]
   exact ⟨i + 1, by omega, by omega, by rw [a1, b1]; simp [headW, heapW, envW, blkLt, D.ltL, D.lt, look, hget, bkv_lt]⟩
  ·simp only [RT, FS, ↓RE, okR, argEnv, Nat.reduceAdd, Nat.reduceSub, Nat.reduceLT, Nat.reduceLeDiff, Nat.reduceEqDiff, reduceIte, RM, hc, decide_true, g1, g2, hp, hq, hw1]
   refine call_of_pure' s1 (by simp [D.ltL, D.lt]) (by simp [D.lt]) ?_
   simp only [RT, FS, ↓RE, okR, argEnv, Nat.reduceAdd, Nat.reduceSub, Nat.reduceLT, Nat.reduceLeDiff, Nat.reduceEqDiff, reduceIte, RM, hc, decide_true, g1, g2, hp, hq, hw1]
   exact ⟨i + 1, by omega, by omega, by rw [a1, b1]; simp [headW, heapW, envW, blkLt, D.ltL, D.lt, look, hget, bkv_lt]⟩
  ·simp only [RT, FS, ↓RE, okR, argEnv, Nat.reduceAdd, Nat.reduceSub, Nat.reduceLT, Nat.reduceLeDiff, Nat.reduceEqDiff, reduceIte, RM, hc, decide_true, g1, g2, hp, hq, hw1]
   refine call_of_pure' s1 (by simp [D.ltL, D.lt]) (by simp [D.lt]) ?_
   simp only [RT, FS, ↓RE, okR, argEnv, Nat.reduceAdd, Nat.reduceSub, Nat.reduceLT, Nat.reduceLeDiff, Nat.reduceEqDiff, reduceIte, RM, hc, decide_true, g1, g2, hp, hq, hw1]
   refine call_of_pure' s2 (by simp [D.ltL, D.lt]) (by simp [D.lt]) ?_
   simp only [RT, FS, ↓RE, okR, argEnv, Nat.reduceAdd, Nat.reduceSub, Nat.reduceLT, Nat.reduceLeDiff, Nat.reduceEqDiff, reduceIte, RM, hc, decide_true, g1, g2, hp, hq, hw1]
   exact ⟨i + 1, by omega, by omega, by rw [a1, b1]; simp [headW, heapW, envW, blkLt, D.ltL, D.lt, look, hget, bkv_lt]⟩
 ·have hc := nat_lt_false hge
  have : i = sh.length := by omega
  subst this
  simp only [RT, FS, ↓RE, okR, argEnv, Nat.reduceAdd, Nat.reduceSub, Nat.reduceLT, Nat.reduceLeDiff, Nat.reduceEqDiff, reduceIte, RM, hc, decide_false]
  rfl
end Go.Sx

namespace Go.Sx
open Go.Proofs
set_option maxRecDepth 10000

set_option maxHeartbeats 1000000 in
theorem hear_t {w : WatchW} (hw : WatchOk w) (l : List MsgW) (hl : l.length ≤ 60) (now : Int) {t : Int} (ht : 0 ≤ t ∧ t ≤ 1440) (fl dn : MpB) :
  ACall Tryz.prog 30 [.ptr 4 0] (plcH (folC w l now) t fl dn) 5 fun r h nid =>
   r = .tup [] ∧ h = plcH (folC w l now) t (keepM (fun c => !(silentB w (knownL l now) now t c)) w.s.sh.length fl) dn ∧ nid = 5 := by
 have psd := fun c (hc : InS w.s c) => silent_t hw l (by omega) now hc ht
 have hN := hw.s.le
 have hin : ∀ i : Nat, i < w.s.sh.length → InS w.s i := fun i hi => ⟨by omega, by omega⟩
 obtain ⟨S, hS⟩ : ∃ S : Int → Bool, S = fun c => silentB w (knownL l now) now t c := ⟨_, rfl⟩
 have hSc : ∀ c, silentB w (knownL l now) now t c = S c := fun c => by rw [hS]
 simp only [hSc] at psd ⊢
 unfold plcH
 unfold folC at *
 obtain ⟨⟨sw, sd, sh⟩, ⟨rl, lk⟩, cell, mi, ev, en, af⟩ := w
 dsimp only at hN hin
 simp only [WatchW.c, SkyW.c, NetW.c, List.cons_append, List.nil_append] at *
 generalize knownL l now = kn at *
 obtain ⟨A, hA⟩ : ∃ A : Nat → MpB, A = fun i => keepM (fun c => !(S c)) i fl := ⟨_, rfl⟩
 have hA0 : A 0 = fl := by rw [hA]; rfl
 have hAS : ∀ i, A (i + 1) = gput (A i) i ((gget (A i) i).getD false && !(S i)) := fun i => by rw [hA]; exact keepM_succ _ _ _
 rw [show keepM (fun c => !(S c)) sh.length fl = A sh.length by rw [hA]]
 refine acall_of_wc (rs := []) (m := 41) [(3, [(25, false, false, [])])] oNone_ok (by kernel_rfl) Tryz.func30 rfl (by kernel_rfl) rfl rfl (by kernel_rfl) ?_
 simp only [RT, FS, ↓RE, okR, argEnv, Nat.reduceAdd, Nat.reduceSub, Nat.reduceLT, Nat.reduceLeDiff, Nat.reduceEqDiff, reduceIte, RM, List.length_map]
 refine loopV (ι := Nat) oNone_ok [(3, [(25, false, false, [])])] (fun i => [(0, .ptr 4 0), (12, .int .i64 (sh.length : Int)), (13, .int .i64 (i : Int))])
  (fun i => [(3, .map (bkv dn)), (2, .map (bkv (A i))), (4, .box [.ref [.int .i64 sw, .int .i64 sd, shD sh, rlD rl, lkD lk, .int .i64 cell, .int .i64 mi, .int .i64 ev, .int .i64 en, inD af, msD kn, .int .i64 now] 0, .int .i64 t, .mp 2, .mp 3])]) 5
  (fun i => i ≤ sh.length) (fun i => sh.length - i) 0 (by kernel_rfl) (by kernel_rfl) (Nat.zero_le _) ?_ ?_
 ·rw [hA0]
  simp [headW, heapW, envW, blkLt, D.ltL, D.lt, look, hget, bkv_lt]
 intro i hil
 rcases Nat.lt_or_ge i sh.length with hlt | hge
 ·have hc := nat_lt_true hlt
  have hw1 := wrap_i64 (z := (i : Int) + 1) (by omega) (by omega)
  have g1 := fun h (hb : hget h 2 = some (.map (bkv (A i)))) => bm_get hb (i : Int)
  have a1 := hAS i
  have hp := fun x h nid (hb : hget h 2 = some (.map (bkv (A i)))) => bm_put hb nid (i : Int) x
  have s1 := psd i (hin i hlt)
  generalize (gget (A i) (i : Int)).getD false = x at *
  cases x
  ·simp only [RT, FS, ↓RE, okR, argEnv, Nat.reduceAdd, Nat.reduceSub, Nat.reduceLT, Nat.reduceLeDiff, Nat.reduceEqDiff, reduceIte, RM, hc, decide_true, g1, hp, hw1]
   exact ⟨i + 1, by omega, by omega, by rw [a1]; simp [headW, heapW, envW, blkLt, D.ltL, D.lt, look, hget, bkv_lt]⟩
  ·simp only [RT, FS, ↓RE, okR, argEnv, Nat.reduceAdd, Nat.reduceSub, Nat.reduceLT, Nat.reduceLeDiff, Nat.reduceEqDiff, reduceIte, RM, hc, decide_true, g1, hp, hw1]
   refine call_of_pure' s1 (by simp [D.ltL, D.lt]) (by simp [D.lt]) ?_
   simp only [RT, FS, ↓RE, okR, argEnv, Nat.reduceAdd, Nat.reduceSub, Nat.reduceLT, Nat.reduceLeDiff, Nat.reduceEqDiff, reduceIte, RM, hc, decide_true, g1, hp, hw1]
   exact ⟨i + 1, by omega, by omega, by rw [a1]; simp [headW, heapW, envW, blkLt, D.ltL, D.lt, look, hget, bkv_lt]⟩
 ·have hc := nat_lt_false hge
  have : i = sh.length := by omega
  subst this
  simp only [RT, FS, ↓RE, okR, argEnv, Nat.reduceAdd, Nat.reduceSub, Nat.reduceLT, Nat.reduceLeDiff, Nat.reduceEqDiff, reduceIte, RM, hc, decide_false]
  rfl
end Go.Sx

namespace Go.Sx
open Go.Proofs
set_option maxRecDepth 10000

end Go.Sx

namespace Go.Sx
open Go.Proofs
set_option maxRecDepth 10000

end Go.Sx
