/- Own work: contracts of functions, used in the proof of a law. -/
import Derived.Test.YtljkgnicmlhipaaGreatSxW70v
import Derived.Test.YtljkgnicmlhipaaGreatSxZ29
set_option linter.unusedVariables false
set_option linter.unusedSimpArgs false
namespace Go.Sx
open Go.Proofs
set_option maxRecDepth 10000

structure SilOk (w : WatchW) (kn : List MsgW) (c t : Int) : Prop where
 wo : WatchOk w
 n : kn.length ≤ 1000
 c : InS w.s c
 t : 0 ≤ t ∧ t ≤ 1440
def silX (w : WatchW) (kn : List MsgW) (now t c : Int) : Bool := !(kn.any (seenB t c)) && (decide (0 ≤ arrivesI w c t) && decide (arrivesI w c t ≤ now))
theorem sil_eq (w : WatchW) (kn : List MsgW) (now t c : Int) : silentB w kn now t c = (sendsB w t && silX w kn now t c) := by
 unfold silentB silX
 cases sendsB w t <;> simp
theorem r_Silent_t {w : WatchW} {kn : List MsgW} {c t : Int} (h : SilOk w kn c t) (now : Int) : Pure Tryz.prog 35 [.agg w.c, msD kn, .int .i64 c, .int .i64 t, .int .i64 now] (.bool (silX w kn now t c)) := by
 have pF := r_First_t h.wo h.c h.t
 have hn := h.n
 unfold silX
 generalize arrivesI w c t = a at *
 obtain ⟨⟨sw, sd, sh⟩, ⟨rl, lk⟩, cell, mi, ev, en, af⟩ := w
 simp only [WatchW.c, SkyW.c, NetW.c, List.cons_append, List.nil_append] at pF ⊢
 refine pure_of_wc (rs := [.tmp 10]) (m := 46) [] oNone_ok (by kernel_rfl) Tryz.func35 rfl (by kernel_rfl) rfl rfl (by kernel_rfl) ?_
 simp only [RT, FS, ↓RE, okR, argEnv, Nat.reduceAdd, Nat.reduceSub, Nat.reduceLT, Nat.reduceLeDiff, Nat.reduceEqDiff, reduceIte, RM]
 refine loopV (ι := Nat) oNone_ok [] (fun i => [(1, msD kn), (2, .int .i64 c), (3, .int .i64 t), (4, .int .i64 now), (5, .ptr 0 0), (11, .int .i64 (i : Int))])
  (fun i => [(0, .box [.int .i64 sw, .int .i64 sd, shD sh, rlD rl, lkD lk, .int .i64 cell, .int .i64 mi, .int .i64 ev, .int .i64 en, inD af])]) 1 (fun i => i ≤ kn.length ∧ (kn.take i).all (fun m => !(seenB t c m)) = true) (fun i => kn.length - i) 0 (by kernel_rfl) (by kernel_rfl) ⟨Nat.zero_le _, by simp⟩ ?_ ?_
 ·simp [headW, heapW, envW, blkLt, D.ltL, D.lt, look, hget, Sx.hset, shD, inD]
 rintro i ⟨hil, hok⟩
 rcases Nat.lt_or_ge i kn.length with hlt | hge
 ·have hc := nat_lt_true hlt
  obtain ⟨⟨mt, mc, md, came⟩, hr⟩ : ∃ r, kn[i]? = some r := ⟨kn[i], by simp [hlt]⟩
  have hix := msD_ix hr
  dsimp only at hix
  have hw1 := wrap_i64 (z := (i : Int) + 1) (by omega) (by omega)
  have hsn : seenB t c ⟨mt, mc, md, came⟩ = (decide (mt = t) && decide (mc = c)) := rfl
  cases q1 : decide (mt = t)
  ·have b1 : (mt == t) = false := by simpa using q1
   simp only [RT, FS, ↓RE, okR, argEnv, Nat.reduceAdd, Nat.reduceSub, Nat.reduceLT, Nat.reduceLeDiff, Nat.reduceEqDiff, reduceIte, RM, List.length_map, hc, decide_true, hix, b1, hw1]
   exact ⟨i + 1, ⟨by omega, all_cut hr hok (by rw [hsn, q1]; rfl)⟩, by omega, by simp [headW, heapW, envW, blkLt, D.ltL, D.lt, look, hget, Sx.hset, shD, inD]⟩
  have b1 : (mt == t) = true := by simpa using q1
  cases q2 : decide (mc = c)
  ·have b2 : (mc == c) = false := by simpa using q2
   simp only [RT, FS, ↓RE, okR, argEnv, Nat.reduceAdd, Nat.reduceSub, Nat.reduceLT, Nat.reduceLeDiff, Nat.reduceEqDiff, reduceIte, RM, List.length_map, hc, decide_true, hix, b1, b2, hw1]
   exact ⟨i + 1, ⟨by omega, all_cut hr hok (by rw [hsn, q1, q2]; rfl)⟩, by omega, by simp [headW, heapW, envW, blkLt, D.ltL, D.lt, look, hget, Sx.hset, shD, inD]⟩
  ·have b2 : (mc == c) = true := by simpa using q2
   simp only [RT, FS, ↓RE, okR, argEnv, Nat.reduceAdd, Nat.reduceSub, Nat.reduceLT, Nat.reduceLeDiff, Nat.reduceEqDiff, reduceIte, RM, List.length_map, hc, decide_true, hix, b1, b2]
   rw [any_out hr (by rw [hsn, q1, q2]; rfl)]; rfl
 ·have hc := nat_lt_false hge
  have : i = kn.length := by omega
  subst this
  rw [List.take_length] at hok
  rw [any_none hok]
  simp only [Bool.not_false, Bool.true_and]
  simp only [RT, FS, ↓RE, okR, argEnv, Nat.reduceAdd, Nat.reduceSub, Nat.reduceLT, Nat.reduceLeDiff, Nat.reduceEqDiff, reduceIte, RM, List.length_map, hc, decide_false]
  refine call_of_pure pF rfl ?_
  cases q1 : decide (0 ≤ a)
  ·simp only [RT, FS, ↓RE, okR, argEnv, Nat.reduceAdd, Nat.reduceSub, Nat.reduceLT, Nat.reduceLeDiff, Nat.reduceEqDiff, reduceIte, RM, q1, Bool.false_and]
  ·simp only [RT, FS, ↓RE, okR, argEnv, Nat.reduceAdd, Nat.reduceSub, Nat.reduceLT, Nat.reduceLeDiff, Nat.reduceEqDiff, reduceIte, RM, q1, Bool.true_and]
set_option maxHeartbeats 2000000 in
theorem r_aroundA_t {s : SkyW} (hs : SkyOk s) (p : Int → Bool) : PureA Tryz.prog 33 [.agg s.c, shD (boolsF s.sh.length p)] 4 1 (boolL (boolsF s.sh.length (arF s p))) := by
 have hle := hs.le
 have oF := fun c => gFree_eq (s := s) (by simp only [BL]; omega) c
 have oD := fun a b (ha : InS s a) (hb : InS s b) => gDist_eq hs ha hb
 have hall := anyTo_all s p
 have hsucc := anyTo_succ s p
 have hz : ∀ i, anyTo s p i 0 = false := fun i => rfl
 generalize anyTo s p = T at *
 have hR : ∀ i, arF s p i = T i s.sh.length := fun i => (hall i).symm
 rw [show arF s p = fun i => T i s.sh.length from funext hR]
 obtain ⟨w, d, sh⟩ := s
 dsimp only at hle ⊢
 simp only [SkyW.c] at *
 have mk := fun h nid => make_b h nid sh.length (by omega)
 have hbl := boolsF_len sh.length p
 have hbg := fun i hi => boolsF_get (N := sh.length) p (i := i) hi
 generalize boolsF sh.length p = bs at *
 refine acall_of_wc (rs := [.tmp 4]) (m := 43) [] e13_ok (by kernel_rfl) Tryz.func33 rfl (by kernel_rfl) rfl rfl (by kernel_rfl) ?_
 simp only [RT, FS, ↓RE, okR, argEnv, Nat.reduceAdd, Nat.reduceSub, Nat.reduceLT, Nat.reduceLeDiff, Nat.reduceEqDiff, reduceIte, RM, List.length_map, hbl, mk]
 refine loopV (ι := Nat) e13_ok [] (fun i => [(1, shD bs), (2, .ptr 0 0), (5, .osl 1 sh.length), (6, .int .i64 (i : Int))])
  (fun i => [(1, .arr 4 1 (boolL (boolsF sh.length fun c => decide (c < (i : Int)) && T c sh.length))), (0, .box [.int .i64 w, .int .i64 d, shD sh])]) 2 (fun i => i ≤ sh.length) (fun i => sh.length - i) 0 (by kernel_rfl) (by kernel_rfl) (Nat.zero_le _) ?_ ?_
 ·have e : List.replicate sh.length false = boolsF sh.length fun c => decide (c < ((0 : Nat) : Int)) && T c sh.length := by
   refine boolsF_ext (by simp) fun i hi => ?_
   have : ¬ ((i : Int) < ((0 : Nat) : Int)) := by omega
   simp [hi]
   omega
  rw [← e]
  simp [headW, heapW, envW, blkLt, D.ltL, D.lt, look, hget, shD]
 intro i hil
 rcases Nat.lt_or_ge i sh.length with hlt | hge
 ·have hc := nat_lt_true hlt
  have hw1 := wrap_i64 (z := (i : Int) + 1) (by omega) (by omega)
  simp only [RT, FS, ↓RE, okR, argEnv, Nat.reduceAdd, Nat.reduceSub, Nat.reduceLT, Nat.reduceLeDiff, Nat.reduceEqDiff, reduceIte, RM, List.length_map, hbl, hc, decide_true]
  refine loopV (ι := Nat) e13_ok [] (fun k => [(1, shD bs), (2, .ptr 0 0), (5, .osl 1 sh.length), (6, .int .i64 (i : Int)), (7, .int .i64 (k : Int))])
   (fun k => [(1, .arr 4 1 (boolL (boolsF sh.length fun c => if c = (i : Int) then T i k else decide (c < (i : Int)) && T c sh.length))), (0, .box [.int .i64 w, .int .i64 d, shD sh])]) 2 (fun k => k ≤ sh.length) (fun k => sh.length - k) 0 (by kernel_rfl) (by kernel_rfl) (Nat.zero_le _) ?_ ?_
  ·have e : (fun c => decide (c < (i : Int)) && T c sh.length) = fun c => if c = (i : Int) then T i 0 else decide (c < (i : Int)) && T c sh.length := funext fun c => by
    by_cases e : c = (i : Int)
    ·subst e; simp [hz]
    ·simp [e]
   rw [← e]
   simp [headW, heapW, envW, blkLt, D.ltL, D.lt, look, hget, shD]
  intro k hkl
  rcases Nat.lt_or_ge k sh.length with hlt2 | hge2
  ·have hc2 := nat_lt_true hlt2
   have hw2 := wrap_i64 (z := (k : Int) + 1) (by omega) (by omega)
   have hix := shD_ix (hbg k hlt2)
   have hS := hsucc i k
   have oFi := oF i
   have oDi := oD i k ⟨by omega, by simp only; omega⟩ ⟨by omega, by simp only; omega⟩
   have hln := boolsF_len sh.length fun c => if c = (i : Int) then T i k else decide (c < (i : Int)) && T c sh.length
   have hset := boolsF_set (N := sh.length) (fun c => if c = (i : Int) then T i k else decide (c < (i : Int)) && T c sh.length) (i := i) true
   have hsame : T i (k + 1) = T i k → (fun c => if c = (i : Int) then T i (k + 1) else decide (c < (i : Int)) && T c sh.length) = fun c => if c = (i : Int) then T i k else decide (c < (i : Int)) && T c sh.length := fun e => by rw [e]
   have hnew : T i (k + 1) = true → (fun c => if c = (i : Int) then T i (k + 1) else decide (c < (i : Int)) && T c sh.length) = fun c => if c = (i : Int) then true else (if c = (i : Int) then T i k else decide (c < (i : Int)) && T c sh.length) := fun e => funext fun c => by
    rw [e]
    by_cases e2 : c = (i : Int)
    ·simp [e2]
    ·simp [e2]
   generalize (fun c => if c = (i : Int) then T i k else decide (c < (i : Int)) && T c sh.length) = F at *
   have ix := fun h (hb : hget h 1 = some (.arr 4 1 (boolL (boolsF sh.length F)))) => oB_ix (n := sh.length) hb hln hlt
   have st := fun h nid (hb : hget h 1 = some (.arr 4 1 (boolL (boolsF sh.length F)))) => oB_store (n := sh.length) hb hln hlt nid true
   cases q1 : p (k : Int)
   ·rw [q1] at hix hS
    simp only [RT, FS, ↓RE, okR, argEnv, Nat.reduceAdd, Nat.reduceSub, Nat.reduceLT, Nat.reduceLeDiff, Nat.reduceEqDiff, reduceIte, RM, List.length_map, hbl, hc2, decide_true, hix, hw2]
    exact ⟨k + 1, by omega, by omega, by rw [hsame (by rw [hS]; simp)]; simp [headW, heapW, envW, blkLt, D.ltL, D.lt, look, hget, shD]⟩
   rw [q1] at hix hS
   cases q2 : freeB sh (i : Int)
   ·rw [q2] at oFi hS
    simp only [RT, FS, ↓RE, okR, argEnv, Nat.reduceAdd, Nat.reduceSub, Nat.reduceLT, Nat.reduceLeDiff, Nat.reduceEqDiff, reduceIte, RM, List.length_map, hbl, hc2, decide_true, hix, hw2, oFi]
    exact ⟨k + 1, by omega, by omega, by rw [hsame (by rw [hS]; simp)]; simp [headW, heapW, envW, blkLt, D.ltL, D.lt, look, hget, shD]⟩
   rw [q2] at oFi hS
   cases q3 : decide (distI w (i : Int) (k : Int) ≤ 1)
   ·rw [q3] at hS
    simp only [RT, FS, ↓RE, okR, argEnv, Nat.reduceAdd, Nat.reduceSub, Nat.reduceLT, Nat.reduceLeDiff, Nat.reduceEqDiff, reduceIte, RM, List.length_map, hbl, hc2, decide_true, hix, hw2, oFi, oDi, q3]
    exact ⟨k + 1, by omega, by omega, by rw [hsame (by rw [hS]; simp)]; simp [headW, heapW, envW, blkLt, D.ltL, D.lt, look, hget, shD]⟩
   ·rw [q3] at hS
    simp only [RT, FS, ↓RE, okR, argEnv, Nat.reduceAdd, Nat.reduceSub, Nat.reduceLT, Nat.reduceLeDiff, Nat.reduceEqDiff, reduceIte, RM, List.length_map, hbl, hc2, decide_true, hix, hw2, oFi, oDi, q3, ix, st]
    exact ⟨k + 1, by omega, by omega, by rw [hnew (by rw [hS]; simp), ← hset]; simp [headW, heapW, envW, blkLt, D.ltL, D.lt, look, hget, shD]⟩
  ·have hc2 := nat_lt_false hge2
   have : k = sh.length := by omega
   subst this
   simp only [RT, FS, ↓RE, okR, argEnv, Nat.reduceAdd, Nat.reduceSub, Nat.reduceLT, Nat.reduceLeDiff, Nat.reduceEqDiff, reduceIte, RM, List.length_map, hbl, hc2, decide_false, hw1]
   refine ⟨i + 1, by omega, by omega, ?_⟩
   have e : (fun c => decide (c < ((i + 1 : Nat) : Int)) && T c sh.length) = fun c => if c = (i : Int) then T i sh.length else decide (c < (i : Int)) && T c sh.length := funext fun c => by
    by_cases e : c = (i : Int)
    ·subst e; simp; omega
    ·rw [if_neg e]
     congr 1
     rw [Bool.eq_iff_iff]; simp; omega
   rw [e]
   simp [headW, heapW, envW, blkLt, D.ltL, D.lt, look, hget, shD]
 ·have hc := nat_lt_false hge
  have : i = sh.length := by omega
  subst this
  simp only [RT, FS, ↓RE, okR, argEnv, Nat.reduceAdd, Nat.reduceSub, Nat.reduceLT, Nat.reduceLeDiff, Nat.reduceEqDiff, reduceIte, RM, List.length_map, hbl, hc, decide_false]
  have e : boolsF sh.length (fun c => decide (c < (sh.length : Int)) && T c sh.length) = boolsF sh.length fun i => T i sh.length := boolsF_congr fun c h0 h1 => by simp [h1]
  rw [e]
  exact ⟨1, by simp [boolL_len, boolsF_len], by simp [hget]⟩
end Go.Sx
