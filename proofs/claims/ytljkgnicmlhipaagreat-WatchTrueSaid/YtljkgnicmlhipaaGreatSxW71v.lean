/- Own work: contracts of functions, used in the proof of a law. -/
import Derived.Test.YtljkgnicmlhipaaGreatSxW70v
import Derived.Test.YtljkgnicmlhipaaGreatSxZ29
set_option linter.unusedVariables false
set_option linter.unusedSimpArgs false
namespace Go.Sx
open Go.Proofs
set_option maxRecDepth 10000

structure SilOk (w : WatchW) (kn : List MsgW) (c t : Int) : Prop where
 wo : WatchOk w
 n : kn.length ≤ 1000
 c : InS w.s c
 t : 0 ≤ t ∧ t ≤ 1440
def silX (w : WatchW) (kn : List MsgW) (now t c : Int) : Bool := !(kn.any (seenB t c)) && (decide (0 ≤ arrivesI w c t) && decide (arrivesI w c t ≤ now))
theorem sil_eq (w : WatchW) (kn : List MsgW) (now t c : Int) : silentB w kn now t c = (sendsB w t && silX w kn now t c) := by
 unfold silentB silX
 cases sendsB w t <;> simp
theorem r_Silent_t {w : WatchW} {kn : List MsgW} {c t : Int} (h : SilOk w kn c t) (now : Int) : Pure Tryz.prog 35 [.agg w.c, msD kn, .int .i64 c, .int .i64 t, .int .i64 now] (.bool (silX w kn now t c)) := by
 have pF := r_First_t h.wo h.c h.t
 have hn := h.n
 unfold silX
 generalize arrivesI w c t = a at *
 obtain ⟨⟨sw, sd, sh⟩, ⟨rl, lk⟩, cell, mi, ev, en, af⟩ := w
 simp only [WatchW.c, SkyW.c, NetW.c, List.cons_append, List.nil_append] at pF ⊢
 refine pure_of_wc (rs := [.tmp 10]) (m := 46) [] oNone_ok (by kernel_rfl) Tryz.func35 rfl (by kernel_rfl) rfl rfl (by kernel_rfl) ?_
 simp only [RT, FS, ↓RE, okR, argEnv, Nat.reduceAdd, Nat.reduceSub, Nat.reduceLT, Nat.reduceLeDiff, Nat.reduceEqDiff, reduceIte, RM]
 refine loopV (ι := Nat) oNone_ok [] (fun i => [(1, msD kn), (2, .int .i64 c), (3, .int .i64 t), (4, .int .i64 now), (5, .ptr 0 0), (11, .int .i64 (i : Int))])
  (fun i => [(0, .box [.int .i64 sw, .int .i64 sd, shD sh, rlD rl, lkD lk, .int .i64 cell, .int .i64 mi, .int .i64 ev, .int .i64 en, inD af])]) 1 (fun i => i ≤ kn.length ∧ (kn.take i).all (fun m => !(seenB t c m)) = true) (fun i => kn.length - i) 0 (by kernel_rfl) (by kernel_rfl) ⟨Nat.zero_le _, by simp⟩ ?_ ?_
 ·simp [headW, heapW, envW, blkLt, D.ltL, D.lt, look, hget, Sx.hset, shD, inD]
 rintro i ⟨hil, hok⟩
 rcases Nat.lt_or_ge i kn.length with hlt | hge
 ·have hc := nat_lt_true hlt
  obtain ⟨⟨mt, mc, md, came⟩, hr⟩ : ∃ r, kn[i]? = some r := ⟨kn[i], by simp [hlt]⟩
  have hix := msD_ix hr
  dsimp only at hix
  have hw1 := wrap_i64 (z := (i : Int) + 1) (by omega) (by omega)
  have hsn : seenB t c ⟨mt, mc, md, came⟩ = (decide (mt = t) && decide (mc = c)) := rfl
  cases q1 : decide (mt = t)
  ·have b1 : (mt == t) = false := by simpa using q1
   simp only [RT, FS, ↓RE, okR, argEnv, Nat.reduceAdd, Nat.reduceSub, Nat.reduceLT, Nat.reduceLeDiff, Nat.reduceEqDiff, reduceIte, RM, List.length_map, hc, decide_true, hix, b1, hw1]
   exact ⟨i + 1, ⟨by omega, all_cut hr hok (by rw [hsn, q1]; rfl)⟩, by omega, by simp [headW, heapW, envW, blkLt, D.ltL, D.lt, look, hget, Sx.hset, shD, inD]⟩
  have b1 : (mt == t) = true := by simpa using q1
  cases q2 : decide (mc = c)
  ·have b2 : (mc == c) = false := by simpa using q2
   simp only [RT, FS, ↓RE, okR, argEnv, Nat.reduceAdd, Nat.reduceSub, Nat.reduceLT, Nat.reduceLeDiff, Nat.reduceEqDiff, reduceIte, RM, List.length_map, hc, decide_true, hix, b1, b2, hw1]
   exact ⟨i + 1, ⟨by omega, all_cut hr hok (by rw [hsn, q1, q2]; rfl)⟩, by omega, by simp [headW, heapW, envW, blkLt, D.ltL, D.lt, look, hget, Sx.hset, shD, inD]⟩
  ·have b2 : (mc == c) = true := by simpa using q2
   simp only [RT, FS, ↓RE, okR, argEnv, Nat.reduceAdd, Nat.reduceSub, Nat.reduceLT, Nat.reduceLeDiff, Nat.reduceEqDiff, reduceIte, RM, List.length_map, hc, decide_true, hix, b1, b2]
   rw [any_out hr (by rw [hsn, q1, q2]; rfl)]; rfl
 ·have hc := nat_lt_false hge
  have : i = kn.length := by omega
  subst this
  rw [List.take_length] at hok
  rw [any_none hok]
  simp only [Bool.not_false, Bool.true_and]
  simp only [RT, FS, ↓RE, okR, argEnv, Nat.reduceAdd, Nat.reduceSub, Nat.reduceLT, Nat.reduceLeDiff, Nat.reduceEqDiff, reduceIte, RM, List.length_map, hc, decide_false]
  refine call_of_pure pF rfl ?_
  cases q1 : decide (0 ≤ a)
  ·simp only [RT, FS, ↓RE, okR, argEnv, Nat.reduceAdd, Nat.reduceSub, Nat.reduceLT, Nat.reduceLeDiff, Nat.reduceEqDiff, reduceIte, RM, q1, Bool.false_and]
  ·simp only [RT, FS, ↓RE, okR, argEnv, Nat.reduceAdd, Nat.reduceSub, Nat.reduceLT, Nat.reduceLeDiff, Nat.reduceEqDiff, reduceIte, RM, q1, Bool.true_and]
end Go.Sx
