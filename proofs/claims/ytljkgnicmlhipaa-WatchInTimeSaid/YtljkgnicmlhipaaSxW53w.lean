/- Own work: contracts of functions, used in the proof of a law. -/
import Derived.Test.YtljkgnicmlhipaaSxW50w
set_option linter.unusedVariables false
set_option linter.unusedSimpArgs false
namespace Go.Sx
open Go.Proofs
set_option maxRecDepth 10000

/-! A flight is in a stage, or a higher one -/
def conS (t o : Int) (m : MsgW) : Int := match knB t m with | true => max o m.t | false => o
theorem contact_known (mn t : Int) (l : List MsgW) : contactI mn (knownL l t) = l.foldl (conS t) mn := by
  unfold contactI knownL
  rw [List.foldl_filter]
  congr 1
  funext o m
  unfold conS
  cases knB t m <;> rfl
theorem any_known (t : Int) (l : List MsgW) : (knownL l t).any (·.d) = l.any fun m => knB t m && m.d := by
  unfold knownL
  rw [List.any_filter]
set_option maxHeartbeats 1000000 in
theorem late_t {w : WatchW} (hw : WatchOk w) {l : List MsgW} (hl : l.length ≤ 1000) (hk : ∀ m ∈ l, 0 ≤ m.t ∧ m.t ≤ 1440) (t : Int) {ai : Nat} (hai : ai < w.aft.length) :
    Pure Try.prog 27 [.agg w.c, msD l, .int .i64 t, .int .i64 ((ai : Int) + 1)] (.bool (lateI w l t (w.aft.getD ai 0))) := by
  have hm := hw.m
  have he := hw.e
  have hlen := hw.a
  have hab := (aftB_sorted hw.f).2 (w.aft.getD ai 0) (gd_mem hai)
  obtain ⟨a, ha⟩ : ∃ a, w.aft[ai]? = some a := ⟨w.aft[ai], by simp [hai]⟩
  have hga : w.aft.getD ai 0 = a := by simp [List.getD, ha]
  unfold lateI
  rw [contact_known, any_known]
  have hct : l.foldl (conS t) w.min = l.foldl (conS t) w.min := rfl
  rw [hga] at hab ⊢
  generalize hctd : l.foldl (conS t) w.min = ct at *
  obtain ⟨⟨sw, sd, sh⟩, ⟨rl, lk⟩, cell, mi, ev, en, af⟩ := w
  dsimp only at hm he hlen ha hctd hai ⊢
  simp only [WatchW.c, SkyW.c, NetW.c, List.cons_append, List.nil_append]
  have hix0 := aft_ix ha
  have hw0 := wrap_i64 (z := (ai : Int) + 1 - 1) (by omega) (by omega)
  rw [show (ai : Int) + 1 - 1 = (ai : Int) by omega] at hw0
  have hw2 := wrap_i64 (z := mi + ev) (by omega) (by omega)
  have hw3 := wrap_i64 (z := mi + ev + a) (by omega) (by omega)
  have hs0 : IntKind.i64.wrap ((ai : Int) + 1 - 1) = (ai : Int) := by rw [show (ai : Int) + 1 - 1 = (ai : Int) by omega]; exact hw0
  refine pure_of_wc (rs := [.tmp 8]) (m := 61) [(1, [(13, false, false, [])]), (8, [(18, false, false, [])])] oNone_ok (by kernel_rfl) Try.func27 rfl (by kernel_rfl) rfl rfl (by kernel_rfl) ?_
  simp only [RT, FS, ↓RE, okR, argEnv, Nat.reduceAdd, Nat.reduceSub, Nat.reduceLT, Nat.reduceLeDiff, Nat.reduceEqDiff, reduceIte, RM, List.length_map, hs0, hix0, hw2, hw3]
  refine loopV (ι := Nat × Int) oNone_ok [(1, [(13, false, false, [])]), (8, [(18, false, false, [])])] (fun i => [(1, msD l), (2, .int .i64 t), (3, .int .i64 ((ai : Int) + 1)), (4, .ptr 0 0), (9, .int .i64 (i.2 + ev + a)), (10, .int .i64 (i.1 : Int))])
    (fun i => [(0, .box [.int .i64 sw, .int .i64 sd, shD sh, rlD rl, lkD lk, .int .i64 cell, .int .i64 mi, .int .i64 ev, .int .i64 en, inD af])]) 1
    (fun i => i.1 ≤ l.length ∧ (0 ≤ i.2 ∧ i.2 ≤ 1440) ∧ (l.take i.1).all (fun m => !(knB t m && m.d)) = true ∧ (l.drop i.1).foldl (conS t) i.2 = ct) (fun i => l.length - i.1) (0, mi) (by kernel_rfl) (by kernel_rfl) ⟨Nat.zero_le _, hm, by simp, hctd⟩ ?_ ?_
  · simp [headW, heapW, envW, blkLt, D.ltL, D.lt, look, hget]
  rintro ⟨i, o⟩ ⟨hil, hob, hok, hfo⟩
  dsimp only at hil hob hok hfo ⊢
  rcases Nat.lt_or_ge i l.length with hlt | hge
  · have hc := nat_lt_true hlt
    obtain ⟨⟨mt, c, d, came⟩, hr⟩ : ∃ r, l[i]? = some r := ⟨l[i], by simp [hlt]⟩
    have hix := msD_ix hr
    have hmt := hk _ (List.mem_of_getElem? hr)
    have hw1 := wrap_i64 (z := (i : Int) + 1) (by omega) (by omega)
    rw [drop_fold hr] at hfo
    dsimp only at hix hmt
    simp only [conS, knB] at hfo
    cases q : decide (came ≤ t)
    · rw [q] at hfo; dsimp only at hfo
      simp only [RT, FS, ↓RE, okR, argEnv, Nat.reduceAdd, Nat.reduceSub, Nat.reduceLT, Nat.reduceLeDiff, Nat.reduceEqDiff, reduceIte, RM, hc, decide_true, hix, List.length_map, q, hw1]
      exact ⟨(i + 1, o), ⟨by simp only; omega, hob, all_cut hr hok (by simp only [knB]; rw [q]; rfl), hfo⟩, by simp only; omega, by simp [headW, heapW, envW, blkLt, D.ltL, D.lt, look, hget]⟩
    rw [q] at hfo; dsimp only at hfo
    cases d
    · have hw4 := wrap_i64 (z := mt + ev) (by omega) (by omega)
      have hw5 := wrap_i64 (z := mt + ev + a) (by omega) (by omega)
      have hmx : max (o + ev + a) (mt + ev + a) = max o mt + ev + a := by omega
      simp only [RT, FS, ↓RE, okR, argEnv, Nat.reduceAdd, Nat.reduceSub, Nat.reduceLT, Nat.reduceLeDiff, Nat.reduceEqDiff, reduceIte, RM, hc, decide_true, hix, List.length_map, q, hw1, hs0, hix0, hw4, hw5, hmx]
      exact ⟨(i + 1, max o mt), ⟨by simp only; omega, by simp only; omega, all_cut hr hok (by simp), hfo⟩, by simp only; omega, by simp [headW, heapW, envW, blkLt, D.ltL, D.lt, look, hget]⟩
    · simp only [RT, FS, ↓RE, okR, argEnv, Nat.reduceAdd, Nat.reduceSub, Nat.reduceLT, Nat.reduceLeDiff, Nat.reduceEqDiff, reduceIte, RM, hc, decide_true, hix, List.length_map, q]
      rw [any_out hr (by simp only [knB]; rw [q]; rfl)]; rfl
  · have hc := nat_lt_false hge
    have : i = l.length := by omega
    subst this
    rw [List.take_length] at hok
    rw [List.drop_length] at hfo
    have ho : o = ct := hfo
    subst ho
    rw [any_none hok]
    simp only [RT, FS, ↓RE, okR, argEnv, Nat.reduceAdd, Nat.reduceSub, Nat.reduceLT, Nat.reduceLeDiff, Nat.reduceEqDiff, reduceIte, RM, hc, decide_false, List.length_map, Bool.not_false, Bool.true_and]
end Go.Sx
