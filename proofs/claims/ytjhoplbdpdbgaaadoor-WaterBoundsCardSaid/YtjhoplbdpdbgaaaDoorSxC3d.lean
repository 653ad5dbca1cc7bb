/- Own work: contracts of functions, used in the proof of a law. -/
import Derived.Test.YtjhoplbdpdbgaaaDoorSxC2d
set_option linter.unusedVariables false
set_option linter.unusedSimpArgs false
namespace Go.Sx
open Go.Proofs
set_option maxRecDepth 10000

/-- A minute of a course. -/
def stepB (g : Ga) (cs : List Int) (i : Nat) : Bool := bIn (iAt cs i) g.least g.most && (decide (i = 0) || decide (bFar (iAt cs i) (iAt cs ((i : Int) - 1)) ≤ g.rate))
def fitB (g : Ga) (cs : List Int) : Bool := decide (cs.length = 1441) && ((List.range 1441).all (stepB g cs) && g.rs.all (meetR cs))

theorem gaOk_inv {g : Ga} (h : gaOk g = true) : (∀ r ∈ g.rs, (0 ≤ r.minute ∧ r.minute ≤ 1440) ∧ (-100000 ≤ r.lo ∧ r.lo ≤ r.hi ∧ r.hi ≤ 100000) ∧ 0 ≤ r.src ∧ r.src ≤ 7) ∧ (0 ≤ g.rate ∧ g.rate ≤ 1000) ∧ (-100000 ≤ g.least ∧ g.least ≤ g.most ∧ g.most ≤ 100000) ∧ g.rs.length ≤ 30 := by
  simp only [gaOk, Bool.and_eq_true, bIn, bSpan, decide_eq_true_eq, List.all_eq_true, rdOk] at h
  exact ⟨fun r hr => let x := h.1 r hr; ⟨x.1, x.2.1, x.2.2⟩, h.2.1, h.2.2.1, h.2.2.2⟩

theorem range_all_succ {p : Nat → Bool} {i : Nat} (h : (List.range i).all p = true) (hp : p i = true) : (List.range (i + 1)).all p = true := by
  rw [List.range_succ, List.all_append, h]; simp [hp]
theorem range_all_not {p : Nat → Bool} {i n : Nat} (hi : i < n) (hp : p i = false) : (List.range n).all p = false := by
  rw [List.all_eq_false]; exact ⟨i, List.mem_range.2 hi, by simp [hp]⟩
theorem range_all_get {p : Nat → Bool} {i j : Nat} (h : (List.range i).all p = true) (hj : j < i) : p j = true := List.all_eq_true.1 h j (List.mem_range.2 hj)

theorem Fits_t (g : Ga) (cs : List Int) (hl : g.rs.length ≤ 9223372036854775807) : Pure Tryd.prog 10 [.agg g.c, .sl (iL cs)] (.bool (gaOk g && fitB g cs)) := by
  obtain ⟨a, b, c, rs⟩ := g
  dsimp only at hl
  simp only [Ga.c]
  refine pure_of_wc (rs := [.tmp 4]) (m := 51) [(6, [(23, false, false, [])])] (o5_ok) (by kernel_rfl) Tryd.func10 rfl (by kernel_rfl) rfl rfl (by kernel_rfl) ?_
  cases hga : gaOk ⟨a, b, c, rs⟩
  · simp only [FT, ↓RD, RU, okR, Bool.true_or, Bool.or_true, argEnv, List.length_cons, List.length_nil, List.map_cons, List.map_nil, List.getElem?_cons_zero, List.getElem?_cons_succ, List.drop_zero, List.drop_succ_cons, List.take_succ_cons, List.take_zero, List.all_cons, List.all_nil, Option.map_some, Bool.and_self, Bool.and_true, true_and, and_true, and_self, Nat.reduceAdd, Nat.reduceSub, Nat.reduceLT, Nat.reduceLeDiff, Nat.reduceEqDiff, Nat.zero_add, Nat.add_zero, ne_eq, not_false_eq_true, reduceIte, Bool.not_true, Bool.not_false, Nat.le_refl, gGa_eq _ _ _ _ hl, hga, Bool.false_and]
  by_cases hlen : cs.length = 1441
  rotate_left
  · have hne : ((cs.length : Int) != 1441) = true := by simp; omega
    simp only [FT, ↓RD, RU, okR, Bool.true_or, Bool.or_true, argEnv, List.length_cons, List.length_nil, List.map_cons, List.map_nil, List.getElem?_cons_zero, List.getElem?_cons_succ, List.drop_zero, List.drop_succ_cons, List.take_succ_cons, List.take_zero, List.all_cons, List.all_nil, Option.map_some, Bool.and_self, Bool.and_true, true_and, and_true, and_self, Nat.reduceAdd, Nat.reduceSub, Nat.reduceLT, Nat.reduceLeDiff, Nat.reduceEqDiff, Nat.zero_add, Nat.add_zero, ne_eq, not_false_eq_true, reduceIte, Bool.not_true, Bool.not_false, Nat.le_refl, gGa_eq _ _ _ _ hl, hga, iL_length, hne]
    simp [fitB, hlen]
  have hne : ((cs.length : Int) != 1441) = false := by simp; omega
  obtain ⟨hrs, hrate, hspan, _⟩ := gaOk_inv hga
  dsimp only at hrs hrate hspan
  simp only [FT, ↓RD, RU, okR, Bool.true_or, Bool.or_true, argEnv, List.length_cons, List.length_nil, List.map_cons, List.map_nil, List.getElem?_cons_zero, List.getElem?_cons_succ, List.drop_zero, List.drop_succ_cons, List.take_succ_cons, List.take_zero, List.all_cons, List.all_nil, Option.map_some, Bool.and_self, Bool.and_true, true_and, and_true, and_self, Nat.reduceAdd, Nat.reduceSub, Nat.reduceLT, Nat.reduceLeDiff, Nat.reduceEqDiff, Nat.zero_add, Nat.add_zero, ne_eq, not_false_eq_true, reduceIte, Bool.not_true, Bool.not_false, Nat.le_refl, gGa_eq _ _ _ _ hl, hga, iL_length, hne]
  refine loopV (ι := Nat) o5_ok [(6, [(23, false, false, [])])] (fun i => [(2, .ptr 0 0), (3, .ptr 1 0), (15, .sl (iL cs)), (16, .int .i64 (cs.length : Int)), (17, .int .i64 (i : Int))])
    (fun i => [(1, .box [.sl (iL cs)]), (0, .box [.int .i64 a, .int .i64 b, .int .i64 c, .sl (rs.map Rd.d)])]) 2 (fun i => i ≤ 1441 ∧ (List.range i).all (stepB ⟨a, b, c, rs⟩ cs) = true) (fun i => 1441 - i) 0 (by kernel_rfl) (by kernel_rfl) ⟨Nat.zero_le _, by simp⟩ ?_ ?_
  · simp [headW, heapW, envW, blkLt, D.ltL, D.lt, look, hget]
  rintro i ⟨hil, hok⟩
  rcases Nat.lt_or_ge i 1441 with hlt | hge
  · have hc : ((i : Int) < (cs.length : Int)) = True := by simp; omega
    have hix := fun hp => ix_i Fz.und_25 Fz.size_3 (l := cs) (m := (i : Int)) (by omega) (by omega) hp
    have hw := wrap_i64 (z := (i : Int) + 1) (by omega) (by omega)
    have hf : stepB ⟨a, b, c, rs⟩ cs i = false → fitB ⟨a, b, c, rs⟩ cs = false := fun hp => by simp [fitB, range_all_not hlt hp]
    cases hin : bIn (iAt cs (i : Int)) b c
    · simp only [FT, ↓RD, RU, okR, Bool.true_or, Bool.or_true, argEnv, List.length_cons, List.length_nil, List.map_cons, List.map_nil, List.getElem?_cons_zero, List.getElem?_cons_succ, List.drop_zero, List.drop_succ_cons, List.take_succ_cons, List.take_zero, List.all_cons, List.all_nil, Option.map_some, Bool.and_self, Bool.and_true, true_and, and_true, and_self, Nat.reduceAdd, Nat.reduceSub, Nat.reduceLT, Nat.reduceLeDiff, Nat.reduceEqDiff, Nat.zero_add, Nat.add_zero, ne_eq, not_false_eq_true, reduceIte, Bool.not_true, Bool.not_false, Nat.le_refl, hix, hc, decide_true, gIn_eq, hin]
      simp [hf (by simp [stepB, hin])]
    by_cases hi0 : i = 0
    · have hp : ((0 : Int) < (i : Int)) = False := by simp [hi0]
      simp only [FT, ↓RD, RU, okR, Bool.true_or, Bool.or_true, argEnv, List.length_cons, List.length_nil, List.map_cons, List.map_nil, List.getElem?_cons_zero, List.getElem?_cons_succ, List.drop_zero, List.drop_succ_cons, List.take_succ_cons, List.take_zero, List.all_cons, List.all_nil, Option.map_some, Bool.and_self, Bool.and_true, true_and, and_true, and_self, Nat.reduceAdd, Nat.reduceSub, Nat.reduceLT, Nat.reduceLeDiff, Nat.reduceEqDiff, Nat.zero_add, Nat.add_zero, ne_eq, not_false_eq_true, reduceIte, Bool.not_true, Bool.not_false, Nat.le_refl, hix, hc, decide_true, gIn_eq, hin, hp, decide_false, hw]
      exact ⟨i + 1, ⟨by omega, range_all_succ hok (by simp only [stepB, hin, Bool.true_and]; simp [hi0])⟩, by omega, by simp [headW, heapW, envW, blkLt, D.ltL, D.lt, look, hget]⟩
    have hp : ((0 : Int) < (i : Int)) = True := by simp; omega
    have hw2 := wrap_i64 (z := (i : Int) - 1) (by omega) (by omega)
    have hix2 := fun hp => ix_i Fz.und_25 Fz.size_3 (l := cs) (m := (i : Int) - 1) (by omega) (by omega) hp
    have hprev := range_all_get hok (show i - 1 < i by omega)
    have hb1 : b ≤ iAt cs (i : Int) ∧ iAt cs (i : Int) ≤ c := by simpa [bIn] using hin
    have hb2 : b ≤ iAt cs ((i : Int) - 1) ∧ iAt cs ((i : Int) - 1) ≤ c := by
      simp only [stepB, Bool.and_eq_true, bIn, decide_eq_true_eq] at hprev
      have := hprev.1
      rwa [show ((i - 1 : Nat) : Int) = (i : Int) - 1 by omega] at this
    have hfar := gFar_eq (x := iAt cs (i : Int)) (y := iAt cs ((i : Int) - 1)) (by omega)
    by_cases hr : bFar (iAt cs (i : Int)) (iAt cs ((i : Int) - 1)) ≤ a
    · have hd : decide (a < bFar (iAt cs (i : Int)) (iAt cs ((i : Int) - 1))) = false := by simp; omega
      simp only [FT, ↓RD, RU, okR, Bool.true_or, Bool.or_true, argEnv, List.length_cons, List.length_nil, List.map_cons, List.map_nil, List.getElem?_cons_zero, List.getElem?_cons_succ, List.drop_zero, List.drop_succ_cons, List.take_succ_cons, List.take_zero, List.all_cons, List.all_nil, Option.map_some, Bool.and_self, Bool.and_true, true_and, and_true, and_self, Nat.reduceAdd, Nat.reduceSub, Nat.reduceLT, Nat.reduceLeDiff, Nat.reduceEqDiff, Nat.zero_add, Nat.add_zero, ne_eq, not_false_eq_true, reduceIte, Bool.not_true, Bool.not_false, Nat.le_refl, hix, hix2, hc, decide_true, gIn_eq, hin, hp, hw, hw2, hfar, hd]
      exact ⟨i + 1, ⟨by omega, range_all_succ hok (by simp [stepB, hin, hr])⟩, by omega, by simp [headW, heapW, envW, blkLt, D.ltL, D.lt, look, hget]⟩
    · have hd : decide (a < bFar (iAt cs (i : Int)) (iAt cs ((i : Int) - 1))) = true := by simp; omega
      simp only [FT, ↓RD, RU, okR, Bool.true_or, Bool.or_true, argEnv, List.length_cons, List.length_nil, List.map_cons, List.map_nil, List.getElem?_cons_zero, List.getElem?_cons_succ, List.drop_zero, List.drop_succ_cons, List.take_succ_cons, List.take_zero, List.all_cons, List.all_nil, Option.map_some, Bool.and_self, Bool.and_true, true_and, and_true, and_self, Nat.reduceAdd, Nat.reduceSub, Nat.reduceLT, Nat.reduceLeDiff, Nat.reduceEqDiff, Nat.zero_add, Nat.add_zero, ne_eq, not_false_eq_true, reduceIte, Bool.not_true, Bool.not_false, Nat.le_refl, hix, hix2, hc, decide_true, gIn_eq, hin, hp, hw, hw2, hfar, hd]
      simp [hf (by simp [stepB, hin, hr, hi0])]
  · have hc : ((i : Int) < (cs.length : Int)) = False := by simp; omega
    have : i = 1441 := by omega
    subst this
    have hmin : ∀ r ∈ rs, 0 ≤ r.minute ∧ r.minute < cs.length := fun r hr => by have := (hrs r hr).1; omega
    simp only [FT, ↓RD, RU, okR, Bool.true_or, Bool.or_true, argEnv, List.length_cons, List.length_nil, List.map_cons, List.map_nil, List.getElem?_cons_zero, List.getElem?_cons_succ, List.drop_zero, List.drop_succ_cons, List.take_succ_cons, List.take_zero, List.all_cons, List.all_nil, Option.map_some, Bool.and_self, Bool.and_true, true_and, and_true, and_self, Nat.reduceAdd, Nat.reduceSub, Nat.reduceLT, Nat.reduceLeDiff, Nat.reduceEqDiff, Nat.zero_add, Nat.add_zero, ne_eq, not_false_eq_true, reduceIte, Bool.not_true, Bool.not_false, Nat.le_refl, hc, decide_false, gHas_eq hl hmin]
    have : (rs.any fun r => !meetR cs r) = !(rs.all (meetR cs)) := by
      rw [List.any_eq_not_all_not]; simp
    simp [fitB, hlen, hok, this]

theorem rFits_t (g : Ga) (cs : List Int) (hga : gaOk g = true) : Pure Tryd.prog 12 [.agg g.c, .sl (iL cs)] (.bool (fitB g cs)) := by
  obtain ⟨a, b, c, rs⟩ := g
  simp only [Ga.c]
  obtain ⟨hrs, hrate, hspan, hl⟩ := gaOk_inv hga
  dsimp only at hrs hrate hspan hl
  refine pure_of_wc (rs := [.tmp 4]) (m := 75) [(6, [(33, false, false, [])]), (12, [(13, false, false, [])])] (o5_ok) (by kernel_rfl) Tryd.func12 rfl (by kernel_rfl) rfl rfl (by kernel_rfl) ?_
  by_cases hlen : cs.length = 1441
  rotate_left
  · have hne : ((cs.length : Int) != 1441) = true := by simp; omega
    simp only [FT, ↓RD, RU, okR, Bool.true_or, Bool.or_true, argEnv, List.length_cons, List.length_nil, List.map_cons, List.map_nil, List.getElem?_cons_zero, List.getElem?_cons_succ, List.drop_zero, List.drop_succ_cons, List.take_succ_cons, List.take_zero, List.all_cons, List.all_nil, Option.map_some, Bool.and_self, Bool.and_true, true_and, and_true, and_self, Nat.reduceAdd, Nat.reduceSub, Nat.reduceLT, Nat.reduceLeDiff, Nat.reduceEqDiff, Nat.zero_add, Nat.add_zero, ne_eq, not_false_eq_true, reduceIte, Bool.not_true, Bool.not_false, Nat.le_refl, iL_length, hne]
    simp [fitB, hlen]
  have hne : ((cs.length : Int) != 1441) = false := by simp; omega
  simp only [FT, ↓RD, RU, okR, Bool.true_or, Bool.or_true, argEnv, List.length_cons, List.length_nil, List.map_cons, List.map_nil, List.getElem?_cons_zero, List.getElem?_cons_succ, List.drop_zero, List.drop_succ_cons, List.take_succ_cons, List.take_zero, List.all_cons, List.all_nil, Option.map_some, Bool.and_self, Bool.and_true, true_and, and_true, and_self, Nat.reduceAdd, Nat.reduceSub, Nat.reduceLT, Nat.reduceLeDiff, Nat.reduceEqDiff, Nat.zero_add, Nat.add_zero, ne_eq, not_false_eq_true, reduceIte, Bool.not_true, Bool.not_false, Nat.le_refl, iL_length, hne]
  refine loopV (ι := Nat) o5_ok [(6, [(33, false, false, [])]), (12, [(13, false, false, [])])] (fun i => [(1, .sl (iL cs)), (2, .ptr 0 0), (5, .int .i64 (i : Int))])
    (fun i => [(0, .box [.int .i64 a, .int .i64 b, .int .i64 c, .sl (rs.map Rd.d)])]) 1 (fun i => i ≤ 1441 ∧ (List.range i).all (stepB ⟨a, b, c, rs⟩ cs) = true) (fun i => 1441 - i) 0 (by kernel_rfl) (by kernel_rfl) ⟨Nat.zero_le _, by simp⟩ ?_ ?_
  · simp [headW, heapW, envW, blkLt, D.ltL, D.lt, look, hget]
  rintro i ⟨hil, hok⟩
  rcases Nat.lt_or_ge i 1441 with hlt | hge
  · have hc : ((i : Int) < (cs.length : Int)) = True := by simp; omega
    have hix := fun hp => ix_i Fz.und_25 Fz.size_3 (l := cs) (m := (i : Int)) (by omega) (by omega) hp
    have hw := wrap_i64 (z := (i : Int) + 1) (by omega) (by omega)
    have hf : stepB ⟨a, b, c, rs⟩ cs i = false → fitB ⟨a, b, c, rs⟩ cs = false := fun hp => by simp [fitB, range_all_not hlt hp]
    cases hin : bIn (iAt cs (i : Int)) b c
    · simp only [FT, ↓RD, RU, okR, Bool.true_or, Bool.or_true, argEnv, List.length_cons, List.length_nil, List.map_cons, List.map_nil, List.getElem?_cons_zero, List.getElem?_cons_succ, List.drop_zero, List.drop_succ_cons, List.take_succ_cons, List.take_zero, List.all_cons, List.all_nil, Option.map_some, Bool.and_self, Bool.and_true, true_and, and_true, and_self, Nat.reduceAdd, Nat.reduceSub, Nat.reduceLT, Nat.reduceLeDiff, Nat.reduceEqDiff, Nat.zero_add, Nat.add_zero, ne_eq, not_false_eq_true, reduceIte, Bool.not_true, Bool.not_false, Nat.le_refl, iL_length, hix, hc, decide_true, gIn_eq, hin]
      simp [hf (by simp [stepB, hin])]
    by_cases hi0 : i = 0
    · have hp : ((0 : Int) < (i : Int)) = False := by simp [hi0]
      simp only [FT, ↓RD, RU, okR, Bool.true_or, Bool.or_true, argEnv, List.length_cons, List.length_nil, List.map_cons, List.map_nil, List.getElem?_cons_zero, List.getElem?_cons_succ, List.drop_zero, List.drop_succ_cons, List.take_succ_cons, List.take_zero, List.all_cons, List.all_nil, Option.map_some, Bool.and_self, Bool.and_true, true_and, and_true, and_self, Nat.reduceAdd, Nat.reduceSub, Nat.reduceLT, Nat.reduceLeDiff, Nat.reduceEqDiff, Nat.zero_add, Nat.add_zero, ne_eq, not_false_eq_true, reduceIte, Bool.not_true, Bool.not_false, Nat.le_refl, iL_length, hix, hc, decide_true, gIn_eq, hin, hp, decide_false, hw]
      exact ⟨i + 1, ⟨by omega, range_all_succ hok (by simp only [stepB, hin, Bool.true_and]; simp [hi0])⟩, by omega, by simp [headW, heapW, envW, blkLt, D.ltL, D.lt, look, hget]⟩
    have hp : ((0 : Int) < (i : Int)) = True := by simp; omega
    have hw2 := wrap_i64 (z := (i : Int) - 1) (by omega) (by omega)
    have hix2 := fun hp => ix_i Fz.und_25 Fz.size_3 (l := cs) (m := (i : Int) - 1) (by omega) (by omega) hp
    have hprev := range_all_get hok (show i - 1 < i by omega)
    have hb1 : b ≤ iAt cs (i : Int) ∧ iAt cs (i : Int) ≤ c := by simpa [bIn] using hin
    have hb2 : b ≤ iAt cs ((i : Int) - 1) ∧ iAt cs ((i : Int) - 1) ≤ c := by
      simp only [stepB, Bool.and_eq_true, bIn, decide_eq_true_eq] at hprev
      have := hprev.1
      rwa [show ((i - 1 : Nat) : Int) = (i : Int) - 1 by omega] at this
    have hw3 := wrap_i64 (z := iAt cs (i : Int) - iAt cs ((i : Int) - 1)) (by omega) (by omega)
    have hw4 := wrap_i64 (z := 0 - a) (by omega) (by omega)
    have heq : bIn (iAt cs (i : Int) - iAt cs ((i : Int) - 1)) (0 - a) a = decide (bFar (iAt cs (i : Int)) (iAt cs ((i : Int) - 1)) ≤ a) := by
      simp only [bIn, bFar, ← Bool.decide_and]
      congr 1
      simp only [eq_iff_iff]; omega
    by_cases hr : bFar (iAt cs (i : Int)) (iAt cs ((i : Int) - 1)) ≤ a
    · have hd : decide (bFar (iAt cs (i : Int)) (iAt cs ((i : Int) - 1)) ≤ a) = true := by simpa using hr
      simp only [FT, ↓RD, RU, okR, Bool.true_or, Bool.or_true, argEnv, List.length_cons, List.length_nil, List.map_cons, List.map_nil, List.getElem?_cons_zero, List.getElem?_cons_succ, List.drop_zero, List.drop_succ_cons, List.take_succ_cons, List.take_zero, List.all_cons, List.all_nil, Option.map_some, Bool.and_self, Bool.and_true, true_and, and_true, and_self, Nat.reduceAdd, Nat.reduceSub, Nat.reduceLT, Nat.reduceLeDiff, Nat.reduceEqDiff, Nat.zero_add, Nat.add_zero, ne_eq, not_false_eq_true, reduceIte, Bool.not_true, Bool.not_false, Nat.le_refl, iL_length, hix, hix2, hc, decide_true, gIn_eq, hin, hp, hw, hw2, hw3, hw4, heq, hd]
      exact ⟨i + 1, ⟨by omega, range_all_succ hok (by simp [stepB, hin, hr])⟩, by omega, by simp [headW, heapW, envW, blkLt, D.ltL, D.lt, look, hget]⟩
    · have hd : decide (bFar (iAt cs (i : Int)) (iAt cs ((i : Int) - 1)) ≤ a) = false := by simpa using hr
      simp only [FT, ↓RD, RU, okR, Bool.true_or, Bool.or_true, argEnv, List.length_cons, List.length_nil, List.map_cons, List.map_nil, List.getElem?_cons_zero, List.getElem?_cons_succ, List.drop_zero, List.drop_succ_cons, List.take_succ_cons, List.take_zero, List.all_cons, List.all_nil, Option.map_some, Bool.and_self, Bool.and_true, true_and, and_true, and_self, Nat.reduceAdd, Nat.reduceSub, Nat.reduceLT, Nat.reduceLeDiff, Nat.reduceEqDiff, Nat.zero_add, Nat.add_zero, ne_eq, not_false_eq_true, reduceIte, Bool.not_true, Bool.not_false, Nat.le_refl, iL_length, hix, hix2, hc, decide_true, gIn_eq, hin, hp, hw, hw2, hw3, hw4, heq, hd]
      simp [hf (by simp [stepB, hin, hr, hi0])]
  · have hc : ((i : Int) < (cs.length : Int)) = False := by simp; omega
    have : i = 1441 := by omega
    subst this
    simp only [FT, ↓RD, RU, okR, Bool.true_or, Bool.or_true, argEnv, List.length_cons, List.length_nil, List.map_cons, List.map_nil, List.getElem?_cons_zero, List.getElem?_cons_succ, List.drop_zero, List.drop_succ_cons, List.take_succ_cons, List.take_zero, List.all_cons, List.all_nil, Option.map_some, Bool.and_self, Bool.and_true, true_and, and_true, and_self, Nat.reduceAdd, Nat.reduceSub, Nat.reduceLT, Nat.reduceLeDiff, Nat.reduceEqDiff, Nat.zero_add, Nat.add_zero, ne_eq, not_false_eq_true, reduceIte, Bool.not_true, Bool.not_false, Nat.le_refl, iL_length, hc, decide_false]
    refine loopV (ι := Nat) o5_ok [(6, [(33, false, false, [])]), (12, [(13, false, false, [])])] (fun i => [(1, .sl (iL cs)), (2, .ptr 0 0), (6, .int .i64 (i : Int))])
      (fun i => [(0, .box [.int .i64 a, .int .i64 b, .int .i64 c, .sl (rs.map Rd.d)])]) 1 (fun i => i ≤ rs.length ∧ (rs.take i).all (meetR cs) = true) (fun i => rs.length - i) 0 (by kernel_rfl) (by kernel_rfl) ⟨Nat.zero_le _, by simp⟩ ?_ ?_
    · simp [headW, heapW, envW, blkLt, D.ltL, D.lt, look, hget]
    rintro i ⟨hil, hok2⟩
    rcases Nat.lt_or_ge i rs.length with hlt | hge
    · have hc : ((i : Int) < (rs.length : Int)) = True := by simp [hlt]
      obtain ⟨r, hr⟩ : ∃ r, rs[i]? = some r := ⟨rs[i], by simp [hlt]⟩
      have hix := fun h => ix_rd Fz.und_22 Fz.size_74 hr h
      have hm := (hrs r (List.mem_of_getElem? hr)).1
      have hix2 := fun hp => ix_i Fz.und_25 Fz.size_3 (l := cs) (m := r.minute) (by omega) (by omega) hp
      have hw := wrap_i64 (z := (i : Int) + 1) (by omega) (by omega)
      cases hmt : bIn (iAt cs r.minute) r.lo r.hi
      · simp only [FT, ↓RD, RU, okR, Bool.true_or, Bool.or_true, argEnv, List.length_cons, List.length_nil, List.map_cons, List.map_nil, List.getElem?_cons_zero, List.getElem?_cons_succ, List.drop_zero, List.drop_succ_cons, List.take_succ_cons, List.take_zero, List.all_cons, List.all_nil, Option.map_some, Bool.and_self, Bool.and_true, true_and, and_true, and_self, Nat.reduceAdd, Nat.reduceSub, Nat.reduceLT, Nat.reduceLeDiff, Nat.reduceEqDiff, Nat.zero_add, Nat.add_zero, ne_eq, not_false_eq_true, reduceIte, Bool.not_true, Bool.not_false, Nat.le_refl, List.length_map, hix, hix2, hc, decide_true, gIn_eq, hmt]
        simp [fitB, all_not hr (show meetR cs r = false from hmt)]
      · simp only [FT, ↓RD, RU, okR, Bool.true_or, Bool.or_true, argEnv, List.length_cons, List.length_nil, List.map_cons, List.map_nil, List.getElem?_cons_zero, List.getElem?_cons_succ, List.drop_zero, List.drop_succ_cons, List.take_succ_cons, List.take_zero, List.all_cons, List.all_nil, Option.map_some, Bool.and_self, Bool.and_true, true_and, and_true, and_self, Nat.reduceAdd, Nat.reduceSub, Nat.reduceLT, Nat.reduceLeDiff, Nat.reduceEqDiff, Nat.zero_add, Nat.add_zero, ne_eq, not_false_eq_true, reduceIte, Bool.not_true, Bool.not_false, Nat.le_refl, List.length_map, hix, hix2, hc, decide_true, gIn_eq, hmt, hw]
        exact ⟨i + 1, ⟨by omega, all_take hr hok2 hmt⟩, by omega, by simp [headW, heapW, envW, blkLt, D.ltL, D.lt, look, hget]⟩
    · have hc : ((i : Int) < (rs.length : Int)) = False := by simp; omega
      have : i = rs.length := by omega
      subst this
      rw [List.take_length] at hok2
      simp only [FT, ↓RD, RU, okR, Bool.true_or, Bool.or_true, argEnv, List.length_cons, List.length_nil, List.map_cons, List.map_nil, List.getElem?_cons_zero, List.getElem?_cons_succ, List.drop_zero, List.drop_succ_cons, List.take_succ_cons, List.take_zero, List.all_cons, List.all_nil, Option.map_some, Bool.and_self, Bool.and_true, true_and, and_true, and_self, Nat.reduceAdd, Nat.reduceSub, Nat.reduceLT, Nat.reduceLeDiff, Nat.reduceEqDiff, Nat.zero_add, Nat.add_zero, ne_eq, not_false_eq_true, reduceIte, Bool.not_true, Bool.not_false, Nat.le_refl, List.length_map, hc, decide_false]
      simp [fitB, hlen, hok, hok2]

theorem tySpan {n : Nat} {ds : List D} (h : TyD Tryd.prog n 45 ds) : ∃ a b, ds = [.int .i64 a, .int .i64 b] := by
  obtain ⟨hl, m, hf⟩ := tySt Tryd.underlying45 (by decide +kernel) h
  obtain ⟨a, b, rfl⟩ := list2 (hl.trans (by kernel_rfl))
  obtain ⟨x, hx, _⟩ := tyInt Fz.und_3 (hf 0 _ rfl)
  obtain ⟨y, hy, _⟩ := tyInt Fz.und_3 (hf 1 _ rfl)
  cases hx; cases hy
  exact ⟨x, y, rfl⟩
theorem tyRd {n : Nat} {ds : List D} (h : TyD Tryd.prog n 74 ds) : ∃ r : Rd, ds = r.d := by
  obtain ⟨hl, m, hf⟩ := tySt Tryd.underlying74 (by decide +kernel) h
  obtain ⟨a, b, c, d, rfl⟩ := list4 (hl.trans (by kernel_rfl))
  obtain ⟨x, hx, _⟩ := tyInt Fz.und_3 (hf 0 _ rfl)
  obtain ⟨y, z, hy⟩ := tySpan (hf 1 _ rfl)
  obtain ⟨s, hs, _⟩ := tyInt Fz.und_3 (hf 2 _ rfl)
  cases hx; cases hy; cases hs
  exact ⟨⟨x, y, z, s⟩, rfl⟩
theorem tyGa {n : Nat} {ds : List D} (h : TyD Tryd.prog n 24 ds) : ∃ g : Ga, ds = g.c ∧ g.rs.length ≤ 9223372036854775807 := by
  obtain ⟨hl, m, hf⟩ := tySt Tryd.underlying24 (by decide +kernel) h
  obtain ⟨a, b, c, d, rfl⟩ := list4 (hl.trans (by kernel_rfl))
  obtain ⟨x, hx, _⟩ := tyInt Fz.und_3 (hf 0 _ rfl)
  obtain ⟨y, hy, _⟩ := tyInt Fz.und_3 (hf 1 _ rfl)
  obtain ⟨z, hz, _⟩ := tyInt Fz.und_3 (hf 2 _ rfl)
  obtain ⟨es, m', hs, hle, he⟩ := tySl Fz.und_22 (by decide +kernel) (hf 3 _ rfl)
  obtain ⟨rs, rfl⟩ := list_map (f := Rd.d) fun c hc => tyRd (he c hc).2
  cases hx; cases hy; cases hz; cases hs
  refine ⟨⟨x, y, z, rs⟩, rfl, ?_⟩
  have : maxLen ≤ 9223372036854775807 := by decide
  simp at hle
  exact Nat.le_trans hle this
theorem tyIs {n : Nat} {ds : List D} (h : TyD Tryd.prog n 25 ds) : ∃ cs : List Int, ds = [.sl (iL cs)] ∧ cs.length ≤ 9223372036854775807 := by
  obtain ⟨es, m', hs, hle, he⟩ := tySl Fz.und_25 (by decide +kernel) h
  obtain ⟨cs, rfl⟩ := list_map (f := fun x => [D.int .i64 x]) fun c hc => let ⟨x, hx, _⟩ := tyInt Fz.und_3 (he c hc).2; ⟨x, hx⟩
  have : maxLen ≤ 9223372036854775807 := by decide
  simp at hle
  exact ⟨cs, hs, Nat.le_trans hle this⟩
end Go.Sx
