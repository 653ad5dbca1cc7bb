/- Own work: contracts of functions, used in the proof of a law. -/
import Derived.Test.YtljkgnicmlhipaaSxW80w
set_option linter.unusedVariables false
set_option linter.unusedSimpArgs false
namespace Go.Sx
open Go.Proofs
set_option maxRecDepth 10000

def quickB (w : WatchW) (now : Int) : Bool := shortB w && (!(watchB w) || (decide ((w.s.sh.length : Int) ≤ 40) && (decide ((w.n.l.length : Int) ≤ 10) && decide (now - w.min ≤ 80))))
noncomputable abbrev e79q : List (FuncId × (List D → Option D)) := (12, gShort) :: e5
theorem e79q_ok : OkO Try.prog (mkO e79q) := mkO_ok (orcF_ok fun w h => short_t w h) e5_ok
set_option maxHeartbeats 1000000 in
theorem quick_t {w : WatchW} (hw : WatchL w) {now : Int} (hn : -3000 ≤ now ∧ now ≤ 3000) : Pure Try.prog 35 [.agg w.c, .int .i64 now] (.bool (quickB w now)) := by
 have o1 := gShort_eq hw
 have o3 := gWatch_eq hw
 have hm : watchB w = true → 0 ≤ w.min ∧ w.min ≤ 1440 := fun h => (watch_ok h).m
 unfold quickB
 generalize shortB w = B at *
 generalize watchB w = W at *
 obtain ⟨⟨sw, sd, sh⟩, ⟨rl, lk⟩, cell, mi, ev, en, af⟩ := w
 simp only [WatchW.c, SkyW.c, NetW.c, List.cons_append, List.nil_append] at *
 refine pure_of_pieces (rs := [.tmp 4]) (m := 33) [] e79q_ok (by kernel_rfl) Try.func35 rfl (by kernel_rfl) rfl rfl (by kernel_rfl) ?_
 refine awp_peel (T := []) e79q_ok (by kernel_rfl) (by kernel_rfl) ?_
 simp only [RT, FS, ↓RE, okR, argEnv, Nat.reduceAdd, Nat.reduceSub, Nat.reduceLT, Nat.reduceLeDiff, Nat.reduceEqDiff, reduceIte, RM]
 refine awp_rest (T := []) e79q_ok (by kernel_rfl) (by kernel_rfl) ?_
 cases B
 ·simp only [RT, FS, ↓RE, okR, argEnv, Nat.reduceAdd, Nat.reduceSub, Nat.reduceLT, Nat.reduceLeDiff, Nat.reduceEqDiff, reduceIte, RM, o1, Bool.false_and]
 cases W
 ·simp only [RT, FS, ↓RE, okR, argEnv, Nat.reduceAdd, Nat.reduceSub, Nat.reduceLT, Nat.reduceLeDiff, Nat.reduceEqDiff, reduceIte, RM, o1, o3, Bool.not_false, Bool.true_and, Bool.true_or]
 have hm := hm rfl
 have w1 := wrap_i64 (z := now - mi) (by omega) (by omega)
 cases q1 : decide ((sh.length : Int) ≤ 40)
 ·simp only [RT, FS, ↓RE, okR, argEnv, Nat.reduceAdd, Nat.reduceSub, Nat.reduceLT, Nat.reduceLeDiff, Nat.reduceEqDiff, reduceIte, RM, o1, o3, Bool.not_true, List.length_map, q1, Bool.false_and, Bool.true_and, Bool.false_or]
 cases q2 : decide ((lk.length : Int) ≤ 10)
 ·simp only [RT, FS, ↓RE, okR, argEnv, Nat.reduceAdd, Nat.reduceSub, Nat.reduceLT, Nat.reduceLeDiff, Nat.reduceEqDiff, reduceIte, RM, o1, o3, Bool.not_true, List.length_map, q1, q2, Bool.false_and, Bool.true_and, Bool.false_or]
 ·simp only [RT, FS, ↓RE, okR, argEnv, Nat.reduceAdd, Nat.reduceSub, Nat.reduceLT, Nat.reduceLeDiff, Nat.reduceEqDiff, reduceIte, RM, o1, o3, Bool.not_true, List.length_map, q1, q2, w1, Bool.false_and, Bool.true_and, Bool.false_or]
noncomputable def gQuick : List D → Option D := orcF (fun p : WatchW × Int => WatchL p.1 ∧ (-3000 ≤ p.2 ∧ p.2 ≤ 3000)) (fun p => [.agg p.1.c, .int .i64 p.2]) (fun p => .bool (quickB p.1 p.2))
theorem gQuick_eq {w : WatchW} (h : WatchL w) {now : Int} (hn : -3000 ≤ now ∧ now ≤ 3000) : gQuick [.agg w.c, .int .i64 now] = some (.bool (quickB w now)) :=
 orcF_eq (ok := fun p : WatchW × Int => WatchL p.1 ∧ (-3000 ≤ p.2 ∧ p.2 ≤ 3000)) (dsf := fun p => [.agg p.1.c, .int .i64 p.2]) (rf := fun p => .bool (quickB p.1 p.2)) (w, now) ⟨h, hn⟩ fun q hq => by
  simp only [List.cons.injEq, D.agg.injEq, D.int.injEq, and_true, true_and] at hq
  rw [WatchW.c_inj hq.1, hq.2]
noncomputable def gSnd : List D → Option D := orcF (fun p : WatchW × Int => WatchOk p.1 ∧ (-5000 ≤ p.2 ∧ p.2 ≤ 5000)) (fun p => [.agg p.1.c, .int .i64 p.2]) (fun p => .bool (sendsB p.1 p.2))
theorem gSnd_eq {w : WatchW} (h : WatchOk w) {t : Int} (ht : -5000 ≤ t ∧ t ≤ 5000) : gSnd [.agg w.c, .int .i64 t] = some (.bool (sendsB w t)) :=
 orcF_eq (ok := fun p : WatchW × Int => WatchOk p.1 ∧ (-5000 ≤ p.2 ∧ p.2 ≤ 5000)) (dsf := fun p => [.agg p.1.c, .int .i64 p.2]) (rf := fun p => .bool (sendsB p.1 p.2)) (w, t) ⟨h, ht⟩ fun q hq => by
  simp only [List.cons.injEq, D.agg.injEq, D.int.injEq, and_true, true_and] at hq
  rw [WatchW.c_inj hq.1, hq.2]
def subB (a b : List Int) : Bool := a.all fun x => b.any fun y => decide (y = x)
noncomputable abbrev e79s : List (FuncId × (List D → Option D)) := (51, gHasL) :: []
theorem e79s_ok : OkO Try.prog (mkO e79s) := mkO_ok (orcF_ok fun p h => r_Has_t p.1 h p.2) <| fun _ _ _ h => by cases h
theorem subset_t {a b : List Int} (ha : BL a) (hb : BL b) : Pure Try.prog 37 [.sl (intL a), .sl (intL b)] (.bool (subB a b)) := by
 have oH := fun n => gHasL_eq hb n
 have hal : (intL a).length = a.length := intL_len a
 unfold subB
 obtain ⟨f, hf⟩ : ∃ f : Int → Bool, f = fun x => b.any fun y => decide (y = x) := ⟨_, rfl⟩
 have hfe : ∀ x, (b.any fun y => decide (y = x)) = f x := fun x => by rw [hf]
 simp only [hfe] at oH ⊢
 clear hf hfe
 refine pure_of_wc (rs := [.tmp 4]) (m := 19) [] e79s_ok (by kernel_rfl) Try.func37 rfl (by kernel_rfl) rfl rfl (by kernel_rfl) ?_
 simp only [RT, FS, ↓RE, okR, argEnv, Nat.reduceAdd, Nat.reduceSub, Nat.reduceLT, Nat.reduceLeDiff, Nat.reduceEqDiff, reduceIte, RM]
 refine loopV (ι := Nat) e79s_ok [] (fun i => [(0, .sl (intL a)), (1, .sl (intL b)), (5, .int .i64 (i : Int))]) (fun i => []) 0 (fun i => i ≤ a.length ∧ (a.take i).all f = true) (fun i => a.length - i) 0 (by kernel_rfl) (by kernel_rfl) ⟨Nat.zero_le _, by simp⟩ ?_ ?_
 ·simp [headW, heapW, envW, blkLt, D.ltL, D.lt, look, hget]
 rintro i ⟨hil, hok⟩
 rcases Nat.lt_or_ge i a.length with hlt | hge
 ·have hc := nat_lt_true hlt
  obtain ⟨x, hx⟩ : ∃ x, a[i]? = some x := ⟨a[i], by simp [hlt]⟩
  have ix := sI_ix hx
  have hw1 := wrap_i64 (z := (i : Int) + 1) (by simp only [BL] at ha; omega) (by simp only [BL] at ha; omega)
  have oH := oH x
  cases q : f x
  ·rw [q] at oH
   simp only [RT, FS, ↓RE, okR, argEnv, Nat.reduceAdd, Nat.reduceSub, Nat.reduceLT, Nat.reduceLeDiff, Nat.reduceEqDiff, reduceIte, RM, hal, hc, decide_true, ix, oH, Bool.not_false]
   have : a.all f = false := by
    rw [Bool.eq_false_iff]
    intro h
    have := List.all_eq_true.1 h x (List.mem_of_getElem? hx)
    rw [q] at this; cases this
   rw [this]
  ·rw [q] at oH
   simp only [RT, FS, ↓RE, okR, argEnv, Nat.reduceAdd, Nat.reduceSub, Nat.reduceLT, Nat.reduceLeDiff, Nat.reduceEqDiff, reduceIte, RM, hal, hc, decide_true, ix, oH, Bool.not_true, hw1]
   exact ⟨i + 1, ⟨by omega, by rw [List.take_add_one, hx, Option.toList_some, List.all_append, hok]; simp [q]⟩, by omega, by simp [headW, heapW, envW, blkLt, D.ltL, D.lt, look, hget]⟩
 ·have hc := nat_lt_false hge
  have : i = a.length := by omega
  subst this
  rw [List.take_length] at hok
  simp only [RT, FS, ↓RE, okR, argEnv, Nat.reduceAdd, Nat.reduceSub, Nat.reduceLT, Nat.reduceLeDiff, Nat.reduceEqDiff, reduceIte, RM, hal, hc, decide_false]
  rw [hok]
noncomputable def gSub : List D → Option D := orcF (fun p : List Int × List Int => BL p.1 ∧ BL p.2) (fun p => [.sl (intL p.1), .sl (intL p.2)]) (fun p => .bool (subB p.1 p.2))
theorem gSub_eq {a b : List Int} (ha : BL a) (hb : BL b) : gSub [.sl (intL a), .sl (intL b)] = some (.bool (subB a b)) :=
 orcF_eq (ok := fun p : List Int × List Int => BL p.1 ∧ BL p.2) (dsf := fun p => [.sl (intL p.1), .sl (intL p.2)]) (rf := fun p => .bool (subB p.1 p.2)) (a, b) ⟨ha, hb⟩ fun q hq => by
  simp only [List.cons.injEq, D.sl.injEq, and_true] at hq
  rw [intL_inj hq.1, intL_inj hq.2]
theorem sub_cells {N : Nat} {p q : Int → Bool} (h : ∀ c, p c = true → q c = true) : subB (cellsF N p) (cellsF N q) = true := by
 unfold subB
 rw [List.all_eq_true]
 intro x hx
 rw [List.any_eq_true]
 rw [cellsF_mem] at hx
 exact ⟨x, cellsF_mem.2 ⟨hx.1, h x hx.2⟩, by simp⟩
end Go.Sx
