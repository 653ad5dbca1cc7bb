/- Own work: contracts of functions, used in the proof of a law. -/
import Derived.Test.YtljkgnicmlhipaaGreatSxW72v
set_option linter.unusedVariables false
set_option linter.unusedSimpArgs false
namespace Go.Sx
open Go.Proofs
set_option maxRecDepth 10000

def quickB (w : WatchW) (now : Int) : Bool := shortB w && (!(watchB w) || (decide ((w.s.sh.length : Int) ≤ 40) && (decide ((w.n.l.length : Int) ≤ 10) && decide (now - w.min ≤ 80))))
noncomputable abbrev e73q : List (FuncId × (List D → Option D)) := (15, gShort) :: e5
theorem e73q_ok : OkO Tryz.prog (mkO e73q) := mkO_ok (orcF_ok fun w h => short_t w h) e5_ok
set_option maxHeartbeats 1000000 in
theorem quick_t {w : WatchW} (hw : WatchL w) {now : Int} (hn : -3000 ≤ now ∧ now ≤ 3000) : Pure Tryz.prog 7 [.agg w.c, .int .i64 now] (.bool (quickB w now)) := by
 have o1 := gShort_eq hw
 have o3 := gWatch_eq hw
 have hm : watchB w = true → 0 ≤ w.min ∧ w.min ≤ 1440 := fun h => (watch_ok h).m
 unfold quickB
 generalize shortB w = B at *
 generalize watchB w = W at *
 obtain ⟨⟨sw, sd, sh⟩, ⟨rl, lk⟩, cell, mi, ev, en, af⟩ := w
 simp only [WatchW.c, SkyW.c, NetW.c, List.cons_append, List.nil_append] at *
 refine pure_of_pieces (rs := [.tmp 4]) (m := 33) [] e73q_ok (by kernel_rfl) Tryz.func7 rfl (by kernel_rfl) rfl rfl (by kernel_rfl) ?_
 refine awp_peel (T := []) e73q_ok (by kernel_rfl) (by kernel_rfl) ?_
 simp only [FS, ↓RE, okR, argEnv, Nat.reduceAdd, Nat.reduceSub, Nat.reduceLT, Nat.reduceLeDiff, Nat.reduceEqDiff, reduceIte, RM]
 refine awp_rest (T := []) e73q_ok (by kernel_rfl) (by kernel_rfl) ?_
 cases B
 ·simp only [FS, ↓RE, okR, argEnv, Nat.reduceAdd, Nat.reduceSub, Nat.reduceLT, Nat.reduceLeDiff, Nat.reduceEqDiff, reduceIte, RM, o1, Bool.false_and]
 cases W
 ·simp only [FS, ↓RE, okR, argEnv, Nat.reduceAdd, Nat.reduceSub, Nat.reduceLT, Nat.reduceLeDiff, Nat.reduceEqDiff, reduceIte, RM, o1, o3, Bool.not_false, Bool.true_and, Bool.true_or]
 have hm := hm rfl
 have w1 := wrap_i64 (z := now - mi) (by omega) (by omega)
 cases q1 : decide ((sh.length : Int) ≤ 40)
 ·simp only [FS, ↓RE, okR, argEnv, Nat.reduceAdd, Nat.reduceSub, Nat.reduceLT, Nat.reduceLeDiff, Nat.reduceEqDiff, reduceIte, RM, o1, o3, Bool.not_true, List.length_map, q1, Bool.false_and, Bool.true_and, Bool.false_or]
 cases q2 : decide ((lk.length : Int) ≤ 10)
 ·simp only [FS, ↓RE, okR, argEnv, Nat.reduceAdd, Nat.reduceSub, Nat.reduceLT, Nat.reduceLeDiff, Nat.reduceEqDiff, reduceIte, RM, o1, o3, Bool.not_true, List.length_map, q1, q2, Bool.false_and, Bool.true_and, Bool.false_or]
 ·simp only [FS, ↓RE, okR, argEnv, Nat.reduceAdd, Nat.reduceSub, Nat.reduceLT, Nat.reduceLeDiff, Nat.reduceEqDiff, reduceIte, RM, o1, o3, Bool.not_true, List.length_map, q1, q2, w1, Bool.false_and, Bool.true_and, Bool.false_or]
noncomputable def gQuick : List D → Option D := orcF (fun p : WatchW × Int => WatchL p.1 ∧ (-3000 ≤ p.2 ∧ p.2 ≤ 3000)) (fun p => [.agg p.1.c, .int .i64 p.2]) (fun p => .bool (quickB p.1 p.2))
theorem gQuick_eq {w : WatchW} (h : WatchL w) {now : Int} (hn : -3000 ≤ now ∧ now ≤ 3000) : gQuick [.agg w.c, .int .i64 now] = some (.bool (quickB w now)) :=
 orcF_eq (ok := fun p : WatchW × Int => WatchL p.1 ∧ (-3000 ≤ p.2 ∧ p.2 ≤ 3000)) (dsf := fun p => [.agg p.1.c, .int .i64 p.2]) (rf := fun p => .bool (quickB p.1 p.2)) (w, now) ⟨h, hn⟩ fun q hq => by
  simp only [List.cons.injEq, D.agg.injEq, D.int.injEq, and_true, true_and] at hq
  rw [WatchW.c_inj hq.1, hq.2]
end Go.Sx
