/- Own work: contracts of functions, used in the proof of a law. -/
import Derived.Test.YtljkgnicmlhipaaGreatSxW71v
set_option linter.unusedVariables false
set_option linter.unusedSimpArgs false
namespace Go.Sx
open Go.Proofs
set_option maxRecDepth 10000

noncomputable def gSil : List D → Option D := orcF (fun p : WatchW × List MsgW × Int × Int × Int => SilOk p.1 p.2.1 p.2.2.1 p.2.2.2.1) (fun p => [.agg p.1.c, msD p.2.1, .int .i64 p.2.2.1, .int .i64 p.2.2.2.1, .int .i64 p.2.2.2.2]) (fun p => .bool (silX p.1 p.2.1 p.2.2.2.2 p.2.2.2.1 p.2.2.1))
theorem gSil_eq {w : WatchW} {kn : List MsgW} {c t : Int} (h : SilOk w kn c t) (now : Int) : gSil [.agg w.c, msD kn, .int .i64 c, .int .i64 t, .int .i64 now] = some (.bool (silX w kn now t c)) :=
 orcF_eq (ok := fun p : WatchW × List MsgW × Int × Int × Int => SilOk p.1 p.2.1 p.2.2.1 p.2.2.2.1) (dsf := fun p => [.agg p.1.c, msD p.2.1, .int .i64 p.2.2.1, .int .i64 p.2.2.2.1, .int .i64 p.2.2.2.2]) (rf := fun p => .bool (silX p.1 p.2.1 p.2.2.2.2 p.2.2.2.1 p.2.2.1)) (w, kn, c, t, now) h fun q hq => by
  simp only [List.cons.injEq, D.agg.injEq, D.int.injEq, and_true, true_and] at hq
  rw [WatchW.c_inj hq.1, En.map_inj (E := enMs) hq.2.1, hq.2.2.1, hq.2.2.2.1, hq.2.2.2.2]
noncomputable def gSnd : List D → Option D := orcF (fun p : WatchW × Int => WatchOk p.1 ∧ (-5000 ≤ p.2 ∧ p.2 ≤ 5000)) (fun p => [.agg p.1.c, .int .i64 p.2]) (fun p => .bool (sendsB p.1 p.2))
theorem gSnd_eq {w : WatchW} (h : WatchOk w) {t : Int} (ht : -5000 ≤ t ∧ t ≤ 5000) : gSnd [.agg w.c, .int .i64 t] = some (.bool (sendsB w t)) :=
 orcF_eq (ok := fun p : WatchW × Int => WatchOk p.1 ∧ (-5000 ≤ p.2 ∧ p.2 ≤ 5000)) (dsf := fun p => [.agg p.1.c, .int .i64 p.2]) (rf := fun p => .bool (sendsB p.1 p.2)) (w, t) ⟨h, ht⟩ fun q hq => by
  simp only [List.cons.injEq, D.agg.injEq, D.int.injEq, and_true, true_and] at hq
  rw [WatchW.c_inj hq.1, hq.2]
theorem said_all (kn : List MsgW) (t c : Int) (d : Bool) : saidB kn t c d = kn.all fun m => !(sayB t c d m) := by
 unfold saidB
 rw [List.not_any_eq_all_not]
theorem pl_free {w : WatchW} (hw : WatchOk w) (kn : List MsgW) (now : Int) : ∀ n, FreeP w.s (plF w kn now n).1
 | 0, c, h => by
  simp only [plF, Bool.and_eq_true, decide_eq_true_eq] at h
  rw [h.1]; exact hw.c
 | n + 1, c, h => by
  simp only [plF, Bool.and_eq_true] at h
  exact FreeP.aF hw.s (pl_free hw kn now n) c h.1.1.2
end Go.Sx
