/- Own work: contracts of functions, used in the proof of a law. -/
import Derived.Test.YtjhoplbdpdbgaaaGreatDoorSxC33z
set_option linter.unusedVariables false
set_option linter.unusedSimpArgs false
namespace Go.Sx
open Go.Proofs
set_option maxRecDepth 10000

theorem En.cur {α : Type} {E : En α} {x : D} {l : List α} (h : E.sl x = some l) (hp : H) : curD hp x = true := by
  rcases En.inv h with rfl | ⟨rfl, rfl⟩ <;> rfl
def surelyB (l : Lk) : Bool := decide (0 ≤ offL l) && (calmS l && (flatS l && !blindL l))
theorem surely_t (l : Lk) (h : LkOk l) : Pure Tryz.prog 66 [.agg l.c] (.bool (surelyB l)) := by
  have hg := h.se.gd
  have vg := fun hp => En.view hg hp
  have lg := En.lt hg
  have hv : ∀ a b c d : D, D.ltL 0 [a, b, c, d] = true → viewC 0 4 1 (some (.box [a, b, c, d])) = .sl [[a], [b], [c], [d]] := fun a b c d h => by
    rw [viewC_box _ _ _ _ h rfl]; rfl
  refine pure_of_wc (rs := [.tmp 2]) (m := 15) [] o29_ok (by kernel_rfl) Tryz.func66 rfl (by kernel_rfl) rfl rfl (by kernel_rfl) ?_
  simp only [FS, ↓RE, okR, argEnv, Nat.reduceAdd, Nat.reduceSub, Nat.reduceLT, Nat.reduceLeDiff, Nat.reduceEqDiff, reduceIte, vg, lg, hv]
  refine call_of_pure (all_t [(115, [.agg l.c]), (116, [.agg l.c]), (117, [.agg l.c]), (118, [.agg l.c])]
    (fun f => if f.1 = 115 then decide (0 ≤ offL l) else if f.1 = 116 then calmS l else if f.1 = 117 then flatS l else !blindL l) ?_ ?_ (by simp) ?_) rfl ?_
  · intro f hf m
    simp only [List.mem_cons, List.not_mem_nil, or_false] at hf
    rcases hf with rfl | rfl | rfl | rfl <;> simp [D.ltL, D.lt, lg]
  · intro f hf hh
    simp only [List.mem_cons, List.not_mem_nil, or_false] at hf
    rcases hf with rfl | rfl | rfl | rfl <;> simp [viewL, view, vg]
  · intro f hf
    simp only [List.mem_cons, List.not_mem_nil, or_false] at hf
    rcases hf with rfl | rfl | rfl | rfl
    · exact surelyDeep_t l h
    · exact surelyCalm_t l h
    · exact surelyFlat_t l h
    · exact clear_t l h
  simp only [FS, ↓RE, okR, argEnv, Nat.reduceAdd, Nat.reduceSub, Nat.reduceLT, Nat.reduceLeDiff, Nat.reduceEqDiff, reduceIte]
  simp [surelyB]

theorem lk_ok {l : Lk} (h : SeL l.s l.gd) (ha : askE l = 0) : LkOk l ∧ soundW l.s.w = true := by
  simp only [askE] at ha
  split at ha
  · rename_i hc
    simp only [Bool.and_eq_true, bIn, decide_eq_true_eq] at hc
    split at ha
    · exact ⟨⟨h, hc.1, hc.2.1, hc.2.2.1, hc.2.2.2⟩, ‹_›⟩
    · cases ha
  · cases ha
theorem askE_cases (l : Lk) : askE l = 0 ∨ askE l = 2 ∨ askE l = 5 := by
  simp only [askE]
  split
  · split <;> simp
  · simp
def SureA (l : Lk) : Int × Int := if askE l = 0 then (if surelyB l then (offL l, 0) else (0, 7)) else (0, askE l)
theorem Sure_t (l : Lk) (h : SeL l.s l.gd) : Pure Tryz.prog 22 [.agg (l.s.c l.gd), .agg l.p.c, .agg l.n.c, .int .i64 l.t] (.tup [.int .i64 (SureA l).1, .int .i64 (SureA l).2]) := by
  have vg := fun hp => En.view h.gd hp
  have lg := En.lt h.gd
  have cg := fun hp => En.cur h.gd hp
  refine pure_of_wc (rs := [.tmp 8, .tmp 9]) (m := 27) [] o29_ok (by kernel_rfl) Tryz.func22 rfl (by kernel_rfl) rfl rfl (by kernel_rfl) ?_
  simp only [FS, ↓RE, okR, argEnv, Nat.reduceAdd, Nat.reduceSub, Nat.reduceLT, Nat.reduceLeDiff, Nat.reduceEqDiff, reduceIte, vg, lg, cg]
  refine call_of_pure (asked_t l h) rfl ?_
  rcases askE_cases l with ha | ha | ha
  · obtain ⟨hok, _⟩ := lk_ok h ha
    simp only [FS, ↓RE, okR, argEnv, Nat.reduceAdd, Nat.reduceSub, Nat.reduceLT, Nat.reduceLeDiff, Nat.reduceEqDiff, reduceIte, ha, vg, lg, bne_self_eq_false]
    refine call_of_pure (surely_t l hok) rfl ?_
    cases hs : surelyB l
    · simp only [FS, ↓RE, okR, argEnv, Nat.reduceAdd, Nat.reduceSub, Nat.reduceLT, Nat.reduceLeDiff, Nat.reduceEqDiff, reduceIte]
      simp [SureA, ha, hs]
    · simp only [FS, ↓RE, okR, argEnv, Nat.reduceAdd, Nat.reduceSub, Nat.reduceLT, Nat.reduceLeDiff, Nat.reduceEqDiff, reduceIte, vg, lg]
      refine call_of_pure (offset_t l hok) rfl ?_
      simp only [FS, ↓RE, okR, argEnv, Nat.reduceAdd, Nat.reduceSub, Nat.reduceLT, Nat.reduceLeDiff, Nat.reduceEqDiff, reduceIte]
      simp [SureA, ha, hs]
  · simp only [FS, ↓RE, okR, argEnv, Nat.reduceAdd, Nat.reduceSub, Nat.reduceLT, Nat.reduceLeDiff, Nat.reduceEqDiff, reduceIte, ha, Int.reduceBNe]
    simp [SureA, ha]
  · simp only [FS, ↓RE, okR, argEnv, Nat.reduceAdd, Nat.reduceSub, Nat.reduceLT, Nat.reduceLeDiff, Nat.reduceEqDiff, reduceIte, ha, Int.reduceBNe]
    simp [SureA, ha]
end Go.Sx
