/- Own work: contracts of functions, used in the proof of a law. -/
import Derived.Test.YtjhoplbdpdbgaaaDoorSxC3d
import Derived.Test.YtjhoplbdpdbgaaaDoorSxKk
set_option linter.unusedVariables false
set_option linter.unusedSimpArgs false
namespace Go.Sx
open Go.Proofs
set_option maxRecDepth 10000

def gGI (ok : Ga → Bool) (k : Ga → List Int → D) : List D → Option D
  | [.agg [.int .i64 a, .int .i64 b, .int .i64 c, .sl es], .sl ds] => match decRds es, decIs ds with
    | some rs, some cs => if rs.length ≤ 9223372036854775807 ∧ ok ⟨a, b, c, rs⟩ = true then some (k ⟨a, b, c, rs⟩ cs) else none
    | _, _ => none
  | _ => none
theorem gGI_eq {ok : Ga → Bool} (k : Ga → List Int → D) (a b c : Int) {rs : List Rd} {cs : List Int} (hl : rs.length ≤ 9223372036854775807) (h : ok ⟨a, b, c, rs⟩ = true) :
    gGI ok k [.agg [.int .i64 a, .int .i64 b, .int .i64 c, .sl (rs.map Rd.d)], .sl (iL cs)] = some (k ⟨a, b, c, rs⟩ cs) := by
  simp [gGI, decRds_map, decIs_map, hl, h]
theorem gGI_inv {ok : Ga → Bool} {k : Ga → List Int → D} {ds : List D} {r : D} (h : gGI ok k ds = some r) :
    ∃ (g : Ga) (cs : List Int), g.rs.length ≤ 9223372036854775807 ∧ ok g = true ∧ ds = [.agg g.c, .sl (iL cs)] ∧ r = k g cs := by
  unfold gGI at h
  split at h
  · split at h
    · rename_i rs cs hrs hcs
      split at h
      · rename_i hl
        cases h
        refine ⟨⟨_, _, _, rs⟩, cs, hl.1, hl.2, ?_, rfl⟩
        rw [decRds_inv hrs, decIs_inv hcs]; rfl
      · cases h
    · cases h
  · cases h
def gTrue : List D → Option D
  | [] => some (.bool true)
  | _ => none
theorem gTrue_eq : gTrue [] = some (.bool true) := (rfl)
theorem gTrue_inv {ds : List D} {r : D} (h : gTrue ds = some r) : ds = [] ∧ r = .bool true := by
  unfold gTrue at h
  split at h
  · cases h; exact ⟨rfl, rfl⟩
  · cases h
abbrev o6 : List (FuncId × (List D → Option D)) := (9, gGa fun g => .int .i64 (if gaOk g then 0 else 2)) :: (10, gGI (fun _ => true) fun g cs => .bool (gaOk g && fitB g cs)) :: (12, gGI gaOk fun g cs => .bool (fitB g cs)) :: (8, gTrue) :: o5
theorem o6_ok : OkO Tryd.prog (mkO o6) :=
  mkO_ok (fun ds r h => by obtain ⟨g, hl, rfl, rfl⟩ := gGa_inv h; exact Known_t g hl) <|
  mkO_ok (fun ds r h => by obtain ⟨g, cs, hl, _, rfl, rfl⟩ := gGI_inv h; exact Fits_t g cs hl) <|
  mkO_ok (fun ds r h => by obtain ⟨g, cs, hl, hok, rfl, rfl⟩ := gGI_inv h; exact rFits_t g cs hok) <|
  mkO_ok (fun ds r h => by obtain ⟨rfl, rfl⟩ := gTrue_inv h; exact known_t) o5_ok

theorem waterChecks_at (g : Ga) (cs : List Int) (hl : g.rs.length ≤ 9223372036854775807) (hl2 : cs.length ≤ 9223372036854775807) : Pure Tryd.prog 3 [.agg g.c, .sl (iL cs)] (.bool true) := by
  obtain ⟨a, b, c, rs⟩ := g
  dsimp only at hl
  simp only [Ga.c]
  refine pure_of_wc (rs := [.tmp 4]) (m := 45) [(3, [(7, false, false, [])])] (o6_ok) (by kernel_rfl) Tryd.func3 rfl (by kernel_rfl) rfl rfl (by kernel_rfl) ?_
  by_cases hs : rs.length ≤ 40
  rotate_left
  · simp only [FT, ↓RD, RU, okR, Bool.true_or, Bool.or_true, argEnv, List.length_cons, List.length_nil, List.map_cons, List.map_nil, List.getElem?_cons_zero, List.getElem?_cons_succ, List.drop_zero, List.drop_succ_cons, List.take_succ_cons, List.take_zero, List.all_cons, List.all_nil, Option.map_some, Bool.and_self, Bool.and_true, true_and, and_true, and_self, Nat.reduceAdd, Nat.reduceSub, Nat.reduceLT, Nat.reduceLeDiff, Nat.reduceEqDiff, Nat.zero_add, Nat.add_zero, ne_eq, not_false_eq_true, reduceIte, Bool.not_true, Bool.not_false, Nat.le_refl, gGa_eq _ _ _ _ hl, gTrue_eq, hs, decide_false]
  by_cases hc : (1500 : Int) < (cs.length : Int)
  · simp only [FT, ↓RD, RU, okR, Bool.true_or, Bool.or_true, argEnv, List.length_cons, List.length_nil, List.map_cons, List.map_nil, List.getElem?_cons_zero, List.getElem?_cons_succ, List.drop_zero, List.drop_succ_cons, List.take_succ_cons, List.take_zero, List.all_cons, List.all_nil, Option.map_some, Bool.and_self, Bool.and_true, true_and, and_true, and_self, Nat.reduceAdd, Nat.reduceSub, Nat.reduceLT, Nat.reduceLeDiff, Nat.reduceEqDiff, Nat.zero_add, Nat.add_zero, ne_eq, not_false_eq_true, reduceIte, Bool.not_true, Bool.not_false, Nat.le_refl, gGa_eq _ _ _ _ hl, gTrue_eq, hs, hc, iL_length, decide_true]
  cases hga : gaOk ⟨a, b, c, rs⟩
  · have h1 := gGI_eq (ok := fun _ => true) (fun g cs => D.bool (gaOk g && fitB g cs)) a b c (cs := cs) hl rfl
    simp only [FT, ↓RD, RU, okR, Bool.true_or, Bool.or_true, argEnv, List.length_cons, List.length_nil, List.map_cons, List.map_nil, List.getElem?_cons_zero, List.getElem?_cons_succ, List.drop_zero, List.drop_succ_cons, List.take_succ_cons, List.take_zero, List.all_cons, List.all_nil, Option.map_some, Bool.and_self, Bool.and_true, true_and, and_true, and_self, Nat.reduceAdd, Nat.reduceSub, Nat.reduceLT, Nat.reduceLeDiff, Nat.reduceEqDiff, Nat.zero_add, Nat.add_zero, ne_eq, not_false_eq_true, reduceIte, Bool.not_true, Bool.not_false, Nat.le_refl, gGa_eq _ _ _ _ hl, gTrue_eq, hs, hc, iL_length, decide_true, decide_false, h1, hga, Bool.false_and, if_neg Bool.false_ne_true, beq_self_eq_true]
  · have h1 := gGI_eq (ok := fun _ => true) (fun g cs => D.bool (gaOk g && fitB g cs)) a b c (cs := cs) hl rfl
    have h2 := gGI_eq (fun g cs => D.bool (fitB g cs)) a b c (cs := cs) hl hga
    cases hf : fitB ⟨a, b, c, rs⟩ cs
    · simp only [FT, ↓RD, RU, okR, Bool.true_or, Bool.or_true, argEnv, List.length_cons, List.length_nil, List.map_cons, List.map_nil, List.getElem?_cons_zero, List.getElem?_cons_succ, List.drop_zero, List.drop_succ_cons, List.take_succ_cons, List.take_zero, List.all_cons, List.all_nil, Option.map_some, Bool.and_self, Bool.and_true, true_and, and_true, and_self, Nat.reduceAdd, Nat.reduceSub, Nat.reduceLT, Nat.reduceLeDiff, Nat.reduceEqDiff, Nat.zero_add, Nat.add_zero, ne_eq, not_false_eq_true, reduceIte, Bool.not_true, Bool.not_false, Nat.le_refl, gGa_eq _ _ _ _ hl, gTrue_eq, hs, hc, iL_length, decide_true, decide_false, h1, h2, hga, Bool.true_and, hf, beq_self_eq_true, binB_eq Fz.und_4]
    · simp only [FT, ↓RD, RU, okR, Bool.true_or, Bool.or_true, argEnv, List.length_cons, List.length_nil, List.map_cons, List.map_nil, List.getElem?_cons_zero, List.getElem?_cons_succ, List.drop_zero, List.drop_succ_cons, List.take_succ_cons, List.take_zero, List.all_cons, List.all_nil, Option.map_some, Bool.and_self, Bool.and_true, true_and, and_true, and_self, Nat.reduceAdd, Nat.reduceSub, Nat.reduceLT, Nat.reduceLeDiff, Nat.reduceEqDiff, Nat.zero_add, Nat.add_zero, ne_eq, not_false_eq_true, reduceIte, Bool.not_true, Bool.not_false, Nat.le_refl, gGa_eq _ _ _ _ hl, gTrue_eq, hs, hc, iL_length, decide_true, decide_false, h1, h2, hga, Bool.true_and, hf, beq_self_eq_true, binB_eq Fz.und_4]

theorem waterChecks_pure : ∀ Ds, TyL Tryd.prog Tryd.f3.params.toList Ds → Pure Tryd.prog 3 Ds (.bool true) := by
  intro Ds h
  rw [Tryd.params3] at h
  match Ds, h with
  | [_, _], ⟨⟨n, _, hg, he⟩, ⟨m, _, hc, he2⟩, _⟩ =>
    rw [Tryd.underlying24] at he
    rw [Fz.und_25] at he2
    dsimp only at he he2
    obtain ⟨g, rfl, hl⟩ := tyGa hg
    obtain ⟨cs, rfl, hl2⟩ := tyIs hc
    cases he2
    subst he
    exact waterChecks_at g cs hl hl2
end Go.Sx
