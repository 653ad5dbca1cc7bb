/- Own work: contracts of functions, used in the proof of a law. -/
import Derived.Test.YtjhoplbdpdbgaaaDoorSxC10d
set_option linter.unusedVariables false
set_option linter.unusedSimpArgs false
namespace Go.Sx
open Go.Proofs
set_option maxRecDepth 10000

/-! Comparing lists -/
def cmpI (x y : Int) : Int := if x < y then -1 else if y < x then 1 else 0
def cmpL : List Int → List Int → Int
  | [], [] => 0
  | [], _ :: _ => -1
  | _ :: _, [] => 1
  | x :: a, y :: b => if cmpI x y = 0 then cmpL a b else cmpI x y

def gNaN : List D → Option D
  | [.int .i64 _] => some (.bool false)
  | _ => none
theorem gNaN_eq (x : Int) : gNaN [.int .i64 x] = some (.bool false) := (rfl)
theorem gNaN_ok (ds : List D) (r : D) (h : gNaN ds = some r) : Pure Tryd.prog 78 ds r := by
  unfold gNaN at h
  split at h
  · cases h
    refine pure_of_wc (rs := [.tmp 2]) (m := 6) [] oNone_ok (by kernel_rfl) Tryd.func78 rfl (by kernel_rfl) rfl rfl (by kernel_rfl) ?_
    simp only [FT, ↓RD, RU, okR, Bool.true_or, Bool.or_true, argEnv, List.length_cons, List.length_nil, List.map_cons, List.map_nil, List.getElem?_cons_zero, List.getElem?_cons_succ, List.drop_zero, List.drop_succ_cons, List.take_succ_cons, List.take_zero, List.all_cons, List.all_nil, Option.map_some, Bool.and_self, Bool.and_true, true_and, and_true, and_self, Nat.reduceAdd, Nat.reduceSub, Nat.reduceLT, Nat.reduceLeDiff, Nat.reduceEqDiff, Nat.zero_add, Nat.add_zero, ne_eq, not_false_eq_true, reduceIte, Bool.not_true, Bool.not_false, Nat.le_refl, bne_self_eq_false]
  · cases h
abbrev o11 : List (FuncId × (List D → Option D)) := (78, gNaN) :: (21, gIg) :: o10
theorem o11_ok : OkO Tryd.prog (mkO o11) := mkO_ok gNaN_ok (mkO_ok gIg_ok o10_ok)

theorem cmp_t (x y : Int) : Pure Tryd.prog 60 [.int .i64 x, .int .i64 y] (.int .i64 (cmpI x y)) := by
  refine pure_of_wc (rs := [.tmp 4]) (m := 20) [] o11_ok (by kernel_rfl) Tryd.func60 rfl (by kernel_rfl) rfl rfl (by kernel_rfl) ?_
  cases h1 : decide (x < y)
  · cases h2 : decide (y < x)
    · simp only [FT, ↓RD, RU, okR, Bool.true_or, Bool.or_true, argEnv, List.length_cons, List.length_nil, List.map_cons, List.map_nil, List.getElem?_cons_zero, List.getElem?_cons_succ, List.drop_zero, List.drop_succ_cons, List.take_succ_cons, List.take_zero, List.all_cons, List.all_nil, Option.map_some, Bool.and_self, Bool.and_true, true_and, and_true, and_self, Nat.reduceAdd, Nat.reduceSub, Nat.reduceLT, Nat.reduceLeDiff, Nat.reduceEqDiff, Nat.zero_add, Nat.add_zero, ne_eq, not_false_eq_true, reduceIte, Bool.not_true, Bool.not_false, Nat.le_refl, gNaN_eq, h1, h2]
      simp [cmpI, of_decide_eq_false h1, of_decide_eq_false h2]
    · simp only [FT, ↓RD, RU, okR, Bool.true_or, Bool.or_true, argEnv, List.length_cons, List.length_nil, List.map_cons, List.map_nil, List.getElem?_cons_zero, List.getElem?_cons_succ, List.drop_zero, List.drop_succ_cons, List.take_succ_cons, List.take_zero, List.all_cons, List.all_nil, Option.map_some, Bool.and_self, Bool.and_true, true_and, and_true, and_self, Nat.reduceAdd, Nat.reduceSub, Nat.reduceLT, Nat.reduceLeDiff, Nat.reduceEqDiff, Nat.zero_add, Nat.add_zero, ne_eq, not_false_eq_true, reduceIte, Bool.not_true, Bool.not_false, Nat.le_refl, gNaN_eq, h1, h2]
      simp [cmpI, of_decide_eq_false h1, of_decide_eq_true h2]
  · simp only [FT, ↓RD, RU, okR, Bool.true_or, Bool.or_true, argEnv, List.length_cons, List.length_nil, List.map_cons, List.map_nil, List.getElem?_cons_zero, List.getElem?_cons_succ, List.drop_zero, List.drop_succ_cons, List.take_succ_cons, List.take_zero, List.all_cons, List.all_nil, Option.map_some, Bool.and_self, Bool.and_true, true_and, and_true, and_self, Nat.reduceAdd, Nat.reduceSub, Nat.reduceLT, Nat.reduceLeDiff, Nat.reduceEqDiff, Nat.zero_add, Nat.add_zero, ne_eq, not_false_eq_true, reduceIte, Bool.not_true, Bool.not_false, Nat.le_refl, gNaN_eq, h1]
    simp [cmpI, of_decide_eq_true h1]
def gCm : List D → Option D
  | [.int .i64 x, .int .i64 y] => some (.int .i64 (cmpI x y))
  | _ => none
theorem gCm_eq (x y : Int) : gCm [.int .i64 x, .int .i64 y] = some (.int .i64 (cmpI x y)) := (rfl)
theorem gCm_ok (ds : List D) (r : D) (h : gCm ds = some r) : Pure Tryd.prog 60 ds r := by
  unfold gCm at h
  split at h
  · cases h; exact cmp_t _ _
  · cases h
abbrev o12 : List (FuncId × (List D → Option D)) := (60, gCm) :: o11
theorem o12_ok : OkO Tryd.prog (mkO o12) := mkO_ok gCm_ok o11_ok

theorem compare_t (l m : List Int) (hl : l.length ≤ 9223372036854775807) (hm : m.length ≤ 9223372036854775807) : Pure Tryd.prog 41 [.sl (iL l), .sl (iL m)] (.int .i64 (cmpL l m)) := by
  refine pure_of_wc (rs := [.tmp 4]) (m := 36) [] o12_ok (by kernel_rfl) Tryd.func41 rfl (by kernel_rfl) rfl rfl (by kernel_rfl) ?_
  simp only [FT, ↓RD, RU, okR, Bool.true_or, Bool.or_true, argEnv, List.length_cons, List.length_nil, List.map_cons, List.map_nil, List.getElem?_cons_zero, List.getElem?_cons_succ, List.drop_zero, List.drop_succ_cons, List.take_succ_cons, List.take_zero, List.all_cons, List.all_nil, Option.map_some, Bool.and_self, Bool.and_true, true_and, and_true, and_self, Nat.reduceAdd, Nat.reduceSub, Nat.reduceLT, Nat.reduceLeDiff, Nat.reduceEqDiff, Nat.zero_add, Nat.add_zero, ne_eq, not_false_eq_true, reduceIte, Bool.not_true, Bool.not_false, Nat.le_refl, iL_length]
  refine loopV (ι := Nat) o12_ok [] (fun i => [(0, .sl (iL l)), (1, .sl (iL m)), (9, .sl (iL l)), (10, .int .i64 (l.length : Int)), (11, .int .i64 (i : Int))]) (fun i => []) 0
    (fun i => i ≤ l.length ∧ i ≤ m.length ∧ cmpL l m = cmpL (l.drop i) (m.drop i)) (fun i => l.length - i) 0 (by kernel_rfl) (by kernel_rfl) ⟨Nat.zero_le _, Nat.zero_le _, rfl⟩ ?_ ?_
  · simp [headW, heapW, envW, blkLt, D.ltL, D.lt, look, hget]
  rintro i ⟨hil, him, hcl⟩
  rcases Nat.lt_or_ge i l.length with hlt | hge
  rotate_left
  · have hc : ((i : Int) < (l.length : Int)) = False := by simp; omega
    have : i = l.length := by omega
    subst this
    rw [List.drop_length] at hcl
    cases h1 : decide ((l.length : Int) < (m.length : Int))
    · have : m.length = l.length := by have := of_decide_eq_false h1; omega
      have hd : m.drop l.length = [] := List.drop_eq_nil_of_le (by omega)
      rw [hd] at hcl
      simp only [FT, ↓RD, RU, okR, Bool.true_or, Bool.or_true, argEnv, List.length_cons, List.length_nil, List.map_cons, List.map_nil, List.getElem?_cons_zero, List.getElem?_cons_succ, List.drop_zero, List.drop_succ_cons, List.take_succ_cons, List.take_zero, List.all_cons, List.all_nil, Option.map_some, Bool.and_self, Bool.and_true, true_and, and_true, and_self, Nat.reduceAdd, Nat.reduceSub, Nat.reduceLT, Nat.reduceLeDiff, Nat.reduceEqDiff, Nat.zero_add, Nat.add_zero, ne_eq, not_false_eq_true, reduceIte, Bool.not_true, Bool.not_false, Nat.le_refl, iL_length, hc, decide_false, h1]
      rw [hcl]; rfl
    · obtain ⟨y, r, hd⟩ : ∃ y r, m.drop l.length = y :: r := by
        have h2 := of_decide_eq_true h1
        have hlt : l.length < m.length := by omega
        exact ⟨_, _, List.drop_eq_getElem_cons hlt⟩
      rw [hd] at hcl
      simp only [FT, ↓RD, RU, okR, Bool.true_or, Bool.or_true, argEnv, List.length_cons, List.length_nil, List.map_cons, List.map_nil, List.getElem?_cons_zero, List.getElem?_cons_succ, List.drop_zero, List.drop_succ_cons, List.take_succ_cons, List.take_zero, List.all_cons, List.all_nil, Option.map_some, Bool.and_self, Bool.and_true, true_and, and_true, and_self, Nat.reduceAdd, Nat.reduceSub, Nat.reduceLT, Nat.reduceLeDiff, Nat.reduceEqDiff, Nat.zero_add, Nat.add_zero, ne_eq, not_false_eq_true, reduceIte, Bool.not_true, Bool.not_false, Nat.le_refl, iL_length, hc, decide_false, h1]
      rw [hcl]; rfl
  have hc : ((i : Int) < (l.length : Int)) = True := by simp [hlt]
  have hx : l[i]? = some (iAt l (i : Int)) := by simp [iAt, hlt, List.getD]
  have hix := fun hp => ix_i Fz.und_25 Fz.size_3 (l := l) (m := (i : Int)) (by omega) (by omega) hp
  have hw := wrap_i64 (z := (i : Int) + 1) (by omega) (by omega)
  rw [drop_at hx] at hcl
  rcases Nat.lt_or_ge i m.length with hmt | hmge
  rotate_left
  · have hc2 : ((m.length : Int) ≤ (i : Int)) = True := by simp; omega
    have hd : m.drop i = [] := List.drop_eq_nil_of_le (by omega)
    rw [hd] at hcl
    simp only [FT, ↓RD, RU, okR, Bool.true_or, Bool.or_true, argEnv, List.length_cons, List.length_nil, List.map_cons, List.map_nil, List.getElem?_cons_zero, List.getElem?_cons_succ, List.drop_zero, List.drop_succ_cons, List.take_succ_cons, List.take_zero, List.all_cons, List.all_nil, Option.map_some, Bool.and_self, Bool.and_true, true_and, and_true, and_self, Nat.reduceAdd, Nat.reduceSub, Nat.reduceLT, Nat.reduceLeDiff, Nat.reduceEqDiff, Nat.zero_add, Nat.add_zero, ne_eq, not_false_eq_true, reduceIte, Bool.not_true, Bool.not_false, Nat.le_refl, iL_length, hc, hc2, decide_true, hix]
    rw [hcl]; rfl
  have hc2 : ((m.length : Int) ≤ (i : Int)) = False := by simp; omega
  have hy : m[i]? = some (iAt m (i : Int)) := by simp [iAt, hmt, List.getD]
  have hix2 := fun hp => ix_i Fz.und_25 Fz.size_3 (l := m) (m := (i : Int)) (by omega) (by omega) hp
  rw [drop_at hy] at hcl
  simp only [cmpL] at hcl
  cases hq : (cmpI (iAt l (i : Int)) (iAt m (i : Int)) != 0)
  · have h0 : cmpI (iAt l (i : Int)) (iAt m (i : Int)) = 0 := by simpa using hq
    rw [if_pos h0] at hcl
    simp only [FT, ↓RD, RU, okR, Bool.true_or, Bool.or_true, argEnv, List.length_cons, List.length_nil, List.map_cons, List.map_nil, List.getElem?_cons_zero, List.getElem?_cons_succ, List.drop_zero, List.drop_succ_cons, List.take_succ_cons, List.take_zero, List.all_cons, List.all_nil, Option.map_some, Bool.and_self, Bool.and_true, true_and, and_true, and_self, Nat.reduceAdd, Nat.reduceSub, Nat.reduceLT, Nat.reduceLeDiff, Nat.reduceEqDiff, Nat.zero_add, Nat.add_zero, ne_eq, not_false_eq_true, reduceIte, Bool.not_true, Bool.not_false, Nat.le_refl, iL_length, hc, hc2, decide_true, decide_false, hix, hix2, gCm_eq, hq, hw]
    exact ⟨i + 1, ⟨by omega, by omega, hcl⟩, by omega, by simp [headW, heapW, envW, blkLt, D.ltL, D.lt, look, hget]⟩
  · have h0 : ¬ cmpI (iAt l (i : Int)) (iAt m (i : Int)) = 0 := by simpa using hq
    rw [if_neg h0] at hcl
    simp only [FT, ↓RD, RU, okR, Bool.true_or, Bool.or_true, argEnv, List.length_cons, List.length_nil, List.map_cons, List.map_nil, List.getElem?_cons_zero, List.getElem?_cons_succ, List.drop_zero, List.drop_succ_cons, List.take_succ_cons, List.take_zero, List.all_cons, List.all_nil, Option.map_some, Bool.and_self, Bool.and_true, true_and, and_true, and_self, Nat.reduceAdd, Nat.reduceSub, Nat.reduceLT, Nat.reduceLeDiff, Nat.reduceEqDiff, Nat.zero_add, Nat.add_zero, ne_eq, not_false_eq_true, reduceIte, Bool.not_true, Bool.not_false, Nat.le_refl, iL_length, hc, hc2, decide_true, decide_false, hix, hix2, gCm_eq, hq, hw]
    rw [hcl]
end Go.Sx
