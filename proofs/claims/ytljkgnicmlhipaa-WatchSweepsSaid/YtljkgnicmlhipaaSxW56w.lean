/- Own work: contracts of functions, used in the proof of a law. -/
import Derived.Test.YtljkgnicmlhipaaSxW52w
set_option linter.unusedVariables false
set_option linter.unusedSimpArgs false
namespace Go.Sx
open Go.Proofs
set_option maxRecDepth 10000

/-! The document's searches -/
def okSB (s : SkyW) (a b : Int) : Prop := SkyOk s ∧ InS s a ∧ InS s b
def besD (s : SkyW) (a b : Int) : D := .bool (decide (distI s.w a b = 1))
/-! Bits -/
theorem r_with_t (l : List Int) (hl : l.length ≤ 8) (b : Nat) (hb : b < 2 ^ l.length) (c : Int) : Pure Try.prog 68 [.int .i64 (b : Int), inD l, .int .i64 c] (.int .i64 (withN l b c : Nat)) := by
  have hp8 := pow_lt8 hl
  refine pure_of_wc (rs := [.tmp 6]) (m := 25) [] oNone_ok (by kernel_rfl) Try.func68 rfl (by kernel_rfl) rfl rfl (by kernel_rfl) ?_
  simp only [RT, FS, ↓RE, okR, argEnv, Nat.reduceAdd, Nat.reduceSub, Nat.reduceLT, Nat.reduceLeDiff, Nat.reduceEqDiff, reduceIte, RM, List.length_map]
  refine loopV (ι := Nat) oNone_ok [] (fun i => [(0, .int .i64 (withAt l b c i : Nat)), (1, inD l), (2, .int .i64 c), (7, .int .i64 (i : Int))])
    (fun i => []) 0 (fun i => i ≤ l.length) (fun i => l.length - i) 0 (by kernel_rfl) (by kernel_rfl) (Nat.zero_le _) ?_ ?_
  · simp [headW, heapW, envW, blkLt, D.ltL, D.lt, look, hget, withAt]
  intro i hil
  rcases Nat.lt_or_ge i l.length with hlt | hge
  · have hc := nat_lt_true hlt
    obtain ⟨x, hx⟩ : ∃ x, l[i]? = some x := ⟨l[i], by simp [hlt]⟩
    have hix := aft_ix hx
    have hw1 := wrap_i64 (z := (i : Int) + 1) (by omega) (by omega)
    have hS := withAt_succ l b c i
    have hgd : l.getD i 0 = x := by simp [List.getD, hx]
    have hs1 := shl_1 (i := i) (by omega)
    have hlw := withAt_lt l hb c i (by omega)
    have hpi : 2 ^ i ≤ 2 ^ l.length := Nat.pow_le_pow_right (by omega) (by omega)
    have ho := or_b (a := withAt l b c i) (b := 2 ^ i) (by omega) (by omega)
    unfold bitS at hS
    rw [hgd] at hS
    generalize withAt l b c i = A at *
    by_cases e : x = c
    · have q : (x == c) = true := by simp [e]
      rw [if_pos e] at hS
      simp only [RT, FS, ↓RE, okR, argEnv, Nat.reduceAdd, Nat.reduceSub, Nat.reduceLT, Nat.reduceLeDiff, Nat.reduceEqDiff, reduceIte, RM, List.length_map, hc, decide_true, hix, q, hs1, ho, hw1]
      exact ⟨i + 1, by omega, by omega, by rw [hS]; simp [headW, heapW, envW, blkLt, D.ltL, D.lt, look, hget]⟩
    · have q : (x == c) = false := by simp [e]
      rw [if_neg e] at hS
      simp only [RT, FS, ↓RE, okR, argEnv, Nat.reduceAdd, Nat.reduceSub, Nat.reduceLT, Nat.reduceLeDiff, Nat.reduceEqDiff, reduceIte, RM, List.length_map, hc, decide_true, hix, q, hw1]
      exact ⟨i + 1, by omega, by omega, by rw [hS]; simp [headW, heapW, envW, blkLt, D.ltL, D.lt, look, hget]⟩
  · have hc := nat_lt_false hge
    have : i = l.length := by omega
    subst this
    simp only [RT, FS, ↓RE, okR, argEnv, Nat.reduceAdd, Nat.reduceSub, Nat.reduceLT, Nat.reduceLeDiff, Nat.reduceEqDiff, reduceIte, RM, List.length_map, hc, decide_false]
    rfl
end Go.Sx
