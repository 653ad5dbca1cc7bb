/- Own work: contracts of functions, used in the proof of a law. -/
import Derived.Test.YtjhoplbdpdbgaaaGreatDoorSxC3z
import Derived.Test.YtjhoplbdpdbgaaaGreatDoorSxMe
set_option linter.unusedVariables false
set_option linter.unusedSimpArgs false
namespace Go.Sx
open Go.Proofs
set_option maxRecDepth 10000

theorem take_fin {n i : Nat} (h : i < n) : (List.finRange n).take i ++ [⟨i, h⟩] = (List.finRange n).take (i + 1) := by
 rw [List.take_add_one]
 congr 1
 simp [h]

def minD (x : Fin 1441) : List D := [.int .i64 (x.val : Int)]
def minV (x : Fin 1441) : Array Value := #[.int .i64 (x.val : Int)]

theorem minutes_seq (w : World) : SeqStopsK (FW none) 0 Tryz.prog 65 #[] minV (fun _ _ => True) (fun xs => xs = List.finRange 1441) (fun pre => pre <+: List.finRange 1441) 1441 w := by
 refine seq_of_awq (ds := minD) Tryz.func65 rfl rfl (fun R n vs x h => ?_) fun l J Jx W h0 hY => ?_
 ·obtain ⟨h1, h2⟩ := h
  obtain ⟨v, rfl⟩ := List.length_eq_one_iff.1 (show vs.length = 1 from h1)
  have := h2 0 _ _ rfl rfl
  cases this; rfl
 refine awq_seq (awq_region hY ?_)
 refine ⟨rfl, ?_⟩
 show AWq _ _ ⟨[(3, .int .i64 0), (0, .raw (.func (.yield l) #[] #[]))], [], 0, 11⟩ W _
 refine awq_block (awq_loop (fun i : Nat => ⟨[(3, .int .i64 (i : Int)), (0, .raw (.func (.yield l) #[] #[]))], [], 0, 11⟩) (fun i W => i ≤ 1441 ∧ J ((List.finRange 1441).take i) W) (fun i => 1441 - i) 0 ⟨Nat.zero_le _, by simpa using h0⟩ ⟨rfl, rfl, rfl, fun i => .inr rfl⟩ ?_)
 rintro i W ⟨hi, hj⟩
 refine awq_seq (awq_region hY ?_)
 simp only [qOps, yieldOf, evO, look, opR, opQ, St.put, vD, thenR, bin_int, a_lss, and_self, true_and, eq_self, reduceIte, Nat.reduceLT]
 refine awq_seq ?_
 rcases Nat.lt_or_ge i 1441 with hlt | hge
 rotate_left
 ·have hc : decide ((i : Int) < 1441) = false := by simp; omega
  refine awq_cond (t := false) (by simp only [evO, look, hc, if_true]) (fun h => by cases h) fun _ => awq_exit ?_
  simp only [thenR, blockR, if_true]
  have : i = 1441 := by omega
  subst this
  exact ⟨.inl trivial, .inl ⟨_, rfl, by rw [List.take_of_length_le (by rw [List.length_finRange]; exact Nat.le_refl _)] at hj; exact hj⟩⟩
 have hc : decide ((i : Int) < 1441) = true := by simp; omega
 refine awq_cond (t := true) (by simp only [evO, look, hc, if_true]) (fun _ => awq_skip ?_) fun h => by cases h
 simp only [thenR]
 refine awq_seq (awq_block (awq_seq (awq_region hY ?_)))
 simp only [qOps, yieldOf, evO, look, opR, opQ, St.put, vD, thenR, true_and, eq_self, reduceIte, Nat.reduceLT, Nat.reduceEqDiff]
 refine awq_seq (awq_region hY ?_)
 simp only [qOps, yieldOf, evO, look, opR, opQ, St.put, vD, thenR, true_and, eq_self, reduceIte, Nat.reduceLT, Nat.reduceEqDiff, List.map_cons, List.map_nil]
 refine ⟨rfl, _, ⟨i, hlt⟩, hj, by simp; omega, rfl, fun W' hj' => ?_, fun W' hj' => ?_⟩
 ·simp only [qOps, yieldOf, evO, look, opR, opQ, St.put, vD, thenR, true_and, eq_self, reduceIte, Nat.reduceLT, Nat.reduceEqDiff, not_bool]
  refine awq_cond (t := false) rfl (fun h => by cases h) fun _ => awq_skip ?_
  simp only [blockR, thenR]
  refine awq_region hY ?_
  have hw := wrap_i64 (z := (i : Int) + 1) (by omega) (by omega)
  simp only [qOps, yieldOf, evO, look, opR, opQ, St.put, vD, thenR, true_and, eq_self, reduceIte, Nat.reduceLT, Nat.reduceEqDiff, bin_int, a_add, hw]
  rw [take_fin] at hj'
  refine ⟨i + 1, ⟨by omega, hj'⟩, by omega, rfl, rfl, rfl, fun j => ?_⟩
  simp only [look]
  by_cases h3 : j = 3
  ·subst h3; right; simp
  by_cases h0 : j = 0
  ·subst h0; right; simp
  ·left; simp [h3, h0]
 ·simp only [qOps, yieldOf, evO, look, opR, opQ, St.put, vD, thenR, true_and, eq_self, reduceIte, Nat.reduceLT, Nat.reduceEqDiff, not_bool]
  refine awq_cond (t := true) rfl (fun _ => awq_ret ?_) fun h => by cases h
  simp only [blockR, thenR]
  rw [take_fin] at hj'
  exact ⟨.inr trivial, .inr ⟨_, List.take_prefix _ _, hj'⟩⟩
end Go.Sx
