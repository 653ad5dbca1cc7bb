/- Own work: a calculus of contracts for the programs of this kit: parts SxW15v, SxW16v, SxW17v, SxW18v. -/
import Derived.Test.YtljkgnicmlhipaaGreatSxWdv
import Derived.Test.YtljkgnicmlhipaaGreatSxMg
import Derived.Test.YtljkgnicmlhipaaGreatSxMi
import Derived.Test.YtljkgnicmlhipaaGreatSxMh
set_option linter.unusedVariables false
set_option linter.unusedSimpArgs false
namespace Go.Sx
open Go.Proofs
set_option maxRecDepth 10000

def nbTo (w c : Int) (i k : Nat) : Int := c + ((i : Int) - 1) * w + ((k : Int) - 1)
def nbOk (w d : Int) (sh : List Bool) (c : Int) (i k : Nat) : Bool := !(decide (nbTo w c i k = c)) && (rI (c % w + ((k : Int) - 1)) 0 (w - 1) && (rI (c / w + ((i : Int) - 1)) 0 (d - 1) && !isShut sh (nbTo w c i k)))
def nbAt (w d : Int) (sh : List Bool) (c : Int) (j : Nat) : Option Int := if nbOk w d sh c (j / 3) (j % 3) = true then some (nbTo w c (j / 3) (j % 3)) else none
def nbN (w d : Int) (sh : List Bool) (c : Int) (n : Nat) : List Int := (List.range n).filterMap (nbAt w d sh c)
def nbL (w d : Int) (sh : List Bool) (c : Int) : List Int := nbN w d sh c 9
section
variable (w d : Int) (sh : List Bool) (c : Int)
theorem nbN_succ (n : Nat) : nbN w d sh c (n + 1) = nbN w d sh c n ++ (nbAt w d sh c n).toList := by
 simp only [nbN, List.range_succ, List.filterMap_append]
 congr 1
theorem nbN_pre {n m : Nat} (h : n ≤ m) : nbN w d sh c n <+: nbN w d sh c m := by
 induction m with
 | zero => rw [show n = 0 by omega]; exact List.prefix_refl _
 | succ m ih =>
  rcases Nat.lt_or_ge n (m + 1) with h1 | h1
  ·rw [nbN_succ]; exact (ih (by omega)).trans (List.prefix_append _ _)
  ·rw [show n = m + 1 by omega]; exact List.prefix_refl _
theorem nbN_len (n : Nat) : (nbN w d sh c n).length ≤ n := by
 have := List.length_filterMap_le (nbAt w d sh c) (List.range n)
 simpa [nbN] using this
end
theorem nb_enc (R : Rx) (n : Nat) (x : Int) : RelL R n (#[Value.int .i64 x] : Array Value).toList [.int .i64 x] := ⟨rfl, fun i v d hv hd => by
 cases i with
 | succ i => simp at hv
 | zero => simp at hv hd; subst hv; subst hd; exact .int _ _ _⟩
theorem nb_dec (R : Rx) (n : Nat) (vs : List Value) (x : Int) (h : RelL R n vs [.int .i64 x]) : vs = (#[Value.int .i64 x] : Array Value).toList := by
 obtain ⟨h1, h2⟩ := h
 obtain ⟨v, rfl⟩ := List.length_eq_one_iff.1 (show vs.length = 1 from h1)
 have := h2 0 _ _ rfl rfl
 cases this; rfl
theorem neighbours_t (s : SkyW) (cell : Int) : Pure Tryz.prog 58 [.agg s.c, .int .i64 cell] (.fn (.func 77) [] [.ref [.int .i64 cell] 0, .ref s.c 0]) := by
 obtain ⟨w, d, sh⟩ := s
 simp only [SkyW.c]
 refine pure_of_wc (rs := [.tmp 4]) (m := 6) [] oNone_ok (by kernel_rfl) Tryz.func58 rfl (by kernel_rfl) rfl rfl (by kernel_rfl) ?_
 simp only [RT, FS, ↓RE, okR, argEnv, Nat.reduceAdd, Nat.reduceSub, Nat.reduceLT, Nat.reduceLeDiff, Nat.reduceEqDiff, reduceIte]
theorem nb_in {s : SkyW} (hs : SkyOk s) {c : Int} (hc : InS s c) {i k : Nat} (hi : i < 3) (hk : k < 3) (h1 : rI (c % s.w + ((k : Int) - 1)) 0 (s.w - 1) = true) (h2 : rI (c / s.w + ((i : Int) - 1)) 0 (s.d - 1) = true) :
  InS s (nbTo s.w c i k) ∧ nbTo s.w c i k % s.w = c % s.w + ((k : Int) - 1) ∧ nbTo s.w c i k / s.w = c / s.w + ((i : Int) - 1) := by
 have hw := hs.w
 have h1 := rI_le h1
 have h2 := rI_le h2
 have e : nbTo s.w c i k = (c % s.w + ((k : Int) - 1)) + s.w * (c / s.w + ((i : Int) - 1)) := by
  have := Int.emod_add_mul_ediv c s.w
  unfold nbTo
  rw [Int.mul_add, Int.mul_comm s.w ((i : Int) - 1)]
  omega
 rw [e]
 generalize c % s.w + ((k : Int) - 1) = p at *
 generalize c / s.w + ((i : Int) - 1) = q at *
 refine ⟨⟨?_, ?_⟩, ?_, ?_⟩
 ·have := Int.mul_nonneg (show 0 ≤ s.w by omega) h2.1; omega
 ·rw [hs.n]
  have : s.w * q ≤ s.w * (s.d - 1) := Int.mul_le_mul_of_nonneg_left h2.2 (by omega)
  rw [Int.mul_sub] at this
  omega
 ·rw [Int.add_mul_emod_self_left]; exact Int.emod_eq_of_lt h1.1 (by omega)
 ·rw [Int.add_mul_ediv_left _ _ (by omega), Int.ediv_eq_zero_of_lt h1.1 (by omega)]; omega
set_option maxHeartbeats 2000000 in
theorem nb_seq {s : SkyW} (hs : SkyOk s) {cell : Int} (hcell : InS s cell) :
  SeqP Tryz.prog 77 [.ref [.int .i64 cell] 0, .ref s.c 0] (fun x : Int => #[.int .i64 x]) (fun xs => xs = nbL s.w s.d s.sh cell) (fun pre => pre <+: nbL s.w s.d s.sh cell) 9 := by
 refine seq_of_awj (dsf := fun x : Int => [.int .i64 x]) Tryz.func77 rfl rfl (fun R n vs x => nb_dec R n vs x) fun S0 l JJ hJ hY => ?_
 have hsw := hs.w
 have hsd := hs.d
 obtain ⟨r1, r2⟩ := cell_ar hs hcell
 have hcb := cell_b hs hcell
 have hnb := fun i k (hi : i < 3) (hk : k < 3) => nb_in (s := s) hs hcell hi hk
 have hle := hs.le
 have hcl : 0 ≤ cell ∧ cell ≤ 144 := ⟨hcell.1, by have := hcell.2; omega⟩
 obtain ⟨w, d, sh⟩ := s
 dsimp only at *
 clear hcell
 have q1 := a_rem' (k := .i64) (x := cell) (y := w) (by omega)
 have q2 := a_quo' (k := .i64) (x := cell) (y := w) (by omega)
 simp only [SkyW.c]
 show AWj _ _ _ _ ⟨[(0, .raw (.func (.yield l) #[] #[])), (1, .ref [.int .i64 cell] 0), (2, .ref [.int .i64 w, .int .i64 d, shD sh] 0)], [], 0, 67⟩ _ _
 refine awj_seq (awj_piece e2_ok (by kernel_rfl) [(0, [(10, false, false, [])])] hJ (by kernel_rfl) (by kernel_rfl) ?_)
 simp only [RT, FS, ↓RE, okR, argEnv, Nat.reduceAdd, Nat.reduceSub, Nat.reduceLT, Nat.reduceLeDiff, Nat.reduceEqDiff, reduceIte, q1, q2, r1, r2]
 let EA : Env := [(5, .int .i64 (cell / w)), (4, .int .i64 (cell % w)), (2, .ref [.int .i64 w, .int .i64 d, shD sh] 0), (1, .ref [.int .i64 cell] 0), (0, .raw (.func (.yield l) #[] #[]))]
 refine ⟨⟨EA, [], 0, 67⟩, weakJ_of (by repeat (first | exact trivial | refine ⟨.inl ⟨rfl, rfl⟩, ?_⟩ | refine ⟨.inr ⟨rfl, rfl⟩, ?_⟩)), ?_⟩
 simp only [thenJ]
 refine awj_seq (awj_piece e2_ok (by kernel_rfl) [(0, [(10, false, false, [])])] hJ (by kernel_rfl) (by kernel_rfl) ?_)
 simp only [RT, FS, ↓RE, okR, argEnv, Nat.reduceAdd, Nat.reduceSub, Nat.reduceLT, Nat.reduceLeDiff, Nat.reduceEqDiff, reduceIte, EA]
 refine ⟨⟨(6, .int .i64 (-1)) :: EA, [], 0, 67⟩, weakJ_of (by repeat (first | exact trivial | refine ⟨.inl ⟨rfl, rfl⟩, ?_⟩ | refine ⟨.inr ⟨rfl, rfl⟩, ?_⟩)), ?_⟩
 simp only [thenJ]
 refine awj_block (awj_loop (ι := Nat) (fun i => ⟨(6, .int .i64 ((i : Int) - 1)) :: EA, [], 0, 67⟩) (fun i => (nbN w d sh cell (3 * i), false)) (fun i => i ≤ 3) (fun i => 3 - i) 0 (by omega) rfl (lessJ_of (by repeat (first | exact trivial | refine ⟨rfl, ?_⟩))) fun i hi => ?_)
 rcases Nat.lt_or_ge i 3 with hlt | hge
 rotate_left
 ·have hc : ((i : Int) - 1 ≤ 1) = False := by simp; omega
  refine awj_seq (awj_piece e2_ok (by kernel_rfl) [(0, [(10, false, false, [])])] hJ (by kernel_rfl) (by kernel_rfl) ?_)
  simp only [RT, FS, ↓RE, okR, argEnv, Nat.reduceAdd, Nat.reduceSub, Nat.reduceLT, Nat.reduceLeDiff, Nat.reduceEqDiff, reduceIte, EA, hc, decide_false]
  refine ⟨⟨[], [], 0, 67⟩, weakJ_of (by repeat (first | exact trivial | refine ⟨.inl ⟨rfl, rfl⟩, ?_⟩ | refine ⟨.inr ⟨rfl, rfl⟩, ?_⟩)), ?_⟩
  simp only [thenJ, blockJ, if_true]
  exact ⟨.inl trivial, .inl ⟨trivial, by rw [show i = 3 by omega]; rfl⟩⟩
 have hc : ((i : Int) - 1 ≤ 1) = True := by simp; omega
 refine awj_seq (awj_piece e2_ok (by kernel_rfl) [(0, [(10, false, false, [])])] hJ (by kernel_rfl) (by kernel_rfl) ?_)
 simp only [RT, FS, ↓RE, okR, argEnv, Nat.reduceAdd, Nat.reduceSub, Nat.reduceLT, Nat.reduceLeDiff, Nat.reduceEqDiff, reduceIte, EA, hc, decide_true]
 refine ⟨⟨(6, .int .i64 ((i : Int) - 1)) :: EA, [], 0, 67⟩, weakJ_of (by repeat (first | exact trivial | refine ⟨.inl ⟨rfl, rfl⟩, ?_⟩ | refine ⟨.inr ⟨rfl, rfl⟩, ?_⟩)), ?_⟩
 simp only [thenJ]
 refine awj_seq (awj_block ?_)
 refine awj_seq (awj_piece e2_ok (by kernel_rfl) [(0, [(10, false, false, [])])] hJ (by kernel_rfl) (by kernel_rfl) ?_)
 simp only [RT, FS, ↓RE, okR, argEnv, Nat.reduceAdd, Nat.reduceSub, Nat.reduceLT, Nat.reduceLeDiff, Nat.reduceEqDiff, reduceIte, EA]
 refine ⟨⟨(7, .int .i64 (-1)) :: (6, .int .i64 ((i : Int) - 1)) :: EA, [], 0, 67⟩, weakJ_of (by repeat (first | exact trivial | refine ⟨.inl ⟨rfl, rfl⟩, ?_⟩ | refine ⟨.inr ⟨rfl, rfl⟩, ?_⟩)), ?_⟩
 simp only [thenJ]
 refine awj_block (awj_loop (ι := Nat) (fun k => ⟨(7, .int .i64 ((k : Int) - 1)) :: (6, .int .i64 ((i : Int) - 1)) :: EA, [], 0, 67⟩) (fun k => (nbN w d sh cell (3 * i + k), false)) (fun k => k ≤ 3) (fun k => 3 - k) 0 (by omega) rfl (lessJ_of (by repeat (first | exact trivial | refine ⟨rfl, ?_⟩))) fun k hk => ?_)
 rcases Nat.lt_or_ge k 3 with hkl | hkg
 rotate_left
 ·have hc : ((k : Int) - 1 ≤ 1) = False := by simp; omega
  refine awj_seq (awj_piece e2_ok (by kernel_rfl) [(0, [(10, false, false, [])])] hJ (by kernel_rfl) (by kernel_rfl) ?_)
  simp only [RT, FS, ↓RE, okR, argEnv, Nat.reduceAdd, Nat.reduceSub, Nat.reduceLT, Nat.reduceLeDiff, Nat.reduceEqDiff, reduceIte, EA, hc, decide_false]
  refine ⟨⟨(6, .int .i64 ((i : Int) - 1)) :: EA, [], 0, 67⟩, weakJ_of (by repeat (first | exact trivial | refine ⟨.inl ⟨rfl, rfl⟩, ?_⟩ | refine ⟨.inr ⟨rfl, rfl⟩, ?_⟩)), ?_⟩
  simp only [thenJ, blockJ, if_true]
  refine awj_piece e2_ok (by kernel_rfl) [(0, [(10, false, false, [])])] hJ (by kernel_rfl) (by kernel_rfl) ?_
  have w1 : IntKind.i64.wrap ((i : Int) - 1 + 1) = ((i + 1 : Nat) : Int) - 1 := by rw [wrap_i64 (by omega) (by omega)]; omega
  simp only [RT, FS, ↓RE, okR, argEnv, Nat.reduceAdd, Nat.reduceSub, Nat.reduceLT, Nat.reduceLeDiff, Nat.reduceEqDiff, reduceIte, EA, w1]
  refine ⟨⟨(6, .int .i64 (((i + 1 : Nat) : Int) - 1)) :: EA, [], 0, 67⟩, weakJ_of (by repeat (first | exact trivial | refine ⟨.inl ⟨rfl, rfl⟩, ?_⟩ | refine ⟨.inr ⟨rfl, rfl⟩, ?_⟩)), ?_⟩
  simp only [thenJ]
  exact ⟨i + 1, by omega, by omega, by rw [show 3 * (i + 1) = 3 * i + k by omega], lessJ_of (by repeat (first | exact trivial | refine ⟨rfl, ?_⟩))⟩
 have hc : ((k : Int) - 1 ≤ 1) = True := by simp; omega
 refine awj_seq (awj_piece e2_ok (by kernel_rfl) [(0, [(10, false, false, [])])] hJ (by kernel_rfl) (by kernel_rfl) ?_)
 simp only [RT, FS, ↓RE, okR, argEnv, Nat.reduceAdd, Nat.reduceSub, Nat.reduceLT, Nat.reduceLeDiff, Nat.reduceEqDiff, reduceIte, EA, hc, decide_true]
 refine ⟨⟨(7, .int .i64 ((k : Int) - 1)) :: (6, .int .i64 ((i : Int) - 1)) :: EA, [], 0, 67⟩, weakJ_of (by repeat (first | exact trivial | refine ⟨.inl ⟨rfl, rfl⟩, ?_⟩ | refine ⟨.inr ⟨rfl, rfl⟩, ?_⟩)), ?_⟩
 simp only [thenJ]
 have hat : nbAt w d sh cell (3 * i + k) = if nbOk w d sh cell i k = true then some (nbTo w cell i k) else none := by
  unfold nbAt; rw [show (3 * i + k) % 3 = k by omega, show (3 * i + k) / 3 = i by omega]
 have hm1 : -12 ≤ ((i : Int) - 1) * w ∧ ((i : Int) - 1) * w ≤ 12 := by
  have : (i : Int) - 1 = -1 ∨ (i : Int) - 1 = 0 ∨ (i : Int) - 1 = 1 := by omega
  rcases this with h | h | h <;> rw [h] <;> omega
 have u1 : IntKind.i64.wrap (cell % w + ((k : Int) - 1)) = cell % w + ((k : Int) - 1) := wrap_i64 (by omega) (by omega)
 have u2 : IntKind.i64.wrap (w - 1) = w - 1 := wrap_i64 (by omega) (by omega)
 have u3 : IntKind.i64.wrap (cell / w + ((i : Int) - 1)) = cell / w + ((i : Int) - 1) := wrap_i64 (by omega) (by omega)
 have u4 : IntKind.i64.wrap (d - 1) = d - 1 := wrap_i64 (by omega) (by omega)
 have u5 : IntKind.i64.wrap (((i : Int) - 1) * w) = ((i : Int) - 1) * w := wrap_i64 (by omega) (by omega)
 have u6 : IntKind.i64.wrap (cell + ((i : Int) - 1) * w) = cell + ((i : Int) - 1) * w := wrap_i64 (by omega) (by omega)
 have u7 : IntKind.i64.wrap (cell + ((i : Int) - 1) * w + ((k : Int) - 1)) = nbTo w cell i k := wrap_i64 (by omega) (by omega)
 have w6 : IntKind.i64.wrap ((k : Int) - 1 + 1) = ((k + 1 : Nat) : Int) - 1 := by rw [wrap_i64 (by omega) (by omega)]; omega
 refine awj_seq (awj_block (awj_seq (awj_piece e2_ok (by kernel_rfl) [(0, [(10, false, false, [])])] hJ (by kernel_rfl) (by kernel_rfl) ?_)))
 simp only [RT, FS, ↓RE, okR, argEnv, Nat.reduceAdd, Nat.reduceSub, Nat.reduceLT, Nat.reduceLeDiff, Nat.reduceEqDiff, reduceIte, EA, u5, u6, u7]
 refine ⟨⟨(8, .int .i64 (nbTo w cell i k)) :: (7, .int .i64 ((k : Int) - 1)) :: (6, .int .i64 ((i : Int) - 1)) :: EA, [], 0, 67⟩, weakJ_of (by repeat (first | exact trivial | refine ⟨.inl ⟨rfl, rfl⟩, ?_⟩ | refine ⟨.inr ⟨rfl, rfl⟩, ?_⟩)), ?_⟩
 simp only [thenJ]
 refine awj_seq (awj_mono (Q := fun e s' g' => s' = ⟨(8, .int .i64 (nbTo w cell i k)) :: (7, .int .i64 ((k : Int) - 1)) :: (6, .int .i64 ((i : Int) - 1)) :: EA, [], 0, 67⟩ ∧ g' = (nbN w d sh cell (3 * i + k), false) ∧ ((e = .normal ∧ nbOk w d sh cell i k = true) ∨ (e = .exit 3 ∧ nbOk w d sh cell i k = false))) ?_ ?_)
 ·refine awj_piece e2_ok (by kernel_rfl) [(0, [(10, false, false, [])])] hJ (by kernel_rfl) (by kernel_rfl) ?_
  cases b0 : decide (nbTo w cell i k = cell)
  case true =>
   simp only [RT, FS, ↓RE, okR, argEnv, Nat.reduceAdd, Nat.reduceSub, Nat.reduceLT, Nat.reduceLeDiff, Nat.reduceEqDiff, reduceIte, EA, beq_dec, b0]
   exact ⟨⟨(8, .int .i64 (nbTo w cell i k)) :: (7, .int .i64 ((k : Int) - 1)) :: (6, .int .i64 ((i : Int) - 1)) :: EA, [], 0, 67⟩, weakJ_of (by repeat (first | exact trivial | refine ⟨.inl ⟨rfl, rfl⟩, ?_⟩ | refine ⟨.inr ⟨rfl, rfl⟩, ?_⟩)), by simp [EA, nbOk, b0]⟩
  cases b2 : rI (cell % w + ((k : Int) - 1)) 0 (w - 1)
  ·simp only [RT, FS, ↓RE, okR, argEnv, Nat.reduceAdd, Nat.reduceSub, Nat.reduceLT, Nat.reduceLeDiff, Nat.reduceEqDiff, reduceIte, EA, beq_dec, gI3_eq, u1, u2, u3, u4, b0, b2]
   exact ⟨⟨(8, .int .i64 (nbTo w cell i k)) :: (7, .int .i64 ((k : Int) - 1)) :: (6, .int .i64 ((i : Int) - 1)) :: EA, [], 0, 67⟩, weakJ_of (by repeat (first | exact trivial | refine ⟨.inl ⟨rfl, rfl⟩, ?_⟩ | refine ⟨.inr ⟨rfl, rfl⟩, ?_⟩)), by simp [EA, nbOk, b2]⟩
  cases b3 : rI (cell / w + ((i : Int) - 1)) 0 (d - 1)
  ·simp only [RT, FS, ↓RE, okR, argEnv, Nat.reduceAdd, Nat.reduceSub, Nat.reduceLT, Nat.reduceLeDiff, Nat.reduceEqDiff, reduceIte, EA, beq_dec, gI3_eq, u1, u2, u3, u4, b0, b2, b3]
   exact ⟨⟨(8, .int .i64 (nbTo w cell i k)) :: (7, .int .i64 ((k : Int) - 1)) :: (6, .int .i64 ((i : Int) - 1)) :: EA, [], 0, 67⟩, weakJ_of (by repeat (first | exact trivial | refine ⟨.inl ⟨rfl, rfl⟩, ?_⟩ | refine ⟨.inr ⟨rfl, rfl⟩, ?_⟩)), by simp [EA, nbOk, b3]⟩
  obtain ⟨hin, _⟩ := hnb i k hlt hkl b2 b3
  obtain ⟨j, hj1, hj2⟩ := free_ix (l := sh) (c := nbTo w cell i k) (by have h1 := hin.1; have h2 := hin.2; dsimp only at h1 h2; simp [rI]; omega)
  have hx := shD_ix hj2
  rw [← hj1] at hx
  cases b4 : isShut sh (nbTo w cell i k)
  ·rw [b4] at hx
   simp only [RT, FS, ↓RE, okR, argEnv, Nat.reduceAdd, Nat.reduceSub, Nat.reduceLT, Nat.reduceLeDiff, Nat.reduceEqDiff, reduceIte, EA, beq_dec, gI3_eq, u1, u2, u3, u4, b0, b2, b3, hx]
   exact ⟨⟨(8, .int .i64 (nbTo w cell i k)) :: (7, .int .i64 ((k : Int) - 1)) :: (6, .int .i64 ((i : Int) - 1)) :: EA, [], 0, 67⟩, weakJ_of (by repeat (first | exact trivial | refine ⟨.inl ⟨rfl, rfl⟩, ?_⟩ | refine ⟨.inr ⟨rfl, rfl⟩, ?_⟩)), by simp only [decide_eq_false_iff_not] at b0; simp [EA, nbOk, b0, b2, b3, b4]⟩
  ·rw [b4] at hx
   simp only [RT, FS, ↓RE, okR, argEnv, Nat.reduceAdd, Nat.reduceSub, Nat.reduceLT, Nat.reduceLeDiff, Nat.reduceEqDiff, reduceIte, EA, beq_dec, gI3_eq, u1, u2, u3, u4, b0, b2, b3, hx]
   exact ⟨⟨(8, .int .i64 (nbTo w cell i k)) :: (7, .int .i64 ((k : Int) - 1)) :: (6, .int .i64 ((i : Int) - 1)) :: EA, [], 0, 67⟩, weakJ_of (by repeat (first | exact trivial | refine ⟨.inl ⟨rfl, rfl⟩, ?_⟩ | refine ⟨.inr ⟨rfl, rfl⟩, ?_⟩)), by simp [EA, nbOk, b4]⟩
 rintro e s' g' ⟨rfl, rfl, ⟨rfl, hk⟩ | ⟨rfl, hk⟩⟩
 rotate_left
 ·rw [hk] at hat
  simp only [Bool.false_eq_true, if_false] at hat
  simp only [thenJ, blockJ, if_true]
  refine awj_piece e2_ok (by kernel_rfl) [(0, [(10, false, false, [])])] hJ (by kernel_rfl) (by kernel_rfl) ?_
  simp only [RT, FS, ↓RE, okR, argEnv, Nat.reduceAdd, Nat.reduceSub, Nat.reduceLT, Nat.reduceLeDiff, Nat.reduceEqDiff, reduceIte, EA, w6]
  refine ⟨⟨(7, .int .i64 (((k + 1 : Nat) : Int) - 1)) :: (6, .int .i64 ((i : Int) - 1)) :: EA, [], 0, 67⟩, weakJ_of (by repeat (first | exact trivial | refine ⟨.inl ⟨rfl, rfl⟩, ?_⟩ | refine ⟨.inr ⟨rfl, rfl⟩, ?_⟩)), ?_⟩
  simp only [thenJ]
  exact ⟨k + 1, by omega, by omega, by rw [show 3 * i + (k + 1) = 3 * i + k + 1 from rfl, nbN_succ, hat]; simp, lessJ_of (by repeat (first | exact trivial | refine ⟨rfl, ?_⟩))⟩
 rw [hk] at hat
 simp only [if_true] at hat
 simp only [thenJ]
 have hln := nbN_len w d sh cell (3 * i + k)
 have hsn : nbN w d sh cell (3 * i + k + 1) = nbN w d sh cell (3 * i + k) ++ [nbTo w cell i k] := by rw [nbN_succ, hat]; rfl
 refine awj_seq (hY _ _ _ _ _ ?_)
 simp only [yOps, yieldOf, opR, opQ, evO, look, EA, St.put, true_and, Nat.reduceEqDiff, Nat.reduceLT, if_true, if_false, reduceIte, List.map_cons, List.map_nil, flS]
 refine ⟨_, nbTo w cell i k, rfl, by omega, rfl, ?_, ?_⟩
 ·simp only [thenJ]
  refine awj_cond (t := false) rfl (fun h => by cases h) fun _ => awj_skip ?_
  simp only [thenJ, blockJ]
  refine awj_piece e2_ok (by kernel_rfl) [(0, [(10, false, false, [])])] hJ (by kernel_rfl) (by kernel_rfl) ?_
  simp only [RT, FS, ↓RE, okR, argEnv, Nat.reduceAdd, Nat.reduceSub, Nat.reduceLT, Nat.reduceLeDiff, Nat.reduceEqDiff, reduceIte, EA, w6]
  refine ⟨⟨(7, .int .i64 (((k + 1 : Nat) : Int) - 1)) :: (6, .int .i64 ((i : Int) - 1)) :: EA, [], 0, 67⟩, weakJ_of (by repeat (first | exact trivial | refine ⟨.inl ⟨rfl, rfl⟩, ?_⟩ | refine ⟨.inr ⟨rfl, rfl⟩, ?_⟩)), ?_⟩
  simp only [thenJ]
  exact ⟨k + 1, by omega, by omega, by rw [show 3 * i + (k + 1) = 3 * i + k + 1 from rfl, hsn], lessJ_of (by repeat (first | exact trivial | refine ⟨rfl, ?_⟩))⟩
 ·simp only [thenJ]
  refine awj_cond (t := true) rfl (fun _ => awj_ret ?_) fun h => by cases h
  simp only [thenJ, blockJ]
  refine ⟨.inr trivial, .inr ⟨trivial, ?_⟩⟩
  rw [← hsn]
  exact nbN_pre w d sh cell (by omega)
end Go.Sx

namespace Go.Sx
open Go.Proofs
set_option maxRecDepth 10000

theorem und_set : Program.underlying Tryz.prog 70 = some (.map 3 4) := by kernel_rfl
theorem set_zero : zeroV Tryz.prog 4 = some (.bool false) := by kernel_rfl
theorem bkv_lt (k : Nat) (m : MpB) : D.ltL k ((bkv m).map (·.2)) = true := gkv_lt (fun _ _ => rfl) k m
theorem bkv_nil : bkv [] = [] := rfl
theorem bkv_flat (m : MpB) : ∀ p ∈ bkv m, p.2.flat = true := fun p hp => by
 obtain ⟨q, _, rfl⟩ := List.mem_map.1 hp
 rfl
theorem valG_bool (o : Option Bool) : valG D.bool (.bool false) o = .bool (o.getD false) := by cases o <;> rfl
theorem bkv_view (m : MpB) (h : H) (b : Nat) (hb : hget h b = some (.map (bkv m))) : view h (.mp b) = .mpd (bkv m) := by
 simp only [view, hb]
 rw [if_pos (bkv_lt 0 m)]
theorem bm_get {h : H} {b : Nat} {m : MpB} (hb : hget h b = some (.map (bkv m))) (k : Int) : lookupD Tryz.prog h 70 (.mp b) (.int .i64 k) false = some (.bool ((gget m k).getD false)) := by
 rw [gm_get und_set w_und_i set_zero hb, valG_bool]
theorem bd_get (h : H) (m : MpB) (k : Int) : lookupD Tryz.prog h 70 (.mpd (bkv m)) (.int .i64 k) false = some (.bool ((gget m k).getD false)) := by
 rw [gd_get und_set w_und_i h m set_zero, valG_bool]
theorem bm_put {h : H} {b : Nat} {m : MpB} (hb : hget h b = some (.map (bkv m))) (nid : Nat) (k : Int) (x : Bool) : mapUpdD Tryz.prog h nid 70 (.mp b) (.int .i64 k) (.bool x) = some (.any, hset h b (.map (bkv (gput m k x))), nid) :=
 gm_put und_set w_und_i hb nid k x rfl rfl
structure SetOk (N : Nat) (m : MpB) : Prop where
 nd : gnd m
 key : ∀ p ∈ m, 0 ≤ p.1 ∧ p.1 < (N : Int)
theorem SetOk.inR {N : Nat} (hN : N ≤ 200) {m : MpB} (h : SetOk N m) : InR m := fun p hp => by
 have := h.key p hp
 simp only [Lit.wf, Bool.and_eq_true, decide_eq_true_eq]
 exact ⟨Int.le_trans (by decide) this.1, Int.le_trans (show p.1 ≤ 200 by omega) (by decide)⟩
theorem nodup_len : ∀ (N : Nat) (l : List Int), l.Nodup → (∀ x ∈ l, 0 ≤ x ∧ x < (N : Int)) → l.length ≤ N
 | 0, [], _, _ => Nat.le_refl _
 | 0, x :: l, _, h => by have := h x (by simp); omega
 | N + 1, l, hn, h => by
  have h2 := nodup_len N (l.erase (N : Int)) (hn.erase _) fun x hx => by
   have h1 := (hn.mem_erase_iff).1 hx
   have := h x h1.2
   have := h1.1
   omega
  by_cases hm : (N : Int) ∈ l
  ·rw [List.length_erase_of_mem hm] at h2; omega
  ·rw [List.erase_of_not_mem hm] at h2; omega
theorem SetOk.len {N : Nat} {m : MpB} (h : SetOk N m) : m.length ≤ N := by
 have := nodup_len N _ h.nd fun x hx => by obtain ⟨p, hp, rfl⟩ := List.mem_map.1 hx; exact h.key p hp
 simpa using this
theorem SetOk.put {N : Nat} {m : MpB} (h : SetOk N m) {k : Int} (hk : 0 ≤ k ∧ k < (N : Int)) (v : Bool) : SetOk N (gput m k v) :=
 ⟨gput_nd h.nd k v, fun p hp => by
  rcases List.mem_cons.1 ((gput_perm k v h.nd).mem_iff.1 hp) with rfl | hp
  ·exact hk
  ·exact h.key p (List.mem_filter.1 hp).1⟩
def cellsL (m : MpB) : List Int := (keysS m).filter fun k => (gget m k).getD false
theorem cells1_t (k : Int) : Pure Tryz.prog 66 [.int .i64 k] (.bool true) := by
 refine pure_of_wc (rs := [.tmp 2]) (m := 3) [] oNone_ok (by kernel_rfl) Tryz.func66 rfl (by kernel_rfl) rfl rfl (by kernel_rfl) ?_
 simp only [RT, FS, ↓RE, okR, argEnv, Nat.reduceAdd, Nat.reduceSub, Nat.reduceLT, Nat.reduceLeDiff, Nat.reduceEqDiff, reduceIte]
theorem keysS_len {β : Type} (m : MpG β) : (keysS m).length = m.length := by simp [keysS, List.length_mergeSort]
theorem sI_ix {l : List Int} {i : Nat} {x : Int} (hx : l[i]? = some x) (h : H) : indexAddrD Tryz.prog h 29 (.sl (intL l)) (.int .i64 (i : Int)) = some (.ref [.int .i64 x] 0) := aft_ix hx h
theorem filter_take {α : Type} {p : α → Bool} {l : List α} {i : Nat} {x : α} (hx : l[i]? = some x) : (l.take (i + 1)).filter p = (l.take i).filter p ++ (if p x then [x] else []) := by
 rw [List.take_add_one, hx, List.filter_append]
 cases h : p x <;> simp [h]
set_option maxHeartbeats 1000000 in
theorem ordered_t {N : Nat} (hN : N ≤ 200) {m : MpB} (hm : SetOk N m) : Pure Tryz.prog 65 [.mpd (bkv m), .fn (.func 66) [] []] (.sl (intL (cellsL m))) := by
 have hr := hm.inR hN
 have hlen := hm.len
 have hkl := keysS_len m
 refine pure_of_wc (rs := [.tmp 4]) (m := 30) [] oNone_ok (by kernel_rfl) Tryz.func65 rfl (by kernel_rfl) rfl rfl (by kernel_rfl) ?_
 simp only [RT, FS, ↓RE, okR, argEnv, Nat.reduceAdd, Nat.reduceSub, Nat.reduceLT, Nat.reduceLeDiff, Nat.reduceEqDiff, reduceIte, RM]
 refine call_of_acall ?_
 refine acall_of_wc (rs := [.tmp 2]) (m := 4) [] oNone_ok (by kernel_rfl) Tryz.func83 rfl (by kernel_rfl) rfl rfl (by kernel_rfl) ?_
 simp only [RT, FS, ↓RE, okR, argEnv, Nat.reduceAdd, Nat.reduceSub, Nat.reduceLT, Nat.reduceLeDiff, Nat.reduceEqDiff, reduceIte, RM]
 have hS : ACall Tryz.prog 82 [.fn (.func 91) [] [.ptr 0 0]] [(0, .box [.mpd (bkv m)])] 1 fun r h' nid' => r = .sl (intL (keysS m)) ∧ h' = [(0, .box [.mpd (bkv m)])] ∧ nid' = 1 := w_sorted (i := 0) (y := .mpd (bkv m)) rfl (.inl rfl) hr (by omega)
 refine call_of_acall (hS.mono ?_)
 rintro r h' nid' ⟨rfl, rfl, rfl⟩
 simp only [RT, FS, ↓RE, okR, argEnv, Nat.reduceAdd, Nat.reduceSub, Nat.reduceLT, Nat.reduceLeDiff, Nat.reduceEqDiff, reduceIte, RM, intL_len]
 unfold cellsL
 obtain ⟨p, hp⟩ : ∃ p : Int → Bool, p = fun k => (gget m k).getD false := ⟨_, rfl⟩
 have hpk : ∀ k, p k = (gget m k).getD false := fun k => by rw [hp]
 rw [← hp]
 generalize keysS m = K at *
 refine loopNil 5 3 1 rfl ?_
 refine loopV (ι := Nat) oNone_ok [] (fun i => [(0, .mpd (bkv m)), (1, .fn (.func 66) [] []), (5, .osl 1 ((K.take i).filter p).length), (10, .sl (intL K)), (11, .int .i64 (K.length : Int)), (12, .int .i64 (i : Int))])
  (fun i => [(1, .arr 3 1 (intL ((K.take i).filter p)))]) 2 (fun i => i ≤ K.length) (fun i => K.length - i) 0 (by kernel_rfl) (by kernel_rfl) (Nat.zero_le _) ?_ ?_
 ·simp [headW, heapW, envW, blkLt, D.ltL, D.lt, look, hget, hset, eset_cons, eset_nil, intL]
 intro i hil
 rcases Nat.lt_or_ge i K.length with hlt | hge
 ·have hc := nat_lt_true hlt
  obtain ⟨x, hx⟩ : ∃ x, K[i]? = some x := ⟨K[i], by simp [hlt]⟩
  have hix := sI_ix hx
  have hw1 := wrap_i64 (z := (i : Int) + 1) (by omega) (by omega)
  have hg := fun h => bd_get h m x
  have hft := filter_take (p := p) hx
  have hfl : ((K.take i).filter p).length ≤ 1000 := by
   have := List.length_filter_le p (K.take i)
   have : (K.take i).length ≤ K.length := by rw [List.length_take]; omega
   omega
  rw [← hpk] at hg
  cases hpx : p x
  ·rw [hpx] at hg hft
   simp only [Bool.false_eq_true, if_false, List.append_nil] at hft
   simp only [RT, FS, ↓RE, okR, argEnv, Nat.reduceAdd, Nat.reduceSub, Nat.reduceLT, Nat.reduceLeDiff, Nat.reduceEqDiff, reduceIte, RM, hc, decide_true, hix, hg, hw1]
   exact ⟨i + 1, by omega, by omega, by rw [hft]; simp [headW, heapW, envW, blkLt, D.ltL, D.lt, look, hget]⟩
  ·rw [hpx] at hg hft
   simp only [if_true] at hft
   have a7 := fun h nid (hb : hget h 1 = some (.arr 3 1 (intL ((K.take i).filter p)))) (hb2 : hget h 2 = some (.arr 3 1 [[.int .i64 x]])) => oI_app (n := ((K.take i).filter p).length) (n2 := 1) (r := [x]) hb rfl hb2 rfl nid (by simp; omega)
   simp only [RT, FS, ↓RE, okR, argEnv, Nat.reduceAdd, Nat.reduceSub, Nat.reduceLT, Nat.reduceLeDiff, Nat.reduceEqDiff, reduceIte, RM, hc, decide_true, hix, hg, hw1]
   refine call_of_pure (cells1_t x) rfl ?_
   simp only [RT, FS, ↓RE, okR, argEnv, Nat.reduceAdd, Nat.reduceSub, Nat.reduceLT, Nat.reduceLeDiff, Nat.reduceEqDiff, reduceIte, RM, a7, hw1, intL_len, List.length_append, List.length_singleton, decide_true]
   exact ⟨i + 1, by omega, by omega, by rw [hft]; simp [headW, heapW, envW, blkLt, D.ltL, D.lt, look, hget]⟩
 ·have hc := nat_lt_false hge
  have : i = K.length := by omega
  subst this
  rw [List.take_length]
  simp only [RT, FS, ↓RE, okR, argEnv, Nat.reduceAdd, Nat.reduceSub, Nat.reduceLT, Nat.reduceLeDiff, Nat.reduceEqDiff, reduceIte, RM, hc, decide_false]
  simp [viewA, intL_len]
theorem cells_t {N : Nat} (hN : N ≤ 200) {m : MpB} (hm : SetOk N m) : Pure Tryz.prog 31 [.mpd (bkv m)] (.sl (intL (cellsL m))) := by
 have hp := ordered_t hN hm
 refine pure_of_wc (rs := [.tmp 2]) (m := 5) [] oNone_ok (by kernel_rfl) Tryz.func31 rfl (by kernel_rfl) rfl rfl (by kernel_rfl) ?_
 simp only [RT, FS, ↓RE, okR, argEnv, Nat.reduceAdd, Nat.reduceSub, Nat.reduceLT, Nat.reduceLeDiff, Nat.reduceEqDiff, reduceIte, RM]
 refine call_of_free hp (by simp [D.frL, D.fr]) (by simp [D.fr]) ?_
 simp only [RT, FS, ↓RE, okR, argEnv, Nat.reduceAdd, Nat.reduceSub, Nat.reduceLT, Nat.reduceLeDiff, Nat.reduceEqDiff, reduceIte]
end Go.Sx

namespace Go.Sx
open Go.Proofs
set_option maxRecDepth 10000

def nbPut (o : MpB) (l : List Int) : MpB := l.foldl (fun o t => gput o t true) o
def aroundM (s : SkyW) (m : MpB) : MpB := (cellsL m).foldl (fun o c => nbPut o (nbL s.w s.d s.sh c)) m
theorem nbL_in {s : SkyW} (hs : SkyOk s) {c : Int} (hc : InS s c) : ∀ t ∈ nbL s.w s.d s.sh c, freeB s.sh t = true := fun t ht => by
 obtain ⟨j, hj, e⟩ := List.mem_filterMap.1 ht
 have hj := List.mem_range.1 hj
 unfold nbAt at e
 split at e
 ·rename_i hok
  cases e
  simp only [nbOk, Bool.and_eq_true, Bool.not_eq_true'] at hok
  obtain ⟨_, h1, h2, h3⟩ := hok
  obtain ⟨⟨i1, i2⟩, _⟩ := nb_in hs hc (i := j / 3) (k := j % 3) (by omega) (by omega) h1 h2
  simp only [freeB, rI, Bool.and_eq_true, decide_eq_true_eq, Bool.not_eq_true']
  exact ⟨⟨i1, by omega⟩, h3⟩
 ·cases e
theorem nbPut_ok {N : Nat} : ∀ (l : List Int) {m : MpB}, SetOk N m → (∀ t ∈ l, 0 ≤ t ∧ t < (N : Int)) → SetOk N (nbPut m l)
 | [], _, h, _ => h
 | t :: l, m, h, hl => nbPut_ok l (h.put (hl t (by simp)) true) fun x hx => hl x (by simp [hx])
theorem keysS_mem {β : Type} {m : MpG β} {x : Int} : x ∈ keysS m ↔ x ∈ m.map (·.1) := (List.mergeSort_perm _ _).mem_iff
theorem cellsL_in {N : Nat} {m : MpB} (h : SetOk N m) : ∀ c ∈ cellsL m, 0 ≤ c ∧ c < (N : Int) := fun c hc => by
 obtain ⟨p, hp, rfl⟩ := List.mem_map.1 (keysS_mem.1 (List.mem_filter.1 hc).1)
 exact h.key p hp
theorem around_go {s : SkyW} (hs : SkyOk s) : ∀ (l : List Int) {m : MpB}, SetOk s.sh.length m → (∀ c ∈ l, InS s c) → SetOk s.sh.length (l.foldl (fun o c => nbPut o (nbL s.w s.d s.sh c)) m)
 | [], _, h, _ => h
 | c :: l, m, h, hl => around_go hs l (nbPut_ok _ h fun t ht => free_in (nbL_in hs (hl c (by simp)) t ht)) fun x hx => hl x (by simp [hx])
theorem around_ok {s : SkyW} (hs : SkyOk s) {m : MpB} (h : SetOk s.sh.length m) : SetOk s.sh.length (aroundM s m) := around_go hs _ h (cellsL_in h)
theorem nb_lt (s : SkyW) (c : Int) (m : Nat) : D.ltL m [.ref [.int .i64 c] 0, .ref s.c 0] = true := by
 obtain ⟨w, d, sh⟩ := s
 simp [D.ltL, D.lt]
set_option maxHeartbeats 2000000 in
theorem around_t {s : SkyW} (hs : SkyOk s) {m : MpB} (hm : SetOk s.sh.length m) : PureM Tryz.prog 63 [.agg s.c, .mpd (bkv m)] (bkv (aroundM s m)) := by
 have hle := hs.le
 have hN : s.sh.length ≤ 200 := by omega
 have pc := cells_t hN hm
 have pn := fun c => neighbours_t s c
 have pq := fun c (hc : InS s c) => nb_seq hs hc
 have hci := cellsL_in hm
 have hlt := nb_lt s
 have hcl : (cellsL m).length ≤ 1000 := by
  have := List.length_filter_le (fun k => (gget m k).getD false) (keysS m)
  have := keysS_len m
  have := hm.len
  unfold cellsL; omega
 obtain ⟨F, hF⟩ : ∃ F : Nat → MpB, F = fun i => ((cellsL m).take i).foldl (fun o c => nbPut o (nbL s.w s.d s.sh c)) m := ⟨_, rfl⟩
 have hF0 : F 0 = m := by rw [hF]; rfl
 have hFS : ∀ i c, (cellsL m)[i]? = some c → F (i + 1) = nbPut (F i) (nbL s.w s.d s.sh c) := fun i c hc => by rw [hF]; simp only [List.take_add_one, hc, List.foldl_append]; rfl
 have hFe : aroundM s m = F (cellsL m).length := by rw [hF]; simp only [List.take_length]; rfl
 rw [hFe]
 have hInS : ∀ c, InS s c = (0 ≤ c ∧ c < (s.sh.length : Int)) := fun _ => rfl
 obtain ⟨w, d, sh⟩ := s
 simp only [SkyW.c] at *
 unfold PureM
 refine acall_of_wc (rs := [.tmp 4]) (m := 26) [] oNone_ok (by kernel_rfl) Tryz.func63 rfl (by kernel_rfl) rfl rfl (by kernel_rfl) ?_
 simp only [RT, FS, ↓RE, okR, argEnv, Nat.reduceAdd, Nat.reduceSub, Nat.reduceLT, Nat.reduceLeDiff, Nat.reduceEqDiff, reduceIte, RM]
 refine call_of_acall ((w_clone (y := .mpd (bkv m)) (.inl rfl)).mono ?_)
 rintro r h' nid' ⟨rfl, rfl, rfl⟩
 simp only [RT, FS, ↓RE, okR, argEnv, Nat.reduceAdd, Nat.reduceSub, Nat.reduceLT, Nat.reduceLeDiff, Nat.reduceEqDiff, reduceIte, RM]
 refine call_of_free pc (by simp [D.frL, D.fr]) (by simp [D.fr]) ?_
 simp only [RT, FS, ↓RE, okR, argEnv, Nat.reduceAdd, Nat.reduceSub, Nat.reduceLT, Nat.reduceLeDiff, Nat.reduceEqDiff, reduceIte, RM, intL_len]
 refine loopV (ι := Nat) oNone_ok [] (fun i => [(2, .ptr 0 0), (5, .ptr 2 0), (12, .sl (intL (cellsL m))), (13, .int .i64 ((cellsL m).length : Int)), (14, .int .i64 (i : Int))])
  (fun i => [(2, .box [.mp 1]), (1, .map (bkv (F i))), (0, .box [.int .i64 w, .int .i64 d, shD sh])]) 3 (fun i => i ≤ (cellsL m).length) (fun i => (cellsL m).length - i) 0 (by kernel_rfl) (by kernel_rfl) (Nat.zero_le _) ?_ ?_
 ·rw [hF0]
  simp [headW, heapW, envW, blkLt, D.ltL, D.lt, look, hget, bkv_lt]
 intro i hil
 rcases Nat.lt_or_ge i (cellsL m).length with hlt2 | hge
 ·have hc2 := nat_lt_true hlt2
  obtain ⟨c, hc⟩ : ∃ c, (cellsL m)[i]? = some c := ⟨(cellsL m)[i], by simp [hlt2]⟩
  have hix := sI_ix hc
  have hw1 := wrap_i64 (z := (i : Int) + 1) (by omega) (by omega)
  have hFc := hFS i c hc
  have hcin := hci c (List.mem_of_getElem? hc)
  simp only [RT, FS, ↓RE, okR, argEnv, Nat.reduceAdd, Nat.reduceSub, Nat.reduceLT, Nat.reduceLeDiff, Nat.reduceEqDiff, reduceIte, RM, hc2, decide_true, hix]
  refine call_of_pure' (pn c) (by simp [D.ltL, D.lt]) (by simp [D.lt, D.ltL]) ?_
  simp only [RT, FS, ↓RE, okR, argEnv, Nat.reduceAdd, Nat.reduceSub, Nat.reduceLT, Nat.reduceLeDiff, Nat.reduceEqDiff, reduceIte, RM]
  obtain ⟨G, hG⟩ : ∃ G : List Int → MpB, G = fun pre => nbPut (F i) pre := ⟨_, rfl⟩
  have hG0 : G [] = F i := by rw [hG]; rfl
  have hGS : ∀ pre x, G (pre ++ [x]) = gput (G pre) x true := fun pre x => by rw [hG]; simp [nbPut, List.foldl_append]
  refine rangeX (α := Int) oNone_ok [] (by kernel_rfl) (by kernel_rfl) (by kernel_rfl) (pq c hcin).toX (by kernel_rfl) (fun _ => rfl) nb_enc (hlt c 0)
   [(2, .ptr 0 0), (5, .ptr 2 0), (12, .sl (intL (cellsL m))), (13, .int .i64 ((cellsL m).length : Int)), (14, .int .i64 (i : Int)), (20, .fn (.func 77) [] [.ref [.int .i64 c] 0, .ref [.int .i64 w, .int .i64 d, shD sh] 0])]
   (fun pre => [(2, .box [.mp 1]), (1, .map (bkv (G pre))), (0, .box [.int .i64 w, .int .i64 d, shD sh])]) 3 (fun _ => True) trivial rfl ?_ ?_ ?_ ?_
  ·intro xs
   simp [mapsIn, mapIds, isMapAt, hget, boxNm, D.nm, D.nmL]
  ·rw [hG0]
   simp [headW, heapW, envW, blkLt, D.ltL, D.lt, look, hget, bkv_lt]
  ·intro lo pre x _ _
   have hp := fun h nid (hb : hget h 1 = some (.map (bkv (G pre)))) => bm_put hb nid x true
   have hgs := hGS pre x
   simp only [RT, FS, ↓RE, okR, argEnv, Nat.reduceAdd, Nat.reduceSub, Nat.reduceLT, Nat.reduceLeDiff, Nat.reduceEqDiff, reduceIte, RM, pe_cons, pe_nil, Array.toList, hp]
   rw [hgs]
   simp [headW, heapW, envW, blkLt, D.ltL, D.lt, look, hget, bkv_lt]
  ·intro xs hxs _
   subst hxs
   have hFn : F (i + 1) = G (nbL w d sh c) := by rw [hFc, hG]
   simp only [RT, FS, ↓RE, okR, argEnv, Nat.reduceAdd, Nat.reduceSub, Nat.reduceLT, Nat.reduceLeDiff, Nat.reduceEqDiff, reduceIte, RM, hw1]
   exact ⟨i + 1, by omega, by omega, by rw [hFn]; simp [headW, heapW, envW, blkLt, D.ltL, D.lt, look, hget, bkv_lt]⟩
 ·have hc2 := nat_lt_false hge
  have : i = (cellsL m).length := by omega
  subst this
  simp only [RT, FS, ↓RE, okR, argEnv, Nat.reduceAdd, Nat.reduceSub, Nat.reduceLT, Nat.reduceLeDiff, Nat.reduceEqDiff, reduceIte, RM, hc2, decide_false]
  exact ⟨1, rfl, by simp [hget]⟩
end Go.Sx

namespace Go.Sx
open Go.Proofs
set_option maxRecDepth 10000

theorem around_call {s : SkyW} (hs : SkyOk s) {m : MpB} (hm : SetOk s.sh.length m) {h : H} {nid : Nat} {y : D} (hy : view h y = .mpd (bkv m)) :
  ACall Tryz.prog 63 [.agg s.c, y] h nid fun r h' nid' => r = .mp nid ∧ h' = (nid, .map (bkv (aroundM s m))) :: h ∧ nid' = nid + 1 := by
 refine acall_borrowM ?_ (bkv_flat _)
 have hv : ([.agg s.c, y] : List D).map (view h) = [.agg s.c, .mpd (bkv m)] := by
  obtain ⟨w, d, sh⟩ := s
  simp [SkyW.c, view, viewL, hy]
 rw [hv]
 exact around_t hs hm
theorem bm_len {h : H} {b : Nat} {m : MpB} (hb : hget h b = some (.map (bkv m))) : lenOpD Tryz.prog h 70 (.mp b) = some (.int .i64 (m.length : Int)) := by
 simp [lenOpD, und_set, hb, gkv_len]
theorem set_one {N : Nat} {c : Int} (hc : 0 ≤ c ∧ c < (N : Int)) : SetOk N (gput [] c true) := SetOk.put (m := ([] : MpB)) ⟨List.nodup_nil, by simp⟩ hc true
end Go.Sx
