/- Own work: a calculus of contracts for the programs of this kit: parts SxL1t, SxL2t, SxL3t, SxL4t. -/
import Derived.Test.YtaifjmjooapmhaaGreatSxFtt
import Derived.Test.YtaifjmjooapmhaaGreatSxZ47
import Derived.Test.YtaifjmjooapmhaaGreatSxMh
set_option linter.unusedVariables false
set_option linter.unusedSimpArgs false
namespace Go.Sx.L
open Go.Proofs
set_option maxRecDepth 10000

theorem or_fa {P : Program} {h : H} {ρ : Operand → D} (t : TypeId) (x : Operand) (f : Nat) : opR P (.fieldAddr t x f) ρ h = fieldAddrD P h t f (ρ x) := (rfl)
theorem or_load {P : Program} {h : H} {ρ : Operand → D} (t : TypeId) (x : Operand) : opR P (.load t x) ρ h = loadAtD P h t (ρ x) := (rfl)
theorem or_len {P : Program} {h : H} {ρ : Operand → D} (t : TypeId) (x : Operand) : opR P (.call ⟨.builtin .len, #[x], #[t]⟩) ρ h = lenOpD P h t (ρ x) := (rfl)
theorem or_move {P : Program} {h : H} {ρ : Operand → D} (x : Operand) : opR P (.move x) ρ h = some (ρ x) := (rfl)
theorem or_not {P : Program} {h : H} {ρ : Operand → D} (t : TypeId) (x : Operand) : opR P (.unOp .not t x) ρ h = notD (ρ x) := (rfl)
set_option linter.defProp false in
def RY := And.intro @or_fa (And.intro @or_load (And.intro @or_len (And.intro @or_move @or_not)))

def wr (x : Int) : Int := IntKind.i64.wrap x
def prD (l : List (Int × Int)) : D := .sl (l.map fun p => [.int .i64 p.1, .int .i64 p.2])
structure Pl where
 e : Int
 m : Int
 tk : Int
 ld : Int
 cs : List (Int × Int)
 st : List (Int × Int)
 ta : Int
 tm : Int
 rv : Int
 fl : List (Int × Int)
abbrev Pl.c (p : Pl) : List D := [.int .i64 p.e, .int .i64 p.m, .int .i64 p.tk, .int .i64 p.ld, prD p.cs, prD p.st, .int .i64 p.ta, .int .i64 p.tm, .int .i64 p.rv, prD p.fl]
structure Ed where
 n : Int
 w : Int
 m : Int
 dw : Int
 dm : Int
abbrev Ed.c (e : Ed) : List D := [.int .i64 e.n, .int .i64 e.w, .int .i64 e.m, .int .i64 e.dw, .int .i64 e.dm]
def edV (x : Ed) : Array Value := #[.agg #[.int .i64 x.n, .int .i64 x.w, .int .i64 x.m, .int .i64 x.dw, .int .i64 x.dm]]
def edD (x : Ed) : List D := [.agg x.c]
theorem ed_enc (R : Rx) (n : Nat) (x : Ed) : RelL R n (edV x).toList (edD x) := by
 refine ⟨rfl, fun i v d hv hd => ?_⟩
 cases i with
 | succ i => simp [edV] at hv
 | zero =>
  simp only [edV, edD, List.getElem?_cons_zero, Option.some.injEq] at hv hd
  subst hv; subst hd
  refine Rel.agg _ [.int .i64 x.n, .int .i64 x.w, .int .i64 x.m, .int .i64 x.dw, .int .i64 x.dm] _ rfl fun i v d hv hd => ?_
  match i with
  | 0 => simp at hv hd; subst hv; subst hd; exact .int _ _ _
  | 1 => simp at hv hd; subst hv; subst hd; exact .int _ _ _
  | 2 => simp at hv hd; subst hv; subst hd; exact .int _ _ _
  | 3 => simp at hv hd; subst hv; subst hd; exact .int _ _ _
  | 4 => simp at hv hd; subst hv; subst hd; exact .int _ _ _
  | i + 5 => simp at hv
theorem ed_dec (R : Rx) (n : Nat) (vs : List Value) (x : Ed) (h : RelL R n vs (edD x)) : vs = (edV x).toList := by
 obtain ⟨h1, h2⟩ := h
 obtain ⟨v, rfl⟩ := List.length_eq_one_iff.1 (show vs.length = 1 from h1)
 have := h2 0 _ _ rfl rfl
 simp only [Ed.c] at this
 generalize hd : D.agg [D.int .i64 x.n, D.int .i64 x.w, D.int .i64 x.m, D.int .i64 x.dw, D.int .i64 x.dm] = d at this
 cases this <;> cases hd
 rename_i vs hl hr
 match vs, hl with
 | [a, b, c, d, e], _ =>
  have e0 := hr 0 _ _ rfl rfl
  have e1 := hr 1 _ _ rfl rfl
  have e2 := hr 2 _ _ rfl rfl
  have e3 := hr 3 _ _ rfl rfl
  have e4 := hr 4 _ _ rfl rfl
  cases e0; cases e1; cases e2; cases e3; cases e4; rfl
theorem pz2 (a b : D) : putL (List.map vD (Value.agg #[.int .i64 0, .int .i64 0]).cells.toList) 0 [a, b] = [a, b] := (rfl)
def pAt (l : List (Int × Int)) (i : Nat) : Int × Int := l.getD i (0, 0)
def edgeAt (cs : List (Int × Int)) (i : Nat) : Ed := ⟨i, (pAt cs i).1, (pAt cs i).2, wr ((pAt cs ((i + 1) % cs.length)).1 - (pAt cs i).1), wr ((pAt cs ((i + 1) % cs.length)).2 - (pAt cs i).2)⟩
def edgesN (cs : List (Int × Int)) (n : Nat) : List Ed := (List.range n).map (edgeAt cs)
theorem edgesN_succ (cs : List (Int × Int)) (n : Nat) : edgesN cs (n + 1) = edgesN cs n ++ [edgeAt cs n] := by simp [edgesN, List.range_succ]
theorem edgesN_pre {cs : List (Int × Int)} {n m : Nat} (h : n ≤ m) : edgesN cs n <+: edgesN cs m := by
 induction m with
 | zero => rw [show n = 0 by omega]; exact List.prefix_refl _
 | succ m ih =>
  rcases Nat.lt_or_ge n (m + 1) with h1 | h1
  ·rw [edgesN_succ]; exact (ih (by omega)).trans (List.prefix_append _ _)
  ·rw [show n = m + 1 by omega]; exact List.prefix_refl _
theorem edgesN_len (cs : List (Int × Int)) (n : Nat) : (edgesN cs n).length = n := by simp [edgesN]
theorem edges_t (p : Pl) : Pure Tryz.prog 113 [.agg p.c] (.fn (.func 120) [] [.ref p.c 0]) := by
 refine pure_of_wc (rs := [.tmp 2]) (m := 4) [] oNone_ok (by kernel_rfl) Tryz.func113 rfl (by kernel_rfl) rfl rfl (by kernel_rfl) ?_
 simp only [FS, ↓RE, okR, argEnv, Nat.reduceAdd, Nat.reduceSub, Nat.reduceLT, Nat.reduceLeDiff, Nat.reduceEqDiff, reduceIte]
 rfl
theorem pr_len {t e : TypeId} (hu : (Tryz.prog).underlying t = some (.slice e)) (h : H) (l : List (Int × Int)) : lenOpD Tryz.prog h t (prD l) = some (.int .i64 (l.length : Int)) := by
 rw [prD, len_sl hu, List.length_map]
theorem pr_at {l : List (Int × Int)} {i : Nat} (hi : i < l.length) : (l.map fun p => [D.int .i64 p.1, D.int .i64 p.2])[i]? = some [.int .i64 (pAt l i).1, .int .i64 (pAt l i).2] := by
 simp [pAt, hi, List.getD]
set_option maxHeartbeats 4000000 in
theorem edges_seq (p : Pl) (hl : 1 ≤ p.cs.length ∧ p.cs.length ≤ 1000) : SeqP Tryz.prog 120 [.ref p.c 0] edV (fun xs => xs = edgesN p.cs p.cs.length) (fun pre => pre <+: edgesN p.cs p.cs.length) p.cs.length := by
 refine seq_of_awjY (dsf := edD) Tryz.func120 rfl rfl (fun R n vs x => ed_dec R n vs x) fun S0 l JJ hJ hY => ?_
 show AWj _ _ _ _ ⟨[(0, .raw (.func (.yield l) #[] #[])), (1, .ref p.c 0)], [], 0, 47⟩ _ _
 refine awk_of (awk_region oNone_ok hJ (fun R n vs x => ed_dec R n vs x) hY 0 (Nat.zero_le _) ?_)
 simp only [FS, ↓RE, okR, argEnv, Nat.reduceAdd, Nat.reduceSub, Nat.reduceLT, Nat.reduceLeDiff, Nat.reduceEqDiff, reduceIte, RM, List.take_zero, List.drop_zero]
 refine ⟨_, weakJ_of (e := [(0, .raw (.func (.yield l) #[] #[])), (1, .ref p.c 0)]) ⟨.inl ⟨rfl, rfl⟩, .inr ⟨rfl, rfl⟩, trivial⟩, ?_⟩
 have hln := fun h => pr_len (t := 70) Fz.und_70 h p.cs
 simp only [FS, ↓RE, okR, argEnv, Nat.reduceAdd, Nat.reduceSub, Nat.reduceLT, Nat.reduceLeDiff, Nat.reduceEqDiff, reduceIte, RM, yOps, yieldOf, RY, hln]
 let EA : Env := [(9, .int .i64 (p.cs.length : Int)), (8, prD p.cs), (1, .ref p.c 0), (0, .raw (.func (.yield l) #[] #[]))]
 refine awj_block (awj_loop (ι := Nat) (fun i => ⟨(10, .int .i64 (i : Int)) :: EA, [], 0, 47⟩) (fun i => (edgesN p.cs i, false)) (fun i => i ≤ p.cs.length) (fun i => p.cs.length - i) 0 (Nat.zero_le _) rfl (lessJ_of ⟨rfl, rfl, rfl, rfl, rfl, trivial⟩) fun i hi => ?_)
 rcases Nat.lt_or_ge i p.cs.length with hlt | hge
 rotate_left
 ·have hc : ((i : Int) < (p.cs.length : Int)) = False := by simp; omega
  refine awj_seq (awj_piece oNone_ok (by kernel_rfl) [(3, [(13, true, false, []), (1, false, false, [])])] hJ (by kernel_rfl) (by kernel_rfl) ?_)
  simp only [FS, ↓RE, okR, argEnv, Nat.reduceAdd, Nat.reduceSub, Nat.reduceLT, Nat.reduceLeDiff, Nat.reduceEqDiff, reduceIte, RM, EA, hc, decide_false]
  refine ⟨⟨[(11, .bool false)], [], 0, 47⟩, weakJ_of ⟨.inl ⟨rfl, rfl⟩, trivial⟩, ?_⟩
  simp only [thenJ]
  refine awj_seq (awj_cond (t := false) rfl (fun h => by cases h) fun _ => awj_exit ?_)
  simp only [thenJ, blockJ, if_true]
  exact ⟨.inl trivial, .inl ⟨trivial, by rw [show i = p.cs.length by omega]⟩⟩
 have hc : ((i : Int) < (p.cs.length : Int)) = True := by simp [hlt]
 refine awj_seq (awj_piece oNone_ok (by kernel_rfl) [(3, [(13, true, false, []), (1, false, false, [])])] hJ (by kernel_rfl) (by kernel_rfl) ?_)
 simp only [FS, ↓RE, okR, argEnv, Nat.reduceAdd, Nat.reduceSub, Nat.reduceLT, Nat.reduceLeDiff, Nat.reduceEqDiff, reduceIte, RM, EA, hc, decide_true]
 refine ⟨⟨(11, .bool true) :: (10, .int .i64 (i : Int)) :: EA, [], 0, 47⟩, weakJ_of ⟨.inl ⟨rfl, rfl⟩, .inr ⟨rfl, rfl⟩, .inr ⟨rfl, rfl⟩, .inr ⟨rfl, rfl⟩, .inr ⟨rfl, rfl⟩, .inr ⟨rfl, rfl⟩, trivial⟩, ?_⟩
 simp only [thenJ]
 refine awj_seq (awj_cond (t := true) rfl (fun _ => awj_skip ?_) fun h => by cases h)
 simp only [thenJ]
 have hj : (i + 1) % p.cs.length < p.cs.length := Nat.mod_lt _ (by omega)
 have w1 := wrap_i64 (z := (i : Int) + 1) (by omega) (by omega)
 have q1 := a_rem' (k := .i64) (x := (i : Int) + 1) (y := (p.cs.length : Int)) (by omega)
 have r1 : ((i : Int) + 1).tmod (p.cs.length : Int) = (((i + 1) % p.cs.length : Nat) : Int) := by rw [Int.tmod_eq_emod_of_nonneg (by omega)]; simp
 have ix1 : ∀ h, indexAddrD Tryz.prog h 70 (prD p.cs) (.int .i64 (i : Int)) = some (.ref [.int .i64 (pAt p.cs i).1, .int .i64 (pAt p.cs i).2] 0) := fun h => ix_sl Fz.und_70 Fz.size_129 (pr_at hlt) rfl h .i64
 have ix2 : ∀ h, indexAddrD Tryz.prog h 70 (prD p.cs) (.int .i64 (((i + 1) % p.cs.length : Nat) : Int)) = some (.ref [.int .i64 (pAt p.cs ((i + 1) % p.cs.length)).1, .int .i64 (pAt p.cs ((i + 1) % p.cs.length)).2] 0) := fun h => ix_sl Fz.und_70 Fz.size_129 (pr_at hj) rfl h .i64
 refine awj_seq (awj_block ?_)
 refine awk_of (awk_piece oNone_ok (by kernel_rfl) [(3, [(13, true, false, []), (1, false, false, [])])] (by kernel_rfl) (by kernel_rfl) ?_)
 simp only [FS, ↓RE, okR, argEnv, Nat.reduceAdd, Nat.reduceSub, Nat.reduceLT, Nat.reduceLeDiff, Nat.reduceEqDiff, reduceIte, RM, EA, ix1]
 refine awk_piece oNone_ok (by kernel_rfl) [(3, [(13, true, false, []), (1, false, false, [])])] (by kernel_rfl) (by kernel_rfl) ?_
 simp only [FS, ↓RE, okR, argEnv, Nat.reduceAdd, Nat.reduceSub, Nat.reduceLT, Nat.reduceLeDiff, Nat.reduceEqDiff, reduceIte, RM, EA, hln, w1, q1, r1, ix2, pz2]
 refine awk_region oNone_ok hJ (fun R n vs x => ed_dec R n vs x) hY 17 (by decide) ?_
 simp only [FS, ↓RE, okR, argEnv, Nat.reduceAdd, Nat.reduceSub, Nat.reduceLT, Nat.reduceLeDiff, Nat.reduceEqDiff, reduceIte, RM, EA, List.take_succ_cons, List.take_zero, List.drop_zero, List.drop_succ_cons]
 refine ⟨⟨(43, .agg (edgeAt p.cs i).c) :: (27, .raw (.func (.yield l) #[] #[])) :: (10, .int .i64 (i : Int)) :: EA, [], 0, 47⟩, weakJ_of ⟨.inl ⟨rfl, rfl⟩, .inl ⟨rfl, rfl⟩, .inr ⟨rfl, rfl⟩, .inr ⟨rfl, rfl⟩, .inr ⟨rfl, rfl⟩, .inr ⟨rfl, rfl⟩, .inr ⟨rfl, rfl⟩, trivial⟩, ?_⟩
 have hsn := edgesN_succ p.cs i
 have hln2 := edgesN_len p.cs i
 simp only [FS, ↓RE, okR, argEnv, Nat.reduceAdd, Nat.reduceSub, Nat.reduceLT, Nat.reduceLeDiff, Nat.reduceEqDiff, reduceIte, RM, EA, yOps, yieldOf, RY]
 refine ⟨_, edgeAt p.cs i, rfl, by omega, rfl, ?_, ?_⟩
 ·have w2 : IntKind.i64.wrap ((i : Int) + 1) = ((i + 1 : Nat) : Int) := by rw [w1]; simp
  refine awj_cond (t := false) rfl (fun h => by cases h) fun _ => awj_skip ?_
  simp only [thenJ, blockJ]
  refine awj_piece oNone_ok (by kernel_rfl) [(3, [(13, true, false, []), (1, false, false, [])])] hJ (by kernel_rfl) (by kernel_rfl) ?_
  simp only [FS, ↓RE, okR, argEnv, Nat.reduceAdd, Nat.reduceSub, Nat.reduceLT, Nat.reduceLeDiff, Nat.reduceEqDiff, reduceIte, RM, EA, w2]
  refine ⟨⟨(10, .int .i64 ((i + 1 : Nat) : Int)) :: EA, [], 0, 47⟩, weakJ_of ⟨.inl ⟨rfl, rfl⟩, .inr ⟨rfl, rfl⟩, .inr ⟨rfl, rfl⟩, .inr ⟨rfl, rfl⟩, .inr ⟨rfl, rfl⟩, trivial⟩, ?_⟩
  simp only [thenJ]
  exact ⟨i + 1, by omega, by omega, by rw [hsn], lessJ_of ⟨rfl, rfl, rfl, rfl, rfl, trivial⟩⟩
 ·simp only [FS, ↓RE, okR, argEnv, Nat.reduceAdd, Nat.reduceSub, Nat.reduceLT, Nat.reduceLeDiff, Nat.reduceEqDiff, reduceIte, RM, EA, flS, flat1]
  refine awj_cond (t := true) rfl (fun _ => awj_ret ?_) fun h => by cases h
  simp only [thenJ, blockJ]
  refine ⟨.inr trivial, .inr ⟨trivial, ?_⟩⟩
  rw [← hsn]
  exact edgesN_pre (by omega)
end Go.Sx.L

namespace Go.Sx.L
open Go.Proofs
set_option maxRecDepth 10000

structure It where
 s : Int
 lo : Int
 hi : Int
abbrev It.c (x : It) : List D := [.int .i64 x.s, .int .i64 x.lo, .int .i64 x.hi]
def itD (l : List It) : D := .sl (l.map It.c)
structure Pt where
 its : List It
 tl : Int
 th : Int
 wt : List (Int × Int)
 lg : Bool
abbrev Pt.c (x : Pt) : List D := [itD x.its, .int .i64 x.tl, .int .i64 x.th, prD x.wt, .bool x.lg]
abbrev pc (p : Pl) (x : Pt) : List D := [.int .i64 p.e, .int .i64 p.m, .int .i64 p.tk, .int .i64 p.ld, prD p.cs, prD p.st, .int .i64 p.ta, .int .i64 p.tm, .int .i64 p.rv, prD p.fl, itD x.its, .int .i64 x.tl, .int .i64 x.th, prD x.wt, .bool x.lg]
structure PtOk (p : Pl) (x : Pt) : Prop where
 il : x.its.length ≤ 1000
 it : ∀ i ∈ x.its, 0 ≤ i.s ∧ i.s < (p.st.length : Int)
 wl : x.wt.length ≤ p.fl.length ∧ p.fl.length ≤ 1000
def iAtt (l : List It) (i : Nat) : It := l.getD i ⟨0, 0, 0⟩
theorem it_at {l : List It} {i : Nat} (hi : i < l.length) : (l.map It.c)[i]? = some (iAtt l i).c := by simp [iAtt, hi, List.getD]
theorem it_len {t e : TypeId} (hu : (Tryz.prog).underlying t = some (.slice e)) (h : H) (l : List It) : lenOpD Tryz.prog h t (itD l) = some (.int .i64 (l.length : Int)) := by
 rw [itD, len_sl hu, List.length_map]
def partI (p : Pl) (x : Pt) (i : Nat) : Ed := ⟨0, i, (pAt p.st (iAtt x.its i).s.toNat).1, (iAtt x.its i).lo, (iAtt x.its i).hi⟩
def partT (p : Pl) (x : Pt) : Ed := ⟨1, 0, p.ta, x.tl, x.th⟩
def partF (p : Pl) (x : Pt) (i : Nat) : Ed := ⟨2, i, (pAt p.fl i).1, (pAt x.wt i).1, (pAt x.wt i).2⟩
def partA (p : Pl) (x : Pt) (n : Nat) : List Ed := (List.range n).map (partI p x)
def partB (p : Pl) (x : Pt) (n : Nat) : List Ed := partA p x x.its.length ++ partT p x :: (List.range n).map (partF p x)
def partsL (p : Pl) (x : Pt) : List Ed := partB p x x.wt.length
section
variable (p : Pl) (x : Pt)
theorem partA_succ (n : Nat) : partA p x (n + 1) = partA p x n ++ [partI p x n] := by simp [partA, List.range_succ]
theorem partB_succ (n : Nat) : partB p x (n + 1) = partB p x n ++ [partF p x n] := by simp [partB, List.range_succ]
theorem partB_zero : partB p x 0 = partA p x x.its.length ++ [partT p x] := by simp [partB]
theorem partA_len (n : Nat) : (partA p x n).length = n := by simp [partA]
theorem partB_len (n : Nat) : (partB p x n).length = x.its.length + 1 + n := by simp [partB, partA]; omega
theorem partA_pre {n m : Nat} (h : n ≤ m) : partA p x n <+: partA p x m := by
 induction m with
 | zero => rw [show n = 0 by omega]; exact List.prefix_refl _
 | succ m ih =>
  rcases Nat.lt_or_ge n (m + 1) with h1 | h1
  ·rw [partA_succ]; exact (ih (by omega)).trans (List.prefix_append _ _)
  ·rw [show n = m + 1 by omega]; exact List.prefix_refl _
theorem partB_pre {n m : Nat} (h : n ≤ m) : partB p x n <+: partB p x m := by
 induction m with
 | zero => rw [show n = 0 by omega]; exact List.prefix_refl _
 | succ m ih =>
  rcases Nat.lt_or_ge n (m + 1) with h1 | h1
  ·rw [partB_succ]; exact (ih (by omega)).trans (List.prefix_append _ _)
  ·rw [show n = m + 1 by omega]; exact List.prefix_refl _
theorem partA_all {n : Nat} (h : n ≤ x.its.length) : partA p x n <+: partsL p x := (partA_pre p x h).trans (List.prefix_append _ _)
end
theorem pz3 (a b c : D) : putL (List.map vD (Value.agg #[.int .i64 0, .int .i64 0, .int .i64 0]).cells.toList) 0 [a, b, c] = [a, b, c] := (rfl)
theorem parts_t (p : Pl) (x : Pt) : Pure Tryz.prog 121 [.agg (pc p x)] (.fn (.func 124) [] [.ref (pc p x) 0]) := by
 refine pure_of_wc (rs := [.tmp 2]) (m := 4) [] oNone_ok (by kernel_rfl) Tryz.func121 rfl (by kernel_rfl) rfl rfl (by kernel_rfl) ?_
 simp only [FS, ↓RE, okR, argEnv, Nat.reduceAdd, Nat.reduceSub, Nat.reduceLT, Nat.reduceLeDiff, Nat.reduceEqDiff, reduceIte]
 rfl
set_option maxHeartbeats 4000000 in
theorem parts_seq (p : Pl) (x : Pt) (ho : PtOk p x) : SeqP Tryz.prog 124 [.ref (pc p x) 0] edV (fun xs => xs = partsL p x) (fun pre => pre <+: partsL p x) (x.its.length + 1 + x.wt.length) := by
 refine seq_of_awjY (dsf := edD) Tryz.func124 rfl rfl (fun R n vs x => ed_dec R n vs x) fun S0 l JJ hJ hY => ?_
 have hil := ho.il
 have hwl := ho.wl
 show AWj _ _ _ _ ⟨[(0, .raw (.func (.yield l) #[] #[])), (1, .ref (pc p x) 0)], [], 0, 69⟩ _ _
 have hlI := fun h => it_len (t := 132) Fz.und_132 h x.its
 have hlW := fun h => (show lenOpD Tryz.prog h 22 (prD x.wt) = some (.int .i64 (x.wt.length : Int)) by rw [prD, len_sl Fz.und_22, List.length_map])
 refine awj_seq (awk_of (awk_region oNone_ok hJ (fun R n vs x => ed_dec R n vs x) hY 0 (Nat.zero_le _) ?_))
 simp only [FS, ↓RE, okR, argEnv, Nat.reduceAdd, Nat.reduceSub, Nat.reduceLT, Nat.reduceLeDiff, Nat.reduceEqDiff, reduceIte, RM, List.take_zero, List.drop_zero]
 refine ⟨_, weakJ_of (e := [(0, .raw (.func (.yield l) #[] #[])), (1, .ref (pc p x) 0)]) ⟨.inl ⟨rfl, rfl⟩, .inr ⟨rfl, rfl⟩, trivial⟩, ?_⟩
 simp only [FS, ↓RE, okR, argEnv, Nat.reduceAdd, Nat.reduceSub, Nat.reduceLT, Nat.reduceLeDiff, Nat.reduceEqDiff, reduceIte, RM, yOps, yieldOf, RY, hlI]
 let E0 : Env := [(1, .ref (pc p x) 0), (0, .raw (.func (.yield l) #[] #[]))]
 let EA : Env := (10, .int .i64 (x.its.length : Int)) :: (9, itD x.its) :: E0
 refine awj_block (awj_loop (ι := Nat) (fun i => ⟨(11, .int .i64 (i : Int)) :: EA, [], 0, 69⟩) (fun i => (partA p x i, false)) (fun i => i ≤ x.its.length) (fun i => x.its.length - i) 0 (Nat.zero_le _) rfl (lessJ_of ⟨rfl, rfl, rfl, rfl, rfl, trivial⟩) fun i hi => ?_)
 rcases Nat.lt_or_ge i x.its.length with hlt | hge
 ·have hc : ((i : Int) < (x.its.length : Int)) = True := by simp [hlt]
  refine awj_seq (awj_piece oNone_ok (by kernel_rfl) [(3, [(16, false, false, [])]), (9, [(14, false, false, [])])] hJ (by kernel_rfl) (by kernel_rfl) ?_)
  simp only [FS, ↓RE, okR, argEnv, Nat.reduceAdd, Nat.reduceSub, Nat.reduceLT, Nat.reduceLeDiff, Nat.reduceEqDiff, reduceIte, RM, EA, E0, hc, decide_true]
  refine ⟨⟨(12, .bool true) :: (11, .int .i64 (i : Int)) :: EA, [], 0, 69⟩, weakJ_of ⟨.inl ⟨rfl, rfl⟩, .inr ⟨rfl, rfl⟩, .inr ⟨rfl, rfl⟩, .inr ⟨rfl, rfl⟩, .inr ⟨rfl, rfl⟩, .inr ⟨rfl, rfl⟩, trivial⟩, ?_⟩
  simp only [thenJ]
  refine awj_seq (awj_cond (t := true) rfl (fun _ => awj_skip ?_) fun h => by cases h)
  simp only [thenJ]
  have w1 : IntKind.i64.wrap ((i : Int) + 1) = ((i + 1 : Nat) : Int) := by rw [wrap_i64 (by omega) (by omega)]; simp
  have hit := ho.it (iAtt x.its i) (by simp [iAtt, hlt, List.getD])
  obtain ⟨k, hk⟩ : ∃ k : Nat, (iAtt x.its i).s = (k : Int) := ⟨(iAtt x.its i).s.toNat, by omega⟩
  have ix1 : ∀ h, indexAddrD Tryz.prog h 132 (itD x.its) (.int .i64 (i : Int)) = some (.ref (iAtt x.its i).c 0) := fun h => ix_sl Fz.und_132 Fz.size_131 (it_at hlt) rfl h .i64
  have ix2 : ∀ h, indexAddrD Tryz.prog h 71 (prD p.st) (.int .i64 (k : Int)) = some (.ref [.int .i64 (pAt p.st k).1, .int .i64 (pAt p.st k).2] 0) := fun h => ix_sl Fz.und_71 Fz.size_73 (pr_at (by omega)) rfl h .i64
  have hx : (⟨0, i, (pAt p.st k).1, (iAtt x.its i).lo, (iAtt x.its i).hi⟩ : Ed) = partI p x i := by unfold partI; rw [hk]; rfl
  have hsn := partA_succ p x i
  have hln2 := partA_len p x i
  have hpre : partA p x (i + 1) <+: partsL p x := partA_all p x (by omega)
  generalize partI p x i = X at *
  generalize iAtt x.its i = it at *
  obtain ⟨s0, lo, hi2⟩ := it
  simp only [It.c] at ix1 hk hx
  subst hk
  refine awj_seq (awj_block ?_)
  refine awk_of (awk_piece oNone_ok (by kernel_rfl) [(3, [(16, false, false, [])]), (9, [(14, false, false, [])])] (by kernel_rfl) (by kernel_rfl) ?_)
  simp only [FS, ↓RE, okR, argEnv, Nat.reduceAdd, Nat.reduceSub, Nat.reduceLT, Nat.reduceLeDiff, Nat.reduceEqDiff, reduceIte, RM, EA, E0, ix1, pz3]
  refine awk_draw oNone_ok (by kernel_rfl) hJ (fun R n vs x => ed_dec R n vs x) hY 14 false [] [(1, false, false, [])] (by kernel_rfl) ?_
  simp only [FS, ↓RE, okR, argEnv, Nat.reduceAdd, Nat.reduceSub, Nat.reduceLT, Nat.reduceLeDiff, Nat.reduceEqDiff, reduceIte, RM, yDrawK, adopt_false, EA, E0, ix2]
  refine ⟨⟨(29, .agg X.c) :: (16, .raw (.func (.yield l) #[] #[])) :: (11, .int .i64 (i : Int)) :: EA, [], 0, 69⟩, weakJ_of ⟨.inl ⟨by rw [← hx]; rfl, rfl⟩, .inl ⟨rfl, rfl⟩, .inr ⟨rfl, rfl⟩, .inr ⟨rfl, rfl⟩, .inr ⟨rfl, rfl⟩, .inr ⟨rfl, rfl⟩, .inr ⟨rfl, rfl⟩, trivial⟩, ?_⟩
  refine ⟨_, rfl, rfl, _, X, rfl, by omega, rfl, ?_, ?_⟩
  ·simp only [FS, ↓RE, okR, argEnv, Nat.reduceAdd, Nat.reduceSub, Nat.reduceLT, Nat.reduceLeDiff, Nat.reduceEqDiff, reduceIte, RM, EA, E0]
   refine ⟨⟨(31, .bool false) :: (11, .int .i64 (i : Int)) :: EA, [], 0, 69⟩, weakJ_of ⟨.inl ⟨rfl, rfl⟩, .inr ⟨rfl, rfl⟩, .inr ⟨rfl, rfl⟩, .inr ⟨rfl, rfl⟩, .inr ⟨rfl, rfl⟩, .inr ⟨rfl, rfl⟩, trivial⟩, ?_⟩
   refine awj_cond (t := false) rfl (fun h => by cases h) fun _ => awj_skip ?_
   simp only [thenJ, blockJ]
   refine awj_piece oNone_ok (by kernel_rfl) [(3, [(16, false, false, [])]), (9, [(14, false, false, [])])] hJ (by kernel_rfl) (by kernel_rfl) ?_
   simp only [FS, ↓RE, okR, argEnv, Nat.reduceAdd, Nat.reduceSub, Nat.reduceLT, Nat.reduceLeDiff, Nat.reduceEqDiff, reduceIte, RM, EA, E0, w1]
   refine ⟨⟨(11, .int .i64 ((i + 1 : Nat) : Int)) :: EA, [], 0, 69⟩, weakJ_of ⟨.inl ⟨rfl, rfl⟩, .inr ⟨rfl, rfl⟩, .inr ⟨rfl, rfl⟩, .inr ⟨rfl, rfl⟩, .inr ⟨rfl, rfl⟩, trivial⟩, ?_⟩
   simp only [thenJ]
   exact ⟨i + 1, by omega, by omega, by rw [hsn], lessJ_of ⟨rfl, rfl, rfl, rfl, rfl, trivial⟩⟩
  ·simp only [FS, ↓RE, okR, argEnv, Nat.reduceAdd, Nat.reduceSub, Nat.reduceLT, Nat.reduceLeDiff, Nat.reduceEqDiff, reduceIte, RM, EA, E0, flS, flat1]
   refine ⟨⟨[(31, .bool true)], [], 0, 69⟩, weakJ_of ⟨.inl ⟨rfl, rfl⟩, trivial⟩, ?_⟩
   refine awj_cond (t := true) rfl (fun _ => awj_ret ?_) fun h => by cases h
   simp only [thenJ, blockJ]
   refine ⟨.inr trivial, .inr ⟨trivial, ?_⟩⟩
   rw [← hsn]
   exact hpre
 have hc : ((i : Int) < (x.its.length : Int)) = False := by simp; omega
 have hie : i = x.its.length := by omega
 subst hie
 refine awj_seq (awj_piece oNone_ok (by kernel_rfl) [(3, [(16, false, false, [])]), (9, [(14, false, false, [])])] hJ (by kernel_rfl) (by kernel_rfl) ?_)
 simp only [FS, ↓RE, okR, argEnv, Nat.reduceAdd, Nat.reduceSub, Nat.reduceLT, Nat.reduceLeDiff, Nat.reduceEqDiff, reduceIte, RM, EA, E0, hc, decide_false]
 refine ⟨⟨(12, .bool false) :: E0, [], 0, 69⟩, weakJ_of ⟨.inl ⟨rfl, rfl⟩, .inr ⟨rfl, rfl⟩, .inr ⟨rfl, rfl⟩, trivial⟩, ?_⟩
 simp only [thenJ]
 refine awj_seq (awj_cond (t := false) rfl (fun h => by cases h) fun _ => awj_exit ?_)
 simp only [thenJ, blockJ, if_true]
 have hb0 := partB_zero p x
 have hlA := partA_len p x x.its.length
 have hpB : partB p x 0 <+: partsL p x := partB_pre p x (Nat.zero_le _)
 refine awj_seq (awk_of (awk_region oNone_ok hJ (fun R n vs x => ed_dec R n vs x) hY 10 (Nat.le_of_ble_eq_true rfl) ?_))
 simp only [FS, ↓RE, okR, argEnv, Nat.reduceAdd, Nat.reduceSub, Nat.reduceLT, Nat.reduceLeDiff, Nat.reduceEqDiff, reduceIte, RM, E0, List.take_succ_cons, List.take_zero, List.drop_zero, List.drop_succ_cons]
 refine ⟨⟨(42, .agg (partT p x).c) :: (33, .raw (.func (.yield l) #[] #[])) :: E0, [], 0, 69⟩, weakJ_of ⟨.inl ⟨rfl, rfl⟩, .inl ⟨rfl, rfl⟩, .inr ⟨rfl, rfl⟩, .inr ⟨rfl, rfl⟩, trivial⟩, ?_⟩
 simp only [FS, ↓RE, okR, argEnv, Nat.reduceAdd, Nat.reduceSub, Nat.reduceLT, Nat.reduceLeDiff, Nat.reduceEqDiff, reduceIte, RM, E0, yOps, yieldOf, RY]
 refine ⟨_, partT p x, rfl, by omega, rfl, ?_, ?_⟩
 rotate_left
 ·simp only [FS, ↓RE, okR, argEnv, Nat.reduceAdd, Nat.reduceSub, Nat.reduceLT, Nat.reduceLeDiff, Nat.reduceEqDiff, reduceIte, RM, E0, flS, flat1]
  refine awj_cond (t := true) rfl (fun _ => awj_ret ?_) fun h => by cases h
  simp only [thenJ]
  refine ⟨.inr trivial, .inr ⟨trivial, ?_⟩⟩
  rw [← hb0]
  exact hpB
 refine awj_cond (t := false) rfl (fun h => by cases h) fun _ => awj_skip ?_
 simp only [thenJ]
 rw [← hb0]
 refine awj_less (s' := ⟨E0, [], 0, 69⟩) (lessJ_of ⟨rfl, rfl, trivial⟩) ?_
 refine awk_of (awk_region oNone_ok hJ (fun R n vs x => ed_dec R n vs x) hY 0 (Nat.zero_le _) ?_)
 simp only [FS, ↓RE, okR, argEnv, Nat.reduceAdd, Nat.reduceSub, Nat.reduceLT, Nat.reduceLeDiff, Nat.reduceEqDiff, reduceIte, RM, E0, List.take_zero, List.drop_zero]
 refine ⟨_, weakJ_of (e := E0) ⟨.inr ⟨rfl, rfl⟩, .inl ⟨rfl, rfl⟩, trivial⟩, ?_⟩
 simp only [FS, ↓RE, okR, argEnv, Nat.reduceAdd, Nat.reduceSub, Nat.reduceLT, Nat.reduceLeDiff, Nat.reduceEqDiff, reduceIte, RM, E0, yOps, yieldOf, RY, hlW]
 let EB : Env := (48, .int .i64 (x.wt.length : Int)) :: (47, prD x.wt) :: E0
 refine awj_block (awj_loop (ι := Nat) (fun i => ⟨(49, .int .i64 (i : Int)) :: EB, [], 0, 69⟩) (fun i => (partB p x i, false)) (fun i => i ≤ x.wt.length) (fun i => x.wt.length - i) 0 (Nat.zero_le _) rfl (lessJ_of ⟨rfl, rfl, rfl, rfl, rfl, trivial⟩) fun i hi => ?_)
 rcases Nat.lt_or_ge i x.wt.length with hlt | hge
 rotate_left
 ·have hc : ((i : Int) < (x.wt.length : Int)) = False := by simp; omega
  have hie : i = x.wt.length := by omega
  subst hie
  refine awj_seq (awj_piece oNone_ok (by kernel_rfl) [(3, [(16, false, false, [])]), (9, [(14, false, false, [])])] hJ (by kernel_rfl) (by kernel_rfl) ?_)
  simp only [FS, ↓RE, okR, argEnv, Nat.reduceAdd, Nat.reduceSub, Nat.reduceLT, Nat.reduceLeDiff, Nat.reduceEqDiff, reduceIte, RM, EB, E0, hc, decide_false]
  refine ⟨⟨[(50, .bool false)], [], 0, 69⟩, weakJ_of ⟨.inl ⟨rfl, rfl⟩, trivial⟩, ?_⟩
  simp only [thenJ]
  refine awj_seq (awj_cond (t := false) rfl (fun h => by cases h) fun _ => awj_exit ?_)
  simp only [thenJ, blockJ, if_true]
  exact ⟨.inl trivial, .inl ⟨trivial, rfl⟩⟩
 have hc : ((i : Int) < (x.wt.length : Int)) = True := by simp [hlt]
 refine awj_seq (awj_piece oNone_ok (by kernel_rfl) [(3, [(16, false, false, [])]), (9, [(14, false, false, [])])] hJ (by kernel_rfl) (by kernel_rfl) ?_)
 simp only [FS, ↓RE, okR, argEnv, Nat.reduceAdd, Nat.reduceSub, Nat.reduceLT, Nat.reduceLeDiff, Nat.reduceEqDiff, reduceIte, RM, EB, E0, hc, decide_true]
 refine ⟨⟨(50, .bool true) :: (49, .int .i64 (i : Int)) :: EB, [], 0, 69⟩, weakJ_of ⟨.inl ⟨rfl, rfl⟩, .inr ⟨rfl, rfl⟩, .inr ⟨rfl, rfl⟩, .inr ⟨rfl, rfl⟩, .inr ⟨rfl, rfl⟩, .inr ⟨rfl, rfl⟩, trivial⟩, ?_⟩
 simp only [thenJ]
 refine awj_seq (awj_cond (t := true) rfl (fun _ => awj_skip ?_) fun h => by cases h)
 simp only [thenJ]
 have w1 : IntKind.i64.wrap ((i : Int) + 1) = ((i + 1 : Nat) : Int) := by rw [wrap_i64 (by omega) (by omega)]; simp
 have ix1 : ∀ h, indexAddrD Tryz.prog h 22 (prD x.wt) (.int .i64 (i : Int)) = some (.ref [.int .i64 (pAt x.wt i).1, .int .i64 (pAt x.wt i).2] 0) := fun h => ix_sl Fz.und_22 Fz.size_52 (pr_at hlt) rfl h .i64
 have ix2 : ∀ h, indexAddrD Tryz.prog h 71 (prD p.fl) (.int .i64 (i : Int)) = some (.ref [.int .i64 (pAt p.fl i).1, .int .i64 (pAt p.fl i).2] 0) := fun h => ix_sl Fz.und_71 Fz.size_73 (pr_at (by omega)) rfl h .i64
 have hsn := partB_succ p x i
 have hln2 := partB_len p x i
 have hpre : partB p x (i + 1) <+: partsL p x := partB_pre p x (by omega)
 refine awj_seq (awj_block ?_)
 refine awk_of (awk_piece oNone_ok (by kernel_rfl) [(3, [(16, false, false, [])]), (9, [(14, false, false, [])])] (by kernel_rfl) (by kernel_rfl) ?_)
 simp only [FS, ↓RE, okR, argEnv, Nat.reduceAdd, Nat.reduceSub, Nat.reduceLT, Nat.reduceLeDiff, Nat.reduceEqDiff, reduceIte, RM, EB, E0, ix1, pz2]
 refine awk_draw oNone_ok (by kernel_rfl) hJ (fun R n vs x => ed_dec R n vs x) hY 12 false [] [(1, false, false, [])] (by kernel_rfl) ?_
 simp only [FS, ↓RE, okR, argEnv, Nat.reduceAdd, Nat.reduceSub, Nat.reduceLT, Nat.reduceLeDiff, Nat.reduceEqDiff, reduceIte, RM, yDrawK, adopt_false, EB, E0, ix2]
 refine ⟨⟨(65, .agg (partF p x i).c) :: (54, .raw (.func (.yield l) #[] #[])) :: (49, .int .i64 (i : Int)) :: EB, [], 0, 69⟩, weakJ_of ⟨.inl ⟨rfl, rfl⟩, .inl ⟨rfl, rfl⟩, .inr ⟨rfl, rfl⟩, .inr ⟨rfl, rfl⟩, .inr ⟨rfl, rfl⟩, .inr ⟨rfl, rfl⟩, .inr ⟨rfl, rfl⟩, trivial⟩, ?_⟩
 refine ⟨_, rfl, rfl, _, partF p x i, rfl, by omega, rfl, ?_, ?_⟩
 ·simp only [FS, ↓RE, okR, argEnv, Nat.reduceAdd, Nat.reduceSub, Nat.reduceLT, Nat.reduceLeDiff, Nat.reduceEqDiff, reduceIte, RM, EB, E0]
  refine ⟨⟨(67, .bool false) :: (49, .int .i64 (i : Int)) :: EB, [], 0, 69⟩, weakJ_of ⟨.inl ⟨rfl, rfl⟩, .inr ⟨rfl, rfl⟩, .inr ⟨rfl, rfl⟩, .inr ⟨rfl, rfl⟩, .inr ⟨rfl, rfl⟩, .inr ⟨rfl, rfl⟩, trivial⟩, ?_⟩
  refine awj_cond (t := false) rfl (fun h => by cases h) fun _ => awj_skip ?_
  simp only [thenJ, blockJ]
  refine awj_piece oNone_ok (by kernel_rfl) [(3, [(16, false, false, [])]), (9, [(14, false, false, [])])] hJ (by kernel_rfl) (by kernel_rfl) ?_
  simp only [FS, ↓RE, okR, argEnv, Nat.reduceAdd, Nat.reduceSub, Nat.reduceLT, Nat.reduceLeDiff, Nat.reduceEqDiff, reduceIte, RM, EB, E0, w1]
  refine ⟨⟨(49, .int .i64 ((i + 1 : Nat) : Int)) :: EB, [], 0, 69⟩, weakJ_of ⟨.inl ⟨rfl, rfl⟩, .inr ⟨rfl, rfl⟩, .inr ⟨rfl, rfl⟩, .inr ⟨rfl, rfl⟩, .inr ⟨rfl, rfl⟩, trivial⟩, ?_⟩
  simp only [thenJ]
  exact ⟨i + 1, by omega, by omega, by rw [hsn], lessJ_of ⟨rfl, rfl, rfl, rfl, rfl, trivial⟩⟩
 ·simp only [FS, ↓RE, okR, argEnv, Nat.reduceAdd, Nat.reduceSub, Nat.reduceLT, Nat.reduceLeDiff, Nat.reduceEqDiff, reduceIte, RM, EB, E0, flS, flat1]
  refine ⟨⟨[(67, .bool true)], [], 0, 69⟩, weakJ_of ⟨.inl ⟨rfl, rfl⟩, trivial⟩, ?_⟩
  refine awj_cond (t := true) rfl (fun _ => awj_ret ?_) fun h => by cases h
  simp only [thenJ, blockJ]
  refine ⟨.inr trivial, .inr ⟨trivial, ?_⟩⟩
  rw [← hsn]
  exact hpre
end Go.Sx.L

namespace Go.Sx.L
open Go.Proofs
set_option maxRecDepth 10000

def sideF (e : Ed) (w m : Int) : Int := wr (wr (e.dw * wr (m - e.m)) - wr (e.dm * wr (w - e.w)))
def slopeF (e : Ed) (arm : Int) : Int := wr (wr (e.dw * arm) - e.dm)
theorem side_t (e : Ed) (w m : Int) : Pure Tryz.prog 114 [.agg e.c, .int .i64 w, .int .i64 m] (.int .i64 (sideF e w m)) := by
 refine pure_of_wc (rs := [.tmp 6]) (m := 22) [] oNone_ok (by kernel_rfl) Tryz.func114 rfl (by kernel_rfl) rfl rfl (by kernel_rfl) ?_
 simp only [FS, ↓RE, okR, argEnv, Nat.reduceAdd, Nat.reduceSub, Nat.reduceLT, Nat.reduceLeDiff, Nat.reduceEqDiff, reduceIte]
 rfl
theorem slope_t (e : Ed) (a : Int) : Pure Tryz.prog 122 [.agg e.c, .int .i64 a] (.int .i64 (slopeF e a)) := by
 refine pure_of_wc (rs := [.tmp 4]) (m := 12) [] oNone_ok (by kernel_rfl) Tryz.func122 rfl (by kernel_rfl) rfl rfl (by kernel_rfl) ?_
 simp only [FS, ↓RE, okR, argEnv, Nat.reduceAdd, Nat.reduceSub, Nat.reduceLT, Nat.reduceLeDiff, Nat.reduceEqDiff, reduceIte]
 rfl
def leastS (e : Ed) (n : Int) (q : Ed) : Int := wr (n + min (wr (slopeF e q.m * q.dw)) (wr (slopeF e q.m * q.dm)))
def leastF (p : Pl) (x : Pt) (e : Ed) : Int := (partsL p x).foldl (leastS e) (sideF e p.e p.m)
theorem least_t (p : Pl) (x : Pt) (ho : PtOk p x) (e : Ed) : Pure Tryz.prog 117 [.agg (pc p x), .agg e.c] (.int .i64 (leastF p x e)) := by
 have p1 := side_t e p.e p.m
 have p2 := parts_t p x
 have pseq := parts_seq p x ho
 refine pure_of_wc (rs := [.tmp 4]) (m := 39) [] oNone_ok (by kernel_rfl) Tryz.func117 rfl (by kernel_rfl) rfl rfl (by kernel_rfl) ?_
 simp only [FS, ↓RE, okR, argEnv, Nat.reduceAdd, Nat.reduceSub, Nat.reduceLT, Nat.reduceLeDiff, Nat.reduceEqDiff, reduceIte, RM]
 refine call_of_pure p1 rfl ?_
 simp only [FS, ↓RE, okR, argEnv, Nat.reduceAdd, Nat.reduceSub, Nat.reduceLT, Nat.reduceLeDiff, Nat.reduceEqDiff, reduceIte, RM]
 refine call_of_pure' p2 (by simp [D.ltL, D.lt, prD, itD]) (by simp [D.ltL, D.lt, prD, itD]) ?_
 simp only [FS, ↓RE, okR, argEnv, Nat.reduceAdd, Nat.reduceSub, Nat.reduceLT, Nat.reduceLeDiff, Nat.reduceEqDiff, reduceIte, RM]
 refine rangeQ (α := Ed) oNone_ok [] (by kernel_rfl) (by kernel_rfl) (by kernel_rfl) pseq (by kernel_rfl) (fun _ => rfl) (fun R n x => ed_enc R n x) (by simp [D.ltL, D.lt, prD, itD])
  [(2, .ptr 0 0), (3, .ptr 1 0), (5, .ptr 2 0), (19, .fn (.func 124) [] [.ref (pc p x) 0])]
  (fun xs => [(2, .box [.int .i64 (xs.foldl (leastS e) (sideF e p.e p.m))]), (1, .box e.c), (0, .box (pc p x))]) 3 (fun _ => True) trivial rfl (fun _ => rfl) ?_ ?_ ?_
 ·simp [headW, heapW, envW, blkLt, D.ltL, D.lt, look, hget, prD, itD]
 ·intro lo pr q _ hlen
  have p3 := slope_t e q.m
  have hsn : (pr ++ [q]).foldl (leastS e) (sideF e p.e p.m) = wr (pr.foldl (leastS e) (sideF e p.e p.m) + min (wr (slopeF e q.m * q.dw)) (wr (slopeF e q.m * q.dm))) := by rw [List.foldl_append]; rfl
  generalize pr.foldl (leastS e) (sideF e p.e p.m) = M at *
  simp only [FS, ↓RE, okR, argEnv, Nat.reduceAdd, Nat.reduceSub, Nat.reduceLT, Nat.reduceLeDiff, Nat.reduceEqDiff, reduceIte, RM, pe_cons, pe_nil, Array.toList, edD]
  refine call_of_pure p3 rfl ?_
  simp only [FS, ↓RE, okR, argEnv, Nat.reduceAdd, Nat.reduceSub, Nat.reduceLT, Nat.reduceLeDiff, Nat.reduceEqDiff, reduceIte, RM]
  rw [hsn]
  simp [headW, heapW, envW, blkLt, D.ltL, D.lt, look, hget, prD, itD, wr]
 ·rintro xs rfl -
  simp only [FS, ↓RE, okR, argEnv, Nat.reduceAdd, Nat.reduceSub, Nat.reduceLT, Nat.reduceLeDiff, Nat.reduceEqDiff, reduceIte, RM]
  rfl
structure Bd where
 a : Int
 b : Int
 c : Int
 d : Int
def bdS (z : Bd) (q : Ed) : Bd := ⟨wr (z.a + q.dw), wr (z.b + q.dm), wr (z.c + min (wr (q.m * q.dw)) (wr (q.m * q.dm))), wr (z.d + max (wr (q.m * q.dw)) (wr (q.m * q.dm)))⟩
def boundsF (p : Pl) (x : Pt) : Bd := (partsL p x).foldl bdS ⟨p.e, p.e, p.m, p.m⟩
theorem bounds_t (p : Pl) (x : Pt) (ho : PtOk p x) : Pure Tryz.prog 115 [.agg (pc p x)] (.agg [.int .i64 (boundsF p x).a, .int .i64 (boundsF p x).b, .int .i64 (boundsF p x).c, .int .i64 (boundsF p x).d]) := by
 have p2 := parts_t p x
 have pseq := parts_seq p x ho
 refine pure_of_wc (rs := [.cell 2 197]) (m := 78) [(4, [(14, false, false, [])])] oNone_ok (by kernel_rfl) Tryz.func115 rfl (by kernel_rfl) rfl rfl (by kernel_rfl) ?_
 simp only [FS, ↓RE, okR, argEnv, Nat.reduceAdd, Nat.reduceSub, Nat.reduceLT, Nat.reduceLeDiff, Nat.reduceEqDiff, reduceIte, RM]
 refine call_of_pure' p2 (by simp [D.ltL, D.lt, prD, itD]) (by simp [D.ltL, D.lt, prD, itD]) ?_
 simp only [FS, ↓RE, okR, argEnv, Nat.reduceAdd, Nat.reduceSub, Nat.reduceLT, Nat.reduceLeDiff, Nat.reduceEqDiff, reduceIte, RM]
 refine rangeQ (α := Ed) oNone_ok [(4, [(14, false, false, [])])] (by kernel_rfl) (by kernel_rfl) (by kernel_rfl) pseq (by kernel_rfl) (fun _ => rfl) (fun R n x => ed_enc R n x) (by simp [D.ltL, D.lt, prD, itD])
  [(1, .ptr 0 0), (2, .ptr 1 0), (3, .ptr 2 0), (27, .fn (.func 124) [] [.ref (pc p x) 0])]
  (fun xs => [(2, .box [.int .i64 (xs.foldl bdS ⟨p.e, p.e, p.m, p.m⟩).a, .int .i64 (xs.foldl bdS ⟨p.e, p.e, p.m, p.m⟩).b, .int .i64 (xs.foldl bdS ⟨p.e, p.e, p.m, p.m⟩).c, .int .i64 (xs.foldl bdS ⟨p.e, p.e, p.m, p.m⟩).d]), (1, .box [.int .i64 0, .int .i64 0, .int .i64 0, .int .i64 0]), (0, .box (pc p x))]) 3 (fun _ => True) trivial rfl (fun _ => rfl) ?_ ?_ ?_
 ·simp [headW, heapW, envW, blkLt, D.ltL, D.lt, look, hget, prD, itD]
 ·intro lo pr q _ hlen
  have hsn : (pr ++ [q]).foldl bdS ⟨p.e, p.e, p.m, p.m⟩ = bdS (pr.foldl bdS ⟨p.e, p.e, p.m, p.m⟩) q := by rw [List.foldl_append]; rfl
  generalize pr.foldl bdS ⟨p.e, p.e, p.m, p.m⟩ = M at *
  simp only [FS, ↓RE, okR, argEnv, Nat.reduceAdd, Nat.reduceSub, Nat.reduceLT, Nat.reduceLeDiff, Nat.reduceEqDiff, reduceIte, RM, pe_cons, pe_nil, Array.toList, edD]
  rw [hsn]
  simp [headW, heapW, envW, blkLt, D.ltL, D.lt, look, hget, prD, itD, wr, bdS]
 ·rintro xs rfl -
  simp only [FS, ↓RE, okR, argEnv, Nat.reduceAdd, Nat.reduceSub, Nat.reduceLT, Nat.reduceLeDiff, Nat.reduceEqDiff, reduceIte, RM]
  rfl
def outS (p : Pl) (x : Pt) (l : List Ed) : List Bool := l.map fun e => decide (leastF p x e < 0)
def outF (p : Pl) (x : Pt) : List Bool := outS p x (edgesN p.cs p.cs.length)
def boL (l : List Bool) : List (List D) := l.map fun b => [D.bool b]
theorem boL_len (l : List Bool) : (boL l).length = l.length := by simp [boL]
theorem vw_pr (h : H) (l : List (Int × Int)) : view h (prD l) = prD l := (rfl)
theorem vw_it (h : H) (l : List It) : view h (itD l) = itD l := (rfl)
theorem lb_one (h : H) (b : Bool) : litD Tryz.prog h 35 1 [(0, .bool b)] = some (.sl [[.bool b]]) := litD_one Fz.und_35 Fz.size_4 Fz.zero_4 h _ rfl rfl
theorem ap_bool {h : H} {b n : Nat} {l : List Bool} (hb : hget h b = some (.arr 4 1 (boL l))) (hn : l.length = n) (hc : n ≤ 1000000) (nid : Nat) (c : Bool) : appE Tryz.prog h nid 35 35 (.osl b n) (.sl [[.bool c]]) = some (.osl b (n + 1), hset h b (.arr 4 1 (boL (l ++ [c]))), nid) := by
 subst hn
 rw [app_sl Fz.und_35 Fz.size_4 Fz.zero_4 rfl (by omega) Fz.bytes_4_35 h nid b l.length hb (boL_len l).symm rfl (by rw [boL_len]; simp; omega) (by rw [boL_len]; simp; omega)]
 simp [boL]
theorem out_t (p : Pl) (x : Pt) (ho : PtOk p x) (hl : 1 ≤ p.cs.length ∧ p.cs.length ≤ 1000) : Pure Tryz.prog 102 [.agg (pc p x)] (.sl (boL (outF p x))) := by
 have p2 := edges_t p
 have pseq := edges_seq p hl
 refine pure_of_wc (rs := [.tmp 2]) (m := 17) [(4, [(8, false, false, [])])] oNone_ok (by kernel_rfl) Tryz.func102 rfl (by kernel_rfl) rfl rfl (by kernel_rfl) ?_
 simp only [FS, ↓RE, okR, argEnv, Nat.reduceAdd, Nat.reduceSub, Nat.reduceLT, Nat.reduceLeDiff, Nat.reduceEqDiff, reduceIte, RM]
 refine call_of_pure' p2 (by simp [D.ltL, D.lt, prD, itD]) (by simp [D.ltL, D.lt, prD, itD]) ?_
 simp only [FS, ↓RE, okR, argEnv, Nat.reduceAdd, Nat.reduceSub, Nat.reduceLT, Nat.reduceLeDiff, Nat.reduceEqDiff, reduceIte, RM]
 refine loopNilB 1 0 [.nils] 4 1 rfl rfl ?_
 refine rangeQ (α := Ed) oNone_ok [(4, [(8, false, false, [])])] (by kernel_rfl) (by kernel_rfl) (by kernel_rfl) pseq (by kernel_rfl) (fun _ => rfl) (fun R n x => ed_enc R n x) (by simp [D.ltL, D.lt, prD, itD])
  [(1, .ptr 0 0), (3, .ptr 1 0), (7, .fn (.func 120) [] [.ref p.c 0])]
  (fun xs => [(2, .arr 4 1 (boL (outS p x xs))), (1, .box [.osl 2 (outS p x xs).length]), (0, .box (pc p x))]) 3 (fun _ => True) trivial rfl (fun _ => rfl) ?_ ?_ ?_
 ·simp [headW, heapW, envW, blkLt, D.ltL, D.lt, look, hget, hset, prD, itD, outS, boL]
 ·intro lo pr q _ hlen
  have p3 := least_t p x ho q
  have hsn : outS p x (pr ++ [q]) = outS p x pr ++ [decide (leastF p x q < 0)] := by simp [outS]
  have hol : (outS p x pr).length ≤ 1000 := by simp [outS]; omega
  generalize outS p x pr = M at *
  have ha := fun h (hb : hget h 2 = some (.arr 4 1 (boL M))) => ap_bool hb rfl (by omega)
  simp only [FS, ↓RE, okR, argEnv, Nat.reduceAdd, Nat.reduceSub, Nat.reduceLT, Nat.reduceLeDiff, Nat.reduceEqDiff, reduceIte, RM, pe_cons, pe_nil, Array.toList, edD, vw_pr, vw_it]
  refine call_of_pure p3 rfl ?_
  simp only [FS, ↓RE, okR, argEnv, Nat.reduceAdd, Nat.reduceSub, Nat.reduceLT, Nat.reduceLeDiff, Nat.reduceEqDiff, reduceIte, RM, lb_one, ha, cells_osl, cur_osl, curC_arr, boL_len, List.length_append, List.length_singleton, decide_true]
  rw [hsn]
  simp [headW, heapW, envW, blkLt, D.ltL, D.lt, look, hget, hset, prD, itD]
 ·rintro xs rfl -
  simp only [FS, ↓RE, okR, argEnv, Nat.reduceAdd, Nat.reduceSub, Nat.reduceLT, Nat.reduceLeDiff, Nat.reduceEqDiff, reduceIte, RM]
  simp [viewA, boL_len, outF]
end Go.Sx.L

namespace Go.Sx.L
open Go.Proofs
set_option maxRecDepth 10000

def badE (p : Pl) (e : Ed) (k : Nat) : Bool := ((k : Int) != e.n) && (((k : Int) != (wr (e.n + 1)).tmod (p.cs.length : Int)) && decide (sideF e (pAt p.cs k).1 (pAt p.cs k).2 ≤ 0))
def okE (p : Pl) (e : Ed) : Bool := (List.range p.cs.length).all fun k => !badE p e k
def convexF (p : Pl) : Bool := (edgesN p.cs p.cs.length).all (okE p)
theorem all_succ (f : Nat → Bool) (k : Nat) : (List.range (k + 1)).all f = ((List.range k).all f && f k) := by simp [List.range_succ]
theorem convex_t (p : Pl) (hl : 1 ≤ p.cs.length ∧ p.cs.length ≤ 1000) : Pure Tryz.prog 96 [.agg p.c] (.bool (convexF p)) := by
 have p2 := edges_t p
 have pseq := edges_seq p hl
 have hln := fun h => pr_len (t := 70) Fz.und_70 h p.cs
 refine pure_of_wc (rs := [.cell 2 4]) (m := 44) [] oNone_ok (by kernel_rfl) Tryz.func96 rfl (by kernel_rfl) rfl rfl (by kernel_rfl) ?_
 simp only [FS, ↓RE, okR, argEnv, Nat.reduceAdd, Nat.reduceSub, Nat.reduceLT, Nat.reduceLeDiff, Nat.reduceEqDiff, reduceIte, RM]
 refine call_of_pure' p2 (by simp [D.ltL, D.lt, prD, itD]) (by simp [D.ltL, D.lt, prD, itD]) ?_
 simp only [FS, ↓RE, okR, argEnv, Nat.reduceAdd, Nat.reduceSub, Nat.reduceLT, Nat.reduceLeDiff, Nat.reduceEqDiff, reduceIte, RM]
 refine rangeQ (α := Ed) oNone_ok [] (by kernel_rfl) (by kernel_rfl) (by kernel_rfl) pseq (by kernel_rfl) (fun _ => rfl) (fun R n x => ed_enc R n x) (by simp [D.ltL, D.lt, prD, itD])
  [(1, .ptr 0 0), (2, .ptr 1 0), (7, .fn (.func 120) [] [.ref p.c 0])]
  (fun xs => [(1, .box [.bool false]), (0, .box p.c)]) 2 (fun xs => xs.all (okE p) = true) rfl rfl (fun _ => rfl) ?_ ?_ ?_
 ·simp [headW, heapW, envW, blkLt, D.ltL, D.lt, look, hget, hset, prD, itD]
 ·intro lo pr q hok hlen
  simp only [FS, ↓RE, okR, argEnv, Nat.reduceAdd, Nat.reduceSub, Nat.reduceLT, Nat.reduceLeDiff, Nat.reduceEqDiff, reduceIte, RM, pe_cons, pe_nil, Array.toList, edD, hln]
  refine loopV (ι := Nat) oNone_ok [] (fun k => [(1, .ptr 0 0), (2, .ptr 1 0), (3, .ptr 2 0), (7, .fn (.func 120) [] [.ref p.c 0]), (11, prD p.cs), (12, .int .i64 (p.cs.length : Int)), (13, .int .i64 (k : Int))])
   (fun k => [(2, .box q.c), (1, .box [.bool false]), (0, .box p.c)]) 3 (fun k => k ≤ p.cs.length ∧ (List.range k).all (fun k => !badE p q k) = true) (fun k => p.cs.length - k) 0 (by kernel_rfl) (by kernel_rfl) ⟨Nat.zero_le _, rfl⟩ ?_ ?_
  ·simp [headW, heapW, envW, blkLt, D.ltL, D.lt, look, hget, hset, prD, itD]
  rintro k ⟨hk, hall⟩
  rcases Nat.lt_or_ge k p.cs.length with hlt | hge
  rotate_left
  ·have hc : ((k : Int) < (p.cs.length : Int)) = False := by simp; omega
   have hke : k = p.cs.length := by omega
   subst hke
   simp only [FS, ↓RE, okR, argEnv, Nat.reduceAdd, Nat.reduceSub, Nat.reduceLT, Nat.reduceLeDiff, Nat.reduceEqDiff, reduceIte, RM, hc, decide_false]
   exact ⟨by rw [List.all_append, hok, List.all_cons, List.all_nil, show okE p q = true from hall]; rfl, by simp [headW, heapW, envW, blkLt, D.ltL, D.lt, look, hget, hset, prD, itD]⟩
  have hc : ((k : Int) < (p.cs.length : Int)) = True := by simp [hlt]
  have w1 : IntKind.i64.wrap ((k : Int) + 1) = ((k + 1 : Nat) : Int) := by rw [wrap_i64 (by omega) (by omega)]; simp
  have ix1 : ∀ h, indexAddrD Tryz.prog h 70 (prD p.cs) (.int .i64 (k : Int)) = some (.ref [.int .i64 (pAt p.cs k).1, .int .i64 (pAt p.cs k).2] 0) := fun h => ix_sl Fz.und_70 Fz.size_129 (pr_at hlt) rfl h .i64
  have p3 := side_t q (pAt p.cs k).1 (pAt p.cs k).2
  have q1 := a_rem' (k := .i64) (x := IntKind.i64.wrap (q.n + 1)) (y := (p.cs.length : Int)) (by omega)
  have hb := all_succ (fun k => !badE p q k) k
  cases b1 : ((k : Int) != q.n)
  ·have hbf : badE p q k = false := by simp [badE, b1]
   simp only [FS, ↓RE, okR, argEnv, Nat.reduceAdd, Nat.reduceSub, Nat.reduceLT, Nat.reduceLeDiff, Nat.reduceEqDiff, reduceIte, RM, hc, decide_true, ix1, pz2, b1, w1]
   exact ⟨k + 1, ⟨by omega, by rw [hb, hall, hbf]; rfl⟩, by omega, by simp [headW, heapW, envW, blkLt, D.ltL, D.lt, look, hget, hset, prD, itD]⟩
  have ew : wr (q.n + 1) = IntKind.i64.wrap (q.n + 1) := rfl
  cases b2 : ((k : Int) != (IntKind.i64.wrap (q.n + 1)).tmod (p.cs.length : Int))
  ·have hbf : badE p q k = false := by simp [badE, ew, b2]
   simp only [FS, ↓RE, okR, argEnv, Nat.reduceAdd, Nat.reduceSub, Nat.reduceLT, Nat.reduceLeDiff, Nat.reduceEqDiff, reduceIte, RM, hc, decide_true, ix1, pz2, b1, w1, hln, q1, b2]
   exact ⟨k + 1, ⟨by omega, by rw [hb, hall, hbf]; rfl⟩, by omega, by simp [headW, heapW, envW, blkLt, D.ltL, D.lt, look, hget, hset, prD, itD]⟩
  simp only [FS, ↓RE, okR, argEnv, Nat.reduceAdd, Nat.reduceSub, Nat.reduceLT, Nat.reduceLeDiff, Nat.reduceEqDiff, reduceIte, RM, hc, decide_true, ix1, pz2, b1, w1, hln, q1, b2]
  refine call_of_pure p3 rfl ?_
  cases b3 : decide (sideF q (pAt p.cs k).1 (pAt p.cs k).2 ≤ 0)
  ·have hbf : badE p q k = false := by simp only [badE, b3, Bool.and_false]
   simp only [FS, ↓RE, okR, argEnv, Nat.reduceAdd, Nat.reduceSub, Nat.reduceLT, Nat.reduceLeDiff, Nat.reduceEqDiff, reduceIte, RM, b3, w1]
   exact ⟨k + 1, ⟨by omega, by rw [hb, hall, hbf]; rfl⟩, by omega, by simp [headW, heapW, envW, blkLt, D.ltL, D.lt, look, hget, hset, prD, itD]⟩
  have hbf : badE p q k = true := by simp only [badE, ew, b1, b2, b3, Bool.and_true]
  simp only [FS, ↓RE, okR, argEnv, Nat.reduceAdd, Nat.reduceSub, Nat.reduceLT, Nat.reduceLeDiff, Nat.reduceEqDiff, reduceIte, RM, b3, w1]
  refine ⟨rfl, fun hs => ?_⟩
  have hq : q ∈ edgesN p.cs p.cs.length := hs.subset (by simp)
  have hno : okE p q = false := by
   cases h : okE p q with
   | false => rfl
   | true => have := List.all_eq_true.1 h k (List.mem_range.2 hlt); rw [hbf] at this; cases this
  have hcv : convexF p = false := by
   cases h : convexF p with
   | false => rfl
   | true => have := List.all_eq_true.1 h q hq; rw [hno] at this; cases this
  rw [hcv]
 ·intro xs hxs hall
  subst hxs
  simp only [FS, ↓RE, okR, argEnv, Nat.reduceAdd, Nat.reduceSub, Nat.reduceLT, Nat.reduceLeDiff, Nat.reduceEqDiff, reduceIte, RM]
  rw [show convexF p = true from hall]
end Go.Sx.L
