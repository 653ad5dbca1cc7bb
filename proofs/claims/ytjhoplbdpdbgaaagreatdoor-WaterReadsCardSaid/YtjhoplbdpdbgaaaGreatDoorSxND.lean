/- Own work: a calculus of contracts for the programs of this kit: parts SxN16z, SxN17z, SxN18z. -/
import Derived.Test.YtjhoplbdpdbgaaaGreatDoorSxNC
import Derived.Test.YtjhoplbdpdbgaaaGreatDoorSxNA
import Derived.Test.YtjhoplbdpdbgaaaGreatDoorSxMo
import Derived.Test.YtjhoplbdpdbgaaaGreatDoorSxMi
set_option linter.unusedVariables false
set_option linter.unusedSimpArgs false
namespace Go.Sx
open Go.Proofs Go.Lib
set_option maxRecDepth 10000

theorem byte_eq (b c : UInt8) : (((b.toNat : Nat) : Int) == ((c.toNat : Nat) : Int)) = decide (b = c) := by
 rw [Bool.eq_iff_iff]
 simp only [beq_iff_eq, decide_eq_true_eq, Int.natCast_inj]
 exact ⟨fun h => UInt8.toNat_inj.1 h, fun h => by rw [h]⟩
theorem take_step {l : Bs} {i : Nat} {b : UInt8} (h : l[i]? = some b) : l.take (i + 1) = l.take i ++ [b] := by
 rw [List.take_add_one, h]; rfl
theorem words_t (s : Bs) (hs : s.length ≤ 1000000) : Pure Tryz.prog 143 [stD s] (.sl ((spl 32 s).map enT.d)) := by
 have hsz := s_len s
 refine pure_of_pieces (rs := [.tmp 2]) (m := 31) [] oNone_ok (by kernel_rfl) Tryz.func143 rfl (by kernel_rfl) rfl rfl (by kernel_rfl) ?_
 refine awp_peel (T := []) oNone_ok (by kernel_rfl) (by kernel_rfl) ?_
 simp only [FS, ↓RE, okR, argEnv, Nat.reduceAdd, Nat.reduceSub, Nat.reduceLT, Nat.reduceLeDiff, Nat.reduceEqDiff, reduceIte, RT, RM]
 refine awp_peel (T := []) oNone_ok (by kernel_rfl) (by kernel_rfl) ?_
 simp only [FS, ↓RE, okR, argEnv, Nat.reduceAdd, Nat.reduceSub, Nat.reduceLT, Nat.reduceLeDiff, Nat.reduceEqDiff, reduceIte, RT, RM]
 refine awp_peel (T := []) oNone_ok (by kernel_rfl) (by kernel_rfl) ?_
 simp only [FS, ↓RE, okR, argEnv, Nat.reduceAdd, Nat.reduceSub, Nat.reduceLT, Nat.reduceLeDiff, Nat.reduceEqDiff, reduceIte, RT, RM]
 refine awp_peel (T := []) oNone_ok (by kernel_rfl) (by kernel_rfl) ?_
 simp only [FS, ↓RE, okR, argEnv, Nat.reduceAdd, Nat.reduceSub, Nat.reduceLT, Nat.reduceLeDiff, Nat.reduceEqDiff, reduceIte, RT, RM]
 refine loopNil 3 9 1 rfl ?_
 refine loopV (ι := Nat) oNone_ok [] (fun i => [(0, stD s), (3, .osl 0 (outP 32 (s.take i)).length), (4, stD (lastP 32 (s.take i))), (5, .int .i64 (i : Int))]) (fun i => [(0, .arr 9 1 ((outP 32 (s.take i)).map enT.d))]) 1
  (fun i => i ≤ s.length) (fun i => s.length - i) 0 (by kernel_rfl) (by kernel_rfl) (Nat.zero_le _) ?_ ?_
 ·simp [headW, heapW, envW, blkLt, D.ltL, D.lt, look, hget, eset_nil, eset_cons, out_nil, last_nil]
  rfl
 intro i hil
 have hls := last_suf 32 _ (s.take i) rfl
 have hti : (s.take i).length ≤ s.length := by simp; omega
 have hol : (outP 32 (s.take i)).length ≤ s.length + 1 := by
  have h1 := spl_len (c := 32) (s.take i)
  rw [spl_last, List.length_append] at h1
  simp at h1 hti ⊢; omega
 have ha := fun h nid (hb : hget h 0 = some (.arr 9 1 ((outP 32 (s.take i)).map enT.d))) (hb2 : hget h 1 = some (.arr 9 1 [[stD (lastP 32 (s.take i))]])) => app_osl (P := Tryz.prog) Fz.und_147 Fz.size_9 Fz.zero_9 rfl (by omega) Fz.bytes_9_147 h nid 0 (outP 32 (s.take i)).length 1 1 (xs := [[stD (lastP 32 (s.take i))]]) hb (List.length_map _).symm hb2 rfl rfl (by simp; omega) (by simp; omega)
 have li := fun h nid x => lit_one (P := Tryz.prog) Fz.und_147 Fz.size_9 Fz.zero_9 h nid (stD x) rfl rfl
 rcases Nat.lt_or_ge i s.length with hlt | hge
 ·have hc := natT hlt
  obtain ⟨b, hr⟩ : ∃ r, s[i]? = some r := ⟨s[i], by simp [hlt]⟩
  have hix := s_ix (P := Tryz.prog) Fz.und_9 hr
  have hw1 := wrap_i64 (z := (i : Int) + 1) (by omega) (by omega)
  have hst := take_step hr
  by_cases hb : b = 32
  ·subst hb
   have e1 : (((UInt8.toNat 32 : Nat) : Int) == 32) = true := rfl
   simp only [FS, ↓RE, okR, argEnv, Nat.reduceAdd, Nat.reduceSub, Nat.reduceLT, Nat.reduceLeDiff, Nat.reduceEqDiff, reduceIte, RT, RM, hsz, hc, decide_true, hix, hw1, e1, li, ha]
   refine ⟨i + 1, by omega, by omega, ?_⟩
   rw [hst, out_hit, last_hit]
   simp [headW, heapW, envW, blkLt, D.ltL, D.lt, look, hget, Sx.hset, enT]
   rfl
  ·have e1 : (((b.toNat : Nat) : Int) == 32) = false := by rw [show (32 : Int) = (((32 : UInt8).toNat : Nat) : Int) from rfl, byte_eq, decide_eq_false hb]
   have ct : sliceD Tryz.prog 9 (stD s) (some (.int .i64 (i : Int))) (some (.int .i64 ((i : Int) + 1))) = some (stD [b]) := by
    have := s_cut (P := Tryz.prog) Fz.und_9 (l := s) (i := i) (j := i + 1) (by omega) (by omega)
    rw [hst, List.drop_append, List.drop_of_length_le (by simp; omega), List.length_take, show i - min i s.length = 0 by omega] at this
    rw [show ((i : Int) + 1) = ((i + 1 : Nat) : Int) by omega, this]
    rfl
   have a1 := s_add (P := Tryz.prog) 9 (a := lastP 32 (s.take i)) (b := [b]) (by simp at hls ⊢; omega)
   simp only [FS, ↓RE, okR, argEnv, Nat.reduceAdd, Nat.reduceSub, Nat.reduceLT, Nat.reduceLeDiff, Nat.reduceEqDiff, reduceIte, RT, RM, hsz, hc, decide_true, hix, hw1, e1, ct, a1]
   refine ⟨i + 1, by omega, by omega, ?_⟩
   rw [hst, out_miss hb, last_miss hb]
   simp [headW, heapW, envW, blkLt, D.ltL, D.lt, look, hget, Sx.hset, enT]
 have hc := natF hge
 have : i = s.length := by omega
 subst this
 rw [List.take_length] at *
 simp only [FS, ↓RE, okR, argEnv, Nat.reduceAdd, Nat.reduceSub, Nat.reduceLT, Nat.reduceLeDiff, Nat.reduceEqDiff, reduceIte, RT, RM, hsz, hc, decide_false]
 refine awp_rest (T := []) oNone_ok (by kernel_rfl) (by kernel_rfl) ?_
 simp only [FS, ↓RE, okR, argEnv, Nat.reduceAdd, Nat.reduceSub, Nat.reduceLT, Nat.reduceLeDiff, Nat.reduceEqDiff, reduceIte, RT, RM, li, ha]
 rw [spl_last 32 s]
 simp [view, hget, enT, viewA]
theorem lines_t (s : Bs) (hs : s.length ≤ 1000000) : Pure Tryz.prog 103 [stD s] (.tup [.sl ((outP 10 s).map enT.d), .bool (decide (lastP 10 s = []))]) := by
 have hsz := s_len s
 refine pure_of_pieces (rs := [.tmp 2, .tmp 3]) (m := 31) [] oNone_ok (by kernel_rfl) Tryz.func103 rfl (by kernel_rfl) rfl rfl (by kernel_rfl) ?_
 refine awp_peel (T := []) oNone_ok (by kernel_rfl) (by kernel_rfl) ?_
 simp only [FS, ↓RE, okR, argEnv, Nat.reduceAdd, Nat.reduceSub, Nat.reduceLT, Nat.reduceLeDiff, Nat.reduceEqDiff, reduceIte, RT, RM]
 refine awp_peel (T := []) oNone_ok (by kernel_rfl) (by kernel_rfl) ?_
 simp only [FS, ↓RE, okR, argEnv, Nat.reduceAdd, Nat.reduceSub, Nat.reduceLT, Nat.reduceLeDiff, Nat.reduceEqDiff, reduceIte, RT, RM]
 refine awp_peel (T := []) oNone_ok (by kernel_rfl) (by kernel_rfl) ?_
 simp only [FS, ↓RE, okR, argEnv, Nat.reduceAdd, Nat.reduceSub, Nat.reduceLT, Nat.reduceLeDiff, Nat.reduceEqDiff, reduceIte, RT, RM]
 refine awp_peel (T := []) oNone_ok (by kernel_rfl) (by kernel_rfl) ?_
 simp only [FS, ↓RE, okR, argEnv, Nat.reduceAdd, Nat.reduceSub, Nat.reduceLT, Nat.reduceLeDiff, Nat.reduceEqDiff, reduceIte, RT, RM]
 refine loopNil 4 9 1 rfl ?_
 refine loopV (ι := Nat) oNone_ok [] (fun i => [(0, stD s), (4, .osl 0 (outP 10 (s.take i)).length), (5, .int .i64 ((i - (lastP 10 (s.take i)).length : Nat) : Int)), (6, .int .i64 (i : Int))]) (fun i => [(0, .arr 9 1 ((outP 10 (s.take i)).map enT.d))]) 1
  (fun i => i ≤ s.length) (fun i => s.length - i) 0 (by kernel_rfl) (by kernel_rfl) (Nat.zero_le _) ?_ ?_
 ·simp [headW, heapW, envW, blkLt, D.ltL, D.lt, look, hget, eset_nil, eset_cons, out_nil, last_nil]
 intro i hil
 have hls := last_suf 10 _ (s.take i) rfl
 have hti : (s.take i).length = i := by simp; omega
 rw [hti] at hls
 have hol : (outP 10 (s.take i)).length ≤ s.length + 1 := by
  have h1 := spl_len (c := 10) (s.take i)
  rw [spl_last, List.length_append] at h1
  simp at h1 hti ⊢; omega
 have ha := fun h nid (hb : hget h 0 = some (.arr 9 1 ((outP 10 (s.take i)).map enT.d))) (hb2 : hget h 1 = some (.arr 9 1 [[stD (lastP 10 (s.take i))]])) => app_osl (P := Tryz.prog) Fz.und_147 Fz.size_9 Fz.zero_9 rfl (by omega) Fz.bytes_9_147 h nid 0 (outP 10 (s.take i)).length 1 1 (xs := [[stD (lastP 10 (s.take i))]]) hb (List.length_map _).symm hb2 rfl rfl (by simp; omega) (by simp; omega)
 have li := fun h nid x => lit_one (P := Tryz.prog) Fz.und_147 Fz.size_9 Fz.zero_9 h nid (stD x) rfl rfl
 rcases Nat.lt_or_ge i s.length with hlt | hge
 ·have hc := natT hlt
  obtain ⟨b, hr⟩ : ∃ r, s[i]? = some r := ⟨s[i], by simp [hlt]⟩
  have hix := s_ix (P := Tryz.prog) Fz.und_9 hr
  have hw1 := wrap_i64 (z := (i : Int) + 1) (by omega) (by omega)
  have hst := take_step hr
  by_cases hb : b = 10
  ·subst hb
   have e1 : (((UInt8.toNat 10 : Nat) : Int) == 10) = true := rfl
   have ct := s_cut (P := Tryz.prog) Fz.und_9 (l := s) (i := i - (lastP 10 (s.take i)).length) (j := i) (by omega) (by omega)
   rw [hls.2] at ct
   simp only [FS, ↓RE, okR, argEnv, Nat.reduceAdd, Nat.reduceSub, Nat.reduceLT, Nat.reduceLeDiff, Nat.reduceEqDiff, reduceIte, RT, RM, hsz, hc, decide_true, hix, hw1, e1, ct, li, ha]
   refine ⟨i + 1, by omega, by omega, ?_⟩
   rw [hst, out_hit, last_hit]
   simp [headW, heapW, envW, blkLt, D.ltL, D.lt, look, hget, Sx.hset, enT]
  ·have e1 : (((b.toNat : Nat) : Int) == 10) = false := by rw [show (10 : Int) = (((10 : UInt8).toNat : Nat) : Int) from rfl, byte_eq, decide_eq_false hb]
   simp only [FS, ↓RE, okR, argEnv, Nat.reduceAdd, Nat.reduceSub, Nat.reduceLT, Nat.reduceLeDiff, Nat.reduceEqDiff, reduceIte, RT, RM, hsz, hc, decide_true, hix, hw1, e1]
   refine ⟨i + 1, by omega, by omega, ?_⟩
   rw [hst, out_miss hb, last_miss hb]
   simp [headW, heapW, envW, blkLt, D.ltL, D.lt, look, hget, Sx.hset, enT]
 have hc := natF hge
 have : i = s.length := by omega
 subst this
 rw [List.take_length] at *
 simp only [FS, ↓RE, okR, argEnv, Nat.reduceAdd, Nat.reduceSub, Nat.reduceLT, Nat.reduceLeDiff, Nat.reduceEqDiff, reduceIte, RT, RM, hsz, hc, decide_false]
 have hq : (((s.length - (lastP 10 s).length : Nat) : Int) == (s.length : Int)) = decide (lastP 10 s = []) := by
  rw [Bool.eq_iff_iff]
  simp only [beq_iff_eq, decide_eq_true_eq, ← List.length_eq_zero_iff]
  omega
 refine awp_rest (T := []) oNone_ok (by kernel_rfl) (by kernel_rfl) ?_
 simp only [FS, ↓RE, okR, argEnv, Nat.reduceAdd, Nat.reduceSub, Nat.reduceLT, Nat.reduceLeDiff, Nat.reduceEqDiff, reduceIte, RT, RM, hsz, hq]
 simp [view, viewL, hget, enT, viewA]
end Go.Sx

namespace Go.Sx
open Go.Proofs Go.Lib
set_option maxRecDepth 10000

def numR (w : Bs) : D := match numB w with
 | some n => .tup [.int .i64 n, .bool true]
 | none => .tup [.int .i64 0, .bool false]
theorem num_split (w : Bs) : ∃ l neg sg, numB w = (magB neg l).map (fun n : Nat => sg * (n : Int)) ∧ l.length ≤ w.length ∧ ((w.head? = some 45 ∧ 1 < w.length ∧ l = w.drop 1 ∧ sg = -1 ∧ neg = true) ∨ (¬ (w.head? = some 45 ∧ 1 < w.length) ∧ l = w ∧ sg = 1 ∧ neg = false)) := by
 by_cases h : w.head? = some 45 ∧ 1 < w.length
 ·refine ⟨w.drop 1, true, -1, ?_, by simp, .inl ⟨h.1, h.2, rfl, rfl, rfl⟩⟩
  unfold numB
  rw [if_pos h, List.drop_one]
  congr 1
  funext n
  omega
 ·refine ⟨w, false, 1, ?_, Nat.le_refl _, .inr ⟨h, rfl, rfl, rfl⟩⟩
  unfold numB
  rw [if_neg h]
  congr 1
  funext n
  omega
theorem rnumber_t (w : Bs) (hw : w.length ≤ 1000000) : Pure Tryz.prog 144 [stD w] (numR w) := by
 obtain ⟨l, neg, sg, hnum, hll, hcase⟩ := num_split w
 have hR : numR w = match (magB neg l).map (fun n : Nat => sg * (n : Int)) with
  | some n => .tup [.int .i64 n, .bool true]
  | none => .tup [.int .i64 0, .bool false] := by unfold numR; rw [hnum]
 have hsz := s_len w
 generalize numR w = RR at *
 refine pure_of_pieces (rs := [.tmp 2, .tmp 3]) (m := 66) [] oNone_ok (by kernel_rfl) Tryz.func144 rfl (by kernel_rfl) rfl rfl (by kernel_rfl) ?_
 refine awp_peel (T := []) oNone_ok (by kernel_rfl) (by kernel_rfl) ?_
 simp only [FS, ↓RE, okR, argEnv, Nat.reduceAdd, Nat.reduceSub, Nat.reduceLT, Nat.reduceLeDiff, Nat.reduceEqDiff, reduceIte, RT, RM]
 refine awp_peel (T := []) oNone_ok (by kernel_rfl) (by kernel_rfl) ?_
 simp only [FS, ↓RE, okR, argEnv, Nat.reduceAdd, Nat.reduceSub, Nat.reduceLT, Nat.reduceLeDiff, Nat.reduceEqDiff, reduceIte, RT, RM]
 refine awp_cutI (T := []) oNone_ok (by kernel_rfl) [(0, stD l), (4, .int .i64 sg)] [] 0 66 (by kernel_rfl) ?_ ?_
 ·by_cases hl : 1 < w.length
  rotate_left
  ·have q : decide ((1 : Int) < (w.length : Int)) = false := by simp; omega
   obtain ⟨h1, _⟩ | ⟨_, rfl, rfl, rfl⟩ := hcase
   ·omega
   simp only [FS, ↓RE, okR, argEnv, Nat.reduceAdd, Nat.reduceSub, Nat.reduceLT, Nat.reduceLeDiff, Nat.reduceEqDiff, reduceIte, RT, RM, hsz, q]
   exact imp_head (by simp [headW, heapW, envW, blkLt, D.ltL, D.lt, look, hget])
  ·have q : decide ((1 : Int) < (w.length : Int)) = true := by simp; omega
   obtain ⟨b, hb⟩ : ∃ b, w[0]? = some b := ⟨w[0], by simp⟩
   have ix : indexD Tryz.prog 9 (stD w) (.int .i64 0) = some (.int .u8 b.toNat) := s_ix (P := Tryz.prog) (i := 0) Fz.und_9 hb
   have hh : w.head? = some b := by rw [List.head?_eq_getElem?]; exact hb
   by_cases h45 : b = 45
   ·subst h45
    have e : (((UInt8.toNat 45 : Nat) : Int) == 45) = true := rfl
    have sd : sliceD Tryz.prog 9 (stD w) (some (.int .i64 1)) none = some (stD (w.drop 1)) := s_drop (P := Tryz.prog) Fz.und_9 (l := w) (i := 1) (by omega)
    obtain ⟨_, _, rfl, rfl, rfl⟩ | ⟨h, _⟩ := hcase
    rotate_left
    ·exact absurd ⟨hh, hl⟩ h
    simp only [FS, ↓RE, okR, argEnv, Nat.reduceAdd, Nat.reduceSub, Nat.reduceLT, Nat.reduceLeDiff, Nat.reduceEqDiff, reduceIte, RT, RM, hsz, q, ix, e, sd]
    exact imp_head (by simp [headW, heapW, envW, blkLt, D.ltL, D.lt, look, hget])
   ·have e : (((b.toNat : Nat) : Int) == 45) = false := by rw [show (45 : Int) = (((45 : UInt8).toNat : Nat) : Int) from rfl, byte_eq, decide_eq_false h45]
    obtain ⟨h, _⟩ | ⟨_, rfl, rfl, rfl⟩ := hcase
    ·rw [hh] at h; cases h; exact absurd rfl h45
    simp only [FS, ↓RE, okR, argEnv, Nat.reduceAdd, Nat.reduceSub, Nat.reduceLT, Nat.reduceLeDiff, Nat.reduceEqDiff, reduceIte, RT, RM, hsz, q, ix, e]
    exact imp_head (by simp [headW, heapW, envW, blkLt, D.ltL, D.lt, look, hget])
 have hsg : (neg = true ∧ sg = -1) ∨ (neg = false ∧ sg = 1) := by
  obtain ⟨_, _, _, h1, h2⟩ | ⟨_, _, h1, h2⟩ := hcase
  ·exact .inl ⟨h2, h1⟩
  ·exact .inr ⟨h2, h1⟩
 clear hcase hnum hsz
 have hsz := s_len l
 have hno : magB neg l = none → RR = .tup [.int .i64 0, .bool false] := fun h => by rw [hR, h]; rfl
 by_cases hbad : l = [] ∨ 10 < l.length ∨ (l.head? = some 48 ∧ (1 < l.length ∨ neg = true))
 ·have e := hno (by unfold magB; rw [if_pos hbad])
  clear hno hR
  subst e
  refine awp_peel (T := []) oNone_ok (by kernel_rfl) (by kernel_rfl) ?_
  cases l with
  | nil =>
   have q : ((((bS []).size : Nat) : Int) == 0) = true := rfl
   simp only [FS, ↓RE, okR, argEnv, Nat.reduceAdd, Nat.reduceSub, Nat.reduceLT, Nat.reduceLeDiff, Nat.reduceEqDiff, reduceIte, RT, RM, q]
  | cons b r =>
  have ix0 : indexD Tryz.prog 9 (stD (b :: r)) (.int .i64 0) = some (.int .u8 b.toNat) := s_ix (P := Tryz.prog) (l := b :: r) (i := 0) Fz.und_9 rfl
  generalize hL : b :: r = L at *
  have hl1 : 1 ≤ L.length := by rw [← hL]; simp
  have q0 : ((L.length : Int) == 0) = false := by simp only [beq_eq_false_iff_ne]; omega
  by_cases h10 : 10 < L.length
  ·have q10 : decide ((10 : Int) < (L.length : Int)) = true := by simp; omega
   simp only [FS, ↓RE, okR, argEnv, Nat.reduceAdd, Nat.reduceSub, Nat.reduceLT, Nat.reduceLeDiff, Nat.reduceEqDiff, reduceIte, RT, RM, hsz, q0, q10]
  have q10 : decide ((10 : Int) < (L.length : Int)) = false := by simp; omega
  rcases hbad with h | h | ⟨h48, h2⟩
  ·rw [h] at hl1; simp at hl1
  ·exact absurd h h10
  rw [← hL] at h48
  cases h48
  have e48 : (((UInt8.toNat 48 : Nat) : Int) == 48) = true := rfl
  by_cases h1 : 1 < L.length
  ·have q1 : decide ((1 : Int) < (L.length : Int)) = true := by simp; omega
   simp only [FS, ↓RE, okR, argEnv, Nat.reduceAdd, Nat.reduceSub, Nat.reduceLT, Nat.reduceLeDiff, Nat.reduceEqDiff, reduceIte, RT, RM, hsz, q0, q10, ix0, e48, q1]
  ·have q1 : decide ((1 : Int) < (L.length : Int)) = false := by simp; omega
   have h2 := h2.resolve_left h1
   obtain ⟨_, rfl⟩ | ⟨h3, _⟩ := hsg
   rotate_left
   ·rw [h2] at h3; cases h3
   have qs : decide ((-1 : Int) < 0) = true := rfl
   simp only [FS, ↓RE, okR, argEnv, Nat.reduceAdd, Nat.reduceSub, Nat.reduceLT, Nat.reduceLeDiff, Nat.reduceEqDiff, reduceIte, RT, RM, hsz, q0, q10, ix0, e48, q1, qs]
 have hmag : magB neg l = if l.all digB = true then some (valB l) else none := by
  unfold magB
  rw [if_neg hbad]
 rw [hmag] at hno hR
 have hsgb : -1 ≤ sg ∧ sg ≤ 1 := by rcases hsg with ⟨_, h⟩ | ⟨_, h⟩ <;> omega
 refine awp_cutI (T := []) oNone_ok (by kernel_rfl) [(0, stD l), (4, .int .i64 sg)] [] 0 66 (by kernel_rfl) ?_ ?_
 ·cases l with
  | nil => exact absurd (.inl rfl) hbad
  | cons b r =>
  have ix0 : indexD Tryz.prog 9 (stD (b :: r)) (.int .i64 0) = some (.int .u8 b.toNat) := s_ix (P := Tryz.prog) (l := b :: r) (i := 0) Fz.und_9 rfl
  have hb48 : b = 48 → ¬ (1 < (b :: r).length ∨ neg = true) := fun h h2 => hbad (.inr (.inr ⟨by rw [h]; rfl, h2⟩))
  have h10 : ¬ 10 < (b :: r).length := fun h => hbad (.inr (.inl h))
  have hl1 : 1 ≤ (b :: r).length := by simp
  generalize b :: r = L at *
  have q0 : ((L.length : Int) == 0) = false := by simp only [beq_eq_false_iff_ne]; omega
  have q10 : decide ((10 : Int) < (L.length : Int)) = false := by simp; omega
  by_cases h48 : b = 48
  ·have h2 := hb48 h48
   subst h48
   have e48 : (((UInt8.toNat 48 : Nat) : Int) == 48) = true := rfl
   have q1 : decide ((1 : Int) < (L.length : Int)) = false := by simp; omega
   obtain ⟨h3, _⟩ | ⟨_, rfl⟩ := hsg
   ·exact absurd (.inr h3) h2
   have qs : decide ((1 : Int) < 0) = false := rfl
   simp only [FS, ↓RE, okR, argEnv, Nat.reduceAdd, Nat.reduceSub, Nat.reduceLT, Nat.reduceLeDiff, Nat.reduceEqDiff, reduceIte, RT, RM, hsz, q0, q10, ix0, e48, q1, qs]
   exact imp_head (by simp [headW, heapW, envW, blkLt, D.ltL, D.lt, look, hget])
  ·have e48 : (((b.toNat : Nat) : Int) == 48) = false := by rw [show (48 : Int) = (((48 : UInt8).toNat : Nat) : Int) from rfl, byte_eq, decide_eq_false h48]
   simp only [FS, ↓RE, okR, argEnv, Nat.reduceAdd, Nat.reduceSub, Nat.reduceLT, Nat.reduceLeDiff, Nat.reduceEqDiff, reduceIte, RT, RM, hsz, q0, q10, ix0, e48]
   exact imp_head (by simp [headW, heapW, envW, blkLt, D.ltL, D.lt, look, hget])
 have h10 : l.length ≤ 10 := by
  rcases Nat.lt_or_ge 10 l.length with h | h
  ·exact absurd (.inr (.inl h)) hbad
  ·exact h
 clear hbad hmag
 refine awp_peel (T := []) oNone_ok (by kernel_rfl) (by kernel_rfl) ?_
 simp only [FS, ↓RE, okR, argEnv, Nat.reduceAdd, Nat.reduceSub, Nat.reduceLT, Nat.reduceLeDiff, Nat.reduceEqDiff, reduceIte, RT, RM]
 refine awp_peel (T := []) oNone_ok (by kernel_rfl) (by kernel_rfl) ?_
 simp only [FS, ↓RE, okR, argEnv, Nat.reduceAdd, Nat.reduceSub, Nat.reduceLT, Nat.reduceLeDiff, Nat.reduceEqDiff, reduceIte, RT, RM]
 refine loopV (ι := Nat) oNone_ok [] (fun i => [(0, stD l), (4, .int .i64 sg), (5, .int .i64 ((valB (l.take i) : Nat) : Int)), (6, .int .i64 (i : Int))]) (fun i => []) 0
  (fun i => i ≤ l.length ∧ (l.take i).all digB = true) (fun i => l.length - i) 0 (by kernel_rfl) (by kernel_rfl) ⟨Nat.zero_le _, rfl⟩ ?_ ?_
 ·simp [headW, heapW, envW, blkLt, D.ltL, D.lt, look, hget, valB, valF]
 rintro i ⟨hil, hall⟩
 have hvb : valB (l.take i) < 10 ^ 10 := by
  have h1 := valF_lt (l.take i) 0 hall
  have h2 : (l.take i).length ≤ 10 := by simp; omega
  have h3 : 10 ^ (l.take i).length ≤ 10 ^ 10 := Nat.pow_le_pow_right (by omega) h2
  unfold valB; omega
 rcases Nat.lt_or_ge i l.length with hlt | hge
 ·have hc := natT hlt
  obtain ⟨b, hr⟩ : ∃ r, l[i]? = some r := ⟨l[i], by simp [hlt]⟩
  have hix := s_ix (P := Tryz.prog) Fz.und_9 hr
  have hw1 := wrap_i64 (z := (i : Int) + 1) (by omega) (by omega)
  have hbt := b.toNat_lt
  by_cases hd : digB b = true
  rotate_left
  ·have e := hno (by rw [if_neg]; intro h; exact hd (List.all_eq_true.1 h b (List.mem_of_getElem? hr)))
   by_cases h1 : (b.toNat : Int) < 48
   ·have q1 : decide ((b.toNat : Int) < 48) = true := decide_eq_true h1
    simp only [FS, ↓RE, okR, argEnv, Nat.reduceAdd, Nat.reduceSub, Nat.reduceLT, Nat.reduceLeDiff, Nat.reduceEqDiff, reduceIte, RT, RM, hsz, hc, decide_true, hix, q1]
    rw [e]
   ·have q1 : decide ((b.toNat : Int) < 48) = false := decide_eq_false h1
    have q2 : decide ((57 : Int) < (b.toNat : Int)) = true := by simp [digB] at hd ⊢; omega
    simp only [FS, ↓RE, okR, argEnv, Nat.reduceAdd, Nat.reduceSub, Nat.reduceLT, Nat.reduceLeDiff, Nat.reduceEqDiff, reduceIte, RT, RM, hsz, hc, decide_true, hix, q1, q2]
    rw [e]
  ·have hd2 : 48 ≤ b.toNat ∧ b.toNat ≤ 57 := by simpa [digB] using hd
   have q1 : decide ((b.toNat : Int) < 48) = false := by simp; omega
   have q2 : decide ((57 : Int) < (b.toNat : Int)) = false := by simp; omega
   have hst : valB (l.take (i + 1)) = 10 * valB (l.take i) + (b.toNat - 48) := by
    rw [take_step hr]; unfold valB; rw [valF_app]; rfl
   have m1 := wrap_i64 (z := 10 * ((valB (l.take i) : Nat) : Int)) (by omega) (by omega)
   have m2 := wrap_i64 (z := (b.toNat : Int)) (by omega) (by omega)
   have m3 := wrap_i64 (z := 10 * ((valB (l.take i) : Nat) : Int) + (b.toNat : Int)) (by omega) (by omega)
   have m4 := wrap_i64 (z := 10 * ((valB (l.take i) : Nat) : Int) + (b.toNat : Int) - 48) (by omega) (by omega)
   simp only [FS, ↓RE, okR, argEnv, Nat.reduceAdd, Nat.reduceSub, Nat.reduceLT, Nat.reduceLeDiff, Nat.reduceEqDiff, reduceIte, RT, RM, hsz, hc, decide_true, hix, q1, q2, m1, m2, m3, m4, hw1]
   refine ⟨i + 1, ⟨by omega, by rw [take_step hr, List.all_append, hall]; simp [hd]⟩, by omega, ?_⟩
   rw [hst]
   simp [headW, heapW, envW, blkLt, D.ltL, D.lt, look, hget]
   omega
 have hc := natF hge
 have : i = l.length := by omega
 subst this
 rw [List.take_length] at *
 rw [if_pos hall] at hR
 have m5 := wrap_i64 (z := sg * ((valB l : Nat) : Int)) (by rcases hsg with ⟨_, rfl⟩ | ⟨_, rfl⟩ <;> omega) (by rcases hsg with ⟨_, rfl⟩ | ⟨_, rfl⟩ <;> omega)
 simp only [FS, ↓RE, okR, argEnv, Nat.reduceAdd, Nat.reduceSub, Nat.reduceLT, Nat.reduceLeDiff, Nat.reduceEqDiff, reduceIte, RT, RM, hsz, hc, decide_false]
 refine awp_rest (T := []) oNone_ok (by kernel_rfl) (by kernel_rfl) ?_
 simp only [FS, ↓RE, okR, argEnv, Nat.reduceAdd, Nat.reduceSub, Nat.reduceLT, Nat.reduceLeDiff, Nat.reduceEqDiff, reduceIte, RT, RM, m5]
 rw [hR]
 rfl
end Go.Sx

namespace Go.Sx
open Go.Proofs Go.Lib
set_option maxRecDepth 10000

def takR (s word : Bs) (many : Nat) : D := match takB s word many with
 | some xs => .tup [nmD xs, .bool true]
 | none => .tup [.nils, .bool false]
theorem body_two {s : Bs} (h : 4 ≤ s.length) : bodyB s = if (s.take (s.length - 2)).drop (s.length - 4) = [32, 61] ∧ s.drop (s.length - 2) = chkB (s.take (s.length - 4)) then some (s.take (s.length - 4)) else none := by
 have e1 : s.drop (s.length - 4) = (s.take (s.length - 2)).drop (s.length - 4) ++ s.drop (s.length - 2) := by
  rw [← List.drop_append_of_le_length (by simp; omega), List.take_append_drop]
 have hl : ((s.take (s.length - 2)).drop (s.length - 4)).length = 2 := by simp; omega
 unfold bodyB
 generalize (s.take (s.length - 2)).drop (s.length - 4) = m at *
 generalize s.drop (s.length - 2) = e at *
 generalize s.take (s.length - 4) = a at *
 rw [e1]
 by_cases h1 : m = [32, 61] ∧ e = chkB a
 ·rw [if_pos h1, if_pos ⟨h, by rw [h1.1, h1.2]; rfl⟩]
 ·rw [if_neg h1, if_neg]
  rintro ⟨_, h2⟩
  match m, hl with
  | [x, y], _ =>
   simp only [List.cons_append, List.nil_append, List.cons.injEq] at h2
   exact h1 ⟨by rw [h2.1, h2.2.1], h2.2.2⟩
theorem rtake_t (s word : Bs) (many : Nat) (hs : s.length ≤ 1000000) (hm : many ≤ 100) : Pure Tryz.prog 104 [stD s, stD word, .int .i64 (many : Int)] (takR s word many) := by
 have hR : takR s word many = match takB s word many with
 | some xs => .tup [nmD xs, .bool true]
 | none => .tup [.nils, .bool false] := rfl
 have hno : takB s word many = none → takR s word many = .tup [.nils, .bool false] := fun h => by rw [hR, h]
 have hbt := body_two (s := s)
 have hsz := s_len s
 have htb : takB s word many = match bodyB s with
 | none => none
 | some b => if (spl 32 b).length = many + 1 ∧ (spl 32 b).head? = some word then numsB (spl 32 b).tail else none := rfl
 generalize takR s word many = RR at *
 refine pure_of_pieces (rs := [.tmp 6, .tmp 7]) (m := 77) [(2, [(23, false, false, [])])] oNone_ok (by kernel_rfl) Tryz.func104 rfl (by kernel_rfl) rfl rfl (by kernel_rfl) ?_
 refine awp_peel (T := []) oNone_ok (by kernel_rfl) (by kernel_rfl) ?_
 simp only [FS, ↓RE, okR, argEnv, Nat.reduceAdd, Nat.reduceSub, Nat.reduceLT, Nat.reduceLeDiff, Nat.reduceEqDiff, reduceIte, RT, RM]
 refine awp_peel (T := []) oNone_ok (by kernel_rfl) (by kernel_rfl) ?_
 simp only [FS, ↓RE, okR, argEnv, Nat.reduceAdd, Nat.reduceSub, Nat.reduceLT, Nat.reduceLeDiff, Nat.reduceEqDiff, reduceIte, RT, RM, hsz]
 refine awp_peel (T := [(2, [(23, false, false, [])])]) oNone_ok (by kernel_rfl) (by kernel_rfl) ?_
 by_cases h4 : s.length < 4
 ·have q4 : decide ((s.length : Int) < 4) = true := by simp; omega
  have e := hno (by rw [htb]; unfold bodyB; rw [if_neg (by omega)])
  simp only [FS, ↓RE, okR, argEnv, Nat.reduceAdd, Nat.reduceSub, Nat.reduceLT, Nat.reduceLeDiff, Nat.reduceEqDiff, reduceIte, RT, RM, q4]
  rw [e]
 have q4 : decide ((s.length : Int) < 4) = false := by simp; omega
 rw [hbt (by omega)] at htb
 clear hbt
 have w4 := wrap_i64 (z := (s.length : Int) - 4) (by omega) (by omega)
 have w2 := wrap_i64 (z := (s.length : Int) - 2) (by omega) (by omega)
 have n4 : (s.length : Int) - 4 = ((s.length - 4 : Nat) : Int) := by omega
 have n2 : (s.length : Int) - 2 = ((s.length - 2 : Nat) : Int) := by omega
 have c1 := s_cut (P := Tryz.prog) Fz.und_9 (l := s) (i := s.length - 4) (j := s.length - 2) (by omega) (by omega)
 have c2 := s_drop (P := Tryz.prog) Fz.und_9 (l := s) (i := s.length - 2) (by omega)
 have c3 := s_take (P := Tryz.prog) Fz.und_9 (l := s) (i := s.length - 4) (by omega)
 rw [← n4, ← n2] at c1
 rw [← n2] at c2
 rw [← n4] at c3
 have hal : (s.take (s.length - 4)).length ≤ 1000000 := by simp; omega
 have pc := rcheck_t (s.take (s.length - 4)) hal
 generalize (s.take (s.length - 2)).drop (s.length - 4) = m at *
 generalize s.drop (s.length - 2) = e at *
 generalize s.take (s.length - 4) = a at *
 have e1 : strOp .neq (bS m) (bS [32, 61]) = some (.bool (!(decide (m = [32, 61])))) := s_ne (P := Tryz.prog) 9 m [32, 61]
 have e2 : strOp .neq (bS e) (bS (chkB a)) = some (.bool (!(decide (e = chkB a)))) := s_ne (P := Tryz.prog) 9 e (chkB a)
 by_cases hm1 : m = [32, 61]
 rotate_left
 ·have er := hno (by rw [htb, if_neg (fun h => hm1 h.1)])
  rw [decide_eq_false hm1] at e1
  simp only [FS, ↓RE, okR, argEnv, Nat.reduceAdd, Nat.reduceSub, Nat.reduceLT, Nat.reduceLeDiff, Nat.reduceEqDiff, reduceIte, RT, RM, q4, w4, w2, c1, show (⟨#[32, 61]⟩ : ByteArray) = bS [32, 61] from rfl, e1, Bool.not_false]
  rw [er]
 rw [decide_eq_true hm1] at e1
 by_cases he : e = chkB a
 rotate_left
 ·have er := hno (by rw [htb, if_neg (fun h => he h.2)])
  rw [decide_eq_false he] at e2
  simp only [FS, ↓RE, okR, argEnv, Nat.reduceAdd, Nat.reduceSub, Nat.reduceLT, Nat.reduceLeDiff, Nat.reduceEqDiff, reduceIte, RT, RM, q4, w4, w2, c1, c2, c3, show (⟨#[32, 61]⟩ : ByteArray) = bS [32, 61] from rfl, e1, Bool.not_true]
  refine call_of_pure pc rfl ?_
  simp only [FS, ↓RE, okR, argEnv, Nat.reduceAdd, Nat.reduceSub, Nat.reduceLT, Nat.reduceLeDiff, Nat.reduceEqDiff, reduceIte, RT, RM, e2, Bool.not_false]
  rw [er]
 rw [decide_eq_true he] at e2
 rw [if_pos ⟨hm1, he⟩] at htb
 simp only [FS, ↓RE, okR, argEnv, Nat.reduceAdd, Nat.reduceSub, Nat.reduceLT, Nat.reduceLeDiff, Nat.reduceEqDiff, reduceIte, RT, RM, q4, w4, w2, c1, c2, c3, show (⟨#[32, 61]⟩ : ByteArray) = bS [32, 61] from rfl, e1, Bool.not_true]
 refine call_of_pure pc rfl ?_
 simp only [FS, ↓RE, okR, argEnv, Nat.reduceAdd, Nat.reduceSub, Nat.reduceLT, Nat.reduceLeDiff, Nat.reduceEqDiff, reduceIte, RT, RM, e2, Bool.not_true]
 have pw := words_t a hal
 have hspl : ∀ p ∈ spl 32 a, p.length ≤ 1000000 := fun p hp => Nat.le_trans (spl_le hp) hal
 dsimp only at htb
 obtain ⟨w0, ws, hws⟩ : ∃ w ws, spl 32 a = w :: ws := by
  cases h : spl 32 a with
  | nil => exact absurd h (spl_ne 32 a)
  | cons p q => exact ⟨p, q, rfl⟩
 rw [hws] at pw hspl htb
 simp only [List.length_cons, List.head?_cons, List.tail_cons, Nat.add_right_cancel_iff, Option.some.injEq] at htb
 refine awp_peel (T := []) oNone_ok (by kernel_rfl) (by kernel_rfl) ?_
 simp only [FS, ↓RE, okR, argEnv, Nat.reduceAdd, Nat.reduceSub, Nat.reduceLT, Nat.reduceLeDiff, Nat.reduceEqDiff, reduceIte, RT, RM, w4, c3]
 refine call_of_pure' pw (by simp [D.ltL, D.lt]) (by simp [D.lt]) ?_
 simp only [FS, ↓RE, okR, argEnv, Nat.reduceAdd, Nat.reduceSub, Nat.reduceLT, Nat.reduceLeDiff, Nat.reduceEqDiff, reduceIte, RT, RM, List.map_cons]
 have wm := wrap_i64 (z := (many : Int) + 1) (by omega) (by omega)
 have ix0 : indexAddrD Tryz.prog [] 147 (.sl (enT.d w0 :: ws.map enT.d)) (.int .i64 0) = some (.ref [stD w0] 0) := tx_ix (ls := w0 :: ws) (i := 0) rfl []
 have e3 : strOp .neq (bS w0) (bS word) = some (.bool (!(decide (w0 = word)))) := s_ne (P := Tryz.prog) 9 w0 word
 refine awp_peel (T := []) oNone_ok (by kernel_rfl) (by kernel_rfl) ?_
 by_cases hlen : ws.length = many
 rotate_left
 ·have er := hno (by rw [htb, if_neg (fun h => hlen h.1)])
  have hne : ((((List.map enT.d ws).length + 1 : Nat) : Int) != (many : Int) + 1) = true := by simp; omega
  simp only [FS, ↓RE, okR, argEnv, Nat.reduceAdd, Nat.reduceSub, Nat.reduceLT, Nat.reduceLeDiff, Nat.reduceEqDiff, reduceIte, RT, RM, wm, hne]
  rw [er]
 have hne : ((((List.map enT.d ws).length + 1 : Nat) : Int) != (many : Int) + 1) = false := by simp; omega
 by_cases hw0 : w0 = word
 rotate_left
 ·have er := hno (by rw [htb, if_neg (fun h => hw0 h.2)])
  rw [decide_eq_false hw0] at e3
  simp only [FS, ↓RE, okR, argEnv, Nat.reduceAdd, Nat.reduceSub, Nat.reduceLT, Nat.reduceLeDiff, Nat.reduceEqDiff, reduceIte, RT, RM, wm, hne, ix0, e3, Bool.not_false]
  rw [er]
 rw [decide_eq_true hw0] at e3
 rw [if_pos ⟨hlen, hw0⟩] at htb
 simp only [FS, ↓RE, okR, argEnv, Nat.reduceAdd, Nat.reduceSub, Nat.reduceLT, Nat.reduceLeDiff, Nat.reduceEqDiff, reduceIte, RT, RM, wm, hne, ix0, e3, Bool.not_true]
 refine awp_peel (T := []) oNone_ok (by kernel_rfl) (by kernel_rfl) ?_
 simp only [FS, ↓RE, okR, argEnv, Nat.reduceAdd, Nat.reduceSub, Nat.reduceLT, Nat.reduceLeDiff, Nat.reduceEqDiff, reduceIte, RT, RM]
 refine awp_peel (T := []) oNone_ok (by kernel_rfl) (by kernel_rfl) ?_
 simp only [FS, ↓RE, okR, argEnv, Nat.reduceAdd, Nat.reduceSub, Nat.reduceLT, Nat.reduceLeDiff, Nat.reduceEqDiff, reduceIte, RT, RM]
 refine loopNil 10 3 1 rfl ?_
 refine loopV (ι := List Int) oNone_ok [(2, [(23, false, false, [])])] (fun xs => [(9, .sl (enT.d w0 :: ws.map enT.d)), (10, .osl 0 xs.length), (11, .int .i64 ((xs.length : Int) + 1))]) (fun xs => [(0, .arr 3 1 (xs.map enI.d))]) 1
  (fun xs => xs.length ≤ ws.length ∧ numsB (ws.take xs.length) = some xs) (fun xs => ws.length - xs.length) [] (by kernel_rfl) (by kernel_rfl) ⟨Nat.zero_le _, rfl⟩ ?_ ?_
 ·simp [headW, heapW, envW, blkLt, D.ltL, D.lt, look, hget, eset_nil, eset_cons, enT]
 rintro xs ⟨hxl, hxs⟩
 have hml : (((List.map enT.d ws).length + 1 : Nat) : Int) = (ws.length : Int) + 1 := by simp
 rcases Nat.lt_or_ge xs.length ws.length with hlt | hge
 ·have hc : ((xs.length : Int) + 1 < (ws.length : Int) + 1) = True := by simp; omega
  obtain ⟨w, hr⟩ : ∃ r, ws[xs.length]? = some r := ⟨ws[xs.length], by simp [hlt]⟩
  have ixw : ∀ h, indexAddrD Tryz.prog h 147 (.sl (enT.d w0 :: ws.map enT.d)) (.int .i64 ((xs.length : Int) + 1)) = some (.ref [stD w] 0) := fun h => tx_ix (ls := w0 :: ws) (i := xs.length + 1) (by simpa using hr) h
  have hwm : w ∈ ws := List.mem_of_getElem? hr
  have hwl := hspl w (by simp [hwm])
  have w3 := wrap_i64 (z := (xs.length : Int) + 1 + 1) (by omega) (by omega)
  have pN := rnumber_t w hwl
  cases hn : numB w with
  | none =>
   have er := hno (by rw [htb]; exact nums_no hwm hn)
   unfold numR at pN
   rw [hn] at pN
   simp only [FS, ↓RE, okR, argEnv, Nat.reduceAdd, Nat.reduceSub, Nat.reduceLT, Nat.reduceLeDiff, Nat.reduceEqDiff, reduceIte, RT, RM, hml, hc, decide_true, ixw]
   refine call_of_pure pN rfl ?_
   simp only [FS, ↓RE, okR, argEnv, Nat.reduceAdd, Nat.reduceSub, Nat.reduceLT, Nat.reduceLeDiff, Nat.reduceEqDiff, reduceIte, RT, RM, Bool.not_false]
   rw [er]
  | some n =>
   unfold numR at pN
   rw [hn] at pN
   have ha := fun h nid (hb : hget h 0 = some (.arr 3 1 (xs.map enI.d))) (hb2 : hget h 1 = some (.arr 3 1 [[.int .i64 n]])) => app_osl (P := Tryz.prog) Fz.und_62 Fz.size_3 Fz.zero_3 rfl (by omega) Fz.bytes_3_62 h nid 0 xs.length 1 1 (xs := [[.int .i64 n]]) hb (List.length_map _).symm hb2 rfl rfl (by simp; omega) (by simp; omega)
   have li := fun h nid => lit_one (P := Tryz.prog) Fz.und_62 Fz.size_3 Fz.zero_3 h nid (.int .i64 n) rfl rfl
   simp only [FS, ↓RE, okR, argEnv, Nat.reduceAdd, Nat.reduceSub, Nat.reduceLT, Nat.reduceLeDiff, Nat.reduceEqDiff, reduceIte, RT, RM, hml, hc, decide_true, ixw]
   refine call_of_pure pN rfl ?_
   simp only [FS, ↓RE, okR, argEnv, Nat.reduceAdd, Nat.reduceSub, Nat.reduceLT, Nat.reduceLeDiff, Nat.reduceEqDiff, reduceIte, RT, RM, Bool.not_true, li, ha, w3]
   refine ⟨xs ++ [n], ⟨by simp; omega, ?_⟩, by simp; omega, ?_⟩
   ·rw [List.length_append, List.length_singleton, List.take_add_one, hr]
    exact nums_snoc hxs hn
   ·simp [headW, heapW, envW, blkLt, D.ltL, D.lt, look, hget, Sx.hset, enI]
 have hc : ((xs.length : Int) + 1 < (ws.length : Int) + 1) = False := by simp; omega
 have hle : xs.length = ws.length := by omega
 rw [hle, List.take_length] at hxs
 rw [htb, hxs] at hR
 simp only [FS, ↓RE, okR, argEnv, Nat.reduceAdd, Nat.reduceSub, Nat.reduceLT, Nat.reduceLeDiff, Nat.reduceEqDiff, reduceIte, RT, RM, hml, hc, decide_false]
 refine awp_rest (T := []) oNone_ok (by kernel_rfl) (by kernel_rfl) ?_
 simp only [FS, ↓RE, okR, argEnv, Nat.reduceAdd, Nat.reduceSub, Nat.reduceLT, Nat.reduceLeDiff, Nat.reduceEqDiff, reduceIte, RT, RM]
 rw [hR]
 simp [view, viewL, hget, viewA]
end Go.Sx
