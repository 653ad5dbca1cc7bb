/- Own work: a calculus of contracts for the programs of this kit: parts SxL5t, SxL6t. -/
import Derived.Test.YtaifjmjooapmhaaGreatSxTh
import Derived.Test.YtaifjmjooapmhaaGreatSxMi
import Derived.Test.YtaifjmjooapmhaaGreatSxCw
import Derived.Test.YtaifjmjooapmhaaGreatSxTa
import Derived.Test.YtaifjmjooapmhaaGreatSxMd
set_option linter.unusedVariables false
set_option linter.unusedSimpArgs false
namespace Go.Sx.L
open Go.Proofs
set_option maxRecDepth 10000

theorem awp_impE {P : Program} {n0 : Nat} {ro : Option Nat} {c : Code} {s : St} {Q : Ex → St → Prop} (h : AWp P n0 ro c s fun e s' => ∃ s2, Imp n0 s' s2 ∧ Q e s2) : AWp P n0 ro c s Q := fun X k0 k a hn hat =>
 wpIn_mono (h X k0 k a hn hat) fun e a' w' ⟨x, k', s', h1, h2, ⟨s2, hi, hq⟩, hat'⟩ => by
  obtain ⟨k2, e2, hat2⟩ := hi X k0 k' a' hn hat'
  exact ⟨x, k2, s2, h1, e2.trans h2, hq, hat2⟩
structure Lg where
 its : List It
 pump : Bool
 fuel : Int
 bl : Int
 bh : Int
 ll : Int
 lh : Int
abbrev Lg.c (l : Lg) : List D := [itD l.its, .bool l.pump, .int .i64 l.fuel, .int .i64 l.bl, .int .i64 l.bh, .int .i64 l.ll, .int .i64 l.lh]
def rowsP (l : List Pt) : List (List D) := l.map Pt.c
theorem rowsP_len (l : List Pt) : (rowsP l).length = l.length := by simp [rowsP]
def plH (p : Pl) (fl fh a b c d : Int) (rows : List Pt) : H := [(5, .arr 161 5 (rowsP rows)), (4, .box [.int .i64 c, .int .i64 d]), (3, .box [.int .i64 a, .int .i64 b]), (2, .box [.osl 5 rows.length]), (1, .box [.int .i64 fl, .int .i64 fh]), (0, .box p.c)]
def ptOf (p : Pl) (l : Lg) (a b c d : Int) (lg : Bool) : Pt := ⟨l.its, a, b, List.replicate p.fl.length (c, d), lg⟩
def itL (l : List It) : List (List D) := l.map It.c
theorem itL_ok (l : List It) : okSrc 3 (itL l) = true := by simp [okSrc, itL, D.ltL, D.lt, oneD]
theorem itL_len (l : List It) : (itL l).length = l.length := by simp [itL]
def prL (l : List (Int × Int)) : List (List D) := l.map fun p => [.int .i64 p.1, .int .i64 p.2]
theorem prL_len (l : List (Int × Int)) : (prL l).length = l.length := by simp [prL]
set_option maxHeartbeats 1000000 in
theorem add_t (p : Pl) (hf : p.fl.length ≤ 1000) (l : Lg) (hi : l.its.length ≤ 1000) (fl fh a b c d : Int) (rows : List Pt) (hr : rows.length ≤ 1000) (lg : Bool) :
  ACall Tryz.prog 97 [.agg l.c, .bool lg, .ptr 3 0, .ptr 0 0, .ptr 4 0, .ptr 2 0] ((6, .box l.c) :: plH p fl fh a b c d rows) 7 fun r h nid =>
   r = .tup [] ∧ h = (6, .box l.c) :: plH p fl fh a b c d (rows ++ [ptOf p l a b c d lg]) ∧ nid = 7 := by
 have hlF := fun h => (show lenOpD Tryz.prog h 71 (prD p.fl) = some (.int .i64 (p.fl.length : Int)) by rw [prD, len_sl Fz.und_71, List.length_map])
 have a1 := fun h nid => app_nils (P := Tryz.prog) Fz.und_132 Fz.size_131 Fz.zero_131 rfl (by omega) Fz.bytes_131_132 h nid (x := itD l.its) (xs := itL l.its) rfl (itL_ok l.its) (by rw [itL_len]; omega) (by rw [itL_len]; omega)
 rw [itL_len] at a1
 unfold plH
 refine acall_of_pieces (rs := []) (m := 34) [] oNone_ok (by kernel_rfl) Tryz.func97 rfl (by kernel_rfl) rfl rfl (by kernel_rfl) ?_
 refine awp_peel (T := []) oNone_ok (by kernel_rfl) (by kernel_rfl) ?_
 simp only [FS, ↓RE, okR, argEnv, Nat.reduceAdd, Nat.reduceSub, Nat.reduceLT, Nat.reduceLeDiff, Nat.reduceEqDiff, reduceIte, RT, RM]
 refine awp_peel (T := []) oNone_ok (by kernel_rfl) (by kernel_rfl) ?_
 simp only [FS, ↓RE, okR, argEnv, Nat.reduceAdd, Nat.reduceSub, Nat.reduceLT, Nat.reduceLeDiff, Nat.reduceEqDiff, reduceIte, RT, RM]
 refine awp_peel (T := []) oNone_ok (by kernel_rfl) (by kernel_rfl) ?_
 simp only [FS, ↓RE, okR, argEnv, Nat.reduceAdd, Nat.reduceSub, Nat.reduceLT, Nat.reduceLeDiff, Nat.reduceEqDiff, reduceIte, RT, RM, a1, itL_len, decide_true]
 refine awp_peel (T := []) oNone_ok (by kernel_rfl) (by kernel_rfl) ?_
 simp only [FS, ↓RE, okR, argEnv, Nat.reduceAdd, Nat.reduceSub, Nat.reduceLT, Nat.reduceLeDiff, Nat.reduceEqDiff, reduceIte, RT, RM, hlF]
 refine loopNilB 8 3 [.osl 9 l.its.length, .int .i64 a, .int .i64 b, .nils, .bool lg] 52 2 rfl rfl ?_
 refine loopV (ι := Nat) oNone_ok [] (fun k => [(2, .ptr 3 0), (3, .ptr 0 0), (4, .ptr 4 0), (5, .ptr 2 0), (8, .ptr 8 0), (20, .int .i64 (p.fl.length : Int)), (21, .int .i64 (k : Int))])
  (fun k => [(10, .arr 52 2 (prL (List.replicate k (c, d)))), (9, .arr 131 3 (itL l.its)), (8, .box [.osl 9 l.its.length, .int .i64 a, .int .i64 b, .osl 10 k, .bool lg]), (6, .box l.c), (5, .arr 161 5 (rowsP rows)), (4, .box [.int .i64 c, .int .i64 d]), (3, .box [.int .i64 a, .int .i64 b]), (2, .box [.osl 5 rows.length]), (1, .box [.int .i64 fl, .int .i64 fh]), (0, .box p.c)])
  11 (fun k => k ≤ p.fl.length) (fun k => p.fl.length - k) 0 (by kernel_rfl) (by kernel_rfl) (Nat.zero_le _) ?_ ?_
 ·simp [headW, heapW, envW, blkLt, D.ltL, D.lt, look, hget, Sx.hset, prD, itD, prL]
 intro k hk
 rcases Nat.lt_or_ge k p.fl.length with hlt | hge
 ·have hc : ((k : Int) < (p.fl.length : Int)) = True := by simp [hlt]
  have w1 : IntKind.i64.wrap ((k : Int) + 1) = ((k + 1 : Nat) : Int) := by rw [wrap_i64 (by omega) (by omega)]; simp
  have hd := fun h nid => lit_agg (P := Tryz.prog) Fz.und_22 Fz.size_52 Fz.zero_52 rfl (by omega) (by omega) h nid [.int .i64 c, .int .i64 d] rfl rfl
  have ha := fun h (hb : hget h 10 = some (.arr 52 2 (prL (List.replicate k (c, d))))) (hb2 : hget h 11 = some (.arr 52 2 [[.int .i64 c, .int .i64 d]])) => app_osl (P := Tryz.prog) Fz.und_22 Fz.size_52 Fz.zero_52 rfl (by omega) Fz.bytes_52_22 h 12 10 k 11 1 (es := prL (List.replicate k (c, d))) (xs := [[.int .i64 c, .int .i64 d]]) hb (by rw [prL_len]; simp) hb2 rfl rfl (by rw [prL_len]; simp; omega) (by rw [prL_len]; simp; omega)
  have hsn : prL (List.replicate (k + 1) (c, d)) = prL (List.replicate k (c, d)) ++ [[.int .i64 c, .int .i64 d]] := by rw [List.replicate_succ', prL, List.map_append]; rfl
  simp only [FS, ↓RE, okR, argEnv, Nat.reduceAdd, Nat.reduceSub, Nat.reduceLT, Nat.reduceLeDiff, Nat.reduceEqDiff, reduceIte, RT, RM, hc, decide_true, w1, hd, ha, cells_osl, cur_osl, curC_arr, prL_len, List.length_append, List.length_singleton, List.length_replicate]
  exact ⟨k + 1, by omega, by omega, by rw [hsn]; simp [headW, heapW, envW, blkLt, D.ltL, D.lt, look, hget, Sx.hset, prD, itD]⟩
 have hc : ((k : Int) < (p.fl.length : Int)) = False := by simp; omega
 have hke : k = p.fl.length := by omega
 subst hke
 simp only [FS, ↓RE, okR, argEnv, Nat.reduceAdd, Nat.reduceSub, Nat.reduceLT, Nat.reduceLeDiff, Nat.reduceEqDiff, reduceIte, RT, RM, hc, decide_false]
 refine awp_imp (imp_thaw 9 (imp_thaw 10 (.weak (weak_of (e := [(5, .ptr 2 0), (8, .ptr 8 0)])
  (h := [(8, .box (ptOf p l a b c d lg).c), (6, .box l.c), (5, .arr 161 5 (rowsP rows)), (4, .box [.int .i64 c, .int .i64 d]), (3, .box [.int .i64 a, .int .i64 b]), (2, .box [.osl 5 rows.length]), (1, .box [.int .i64 fl, .int .i64 fh]), (0, .box p.c)]) (nid := 11) (n := 34) ?_)))) ?_
 ·simp [headW, heapW, envW, blkLt, D.ltL, D.lt, look, hget, Sx.hset, frzHH, herase, frzBlk, frzD, prD, itD, ptOf, itL, prL]
 have hX : (ptOf p l a b c d lg).c = [itD l.its, .int .i64 a, .int .i64 b, prD (List.replicate p.fl.length (c, d)), .bool lg] := rfl
 have hsn : rowsP (rows ++ [ptOf p l a b c d lg]) = rowsP rows ++ [[itD l.its, .int .i64 a, .int .i64 b, prD (List.replicate p.fl.length (c, d)), .bool lg]] := by simp [rowsP, ptOf]
 rw [hX]
 have hd := fun h nid => lit_agg (P := Tryz.prog) Fz.und_158 Fz.size_161 Fz.zero_161 rfl (by omega) (by omega) h nid [itD l.its, .int .i64 a, .int .i64 b, prD (List.replicate p.fl.length (c, d)), .bool lg] rfl rfl
 have ha := fun h (hb : hget h 5 = some (.arr 161 5 (rowsP rows))) (hb2 : hget h 11 = some (.arr 161 5 [[itD l.its, .int .i64 a, .int .i64 b, prD (List.replicate p.fl.length (c, d)), .bool lg]])) => app_osl (P := Tryz.prog) Fz.und_158 Fz.size_161 Fz.zero_161 rfl (by omega) Fz.bytes_161_158 h 12 5 rows.length 11 1 (es := rowsP rows) (xs := [[itD l.its, .int .i64 a, .int .i64 b, prD (List.replicate p.fl.length (c, d)), .bool lg]]) hb (rowsP_len rows).symm hb2 rfl rfl (by rw [rowsP_len]; simp; omega) (by rw [rowsP_len]; simp; omega)
 refine awp_impE (awp_rest (T := []) oNone_ok (by kernel_rfl) (by kernel_rfl) ?_)
 simp only [FS, ↓RE, okR, argEnv, Nat.reduceAdd, Nat.reduceSub, Nat.reduceLT, Nat.reduceLeDiff, Nat.reduceEqDiff, reduceIte, RT, RM, hd, ha, cells_osl, cur_osl, curC_arr, rowsP_len, List.length_append, List.length_singleton, decide_true]
 refine ⟨⟨[], [(6, .box l.c), (5, .arr 161 5 (rowsP rows ++ [[itD l.its, .int .i64 a, .int .i64 b, prD (List.replicate p.fl.length (c, d)), .bool lg]])), (4, .box [.int .i64 c, .int .i64 d]), (3, .box [.int .i64 a, .int .i64 b]), (2, .box [.osl 5 (rows.length + 1)]), (1, .box [.int .i64 fl, .int .i64 fh]), (0, .box p.c)], 7, 34⟩, .weak (weak_of ?_), ?_⟩
 ·simp [headW, heapW, envW, blkLt, D.ltL, D.lt, look, hget, prD, itD]
 ·rw [hsn]
  exact ⟨rfl, rfl, rfl⟩
theorem cur_it (h : H) (l : List It) : curD h (itD l) = true := (rfl)
structure Ts where
 a : Int
 b : Int
 c : Int
 d : Int
 rows : List Pt
def addT (p : Pl) (l : Lg) (lg : Bool) (z : Ts) : Ts := { z with rows := z.rows ++ [ptOf p l z.a z.b z.c z.d lg] }
def legS (p : Pl) (z : Ts) (l : Lg) : Ts :=
 let z1 : Ts := if l.pump then { z with c := 0, d := 0 } else z
 let z2 : Ts := addT p l false { z1 with a := wr (z1.a + l.fuel), b := wr (z1.b + l.fuel) }
 addT p l true { z2 with a := wr (z2.a - l.bh), b := wr (z2.b - l.bl), c := wr (z2.c + l.ll), d := wr (z2.d + l.lh) }
def legsF (p : Pl) (fl fh : Int) (ls : List Lg) : Ts := ls.foldl (legS p) ⟨fl, fh, 0, 0, []⟩
def pointsF (p : Pl) (fl fh : Int) (ls : List Lg) : List Pt := (legsF p fl fh ls).rows
def lgD (ls : List Lg) : D := .sl (ls.map Lg.c)
def lAt (ls : List Lg) (i : Nat) : Lg := ls.getD i ⟨[], false, 0, 0, 0, 0, 0⟩
theorem lg_at {ls : List Lg} {i : Nat} (hi : i < ls.length) : (ls.map Lg.c)[i]? = some (lAt ls i).c := by simp [lAt, hi, List.getD]
theorem legs_len (p : Pl) : ∀ (ls : List Lg) (z : Ts), (ls.foldl (legS p) z).rows.length = z.rows.length + 2 * ls.length
 | [], z => by simp
 | l :: ls, z => by
  rw [List.foldl_cons, legs_len p ls]
  simp only [legS, addT]
  cases l.pump <;> simp <;> omega
theorem legs_snoc (p : Pl) (fl fh : Int) {ls : List Lg} {i : Nat} (hi : i < ls.length) : legsF p fl fh (ls.take (i + 1)) = legS p (legsF p fl fh (ls.take i)) (lAt ls i) := by
 have : ls.take (i + 1) = ls.take i ++ [lAt ls i] := by rw [List.take_add_one]; simp [lAt, hi, List.getD]
 rw [this]
 simp [legsF]
set_option maxHeartbeats 1000000 in
theorem points_t (p : Pl) (hf : p.fl.length ≤ 1000) (fl fh : Int) (ls : List Lg) (hl : ls.length ≤ 400) (hi : ∀ l ∈ ls, l.its.length ≤ 1000) :
  Pure Tryz.prog 72 [.agg p.c, .agg [.int .i64 fl, .int .i64 fh], lgD ls] (.sl (rowsP (pointsF p fl fh ls))) := by
 have hlL := fun h => (show lenOpD Tryz.prog h 77 (lgD ls) = some (.int .i64 (ls.length : Int)) by rw [lgD, len_sl Fz.und_77, List.length_map])
 refine pure_of_wc (rs := [.tmp 6]) (m := 70) [] oNone_ok (by kernel_rfl) Tryz.func72 rfl (by kernel_rfl) rfl rfl (by kernel_rfl) ?_
 simp only [FS, ↓RE, okR, argEnv, Nat.reduceAdd, Nat.reduceSub, Nat.reduceLT, Nat.reduceLeDiff, Nat.reduceEqDiff, reduceIte, RT, RM, hlL]
 refine loopNilB 2 0 [.nils] 161 5 rfl rfl ?_
 refine loopV (ι := Nat) oNone_ok [] (fun i => [(3, .ptr 0 0), (7, .ptr 2 0), (8, .ptr 3 0), (9, .ptr 4 0), (10, .fn (.func 97) [] [.ptr 3 0, .ptr 0 0, .ptr 4 0, .ptr 2 0]), (16, lgD ls), (17, .int .i64 (ls.length : Int)), (18, .int .i64 (i : Int))])
  (fun i => plH p fl fh (legsF p fl fh (ls.take i)).a (legsF p fl fh (ls.take i)).b (legsF p fl fh (ls.take i)).c (legsF p fl fh (ls.take i)).d (legsF p fl fh (ls.take i)).rows)
  6 (fun i => i ≤ ls.length) (fun i => ls.length - i) 0 (by kernel_rfl) (by kernel_rfl) (Nat.zero_le _) ?_ ?_
 ·simp [headW, heapW, envW, blkLt, D.ltL, D.lt, look, hget, Sx.hset, prD, itD, lgD, plH, legsF, rowsP]
 intro i hil
 rcases Nat.lt_or_ge i ls.length with hlt | hge
 ·have hc : ((i : Int) < (ls.length : Int)) = True := by simp [hlt]
  have w1 : IntKind.i64.wrap ((i : Int) + 1) = ((i + 1 : Nat) : Int) := by rw [wrap_i64 (by omega) (by omega)]; simp
  have ix1 : ∀ h, indexAddrD Tryz.prog h 77 (lgD ls) (.int .i64 (i : Int)) = some (.ref (lAt ls i).c 0) := fun h => ix_sl Fz.und_77 Fz.size_134 (lg_at hlt) rfl h .i64
  have hsn := legs_snoc p fl fh hlt
  have hll : (legsF p fl fh (ls.take i)).rows.length ≤ 800 := by
   have := legs_len p (ls.take i) ⟨fl, fh, 0, 0, []⟩
   unfold legsF; rw [this]; simp; omega
  have hia := hi (lAt ls i) (by simp [lAt, hlt, List.getD])
  generalize lAt ls i = l at *
  generalize legsF p fl fh (ls.take i) = z at *
  obtain ⟨a, b, c, d, rows⟩ := z
  obtain ⟨its, pu, fu, bl, bh, ll, lh⟩ := l
  dsimp only at hll hia ⊢
  simp only [plH]
  cases pu
  ·simp only [FS, ↓RE, okR, argEnv, Nat.reduceAdd, Nat.reduceSub, Nat.reduceLT, Nat.reduceLeDiff, Nat.reduceEqDiff, reduceIte, RT, RM, hc, decide_true, w1, ix1, cur_it, true_and]
   refine call_of_acall ((add_t p hf ⟨its, false, fu, bl, bh, ll, lh⟩ hia fl fh (IntKind.i64.wrap (a + fu)) (IntKind.i64.wrap (b + fu)) c d rows (by omega) false).mono ?_)
   rintro r h' n' ⟨rfl, rfl, rfl⟩
   simp only [plH]
   simp only [FS, ↓RE, okR, argEnv, Nat.reduceAdd, Nat.reduceSub, Nat.reduceLT, Nat.reduceLeDiff, Nat.reduceEqDiff, reduceIte, RT, RM]
   refine call_of_acall ((add_t p hf ⟨its, false, fu, bl, bh, ll, lh⟩ hia fl fh (IntKind.i64.wrap (IntKind.i64.wrap (a + fu) - bh)) (IntKind.i64.wrap (IntKind.i64.wrap (b + fu) - bl)) (IntKind.i64.wrap (c + ll)) (IntKind.i64.wrap (d + lh)) (rows ++ [ptOf p ⟨its, false, fu, bl, bh, ll, lh⟩ (IntKind.i64.wrap (a + fu)) (IntKind.i64.wrap (b + fu)) c d false]) (by simp; omega) true).mono ?_)
   rintro r h' n' ⟨rfl, rfl, rfl⟩
   simp only [plH]
   simp only [FS, ↓RE, okR, argEnv, Nat.reduceAdd, Nat.reduceSub, Nat.reduceLT, Nat.reduceLeDiff, Nat.reduceEqDiff, reduceIte, RT, RM, w1]
   refine ⟨i + 1, by omega, by omega, ?_⟩
   rw [hsn]
   simp [headW, heapW, envW, blkLt, D.ltL, D.lt, look, hget, Sx.hset, prD, itD, lgD, plH, legS, addT, wr]
  ·simp only [FS, ↓RE, okR, argEnv, Nat.reduceAdd, Nat.reduceSub, Nat.reduceLT, Nat.reduceLeDiff, Nat.reduceEqDiff, reduceIte, RT, RM, hc, decide_true, w1, ix1, cur_it, true_and]
   refine call_of_acall ((add_t p hf ⟨its, true, fu, bl, bh, ll, lh⟩ hia fl fh (IntKind.i64.wrap (a + fu)) (IntKind.i64.wrap (b + fu)) 0 0 rows (by omega) false).mono ?_)
   rintro r h' n' ⟨rfl, rfl, rfl⟩
   simp only [plH]
   simp only [FS, ↓RE, okR, argEnv, Nat.reduceAdd, Nat.reduceSub, Nat.reduceLT, Nat.reduceLeDiff, Nat.reduceEqDiff, reduceIte, RT, RM]
   refine call_of_acall ((add_t p hf ⟨its, true, fu, bl, bh, ll, lh⟩ hia fl fh (IntKind.i64.wrap (IntKind.i64.wrap (a + fu) - bh)) (IntKind.i64.wrap (IntKind.i64.wrap (b + fu) - bl)) (IntKind.i64.wrap (0 + ll)) (IntKind.i64.wrap (0 + lh)) (rows ++ [ptOf p ⟨its, true, fu, bl, bh, ll, lh⟩ (IntKind.i64.wrap (a + fu)) (IntKind.i64.wrap (b + fu)) 0 0 false]) (by simp; omega) true).mono ?_)
   rintro r h' n' ⟨rfl, rfl, rfl⟩
   simp only [plH]
   simp only [FS, ↓RE, okR, argEnv, Nat.reduceAdd, Nat.reduceSub, Nat.reduceLT, Nat.reduceLeDiff, Nat.reduceEqDiff, reduceIte, RT, RM, w1]
   refine ⟨i + 1, by omega, by omega, ?_⟩
   rw [hsn]
   simp [headW, heapW, envW, blkLt, D.ltL, D.lt, look, hget, Sx.hset, prD, itD, lgD, plH, legS, addT, wr]
 have hc : ((i : Int) < (ls.length : Int)) = False := by simp; omega
 have hie : i = ls.length := by omega
 subst hie
 simp only [plH]
 simp only [FS, ↓RE, okR, argEnv, Nat.reduceAdd, Nat.reduceSub, Nat.reduceLT, Nat.reduceLeDiff, Nat.reduceEqDiff, reduceIte, RT, RM, hc, decide_false]
 rw [List.take_length]
 simp [viewA, rowsP_len, pointsF]
end Go.Sx.L

namespace Go.Sx.L
open Go.Proofs
set_option maxRecDepth 10000

def tblO : List (FuncId × List D × D) → Oracle
 | [], _, _ => none
 | (g, a, r) :: t, f, ds => if f = g then (if D.sameL ds a then some r else tblO t f ds) else tblO t f ds
theorem tblO_ok {P : Program} : ∀ {l : List (FuncId × List D × D)}, (∀ e ∈ l, Pure P e.1 e.2.1 e.2.2) → OkO P (tblO l)
 | [], _, f, ds, r, h => by simp [tblO] at h
 | (g, a, q) :: t, hl, f, ds, r, h => by
  have ih := tblO_ok (l := t) (fun e he => hl e (List.mem_cons_of_mem _ he)) f ds r
  simp only [tblO] at h
  split at h
  ·rename_i hf
   subst hf
   split at h
   ·rename_i hs
    cases h
    rw [D.sameL_eq hs]
    exact hl _ (List.mem_cons_self ..)
   ·exact ih h
  ·exact ih h
def pK : Pl := ⟨1000, 100000, 2000, 1900, [(1000, 95000), (2000, 190000), (2000, 230000), (1000, 115000)], [(90, 200), (200, 300)], 120, 200, 40, [(100, 50), (100, 50)]⟩
def tK : List Lg := [⟨[⟨0, 70, 90⟩, ⟨1, 100, 140⟩], false, 0, 30, 40, 0, 5⟩, ⟨[⟨0, 70, 90⟩], false, 0, 60, 80, 0, 5⟩]
def tabL : List (Nat × List (Nat × List Ann)) := [(18, [(4, [(8, false, false, [])])]), (47, []), (48, []), (49, []), (50, [(1, [(8, false, false, [])])]), (51, []), (70, []), (71, []), (72, []), (73, []), (74, []), (86, []), (87, []), (88, []), (89, []), (90, []), (91, []), (92, []), (93, []), (94, []), (95, []), (96, []), (97, []), (98, []), (99, []), (100, [(5, [(15, false, false, [])])]), (101, [(1, [(9, false, false, [])])]), (102, [(4, [(8, false, false, [])])]), (103, []), (109, []), (110, []), (111, []), (112, []), (113, []), (114, []), (115, [(4, [(14, false, false, [])])]), (116, []), (117, []), (120, [(3, [(13, true, false, []), (1, false, false, [])])]), (121, []), (122, []), (124, [(3, [(16, false, false, [])]), (9, [(14, false, false, [])])])] ++ [(19, [])] ++ [(20, [])]
theorem tabL_ok : (tabL.all fun p => bodyOk Tryz.prog p.1 p.2) = true := by kernel_rfl
theorem lawP_t : Pure Tryz.prog 19 [] (.agg pK.c) := pure_of_ev (fuel := 1000) (n := 20) (by kernel_rfl) tabL_ok orC_ok oNone_ok (by kernel_rfl)
theorem lawT_t : Pure Tryz.prog 20 [] (lgD tK) := by
 have l1 : ∀ h nid, litOpD Tryz.prog h nid 132 2 [(0, .agg [.int .i64 0, .int .i64 70, .int .i64 90]), (1, .agg [.int .i64 1, .int .i64 100, .int .i64 140])] = some (.osl nid 2, (nid, .arr 131 3 [[.int .i64 0, .int .i64 70, .int .i64 90], [.int .i64 1, .int .i64 100, .int .i64 140]]) :: h, nid + 1) := fun h nid => by kernel_rfl
 refine pure_of_pieces (rs := [.tmp 0]) (m := 17) [] oNone_ok (by kernel_rfl) Tryz.func20 rfl (by kernel_rfl) rfl rfl (by kernel_rfl) ?_
 refine awp_peel (T := []) oNone_ok (by kernel_rfl) (by kernel_rfl) ?_
 simp only [FS, ↓RE, okR, argEnv, Nat.reduceAdd, Nat.reduceSub, Nat.reduceLT, Nat.reduceLeDiff, Nat.reduceEqDiff, reduceIte, RT, RM]
 refine awp_peel (T := []) oNone_ok (by kernel_rfl) (by kernel_rfl) ?_
 simp only [FS, ↓RE, okR, argEnv, Nat.reduceAdd, Nat.reduceSub, Nat.reduceLT, Nat.reduceLeDiff, Nat.reduceEqDiff, reduceIte, RT, RM, l1]
 refine awp_imp (imp_view (e := [(1, .sl [[.int .i64 0, .int .i64 70, .int .i64 90], [.int .i64 1, .int .i64 100, .int .i64 140]])]) (h' := []) (nid' := 0) (n' := 17) ?_) ?_
 ·simp [headW, heapW, envW, blkLt, D.ltL, D.lt, look, hget, view, viewA]
 refine awp_rest (T := []) oNone_ok (by kernel_rfl) (by kernel_rfl) ?_
 have s1 : sliceD Tryz.prog 132 (.sl [[.int .i64 0, .int .i64 70, .int .i64 90], [.int .i64 1, .int .i64 100, .int .i64 140]]) none (some (.int .i64 1)) = some (.sl [[.int .i64 0, .int .i64 70, .int .i64 90]]) := by kernel_rfl
 have l2 : ∀ h nid, litOpD Tryz.prog h nid 77 2 [(0, .agg [.sl [[.int .i64 0, .int .i64 70, .int .i64 90], [.int .i64 1, .int .i64 100, .int .i64 140]], .bool false, .int .i64 0, .int .i64 30, .int .i64 40, .int .i64 0, .int .i64 5]), (1, .agg [.sl [[.int .i64 0, .int .i64 70, .int .i64 90]], .bool false, .int .i64 0, .int .i64 60, .int .i64 80, .int .i64 0, .int .i64 5])] = some (.osl nid 2, (nid, .arr 134 7 [[.sl [[.int .i64 0, .int .i64 70, .int .i64 90], [.int .i64 1, .int .i64 100, .int .i64 140]], .bool false, .int .i64 0, .int .i64 30, .int .i64 40, .int .i64 0, .int .i64 5], [.sl [[.int .i64 0, .int .i64 70, .int .i64 90]], .bool false, .int .i64 0, .int .i64 60, .int .i64 80, .int .i64 0, .int .i64 5]]) :: h, nid + 1) := fun h nid => by kernel_rfl
 simp only [FS, ↓RE, okR, argEnv, Nat.reduceAdd, Nat.reduceSub, Nat.reduceLT, Nat.reduceLeDiff, Nat.reduceEqDiff, reduceIte, RT, RM, s1, l2]
 rfl
def ptsK (n : Int) : List Pt := pointsF pK n n tK
theorem pts_ok (n : Int) : ∀ x ∈ ptsK n, PtOk pK x := by
 intro x hx
 have e : ptsK n = [ptOf pK ⟨[⟨0, 70, 90⟩, ⟨1, 100, 140⟩], false, 0, 30, 40, 0, 5⟩ (wr (n + 0)) (wr (n + 0)) 0 0 false,
  ptOf pK ⟨[⟨0, 70, 90⟩, ⟨1, 100, 140⟩], false, 0, 30, 40, 0, 5⟩ (wr (wr (n + 0) - 40)) (wr (wr (n + 0) - 30)) (wr (0 + 0)) (wr (0 + 5)) true,
  ptOf pK ⟨[⟨0, 70, 90⟩], false, 0, 60, 80, 0, 5⟩ (wr (wr (wr (n + 0) - 40) + 0)) (wr (wr (wr (n + 0) - 30) + 0)) (wr (0 + 0)) (wr (0 + 5)) false,
  ptOf pK ⟨[⟨0, 70, 90⟩], false, 0, 60, 80, 0, 5⟩ (wr (wr (wr (wr (n + 0) - 40) + 0) - 80)) (wr (wr (wr (wr (n + 0) - 30) + 0) - 60)) (wr (wr (0 + 0) + 0)) (wr (wr (0 + 5) + 5)) true] := rfl
 rw [e] at hx
 simp only [List.mem_cons, List.not_mem_nil, or_false] at hx
 rcases hx with rfl | rfl | rfl | rfl <;> exact ⟨by simp [ptOf], by simp [ptOf, pK], by simp [ptOf, pK]⟩
def entB (n : Int) : List (FuncId × List D × D) :=
 (72, [.agg pK.c, .agg [.int .i64 n, .int .i64 n], lgD tK], .sl (rowsP (ptsK n))) ::
  (ptsK n).map (fun x => (115, [.agg (pc pK x)], .agg [.int .i64 (boundsF pK x).a, .int .i64 (boundsF pK x).b, .int .i64 (boundsF pK x).c, .int .i64 (boundsF pK x).d])) ++
  (ptsK n).map (fun x => (102, [.agg (pc pK x)], .sl (boL (outF pK x))))
theorem entB_ok (n : Int) : ∀ e ∈ entB n, Pure Tryz.prog e.1 e.2.1 e.2.2 := by
 intro e he
 simp only [entB, List.cons_append, List.mem_cons, List.mem_append, List.mem_map] at he
 rcases he with rfl | ⟨x, hx, rfl⟩ | ⟨x, hx, rfl⟩
 ·exact points_t pK (by decide) n n tK (by decide) (by decide)
 ·exact bounds_t pK x (pts_ok n x hx)
 ·exact out_t pK x (pts_ok n x hx) (by decide)
def bK (n : Int) : List Bool := (ptsK n).flatMap fun x =>
 (List.range 2).map (fun i => decide (pAtI pK.st i < sumI x.its i)) ++ [decide (200 < x.th)] ++ (List.range x.wt.length).map (fun i => decide ((pAt pK.fl i).2 < (pAt x.wt i).2)) ++ [decide ((if x.lg then pK.ld else pK.tk) < (boundsF pK x).b)] ++ outF pK x ++ [x.lg && decide (x.tl < 40)]
where
 pAtI (l : List (Int × Int)) (i : Nat) : Int := (pAt l i).2
 sumI (l : List It) (i : Nat) : Int := (l.filter fun x => x.s == (i : Int)).foldl (fun n x => n + x.hi) 0
end Go.Sx.L
