/- Own work: contracts of functions, used in the proof of a law. -/
import Derived.Test.YtljkgnicmlhipaaGreatSxWkv
set_option linter.unusedVariables false
set_option linter.unusedSimpArgs false
namespace Go.Sx
open Go.Proofs
set_option maxRecDepth 10000

set_option maxHeartbeats 4000000 in
theorem Sweep_t (s : SkyW) (hb : BL s.sh) (frm : Int) (l : List Int) (hl : BL l) : Pure Tryz.prog 23 [.agg s.c, .int .i64 frm, inD l] (SweepR s frm l) := by
 have oS := gSky_eq s
 have oF := gFree_eq hb frm
 have p1 := fun c => sweep1_t s hb c
 by_cases h8 : 8 < l.length
 ·have q : decide ((8 : Int) < (l.length : Int)) = true := by simp; omega
  unfold SweepR
  rw [if_pos h8]
  obtain ⟨w, d, sh⟩ := s
  simp only [SkyW.c] at *
  refine pure_of_pieces (rs := [.tmp 6, .tmp 7]) (m := 103) [(12, [(7, false, false, [])])] e13_ok (by kernel_rfl) Tryz.func23 rfl (by kernel_rfl) rfl rfl (by kernel_rfl) ?_
  refine awp_peel (T := [(12, [(7, false, false, [])])]) e13_ok (by kernel_rfl) (by kernel_rfl) ?_
  simp only [RT, FS, ↓RE, okR, argEnv, Nat.reduceAdd, Nat.reduceSub, Nat.reduceLT, Nat.reduceLeDiff, Nat.reduceEqDiff, reduceIte, RM]
  refine awp_scope ?_
  refine awp_peel (T := [(12, [(7, false, false, [])])]) e13_ok (by kernel_rfl) (by kernel_rfl) ?_
  simp only [RT, FS, ↓RE, okR, argEnv, Nat.reduceAdd, Nat.reduceSub, Nat.reduceLT, Nat.reduceLeDiff, Nat.reduceEqDiff, reduceIte, RM, List.length_map, q]
 have q8 : decide ((8 : Int) < (l.length : Int)) = false := by simp; omega
 unfold SweepR
 rw [if_neg h8]
 have pc := wci_has l (inD l) (En.sl_map (E := enI) l) 55 [.ref s.c 0] (fun c => !freeB s.sh c) hl (fun m => by simp [D.ltL, D.lt]) (fun h => by simp [viewL, view]) (fun c _ => p1 c)
 have hbad : sweepB s frm l = false → Pure Tryz.prog 23 [.agg s.c, .int .i64 frm, inD l] (.tup [.nils, .int .i64 2]) := by
  intro hB
  unfold sweepB at hB
  generalize (l.any fun c => !freeB s.sh c) = A at *
  generalize skyB s = B at *
  generalize freeB s.sh frm = F at *
  obtain ⟨w, d, sh⟩ := s
  simp only [SkyW.c] at *
  refine pure_of_pieces (rs := [.tmp 6, .tmp 7]) (m := 103) [(12, [(7, false, false, [])])] e13_ok (by kernel_rfl) Tryz.func23 rfl (by kernel_rfl) rfl rfl (by kernel_rfl) ?_
  refine awp_peel (T := [(12, [(7, false, false, [])])]) e13_ok (by kernel_rfl) (by kernel_rfl) ?_
  simp only [RT, FS, ↓RE, okR, argEnv, Nat.reduceAdd, Nat.reduceSub, Nat.reduceLT, Nat.reduceLeDiff, Nat.reduceEqDiff, reduceIte, RM]
  refine awp_scope ?_
  refine awp_peel (T := [(12, [(7, false, false, [])])]) e13_ok (by kernel_rfl) (by kernel_rfl) ?_
  simp only [RT, FS, ↓RE, okR, argEnv, Nat.reduceAdd, Nat.reduceSub, Nat.reduceLT, Nat.reduceLeDiff, Nat.reduceEqDiff, reduceIte, RM, List.length_map, q8]
  refine awp_peel (T := [(12, [(7, false, false, [])])]) e13_ok (by kernel_rfl) (by kernel_rfl) ?_
  cases B
  ·simp only [RT, FS, ↓RE, okR, argEnv, Nat.reduceAdd, Nat.reduceSub, Nat.reduceLT, Nat.reduceLeDiff, Nat.reduceEqDiff, reduceIte, RM, List.length_map, oS, Bool.not_false]
  cases F
  ·simp only [RT, FS, ↓RE, okR, argEnv, Nat.reduceAdd, Nat.reduceSub, Nat.reduceLT, Nat.reduceLeDiff, Nat.reduceEqDiff, reduceIte, RM, List.length_map, oS, oF, Bool.not_true, Bool.not_false]
  cases A
  ·simp at hB
  simp only [RT, FS, ↓RE, okR, argEnv, Nat.reduceAdd, Nat.reduceSub, Nat.reduceLT, Nat.reduceLeDiff, Nat.reduceEqDiff, reduceIte, RM, List.length_map, oS, oF, Bool.not_true, Bool.not_false]
  refine call_of_pure pc rfl ?_
  simp only [RT, FS, ↓RE, okR, argEnv, Nat.reduceAdd, Nat.reduceSub, Nat.reduceLT, Nat.reduceLeDiff, Nat.reduceEqDiff, reduceIte, RM, List.length_map, oS, oF, Bool.not_true, Bool.not_false]
 cases hB : sweepB s frm l
 ·rw [if_neg (by simp)]; exact hbad hB
 rw [if_pos rfl]
 unfold sweepB at hB
 simp only [Bool.and_eq_true] at hB
 obtain ⟨b1, b2, b3⟩ := hB
 rw [b1] at oS
 rw [b2] at oF
 have b3' : (l.any fun c => !freeB s.sh c) = false := by simpa using b3
 rw [b3'] at pc
 have hs := sky_ok b1
 have hle := hs.le
 have p2 := fun c b (hbb : b < 2 ^ l.length) => sweep2_t l (by omega) c b hbb
 have pn := fun c => neighbours_t s c
 have pq := fun c (hc : InS s c) => nb_seq hs hc
 have hlt := nb_lt s
 have hp8 := pow_lt8 (n := l.length) (by omega)
 have hSr := fun y hy => sucP_in hs (l := l) (y := y) hy
 have hbi := beg_in (s := s) (l := l) b2
 have hln : ∀ y z, InP s.sh.length (2 ^ l.length) y → z ∈ sucP s l y → InP s.sh.length (2 ^ l.length) z := fun y z hy hz => sucP_in hs hy z hz
 unfold searchO
 generalize hS : sucP s l = S at *
 obtain ⟨w, d, sh⟩ := s
 simp only [SkyW.c] at *
 refine pure_of_pieces (rs := [.tmp 6, .tmp 7]) (m := 103) [(12, [(7, false, false, [])])] e13_ok (by kernel_rfl) Tryz.func23 rfl (by kernel_rfl) rfl rfl (by kernel_rfl) ?_
 refine awp_peel (T := [(12, [(7, false, false, [])])]) e13_ok (by kernel_rfl) (by kernel_rfl) ?_
 simp only [RT, FS, ↓RE, okR, argEnv, Nat.reduceAdd, Nat.reduceSub, Nat.reduceLT, Nat.reduceLeDiff, Nat.reduceEqDiff, reduceIte, RM]
 refine awp_scope ?_
 refine awp_peel (T := [(12, [(7, false, false, [])])]) e13_ok (by kernel_rfl) (by kernel_rfl) ?_
 simp only [RT, FS, ↓RE, okR, argEnv, Nat.reduceAdd, Nat.reduceSub, Nat.reduceLT, Nat.reduceLeDiff, Nat.reduceEqDiff, reduceIte, RM, List.length_map, q8]
 refine awp_peel (T := [(12, [(7, false, false, [])])]) e13_ok (by kernel_rfl) (by kernel_rfl) ?_
 simp only [RT, FS, ↓RE, okR, argEnv, Nat.reduceAdd, Nat.reduceSub, Nat.reduceLT, Nat.reduceLeDiff, Nat.reduceEqDiff, reduceIte, RM, List.length_map, oS, oF, Bool.not_true]
 refine call_of_pure pc rfl ?_
 simp only [RT, FS, ↓RE, okR, argEnv, Nat.reduceAdd, Nat.reduceSub, Nat.reduceLT, Nat.reduceLeDiff, Nat.reduceEqDiff, reduceIte, RM, List.length_map, oS, oF, Bool.not_true]
 refine awp_peel (T := [(12, [(7, false, false, [])])]) e13_ok (by kernel_rfl) (by kernel_rfl) ?_
 simp only [RT, FS, ↓RE, okR, argEnv, Nat.reduceAdd, Nat.reduceSub, Nat.reduceLT, Nat.reduceLeDiff, Nat.reduceEqDiff, reduceIte, RM]
 refine awp_peel (T := [(12, [(7, false, false, [])])]) e13_ok (by kernel_rfl) (by kernel_rfl) ?_
 simp only [RT, FS, ↓RE, okR, argEnv, Nat.reduceAdd, Nat.reduceSub, Nat.reduceLT, Nat.reduceLeDiff, Nat.reduceEqDiff, reduceIte, RM]
 have p20 := p2 frm 0 (Nat.two_pow_pos _)
 have hbb := withN_lt (l := l) (b := 0) (Nat.two_pow_pos _) frm
 have hbe : begP l frm = (frm, (withN l 0 frm : Int)) := rfl
 rw [hbe] at hbi ⊢
 generalize withN l 0 frm = bb at *
 refine call_of_pure (r := .agg [.int .i64 frm, .int .i64 (bb : Int)]) p20 rfl ?_
 simp only [RT, FS, ↓RE, okR, argEnv, Nat.reduceAdd, Nat.reduceSub, Nat.reduceLT, Nat.reduceLeDiff, Nat.reduceEqDiff, reduceIte, RM]
 refine awp_peel (T := [(12, [(7, false, false, [])])]) e13_ok (by kernel_rfl) (by kernel_rfl) ?_
 have u0 := fun h nid (hb : hget h 4 = some (.map [])) => bf_put (m := []) (h := h) (b := 4) hb nid frm (bb : Int) frm (bb : Int)
 simp only [RT, FS, ↓RE, okR, argEnv, Nat.reduceAdd, Nat.reduceSub, Nat.reduceLT, Nat.reduceLeDiff, Nat.reduceEqDiff, reduceIte, RM, u0]
 refine awp_peel (T := [(12, [(7, false, false, [])])]) e13_ok (by kernel_rfl) (by kernel_rfl) ?_
 simp only [RT, FS, ↓RE, okR, argEnv, Nat.reduceAdd, Nat.reduceSub, Nat.reduceLT, Nat.reduceLeDiff, Nat.reduceEqDiff, reduceIte, RM, sp_lit]
 refine awp_peel (T := [(12, [(7, false, false, [])])]) e13_ok (by kernel_rfl) (by kernel_rfl) ?_
 simp only [RT, FS, ↓RE, okR, argEnv, Nat.reduceAdd, Nat.reduceSub, Nat.reduceLT, Nat.reduceLeDiff, Nat.reduceEqDiff, reduceIte, RM]
 obtain ⟨beg, hbeg⟩ : ∃ beg : Pr, beg = (frm, (bb : Int)) := ⟨_, rfl⟩
 rw [← hbeg] at hbi ⊢
 have hsw0 := sw_start beg
 obtain ⟨R, hR⟩ : ∃ R, bfsF S (allI l) SFUEL ([beg], [([beg.1], beg)]) = R := ⟨_, rfl⟩
 have hR' : bfsF S (allI l) SFUEL ([beg], [([frm], beg)]) = R := by rw [← hR, hbeg]
 rw [hR']
 have hNK : sh.length * 2 ^ l.length ≤ 36864 := Nat.le_trans (Nat.mul_le_mul (show sh.length ≤ 144 by omega) hp8) (by decide)
 have hsk0 : SeenOk sh.length (2 ^ l.length) [beg] := ⟨by simp, fun y hy => by simp at hy; subst hy; exact hbi⟩
 generalize hK : 2 ^ l.length = K at *
 refine awp_seq (awp_block (awp_loopI (ι := Nat × List Pr × List It × MpP × List Pr) (fun s => ⟨[(3, .ptr 0 0), (5, .ptr 1 0), (8, .ptr 2 0), (9, .ptr 3 0), (10, .ptr 5 0), (11, .ptr 7 0)], [(7, .box [.osl 6 s.2.2.2.2.length]), (6, .arr 103 2 (prL s.2.2.2.2)), (5, .box [.mp 4]), (4, .map (pkv s.2.2.2.1)), (3, .box [.int .i64 frm, .int .i64 (bb : Int)]), (2, .box [.fn (.func 56) [] [.ptr 1 0]]), (1, .box [inD l]), (0, .box [.int .i64 w, .int .i64 d, shD sh])], 8, 103⟩)
  (fun s => SwOk beg s.2.1 s.2.2.1 s.2.2.2.1 s.2.2.2.2 ∧ SeenOk sh.length K s.2.1 ∧ sh.length * K + s.2.2.1.length < s.1 + s.2.1.length ∧ s.2.2.1.length ≤ s.2.1.length ∧ bfsF S (allI l) s.1 (s.2.1, s.2.2.1) = R) (fun s => s.1)
  (SFUEL, [beg], [([beg.1], beg)], pput [] beg beg, [beg]) ⟨hsw0, hsk0, by simp only [SFUEL, List.length_cons, List.length_nil]; omega, by simp, hR⟩ ?_ ?_))
 ·refine .weak (weak_of ?_)
  rw [hbeg]
  simp [headW, heapW, envW, blkLt, D.ltL, D.lt, look, hget, pkv_lt]
 rintro ⟨n, seen, q, m, wt⟩ ⟨hsw, hsk, hn, hql, hbf⟩
 dsimp only at hsw hsk hn hql hbf ⊢
 have hskl := hsk.len
 cases q with
 | nil =>
  have hwt : wt = [] := by rw [hsw.w]; rfl
  subst hwt
  have hRn : R = none := by
   rw [← hbf]
   cases n with
   | zero => rfl
   | succ n => rfl
  have q7 := fun h (hb : hget h 6 = some (.arr 103 2 (prL []))) => sp_len (n := 0) hb rfl
  have hc0 : decide ((0 : Int) < ((0 : Nat) : Int)) = false := by decide
  refine awp_peel (T := [(12, [(7, false, false, [])])]) e13_ok (by kernel_rfl) (by kernel_rfl) ?_
  simp only [RT, FS, ↓RE, okR, argEnv, Nat.reduceAdd, Nat.reduceSub, Nat.reduceLT, Nat.reduceLeDiff, Nat.reduceEqDiff, reduceIte, RM, q7, hc0]
  refine awp_rest (T := [(12, [(7, false, false, [])])]) e13_ok (by kernel_rfl) (by kernel_rfl) ?_
  simp only [RT, FS, ↓RE, okR, argEnv, Nat.reduceAdd, Nat.reduceSub, Nat.reduceLT, Nat.reduceLeDiff, Nat.reduceEqDiff, reduceIte, RM]
  rw [hRn]
 | cons x q =>
 obtain ⟨p, c, yb⟩ := x
 obtain ⟨wt', rfl⟩ : ∃ wt', wt = (c, yb) :: wt' := ⟨q.map (·.2), by rw [hsw.w]; rfl⟩
 have hbk := hsw.b (p, c, yb) (by simp)
 have hpl := hsw.l (p, c, yb) (by simp)
 have hys : (c, yb) ∈ seen := by
  dsimp only at hbk
  generalize hy : ((c, yb) : Pr) = y at hbk
  cases hbk with
  | one => exact hsw.g
  | snoc p' u z h1 h2 h3 => exact (hsw.k _).1 (by rw [h3]; rfl)
 have hyr := hsk.r _ hys
 obtain ⟨n, rfl⟩ : ∃ n', n = n' + 1 := ⟨n - 1, by simp only [List.length_cons] at hn; omega⟩
 have hst := hsw.tail
 have hwl : wt'.length = q.length := by rw [hst.w, List.length_map]
 simp only [List.length_cons] at hn hql
 have q7 := fun h (hb : hget h 6 = some (.arr 103 2 (prL ((c, yb) :: wt')))) => sp_len (n := ((c, yb) :: wt').length) hb rfl
 have x7 := fun h (hb : hget h 6 = some (.arr 103 2 (prL ((c, yb) :: wt')))) => sp_ix0 (n := ((c, yb) :: wt').length) hb rfl (by simp)
 have l7 := fun h (hb : hget h 6 = some (.arr 103 2 (prL ((c, yb) :: wt')))) => sp_load0 (n := ((c, yb) :: wt').length) hb rfl
 have t7 := fun h nid (hb : hget h 6 = some (.arr 103 2 (prL ((c, yb) :: wt')))) => sp_tail (n := ((c, yb) :: wt').length) hb rfl nid
 have hc0 : ((0 : Int) < (((c, yb) :: wt').length : Int)) = True := by simp only [List.length_cons, eq_iff_iff, iff_true]; omega
 have hnd : ((c, yb) :: wt').length - 1 = wt'.length := by simp
 obtain ⟨n9, hn9⟩ : ∃ n9, ((c, yb) :: wt').length = n9 := ⟨_, rfl⟩
 rw [hn9] at q7 x7 l7 t7 hc0 hnd ⊢
 refine awp_peel (T := [(12, [(7, false, false, [])])]) e13_ok (by kernel_rfl) (by kernel_rfl) ?_
 simp only [RT, FS, ↓RE, okR, argEnv, Nat.reduceAdd, Nat.reduceSub, Nat.reduceLT, Nat.reduceLeDiff, Nat.reduceEqDiff, reduceIte, RM, q7, hc0, decide_true]
 refine awp_block ?_
 refine awp_peel (T := [(12, [(7, false, false, [])])]) e13_ok (by kernel_rfl) (by kernel_rfl) ?_
 simp only [RT, FS, ↓RE, okR, argEnv, Nat.reduceAdd, Nat.reduceSub, Nat.reduceLT, Nat.reduceLeDiff, Nat.reduceEqDiff, reduceIte, RM, x7, l7]
 refine awp_peel (T := [(12, [(7, false, false, [])])]) e13_ok (by kernel_rfl) (by kernel_rfl) ?_
 simp only [RT, FS, ↓RE, okR, argEnv, Nat.reduceAdd, Nat.reduceSub, Nat.reduceLT, Nat.reduceLeDiff, Nat.reduceEqDiff, reduceIte, RM, t7, hnd, prL_len, decide_true]
 obtain ⟨yn, rfl⟩ : ∃ yn : Nat, yb = (yn : Int) := ⟨yb.toNat, by have := hyr.2.1; dsimp only at this; omega⟩
 have hyn : yn < K := by have := hyr.2.2; dsimp only at this; omega
 refine awp_imp (Imp.trans (Imp.weak (weak_of (e := [(3, .ptr 0 0), (5, .ptr 1 0), (8, .ptr 2 0), (9, .ptr 3 0), (10, .ptr 5 0), (11, .ptr 7 0), (12, .ptr 8 0)]) (h := [(9, .arr 103 2 (prL wt')), (8, .box [.int .i64 c, .int .i64 (yn : Int)]), (7, .box [.osl 9 wt'.length]), (5, .box [.mp 4]), (4, .map (pkv m)), (3, .box [.int .i64 frm, .int .i64 (bb : Int)]), (2, .box [.fn (.func 56) [] [.ptr 1 0]]), (1, .box [inD l]), (0, .box [.int .i64 w, .int .i64 d, shD sh])]) (nid := 10) (n := 103) ?_))
  (imp_move' 9 6 (bi := .arr 103 2 (prL wt')) (by omega) rfl rfl (by omega) (by omega) ?_ ?_ (.weak (weak_of (e := [(3, .ptr 0 0), (5, .ptr 1 0), (8, .ptr 2 0), (9, .ptr 3 0), (10, .ptr 5 0), (11, .ptr 7 0), (12, .ptr 8 0)]) (h := [(6, .arr 103 2 (prL wt')), (8, .box [.int .i64 c, .int .i64 (yn : Int)]), (7, .box [.osl 6 wt'.length]), (5, .box [.mp 4]), (4, .map (pkv m)), (3, .box [.int .i64 frm, .int .i64 (bb : Int)]), (2, .box [.fn (.func 56) [] [.ptr 1 0]]), (1, .box [inD l]), (0, .box [.int .i64 w, .int .i64 d, shD sh])]) (nid := 9) (n := 103) ?_)))) ?_
 ·simp [headW, heapW, envW, blkLt, D.ltL, D.lt, look, hget, pkv_lt]
 ·simp [okMB', okM, D.lt, pkv, pD, D.ltL, D.noI, D.noIL]
 ·simp [okM, D.lt, D.noI, D.noIL]
 ·simp [headW, heapW, envW, blkLt, D.ltL, D.lt, look, hget, pkv_lt, mvH, mvB, mvD]
 have hs1 := shl_1 (i := l.length) (by omega)
 rw [hK] at hs1
 have hwK := wrap_i64 (z := (K : Int) - 1) (by omega) (by omega)
 simp only [bfsF] at hbf
 by_cases hal : (yn : Int) = allI l
 ·rw [if_pos hal] at hbf
  have hq1 : ((yn : Int) == (K : Int) - 1) = true := by
   rw [hal, allI, hK]; simp
  refine awp_seq ?_
  refine awp_peel (T := [(12, [(7, false, false, [])])]) e13_ok (by kernel_rfl) (by kernel_rfl) ?_
  simp only [RT, FS, ↓RE, okR, argEnv, Nat.reduceAdd, Nat.reduceSub, Nat.reduceLT, Nat.reduceLeDiff, Nat.reduceEqDiff, reduceIte, RM, List.length_map, hs1, hwK, hq1]
  refine awp_cond (t := true) rfl (fun _ => ?_) (fun h => by cases h)
  refine awp_peel (T := [(12, [(7, false, false, [])])]) e13_ok (by kernel_rfl) (by kernel_rfl) ?_
  simp only [RT, FS, ↓RE, okR, argEnv, Nat.reduceAdd, Nat.reduceSub, Nat.reduceLT, Nat.reduceLeDiff, Nat.reduceEqDiff, reduceIte, RM, lit_1]
  have hrp : ∃ r, p = r ++ [c] := hbk.last
  obtain ⟨r0, hr0⟩ := hrp
  have hpl2 : p.length ≤ 40000 := by dsimp only at hpl; omega
  refine awp_seq (awp_block (awp_loopI (ι := List Int × List Int × Pr) (fun s => ⟨[(9, .ptr 3 0), (10, .ptr 5 0), (12, .ptr 8 0), (13, .osl 9 s.1.length)], [(9, .arr 3 1 (intL s.1)), (8, .box [.int .i64 s.2.2.1, .int .i64 s.2.2.2]), (5, .box [.mp 4]), (4, .map (pkv m)), (3, .box [.int .i64 frm, .int .i64 (bb : Int)])], 10, 103⟩)
   (fun s => p.reverse = s.1 ++ s.2.1 ∧ Bk m beg (s.2.1.reverse ++ [s.2.2.1]) s.2.2) (fun s => s.2.1.length) ([c], r0.reverse, (c, (yn : Int))) ⟨by rw [hr0]; simp, by simp only [List.reverse_reverse]; rw [← hr0]; exact hbk⟩ ?_ ?_))
  ·refine .weak (weak_of ?_)
   simp [headW, heapW, envW, blkLt, D.ltL, D.lt, look, hget, pkv_lt]
   rfl
  rintro ⟨out, r, xc, xb⟩ ⟨ho, hb2⟩
  dsimp only at ho hb2 ⊢
  have hne := sp_ne xc xb frm (bb : Int)
  rcases Bk.inv (y := (xc, xb)) hb2 with ⟨e1, e2⟩ | ⟨e1, u, r', e2, e3, e4⟩
  ·have hq : (!(xc == frm && xb == (bb : Int))) = false := by
    rw [hbeg] at e1
    simp only [Prod.mk.injEq] at e1
    simp [e1.1, e1.2]
   rw [hq] at hne
   have hr2 : r = [] := by simpa using e2
   subst hr2
   rw [List.append_nil] at ho
   refine awp_peel (T := [(12, [(7, false, false, [])])]) e13_ok (by kernel_rfl) (by kernel_rfl) ?_
   simp only [RT, FS, ↓RE, okR, argEnv, Nat.reduceAdd, Nat.reduceSub, Nat.reduceLT, Nat.reduceLeDiff, Nat.reduceEqDiff, reduceIte, RM, hne]
   refine awp_headW [(13, .osl 9 out.length)] [(9, .arr 3 1 (intL out))] 10 103 (by simp [headW, heapW, envW, blkLt, D.ltL, D.lt, look, hget, pkv_lt]) ?_
   have holen : out.length = p.length := by rw [← ho, List.length_reverse]
   have hp1 : 1 ≤ p.length := by rw [hr0]; simp
   refine awp_peel (T := [(12, [(7, false, false, [])])]) e13_ok (by kernel_rfl) (by kernel_rfl) ?_
   simp only [RT, FS, ↓RE, okR, argEnv, Nat.reduceAdd, Nat.reduceSub, Nat.reduceLT, Nat.reduceLeDiff, Nat.reduceEqDiff, reduceIte, RM]
   refine call_of_acall ((rev_t out (by omega) (by omega) 9).mono ?_)
   rintro r h' nid' ⟨rfl, rfl, rfl⟩
   simp only [RT, FS, ↓RE, okR, argEnv, Nat.reduceAdd, Nat.reduceSub, Nat.reduceLT, Nat.reduceLeDiff, Nat.reduceEqDiff, reduceIte, RM]
   refine awp_peel (T := [(12, [(7, false, false, [])])]) e13_ok (by kernel_rfl) (by kernel_rfl) ?_
   simp only [RT, FS, ↓RE, okR, argEnv, Nat.reduceAdd, Nat.reduceSub, Nat.reduceLT, Nat.reduceLeDiff, Nat.reduceEqDiff, reduceIte, RM]
   refine awp_rest (T := [(12, [(7, false, false, [])])]) e13_ok (by kernel_rfl) (by kernel_rfl) ?_
   simp only [RT, FS, ↓RE, okR, argEnv, Nat.reduceAdd, Nat.reduceSub, Nat.reduceLT, Nat.reduceLeDiff, Nat.reduceEqDiff, reduceIte, RM, intL_len, List.length_reverse, decide_true]
   rw [← ho, List.reverse_reverse, ← hbf]
  ·have hq : (!(xc == frm && xb == (bb : Int))) = true := by
    rw [hbeg] at e1
    rw [Bool.eq_iff_iff]
    simp only [Bool.not_eq_true', iff_true]
    cases hx1 : (xc == frm && xb == (bb : Int)) with
    | false => rfl
    | true =>
     simp only [Bool.and_eq_true, beq_iff_eq] at hx1
     exact absurd (Prod.ext hx1.1 hx1.2) e1
   rw [hq] at hne
   have holen : out.length + r.length = p.length := by
    have := congrArg List.length ho
    simp only [List.length_reverse, List.length_append] at this
    omega
   have hrr : r = u.1 :: r'.reverse := by
    have := congrArg List.reverse e3
    simpa using this
   have gx := fun h (hb : hget h 4 = some (.map (pkv m))) => (bf_get hb xc xb).trans (by rw [e2]; rfl : _ = some (D.agg [.int .i64 u.1, .int .i64 u.2]))
   have a7 := fun h nid (hb : hget h 9 = some (.arr 3 1 (intL out))) (hb2 : hget h 10 = some (.arr 3 1 [[.int .i64 u.1]])) => oI_app (n := out.length) (n2 := 1) (r := [u.1]) hb rfl hb2 rfl nid (by simp; omega)
   refine awp_peel (T := [(12, [(7, false, false, [])])]) e13_ok (by kernel_rfl) (by kernel_rfl) ?_
   simp only [RT, FS, ↓RE, okR, argEnv, Nat.reduceAdd, Nat.reduceSub, Nat.reduceLT, Nat.reduceLeDiff, Nat.reduceEqDiff, reduceIte, RM, hne]
   refine awp_peel (T := [(12, [(7, false, false, [])])]) e13_ok (by kernel_rfl) (by kernel_rfl) ?_
   simp only [RT, FS, ↓RE, okR, argEnv, Nat.reduceAdd, Nat.reduceSub, Nat.reduceLT, Nat.reduceLeDiff, Nat.reduceEqDiff, reduceIte, RM, gx, lit_1, a7, intL_len, List.length_append, List.length_singleton, decide_true]
   refine awp_rest (T := [(12, [(7, false, false, [])])]) e13_ok (by kernel_rfl) (by kernel_rfl) ?_
   simp only [RT, FS, ↓RE, okR, argEnv, Nat.reduceAdd, Nat.reduceSub, Nat.reduceLT, Nat.reduceLeDiff, Nat.reduceEqDiff, reduceIte, RM, gx]
   refine ⟨(out ++ [u.1], r'.reverse, u), ⟨by simp only; rw [ho, hrr]; simp, by simp only [List.reverse_reverse]; exact e4⟩, by simp only; rw [hrr]; simp, .weak (weak_of ?_)⟩
   simp [headW, heapW, envW, blkLt, D.ltL, D.lt, look, hget, pkv_lt]
 ·rw [if_neg hal] at hbf
  have hq1 : ((yn : Int) == (K : Int) - 1) = false := by
   have : ¬ (yn : Int) = (K : Int) - 1 := fun e => hal (by rw [e, allI, hK])
   simpa using this
  refine awp_peel (T := [(12, [(7, false, false, [])])]) e13_ok (by kernel_rfl) (by kernel_rfl) ?_
  simp only [RT, FS, ↓RE, okR, argEnv, Nat.reduceAdd, Nat.reduceSub, Nat.reduceLT, Nat.reduceLeDiff, Nat.reduceEqDiff, reduceIte, RM, List.length_map, hs1, hwK, hq1]
  refine awp_peel (T := [(12, [(7, false, false, [])])]) e13_ok (by kernel_rfl) (by kernel_rfl) ?_
  simp only [RT, FS, ↓RE, okR, argEnv, Nat.reduceAdd, Nat.reduceSub, Nat.reduceLT, Nat.reduceLeDiff, Nat.reduceEqDiff, reduceIte, RM]
  refine call_of_pure' (pn c) (by simp [D.ltL, D.lt]) (by simp [D.lt, D.ltL]) ?_
  simp only [RT, FS, ↓RE, okR, argEnv, Nat.reduceAdd, Nat.reduceSub, Nat.reduceLT, Nat.reduceLeDiff, Nat.reduceEqDiff, reduceIte, RM]
  obtain ⟨G, hG⟩ : ∃ G : List Int → MpP × List Pr, G = fun pre => (pre.map fun t => ((t, (withN l yn t : Int)) : Pr)).foldl (addW (c, (yn : Int))) (m, wt') := ⟨_, rfl⟩
  have hG0 : G [] = (m, wt') := by rw [hG]; rfl
  have hGS : ∀ pre t, G (pre ++ [t]) = addW (c, (yn : Int)) (G pre) (t, (withN l yn t : Int)) := fun pre t => by rw [hG]; simp [List.foldl_append]
  have hGl : ∀ pre, (G pre).2.length ≤ wt'.length + pre.length := fun pre => by
   rw [hG]
   have := addW_len (c, (yn : Int)) (pre.map fun t => ((t, (withN l yn t : Int)) : Pr)) m wt'
   simpa using this
  refine rangeX (α := Int) e13_ok [(12, [(7, false, false, [])])] (by kernel_rfl) (by kernel_rfl) (by kernel_rfl) (pq c hyr.1).toX (by kernel_rfl) (fun _ => rfl) nb_enc (hlt c 0)
   [(3, .ptr 0 0), (5, .ptr 1 0), (8, .ptr 2 0), (9, .ptr 3 0), (10, .ptr 5 0), (11, .ptr 7 0), (12, .ptr 8 0), (82, .fn (.func 77) [] [.ref [.int .i64 c] 0, .ref [.int .i64 w, .int .i64 d, shD sh] 0])]
   (fun pre => [(7, .box [.osl 6 (G pre).2.length]), (6, .arr 103 2 (prL (G pre).2)), (8, .box [.int .i64 c, .int .i64 (yn : Int)]), (5, .box [.mp 4]), (4, .map (pkv (G pre).1)), (3, .box [.int .i64 frm, .int .i64 (bb : Int)]), (2, .box [.fn (.func 56) [] [.ptr 1 0]]), (1, .box [inD l]), (0, .box [.int .i64 w, .int .i64 d, shD sh])]) 9 (fun _ => True) trivial rfl ?_ ?_ ?_ ?_
  ·intro xs
   simp [mapsIn, mapIds, isMapAt, hget, boxNm, D.nm, D.nmL]
  ·rw [hG0]
   simp [headW, heapW, envW, blkLt, D.ltL, D.lt, look, hget, pkv_lt]
  ·intro lo pre t _ hpre
   have hpt := p2 t yn hyn
   have hgs := hGS pre t
   have hgl := hGl pre
   generalize G pre = g at *
   obtain ⟨gm, gw⟩ := g
   dsimp only at hgl ⊢
   generalize withN l yn t = tn at *
   simp only [RT, FS, ↓RE, okR, argEnv, Nat.reduceAdd, Nat.reduceSub, Nat.reduceLT, Nat.reduceLeDiff, Nat.reduceEqDiff, reduceIte, RM, pe_cons, pe_nil, Array.toList]
   refine call_of_pure (r := .agg [.int .i64 t, .int .i64 (tn : Int)]) hpt rfl ?_
   have gl := fun h (hb : hget h 4 = some (.map (pkv gm))) => bf_look hb t (tn : Int)
   cases hg : (pget gm (t, (tn : Int))).isSome
   ·rw [hg] at gl
    have hu := fun h nid (hb : hget h 4 = some (.map (pkv gm))) => bf_put hb nid t (tn : Int) c (yn : Int)
    have e9 : addW (c, (yn : Int)) (gm, gw) (t, (tn : Int)) = (pput gm (t, (tn : Int)) (c, (yn : Int)), gw ++ [(t, (tn : Int))]) := by simp [addW, hg]
    rw [e9] at hgs
    have ha := fun h nid (hb : hget h 6 = some (.arr 103 2 (prL gw))) (hb2 : hget h 11 = some (.arr 103 2 (prL [(t, (tn : Int))]))) => sp_app (n := gw.length) (n2 := 1) hb rfl hb2 rfl nid (by simp; omega)
    simp only [RT, FS, ↓RE, okR, argEnv, Nat.reduceAdd, Nat.reduceSub, Nat.reduceLT, Nat.reduceLeDiff, Nat.reduceEqDiff, reduceIte, RM, gl, hu, sp_lit, ha, prL_len, List.length_append, List.length_singleton, decide_true]
    rw [hgs]
    simp [headW, heapW, envW, blkLt, D.ltL, D.lt, look, hget, pkv_lt]
   ·rw [hg] at gl
    have e9 : addW (c, (yn : Int)) (gm, gw) (t, (tn : Int)) = (gm, gw) := by simp [addW, hg]
    rw [e9] at hgs
    simp only [RT, FS, ↓RE, okR, argEnv, Nat.reduceAdd, Nat.reduceSub, Nat.reduceLT, Nat.reduceLeDiff, Nat.reduceEqDiff, reduceIte, RM, gl]
    rw [hgs]
    simp [headW, heapW, envW, blkLt, D.ltL, D.lt, look, hget, pkv_lt]
  ·intro xs hxs _
   subst hxs
   have hGe : G (nbL w d sh c) = (S (c, (yn : Int))).foldl (addW (c, (yn : Int))) (m, wt') := by
    rw [hG, ← hS]; rfl
   have hsw1 := sw_add (S (c, (yn : Int))) hst hbk hpl
   rw [← hGe] at hsw1
   have hsk1 := seen_add p (S (c, (yn : Int))) (q := q) hsk (hSr _ hyr)
   obtain ⟨k9, k1, k2⟩ := add_len p (S (c, (yn : Int))) seen q
   simp only [RT, FS, ↓RE, okR, argEnv, Nat.reduceAdd, Nat.reduceSub, Nat.reduceLT, Nat.reduceLeDiff, Nat.reduceEqDiff, reduceIte, RM]
   refine awp_rest (T := [(12, [(7, false, false, [])])]) e13_ok (by kernel_rfl) (by kernel_rfl) ?_
   simp only [RT, FS, ↓RE, okR, argEnv, Nat.reduceAdd, Nat.reduceSub, Nat.reduceLT, Nat.reduceLeDiff, Nat.reduceEqDiff, reduceIte, RM]
   refine ⟨(n, ((S (c, (yn : Int))).foldl (addI p) (seen, q)).1, ((S (c, (yn : Int))).foldl (addI p) (seen, q)).2, (G (nbL w d sh c)).1, (G (nbL w d sh c)).2), ⟨hsw1, hsk1, ?_, ?_, hbf⟩, by simp only; omega, .weak (weak_of ?_)⟩
   ·simp only; rw [k1, k2]; omega
   ·simp only; rw [k1, k2]; omega
   ·simp [headW, heapW, envW, blkLt, D.ltL, D.lt, look, hget, pkv_lt]
end Go.Sx
