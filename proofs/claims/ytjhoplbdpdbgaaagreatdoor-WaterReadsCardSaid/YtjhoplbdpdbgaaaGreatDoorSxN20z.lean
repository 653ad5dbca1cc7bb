/- Own work: contracts of functions, used in the proof of a law. -/
import Derived.Test.YtjhoplbdpdbgaaaGreatDoorSxND
import Derived.Test.YtjhoplbdpdbgaaaGreatDoorSxNB
import Derived.Test.YtjhoplbdpdbgaaaGreatDoorSxN14z
set_option linter.unusedVariables false
set_option linter.unusedSimpArgs false
namespace Go.Sx
open Go.Proofs Go.Lib
set_option maxRecDepth 10000
variable {w0 : World}

def rreadR (t : Bs) : D := match readB t with
 | some gs => .tup [.agg ((wxOf gs).c []), .bool true]
 | none => .tup [.agg (wcL []), .bool false]
theorem bsl_ix (h : H) {i : Nat} (hi : i < 5) : indexAddrD Tryz.prog h 120 (.bsl 1 0 5 4) (.int .i64 (i : Int)) = some (.ptr 1 (4 * i)) := by
 unfold indexAddrD
 simp only [Fz.und_120]
 rw [if_pos ⟨by omega, by simpa using hi, Fz.size_27⟩]
 simp [Nat.mul_comm]
theorem drop_atB {L : List Bs} {k : Nat} {s : Bs} (h : L[k]? = some s) : L.drop k = s :: L.drop (k + 1) := by
 have hk : k < L.length := by
  rcases Nat.lt_or_ge k L.length with h' | h'
  ·exact h'
  ·rw [List.getElem?_eq_none h'] at h; cases h
 rw [List.drop_eq_getElem_cons hk]
 congr 1
 rw [List.getElem?_eq_getElem hk] at h
 exact Option.some.inj h
theorem rread_g (t : Bs) (ht : t.length ≤ 1000000) {R : List PanicEntry → H → Nat → Prop} : PCallG Tryz.prog w0 46 [stD t] [] 0 (fun r _ _ => r = rreadR t) R := by
 have pL := lines_t t ht
 have hR : rreadR t = match readS t with
 | some gs => .tup [.agg ((wxOf gs).c []), .bool true]
 | none => .tup [.agg (wcL []), .bool false] := by unfold rreadR; rw [readS_eq]
 have hno : readS t = none → rreadR t = .tup [.agg (wcL []), .bool false] := fun h => by rw [hR, h]
 have hsp := fun p (hp : p ∈ outP 10 t) => Nat.le_trans (spl_le (c := 10) (l := t) (p := p) (by rw [spl_last]; simp [hp])) ht
 have hsl : (outP 10 t).length ≤ 1000001 := by
  have h1 := spl_len (c := 10) t
  rw [spl_last, List.length_append] at h1
  omega
 have hS : readS t = if lastP 10 t ≠ [] ∨ outP 10 t = [] then none else match gasR namesB (outP 10 t) with
 | none => none
 | some (gs, r) => if endB gs r = true then some gs else none := rfl
 generalize rreadR t = RR at *
 generalize readS t = SS at *
 refine pcallg_of_pieces (rs := [.cell 2 29, .tmp 3]) (m := 158) Tryz.func46 rfl (by kernel_rfl) rfl rfl ?_
 refine awg_peel (T := []) oNone_ok (by kernel_rfl) (by kernel_rfl) ?_
 simp only [FS, ↓RE, okR, argEnv, Nat.reduceAdd, Nat.reduceSub, Nat.reduceLT, Nat.reduceLeDiff, Nat.reduceEqDiff, reduceIte, RT, RM, RG]
 rw [← wc_zero]
 refine awg_peel (T := []) oNone_ok (by kernel_rfl) (by kernel_rfl) ?_
 simp only [FS, ↓RE, okR, argEnv, Nat.reduceAdd, Nat.reduceSub, Nat.reduceLT, Nat.reduceLeDiff, Nat.reduceEqDiff, reduceIte, RT, RM, RG]
 refine call_of_pure' pL (by simp [D.ltL, D.lt]) (by simp [D.ltL, D.lt]) ?_
 simp only [FS, ↓RE, okR, argEnv, Nat.reduceAdd, Nat.reduceSub, Nat.reduceLT, Nat.reduceLeDiff, Nat.reduceEqDiff, reduceIte, RT, RM, RG]
 refine awg_peel (T := []) oNone_ok (by kernel_rfl) (by kernel_rfl) ?_
 by_cases hla : lastP 10 t = []
 rotate_left
 ·have e := hno (by rw [hS, if_pos (.inl hla)])
  rw [decide_eq_false hla]
  simp only [FS, ↓RE, okR, argEnv, Nat.reduceAdd, Nat.reduceSub, Nat.reduceLT, Nat.reduceLeDiff, Nat.reduceEqDiff, reduceIte, RT, RM, RG, Bool.not_false, wc_zero]
  rw [e]; rfl
 rw [decide_eq_true hla]
 by_cases hou : outP 10 t = []
 ·have e := hno (by rw [hS, if_pos (.inr hou)])
  have q : (((0 : Nat) : Int) == 0) = true := rfl
  rw [hou]
  simp only [FS, ↓RE, okR, argEnv, Nat.reduceAdd, Nat.reduceSub, Nat.reduceLT, Nat.reduceLeDiff, Nat.reduceEqDiff, reduceIte, RT, RM, RG, Bool.not_true, List.map_nil, q, wc_zero]
  rw [e]; rfl
 have hpos : 0 < (outP 10 t).length := List.length_pos_iff.2 hou
 rw [if_neg (fun h => h.elim (fun h => h hla) hou)] at hS
 clear hla hou
 generalize outP 10 t = L at *
 have q : ((L.length : Int) == 0) = false := by simp only [beq_eq_false_iff_ne]; omega
 simp only [FS, ↓RE, okR, argEnv, Nat.reduceAdd, Nat.reduceSub, Nat.reduceLT, Nat.reduceLeDiff, Nat.reduceEqDiff, reduceIte, RT, RM, RG, Bool.not_true, List.length_map, q]
 refine awg_seq (awg_regionD oNone_ok ?_)
 simp only [FS, ↓RE, okR, argEnv, Nat.reduceAdd, Nat.reduceSub, Nat.reduceLT, Nat.reduceLeDiff, Nat.reduceEqDiff, reduceIte, RT, RM, RG, List.take_succ_cons, List.take_zero, List.drop_zero, List.drop_succ_cons, Nat.reduceAdd, List.getElem_toArray, List.getElem_cons_zero, List.getElem_cons_succ, lit_names]
 refine awg_seq (awg_from (ra_data oNone_ok 2 (Nat.le_of_ble_eq_true rfl) ?_))
 simp only [FS, ↓RE, okR, argEnv, Nat.reduceAdd, Nat.reduceSub, Nat.reduceLT, Nat.reduceLeDiff, Nat.reduceEqDiff, reduceIte, RT, RM, RG, List.take_succ_cons, List.take_zero, List.drop_zero, List.drop_succ_cons, Nat.reduceAdd, List.getElem_toArray, List.getElem_cons_zero, List.getElem_cons_succ, List.length_map]
 refine ra_op rfl rfl (opOk_makeBox (n := 5) (cs := wcL []) (kx := .i64) (ky := .i64) rfl Fz.und_120 Fz.size_27 Fz.zero_27 rfl (by rw [Fz.bytes_27_120]; decide) (by decide) (by kernel_rfl) (by kernel_rfl) rfl ?_ ?_)
 ·intro i hi
  obtain rfl | rfl | rfl | rfl | rfl | rfl | rfl | rfl | rfl | rfl | rfl | rfl | rfl | rfl | rfl | rfl | rfl | rfl | rfl | rfl : i = 0 ∨ i = 1 ∨ i = 2 ∨ i = 3 ∨ i = 4 ∨ i = 5 ∨ i = 6 ∨ i = 7 ∨ i = 8 ∨ i = 9 ∨ i = 10 ∨ i = 11 ∨ i = 12 ∨ i = 13 ∨ i = 14 ∨ i = 15 ∨ i = 16 ∨ i = 17 ∨ i = 18 ∨ i = 19 := by omega
  all_goals rfl
 refine ra_data oNone_ok 1 (Nat.le_of_ble_eq_true rfl) ?_
 simp only [FS, ↓RE, okR, argEnv, Nat.reduceAdd, Nat.reduceSub, Nat.reduceLT, Nat.reduceLeDiff, Nat.reduceEqDiff, reduceIte, RT, RM, RG, List.take_succ_cons, List.take_zero, List.drop_zero, List.drop_succ_cons, Nat.reduceAdd, List.getElem_toArray, List.getElem_cons_zero, List.getElem_cons_succ]
 refine ra_end rfl ?_
 simp only [FS, ↓RE, okR, argEnv, Nat.reduceAdd, Nat.reduceSub, Nat.reduceLT, Nat.reduceLeDiff, Nat.reduceEqDiff, reduceIte, RT, RM, RG, List.take_succ_cons, List.take_zero, List.drop_zero, List.drop_succ_cons, Nat.reduceAdd, List.getElem_toArray, List.getElem_cons_zero, List.getElem_cons_succ]
 refine awg_peel (T := []) oNone_ok (by kernel_rfl) (by kernel_rfl) ?_
 simp only [FS, ↓RE, okR, argEnv, Nat.reduceAdd, Nat.reduceSub, Nat.reduceLT, Nat.reduceLeDiff, Nat.reduceEqDiff, reduceIte, RT, RM, RG]
 refine awg_seq ?_
 refine awg_peel (T := []) oNone_ok (by kernel_rfl) (by kernel_rfl) ?_
 simp only [FS, ↓RE, okR, argEnv, Nat.reduceAdd, Nat.reduceSub, Nat.reduceLT, Nat.reduceLeDiff, Nat.reduceEqDiff, reduceIte, RT, RM, RG]
 refine awg_block ?_
 refine awg_loopI (ι := List Ga × Nat) (fun p => ⟨[(2, .ptr 0 0), (3, .bool false), (4, .sl (L.map enT.d)), (6, .sl (namesB.map enT.d)), (7, .bsl 1 0 5 4), (8, .int .i64 (p.2 : Int)), (9, .int .i64 (manyB p.1 : Nat)), (10, .int .i64 (p.1.length : Int))], [(1, .box (wcL p.1)), (0, .box (wcL []))], 2, 158⟩)
  (fun p => p.1.length ≤ 5 ∧ gasR namesB L = (gasR (namesB.drop p.1.length) (L.drop p.2)).map (fun q => (p.1 ++ q.1, q.2)) ∧ p.2 ≤ L.length ∧ manyB p.1 ≤ p.2) (fun p => 5 - p.1.length) ([], 0) ⟨Nat.zero_le _, ?_, Nat.zero_le _, Nat.zero_le _⟩ (imp_head (by simp [headW, heapW, envW, blkLt, D.ltL, D.lt, look, hget, wc_lt]; rfl)) ?_
 ·show gasR namesB L = (gasR namesB L).map (fun q => (q.1, q.2))
  cases gasR namesB L <;> rfl
 rintro ⟨gs, k⟩ ⟨hgl, hga, hkl, hmk⟩
 dsimp only at hgl hga hkl hmk ⊢
 have hnl : ((namesB.length : Nat) : Int) = 5 := rfl
 rcases Nat.lt_or_ge gs.length 5 with hlt | hge
 ·have hc : ((gs.length : Int) < 5) = True := by simp; omega
  obtain ⟨n, hn⟩ : ∃ n, namesB[gs.length]? = some n := ⟨namesB[gs.length]'(by simp [namesB]; omega), by simp⟩
  have hn5 := names_5 n (List.mem_of_getElem? hn)
  have hn32 := (names_32 n (List.mem_of_getElem? hn)).1
  have hdr : namesB.drop gs.length = n :: namesB.drop (gs.length + 1) := drop_atB hn
  rw [hdr] at hga
  refine awg_peel (T := []) oNone_ok (by kernel_rfl) (by kernel_rfl) ?_
  simp only [FS, ↓RE, okR, argEnv, Nat.reduceAdd, Nat.reduceSub, Nat.reduceLT, Nat.reduceLeDiff, Nat.reduceEqDiff, reduceIte, RT, RM, RG, List.length_map, hnl, hc, decide_true]
  refine awg_seq ?_
  refine awg_block ?_
  refine awg_peel (T := []) oNone_ok (by kernel_rfl) (by kernel_rfl) ?_
  rcases Nat.lt_or_ge k L.length with hk | hk
  rotate_left
  ·have qk : decide ((L.length : Int) ≤ (k : Int)) = true := by simp; omega
   have e := hno (by rw [hS, hga, List.drop_of_length_le hk]; rfl)
   simp only [FS, ↓RE, okR, argEnv, Nat.reduceAdd, Nat.reduceSub, Nat.reduceLT, Nat.reduceLeDiff, Nat.reduceEqDiff, reduceIte, RT, RM, RG, List.length_map, qk, wc_zero]
   rw [e]; rfl
  have qk : decide ((L.length : Int) ≤ (k : Int)) = false := by simp; omega
  simp only [FS, ↓RE, okR, argEnv, Nat.reduceAdd, Nat.reduceSub, Nat.reduceLT, Nat.reduceLeDiff, Nat.reduceEqDiff, reduceIte, RT, RM, RG, List.length_map, qk]
  obtain ⟨s, hs⟩ : ∃ s, L[k]? = some s := ⟨L[k], by simp [hk]⟩
  rw [drop_atB hs] at hga
  have ixs := fun h => tx_ix (ls := L) (i := k) hs h
  have ixn := fun h => tx_ix (ls := namesB) (i := gs.length) hn h
  have pT := rtake_t s n 3 (hsp s (List.mem_of_getElem? hs)) (by omega)
  unfold takR at pT
  refine awg_peel (T := [(12, [(14, false, false, [])]), (15, [(14, false, false, [])]), (20, [(26, false, false, [])]), (27, [(18, false, false, [])])]) oNone_ok (by kernel_rfl) (by kernel_rfl) ?_
  cases htk : takB s n 3 with
  | none =>
   have e := hno (by rw [hS, hga]; simp only [gasR, htk, Option.map_none])
   rw [htk] at pT
   simp only [FS, ↓RE, okR, argEnv, Nat.reduceAdd, Nat.reduceSub, Nat.reduceLT, Nat.reduceLeDiff, Nat.reduceEqDiff, reduceIte, RT, RM, RG, ixs, ixn]
   refine call_of_pure pT rfl ?_
   simp only [FS, ↓RE, okR, argEnv, Nat.reduceAdd, Nat.reduceSub, Nat.reduceLT, Nat.reduceLeDiff, Nat.reduceEqDiff, reduceIte, RT, RM, RG]
   refine awg_peel (T := []) oNone_ok (by kernel_rfl) (by kernel_rfl) ?_
   simp only [FS, ↓RE, okR, argEnv, Nat.reduceAdd, Nat.reduceSub, Nat.reduceLT, Nat.reduceLeDiff, Nat.reduceEqDiff, reduceIte, RT, RM, RG, Bool.not_false, wc_zero]
   rw [e]; rfl
  | some xs =>
  rw [htk] at pT
  have h3 := take_len hn32 htk
  obtain ⟨a, b, c, rfl⟩ : ∃ a b c, xs = [a, b, c] := by
   match xs, h3 with
   | [a, b, c], _ => exact ⟨a, b, c, rfl⟩
  simp only [gasR, htk] at hga
  obtain ⟨U, u1, u2, u3, u4, u5, u6, u7, u8⟩ := wc_U hlt a b c
  have hwl := wc_len hgl
  have hwt := wc_lt gs
  generalize wcL gs = WC at *
  have hql : (4 * gs.length + 4 ≤ 20) = True := by simp; omega
  have hql3 : (4 * gs.length + 3 + 1 ≤ 20) = True := by simp; omega
  have hql4 : (4 * gs.length + (3 + 1) ≤ 20) = True := by simp; omega
  have i0 : ∀ h, indexAddrD Tryz.prog h 62 (nmD [a, b, c]) (.int .i64 0) = some (.ref [.int .i64 a] 0) := fun h => nm_ix (xs := [a, b, c]) (i := 0) rfl h
  have i1 : ∀ h, indexAddrD Tryz.prog h 62 (nmD [a, b, c]) (.int .i64 1) = some (.ref [.int .i64 b] 0) := fun h => nm_ix (xs := [a, b, c]) (i := 1) rfl h
  have i2 : ∀ h, indexAddrD Tryz.prog h 62 (nmD [a, b, c]) (.int .i64 2) = some (.ref [.int .i64 c] 0) := fun h => nm_ix (xs := [a, b, c]) (i := 2) rfl h
  have bix := fun h => bsl_ix h hlt
  have wk := wrap_i64 (z := (k : Int) + 1) (by omega) (by omega)
  simp only [FS, ↓RE, okR, argEnv, Nat.reduceAdd, Nat.reduceSub, Nat.reduceLT, Nat.reduceLeDiff, Nat.reduceEqDiff, reduceIte, RT, RM, RG, ixs, ixn]
  refine call_of_pure' pT (by simp [D.ltL, D.lt]) (by simp [D.lt, D.ltL]) ?_
  simp only [FS, ↓RE, okR, argEnv, Nat.reduceAdd, Nat.reduceSub, Nat.reduceLT, Nat.reduceLeDiff, Nat.reduceEqDiff, reduceIte, RT, RM, RG]
  refine awg_peel (T := []) oNone_ok (by kernel_rfl) (by kernel_rfl) ?_
  simp only [FS, ↓RE, okR, argEnv, Nat.reduceAdd, Nat.reduceSub, Nat.reduceLT, Nat.reduceLeDiff, Nat.reduceEqDiff, reduceIte, RT, RM, RG, Bool.not_true]
  refine awg_peel (T := [(12, [(14, false, false, [])]), (15, [(14, false, false, [])]), (20, [(26, false, false, [])]), (27, [(18, false, false, [])])]) oNone_ok (by kernel_rfl) (by kernel_rfl) ?_
  simp only [FS, ↓RE, okR, argEnv, Nat.reduceAdd, Nat.reduceSub, Nat.reduceLT, Nat.reduceLeDiff, Nat.reduceEqDiff, reduceIte, RT, RM, RG, i0, i1, i2, bix, hwl, hql, u4]
  refine awg_peel (T := []) oNone_ok (by kernel_rfl) (by kernel_rfl) ?_
  simp only [FS, ↓RE, okR, argEnv, Nat.reduceAdd, Nat.reduceSub, Nat.reduceLT, Nat.reduceLeDiff, Nat.reduceEqDiff, reduceIte, RT, RM, RG, wk]
  refine awg_imp (by
   have := imp_nilB (n0 := 0) (env := [(2, .ptr 0 0), (3, .bool false), (4, .sl (L.map enT.d)), (6, .sl (namesB.map enT.d)), (7, .bsl 1 0 5 4), (8, .int .i64 ((k : Int) + 1)), (9, .int .i64 (manyB gs : Nat)), (10, .int .i64 (gs.length : Int))]) (h := [(1, .box (U .nils)), (0, .box (wcL []))]) (nid := 2) (n := 158) 1 (4 * gs.length + 3) (U .nils) 75 4 rfl (u2 _)
   rw [u7] at this
   exact (imp_head (by simp [headW, heapW, envW, blkLt, D.ltL, D.lt, look, hget, wc_lt, u6])).trans this) ?_
  refine awg_block ?_
  refine awg_loopI (ι := List Rd × Nat) (fun p => ⟨[(2, .ptr 0 0), (3, .bool false), (4, .sl (L.map enT.d)), (6, .sl (namesB.map enT.d)), (7, .bsl 1 0 5 4), (8, .int .i64 (p.2 : Int)), (9, .int .i64 ((manyB gs + p.1.length : Nat) : Int)), (10, .int .i64 (gs.length : Int))], [(2, .arr 75 4 (p.1.map Rd.d)), (1, .box (U (.osl 2 p.1.length))), (0, .box (wcL []))], 3, 158⟩)
   (fun p => rdsR (L.drop (k + 1)) = (p.1 ++ (rdsR (L.drop p.2)).1, (rdsR (L.drop p.2)).2) ∧ p.2 ≤ L.length ∧ manyB gs + p.1.length ≤ p.2) (fun p => L.length - p.2) ([], k + 1) ⟨rfl, hk, by show manyB gs + 0 ≤ k + 1; omega⟩ (imp_head (by simp [headW, heapW, envW, blkLt, D.ltL, D.lt, look, hget, Sx.hset, wc_lt, u6])) ?_
  rintro ⟨rs, j⟩ ⟨hrd, hjl, hmj⟩
  dsimp only at hrd hjl hmj ⊢
  have fin : ∀ env' h' nid', rdsR (L.drop j) = ([], L.drop j) → Imp 0 ⟨env', h', nid', 158⟩ ⟨[(2, .ptr 0 0), (3, .bool false), (4, .sl (L.map enT.d)), (6, .sl (namesB.map enT.d)), (7, .bsl 1 0 5 4), (8, .int .i64 (j : Int)), (9, .int .i64 ((manyB gs + rs.length : Nat) : Int)), (10, .int .i64 ((gs.length : Int) + 1))], [(2, .arr 75 4 (rs.map Rd.d)), (1, .box (U (.osl 2 rs.length))), (0, .box (wcL []))], 3, 158⟩ → ∃ p : List Ga × Nat, (p.1.length ≤ 5 ∧ gasR namesB L = (gasR (namesB.drop p.1.length) (L.drop p.2)).map (fun q => (p.1 ++ q.1, q.2)) ∧ p.2 ≤ L.length ∧ manyB p.1 ≤ p.2) ∧ 5 - p.1.length < 5 - gs.length ∧
   Imp 0 ⟨env', h', nid', 158⟩ ⟨[(2, .ptr 0 0), (3, .bool false), (4, .sl (L.map enT.d)), (6, .sl (namesB.map enT.d)), (7, .bsl 1 0 5 4), (8, .int .i64 (p.2 : Int)), (9, .int .i64 (manyB p.1 : Nat)), (10, .int .i64 (p.1.length : Int))], [(1, .box (wcL p.1)), (0, .box (wcL []))], 2, 158⟩ := fun env' h' nid' hr hi => by
   refine ⟨(gs ++ [⟨a, b, c, rs⟩], j), ⟨by simp; omega, ?_, hjl, by simp [manyB] at hmj ⊢; omega⟩, by simp; omega, hi.trans (imp_thaw 2 (imp_head ?_))⟩
   ·rw [hga, hrd, hr]
    simp only [List.append_nil, Option.map_map, List.length_append, List.length_singleton]
    congr 1
    funext p
    simp
   ·have u9 := u5 rs
    have hz : (wcL []).map (frzD [(2, .arr 75 4 (rs.map Rd.d)), (1, .box (U (.osl 2 rs.length))), (0, .box (wcL []))] [(1, .box (U (.osl 2 rs.length))), (0, .box (wcL []))]) = wcL [] := rfl
    simp [headW, heapW, envW, blkLt, D.ltL, D.lt, look, hget, frzHH, frzBlk, herase, u8, fz_int, fz_sl, fz_ref, fz_ptr, fz_osl, fzC_arr, fzC_some, fz_bool, fz_nils, fz_agg, u6, ← u9, manyB, hz, wc_lt]
    exact ⟨rfl, rfl⟩
  have wi := wrap_i64 (z := (gs.length : Int) + 1) (by omega) (by omega)
  refine awg_peel (T := []) oNone_ok (by kernel_rfl) (by kernel_rfl) ?_
  rcases Nat.lt_or_ge j L.length with hj | hj
  rotate_left
  ·have hq : ((j : Int) < (L.length : Int)) = False := by simp; omega
   simp only [FS, ↓RE, okR, argEnv, Nat.reduceAdd, Nat.reduceSub, Nat.reduceLT, Nat.reduceLeDiff, Nat.reduceEqDiff, reduceIte, RT, RM, RG, List.length_map, hq, decide_false]
   refine awg_restT (T := []) oNone_ok rfl ?_
   simp only [FS, ↓RE, okR, argEnv, Nat.reduceAdd, Nat.reduceSub, Nat.reduceLT, Nat.reduceLeDiff, Nat.reduceEqDiff, reduceIte, RT, RM, RG, wi]
   exact fin _ _ _ (by rw [List.drop_of_length_le hj]; rfl) (imp_head (by simp [headW, heapW, envW, blkLt, D.ltL, D.lt, look, hget, Sx.hset, wc_lt, u6]))
  have hq : ((j : Int) < (L.length : Int)) = True := by simp [hj]
  obtain ⟨s2, hs2⟩ : ∃ s, L[j]? = some s := ⟨L[j], by simp [hj]⟩
  have ixs2 := fun h => tx_ix (ls := L) (i := j) hs2 h
  have pT2 := rtake_t s2 bRead 4 (hsp s2 (List.mem_of_getElem? hs2)) (by omega)
  unfold takR at pT2
  rw [drop_atB hs2] at hrd fin
  simp only [FS, ↓RE, okR, argEnv, Nat.reduceAdd, Nat.reduceSub, Nat.reduceLT, Nat.reduceLeDiff, Nat.reduceEqDiff, reduceIte, RT, RM, RG, List.length_map, hq, decide_true]
  refine awg_block ?_
  by_cases ht2 : takB s2 bRead 4 = none
  ·rw [ht2] at pT2
   refine awg_peel (T := []) oNone_ok (by kernel_rfl) (by kernel_rfl) ?_
   simp only [FS, ↓RE, okR, argEnv, Nat.reduceAdd, Nat.reduceSub, Nat.reduceLT, Nat.reduceLeDiff, Nat.reduceEqDiff, reduceIte, RT, RM, RG, ixs2]
   refine call_of_pure pT2 rfl ?_
   simp only [FS, ↓RE, okR, argEnv, Nat.reduceAdd, Nat.reduceSub, Nat.reduceLT, Nat.reduceLeDiff, Nat.reduceEqDiff, reduceIte, RT, RM, RG]
   refine awg_peel (T := []) oNone_ok (by kernel_rfl) (by kernel_rfl) ?_
   simp only [FS, ↓RE, okR, argEnv, Nat.reduceAdd, Nat.reduceSub, Nat.reduceLT, Nat.reduceLeDiff, Nat.reduceEqDiff, reduceIte, RT, RM, RG, Bool.not_false]
   refine awg_restT (T := []) oNone_ok rfl ?_
   simp only [FS, ↓RE, okR, argEnv, Nat.reduceAdd, Nat.reduceSub, Nat.reduceLT, Nat.reduceLeDiff, Nat.reduceEqDiff, reduceIte, RT, RM, RG, wi]
   refine fin _ _ _ (by rw [rdsR_cons, ht2]) (imp_head (by simp [headW, heapW, envW, blkLt, D.ltL, D.lt, look, hget, Sx.hset, wc_lt, u6]))
  ·clear fin
   obtain ⟨x0, x1, x2, x3, ht2⟩ := tk_four ht2
   rw [ht2] at pT2
   rw [rdsR_cons, ht2] at hrd
   have wj := wrap_i64 (z := (j : Int) + 1) (by omega) (by omega)
   have wm := wrap_i64 (z := ((manyB gs + rs.length : Nat) : Int) + 1) (by omega) (by omega)
   have j0 : ∀ h, indexAddrD Tryz.prog h 62 (nmD [x0, x1, x2, x3]) (.int .i64 0) = some (.ref [.int .i64 x0] 0) := fun h => nm_ix (xs := [x0, x1, x2, x3]) (i := 0) rfl h
   have j1 : ∀ h, indexAddrD Tryz.prog h 62 (nmD [x0, x1, x2, x3]) (.int .i64 1) = some (.ref [.int .i64 x1] 0) := fun h => nm_ix (xs := [x0, x1, x2, x3]) (i := 1) rfl h
   have j2 : ∀ h, indexAddrD Tryz.prog h 62 (nmD [x0, x1, x2, x3]) (.int .i64 2) = some (.ref [.int .i64 x2] 0) := fun h => nm_ix (xs := [x0, x1, x2, x3]) (i := 2) rfl h
   have j3 : ∀ h, indexAddrD Tryz.prog h 62 (nmD [x0, x1, x2, x3]) (.int .i64 3) = some (.ref [.int .i64 x3] 0) := fun h => nm_ix (xs := [x0, x1, x2, x3]) (i := 3) rfl h
   have li := fun h => litD_agg (P := Tryz.prog) Fz.und_25 Fz.size_75 Fz.zero_75 rfl (by omega) (by omega) h [.int .i64 x0, .int .i64 x1, .int .i64 x2, .int .i64 x3] rfl rfl
   have ha := fun h nid (hb : hget h 2 = some (.arr 75 4 (rs.map Rd.d))) => app_sl (P := Tryz.prog) (h := h) (nid := nid) (b := 2) (n := rs.length) (xs := [[.int .i64 x0, .int .i64 x1, .int .i64 x2, .int .i64 x3]]) Fz.und_25 Fz.size_75 Fz.zero_75 rfl (by omega) Fz.bytes_75_25 hb (List.length_map _).symm rfl (by simp; omega) (by simp; omega)
   refine awg_peel (T := []) oNone_ok (by kernel_rfl) (by kernel_rfl) ?_
   simp only [FS, ↓RE, okR, argEnv, Nat.reduceAdd, Nat.reduceSub, Nat.reduceLT, Nat.reduceLeDiff, Nat.reduceEqDiff, reduceIte, RT, RM, RG, ixs2]
   refine call_of_pure' pT2 (by simp [D.ltL, D.lt]) (by simp [D.lt, D.ltL]) ?_
   simp only [FS, ↓RE, okR, argEnv, Nat.reduceAdd, Nat.reduceSub, Nat.reduceLT, Nat.reduceLeDiff, Nat.reduceEqDiff, reduceIte, RT, RM, RG]
   refine awg_peel (T := []) oNone_ok (by kernel_rfl) (by kernel_rfl) ?_
   simp only [FS, ↓RE, okR, argEnv, Nat.reduceAdd, Nat.reduceSub, Nat.reduceLT, Nat.reduceLeDiff, Nat.reduceEqDiff, reduceIte, RT, RM, RG, Bool.not_true]
   refine awg_peel (T := [(12, [(14, false, false, [])]), (15, [(14, false, false, [])]), (20, [(26, false, false, [])]), (27, [(18, false, false, [])])]) oNone_ok (by kernel_rfl) (by kernel_rfl) ?_
   simp only [FS, ↓RE, okR, argEnv, Nat.reduceAdd, Nat.reduceSub, Nat.reduceLT, Nat.reduceLeDiff, Nat.reduceEqDiff, reduceIte, RT, RM, RG, j0, j1, j2, j3, bix, u1, u2, u3, hql3, hql4, li, ha, cells_osl, cur_osl, curC_arr, List.length_append, List.length_map, List.length_cons, List.length_nil, decide_true]
   refine awg_restT (T := []) oNone_ok rfl ?_
   simp only [FS, ↓RE, okR, argEnv, Nat.reduceAdd, Nat.reduceSub, Nat.reduceLT, Nat.reduceLeDiff, Nat.reduceEqDiff, reduceIte, RT, RM, RG, wj, wm]
   refine ⟨(rs ++ [⟨x0, x1, x2, x3⟩], j + 1), ⟨?_, hj, by simp; omega⟩, by show L.length - (j + 1) < L.length - j; omega, imp_head ?_⟩
   ·rw [hrd]; simp
   ·simp [headW, heapW, envW, blkLt, D.ltL, D.lt, look, hget, u6, Rd.d, wc_lt]
    omega
 have hc : ((gs.length : Int) < 5) = False := by simp; omega
 have h5 : gs.length = 5 := by omega
 have hdr : namesB.drop gs.length = [] := List.drop_of_length_le (by simp [namesB]; omega)
 rw [hdr] at hga
 have hga : gasR namesB L = some (gs ++ [], L.drop k) := hga
 rw [List.append_nil] at hga
 rw [hga] at hS
 dsimp only at hS
 clear hga hdr
 refine awg_peel (T := []) oNone_ok (by kernel_rfl) (by kernel_rfl) ?_
 simp only [FS, ↓RE, okR, argEnv, Nat.reduceAdd, Nat.reduceSub, Nat.reduceLT, Nat.reduceLeDiff, Nat.reduceEqDiff, reduceIte, RT, RM, RG, List.length_map, hnl, hc, decide_false]
 have wl := wrap_i64 (z := (L.length : Int) - 1) (by omega) (by omega)
 refine awg_peel (T := []) oNone_ok (by kernel_rfl) (by kernel_rfl) ?_
 by_cases hk1 : k + 1 = L.length
 rotate_left
 ·have hne : ((k : Int) != (L.length : Int) - 1) = true := by simp; omega
  have e := hno (by
   rw [hS, if_neg]
   have hdl : (L.drop k).length = L.length - k := by simp
   match hd : L.drop k with
   | [] => simp [endB]
   | [s] => rw [hd] at hdl; simp at hdl; omega
   | _ :: _ :: _ => simp [endB])
  simp only [FS, ↓RE, okR, argEnv, Nat.reduceAdd, Nat.reduceSub, Nat.reduceLT, Nat.reduceLeDiff, Nat.reduceEqDiff, reduceIte, RT, RM, RG, List.length_map, wl, hne, wc_zero]
  rw [e]; rfl
 have hne : ((k : Int) != (L.length : Int) - 1) = false := by simp; omega
 simp only [FS, ↓RE, okR, argEnv, Nat.reduceAdd, Nat.reduceSub, Nat.reduceLT, Nat.reduceLeDiff, Nat.reduceEqDiff, reduceIte, RT, RM, RG, List.length_map, wl, hne]
 obtain ⟨s, hs⟩ : ∃ s, L[k]? = some s := ⟨L[k]'(by omega), by simp⟩
 have ixs := fun h => tx_ix (ls := L) (i := k) hs h
 have pT := rtake_t s bEnd 1 (hsp s (List.mem_of_getElem? hs)) (by omega)
 unfold takR at pT
 rw [drop_atB hs, List.drop_of_length_le (by omega)] at hS
 cases htk : takB s bEnd 1 with
 | none =>
  have e := hno (by rw [hS, if_neg]; simp [endB, htk])
  rw [htk] at pT
  refine awg_peel (T := []) oNone_ok (by kernel_rfl) (by kernel_rfl) ?_
  simp only [FS, ↓RE, okR, argEnv, Nat.reduceAdd, Nat.reduceSub, Nat.reduceLT, Nat.reduceLeDiff, Nat.reduceEqDiff, reduceIte, RT, RM, RG, ixs]
  refine call_of_pure pT rfl ?_
  simp only [FS, ↓RE, okR, argEnv, Nat.reduceAdd, Nat.reduceSub, Nat.reduceLT, Nat.reduceLeDiff, Nat.reduceEqDiff, reduceIte, RT, RM, RG]
  refine awg_peel (T := []) oNone_ok (by kernel_rfl) (by kernel_rfl) ?_
  simp only [FS, ↓RE, okR, argEnv, Nat.reduceAdd, Nat.reduceSub, Nat.reduceLT, Nat.reduceLeDiff, Nat.reduceEqDiff, reduceIte, RT, RM, RG, Bool.not_false, wc_zero]
  rw [e]; rfl
 | some xs =>
 rw [htk] at pT
 have h1 := take_len bEnd_32 htk
 obtain ⟨z, rfl⟩ : ∃ z, xs = [z] := by
  match xs, h1 with
  | [z], _ => exact ⟨z, rfl⟩
 have k0 : ∀ h, indexAddrD Tryz.prog h 62 (nmD [z]) (.int .i64 0) = some (.ref [.int .i64 z] 0) := fun h => nm_ix (xs := [z]) (i := 0) rfl h
 refine awg_peel (T := []) oNone_ok (by kernel_rfl) (by kernel_rfl) ?_
 simp only [FS, ↓RE, okR, argEnv, Nat.reduceAdd, Nat.reduceSub, Nat.reduceLT, Nat.reduceLeDiff, Nat.reduceEqDiff, reduceIte, RT, RM, RG, ixs]
 refine call_of_pure' pT (by simp [D.ltL, D.lt]) (by simp [D.lt, D.ltL]) ?_
 simp only [FS, ↓RE, okR, argEnv, Nat.reduceAdd, Nat.reduceSub, Nat.reduceLT, Nat.reduceLeDiff, Nat.reduceEqDiff, reduceIte, RT, RM, RG]
 refine awg_peel (T := []) oNone_ok (by kernel_rfl) (by kernel_rfl) ?_
 by_cases hz : z = (manyB gs : Nat)
 rotate_left
 ·have q1 : (z != ((manyB gs : Nat) : Int)) = true := by simp [hz]
  have e := hno (by rw [hS, if_neg]; simp [endB, htk, hz])
  simp only [FS, ↓RE, okR, argEnv, Nat.reduceAdd, Nat.reduceSub, Nat.reduceLT, Nat.reduceLeDiff, Nat.reduceEqDiff, reduceIte, RT, RM, RG, Bool.not_true, k0, q1, wc_zero]
  rw [e]; rfl
 have q1 : (z != ((manyB gs : Nat) : Int)) = false := by simp [hz]
 have hyes : SS = some gs := by rw [hS, if_pos]; simp [endB, htk, hz]
 rw [hyes] at hR
 simp only [FS, ↓RE, okR, argEnv, Nat.reduceAdd, Nat.reduceSub, Nat.reduceLT, Nat.reduceLeDiff, Nat.reduceEqDiff, reduceIte, RT, RM, RG, Bool.not_true, k0, q1]
 clear hS hyes hno hmk
 match gs, h5 with
 | [g0, g1, g2, g3, g4], _ =>
 have bi0 : ∀ h, indexAddrD Tryz.prog h 120 (.bsl 1 0 5 4) (.int .i64 0) = some (.ptr 1 0) := fun h => bsl_ix h (i := 0) (by omega)
 have bi1 : ∀ h, indexAddrD Tryz.prog h 120 (.bsl 1 0 5 4) (.int .i64 1) = some (.ptr 1 4) := fun h => bsl_ix h (i := 1) (by omega)
 have bi2 : ∀ h, indexAddrD Tryz.prog h 120 (.bsl 1 0 5 4) (.int .i64 2) = some (.ptr 1 8) := fun h => bsl_ix h (i := 2) (by omega)
 have bi3 : ∀ h, indexAddrD Tryz.prog h 120 (.bsl 1 0 5 4) (.int .i64 3) = some (.ptr 1 12) := fun h => bsl_ix h (i := 3) (by omega)
 have bi4 : ∀ h, indexAddrD Tryz.prog h 120 (.bsl 1 0 5 4) (.int .i64 4) = some (.ptr 1 16) := fun h => bsl_ix h (i := 4) (by omega)
 have hexp : wcL [g0, g1, g2, g3, g4] = [.int .i64 g0.rate, .int .i64 g0.least, .int .i64 g0.most, .sl (g0.rs.map Rd.d), .int .i64 g1.rate, .int .i64 g1.least, .int .i64 g1.most, .sl (g1.rs.map Rd.d), .int .i64 g2.rate, .int .i64 g2.least, .int .i64 g2.most, .sl (g2.rs.map Rd.d),
  .int .i64 g3.rate, .int .i64 g3.least, .int .i64 g3.most, .sl (g3.rs.map Rd.d), .int .i64 g4.rate, .int .i64 g4.least, .int .i64 g4.most, .sl (g4.rs.map Rd.d)] := rfl
 rw [hexp]
 clear hga
 refine awg_peel (T := [(12, [(14, false, false, [])]), (15, [(14, false, false, [])]), (20, [(26, false, false, [])]), (27, [(18, false, false, [])])]) oNone_ok (by kernel_rfl) (by kernel_rfl) ?_
 simp only [FS, ↓RE, okR, argEnv, Nat.reduceAdd, Nat.reduceSub, Nat.reduceLT, Nat.reduceLeDiff, Nat.reduceEqDiff, reduceIte, RT, RM, RG, bi0, bi1, bi2, bi3, bi4, wc_zero]
 refine awg_restT (T := []) oNone_ok rfl ?_
 simp only [FS, ↓RE, okR, argEnv, Nat.reduceAdd, Nat.reduceSub, Nat.reduceLT, Nat.reduceLeDiff, Nat.reduceEqDiff, reduceIte, RT, RM, RG]
 rw [hR]
 rfl
end Go.Sx
