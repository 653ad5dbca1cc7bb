/- Contracts by which the examples of the package are evaluated. Own work. -/
import Derived.Test.YtjhoplbdpdbgaaaDoorSxMd
import Derived.Test.YtjhoplbdpdbgaaaDoorSxFd
set_option linter.unusedVariables false
set_option linter.unusedSimpArgs false
namespace Go.Sx
open Go.Proofs
set_option maxRecDepth 10000
theorem shr_nat (n i : Nat) (hi : i ≤ 64) : ((n : Int).fdiv (2 ^ (min i IntKind.i64.bits))) = ((n / 2 ^ i : Nat) : Int) := by
  rw [show min i IntKind.i64.bits = i from Nat.min_eq_left hi]
  rw [Int.fdiv_eq_ediv_of_nonneg _ (by exact Int.pow_nonneg (by omega))]
  simp

/-- The bits of a number. -/
def bitsTo (n i : Nat) : List Nat := (List.range i).filter fun j => n / 2 ^ j % 2 == 1
def intL (l : List Nat) : List (List D) := l.map fun (j : Nat) => [D.int .i64 (j : Int)]

theorem bitsTo_succ (n i : Nat) : bitsTo n (i + 1) = if n / 2 ^ i % 2 = 1 then bitsTo n i ++ [i] else bitsTo n i := by
  simp only [bitsTo, List.range_succ, List.filter_append, List.filter_cons, List.filter_nil, beq_iff_eq]
  split <;> simp

theorem bitsTo_stop (n i k : Nat) (h : n / 2 ^ i = 0) : bitsTo n (i + k) = bitsTo n i := by
  induction k with
  | zero => rfl
  | succ k ih =>
    rw [← Nat.add_assoc, bitsTo_succ, ih, Nat.pow_add, ← Nat.div_div_eq_div_mul, h]
    simp

theorem listed_t (n : Nat) (hn : n < 256) : Pure Tryd.prog 40 [.int .i64 (n : Int)] (.sl (intL (bitsTo n 8))) := by
  refine pure_of_wc (rs := [.tmp 2]) (m := 21) [] oNone_ok (by kernel_rfl) Tryd.func40 rfl (by kernel_rfl) rfl rfl (by kernel_rfl) ?_
  simp only [↓wc_skip, ↓wc_label, ↓wc_exit, ↓wc_ret, ↓wc_seq, ↓wc_block, ↓wc_scope, ↓wc_region, ↓wc_draw, ↓wc_cond, ↓wc_loop, ↓wc_rangeFunc, ↓condZ_true, ↓condZ_false, ↓condZ_bool, ↓BR_true, ↓BR_false,
    ↓thenQ_normal, ↓thenQ_exit, ↓thenQ_ret, ↓blockQ_normal, ↓blockQ_exit_same, ↓blockQ_exit_ne, ↓blockQ_ret, ↓wcOps_nil, ↓wcOps_cons, ↓wcOps_guard, ↓guardZ_true, ↓guardZ_false, ↓guardZ_true', ↓guardZ_false', ↓guardZ_bool_true, ↓guardZ_bool_false, ↓guardZ_off,
    ↓slotZ_some, ↓Zo_some, Z_eq, Zo_ite, annOf_cons, annOf_nil, ↓drawZ_some, ↓drawZ_none, ↓anyK_nil, ↓anyK_consF, ↓anyK_consR, ↓anyK_consA, ↓phK_nil, ↓phK_cons, ↓phK_guard, ↓phK_consT, ↓phK_guardT, ↓reK_nil, ↓reK_cons, ↓adopt_nil, ↓adopt_alloc, ↓endK_normal, ↓endK_ret,
    ↓r_move, ↓r_assign, ↓r_pick, ↓r_nilCheck, ↓r_binOp, ↓r_neg, ↓r_not, ↓r_convert, ↓r_makeMap, ↓r_mapUpdate, ↓r_insert, ↓r_lookup, ↓r_extract, ↓r_makeFunc, ↓r_iface, ↓r_fieldAddr, ↓r_field, ↓r_index, ↓r_indexAddr, ↓r_load, ↓r_slice, ↓r_build, ↓r_len, ↓r_max, ↓r_min, ↓r_append, ↓r_alloc, ↓r_float, ↓r_box, ↓r_store, ↓r_lit, ↓r_litD, ↓r_call, ↓r_callv, ↓calleeZ_fn, ↓callZ_none, callZ_some, mkO_cons, mkO_nil, okR, flat_int, flat_bool, flat_str, flat_agg, flat_tup, flatL_nil, flatL_cons, Bool.true_or, Bool.or_true, oNone_eq,
    litF_eq, selF_true, selF_false, po_nil, po_cons, io_int, io_bool, io_str, io_agg, io_nils, io_sl, io_ref, io_ptr, io_fn, io_nilp, io_nilf, io_nili, io_ifc, io_mp, slotOf_zero, slotOf_succ, look_same, look_ne, put_some, put_none, evO_tmp, evO_const, evO_func, vD_int, vD_bool, vD_string, vD_nils, vD_nilp, hget_same, hget_ne, hset_same, hset_ne,
    bin_int, bin_str, a_add, a_sub, a_mul, a_eql, a_neq, a_lss, a_leq, a_gtr, a_geq, pick_true, pick_false, not_bool, neg_int, at_ptr, at_ref, boxL_box, load_ptr, load_ref, box_of, boxB_some, cells_agg, cells_int, cells_bool, cells_str, cells_sl, cells_nils, cells_nilp, cells_nilf, cells_nili, cells_ptr, cells_ref, cells_fn, cells_ifc,
    stB_box, stC_some, cur_int, cur_bool, cur_str, cur_sl, cur_nils, cur_nilp, cur_nilf, cur_nili, cur_ptr, cur_ref, cur_fn, cur_ifc, fill_nil, fill_cons, fillB_some, res_tmp, res_nil, res_cell, resB_some, tup_one, tup_two, view_int, view_bool, view_str, view_sl, view_nils, view_ref, view_ptr, view_osl, view_fn, viewB_box, viewA_arr, ltL_nil, ltL_cons, lt_int, lt_bool, lt_str, lt_sl, lt_nils, lt_agg, lt_tup, lt_ref, view_agg, view_tup, viewL_nil, viewL_cons, max_int, min_int, putL_zero, putL_nil, putL_succ, ↓rev_off, ↓rev_fieldAddr, ↓rev_load, ↓rev_indexAddr, ↓rev_build, ↓rev_litD, ↓rev_slice, ↓rev_nilCheck, ↓rev_len, ↓rev_convert, ↓rev_lookup, ↓rev_max, ↓rev_min, ↓rev_call,
    argEnv, List.length_cons, List.length_nil, List.map_cons, List.map_nil, List.getElem?_cons_zero, List.getElem?_cons_succ, List.drop_zero, List.drop_succ_cons, List.take_succ_cons, List.take_zero, List.all_cons, List.all_nil, Option.map_some, Bool.and_self, Bool.and_true, true_and, and_true, and_self, Nat.reduceAdd, Nat.reduceSub, Nat.reduceLT, Nat.reduceLeDiff, Nat.reduceEqDiff, Nat.zero_add, Nat.add_zero, ne_eq, not_false_eq_true, reduceIte, Bool.not_true, Bool.not_false, Nat.le_refl, loadD_one Fz.agg_3 Fz.size_3, partD_one Fz.agg_3 Fz.size_3, store_ptr Fz.size_3, alloc_of Fz.zero_3, Fz.zero_3, loadD_one Fz.agg_25 Fz.size_25, partD_one Fz.agg_25 Fz.size_25, store_ptr Fz.size_25, alloc_of Fz.zero_25, Fz.zero_25, len_sl Fz.und_25, len_nils Fz.und_25, lit_int Fz.und_25 Fz.size_3 Fz.zero_3]
  refine loopNil 3 3 1 rfl ?_
  refine loopV (ι := Nat) oNone_ok [] (fun i => [(0, .int .i64 (n : Int)), (3, .osl 0 (intL (bitsTo n i)).length), (4, .int .i64 (i : Int))])
    (fun i => [(0, .arr 3 1 (intL (bitsTo n i)))]) 1 (fun i => i ≤ 8) (fun i => 9 - i) 0 (by kernel_rfl) (by kernel_rfl) (by omega) ?_ ?_
  · simp [headW, heapW, envW, blkLt, D.lt, look, hget, eset_nil, eset_cons, bitsTo, intL]
  intro i hi
  have hs := shr_nat n i (by omega)
  have hlen : (bitsTo n i).length ≤ i := by simpa [bitsTo] using List.length_filter_le (fun j => n / 2 ^ j % 2 == 1) (List.range i)
  by_cases h0 : n / 2 ^ i = 0
  · have hc : decide ((0 : Int) < ((n / 2 ^ i : Nat) : Int)) = false := by simp [h0]
    simp only [↓wc_skip, ↓wc_label, ↓wc_exit, ↓wc_ret, ↓wc_seq, ↓wc_block, ↓wc_scope, ↓wc_region, ↓wc_draw, ↓wc_cond, ↓wc_loop, ↓wc_rangeFunc, ↓condZ_true, ↓condZ_false, ↓condZ_bool, ↓BR_true, ↓BR_false,
    ↓thenQ_normal, ↓thenQ_exit, ↓thenQ_ret, ↓blockQ_normal, ↓blockQ_exit_same, ↓blockQ_exit_ne, ↓blockQ_ret, ↓wcOps_nil, ↓wcOps_cons, ↓wcOps_guard, ↓guardZ_true, ↓guardZ_false, ↓guardZ_true', ↓guardZ_false', ↓guardZ_bool_true, ↓guardZ_bool_false, ↓guardZ_off,
    ↓slotZ_some, ↓Zo_some, Z_eq, Zo_ite, annOf_cons, annOf_nil, ↓drawZ_some, ↓drawZ_none, ↓anyK_nil, ↓anyK_consF, ↓anyK_consR, ↓anyK_consA, ↓phK_nil, ↓phK_cons, ↓phK_guard, ↓phK_consT, ↓phK_guardT, ↓reK_nil, ↓reK_cons, ↓adopt_nil, ↓adopt_alloc, ↓endK_normal, ↓endK_ret,
    ↓r_move, ↓r_assign, ↓r_pick, ↓r_nilCheck, ↓r_binOp, ↓r_neg, ↓r_not, ↓r_convert, ↓r_makeMap, ↓r_mapUpdate, ↓r_insert, ↓r_lookup, ↓r_extract, ↓r_makeFunc, ↓r_iface, ↓r_fieldAddr, ↓r_field, ↓r_index, ↓r_indexAddr, ↓r_load, ↓r_slice, ↓r_build, ↓r_len, ↓r_max, ↓r_min, ↓r_append, ↓r_alloc, ↓r_float, ↓r_box, ↓r_store, ↓r_lit, ↓r_litD, ↓r_call, ↓r_callv, ↓calleeZ_fn, ↓callZ_none, callZ_some, mkO_cons, mkO_nil, okR, flat_int, flat_bool, flat_str, flat_agg, flat_tup, flatL_nil, flatL_cons, Bool.true_or, Bool.or_true, oNone_eq,
    litF_eq, selF_true, selF_false, po_nil, po_cons, io_int, io_bool, io_str, io_agg, io_nils, io_sl, io_ref, io_ptr, io_fn, io_nilp, io_nilf, io_nili, io_ifc, io_mp, slotOf_zero, slotOf_succ, look_same, look_ne, put_some, put_none, evO_tmp, evO_const, evO_func, vD_int, vD_bool, vD_string, vD_nils, vD_nilp, hget_same, hget_ne, hset_same, hset_ne,
    bin_int, bin_str, a_add, a_sub, a_mul, a_eql, a_neq, a_lss, a_leq, a_gtr, a_geq, pick_true, pick_false, not_bool, neg_int, at_ptr, at_ref, boxL_box, load_ptr, load_ref, box_of, boxB_some, cells_agg, cells_int, cells_bool, cells_str, cells_sl, cells_nils, cells_nilp, cells_nilf, cells_nili, cells_ptr, cells_ref, cells_fn, cells_ifc,
    stB_box, stC_some, cur_int, cur_bool, cur_str, cur_sl, cur_nils, cur_nilp, cur_nilf, cur_nili, cur_ptr, cur_ref, cur_fn, cur_ifc, fill_nil, fill_cons, fillB_some, res_tmp, res_nil, res_cell, resB_some, tup_one, tup_two, view_int, view_bool, view_str, view_sl, view_nils, view_ref, view_ptr, view_osl, view_fn, viewB_box, viewA_arr, ltL_nil, ltL_cons, lt_int, lt_bool, lt_str, lt_sl, lt_nils, lt_agg, lt_tup, lt_ref, view_agg, view_tup, viewL_nil, viewL_cons, max_int, min_int, putL_zero, putL_nil, putL_succ, ↓rev_off, ↓rev_fieldAddr, ↓rev_load, ↓rev_indexAddr, ↓rev_build, ↓rev_litD, ↓rev_slice, ↓rev_nilCheck, ↓rev_len, ↓rev_convert, ↓rev_lookup, ↓rev_max, ↓rev_min, ↓rev_call,
    argEnv, List.length_cons, List.length_nil, List.map_cons, List.map_nil, List.getElem?_cons_zero, List.getElem?_cons_succ, List.drop_zero, List.drop_succ_cons, List.take_succ_cons, List.take_zero, List.all_cons, List.all_nil, Option.map_some, Bool.and_self, Bool.and_true, true_and, and_true, and_self, Nat.reduceAdd, Nat.reduceSub, Nat.reduceLT, Nat.reduceLeDiff, Nat.reduceEqDiff, Nat.zero_add, Nat.add_zero, ne_eq, not_false_eq_true, reduceIte, Bool.not_true, Bool.not_false, Nat.le_refl, loadD_one Fz.agg_3 Fz.size_3, partD_one Fz.agg_3 Fz.size_3, store_ptr Fz.size_3, alloc_of Fz.zero_3, Fz.zero_3, loadD_one Fz.agg_25 Fz.size_25, partD_one Fz.agg_25 Fz.size_25, store_ptr Fz.size_25, alloc_of Fz.zero_25, Fz.zero_25, len_sl Fz.und_25, len_nils Fz.und_25, lit_int Fz.und_25 Fz.size_3 Fz.zero_3, a_shr, hs, hc]
    simp [view, hget]
    have h8 := bitsTo_stop n i (8 - i) h0
    rw [show i + (8 - i) = 8 by omega] at h8
    rw [h8]
  · have hc : decide ((0 : Int) < ((n / 2 ^ i : Nat) : Int)) = true := decide_eq_true (by exact_mod_cast Nat.pos_of_ne_zero h0)
    have hlt : i < 8 := by
      rcases Nat.lt_or_ge i 8 with h | h
      · exact h
      · have : i = 8 := by omega
        subst this
        exact absurd (Nat.div_eq_of_lt hn) h0
    have hw := wrap_i64 (z := (i : Int) + 1) (by omega) (by omega)
    by_cases h1 : n / 2 ^ i % 2 = 1
    · have hb : (((n / 2 ^ i % 2 : Nat) : Int) == 1) = true := by simp [h1]
      have ha := app_osl (P := Tryd.prog) Fz.und_25 Fz.size_3 Fz.zero_3 rfl (by omega) Fz.bytes_3_25 [(1, .arr 3 1 [[.int .i64 (i : Int)]]), (0, .arr 3 1 (intL (bitsTo n i)))] 2 0 (intL (bitsTo n i)).length 1 1 (es := intL (bitsTo n i)) (xs := [[.int .i64 (i : Int)]]) rfl rfl rfl rfl rfl
        (by simp [intL]; omega) (by simp [intL]; omega)
      simp only [↓wc_skip, ↓wc_label, ↓wc_exit, ↓wc_ret, ↓wc_seq, ↓wc_block, ↓wc_scope, ↓wc_region, ↓wc_draw, ↓wc_cond, ↓wc_loop, ↓wc_rangeFunc, ↓condZ_true, ↓condZ_false, ↓condZ_bool, ↓BR_true, ↓BR_false,
    ↓thenQ_normal, ↓thenQ_exit, ↓thenQ_ret, ↓blockQ_normal, ↓blockQ_exit_same, ↓blockQ_exit_ne, ↓blockQ_ret, ↓wcOps_nil, ↓wcOps_cons, ↓wcOps_guard, ↓guardZ_true, ↓guardZ_false, ↓guardZ_true', ↓guardZ_false', ↓guardZ_bool_true, ↓guardZ_bool_false, ↓guardZ_off,
    ↓slotZ_some, ↓Zo_some, Z_eq, Zo_ite, annOf_cons, annOf_nil, ↓drawZ_some, ↓drawZ_none, ↓anyK_nil, ↓anyK_consF, ↓anyK_consR, ↓anyK_consA, ↓phK_nil, ↓phK_cons, ↓phK_guard, ↓phK_consT, ↓phK_guardT, ↓reK_nil, ↓reK_cons, ↓adopt_nil, ↓adopt_alloc, ↓endK_normal, ↓endK_ret,
    ↓r_move, ↓r_assign, ↓r_pick, ↓r_nilCheck, ↓r_binOp, ↓r_neg, ↓r_not, ↓r_convert, ↓r_makeMap, ↓r_mapUpdate, ↓r_insert, ↓r_lookup, ↓r_extract, ↓r_makeFunc, ↓r_iface, ↓r_fieldAddr, ↓r_field, ↓r_index, ↓r_indexAddr, ↓r_load, ↓r_slice, ↓r_build, ↓r_len, ↓r_max, ↓r_min, ↓r_append, ↓r_alloc, ↓r_float, ↓r_box, ↓r_store, ↓r_lit, ↓r_litD, ↓r_call, ↓r_callv, ↓calleeZ_fn, ↓callZ_none, callZ_some, mkO_cons, mkO_nil, okR, flat_int, flat_bool, flat_str, flat_agg, flat_tup, flatL_nil, flatL_cons, Bool.true_or, Bool.or_true, oNone_eq,
    litF_eq, selF_true, selF_false, po_nil, po_cons, io_int, io_bool, io_str, io_agg, io_nils, io_sl, io_ref, io_ptr, io_fn, io_nilp, io_nilf, io_nili, io_ifc, io_mp, slotOf_zero, slotOf_succ, look_same, look_ne, put_some, put_none, evO_tmp, evO_const, evO_func, vD_int, vD_bool, vD_string, vD_nils, vD_nilp, hget_same, hget_ne, hset_same, hset_ne,
    bin_int, bin_str, a_add, a_sub, a_mul, a_eql, a_neq, a_lss, a_leq, a_gtr, a_geq, pick_true, pick_false, not_bool, neg_int, at_ptr, at_ref, boxL_box, load_ptr, load_ref, box_of, boxB_some, cells_agg, cells_int, cells_bool, cells_str, cells_sl, cells_nils, cells_nilp, cells_nilf, cells_nili, cells_ptr, cells_ref, cells_fn, cells_ifc,
    stB_box, stC_some, cur_int, cur_bool, cur_str, cur_sl, cur_nils, cur_nilp, cur_nilf, cur_nili, cur_ptr, cur_ref, cur_fn, cur_ifc, fill_nil, fill_cons, fillB_some, res_tmp, res_nil, res_cell, resB_some, tup_one, tup_two, view_int, view_bool, view_str, view_sl, view_nils, view_ref, view_ptr, view_osl, view_fn, viewB_box, viewA_arr, ltL_nil, ltL_cons, lt_int, lt_bool, lt_str, lt_sl, lt_nils, lt_agg, lt_tup, lt_ref, view_agg, view_tup, viewL_nil, viewL_cons, max_int, min_int, putL_zero, putL_nil, putL_succ, ↓rev_off, ↓rev_fieldAddr, ↓rev_load, ↓rev_indexAddr, ↓rev_build, ↓rev_litD, ↓rev_slice, ↓rev_nilCheck, ↓rev_len, ↓rev_convert, ↓rev_lookup, ↓rev_max, ↓rev_min, ↓rev_call,
    argEnv, List.length_cons, List.length_nil, List.map_cons, List.map_nil, List.getElem?_cons_zero, List.getElem?_cons_succ, List.drop_zero, List.drop_succ_cons, List.take_succ_cons, List.take_zero, List.all_cons, List.all_nil, Option.map_some, Bool.and_self, Bool.and_true, true_and, and_true, and_self, Nat.reduceAdd, Nat.reduceSub, Nat.reduceLT, Nat.reduceLeDiff, Nat.reduceEqDiff, Nat.zero_add, Nat.add_zero, ne_eq, not_false_eq_true, reduceIte, Bool.not_true, Bool.not_false, Nat.le_refl, loadD_one Fz.agg_3 Fz.size_3, partD_one Fz.agg_3 Fz.size_3, store_ptr Fz.size_3, alloc_of Fz.zero_3, Fz.zero_3, loadD_one Fz.agg_25 Fz.size_25, partD_one Fz.agg_25 Fz.size_25, store_ptr Fz.size_25, alloc_of Fz.zero_25, Fz.zero_25, len_sl Fz.und_25, len_nils Fz.und_25, lit_int Fz.und_25 Fz.size_3 Fz.zero_3, a_shr, hs, hc, a_and, and_one, hb, ha, hw]
      refine ⟨i + 1, by omega, by omega, ?_⟩
      simp [headW, heapW, envW, blkLt, D.lt, look, hget, hset, bitsTo_succ, h1, intL]
    · have hb : (((n / 2 ^ i % 2 : Nat) : Int) == 1) = false := by simpa using (by exact_mod_cast h1 : ¬ ((n / 2 ^ i % 2 : Nat) : Int) = 1)
      simp only [↓wc_skip, ↓wc_label, ↓wc_exit, ↓wc_ret, ↓wc_seq, ↓wc_block, ↓wc_scope, ↓wc_region, ↓wc_draw, ↓wc_cond, ↓wc_loop, ↓wc_rangeFunc, ↓condZ_true, ↓condZ_false, ↓condZ_bool, ↓BR_true, ↓BR_false,
    ↓thenQ_normal, ↓thenQ_exit, ↓thenQ_ret, ↓blockQ_normal, ↓blockQ_exit_same, ↓blockQ_exit_ne, ↓blockQ_ret, ↓wcOps_nil, ↓wcOps_cons, ↓wcOps_guard, ↓guardZ_true, ↓guardZ_false, ↓guardZ_true', ↓guardZ_false', ↓guardZ_bool_true, ↓guardZ_bool_false, ↓guardZ_off,
    ↓slotZ_some, ↓Zo_some, Z_eq, Zo_ite, annOf_cons, annOf_nil, ↓drawZ_some, ↓drawZ_none, ↓anyK_nil, ↓anyK_consF, ↓anyK_consR, ↓anyK_consA, ↓phK_nil, ↓phK_cons, ↓phK_guard, ↓phK_consT, ↓phK_guardT, ↓reK_nil, ↓reK_cons, ↓adopt_nil, ↓adopt_alloc, ↓endK_normal, ↓endK_ret,
    ↓r_move, ↓r_assign, ↓r_pick, ↓r_nilCheck, ↓r_binOp, ↓r_neg, ↓r_not, ↓r_convert, ↓r_makeMap, ↓r_mapUpdate, ↓r_insert, ↓r_lookup, ↓r_extract, ↓r_makeFunc, ↓r_iface, ↓r_fieldAddr, ↓r_field, ↓r_index, ↓r_indexAddr, ↓r_load, ↓r_slice, ↓r_build, ↓r_len, ↓r_max, ↓r_min, ↓r_append, ↓r_alloc, ↓r_float, ↓r_box, ↓r_store, ↓r_lit, ↓r_litD, ↓r_call, ↓r_callv, ↓calleeZ_fn, ↓callZ_none, callZ_some, mkO_cons, mkO_nil, okR, flat_int, flat_bool, flat_str, flat_agg, flat_tup, flatL_nil, flatL_cons, Bool.true_or, Bool.or_true, oNone_eq,
    litF_eq, selF_true, selF_false, po_nil, po_cons, io_int, io_bool, io_str, io_agg, io_nils, io_sl, io_ref, io_ptr, io_fn, io_nilp, io_nilf, io_nili, io_ifc, io_mp, slotOf_zero, slotOf_succ, look_same, look_ne, put_some, put_none, evO_tmp, evO_const, evO_func, vD_int, vD_bool, vD_string, vD_nils, vD_nilp, hget_same, hget_ne, hset_same, hset_ne,
    bin_int, bin_str, a_add, a_sub, a_mul, a_eql, a_neq, a_lss, a_leq, a_gtr, a_geq, pick_true, pick_false, not_bool, neg_int, at_ptr, at_ref, boxL_box, load_ptr, load_ref, box_of, boxB_some, cells_agg, cells_int, cells_bool, cells_str, cells_sl, cells_nils, cells_nilp, cells_nilf, cells_nili, cells_ptr, cells_ref, cells_fn, cells_ifc,
    stB_box, stC_some, cur_int, cur_bool, cur_str, cur_sl, cur_nils, cur_nilp, cur_nilf, cur_nili, cur_ptr, cur_ref, cur_fn, cur_ifc, fill_nil, fill_cons, fillB_some, res_tmp, res_nil, res_cell, resB_some, tup_one, tup_two, view_int, view_bool, view_str, view_sl, view_nils, view_ref, view_ptr, view_osl, view_fn, viewB_box, viewA_arr, ltL_nil, ltL_cons, lt_int, lt_bool, lt_str, lt_sl, lt_nils, lt_agg, lt_tup, lt_ref, view_agg, view_tup, viewL_nil, viewL_cons, max_int, min_int, putL_zero, putL_nil, putL_succ, ↓rev_off, ↓rev_fieldAddr, ↓rev_load, ↓rev_indexAddr, ↓rev_build, ↓rev_litD, ↓rev_slice, ↓rev_nilCheck, ↓rev_len, ↓rev_convert, ↓rev_lookup, ↓rev_max, ↓rev_min, ↓rev_call,
    argEnv, List.length_cons, List.length_nil, List.map_cons, List.map_nil, List.getElem?_cons_zero, List.getElem?_cons_succ, List.drop_zero, List.drop_succ_cons, List.take_succ_cons, List.take_zero, List.all_cons, List.all_nil, Option.map_some, Bool.and_self, Bool.and_true, true_and, and_true, and_self, Nat.reduceAdd, Nat.reduceSub, Nat.reduceLT, Nat.reduceLeDiff, Nat.reduceEqDiff, Nat.zero_add, Nat.add_zero, ne_eq, not_false_eq_true, reduceIte, Bool.not_true, Bool.not_false, Nat.le_refl, loadD_one Fz.agg_3 Fz.size_3, partD_one Fz.agg_3 Fz.size_3, store_ptr Fz.size_3, alloc_of Fz.zero_3, Fz.zero_3, loadD_one Fz.agg_25 Fz.size_25, partD_one Fz.agg_25 Fz.size_25, store_ptr Fz.size_25, alloc_of Fz.zero_25, Fz.zero_25, len_sl Fz.und_25, len_nils Fz.und_25, lit_int Fz.und_25 Fz.size_3 Fz.zero_3, a_shr, hs, hc, a_and, and_one, hb, hw]
      refine ⟨i + 1, by omega, by omega, ?_⟩
      simp [headW, heapW, envW, blkLt, D.lt, look, hget, bitsTo_succ, h1]
def gIns : Nat → Ins
  | 4 => ⟨102, 3, .string ⟨#[116, 105, 100, 101]⟩, 6, 0, "file.go:33", #[{ on := 0, ground := .data }, { on := 3, ground := .data }]⟩
  | 8 => ⟨102, 3, .string ⟨#[101, 97, 115, 116]⟩, 9, 0, "file.go:33", #[{ on := 0, ground := .data }, { on := 7, ground := .data }]⟩
  | 12 => ⟨102, 3, .string ⟨#[110, 111, 114, 116, 104]⟩, 12, 0, "file.go:33", #[{ on := 0, ground := .data }, { on := 11, ground := .data }]⟩
  | 16 => ⟨102, 3, .string ⟨#[119, 97, 118, 101]⟩, 15, 0, "file.go:33", #[{ on := 0, ground := .data }, { on := 15, ground := .data }]⟩
  | 20 => ⟨102, 3, .string ⟨#[115, 119, 101, 108, 108]⟩, 18, 0, "file.go:33", #[{ on := 0, ground := .data }, { on := 19, ground := .data }]⟩
  | _ => ⟨0, 0, undef, 0, 0, "", #[]⟩
def gSubs : List Nat → List (List Nat)
  | [] => [[]]
  | x :: r => gSubs r ++ (gSubs r).map (x :: ·)
def gBase (R : List Nat) : Array Bool := ((List.range 23).map fun i => Nat.blt i 21 && !(R.contains i)).toArray

theorem gauges_t (b : Nat) (h : H) (nid : Nat) : ACall Tryd.prog 56 [.ptr b 0] h nid fun r h' n' => r = .mp nid ∧ h' = (nid, .map [(.str ⟨#[116, 105, 100, 101]⟩, .ptr b 0), (.str ⟨#[101, 97, 115, 116]⟩, .ptr b 4), (.str ⟨#[110, 111, 114, 116, 104]⟩, .ptr b 8), (.str ⟨#[119, 97, 118, 101]⟩, .ptr b 12), (.str ⟨#[115, 119, 101, 108, 108]⟩, .ptr b 16)]) :: h ∧ n' = nid + 1 := by
  refine acall_of_wc (rs := [.tmp 2]) (m := 20) [] oNone_ok (by kernel_rfl) Tryd.func56 rfl (by kernel_rfl) rfl rfl (by kernel_rfl) ?_
  simp only [↓wc_skip, ↓wc_label, ↓wc_exit, ↓wc_ret, ↓wc_seq, ↓wc_block, ↓wc_scope, ↓wc_region, ↓wc_draw, ↓wc_cond, ↓wc_loop, ↓wc_rangeFunc, ↓condZ_true, ↓condZ_false, ↓condZ_bool, ↓BR_true, ↓BR_false,
    ↓thenQ_normal, ↓thenQ_exit, ↓thenQ_ret, ↓blockQ_normal, ↓blockQ_exit_same, ↓blockQ_exit_ne, ↓blockQ_ret, ↓wcOps_nil, ↓wcOps_cons, ↓wcOps_guard, ↓guardZ_true, ↓guardZ_false, ↓guardZ_true', ↓guardZ_false', ↓guardZ_bool_true, ↓guardZ_bool_false, ↓guardZ_off,
    ↓slotZ_some, ↓Zo_some, Z_eq, Zo_ite, annOf_cons, annOf_nil, ↓drawZ_some, ↓drawZ_none, ↓anyK_nil, ↓anyK_consF, ↓anyK_consR, ↓anyK_consA, ↓phK_nil, ↓phK_cons, ↓phK_guard, ↓phK_consT, ↓phK_guardT, ↓reK_nil, ↓reK_cons, ↓adopt_nil, ↓adopt_alloc, ↓endK_normal, ↓endK_ret,
    ↓r_move, ↓r_assign, ↓r_pick, ↓r_nilCheck, ↓r_binOp, ↓r_neg, ↓r_not, ↓r_convert, ↓r_makeMap, ↓r_mapUpdate, ↓r_insert, ↓r_lookup, ↓r_extract, ↓r_makeFunc, ↓r_iface, ↓r_fieldAddr, ↓r_field, ↓r_index, ↓r_indexAddr, ↓r_load, ↓r_slice, ↓r_build, ↓r_len, ↓r_max, ↓r_min, ↓r_append, ↓r_alloc, ↓r_float, ↓r_box, ↓r_store, ↓r_lit, ↓r_litD, ↓r_call, ↓r_callv, ↓calleeZ_fn, ↓callZ_none, callZ_some, mkO_cons, mkO_nil, okR, flat_int, flat_bool, flat_str, flat_agg, flat_tup, flatL_nil, flatL_cons, Bool.true_or, Bool.or_true, oNone_eq,
    litF_eq, selF_true, selF_false, po_nil, po_cons, io_int, io_bool, io_str, io_agg, io_nils, io_sl, io_ref, io_ptr, io_fn, io_nilp, io_nilf, io_nili, io_ifc, io_mp, slotOf_zero, slotOf_succ, look_same, look_ne, put_some, put_none, evO_tmp, evO_const, evO_func, vD_int, vD_bool, vD_string, vD_nils, vD_nilp, hget_same, hget_ne, hset_same, hset_ne,
    bin_int, bin_str, a_add, a_sub, a_mul, a_eql, a_neq, a_lss, a_leq, a_gtr, a_geq, pick_true, pick_false, not_bool, neg_int, at_ptr, at_ref, boxL_box, load_ptr, load_ref, box_of, boxB_some, cells_agg, cells_int, cells_bool, cells_str, cells_sl, cells_nils, cells_nilp, cells_nilf, cells_nili, cells_ptr, cells_ref, cells_fn, cells_ifc,
    stB_box, stC_some, cur_int, cur_bool, cur_str, cur_sl, cur_nils, cur_nilp, cur_nilf, cur_nili, cur_ptr, cur_ref, cur_fn, cur_ifc, fill_nil, fill_cons, fillB_some, res_tmp, res_nil, res_cell, resB_some, tup_one, tup_two, view_int, view_bool, view_str, view_sl, view_nils, view_ref, view_ptr, view_osl, view_fn, viewB_box, viewA_arr, ltL_nil, ltL_cons, lt_int, lt_bool, lt_str, lt_sl, lt_nils, lt_agg, lt_tup, lt_ref, view_agg, view_tup, viewL_nil, viewL_cons, max_int, min_int, putL_zero, putL_nil, putL_succ, ↓rev_off, ↓rev_fieldAddr, ↓rev_load, ↓rev_indexAddr, ↓rev_build, ↓rev_litD, ↓rev_slice, ↓rev_nilCheck, ↓rev_len, ↓rev_convert, ↓rev_lookup, ↓rev_max, ↓rev_min, ↓rev_call,
    argEnv, List.length_cons, List.length_nil, List.map_cons, List.map_nil, List.getElem?_cons_zero, List.getElem?_cons_succ, List.drop_zero, List.drop_succ_cons, List.take_succ_cons, List.take_zero, List.all_cons, List.all_nil, Option.map_some, Bool.and_self, Bool.and_true, true_and, and_true, and_self, Nat.reduceAdd, Nat.reduceSub, Nat.reduceLT, Nat.reduceLeDiff, Nat.reduceEqDiff, Nat.zero_add, Nat.add_zero, ne_eq, not_false_eq_true, reduceIte, Bool.not_true, Bool.not_false, Nat.le_refl, loadD_agg Fz.agg_54 Fz.size_54, partD_agg Fz.agg_54 Fz.size_54, store_ptr Fz.size_54, alloc_of Fz.zero_54, Fz.zero_54, build_of Fz.zero_54 Fz.place_54, fa_of Fz.off_54_0, field_of Fz.fty_54_0, fa_of Fz.off_54_1, field_of Fz.fty_54_1, fa_of Fz.off_54_2, field_of Fz.fty_54_2, fa_of Fz.off_54_3, field_of Fz.fty_54_3, fa_of Fz.off_54_4, field_of Fz.fty_54_4, loadD_one Fz.agg_102 Fz.size_102, partD_one Fz.agg_102 Fz.size_102, store_ptr Fz.size_102, alloc_of Fz.zero_102, Fz.zero_102]
  intro X k0 k a hn hat
  refine wpIn_region_any (by kernel_rfl) ?_
  have hle : Le k { k with w := { k.w with drawn := k.w.drawn + 1 } } := le_world rfl rfl rfl (Nat.le_refl _) fun _ _ => rfl
  have hat : At X k0 { k with w := { k.w with drawn := k.w.drawn + 1 } } a _ := ⟨hat.h, hat.nid, hat.good.world hle fun _ _ => rfl, hat.le.trans hle, hat.act.le hat.good hle⟩
  show wpAnyIn _ _ _ _ _ _ 23 _ a ({ k with w := { k.w with drawn := k.w.drawn + 1 } } : Cx).w
  generalize ({ k with w := { k.w with drawn := k.w.drawn + 1 } } : Cx) = k1 at hat
  refine take_move (i := 1) hat rfl (by omega) rfl (by kernel_rfl) (by kernel_rfl) (by kernel_rfl) fun a hat => ?_
  refine take_nilCheck (i := 2) hat rfl (by omega) rfl (by kernel_rfl) (by kernel_rfl) (by kernel_rfl) fun a hat => ?_
  refine take_field (i := 3) hat rfl (by omega) rfl Fz.off_54_0 (by kernel_rfl) (by kernel_rfl) (by kernel_rfl) fun a hat => ?_
  refine take_move (i := 5) hat rfl (by omega) rfl (by kernel_rfl) (by kernel_rfl) (by kernel_rfl) fun a hat => ?_
  refine take_nilCheck (i := 6) hat rfl (by omega) rfl (by kernel_rfl) (by kernel_rfl) (by kernel_rfl) fun a hat => ?_
  refine take_field (i := 7) hat rfl (by omega) rfl Fz.off_54_1 (by kernel_rfl) (by kernel_rfl) (by kernel_rfl) fun a hat => ?_
  refine take_move (i := 9) hat rfl (by omega) rfl (by kernel_rfl) (by kernel_rfl) (by kernel_rfl) fun a hat => ?_
  refine take_nilCheck (i := 10) hat rfl (by omega) rfl (by kernel_rfl) (by kernel_rfl) (by kernel_rfl) fun a hat => ?_
  refine take_field (i := 11) hat rfl (by omega) rfl Fz.off_54_2 (by kernel_rfl) (by kernel_rfl) (by kernel_rfl) fun a hat => ?_
  refine take_move (i := 13) hat rfl (by omega) rfl (by kernel_rfl) (by kernel_rfl) (by kernel_rfl) fun a hat => ?_
  refine take_nilCheck (i := 14) hat rfl (by omega) rfl (by kernel_rfl) (by kernel_rfl) (by kernel_rfl) fun a hat => ?_
  refine take_field (i := 15) hat rfl (by omega) rfl Fz.off_54_3 (by kernel_rfl) (by kernel_rfl) (by kernel_rfl) fun a hat => ?_
  refine take_move (i := 17) hat rfl (by omega) rfl (by kernel_rfl) (by kernel_rfl) (by kernel_rfl) fun a hat => ?_
  refine take_nilCheck (i := 18) hat rfl (by omega) rfl (by kernel_rfl) (by kernel_rfl) (by kernel_rfl) fun a hat => ?_
  refine take_field (i := 19) hat rfl (by omega) rfl Fz.off_54_4 (by kernel_rfl) (by kernel_rfl) (by kernel_rfl) fun a hat => ?_
  refine only_op (i := 0) hn hat (by kernel_rfl) rfl rfl (opOk_eff (d := .mp nid) rfl rfl) fun k a hat => ?_
  refine ins_go (b := nid) (kt := 9) (et := 101) (fuel := 2) hn [4, 8, 12, 16, 20] gIns gBase (gSubs [4, 8, 12, 16, 20]) ?_ ?_ (by kernel_rfl) (by kernel_rfl) (by kernel_rfl) (by decide) 5 [4, 8, 12, 16, 20] [] k a rfl (by simp [gSubs]) (.refl _) hat
  · intro i hi
    simp only [List.mem_cons, List.not_mem_nil, or_false] at hi
    rcases hi with rfl | rfl | rfl | rfl | rfl <;> exact ⟨rfl, by kernel_rfl, by kernel_rfl, rfl⟩
  · intro k a kvs hp hat
    obtain ⟨k', e, hat⟩ := at_perm hp (by kernel_rfl) hat
    rw [← e]
    refine only_op (i := 21) hn hat (by kernel_rfl) rfl rfl (opOk_read (d := .mp nid) rfl rfl) fun k a hat => ?_
    refine only_op (i := 22) hn hat (by kernel_rfl) rfl rfl (opOk_read (d := .mp nid) rfl rfl) fun k a hat => ?_
    refine wpAnyIn_done (by kernel_rfl) ?_ 0
    refine ⟨.normal, k, _, rfl, rfl, ?_, hat⟩
    simp only [↓wc_skip, ↓wc_label, ↓wc_exit, ↓wc_ret, ↓wc_seq, ↓wc_block, ↓wc_scope, ↓wc_region, ↓wc_draw, ↓wc_cond, ↓wc_loop, ↓wc_rangeFunc, ↓condZ_true, ↓condZ_false, ↓condZ_bool, ↓BR_true, ↓BR_false,
    ↓thenQ_normal, ↓thenQ_exit, ↓thenQ_ret, ↓blockQ_normal, ↓blockQ_exit_same, ↓blockQ_exit_ne, ↓blockQ_ret, ↓wcOps_nil, ↓wcOps_cons, ↓wcOps_guard, ↓guardZ_true, ↓guardZ_false, ↓guardZ_true', ↓guardZ_false', ↓guardZ_bool_true, ↓guardZ_bool_false, ↓guardZ_off,
    ↓slotZ_some, ↓Zo_some, Z_eq, Zo_ite, annOf_cons, annOf_nil, ↓drawZ_some, ↓drawZ_none, ↓anyK_nil, ↓anyK_consF, ↓anyK_consR, ↓anyK_consA, ↓phK_nil, ↓phK_cons, ↓phK_guard, ↓phK_consT, ↓phK_guardT, ↓reK_nil, ↓reK_cons, ↓adopt_nil, ↓adopt_alloc, ↓endK_normal, ↓endK_ret,
    ↓r_move, ↓r_assign, ↓r_pick, ↓r_nilCheck, ↓r_binOp, ↓r_neg, ↓r_not, ↓r_convert, ↓r_makeMap, ↓r_mapUpdate, ↓r_insert, ↓r_lookup, ↓r_extract, ↓r_makeFunc, ↓r_iface, ↓r_fieldAddr, ↓r_field, ↓r_index, ↓r_indexAddr, ↓r_load, ↓r_slice, ↓r_build, ↓r_len, ↓r_max, ↓r_min, ↓r_append, ↓r_alloc, ↓r_float, ↓r_box, ↓r_store, ↓r_lit, ↓r_litD, ↓r_call, ↓r_callv, ↓calleeZ_fn, ↓callZ_none, callZ_some, mkO_cons, mkO_nil, okR, flat_int, flat_bool, flat_str, flat_agg, flat_tup, flatL_nil, flatL_cons, Bool.true_or, Bool.or_true, oNone_eq,
    litF_eq, selF_true, selF_false, po_nil, po_cons, io_int, io_bool, io_str, io_agg, io_nils, io_sl, io_ref, io_ptr, io_fn, io_nilp, io_nilf, io_nili, io_ifc, io_mp, slotOf_zero, slotOf_succ, look_same, look_ne, put_some, put_none, evO_tmp, evO_const, evO_func, vD_int, vD_bool, vD_string, vD_nils, vD_nilp, hget_same, hget_ne, hset_same, hset_ne,
    bin_int, bin_str, a_add, a_sub, a_mul, a_eql, a_neq, a_lss, a_leq, a_gtr, a_geq, pick_true, pick_false, not_bool, neg_int, at_ptr, at_ref, boxL_box, load_ptr, load_ref, box_of, boxB_some, cells_agg, cells_int, cells_bool, cells_str, cells_sl, cells_nils, cells_nilp, cells_nilf, cells_nili, cells_ptr, cells_ref, cells_fn, cells_ifc,
    stB_box, stC_some, cur_int, cur_bool, cur_str, cur_sl, cur_nils, cur_nilp, cur_nilf, cur_nili, cur_ptr, cur_ref, cur_fn, cur_ifc, fill_nil, fill_cons, fillB_some, res_tmp, res_nil, res_cell, resB_some, tup_one, tup_two, view_int, view_bool, view_str, view_sl, view_nils, view_ref, view_ptr, view_osl, view_fn, viewB_box, viewA_arr, ltL_nil, ltL_cons, lt_int, lt_bool, lt_str, lt_sl, lt_nils, lt_agg, lt_tup, lt_ref, view_agg, view_tup, viewL_nil, viewL_cons, max_int, min_int, putL_zero, putL_nil, putL_succ, ↓rev_off, ↓rev_fieldAddr, ↓rev_load, ↓rev_indexAddr, ↓rev_build, ↓rev_litD, ↓rev_slice, ↓rev_nilCheck, ↓rev_len, ↓rev_convert, ↓rev_lookup, ↓rev_max, ↓rev_min, ↓rev_call,
    argEnv, List.length_cons, List.length_nil, List.map_cons, List.map_nil, List.getElem?_cons_zero, List.getElem?_cons_succ, List.drop_zero, List.drop_succ_cons, List.take_succ_cons, List.take_zero, List.all_cons, List.all_nil, Option.map_some, Bool.and_self, Bool.and_true, true_and, and_true, and_self, Nat.reduceAdd, Nat.reduceSub, Nat.reduceLT, Nat.reduceLeDiff, Nat.reduceEqDiff, Nat.zero_add, Nat.add_zero, ne_eq, not_false_eq_true, reduceIte, Bool.not_true, Bool.not_false, Nat.le_refl, loadD_agg Fz.agg_54 Fz.size_54, partD_agg Fz.agg_54 Fz.size_54, store_ptr Fz.size_54, alloc_of Fz.zero_54, Fz.zero_54, build_of Fz.zero_54 Fz.place_54, fa_of Fz.off_54_0, field_of Fz.fty_54_0, fa_of Fz.off_54_1, field_of Fz.fty_54_1, fa_of Fz.off_54_2, field_of Fz.fty_54_2, fa_of Fz.off_54_3, field_of Fz.fty_54_3, fa_of Fz.off_54_4, field_of Fz.fty_54_4, loadD_one Fz.agg_102 Fz.size_102, partD_one Fz.agg_102 Fz.size_102, store_ptr Fz.size_102, alloc_of Fz.zero_102, Fz.zero_102]
    exact ⟨rfl, rfl, rfl⟩
def orD : Oracle := fun f ds =>
  if f = 40 then
    match ds with
    | [.int .i64 n] => if 0 ≤ n ∧ n < 256 then some (.sl (intL (bitsTo n.toNat 8))) else none
    | _ => none
  else none
theorem orD_ok : OkO Tryd.prog orD := fun f ds r h => by
  unfold orD at h
  split at h
  · rename_i hf
    subst hf
    split at h
    · rename_i n
      split at h
      · rename_i hn
        cases h
        have := listed_t n.toNat (by omega)
        rw [Int.toNat_of_nonneg hn.1] at this
        exact this
      · cases h
    · cases h
  · cases h
def orC : CallE := fun f ds h nid =>
  if f = 56 then
    match ds with
    | [.ptr b 0] => some (.mp nid, (nid, .map [(.str ⟨#[116, 105, 100, 101]⟩, .ptr b 0), (.str ⟨#[101, 97, 115, 116]⟩, .ptr b 4), (.str ⟨#[110, 111, 114, 116, 104]⟩, .ptr b 8), (.str ⟨#[119, 97, 118, 101]⟩, .ptr b 12), (.str ⟨#[115, 119, 101, 108, 108]⟩, .ptr b 16)]) :: h, nid + 1)
    | _ => none
  else none
theorem orC_ok : OkCall Tryd.prog orC := fun f ds h nid d h' nid' e => by
  unfold orC at e
  split at e
  · rename_i hf
    subst hf
    split at e
    · rename_i b
      simp only [Option.some.injEq, Prod.mk.injEq] at e
      obtain ⟨rfl, rfl, rfl⟩ := e
      exact gauges_t b h nid
    · cases e
  · cases e
def tabD : List (Nat × List (Nat × List Ann)) := [(3, [(3, [(7, false, false, [])])]),
  (4, []),
  (5, [(14, [(15, false, true, [(3, 8), (2, 8), (1, 8), (0, 8)]), (3, false, false, [])]), (15, [(25, false, false, [])])]),
  (6, [(11, [(15, false, false, [])])]),
  (7, []),
  (8, []),
  (9, []),
  (10, [(6, [(23, false, false, [])])]),
  (11, []),
  (12, [(6, [(33, false, false, [])]), (12, [(13, false, false, [])])]),
  (13, [(7, [(7, false, false, [])])]),
  (14, []),
  (15, []),
  (16, [(6, [(9, false, false, [])])]),
  (17, [(8, [(14, false, false, [])])]),
  (18, [(11, [(9, false, false, [])])]),
  (19, [(6, [(9, false, false, [])])]),
  (20, []),
  (21, [(6, [(11, false, false, [])])]),
  (22, []),
  (23, []),
  (24, []),
  (25, []),
  (26, []),
  (27, [(17, [(17, false, false, [])])]),
  (28, [(8, [(18, false, false, [])])]),
  (29, []),
  (30, []),
  (31, []),
  (32, []),
  (33, [(1, [(14, false, false, [])])]),
  (34, []),
  (35, []),
  (36, []),
  (37, []),
  (38, [(5, [(8, false, false, [])]), (6, [(18, false, true, [(7, 0), (6, 0), (5, 0), (2, 0)]), (2, false, false, [])])]),
  (39, [(10, [(24, false, false, [])])]),
  (40, []),
  (41, []),
  (42, []),
  (43, []),
  (44, [(6, [(8, false, false, [])]), (7, [(18, false, true, [(7, 0), (6, 0), (5, 0), (2, 0)]), (2, false, false, [])])]),
  (45, []),
  (46, []),
  (47, []),
  (48, []),
  (49, []),
  (50, []),
  (51, [(2, [(16, false, false, [])])]),
  (52, []),
  (53, [(1, [(20, false, false, [])])]),
  (54, []),
  (55, []),
  (57, []),
  (58, []),
  (59, []),
  (60, []),
  (61, []),
  (62, []),
  (63, []),
  (64, [(1, [(16, true, false, []), (2, false, false, [])])]),
  (65, [(2, [(29, false, false, [])])]),
  (66, []),
  (67, []),
  (68, []),
  (69, [(2, [(23, false, false, [])])]),
  (70, []),
  (71, []),
  (72, []),
  (73, []),
  (74, [(2, [(6, false, false, [])])]),
  (75, []),
  (76, []),
  (77, []),
  (78, []),
  (79, [(1, [(10, false, false, [])]), (2, [(35, false, false, [])])]),
  (80, []),
  (81, []),
  (82, []),
  (83, []),
  (84, []),
  (85, []),
  (86, []),
  (87, []),
  (88, []),
  (89, []),
  (90, [(7, [(15, false, false, [])]), (8, [(15, false, false, [])]), (9, [(15, false, false, [])]), (10, [(15, false, false, [])]), (17, [(15, false, false, [])]), (18, [(15, false, false, [])]), (23, [(15, false, false, [])])]),
  (91, []),
  (92, []),
  (93, []),
  (94, []),
  (95, []),
  (96, []),
  (97, []),
  (98, []),
  (120, [])]
theorem tabD_ok : (tabD.all fun p => bodyOk Tryd.prog p.1 p.2) = true := by kernel_rfl
end Go.Sx
