/- Own work: contracts of functions, used in the proof of a law. -/
import Derived.Test.YtjhoplbdpdbgaaaDoorSxZ3
import Derived.Test.YtjhoplbdpdbgaaaDoorSxC6d
import Derived.Test.YtjhoplbdpdbgaaaDoorSxC4d
set_option linter.unusedVariables false
set_option linter.unusedSimpArgs false
namespace Go.Sx
open Go.Proofs
set_option maxRecDepth 10000

def gGk (k : Ga → D) : List D → Option D
  | [.agg [.int .i64 a, .int .i64 b, .int .i64 c, .sl es]] => match decRds es with
    | some rs => if gaOk ⟨a, b, c, rs⟩ = true then some (k ⟨a, b, c, rs⟩) else none
    | none => none
  | _ => none
theorem gGk_eq {k : Ga → D} {a b c : Int} {rs : List Rd} (h : gaOk ⟨a, b, c, rs⟩ = true) : gGk k [.agg [.int .i64 a, .int .i64 b, .int .i64 c, .sl (rs.map Rd.d)]] = some (k ⟨a, b, c, rs⟩) := by
  simp only [gGk, decRds_map]; rw [if_pos h]
theorem gGk_inv {k : Ga → D} {ds : List D} {r : D} (h : gGk k ds = some r) : ∃ g : Ga, gaOk g = true ∧ ds = [.agg g.c] ∧ r = k g := by
  unfold gGk at h
  split at h
  · split at h
    · rename_i rs hrs
      split at h
      · rename_i hc
        cases h
        exact ⟨⟨_, _, _, rs⟩, hc, by rw [decRds_inv hrs]; rfl, rfl⟩
      · cases h
    · cases h
  · cases h

abbrev o7 : List (FuncId × (List D → Option D)) := (38, gAt) :: (44, gAt) :: (39, gGk fun g => clD (clashG g)) :: (18, gGk fun g => clD (clashG g)) :: o6
theorem o7_ok : OkO Tryd.prog (mkO o7) :=
  mkO_ok (fun ds r h => by obtain ⟨a, b, c, rs, t, h', rfl, rfl⟩ := gAt_inv h; exact at_t a b c t rs h') <|
  mkO_ok (fun ds r h => by obtain ⟨a, b, c, rs, t, h', rfl, rfl⟩ := gAt_inv h; exact rAt_t a b c t rs h') <|
  mkO_ok (fun ds r h => by obtain ⟨g, h', rfl, rfl⟩ := gGk_inv h; exact clash_t g h') <|
  mkO_ok (fun ds r h => by obtain ⟨g, h', rfl, rfl⟩ := gGk_inv h; exact rClash_t g h') o6_ok

theorem runs_t (g : Ga) (hga : gaOk g = true) : Pure Tryd.prog 36 [.agg g.c] (.bool (!(clashG g).2.2)) := by
  obtain ⟨a, b, c, rs⟩ := g
  simp only [Ga.c]
  refine pure_of_wc (rs := [.tmp 2]) (m := 14) [] o7_ok (by kernel_rfl) Tryd.func36 rfl (by kernel_rfl) rfl rfl (by kernel_rfl) ?_
  simp only [↓wc_skip, ↓wc_label, ↓wc_exit, ↓wc_ret, ↓wc_seq, ↓wc_block, ↓wc_scope, ↓wc_region, ↓wc_draw, ↓wc_cond, ↓wc_loop, ↓wc_rangeFunc, ↓condZ_true, ↓condZ_false, ↓condZ_bool, ↓BR_true, ↓BR_false,
    ↓thenQ_normal, ↓thenQ_exit, ↓thenQ_ret, ↓blockQ_normal, ↓blockQ_exit_same, ↓blockQ_exit_ne, ↓blockQ_ret, ↓wcOps_nil, ↓wcOps_cons, ↓wcOps_guard, ↓guardZ_true, ↓guardZ_false, ↓guardZ_true', ↓guardZ_false', ↓guardZ_bool_true, ↓guardZ_bool_false, ↓guardZ_off,
    ↓slotZ_some, ↓Zo_some, Z_eq, Zo_ite, annOf_cons, annOf_nil, ↓drawZ_some, ↓drawZ_none, ↓anyK_nil, ↓anyK_consF, ↓anyK_consR, ↓anyK_consA, ↓phK_nil, ↓phK_cons, ↓phK_guard, ↓phK_consT, ↓phK_guardT, ↓reK_nil, ↓reK_cons, ↓adopt_nil, ↓adopt_alloc, ↓endK_normal, ↓endK_ret,
    ↓r_move, ↓r_assign, ↓r_pick, ↓r_nilCheck, ↓r_binOp, ↓r_neg, ↓r_not, ↓r_convert, ↓r_makeMap, ↓r_mapUpdate, ↓r_insert, ↓r_lookup, ↓r_extract, ↓r_makeFunc, ↓r_iface, ↓r_fieldAddr, ↓r_field, ↓r_index, ↓r_indexAddr, ↓r_load, ↓r_slice, ↓r_build, ↓r_len, ↓r_max, ↓r_min, ↓r_append, ↓r_alloc, ↓r_float, ↓r_box, ↓r_store, ↓r_lit, ↓r_litD, ↓r_call, ↓r_callv, ↓calleeZ_fn, ↓callZ_none, callZ_some, mkO_cons, mkO_nil, okR, flat_int, flat_bool, flat_str, flat_agg, flat_tup, flatL_nil, flatL_cons, Bool.true_or, Bool.or_true, oNone_eq,
    slotOf_zero, slotOf_succ, look_same, look_ne, put_some, put_none, evO_tmp, evO_const, evO_func, vD_int, vD_bool, vD_string, vD_nils, vD_nilp, hget_same, hget_ne, hset_same, hset_ne,
    bin_int, bin_str, a_add, a_sub, a_mul, a_eql, a_neq, a_lss, a_leq, a_gtr, a_geq, pick_true, pick_false, not_bool, neg_int, at_ptr, at_ref, boxL_box, load_ptr, load_ref, box_of, boxB_some, cells_agg, cells_int, cells_bool, cells_str, cells_sl, cells_nils, cells_nilp, cells_nilf, cells_nili, cells_ptr, cells_ref, cells_fn, cells_ifc,
    stB_box, stC_some, cur_int, cur_bool, cur_str, cur_sl, cur_nils, cur_nilp, cur_nilf, cur_nili, cur_ptr, cur_ref, cur_fn, cur_ifc, fill_nil, fill_cons, fillB_some, res_tmp, res_nil, res_cell, resB_some, tup_one, tup_two, view_int, view_bool, view_str, view_sl, view_nils, view_ref, view_ptr, view_osl, view_fn, viewB_box, viewA_arr, ltL_nil, ltL_cons, lt_int, lt_bool, lt_str, lt_sl, lt_nils, lt_agg, lt_tup, lt_ref, view_agg, view_tup, viewL_nil, viewL_cons, max_int, min_int, putL_zero, putL_nil, putL_succ, ↓rev_off, ↓rev_fieldAddr, ↓rev_load, ↓rev_indexAddr, ↓rev_build, ↓rev_litD, ↓rev_slice, ↓rev_nilCheck, ↓rev_len, ↓rev_convert, ↓rev_lookup, ↓rev_max, ↓rev_min, ↓rev_call,
    argEnv, List.length_cons, List.length_nil, List.map_cons, List.map_nil, List.getElem?_cons_zero, List.getElem?_cons_succ, List.drop_zero, List.drop_succ_cons, List.take_succ_cons, List.take_zero, List.all_cons, List.all_nil, Option.map_some, Bool.and_self, Bool.and_true, true_and, and_true, and_self, Nat.reduceAdd, Nat.reduceSub, Nat.reduceLT, Nat.reduceLeDiff, Nat.reduceEqDiff, Nat.zero_add, Nat.add_zero, ne_eq, not_false_eq_true, reduceIte, Bool.not_true, Bool.not_false, Nat.le_refl, loadD_one Fz.agg_4 Fz.size_4, partD_one Fz.agg_4 Fz.size_4, store_ptr Fz.size_4, alloc_of Fz.zero_4, Fz.zero_4, loadD_agg Fz.agg_24 Fz.size_24, partD_agg Fz.agg_24 Fz.size_24, store_ptr Fz.size_24, alloc_of Fz.zero_24, Fz.zero_24, build_of Fz.zero_24 Fz.place_24, fa_of Fz.off_24_0, field_of Fz.fty_24_0, fa_of Fz.off_24_1, field_of Fz.fty_24_1, fa_of Fz.off_24_2, field_of Fz.fty_24_2, fa_of Fz.off_24_3, field_of Fz.fty_24_3, gGk_eq hga, clD, ex_tup]

/-- The answer of Clash. -/
def ClashA (g : Ga) : D := if gaOk g then (if (clashG g).2.2 then .tup [.int .i64 (clashG g).1, .int .i64 (clashG g).2.1, .int .i64 0] else .tup [.int .i64 0, .int .i64 0, .int .i64 6]) else .tup [.int .i64 0, .int .i64 0, .int .i64 2]

theorem Clash_t (g : Ga) (hl : g.rs.length ≤ 9223372036854775807) : Pure Tryd.prog 14 [.agg g.c] (ClashA g) := by
  obtain ⟨a, b, c, rs⟩ := g
  dsimp only at hl
  simp only [Ga.c]
  refine pure_of_wc (rs := [.tmp 2, .tmp 3, .tmp 4]) (m := 21) [] o7_ok (by kernel_rfl) Tryd.func14 rfl (by kernel_rfl) rfl rfl (by kernel_rfl) ?_
  cases hga : gaOk ⟨a, b, c, rs⟩
  · simp only [↓wc_skip, ↓wc_label, ↓wc_exit, ↓wc_ret, ↓wc_seq, ↓wc_block, ↓wc_scope, ↓wc_region, ↓wc_draw, ↓wc_cond, ↓wc_loop, ↓wc_rangeFunc, ↓condZ_true, ↓condZ_false, ↓condZ_bool, ↓BR_true, ↓BR_false,
    ↓thenQ_normal, ↓thenQ_exit, ↓thenQ_ret, ↓blockQ_normal, ↓blockQ_exit_same, ↓blockQ_exit_ne, ↓blockQ_ret, ↓wcOps_nil, ↓wcOps_cons, ↓wcOps_guard, ↓guardZ_true, ↓guardZ_false, ↓guardZ_true', ↓guardZ_false', ↓guardZ_bool_true, ↓guardZ_bool_false, ↓guardZ_off,
    ↓slotZ_some, ↓Zo_some, Z_eq, Zo_ite, annOf_cons, annOf_nil, ↓drawZ_some, ↓drawZ_none, ↓anyK_nil, ↓anyK_consF, ↓anyK_consR, ↓anyK_consA, ↓phK_nil, ↓phK_cons, ↓phK_guard, ↓phK_consT, ↓phK_guardT, ↓reK_nil, ↓reK_cons, ↓adopt_nil, ↓adopt_alloc, ↓endK_normal, ↓endK_ret,
    ↓r_move, ↓r_assign, ↓r_pick, ↓r_nilCheck, ↓r_binOp, ↓r_neg, ↓r_not, ↓r_convert, ↓r_makeMap, ↓r_mapUpdate, ↓r_insert, ↓r_lookup, ↓r_extract, ↓r_makeFunc, ↓r_iface, ↓r_fieldAddr, ↓r_field, ↓r_index, ↓r_indexAddr, ↓r_load, ↓r_slice, ↓r_build, ↓r_len, ↓r_max, ↓r_min, ↓r_append, ↓r_alloc, ↓r_float, ↓r_box, ↓r_store, ↓r_lit, ↓r_litD, ↓r_call, ↓r_callv, ↓calleeZ_fn, ↓callZ_none, callZ_some, mkO_cons, mkO_nil, okR, flat_int, flat_bool, flat_str, flat_agg, flat_tup, flatL_nil, flatL_cons, Bool.true_or, Bool.or_true, oNone_eq,
    slotOf_zero, slotOf_succ, look_same, look_ne, put_some, put_none, evO_tmp, evO_const, evO_func, vD_int, vD_bool, vD_string, vD_nils, vD_nilp, hget_same, hget_ne, hset_same, hset_ne,
    bin_int, bin_str, a_add, a_sub, a_mul, a_eql, a_neq, a_lss, a_leq, a_gtr, a_geq, pick_true, pick_false, not_bool, neg_int, at_ptr, at_ref, boxL_box, load_ptr, load_ref, box_of, boxB_some, cells_agg, cells_int, cells_bool, cells_str, cells_sl, cells_nils, cells_nilp, cells_nilf, cells_nili, cells_ptr, cells_ref, cells_fn, cells_ifc,
    stB_box, stC_some, cur_int, cur_bool, cur_str, cur_sl, cur_nils, cur_nilp, cur_nilf, cur_nili, cur_ptr, cur_ref, cur_fn, cur_ifc, fill_nil, fill_cons, fillB_some, res_tmp, res_nil, res_cell, resB_some, tup_one, tup_two, view_int, view_bool, view_str, view_sl, view_nils, view_ref, view_ptr, view_osl, view_fn, viewB_box, viewA_arr, ltL_nil, ltL_cons, lt_int, lt_bool, lt_str, lt_sl, lt_nils, lt_agg, lt_tup, lt_ref, view_agg, view_tup, viewL_nil, viewL_cons, max_int, min_int, putL_zero, putL_nil, putL_succ, ↓rev_off, ↓rev_fieldAddr, ↓rev_load, ↓rev_indexAddr, ↓rev_build, ↓rev_litD, ↓rev_slice, ↓rev_nilCheck, ↓rev_len, ↓rev_convert, ↓rev_lookup, ↓rev_max, ↓rev_min, ↓rev_call,
    argEnv, List.length_cons, List.length_nil, List.map_cons, List.map_nil, List.getElem?_cons_zero, List.getElem?_cons_succ, List.drop_zero, List.drop_succ_cons, List.take_succ_cons, List.take_zero, List.all_cons, List.all_nil, Option.map_some, Bool.and_self, Bool.and_true, true_and, and_true, and_self, Nat.reduceAdd, Nat.reduceSub, Nat.reduceLT, Nat.reduceLeDiff, Nat.reduceEqDiff, Nat.zero_add, Nat.add_zero, ne_eq, not_false_eq_true, reduceIte, Bool.not_true, Bool.not_false, Nat.le_refl, loadD_one Fz.agg_4 Fz.size_4, partD_one Fz.agg_4 Fz.size_4, store_ptr Fz.size_4, alloc_of Fz.zero_4, Fz.zero_4, loadD_agg Fz.agg_24 Fz.size_24, partD_agg Fz.agg_24 Fz.size_24, store_ptr Fz.size_24, alloc_of Fz.zero_24, Fz.zero_24, build_of Fz.zero_24 Fz.place_24, fa_of Fz.off_24_0, field_of Fz.fty_24_0, fa_of Fz.off_24_1, field_of Fz.fty_24_1, fa_of Fz.off_24_2, field_of Fz.fty_24_2, fa_of Fz.off_24_3, field_of Fz.fty_24_3, gGa_eq _ _ _ _ hl, hga]
    simp [ClashA, hga]
  · cases hc : (clashG ⟨a, b, c, rs⟩).2.2
    · simp only [↓wc_skip, ↓wc_label, ↓wc_exit, ↓wc_ret, ↓wc_seq, ↓wc_block, ↓wc_scope, ↓wc_region, ↓wc_draw, ↓wc_cond, ↓wc_loop, ↓wc_rangeFunc, ↓condZ_true, ↓condZ_false, ↓condZ_bool, ↓BR_true, ↓BR_false,
    ↓thenQ_normal, ↓thenQ_exit, ↓thenQ_ret, ↓blockQ_normal, ↓blockQ_exit_same, ↓blockQ_exit_ne, ↓blockQ_ret, ↓wcOps_nil, ↓wcOps_cons, ↓wcOps_guard, ↓guardZ_true, ↓guardZ_false, ↓guardZ_true', ↓guardZ_false', ↓guardZ_bool_true, ↓guardZ_bool_false, ↓guardZ_off,
    ↓slotZ_some, ↓Zo_some, Z_eq, Zo_ite, annOf_cons, annOf_nil, ↓drawZ_some, ↓drawZ_none, ↓anyK_nil, ↓anyK_consF, ↓anyK_consR, ↓anyK_consA, ↓phK_nil, ↓phK_cons, ↓phK_guard, ↓phK_consT, ↓phK_guardT, ↓reK_nil, ↓reK_cons, ↓adopt_nil, ↓adopt_alloc, ↓endK_normal, ↓endK_ret,
    ↓r_move, ↓r_assign, ↓r_pick, ↓r_nilCheck, ↓r_binOp, ↓r_neg, ↓r_not, ↓r_convert, ↓r_makeMap, ↓r_mapUpdate, ↓r_insert, ↓r_lookup, ↓r_extract, ↓r_makeFunc, ↓r_iface, ↓r_fieldAddr, ↓r_field, ↓r_index, ↓r_indexAddr, ↓r_load, ↓r_slice, ↓r_build, ↓r_len, ↓r_max, ↓r_min, ↓r_append, ↓r_alloc, ↓r_float, ↓r_box, ↓r_store, ↓r_lit, ↓r_litD, ↓r_call, ↓r_callv, ↓calleeZ_fn, ↓callZ_none, callZ_some, mkO_cons, mkO_nil, okR, flat_int, flat_bool, flat_str, flat_agg, flat_tup, flatL_nil, flatL_cons, Bool.true_or, Bool.or_true, oNone_eq,
    slotOf_zero, slotOf_succ, look_same, look_ne, put_some, put_none, evO_tmp, evO_const, evO_func, vD_int, vD_bool, vD_string, vD_nils, vD_nilp, hget_same, hget_ne, hset_same, hset_ne,
    bin_int, bin_str, a_add, a_sub, a_mul, a_eql, a_neq, a_lss, a_leq, a_gtr, a_geq, pick_true, pick_false, not_bool, neg_int, at_ptr, at_ref, boxL_box, load_ptr, load_ref, box_of, boxB_some, cells_agg, cells_int, cells_bool, cells_str, cells_sl, cells_nils, cells_nilp, cells_nilf, cells_nili, cells_ptr, cells_ref, cells_fn, cells_ifc,
    stB_box, stC_some, cur_int, cur_bool, cur_str, cur_sl, cur_nils, cur_nilp, cur_nilf, cur_nili, cur_ptr, cur_ref, cur_fn, cur_ifc, fill_nil, fill_cons, fillB_some, res_tmp, res_nil, res_cell, resB_some, tup_one, tup_two, view_int, view_bool, view_str, view_sl, view_nils, view_ref, view_ptr, view_osl, view_fn, viewB_box, viewA_arr, ltL_nil, ltL_cons, lt_int, lt_bool, lt_str, lt_sl, lt_nils, lt_agg, lt_tup, lt_ref, view_agg, view_tup, viewL_nil, viewL_cons, max_int, min_int, putL_zero, putL_nil, putL_succ, ↓rev_off, ↓rev_fieldAddr, ↓rev_load, ↓rev_indexAddr, ↓rev_build, ↓rev_litD, ↓rev_slice, ↓rev_nilCheck, ↓rev_len, ↓rev_convert, ↓rev_lookup, ↓rev_max, ↓rev_min, ↓rev_call,
    argEnv, List.length_cons, List.length_nil, List.map_cons, List.map_nil, List.getElem?_cons_zero, List.getElem?_cons_succ, List.drop_zero, List.drop_succ_cons, List.take_succ_cons, List.take_zero, List.all_cons, List.all_nil, Option.map_some, Bool.and_self, Bool.and_true, true_and, and_true, and_self, Nat.reduceAdd, Nat.reduceSub, Nat.reduceLT, Nat.reduceLeDiff, Nat.reduceEqDiff, Nat.zero_add, Nat.add_zero, ne_eq, not_false_eq_true, reduceIte, Bool.not_true, Bool.not_false, Nat.le_refl, loadD_one Fz.agg_4 Fz.size_4, partD_one Fz.agg_4 Fz.size_4, store_ptr Fz.size_4, alloc_of Fz.zero_4, Fz.zero_4, loadD_agg Fz.agg_24 Fz.size_24, partD_agg Fz.agg_24 Fz.size_24, store_ptr Fz.size_24, alloc_of Fz.zero_24, Fz.zero_24, build_of Fz.zero_24 Fz.place_24, fa_of Fz.off_24_0, field_of Fz.fty_24_0, fa_of Fz.off_24_1, field_of Fz.fty_24_1, fa_of Fz.off_24_2, field_of Fz.fty_24_2, fa_of Fz.off_24_3, field_of Fz.fty_24_3, gGa_eq _ _ _ _ hl, hga, gGk_eq hga, clD, ex_tup, hc]
      simp [ClashA, hga, hc]
    · simp only [↓wc_skip, ↓wc_label, ↓wc_exit, ↓wc_ret, ↓wc_seq, ↓wc_block, ↓wc_scope, ↓wc_region, ↓wc_draw, ↓wc_cond, ↓wc_loop, ↓wc_rangeFunc, ↓condZ_true, ↓condZ_false, ↓condZ_bool, ↓BR_true, ↓BR_false,
    ↓thenQ_normal, ↓thenQ_exit, ↓thenQ_ret, ↓blockQ_normal, ↓blockQ_exit_same, ↓blockQ_exit_ne, ↓blockQ_ret, ↓wcOps_nil, ↓wcOps_cons, ↓wcOps_guard, ↓guardZ_true, ↓guardZ_false, ↓guardZ_true', ↓guardZ_false', ↓guardZ_bool_true, ↓guardZ_bool_false, ↓guardZ_off,
    ↓slotZ_some, ↓Zo_some, Z_eq, Zo_ite, annOf_cons, annOf_nil, ↓drawZ_some, ↓drawZ_none, ↓anyK_nil, ↓anyK_consF, ↓anyK_consR, ↓anyK_consA, ↓phK_nil, ↓phK_cons, ↓phK_guard, ↓phK_consT, ↓phK_guardT, ↓reK_nil, ↓reK_cons, ↓adopt_nil, ↓adopt_alloc, ↓endK_normal, ↓endK_ret,
    ↓r_move, ↓r_assign, ↓r_pick, ↓r_nilCheck, ↓r_binOp, ↓r_neg, ↓r_not, ↓r_convert, ↓r_makeMap, ↓r_mapUpdate, ↓r_insert, ↓r_lookup, ↓r_extract, ↓r_makeFunc, ↓r_iface, ↓r_fieldAddr, ↓r_field, ↓r_index, ↓r_indexAddr, ↓r_load, ↓r_slice, ↓r_build, ↓r_len, ↓r_max, ↓r_min, ↓r_append, ↓r_alloc, ↓r_float, ↓r_box, ↓r_store, ↓r_lit, ↓r_litD, ↓r_call, ↓r_callv, ↓calleeZ_fn, ↓callZ_none, callZ_some, mkO_cons, mkO_nil, okR, flat_int, flat_bool, flat_str, flat_agg, flat_tup, flatL_nil, flatL_cons, Bool.true_or, Bool.or_true, oNone_eq,
    slotOf_zero, slotOf_succ, look_same, look_ne, put_some, put_none, evO_tmp, evO_const, evO_func, vD_int, vD_bool, vD_string, vD_nils, vD_nilp, hget_same, hget_ne, hset_same, hset_ne,
    bin_int, bin_str, a_add, a_sub, a_mul, a_eql, a_neq, a_lss, a_leq, a_gtr, a_geq, pick_true, pick_false, not_bool, neg_int, at_ptr, at_ref, boxL_box, load_ptr, load_ref, box_of, boxB_some, cells_agg, cells_int, cells_bool, cells_str, cells_sl, cells_nils, cells_nilp, cells_nilf, cells_nili, cells_ptr, cells_ref, cells_fn, cells_ifc,
    stB_box, stC_some, cur_int, cur_bool, cur_str, cur_sl, cur_nils, cur_nilp, cur_nilf, cur_nili, cur_ptr, cur_ref, cur_fn, cur_ifc, fill_nil, fill_cons, fillB_some, res_tmp, res_nil, res_cell, resB_some, tup_one, tup_two, view_int, view_bool, view_str, view_sl, view_nils, view_ref, view_ptr, view_osl, view_fn, viewB_box, viewA_arr, ltL_nil, ltL_cons, lt_int, lt_bool, lt_str, lt_sl, lt_nils, lt_agg, lt_tup, lt_ref, view_agg, view_tup, viewL_nil, viewL_cons, max_int, min_int, putL_zero, putL_nil, putL_succ, ↓rev_off, ↓rev_fieldAddr, ↓rev_load, ↓rev_indexAddr, ↓rev_build, ↓rev_litD, ↓rev_slice, ↓rev_nilCheck, ↓rev_len, ↓rev_convert, ↓rev_lookup, ↓rev_max, ↓rev_min, ↓rev_call,
    argEnv, List.length_cons, List.length_nil, List.map_cons, List.map_nil, List.getElem?_cons_zero, List.getElem?_cons_succ, List.drop_zero, List.drop_succ_cons, List.take_succ_cons, List.take_zero, List.all_cons, List.all_nil, Option.map_some, Bool.and_self, Bool.and_true, true_and, and_true, and_self, Nat.reduceAdd, Nat.reduceSub, Nat.reduceLT, Nat.reduceLeDiff, Nat.reduceEqDiff, Nat.zero_add, Nat.add_zero, ne_eq, not_false_eq_true, reduceIte, Bool.not_true, Bool.not_false, Nat.le_refl, loadD_one Fz.agg_4 Fz.size_4, partD_one Fz.agg_4 Fz.size_4, store_ptr Fz.size_4, alloc_of Fz.zero_4, Fz.zero_4, loadD_agg Fz.agg_24 Fz.size_24, partD_agg Fz.agg_24 Fz.size_24, store_ptr Fz.size_24, alloc_of Fz.zero_24, Fz.zero_24, build_of Fz.zero_24 Fz.place_24, fa_of Fz.off_24_0, field_of Fz.fty_24_0, fa_of Fz.off_24_1, field_of Fz.fty_24_1, fa_of Fz.off_24_2, field_of Fz.fty_24_2, fa_of Fz.off_24_3, field_of Fz.fty_24_3, gGa_eq _ _ _ _ hl, hga, gGk_eq hga, clD, ex_tup, hc]
      simp [ClashA, hga, hc]

abbrev o8 : List (FuncId × (List D → Option D)) := (36, gGk fun g => .bool (!(clashG g).2.2)) :: (14, gGa ClashA) :: o7
theorem o8_ok : OkO Tryd.prog (mkO o8) :=
  mkO_ok (fun ds r h => by obtain ⟨g, h', rfl, rfl⟩ := gGk_inv h; exact runs_t g h') <|
  mkO_ok (fun ds r h => by obtain ⟨g, hl, rfl, rfl⟩ := gGa_inv h; exact Clash_t g hl) o7_ok

end Go.Sx
