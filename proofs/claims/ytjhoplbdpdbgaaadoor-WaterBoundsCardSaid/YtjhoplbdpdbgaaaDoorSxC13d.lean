/- Own work: contracts of functions, used in the proof of a law. -/
import Derived.Test.YtjhoplbdpdbgaaaDoorSxC15d
set_option linter.unusedVariables false
set_option linter.unusedSimpArgs false
namespace Go.Sx
open Go.Proofs
set_option maxRecDepth 10000

theorem decL_elD : ∀ l : List Nat, decL (elD l) = some (cI l)
  | [] => rfl
  | x :: l => decIs_map _
def gSe : List D → Option D
  | [.int .i64 8, .int .i64 m] => if 0 ≤ m ∧ m ≤ 8 then some (.sl ((setsL m.toNat).map fun l => [elD l])) else none
  | _ => none
theorem gSe_eq {m : Nat} (h : m ≤ 8) : gSe [.int .i64 8, .int .i64 (m : Int)] = some (.sl ((setsL m).map fun l => [elD l])) := by
  simp only [gSe]; rw [if_pos (by omega)]; simp
theorem gSe_ok (ds : List D) (r : D) (h : gSe ds = some r) : Pure Tryd.prog 42 ds r := by
  unfold gSe at h
  split at h
  · rename_i m
    split at h
    · rename_i hm
      cases h
      have := Sets_t m.toNat (by omega)
      rw [Int.toNat_of_nonneg hm.1] at this
      exact this
    · cases h
  · cases h
abbrev o14 : List (FuncId × (List D → Option D)) := (42, gSe) :: o13
theorem o14_ok : OkO Tryd.prog (mkO o14) := mkO_ok gSe_ok o13_ok


theorem setsL_len (m : Nat) (h : m ≤ 8) : (setsL m).length ≤ 70 := sets_len m h
theorem setsL_el (m : Nat) (h : m ≤ 8) : ∀ l ∈ setsL m, l.length ≤ 8 := by
  have : ∀ m : Fin 9, ((setsL m.val).all fun l => decide (l.length ≤ 8)) = true := by decide +kernel
  intro l hl
  exact of_decide_eq_true (List.all_eq_true.1 (this ⟨m, by omega⟩) l hl)
theorem rBlame_t (g : Ga) (hga : gaOk g = true) : Pure Tryd.prog 17 [.agg g.c] (elD (rBl g)) := by
  obtain ⟨a, b, c, rs⟩ := g
  simp only [Ga.c, rBl]
  generalize hw0 : findFrom (okS ⟨a, b, c, rs⟩) 0 8 = w0
  refine pure_of_wc (rs := [.tmp 2]) (m := 41) [(8, [(14, false, false, [])])] o14_ok (by kernel_rfl) Tryd.func17 rfl (by kernel_rfl) rfl rfl (by kernel_rfl) ?_
  simp only [FT, ↓RD, RU, RZ, okR, Bool.true_or, Bool.or_true, argEnv, List.length_cons, List.length_nil, List.map_cons, List.map_nil, List.getElem?_cons_zero, List.getElem?_cons_succ, List.drop_zero, List.drop_succ_cons, List.take_succ_cons, List.take_zero, List.all_cons, List.all_nil, Option.map_some, Bool.and_self, Bool.and_true, true_and, and_true, and_self, Nat.reduceAdd, Nat.reduceSub, Nat.reduceLT, Nat.reduceLeDiff, Nat.reduceEqDiff, Nat.zero_add, Nat.add_zero, ne_eq, not_false_eq_true, reduceIte, Bool.not_true, Bool.not_false, Nat.le_refl]
  refine loopV (ι := Nat) o14_ok [(8, [(14, false, false, [])])] (fun m => [(1, .ptr 0 0), (3, .int .i64 (m : Int))])
    (fun m => [(0, .box [.int .i64 a, .int .i64 b, .int .i64 c, .sl (rs.map Rd.d)])]) 1 (fun m => m ≤ 8 ∧ w0 = findFrom (okS ⟨a, b, c, rs⟩) m (8 - m)) (fun m => 8 - m) 0 (by kernel_rfl) (by kernel_rfl) ⟨Nat.zero_le _, hw0.symm⟩ ?_ ?_
  · simp [headW, heapW, envW, blkLt, D.ltL, D.lt, look, hget]
  rintro m ⟨hm, hff⟩
  rcases Nat.lt_or_ge m 8 with hlt | hge
  rotate_left
  · have : m = 8 := by omega
    subst this
    have h8 : gSe [.int .i64 8, .int .i64 8] = some (.sl [[elD [0, 1, 2, 3, 4, 5, 6, 7]]]) := by kernel_rfl
    have hix0 : ∀ hp, indexAddrD Tryd.prog hp 81 (.sl [[elD [0, 1, 2, 3, 4, 5, 6, 7]]]) (.int .i64 0) = some (.ref [elD [0, 1, 2, 3, 4, 5, 6, 7]] 0) := fun hp => ix_sl Fz.und_81 Fz.size_25 (i := 0) (c := [elD [0, 1, 2, 3, 4, 5, 6, 7]]) rfl rfl hp .i64
    have hr : orL w0 = [0, 1, 2, 3, 4, 5, 6, 7] := by rw [hff]; rfl
    rw [hr]
    simp only [FT, ↓RD, RU, RZ, okR, Bool.true_or, Bool.or_true, argEnv, List.length_cons, List.length_nil, List.map_cons, List.map_nil, List.getElem?_cons_zero, List.getElem?_cons_succ, List.drop_zero, List.drop_succ_cons, List.take_succ_cons, List.take_zero, List.all_cons, List.all_nil, Option.map_some, Bool.and_self, Bool.and_true, true_and, and_true, and_self, Nat.reduceAdd, Nat.reduceSub, Nat.reduceLT, Nat.reduceLeDiff, Nat.reduceEqDiff, Nat.zero_add, Nat.add_zero, ne_eq, not_false_eq_true, reduceIte, Bool.not_true, Bool.not_false, Nat.le_refl, Int.cast_ofNat_Int, Int.lt_irrefl, decide_false, h8, hix0, elD_view, elD_lt]
  have hc : ((m : Int) < 8) = True := by simp; omega
  have hw := wrap_i64 (z := (m : Int) + 1) (by omega) (by omega)
  rw [show 8 - m = (8 - (m + 1)) + 1 by omega] at hff
  simp only [findFrom] at hff
  simp only [FT, ↓RD, RU, RZ, okR, Bool.true_or, Bool.or_true, argEnv, List.length_cons, List.length_nil, List.map_cons, List.map_nil, List.getElem?_cons_zero, List.getElem?_cons_succ, List.drop_zero, List.drop_succ_cons, List.take_succ_cons, List.take_zero, List.all_cons, List.all_nil, Option.map_some, Bool.and_self, Bool.and_true, true_and, and_true, and_self, Nat.reduceAdd, Nat.reduceSub, Nat.reduceLT, Nat.reduceLeDiff, Nat.reduceEqDiff, Nat.zero_add, Nat.add_zero, ne_eq, not_false_eq_true, reduceIte, Bool.not_true, Bool.not_false, Nat.le_refl, hc, decide_true, gSe_eq hm]
  have hll := setsL_len m hm
  refine loopV (ι := Nat) o14_ok [(8, [(14, false, false, [])])] (fun i => [(1, .ptr 0 0), (3, .int .i64 (m : Int)), (4, .sl ((setsL m).map fun l => [elD l])), (5, .int .i64 (i : Int))])
    (fun i => [(0, .box [.int .i64 a, .int .i64 b, .int .i64 c, .sl (rs.map Rd.d)])]) 1 (fun i => i ≤ (setsL m).length ∧ (setsL m).find? (okS ⟨a, b, c, rs⟩) = ((setsL m).drop i).find? (okS ⟨a, b, c, rs⟩)) (fun i => (setsL m).length - i) 0 (by kernel_rfl) (by kernel_rfl) ⟨Nat.zero_le _, rfl⟩ ?_ ?_
  · simp [headW, heapW, envW, blkLt, D.ltL, D.lt, look, hget]
  rintro i ⟨hi, hfi⟩
  rcases Nat.lt_or_ge i (setsL m).length with hit | hige
  rotate_left
  · have hc2 : ((i : Int) < ((setsL m).length : Int)) = False := by simp; omega
    have : i = (setsL m).length := by omega
    subst this
    rw [List.drop_length] at hfi
    rw [hfi] at hff
    simp only [FT, ↓RD, RU, RZ, okR, Bool.true_or, Bool.or_true, argEnv, List.length_cons, List.length_nil, List.map_cons, List.map_nil, List.getElem?_cons_zero, List.getElem?_cons_succ, List.drop_zero, List.drop_succ_cons, List.take_succ_cons, List.take_zero, List.all_cons, List.all_nil, Option.map_some, Bool.and_self, Bool.and_true, true_and, and_true, and_self, Nat.reduceAdd, Nat.reduceSub, Nat.reduceLT, Nat.reduceLeDiff, Nat.reduceEqDiff, Nat.zero_add, Nat.add_zero, ne_eq, not_false_eq_true, reduceIte, Bool.not_true, Bool.not_false, Nat.le_refl, hc2, decide_false, List.length_map, hw]
    exact ⟨m + 1, ⟨by omega, hff⟩, by omega, by simp [headW, heapW, envW, blkLt, D.ltL, D.lt, look, hget]⟩
  have hc2 : ((i : Int) < ((setsL m).length : Int)) = True := by simp [hit]
  obtain ⟨l, hl⟩ : ∃ l, (setsL m)[i]? = some l := ⟨(setsL m)[i], by simp [hit]⟩
  rw [drop_at hl, List.find?_cons] at hfi
  have hlen := setsL_el m hm l (List.mem_of_getElem? hl)
  have hix : ∀ hp, indexAddrD Tryd.prog hp 81 (.sl ((setsL m).map fun l => [elD l])) (.int .i64 (i : Int)) = some (.ref [elD l] 0) := fun hp => ix_sl Fz.und_81 Fz.size_25 (c := [elD l]) (by simp [hl]) rfl hp .i64
  have hw2 := wrap_i64 (z := (i : Int) + 1) (by omega) (by omega)
  have hig := gIg_eq hga (decL_elD l) (by rw [cI, List.length_map]; omega)
  have hga2 : gaOk ⟨a, b, c, rs.filter (igB (cI l))⟩ = true := gaOk_sub (g := ⟨a, b, c, rs⟩) hga
  simp only [Ga.c, igG] at hig
  cases hok : okS ⟨a, b, c, rs⟩ l
  · have hok' : (clashG ⟨a, b, c, rs.filter (igB (cI l))⟩).2.2 = true := by simpa [okS, igG] using hok
    rw [hok] at hfi
    simp only [FT, ↓RD, RU, RZ, okR, Bool.true_or, Bool.or_true, argEnv, List.length_cons, List.length_nil, List.map_cons, List.map_nil, List.getElem?_cons_zero, List.getElem?_cons_succ, List.drop_zero, List.drop_succ_cons, List.take_succ_cons, List.take_zero, List.all_cons, List.all_nil, Option.map_some, Bool.and_self, Bool.and_true, true_and, and_true, and_self, Nat.reduceAdd, Nat.reduceSub, Nat.reduceLT, Nat.reduceLeDiff, Nat.reduceEqDiff, Nat.zero_add, Nat.add_zero, ne_eq, not_false_eq_true, reduceIte, Bool.not_true, Bool.not_false, Nat.le_refl, hc2, decide_true, List.length_map, hix, hig, gGk_eq hga2, clD, ex_tup, hok', elD_view, elD_lt, hw2]
    exact ⟨i + 1, ⟨by omega, hfi⟩, by omega, by simp [headW, heapW, envW, blkLt, D.ltL, D.lt, look, hget]⟩
  · have hok' : (clashG ⟨a, b, c, rs.filter (igB (cI l))⟩).2.2 = false := by simpa [okS, igG] using hok
    rw [hok] at hfi
    dsimp only at hfi
    rw [hfi] at hff
    dsimp only at hff
    have hr : orL w0 = l := by rw [hff]; rfl
    rw [hr]
    simp only [FT, ↓RD, RU, RZ, okR, Bool.true_or, Bool.or_true, argEnv, List.length_cons, List.length_nil, List.map_cons, List.map_nil, List.getElem?_cons_zero, List.getElem?_cons_succ, List.drop_zero, List.drop_succ_cons, List.take_succ_cons, List.take_zero, List.all_cons, List.all_nil, Option.map_some, Bool.and_self, Bool.and_true, true_and, and_true, and_self, Nat.reduceAdd, Nat.reduceSub, Nat.reduceLT, Nat.reduceLeDiff, Nat.reduceEqDiff, Nat.zero_add, Nat.add_zero, ne_eq, not_false_eq_true, reduceIte, Bool.not_true, Bool.not_false, Nat.le_refl, hc2, decide_true, List.length_map, hix, hig, gGk_eq hga2, clD, ex_tup, hok', elD_view, elD_lt, hw2]
end Go.Sx
