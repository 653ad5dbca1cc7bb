/- Own work: contracts of functions, used in the proof of a law. -/
import Derived.Test.YtjhoplbdpdbgaaaDoorSxPe
import Derived.Test.YtjhoplbdpdbgaaaDoorSxFtd
set_option linter.unusedVariables false
set_option linter.unusedSimpArgs false
namespace Go.Sx
open Go.Proofs
set_option maxRecDepth 10000
def elD : List Nat → D
  | [] => .nils
  | x :: l => .sl (iL (cI (x :: l)))
def rowsD (L : List (List Nat)) : List (List D) := L.map fun l => [elD l]
theorem elD_lt (l : List Nat) (m : Nat) : D.lt m (elD l) = true := by cases l <;> rfl
theorem elD_view (l : List Nat) (h : H) : view h (elD l) = elD l := by cases l <;> rfl
theorem elD_src (l : List Nat) (h : H) : srcD h (elD l) = some (iL (cI l)) := by cases l <;> rfl
theorem elD_app (l : List Nat) (x : Nat) : elD (l ++ [x]) = .sl (iL (cI l) ++ [[.int .i64 (x : Int)]]) := by
  cases l with
  | nil => rfl
  | cons a l => simp [elD, iL, cI]

/-- Where the numbers begin that may follow. -/
def fromN (l : List Nat) : Nat := match l.getLast? with
  | some z => z + 1
  | none => 0
def nextTo (l : List Nat) (x : Nat) : List (List Nat) := ((List.range x).filter fun x => l.all fun y => Nat.blt y x).map fun x => l ++ [x]
theorem sets_facts : ∀ i, i ≤ 8 → ∀ l ∈ setsL i, l.length = i ∧ fromN l ≤ 8 ∧ (l.all fun y => Nat.blt y (fromN l)) = true ∧ nextTo l (fromN l) = [] := by
  have : ∀ i : Fin 9, ((setsL i.val).all fun l => decide (l.length = i.val ∧ fromN l ≤ 8 ∧ (l.all fun y => Nat.blt y (fromN l)) = true ∧ nextTo l (fromN l) = [])) = true := by decide +kernel
  intro i hi l hl
  exact of_decide_eq_true (List.all_eq_true.1 (this ⟨i, by omega⟩) l hl)
theorem sets_len : ∀ i, i ≤ 8 → (setsL i).length ≤ 70 := by
  have : ∀ m : Fin 9, (setsL m.val).length ≤ 70 := by decide +kernel
  exact fun m h => this ⟨m, by omega⟩
theorem nextTo_succ {l : List Nat} {x : Nat} (h : (l.all fun y => Nat.blt y x) = true) : nextTo l (x + 1) = nextTo l x ++ [l ++ [x]] := by
  simp only [nextTo, List.range_succ, List.filter_append, List.filter_cons, h, if_true, List.filter_nil, List.map_append, List.map_cons, List.map_nil]
theorem nextTo_len (l : List Nat) (x : Nat) : (nextTo l x).length ≤ x := by
  simp only [nextTo, List.length_map]
  exact Nat.le_trans (List.length_filter_le _ _) (by simp)
theorem all_up {l : List Nat} {x y : Nat} (h : (l.all fun z => Nat.blt z x) = true) (hxy : x ≤ y) : (l.all fun z => Nat.blt z y) = true := by
  rw [List.all_eq_true] at h ⊢
  intro z hz
  have := Nat.blt_eq.mp (h z hz)
  exact Nat.blt_eq.mpr (by omega)
theorem flat_len {L : List (List Nat)} (k : Nat) : ((L.take k).flatMap (nextL 8)).length ≤ 8 * k := by
  induction k with
  | zero => simp
  | succ k ih =>
    rw [List.take_add_one, List.flatMap_append, List.length_append]
    cases hk : L[k]? with
    | none => simp only [Option.toList_none, List.flatMap_nil, List.length_nil]; omega
    | some l =>
      have := nextTo_len l 8
      have he : nextL 8 l = nextTo l 8 := rfl
      simp only [Option.toList_some, List.flatMap_cons, List.flatMap_nil, List.append_nil, he]; omega
theorem last_at {l : List Nat} {i : Nat} (hl : l.length = i) (hi : 0 < i) : iAt (cI l) ((i : Int) - 1) + 1 = (fromN l : Int) ∧ 0 < l.length := by
  subst hl
  refine ⟨?_, hi⟩
  have h1 : ((l.length : Int) - 1).toNat = l.length - 1 := by omega
  have h2 : l.getLast? = some (l[l.length - 1]'(by omega)) := by rw [List.getLast?_eq_getElem?, List.getElem?_eq_getElem (by omega)]
  simp only [iAt, h1, fromN, h2, cI, List.getD_eq_getElem?_getD]
  rw [List.getElem?_map, List.getElem?_eq_getElem (by omega)]
  simp

/-- ref.Sets by its loops. -/
theorem Sets_t (m : Nat) (hm : m ≤ 8) : Pure Tryd.prog 42 [.int .i64 8, .int .i64 (m : Int)] (.sl (rowsD (setsL m))) := by
  refine pure_of_wc (rs := [.tmp 4]) (m := 53) [] o13_ok (by kernel_rfl) Tryd.func42 rfl (by kernel_rfl) rfl rfl (by kernel_rfl) ?_
  have hl := fun h nid => lit_one (P := Tryd.prog) Fz.und_81 Fz.size_25 Fz.zero_25 h nid .nils rfl rfl
  simp only [FT, ↓RD, RU, RZ, okR, Bool.true_or, Bool.or_true, argEnv, List.length_cons, List.length_nil, List.map_cons, List.map_nil, List.getElem?_cons_zero, List.getElem?_cons_succ, List.drop_zero, List.drop_succ_cons, List.take_succ_cons, List.take_zero, List.all_cons, List.all_nil, Option.map_some, Bool.and_self, Bool.and_true, true_and, and_true, and_self, Nat.reduceAdd, Nat.reduceSub, Nat.reduceLT, Nat.reduceLeDiff, Nat.reduceEqDiff, Nat.zero_add, Nat.add_zero, ne_eq, not_false_eq_true, reduceIte, Bool.not_true, Bool.not_false, Nat.le_refl, hl]
  refine loopW (ι := Nat) o13_ok [] (fun i => [(0, .int .i64 8), (1, .int .i64 (m : Int)), (5, .sl (rowsD (setsL i))), (6, .int .i64 (i : Int))]) (fun i => []) 0 (fun i => i ≤ m) (fun i => m - i) 0 (by kernel_rfl) (by kernel_rfl) (Nat.zero_le _) ?_ ?_
  · refine imp_frz 0 ?_
    simp [headW, heapW, envW, blkLt, D.ltL, D.lt, look, hget, frzD, herase, rowsD, setsL, elD]
  intro i hi
  rcases Nat.lt_or_ge i m with hlt | hge
  rotate_left
  · have : i = m := by omega
    subst this
    simp only [FT, ↓RD, RU, RZ, okR, Bool.true_or, Bool.or_true, argEnv, List.length_cons, List.length_nil, List.map_cons, List.map_nil, List.getElem?_cons_zero, List.getElem?_cons_succ, List.drop_zero, List.drop_succ_cons, List.take_succ_cons, List.take_zero, List.all_cons, List.all_nil, Option.map_some, Bool.and_self, Bool.and_true, true_and, and_true, and_self, Nat.reduceAdd, Nat.reduceSub, Nat.reduceLT, Nat.reduceLeDiff, Nat.reduceEqDiff, Nat.zero_add, Nat.add_zero, ne_eq, not_false_eq_true, reduceIte, Bool.not_true, Bool.not_false, Nat.le_refl, Int.lt_irrefl, decide_false]
  have hc : ((i : Int) < (m : Int)) = True := by simp [hlt]
  have hw := wrap_i64 (z := (i : Int) + 1) (by omega) (by omega)
  simp only [FT, ↓RD, RU, RZ, okR, Bool.true_or, Bool.or_true, argEnv, List.length_cons, List.length_nil, List.map_cons, List.map_nil, List.getElem?_cons_zero, List.getElem?_cons_succ, List.drop_zero, List.drop_succ_cons, List.take_succ_cons, List.take_zero, List.all_cons, List.all_nil, Option.map_some, Bool.and_self, Bool.and_true, true_and, and_true, and_self, Nat.reduceAdd, Nat.reduceSub, Nat.reduceLT, Nat.reduceLeDiff, Nat.reduceEqDiff, Nat.zero_add, Nat.add_zero, ne_eq, not_false_eq_true, reduceIte, Bool.not_true, Bool.not_false, Nat.le_refl, hc, decide_true]
  refine loopNil 7 25 1 rfl ?_
  have hfacts := sets_facts i (by omega)
  have hsl := sets_len i (by omega)
  have hrl : (rowsD (setsL i)).length = (setsL i).length := by simp [rowsD]
  refine loopV (ι := Nat) o13_ok [] (fun k => [(0, .int .i64 8), (1, .int .i64 (m : Int)), (5, .sl (rowsD (setsL i))), (6, .int .i64 (i : Int)), (7, .osl 0 (((setsL i).take k).flatMap (nextL 8)).length), (8, .int .i64 (k : Int))])
    (fun k => [(0, .arr 25 1 (rowsD (((setsL i).take k).flatMap (nextL 8))))]) 1 (fun k => k ≤ (setsL i).length) (fun k => (setsL i).length - k) 0 (by kernel_rfl) (by kernel_rfl) (Nat.zero_le _) ?_ ?_
  · simp [headW, heapW, envW, blkLt, D.ltL, D.lt, look, hget, eset_nil, eset_cons, rowsD]
  intro k hk
  rcases Nat.lt_or_ge k (setsL i).length with hklt | hkge
  rotate_left
  · have hc2 : ((k : Int) < ((setsL i).length : Int)) = False := by simp; omega
    have : k = (setsL i).length := by omega
    subst this
    simp only [FT, ↓RD, RU, RZ, okR, Bool.true_or, Bool.or_true, argEnv, List.length_cons, List.length_nil, List.map_cons, List.map_nil, List.getElem?_cons_zero, List.getElem?_cons_succ, List.drop_zero, List.drop_succ_cons, List.take_succ_cons, List.take_zero, List.all_cons, List.all_nil, Option.map_some, Bool.and_self, Bool.and_true, true_and, and_true, and_self, Nat.reduceAdd, Nat.reduceSub, Nat.reduceLT, Nat.reduceLeDiff, Nat.reduceEqDiff, Nat.zero_add, Nat.add_zero, ne_eq, not_false_eq_true, reduceIte, Bool.not_true, Bool.not_false, Nat.le_refl, hrl, hc2, decide_false, hw]
    refine ⟨i + 1, by omega, by omega, imp_frz 0 ?_⟩
    simp [headW, heapW, envW, blkLt, D.ltL, D.lt, look, hget, frzD, herase, rowsD, setsL, elD]
  have hc2 : ((k : Int) < ((setsL i).length : Int)) = True := by simp [hklt]
  obtain ⟨l, hlk⟩ : ∃ l, (setsL i)[k]? = some l := ⟨(setsL i)[k], by simp [hklt]⟩
  obtain ⟨f1, f2, f3, f4⟩ := hfacts l (List.mem_of_getElem? hlk)
  have hix : ∀ hp, indexAddrD Tryd.prog hp 81 (.sl (rowsD (setsL i))) (.int .i64 (k : Int)) = some (.ref [elD l] 0) := fun hp => ix_sl Fz.und_81 Fz.size_25 (c := [elD l]) (by simp [rowsD, hlk]) rfl hp .i64
  have hwk := wrap_i64 (z := (k : Int) + 1) (by omega) (by omega)
  have htk : (setsL i).take (k + 1) = (setsL i).take k ++ [l] := by rw [List.take_add_one, hlk]; rfl
  have hfl := flat_len (L := setsL i) k
  rcases Nat.eq_zero_or_pos i with hi0 | hi0
  all_goals
    first
    | have hi1 : i = 0 := hi0
      have hg : ((0 : Int) < (i : Int)) = False := by simp; omega
      have hl0 : fromN l = 0 := by
        have : l = [] := List.length_eq_zero_iff.1 (by omega)
        subst this; rfl
      have hl0 : (0 : Int) = (fromN l : Int) := by simp [hl0]
      simp only [FT, ↓RD, RU, RZ, okR, Bool.true_or, Bool.or_true, argEnv, List.length_cons, List.length_nil, List.map_cons, List.map_nil, List.getElem?_cons_zero, List.getElem?_cons_succ, List.drop_zero, List.drop_succ_cons, List.take_succ_cons, List.take_zero, List.all_cons, List.all_nil, Option.map_some, Bool.and_self, Bool.and_true, true_and, and_true, and_self, Nat.reduceAdd, Nat.reduceSub, Nat.reduceLT, Nat.reduceLeDiff, Nat.reduceEqDiff, Nat.zero_add, Nat.add_zero, ne_eq, not_false_eq_true, reduceIte, Bool.not_true, Bool.not_false, Nat.le_refl, hrl, hc2, decide_true, hg, decide_false]
      rw [hl0]
    | have hg : ((0 : Int) < (i : Int)) = True := by simp [hi0]
      obtain ⟨g1, g2⟩ := last_at f1 hi0
      have hwi := wrap_i64 (z := (i : Int) - 1) (by omega) (by omega)
      have hel : elD l = .sl (iL (cI l)) := by cases l with
        | nil => simp at g2
        | cons a l => rfl
      have hix2 := fun hp => ix_i Fz.und_25 Fz.size_3 (l := cI l) (m := (i : Int) - 1) (by omega) (by simp only [cI, List.length_map, f1]; omega) hp
      have hwf := wrap_i64 (z := (fromN l : Int)) (by omega) (by omega)
      simp only [FT, ↓RD, RU, RZ, okR, Bool.true_or, Bool.or_true, argEnv, List.length_cons, List.length_nil, List.map_cons, List.map_nil, List.getElem?_cons_zero, List.getElem?_cons_succ, List.drop_zero, List.drop_succ_cons, List.take_succ_cons, List.take_zero, List.all_cons, List.all_nil, Option.map_some, Bool.and_self, Bool.and_true, true_and, and_true, and_self, Nat.reduceAdd, Nat.reduceSub, Nat.reduceLT, Nat.reduceLeDiff, Nat.reduceEqDiff, Nat.zero_add, Nat.add_zero, ne_eq, not_false_eq_true, reduceIte, Bool.not_true, Bool.not_false, Nat.le_refl, hrl, hc2, decide_true, hg, hix, hwi, hel, hix2, g1, hwf]
  all_goals
    refine loopV (ι := Nat) o13_ok [] (fun x => [(0, .int .i64 8), (1, .int .i64 (m : Int)), (5, .sl (rowsD (setsL i))), (6, .int .i64 (i : Int)), (7, .osl 0 (rowsD (((setsL i).take k).flatMap (nextL 8) ++ nextTo l x)).length), (8, .int .i64 (k : Int)), (10, .int .i64 (x : Int))])
      (fun x => [(0, .arr 25 1 (rowsD (((setsL i).take k).flatMap (nextL 8) ++ nextTo l x)))]) 1 (fun x => x ≤ 8 ∧ fromN l ≤ x) (fun x => 8 - x) (fromN l) (by kernel_rfl) (by kernel_rfl) ⟨f2, Nat.le_refl _⟩ ?_ ?_
    · simp [headW, heapW, envW, blkLt, D.ltL, D.lt, look, hget, f4, rowsD]
    rintro x ⟨hx1, hx2⟩
    rcases Nat.lt_or_ge x 8 with hxlt | hxge
    rotate_left
    · have : x = 8 := by omega
      subst this
      simp only [FT, ↓RD, RU, RZ, okR, Bool.true_or, Bool.or_true, argEnv, List.length_cons, List.length_nil, List.map_cons, List.map_nil, List.getElem?_cons_zero, List.getElem?_cons_succ, List.drop_zero, List.drop_succ_cons, List.take_succ_cons, List.take_zero, List.all_cons, List.all_nil, Option.map_some, Bool.and_self, Bool.and_true, true_and, and_true, and_self, Nat.reduceAdd, Nat.reduceSub, Nat.reduceLT, Nat.reduceLeDiff, Nat.reduceEqDiff, Nat.zero_add, Nat.add_zero, ne_eq, not_false_eq_true, reduceIte, Bool.not_true, Bool.not_false, Nat.le_refl, Int.cast_ofNat_Int, Int.lt_irrefl, decide_false, hwk]
      refine ⟨k + 1, by omega, by omega, ?_⟩
      have hn : nextL 8 l = nextTo l 8 := rfl
      simp [headW, heapW, envW, blkLt, D.ltL, D.lt, look, hget, htk, hn, rowsD]
    have hc3 : ((x : Int) < 8) = True := by simp; omega
    have hwx := wrap_i64 (z := (x : Int) + 1) (by omega) (by omega)
    have hnl := nextTo_len l x
    have hns := nextTo_succ (l := l) (x := x) (all_up f3 hx2)
    have hcl : (cI l).length = i := by simp [cI, f1]
    have hil : (iL (cI l)).length = i := by rw [iL_length, hcl]
    have ha1 := fun h nid => app_nils (P := Tryd.prog) Fz.und_25 Fz.size_3 Fz.zero_3 rfl (by omega) Fz.bytes_3_25 h nid (elD_src l h) (by simp [okSrc, iL, D.ltL, D.lt, oneD]) (by rw [hil]; omega) (by rw [hil]; omega)
    have ha2 := fun h nid (hb : hget h 1 = some (.arr 3 1 (iL (cI l)))) (hb2 : hget h 2 = some (.arr 3 1 [[.int .i64 (x : Int)]])) => app_osl (P := Tryd.prog) Fz.und_25 Fz.size_3 Fz.zero_3 rfl (by omega) Fz.bytes_3_25 h nid 1 (iL (cI l)).length 2 1 (es := iL (cI l)) (xs := [[.int .i64 (x : Int)]]) (ty2 := 3) (sz2 := 1) hb rfl hb2 rfl rfl (by rw [hil]; simp; omega) (by rw [hil]; simp; omega)
    have hl2 := fun h nid => lit_one (P := Tryd.prog) Fz.und_81 Fz.size_25 Fz.zero_25 h nid (.sl (iL (cI l) ++ [[.int .i64 (x : Int)]])) rfl rfl
    have hrx : (rowsD (((setsL i).take k).flatMap (nextL 8) ++ nextTo l x)).length ≤ 8 * k + x := by simp only [rowsD, List.length_map, List.length_append]; omega
    have ha3 := fun h nid b (hb : hget h 0 = some (.arr 25 1 (rowsD (((setsL i).take k).flatMap (nextL 8) ++ nextTo l x)))) (hb2 : hget h b = some (.arr 25 1 [[.sl (iL (cI l) ++ [[.int .i64 (x : Int)]])]])) => app_osl (P := Tryd.prog) Fz.und_81 Fz.size_25 Fz.zero_25 rfl (by omega) Fz.bytes_25_81 h nid 0 _ b 1 (es := rowsD (((setsL i).take k).flatMap (nextL 8) ++ nextTo l x)) (xs := [[.sl (iL (cI l) ++ [[.int .i64 (x : Int)]])]]) (ty2 := 25) (sz2 := 1) hb rfl hb2 rfl rfl (by simp only [List.length_cons, List.length_nil]; omega) (by simp only [List.length_cons, List.length_nil]; omega)
    simp only [FT, ↓RD, RU, RZ, okR, Bool.true_or, Bool.or_true, argEnv, List.length_cons, List.length_nil, List.map_cons, List.map_nil, List.getElem?_cons_zero, List.getElem?_cons_succ, List.drop_zero, List.drop_succ_cons, List.take_succ_cons, List.take_zero, List.all_cons, List.all_nil, Option.map_some, Bool.and_self, Bool.and_true, true_and, and_true, and_self, Nat.reduceAdd, Nat.reduceSub, Nat.reduceLT, Nat.reduceLeDiff, Nat.reduceEqDiff, Nat.zero_add, Nat.add_zero, ne_eq, not_false_eq_true, reduceIte, Bool.not_true, Bool.not_false, Nat.le_refl, hix, hc3, decide_true, hwx, ha1, ha2, hl2, ha3, RZ, List.length_append, isOsl]
    refine ⟨x + 1, ⟨by omega, by omega⟩, by omega, ?_⟩
    simp [headW, heapW, envW, blkLt, D.ltL, D.lt, look, hget, hset, hns, rowsD, elD_app, Nat.add_assoc]
end Go.Sx
