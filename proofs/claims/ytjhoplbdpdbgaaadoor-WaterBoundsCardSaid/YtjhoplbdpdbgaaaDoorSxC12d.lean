/- Own work: contracts of functions, used in the proof of a law. -/
import Derived.Test.YtjhoplbdpdbgaaaDoorSxC11d
set_option linter.unusedVariables false
set_option linter.unusedSimpArgs false
namespace Go.Sx
open Go.Proofs
set_option maxRecDepth 10000

def bI (n : Nat) : List Int := (bitsTo n 8).map fun (j : Nat) => (j : Int)
theorem intL_bI (n : Nat) : intL (bitsTo n 8) = iL (bI n) := by simp [intL, iL, bI]
theorem bI_len (n : Nat) : (bI n).length ≤ 8 := by
  simp only [bI, List.length_map, bitsTo]
  exact Nat.le_trans (List.length_filter_le _ _) (by simp)
def gLi : List D → Option D
  | [.int .i64 n] => if 0 ≤ n ∧ n < 256 then some (.sl (iL (bI n.toNat))) else none
  | _ => none
theorem gLi_eq {n : Nat} (h : n < 256) : gLi [.int .i64 (n : Int)] = some (.sl (iL (bI n))) := by
  simp only [gLi]; rw [if_pos (by omega)]; simp
theorem gLi_ok (ds : List D) (r : D) (h : gLi ds = some r) : Pure Tryd.prog 40 ds r := by
  unfold gLi at h
  split at h
  · rename_i n
    split at h
    · rename_i hn
      cases h
      have := listed_t n.toNat (by omega)
      rw [Int.toNat_of_nonneg hn.1, intL_bI] at this
      exact this
    · cases h
  · cases h
def gCp : List D → Option D
  | [.sl es, .sl ds] => match decIs es, decIs ds with
    | some l, some m => if l.length ≤ 9223372036854775807 ∧ m.length ≤ 9223372036854775807 then some (.int .i64 (cmpL l m)) else none
    | _, _ => none
  | _ => none
theorem gCp_eq {l m : List Int} (hl : l.length ≤ 9223372036854775807) (hm : m.length ≤ 9223372036854775807) : gCp [.sl (iL l), .sl (iL m)] = some (.int .i64 (cmpL l m)) := by
  simp [gCp, decIs_map, hl, hm]
theorem gCp_ok (ds : List D) (r : D) (h : gCp ds = some r) : Pure Tryd.prog 41 ds r := by
  unfold gCp at h
  split at h
  · split at h
    · rename_i l m h1 h2
      split at h
      · rename_i hc
        cases h
        rw [decIs_inv h1, decIs_inv h2]
        exact compare_t l m hc.1 hc.2
      · cases h
    · cases h
  · cases h
abbrev o13 : List (FuncId × (List D → Option D)) := (40, gLi) :: (41, gCp) :: o12
theorem o13_ok : OkO Tryd.prog (mkO o13) := mkO_ok gLi_ok (mkO_ok gCp_ok o12_ok)

def keepB (n : Nat) (r : Rd) : Bool := n / 2 ^ r.src.toNat % 2 == 0
def restG (g : Ga) (n : Nat) : Ga := { g with rs := g.rs.filter (keepB n) }
def okB (g : Ga) (n : Nat) : Bool := !(clashG (restG g n)).2.2
def worse (n b : Nat) : Bool := decide (((bI b).length : Int) < ((bI n).length : Int)) || ((((bI n).length : Int) == ((bI b).length : Int)) && decide (0 < cmpL (bI n) (bI b)))
def blSt (p : Nat → Bool) : Nat → Option Nat
  | 0 => none
  | n + 1 => match blSt p n with
    | none => if p n then some n else none
    | some b => if worse n b then some b else if p n then some n else some b
def bestD : Option Nat → D
  | none => .nils
  | some b => .sl (iL (bI b))
theorem int_beq0 (m : Nat) : (((m : Nat) : Int) == 0) = (m == 0) := by
  rw [Bool.eq_iff_iff]; simp only [beq_iff_eq]; omega
theorem bestD_lt (o : Option Nat) (m : Nat) : D.lt m (bestD o) = true := by cases o <;> rfl
theorem bestD_view (o : Option Nat) (h : H) : view h (bestD o) = bestD o := by cases o <;> rfl

def BlameA (g : Ga) : D := if gaOk g then .tup [bestD (blSt (okB g) 256), .int .i64 0] else .tup [.nils, .int .i64 2]

theorem Blame_t (g : Ga) (hl : g.rs.length ≤ 9223372036854775807) : Pure Tryd.prog 15 [.agg g.c] (BlameA g) := by
  obtain ⟨a, b, c, rs⟩ := g
  dsimp only at hl
  simp only [Ga.c]
  refine pure_of_wc (rs := [.tmp 2, .tmp 3]) (m := 67) [] o13_ok (by kernel_rfl) Tryd.func15 rfl (by kernel_rfl) rfl rfl (by kernel_rfl) ?_
  cases hga : gaOk ⟨a, b, c, rs⟩
  · simp only [FT, ↓RD, RU, okR, Bool.true_or, Bool.or_true, argEnv, List.length_cons, List.length_nil, List.map_cons, List.map_nil, List.getElem?_cons_zero, List.getElem?_cons_succ, List.drop_zero, List.drop_succ_cons, List.take_succ_cons, List.take_zero, List.all_cons, List.all_nil, Option.map_some, Bool.and_self, Bool.and_true, true_and, and_true, and_self, Nat.reduceAdd, Nat.reduceSub, Nat.reduceLT, Nat.reduceLeDiff, Nat.reduceEqDiff, Nat.zero_add, Nat.add_zero, ne_eq, not_false_eq_true, reduceIte, Bool.not_true, Bool.not_false, Nat.le_refl, gGa_eq _ _ _ _ hl, hga]
    simp [BlameA, hga]
  obtain ⟨hrs, hrate, hspan, hlen⟩ := gaOk_inv hga
  dsimp only at hrs hrate hspan hlen
  simp only [FT, ↓RD, RU, okR, Bool.true_or, Bool.or_true, argEnv, List.length_cons, List.length_nil, List.map_cons, List.map_nil, List.getElem?_cons_zero, List.getElem?_cons_succ, List.drop_zero, List.drop_succ_cons, List.take_succ_cons, List.take_zero, List.all_cons, List.all_nil, Option.map_some, Bool.and_self, Bool.and_true, true_and, and_true, and_self, Nat.reduceAdd, Nat.reduceSub, Nat.reduceLT, Nat.reduceLeDiff, Nat.reduceEqDiff, Nat.zero_add, Nat.add_zero, ne_eq, not_false_eq_true, reduceIte, Bool.not_true, Bool.not_false, Nat.le_refl, gGa_eq _ _ _ _ hl, hga]
  refine loopV (ι := Nat) o13_ok [] (fun n => [(1, .ptr 0 0), (4, bestD (blSt (okB ⟨a, b, c, rs⟩) n)), (5, .bool (blSt (okB ⟨a, b, c, rs⟩) n).isSome), (14, .int .i64 (n : Int))])
    (fun n => [(0, .box [.int .i64 a, .int .i64 b, .int .i64 c, .sl (rs.map Rd.d)])]) 1 (fun n => n ≤ 256) (fun n => 256 - n) 0 (by kernel_rfl) (by kernel_rfl) (Nat.zero_le _) ?_ ?_
  · simp [headW, heapW, envW, blkLt, D.ltL, D.lt, look, hget, bestD, blSt]
  intro n hn
  have hbl := fun m => bestD_lt (blSt (okB ⟨a, b, c, rs⟩) n) m
  have hbv := fun h => bestD_view (blSt (okB ⟨a, b, c, rs⟩) n) h
  rcases Nat.lt_or_ge n 256 with hlt | hge
  rotate_left
  · have : n = 256 := by omega
    subst this
    simp only [FT, ↓RD, RU, okR, Bool.true_or, Bool.or_true, argEnv, List.length_cons, List.length_nil, List.map_cons, List.map_nil, List.getElem?_cons_zero, List.getElem?_cons_succ, List.drop_zero, List.drop_succ_cons, List.take_succ_cons, List.take_zero, List.all_cons, List.all_nil, Option.map_some, Bool.and_self, Bool.and_true, true_and, and_true, and_self, Nat.reduceAdd, Nat.reduceSub, Nat.reduceLT, Nat.reduceLeDiff, Nat.reduceEqDiff, Nat.zero_add, Nat.add_zero, ne_eq, not_false_eq_true, reduceIte, Bool.not_true, Bool.not_false, Nat.le_refl, Int.cast_ofNat_Int, Int.lt_irrefl, decide_false, hbv]
    simp [BlameA, hga]
  have hc : ((n : Int) < 256) = True := by simp; omega
  have hw := wrap_i64 (z := (n : Int) + 1) (by omega) (by omega)
  have hbn := bI_len n
  -- what is common to the three ways
  have hstep : blSt (okB ⟨a, b, c, rs⟩) (n + 1) = match blSt (okB ⟨a, b, c, rs⟩) n with
    | none => if okB ⟨a, b, c, rs⟩ n then some n else none
    | some b' => if worse n b' then some b' else if okB ⟨a, b, c, rs⟩ n then some n else some b' := rfl
  have hrest : gaOk ⟨a, b, c, rs.filter (keepB n)⟩ = true := gaOk_sub (g := ⟨a, b, c, rs⟩) hga
  cases hst : blSt (okB ⟨a, b, c, rs⟩) n with
  | none =>
    rw [hst] at hstep
    dsimp only at hstep
    simp only [FT, ↓RD, RU, okR, Bool.true_or, Bool.or_true, argEnv, List.length_cons, List.length_nil, List.map_cons, List.map_nil, List.getElem?_cons_zero, List.getElem?_cons_succ, List.drop_zero, List.drop_succ_cons, List.take_succ_cons, List.take_zero, List.all_cons, List.all_nil, Option.map_some, Bool.and_self, Bool.and_true, true_and, and_true, and_self, Nat.reduceAdd, Nat.reduceSub, Nat.reduceLT, Nat.reduceLeDiff, Nat.reduceEqDiff, Nat.zero_add, Nat.add_zero, ne_eq, not_false_eq_true, reduceIte, Bool.not_true, Bool.not_false, Nat.le_refl, hc, decide_true, gLi_eq hlt, bestD, Option.isSome_none]
    refine loopNilB 1 3 [.int .i64 a, .int .i64 b, .int .i64 c, .nils] 74 4 rfl rfl ?_
    refine loopV (ι := Nat) o13_ok [] (fun j => [(1, .ptr 0 0), (4, .nils), (5, .bool false), (14, .int .i64 (n : Int)), (6, .int .i64 (n : Int)), (7, .sl (iL (bI n))), (8, .ptr 1 0), (43, .sl (rs.map Rd.d)), (44, .int .i64 (rs.length : Int)), (45, .int .i64 (j : Int))])
      (fun j => [(2, .arr 74 4 (((rs.take j).filter (keepB n)).map Rd.d)), (1, .box [.int .i64 a, .int .i64 b, .int .i64 c, .osl 2 ((rs.take j).filter (keepB n)).length]), (0, .box [.int .i64 a, .int .i64 b, .int .i64 c, .sl (rs.map Rd.d)])]) 3
      (fun j => j ≤ rs.length) (fun j => rs.length - j) 0 (by kernel_rfl) (by kernel_rfl) (Nat.zero_le _) ?_ ?_
    · simp [headW, heapW, envW, blkLt, D.ltL, D.lt, look, hget, hset]
    intro j hjl
    rcases Nat.lt_or_ge j rs.length with hjt | hjge
    rotate_left
    · have hc2 : ((j : Int) < (rs.length : Int)) = False := by simp; omega
      have : j = rs.length := by omega
      subst this
      cases hok : okB ⟨a, b, c, rs⟩ n
      · have hok' : (clashG ⟨a, b, c, rs.filter (keepB n)⟩).2.2 = true := by simpa [okB, restG] using hok
        rw [hok] at hstep
        simp only [FT, ↓RD, RU, okR, Bool.true_or, Bool.or_true, argEnv, List.length_cons, List.length_nil, List.map_cons, List.map_nil, List.getElem?_cons_zero, List.getElem?_cons_succ, List.drop_zero, List.drop_succ_cons, List.take_succ_cons, List.take_zero, List.all_cons, List.all_nil, Option.map_some, Bool.and_self, Bool.and_true, true_and, and_true, and_self, Nat.reduceAdd, Nat.reduceSub, Nat.reduceLT, Nat.reduceLeDiff, Nat.reduceEqDiff, Nat.zero_add, Nat.add_zero, ne_eq, not_false_eq_true, reduceIte, Bool.not_true, Bool.not_false, Nat.le_refl, hc2, decide_false, List.length_map, List.take_length, cells_osl, cur_osl, curC_arr, decide_true, gGk_eq hrest, hok', hw]
        exact ⟨n + 1, by omega, by omega, by simp [headW, heapW, envW, blkLt, D.ltL, D.lt, look, hget, hstep, bestD]⟩
      · have hok' : (clashG ⟨a, b, c, rs.filter (keepB n)⟩).2.2 = false := by simpa [okB, restG] using hok
        rw [hok] at hstep
        simp only [FT, ↓RD, RU, okR, Bool.true_or, Bool.or_true, argEnv, List.length_cons, List.length_nil, List.map_cons, List.map_nil, List.getElem?_cons_zero, List.getElem?_cons_succ, List.drop_zero, List.drop_succ_cons, List.take_succ_cons, List.take_zero, List.all_cons, List.all_nil, Option.map_some, Bool.and_self, Bool.and_true, true_and, and_true, and_self, Nat.reduceAdd, Nat.reduceSub, Nat.reduceLT, Nat.reduceLeDiff, Nat.reduceEqDiff, Nat.zero_add, Nat.add_zero, ne_eq, not_false_eq_true, reduceIte, Bool.not_true, Bool.not_false, Nat.le_refl, hc2, decide_false, List.length_map, List.take_length, cells_osl, cur_osl, curC_arr, decide_true, gGk_eq hrest, hok', hw]
        exact ⟨n + 1, by omega, by omega, by simp [headW, heapW, envW, blkLt, D.ltL, D.lt, look, hget, hstep, bestD]⟩
    have hc2 : ((j : Int) < (rs.length : Int)) = True := by simp [hjt]
    obtain ⟨r, hr⟩ : ∃ r, rs[j]? = some r := ⟨rs[j], by simp [hjt]⟩
    have hix := fun h => ix_rd Fz.und_22 Fz.size_74 hr h
    have hsrc := (hrs r (List.mem_of_getElem? hr)).2.2
    have hwj := wrap_i64 (z := (j : Int) + 1) (by omega) (by omega)
    have hft := filter_take (p := keepB n) hr
    have hfl : ((rs.take j).filter (keepB n)).length ≤ j := Nat.le_trans (List.length_filter_le _ _) (by rw [List.length_take]; omega)
    obtain ⟨k, hk⟩ : ∃ k : Nat, r.src = (k : Int) := Int.eq_ofNat_of_zero_le hsrc.1
    have hkb : keepB n r = (((n / 2 ^ k % 2 : Nat) : Int) == 0) := by rw [int_beq0, keepB, hk]; rfl
    have hs : arith .shr .i64 (n : Int) r.src = some (.int .i64 ((n / 2 ^ k : Nat) : Int)) := by
      rw [hk, a_shr, shr_nat n _ (by omega)]
    cases hp : (((n / 2 ^ k % 2 : Nat) : Int) == 0)
    · have hi : keepB n r = false := hkb.trans hp
      rw [hi] at hft
      simp only [FT, ↓RD, RU, okR, Bool.true_or, Bool.or_true, argEnv, List.length_cons, List.length_nil, List.map_cons, List.map_nil, List.getElem?_cons_zero, List.getElem?_cons_succ, List.drop_zero, List.drop_succ_cons, List.take_succ_cons, List.take_zero, List.all_cons, List.all_nil, Option.map_some, Bool.and_self, Bool.and_true, true_and, and_true, and_self, Nat.reduceAdd, Nat.reduceSub, Nat.reduceLT, Nat.reduceLeDiff, Nat.reduceEqDiff, Nat.zero_add, Nat.add_zero, ne_eq, not_false_eq_true, reduceIte, Bool.not_true, Bool.not_false, Nat.le_refl, hix, hc2, decide_true, hs, a_and, and_one, hp, hwj]
      exact ⟨j + 1, by omega, by omega, by simp [headW, heapW, envW, blkLt, D.ltL, D.lt, look, hget, hft]⟩
    · have hi : keepB n r = true := hkb.trans hp
      rw [hi] at hft
      have hd2 := fun h nid => lit_agg (P := Tryd.prog) Fz.und_22 Fz.size_74 Fz.zero_74 rfl (by omega) (by omega) h nid [.int .i64 r.minute, .int .i64 r.lo, .int .i64 r.hi, .int .i64 r.src] rfl rfl
      have ha := fun h (hb : hget h 2 = some (.arr 74 4 (((rs.take j).filter (keepB n)).map Rd.d))) (hb2 : hget h 4 = some (.arr 74 4 [[.int .i64 r.minute, .int .i64 r.lo, .int .i64 r.hi, .int .i64 r.src]])) => app_osl (P := Tryd.prog) Fz.und_22 Fz.size_74 Fz.zero_74 rfl (by omega) Fz.bytes_74_22 h 5 2 ((rs.take j).filter (keepB n)).length 4 1 (es := ((rs.take j).filter (keepB n)).map Rd.d) (xs := [[.int .i64 r.minute, .int .i64 r.lo, .int .i64 r.hi, .int .i64 r.src]]) (ty2 := 74) (sz2 := 4) hb (by simp) hb2 rfl rfl (by simp; omega) (by simp; omega)
      simp only [FT, ↓RD, RU, okR, Bool.true_or, Bool.or_true, argEnv, List.length_cons, List.length_nil, List.map_cons, List.map_nil, List.getElem?_cons_zero, List.getElem?_cons_succ, List.drop_zero, List.drop_succ_cons, List.take_succ_cons, List.take_zero, List.all_cons, List.all_nil, Option.map_some, Bool.and_self, Bool.and_true, true_and, and_true, and_self, Nat.reduceAdd, Nat.reduceSub, Nat.reduceLT, Nat.reduceLeDiff, Nat.reduceEqDiff, Nat.zero_add, Nat.add_zero, ne_eq, not_false_eq_true, reduceIte, Bool.not_true, Bool.not_false, Nat.le_refl, hix, hc2, decide_true, hs, a_and, and_one, hp, hwj, hd2, ha, cells_osl, cur_osl, curC_arr, List.length_append, List.length_map]
      exact ⟨j + 1, by omega, by omega, by simp [headW, heapW, envW, blkLt, D.ltL, D.lt, look, hget, hset, hft, Rd.d]⟩
  | some b' =>
    rw [hst] at hstep
    dsimp only at hstep
    have hbb := bI_len b'
    have hcp := gCp_eq (l := bI n) (m := bI b') (by omega) (by omega)
    cases hwo : worse n b'
    rotate_left
    · rw [hwo] at hstep
      simp only [if_true] at hstep
      cases h1 : decide (((bI b').length : Int) < ((bI n).length : Int))
      · have h2 : (((bI n).length : Int) == ((bI b').length : Int)) = true := by
          simp only [worse, h1, Bool.false_or, Bool.and_eq_true] at hwo; exact hwo.1
        have h3 : decide (0 < cmpL (bI n) (bI b')) = true := by
          simp only [worse, h1, Bool.false_or, Bool.and_eq_true] at hwo; exact hwo.2
        simp only [FT, ↓RD, RU, okR, Bool.true_or, Bool.or_true, argEnv, List.length_cons, List.length_nil, List.map_cons, List.map_nil, List.getElem?_cons_zero, List.getElem?_cons_succ, List.drop_zero, List.drop_succ_cons, List.take_succ_cons, List.take_zero, List.all_cons, List.all_nil, Option.map_some, Bool.and_self, Bool.and_true, true_and, and_true, and_self, Nat.reduceAdd, Nat.reduceSub, Nat.reduceLT, Nat.reduceLeDiff, Nat.reduceEqDiff, Nat.zero_add, Nat.add_zero, ne_eq, not_false_eq_true, reduceIte, Bool.not_true, Bool.not_false, Nat.le_refl, hc, decide_true, gLi_eq hlt, bestD, Option.isSome_some, iL_length, h1, h2, h3, hcp, hw]
        exact ⟨n + 1, by omega, by omega, by simp [headW, heapW, envW, blkLt, D.ltL, D.lt, look, hget, hstep, bestD]⟩
      · simp only [FT, ↓RD, RU, okR, Bool.true_or, Bool.or_true, argEnv, List.length_cons, List.length_nil, List.map_cons, List.map_nil, List.getElem?_cons_zero, List.getElem?_cons_succ, List.drop_zero, List.drop_succ_cons, List.take_succ_cons, List.take_zero, List.all_cons, List.all_nil, Option.map_some, Bool.and_self, Bool.and_true, true_and, and_true, and_self, Nat.reduceAdd, Nat.reduceSub, Nat.reduceLT, Nat.reduceLeDiff, Nat.reduceEqDiff, Nat.zero_add, Nat.add_zero, ne_eq, not_false_eq_true, reduceIte, Bool.not_true, Bool.not_false, Nat.le_refl, hc, decide_true, gLi_eq hlt, bestD, Option.isSome_some, iL_length, h1, hcp, hw]
        exact ⟨n + 1, by omega, by omega, by simp [headW, heapW, envW, blkLt, D.ltL, D.lt, look, hget, hstep, bestD]⟩
    rw [hwo] at hstep
    simp only [Bool.false_eq_true, if_false] at hstep
    have h1 : decide (((bI b').length : Int) < ((bI n).length : Int)) = false := by
      simp only [worse, Bool.or_eq_false_iff] at hwo; exact hwo.1
    cases h2 : (((bI n).length : Int) == ((bI b').length : Int))
    · simp only [FT, ↓RD, RU, okR, Bool.true_or, Bool.or_true, argEnv, List.length_cons, List.length_nil, List.map_cons, List.map_nil, List.getElem?_cons_zero, List.getElem?_cons_succ, List.drop_zero, List.drop_succ_cons, List.take_succ_cons, List.take_zero, List.all_cons, List.all_nil, Option.map_some, Bool.and_self, Bool.and_true, true_and, and_true, and_self, Nat.reduceAdd, Nat.reduceSub, Nat.reduceLT, Nat.reduceLeDiff, Nat.reduceEqDiff, Nat.zero_add, Nat.add_zero, ne_eq, not_false_eq_true, reduceIte, Bool.not_true, Bool.not_false, Nat.le_refl, hc, decide_true, gLi_eq hlt, bestD, Option.isSome_some, iL_length, h1, h2, hcp]
      refine loopNilB 1 3 [.int .i64 a, .int .i64 b, .int .i64 c, .nils] 74 4 rfl rfl ?_
      refine loopV (ι := Nat) o13_ok [] (fun j => [(1, .ptr 0 0), (4, .sl (iL (bI b'))), (5, .bool true), (14, .int .i64 (n : Int)), (6, .int .i64 (n : Int)), (7, .sl (iL (bI n))), (8, .ptr 1 0), (43, .sl (rs.map Rd.d)), (44, .int .i64 (rs.length : Int)), (45, .int .i64 (j : Int))])
        (fun j => [(2, .arr 74 4 (((rs.take j).filter (keepB n)).map Rd.d)), (1, .box [.int .i64 a, .int .i64 b, .int .i64 c, .osl 2 ((rs.take j).filter (keepB n)).length]), (0, .box [.int .i64 a, .int .i64 b, .int .i64 c, .sl (rs.map Rd.d)])]) 3
        (fun j => j ≤ rs.length) (fun j => rs.length - j) 0 (by kernel_rfl) (by kernel_rfl) (Nat.zero_le _) ?_ ?_
      · simp [headW, heapW, envW, blkLt, D.ltL, D.lt, look, hget, hset]
      intro j hjl
      rcases Nat.lt_or_ge j rs.length with hjt | hjge
      rotate_left
      · have hc2 : ((j : Int) < (rs.length : Int)) = False := by simp; omega
        have : j = rs.length := by omega
        subst this
        cases hok : okB ⟨a, b, c, rs⟩ n
        · have hok' : (clashG ⟨a, b, c, rs.filter (keepB n)⟩).2.2 = true := by simpa [okB, restG] using hok
          rw [hok] at hstep
          simp only [FT, ↓RD, RU, okR, Bool.true_or, Bool.or_true, argEnv, List.length_cons, List.length_nil, List.map_cons, List.map_nil, List.getElem?_cons_zero, List.getElem?_cons_succ, List.drop_zero, List.drop_succ_cons, List.take_succ_cons, List.take_zero, List.all_cons, List.all_nil, Option.map_some, Bool.and_self, Bool.and_true, true_and, and_true, and_self, Nat.reduceAdd, Nat.reduceSub, Nat.reduceLT, Nat.reduceLeDiff, Nat.reduceEqDiff, Nat.zero_add, Nat.add_zero, ne_eq, not_false_eq_true, reduceIte, Bool.not_true, Bool.not_false, Nat.le_refl, hc2, decide_false, List.length_map, List.take_length, cells_osl, cur_osl, curC_arr, decide_true, gGk_eq hrest, hok', hw]
          exact ⟨n + 1, by omega, by omega, by simp [headW, heapW, envW, blkLt, D.ltL, D.lt, look, hget, hstep, bestD]⟩
        · have hok' : (clashG ⟨a, b, c, rs.filter (keepB n)⟩).2.2 = false := by simpa [okB, restG] using hok
          rw [hok] at hstep
          simp only [FT, ↓RD, RU, okR, Bool.true_or, Bool.or_true, argEnv, List.length_cons, List.length_nil, List.map_cons, List.map_nil, List.getElem?_cons_zero, List.getElem?_cons_succ, List.drop_zero, List.drop_succ_cons, List.take_succ_cons, List.take_zero, List.all_cons, List.all_nil, Option.map_some, Bool.and_self, Bool.and_true, true_and, and_true, and_self, Nat.reduceAdd, Nat.reduceSub, Nat.reduceLT, Nat.reduceLeDiff, Nat.reduceEqDiff, Nat.zero_add, Nat.add_zero, ne_eq, not_false_eq_true, reduceIte, Bool.not_true, Bool.not_false, Nat.le_refl, hc2, decide_false, List.length_map, List.take_length, cells_osl, cur_osl, curC_arr, decide_true, gGk_eq hrest, hok', hw]
          exact ⟨n + 1, by omega, by omega, by simp [headW, heapW, envW, blkLt, D.ltL, D.lt, look, hget, hstep, bestD]⟩
      have hc2 : ((j : Int) < (rs.length : Int)) = True := by simp [hjt]
      obtain ⟨r, hr⟩ : ∃ r, rs[j]? = some r := ⟨rs[j], by simp [hjt]⟩
      have hix := fun h => ix_rd Fz.und_22 Fz.size_74 hr h
      have hsrc := (hrs r (List.mem_of_getElem? hr)).2.2
      have hwj := wrap_i64 (z := (j : Int) + 1) (by omega) (by omega)
      have hft := filter_take (p := keepB n) hr
      have hfl : ((rs.take j).filter (keepB n)).length ≤ j := Nat.le_trans (List.length_filter_le _ _) (by rw [List.length_take]; omega)
      obtain ⟨k, hk⟩ : ∃ k : Nat, r.src = (k : Int) := Int.eq_ofNat_of_zero_le hsrc.1
      have hkb : keepB n r = (((n / 2 ^ k % 2 : Nat) : Int) == 0) := by rw [int_beq0, keepB, hk]; rfl
      have hs : arith .shr .i64 (n : Int) r.src = some (.int .i64 ((n / 2 ^ k : Nat) : Int)) := by
        rw [hk, a_shr, shr_nat n _ (by omega)]
      cases hp : (((n / 2 ^ k % 2 : Nat) : Int) == 0)
      · have hi : keepB n r = false := hkb.trans hp
        rw [hi] at hft
        simp only [FT, ↓RD, RU, okR, Bool.true_or, Bool.or_true, argEnv, List.length_cons, List.length_nil, List.map_cons, List.map_nil, List.getElem?_cons_zero, List.getElem?_cons_succ, List.drop_zero, List.drop_succ_cons, List.take_succ_cons, List.take_zero, List.all_cons, List.all_nil, Option.map_some, Bool.and_self, Bool.and_true, true_and, and_true, and_self, Nat.reduceAdd, Nat.reduceSub, Nat.reduceLT, Nat.reduceLeDiff, Nat.reduceEqDiff, Nat.zero_add, Nat.add_zero, ne_eq, not_false_eq_true, reduceIte, Bool.not_true, Bool.not_false, Nat.le_refl, hix, hc2, decide_true, hs, a_and, and_one, hp, hwj]
        exact ⟨j + 1, by omega, by omega, by simp [headW, heapW, envW, blkLt, D.ltL, D.lt, look, hget, hft]⟩
      · have hi : keepB n r = true := hkb.trans hp
        rw [hi] at hft
        have hd2 := fun h nid => lit_agg (P := Tryd.prog) Fz.und_22 Fz.size_74 Fz.zero_74 rfl (by omega) (by omega) h nid [.int .i64 r.minute, .int .i64 r.lo, .int .i64 r.hi, .int .i64 r.src] rfl rfl
        have ha := fun h (hb : hget h 2 = some (.arr 74 4 (((rs.take j).filter (keepB n)).map Rd.d))) (hb2 : hget h 4 = some (.arr 74 4 [[.int .i64 r.minute, .int .i64 r.lo, .int .i64 r.hi, .int .i64 r.src]])) => app_osl (P := Tryd.prog) Fz.und_22 Fz.size_74 Fz.zero_74 rfl (by omega) Fz.bytes_74_22 h 5 2 ((rs.take j).filter (keepB n)).length 4 1 (es := ((rs.take j).filter (keepB n)).map Rd.d) (xs := [[.int .i64 r.minute, .int .i64 r.lo, .int .i64 r.hi, .int .i64 r.src]]) (ty2 := 74) (sz2 := 4) hb (by simp) hb2 rfl rfl (by simp; omega) (by simp; omega)
        simp only [FT, ↓RD, RU, okR, Bool.true_or, Bool.or_true, argEnv, List.length_cons, List.length_nil, List.map_cons, List.map_nil, List.getElem?_cons_zero, List.getElem?_cons_succ, List.drop_zero, List.drop_succ_cons, List.take_succ_cons, List.take_zero, List.all_cons, List.all_nil, Option.map_some, Bool.and_self, Bool.and_true, true_and, and_true, and_self, Nat.reduceAdd, Nat.reduceSub, Nat.reduceLT, Nat.reduceLeDiff, Nat.reduceEqDiff, Nat.zero_add, Nat.add_zero, ne_eq, not_false_eq_true, reduceIte, Bool.not_true, Bool.not_false, Nat.le_refl, hix, hc2, decide_true, hs, a_and, and_one, hp, hwj, hd2, ha, cells_osl, cur_osl, curC_arr, List.length_append, List.length_map]
        exact ⟨j + 1, by omega, by omega, by simp [headW, heapW, envW, blkLt, D.ltL, D.lt, look, hget, hset, hft, Rd.d]⟩
    · have h3 : decide (0 < cmpL (bI n) (bI b')) = false := by
        simp only [worse, h1, h2, Bool.false_or, Bool.true_and] at hwo; exact hwo
      simp only [FT, ↓RD, RU, okR, Bool.true_or, Bool.or_true, argEnv, List.length_cons, List.length_nil, List.map_cons, List.map_nil, List.getElem?_cons_zero, List.getElem?_cons_succ, List.drop_zero, List.drop_succ_cons, List.take_succ_cons, List.take_zero, List.all_cons, List.all_nil, Option.map_some, Bool.and_self, Bool.and_true, true_and, and_true, and_self, Nat.reduceAdd, Nat.reduceSub, Nat.reduceLT, Nat.reduceLeDiff, Nat.reduceEqDiff, Nat.zero_add, Nat.add_zero, ne_eq, not_false_eq_true, reduceIte, Bool.not_true, Bool.not_false, Nat.le_refl, hc, decide_true, gLi_eq hlt, bestD, Option.isSome_some, iL_length, h1, h2, h3, hcp]
      refine loopNilB 1 3 [.int .i64 a, .int .i64 b, .int .i64 c, .nils] 74 4 rfl rfl ?_
      refine loopV (ι := Nat) o13_ok [] (fun j => [(1, .ptr 0 0), (4, .sl (iL (bI b'))), (5, .bool true), (14, .int .i64 (n : Int)), (6, .int .i64 (n : Int)), (7, .sl (iL (bI n))), (8, .ptr 1 0), (43, .sl (rs.map Rd.d)), (44, .int .i64 (rs.length : Int)), (45, .int .i64 (j : Int))])
        (fun j => [(2, .arr 74 4 (((rs.take j).filter (keepB n)).map Rd.d)), (1, .box [.int .i64 a, .int .i64 b, .int .i64 c, .osl 2 ((rs.take j).filter (keepB n)).length]), (0, .box [.int .i64 a, .int .i64 b, .int .i64 c, .sl (rs.map Rd.d)])]) 3
        (fun j => j ≤ rs.length) (fun j => rs.length - j) 0 (by kernel_rfl) (by kernel_rfl) (Nat.zero_le _) ?_ ?_
      · simp [headW, heapW, envW, blkLt, D.ltL, D.lt, look, hget, hset]
      intro j hjl
      rcases Nat.lt_or_ge j rs.length with hjt | hjge
      rotate_left
      · have hc2 : ((j : Int) < (rs.length : Int)) = False := by simp; omega
        have : j = rs.length := by omega
        subst this
        cases hok : okB ⟨a, b, c, rs⟩ n
        · have hok' : (clashG ⟨a, b, c, rs.filter (keepB n)⟩).2.2 = true := by simpa [okB, restG] using hok
          rw [hok] at hstep
          simp only [FT, ↓RD, RU, okR, Bool.true_or, Bool.or_true, argEnv, List.length_cons, List.length_nil, List.map_cons, List.map_nil, List.getElem?_cons_zero, List.getElem?_cons_succ, List.drop_zero, List.drop_succ_cons, List.take_succ_cons, List.take_zero, List.all_cons, List.all_nil, Option.map_some, Bool.and_self, Bool.and_true, true_and, and_true, and_self, Nat.reduceAdd, Nat.reduceSub, Nat.reduceLT, Nat.reduceLeDiff, Nat.reduceEqDiff, Nat.zero_add, Nat.add_zero, ne_eq, not_false_eq_true, reduceIte, Bool.not_true, Bool.not_false, Nat.le_refl, hc2, decide_false, List.length_map, List.take_length, cells_osl, cur_osl, curC_arr, decide_true, gGk_eq hrest, hok', hw]
          exact ⟨n + 1, by omega, by omega, by simp [headW, heapW, envW, blkLt, D.ltL, D.lt, look, hget, hstep, bestD]⟩
        · have hok' : (clashG ⟨a, b, c, rs.filter (keepB n)⟩).2.2 = false := by simpa [okB, restG] using hok
          rw [hok] at hstep
          simp only [FT, ↓RD, RU, okR, Bool.true_or, Bool.or_true, argEnv, List.length_cons, List.length_nil, List.map_cons, List.map_nil, List.getElem?_cons_zero, List.getElem?_cons_succ, List.drop_zero, List.drop_succ_cons, List.take_succ_cons, List.take_zero, List.all_cons, List.all_nil, Option.map_some, Bool.and_self, Bool.and_true, true_and, and_true, and_self, Nat.reduceAdd, Nat.reduceSub, Nat.reduceLT, Nat.reduceLeDiff, Nat.reduceEqDiff, Nat.zero_add, Nat.add_zero, ne_eq, not_false_eq_true, reduceIte, Bool.not_true, Bool.not_false, Nat.le_refl, hc2, decide_false, List.length_map, List.take_length, cells_osl, cur_osl, curC_arr, decide_true, gGk_eq hrest, hok', hw]
          exact ⟨n + 1, by omega, by omega, by simp [headW, heapW, envW, blkLt, D.ltL, D.lt, look, hget, hstep, bestD]⟩
      have hc2 : ((j : Int) < (rs.length : Int)) = True := by simp [hjt]
      obtain ⟨r, hr⟩ : ∃ r, rs[j]? = some r := ⟨rs[j], by simp [hjt]⟩
      have hix := fun h => ix_rd Fz.und_22 Fz.size_74 hr h
      have hsrc := (hrs r (List.mem_of_getElem? hr)).2.2
      have hwj := wrap_i64 (z := (j : Int) + 1) (by omega) (by omega)
      have hft := filter_take (p := keepB n) hr
      have hfl : ((rs.take j).filter (keepB n)).length ≤ j := Nat.le_trans (List.length_filter_le _ _) (by rw [List.length_take]; omega)
      obtain ⟨k, hk⟩ : ∃ k : Nat, r.src = (k : Int) := Int.eq_ofNat_of_zero_le hsrc.1
      have hkb : keepB n r = (((n / 2 ^ k % 2 : Nat) : Int) == 0) := by rw [int_beq0, keepB, hk]; rfl
      have hs : arith .shr .i64 (n : Int) r.src = some (.int .i64 ((n / 2 ^ k : Nat) : Int)) := by
        rw [hk, a_shr, shr_nat n _ (by omega)]
      cases hp : (((n / 2 ^ k % 2 : Nat) : Int) == 0)
      · have hi : keepB n r = false := hkb.trans hp
        rw [hi] at hft
        simp only [FT, ↓RD, RU, okR, Bool.true_or, Bool.or_true, argEnv, List.length_cons, List.length_nil, List.map_cons, List.map_nil, List.getElem?_cons_zero, List.getElem?_cons_succ, List.drop_zero, List.drop_succ_cons, List.take_succ_cons, List.take_zero, List.all_cons, List.all_nil, Option.map_some, Bool.and_self, Bool.and_true, true_and, and_true, and_self, Nat.reduceAdd, Nat.reduceSub, Nat.reduceLT, Nat.reduceLeDiff, Nat.reduceEqDiff, Nat.zero_add, Nat.add_zero, ne_eq, not_false_eq_true, reduceIte, Bool.not_true, Bool.not_false, Nat.le_refl, hix, hc2, decide_true, hs, a_and, and_one, hp, hwj]
        exact ⟨j + 1, by omega, by omega, by simp [headW, heapW, envW, blkLt, D.ltL, D.lt, look, hget, hft]⟩
      · have hi : keepB n r = true := hkb.trans hp
        rw [hi] at hft
        have hd2 := fun h nid => lit_agg (P := Tryd.prog) Fz.und_22 Fz.size_74 Fz.zero_74 rfl (by omega) (by omega) h nid [.int .i64 r.minute, .int .i64 r.lo, .int .i64 r.hi, .int .i64 r.src] rfl rfl
        have ha := fun h (hb : hget h 2 = some (.arr 74 4 (((rs.take j).filter (keepB n)).map Rd.d))) (hb2 : hget h 4 = some (.arr 74 4 [[.int .i64 r.minute, .int .i64 r.lo, .int .i64 r.hi, .int .i64 r.src]])) => app_osl (P := Tryd.prog) Fz.und_22 Fz.size_74 Fz.zero_74 rfl (by omega) Fz.bytes_74_22 h 5 2 ((rs.take j).filter (keepB n)).length 4 1 (es := ((rs.take j).filter (keepB n)).map Rd.d) (xs := [[.int .i64 r.minute, .int .i64 r.lo, .int .i64 r.hi, .int .i64 r.src]]) (ty2 := 74) (sz2 := 4) hb (by simp) hb2 rfl rfl (by simp; omega) (by simp; omega)
        simp only [FT, ↓RD, RU, okR, Bool.true_or, Bool.or_true, argEnv, List.length_cons, List.length_nil, List.map_cons, List.map_nil, List.getElem?_cons_zero, List.getElem?_cons_succ, List.drop_zero, List.drop_succ_cons, List.take_succ_cons, List.take_zero, List.all_cons, List.all_nil, Option.map_some, Bool.and_self, Bool.and_true, true_and, and_true, and_self, Nat.reduceAdd, Nat.reduceSub, Nat.reduceLT, Nat.reduceLeDiff, Nat.reduceEqDiff, Nat.zero_add, Nat.add_zero, ne_eq, not_false_eq_true, reduceIte, Bool.not_true, Bool.not_false, Nat.le_refl, hix, hc2, decide_true, hs, a_and, and_one, hp, hwj, hd2, ha, cells_osl, cur_osl, curC_arr, List.length_append, List.length_map]
        exact ⟨j + 1, by omega, by omega, by simp [headW, heapW, envW, blkLt, D.ltL, D.lt, look, hget, hset, hft, Rd.d]⟩
end Go.Sx
