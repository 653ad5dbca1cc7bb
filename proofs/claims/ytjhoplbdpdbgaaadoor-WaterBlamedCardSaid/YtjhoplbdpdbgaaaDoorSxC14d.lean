/- Own work: contracts of functions, used in the proof of a law. -/
import Derived.Test.YtjhoplbdpdbgaaaDoorSxFtd
import Derived.Test.YtjhoplbdpdbgaaaDoorSxPc
set_option linter.unusedVariables false
set_option linter.unusedSimpArgs false
namespace Go.Sx
open Go.Proofs
set_option maxRecDepth 10000

theorem key_len : ∀ n, n < 256 → (bI n).length * 9 ^ 8 ≤ key n ∧ key n < ((bI n).length + 1) * 9 ^ 8 := by
  have : ∀ n : Fin 256, (bI n.val).length * 9 ^ 8 ≤ key n.val ∧ key n.val < ((bI n.val).length + 1) * 9 ^ 8 := by decide +kernel
  exact fun n hn => this ⟨n, hn⟩

/-- The least blame has no more sources than any set without which a gauge has a course. -/
theorem blame_few {g : Ga} {n : Nat} (hn : n < 256) (h : okB g n = true) : ∃ m, blSt (okB g) 256 = some m ∧ okB g m = true ∧ (bI m).length ≤ (bI n).length := by
  rcases blSt_min key_ok (okB g) 256 (Nat.le_refl _) with ⟨_, h2⟩ | ⟨m, h1, h2, h3, h4⟩
  · rw [h2 n hn] at h; cases h
  · refine ⟨m, h1, h3, ?_⟩
    have := h4 n hn h
    have a1 := key_len m h2
    have a2 := key_len n hn
    omega

abbrev o14b : List (FuncId × (List D → Option D)) := (15, gGa BlameA) :: o13
theorem o14b_ok : OkO Tryd.prog (mkO o14b) := mkO_ok (fun ds r h => by obtain ⟨g, hl, rfl, rfl⟩ := gGa_inv h; exact Blame_t g hl) o13_ok

theorem bits_len (n i : Nat) : (bitsTo n i).length ≤ i := by
  simpa [bitsTo] using List.length_filter_le (fun j => n / 2 ^ j % 2 == 1) (List.range i)

theorem waterBlamed_at (g : Ga) (fr : Int) (us : List Int) (bits : Int) (hl : g.rs.length ≤ 9223372036854775807) (hl2 : us.length ≤ 9223372036854775807) :
    Pure Tryd.prog 6 [.agg g.c, .int .i64 fr, .sl (iL us), .int .i64 bits] (.bool true) := by
  obtain ⟨a, b, c, rs⟩ := g
  dsimp only at hl
  simp only [Ga.c]
  refine pure_of_wc (rs := [.tmp 8]) (m := 128) [(11, [(15, false, false, [])])] o14b_ok (by kernel_rfl) Tryd.func6 rfl (by kernel_rfl) rfl rfl (by kernel_rfl) ?_
  cases hga : gaOk ⟨a, b, c, rs⟩
  · simp only [FT, ↓RD, RU, okR, Bool.true_or, Bool.or_true, argEnv, List.length_cons, List.length_nil, List.map_cons, List.map_nil, List.getElem?_cons_zero, List.getElem?_cons_succ, List.drop_zero, List.drop_succ_cons, List.take_succ_cons, List.take_zero, List.all_cons, List.all_nil, Option.map_some, Bool.and_self, Bool.and_true, true_and, and_true, and_self, Nat.reduceAdd, Nat.reduceSub, Nat.reduceLT, Nat.reduceLeDiff, Nat.reduceEqDiff, Nat.zero_add, Nat.add_zero, ne_eq, not_false_eq_true, reduceIte, Bool.not_true, Bool.not_false, Nat.le_refl, gGa_eq _ _ _ _ hl, hga, gTrue_eq]
  by_cases hu : (50 : Int) < (us.length : Int)
  · simp only [FT, ↓RD, RU, okR, Bool.true_or, Bool.or_true, argEnv, List.length_cons, List.length_nil, List.map_cons, List.map_nil, List.getElem?_cons_zero, List.getElem?_cons_succ, List.drop_zero, List.drop_succ_cons, List.take_succ_cons, List.take_zero, List.all_cons, List.all_nil, Option.map_some, Bool.and_self, Bool.and_true, true_and, and_true, and_self, Nat.reduceAdd, Nat.reduceSub, Nat.reduceLT, Nat.reduceLeDiff, Nat.reduceEqDiff, Nat.zero_add, Nat.add_zero, ne_eq, not_false_eq_true, reduceIte, Bool.not_true, Bool.not_false, Nat.le_refl, gGa_eq _ _ _ _ hl, hga, gTrue_eq, iL_length, hu, decide_true]
  by_cases hb0 : bits < 0
  · simp only [FT, ↓RD, RU, okR, Bool.true_or, Bool.or_true, argEnv, List.length_cons, List.length_nil, List.map_cons, List.map_nil, List.getElem?_cons_zero, List.getElem?_cons_succ, List.drop_zero, List.drop_succ_cons, List.take_succ_cons, List.take_zero, List.all_cons, List.all_nil, Option.map_some, Bool.and_self, Bool.and_true, true_and, and_true, and_self, Nat.reduceAdd, Nat.reduceSub, Nat.reduceLT, Nat.reduceLeDiff, Nat.reduceEqDiff, Nat.zero_add, Nat.add_zero, ne_eq, not_false_eq_true, reduceIte, Bool.not_true, Bool.not_false, Nat.le_refl, gGa_eq _ _ _ _ hl, hga, gTrue_eq, iL_length, hu, hb0, decide_true, decide_false]
  by_cases hb1 : 255 < bits
  · simp only [FT, ↓RD, RU, okR, Bool.true_or, Bool.or_true, argEnv, List.length_cons, List.length_nil, List.map_cons, List.map_nil, List.getElem?_cons_zero, List.getElem?_cons_succ, List.drop_zero, List.drop_succ_cons, List.take_succ_cons, List.take_zero, List.all_cons, List.all_nil, Option.map_some, Bool.and_self, Bool.and_true, true_and, and_true, and_self, Nat.reduceAdd, Nat.reduceSub, Nat.reduceLT, Nat.reduceLeDiff, Nat.reduceEqDiff, Nat.zero_add, Nat.add_zero, ne_eq, not_false_eq_true, reduceIte, Bool.not_true, Bool.not_false, Nat.le_refl, gGa_eq _ _ _ _ hl, hga, gTrue_eq, iL_length, hu, hb0, hb1, decide_true, decide_false]
  obtain ⟨hrs, hrate, hspan, hlen⟩ := gaOk_inv hga
  dsimp only at hrs hrate hspan hlen
  simp only [FT, ↓RD, RU, okR, Bool.true_or, Bool.or_true, argEnv, List.length_cons, List.length_nil, List.map_cons, List.map_nil, List.getElem?_cons_zero, List.getElem?_cons_succ, List.drop_zero, List.drop_succ_cons, List.take_succ_cons, List.take_zero, List.all_cons, List.all_nil, Option.map_some, Bool.and_self, Bool.and_true, true_and, and_true, and_self, Nat.reduceAdd, Nat.reduceSub, Nat.reduceLT, Nat.reduceLeDiff, Nat.reduceEqDiff, Nat.zero_add, Nat.add_zero, ne_eq, not_false_eq_true, reduceIte, Bool.not_true, Bool.not_false, Nat.le_refl, gGa_eq _ _ _ _ hl, hga, gTrue_eq, iL_length, hu, hb0, hb1, decide_true, decide_false]
  obtain ⟨n, rfl⟩ := Int.eq_ofNat_of_zero_le (Int.not_lt.1 hb0)
  have hn : n < 256 := by omega
  refine loopNil 9 3 1 rfl ?_
  refine loopV (ι := Nat × List Int × Int) o14b_ok [(11, [(15, false, false, [])])] (fun i => [(2, .sl (iL us)), (3, .int .i64 (n : Int)), (4, .ptr 0 0), (9, .osl 1 i.1), (10, .int .i64 i.2.2), (11, .int .i64 (i.1 : Int))])
    (fun i => [(1, .arr 3 1 (iL i.2.1)), (0, .box [.int .i64 a, .int .i64 b, .int .i64 c, .sl (rs.map Rd.d)])]) 2 (fun i => i.1 ≤ 1441 ∧ i.2.1.length = i.1 ∧ b ≤ i.2.2 ∧ i.2.2 ≤ c) (fun i => 1441 - i.1) (0, [], max b (min c fr)) (by kernel_rfl) (by kernel_rfl) ⟨Nat.zero_le _, rfl, by simp only; omega, by simp only; omega⟩ ?_ ?_
  · simp [headW, heapW, envW, blkLt, D.ltL, D.lt, look, hget, eset_nil, eset_cons, iL]
  rintro ⟨i, cs, now⟩ ⟨hi, hcl, hn1, hn2⟩
  dsimp only at hi hcl hn1 hn2 ⊢
  rcases Nat.lt_or_ge i 1441 with hlt | hge
  · have hc : ((i : Int) ≤ 1440) = True := by simp; omega
    have hw := wrap_i64 (z := (i : Int) + 1) (by omega) (by omega)
    have ha := fun h (hb : hget h 1 = some (.arr 3 1 (iL cs))) (hb2 : hget h 2 = some (.arr 3 1 [[.int .i64 now]])) => app_osl (P := Tryd.prog) Fz.und_25 Fz.size_3 Fz.zero_3 rfl (by omega) Fz.bytes_3_25 h 3 1 i 2 1 (es := iL cs) (xs := [[.int .i64 now]]) (ty2 := 3) (sz2 := 1) hb (by rw [iL_length, hcl]) hb2 rfl rfl (by simp [iL, hcl]; omega) (by simp [iL, hcl]; omega)
    by_cases hu0 : (0 : Int) < (us.length : Int)
    rotate_left
    · have hwn := wrap_i64 (z := now + 0) (by omega) (by omega)
      simp only [FT, ↓RD, RU, okR, Bool.true_or, Bool.or_true, argEnv, List.length_cons, List.length_nil, List.map_cons, List.map_nil, List.getElem?_cons_zero, List.getElem?_cons_succ, List.drop_zero, List.drop_succ_cons, List.take_succ_cons, List.take_zero, List.all_cons, List.all_nil, Option.map_some, Bool.and_self, Bool.and_true, true_and, and_true, and_self, Nat.reduceAdd, Nat.reduceSub, Nat.reduceLT, Nat.reduceLeDiff, Nat.reduceEqDiff, Nat.zero_add, Nat.add_zero, ne_eq, not_false_eq_true, reduceIte, Bool.not_true, Bool.not_false, Nat.le_refl, iL_length, hc, hw, ha, hu0, hwn, decide_true, decide_false]
      exact ⟨(i + 1, cs ++ [now], max b (min c (now + 0))), ⟨by omega, by simp [hcl], by simp only; omega, by simp only; omega⟩, by simp only; omega, by simp [headW, heapW, envW, blkLt, D.ltL, D.lt, look, hget, hset, iL, hcl]⟩
    · have hm0 := Int.tmod_nonneg (us.length : Int) (show (0 : Int) ≤ i by omega)
      have hm1 := Int.tmod_lt_of_pos (i : Int) hu0
      have hix := fun hp => ix_i Fz.und_25 Fz.size_3 (l := us) (m := (i : Int).tmod us.length) hm0 hm1 hp
      have hrem := a_rem' (k := .i64) (x := (i : Int)) (y := (us.length : Int)) (by omega)
      have hwa := wrap_i64 (z := 0 - a) (by omega) (by omega)
      generalize hd : max (0 - a) (min a (iAt us ((i : Int).tmod us.length))) = d at *
      have hwn := wrap_i64 (z := now + d) (by omega) (by omega)
      simp only [FT, ↓RD, RU, okR, Bool.true_or, Bool.or_true, argEnv, List.length_cons, List.length_nil, List.map_cons, List.map_nil, List.getElem?_cons_zero, List.getElem?_cons_succ, List.drop_zero, List.drop_succ_cons, List.take_succ_cons, List.take_zero, List.all_cons, List.all_nil, Option.map_some, Bool.and_self, Bool.and_true, true_and, and_true, and_self, Nat.reduceAdd, Nat.reduceSub, Nat.reduceLT, Nat.reduceLeDiff, Nat.reduceEqDiff, Nat.zero_add, Nat.add_zero, ne_eq, not_false_eq_true, reduceIte, Bool.not_true, Bool.not_false, Nat.le_refl, iL_length, hc, hw, ha, hu0, hix, hrem, hwa, hd, hwn, decide_true, decide_false]
      exact ⟨(i + 1, cs ++ [now], max b (min c (now + d))), ⟨by omega, by simp [hcl], by simp only; omega, by simp only; omega⟩, by simp only; omega, by simp [headW, heapW, envW, blkLt, D.ltL, D.lt, look, hget, hset, iL, hcl]⟩
  have : i = 1441 := by omega
  subst this
  simp only [FT, ↓RD, RU, okR, Bool.true_or, Bool.or_true, argEnv, List.length_cons, List.length_nil, List.map_cons, List.map_nil, List.getElem?_cons_zero, List.getElem?_cons_succ, List.drop_zero, List.drop_succ_cons, List.take_succ_cons, List.take_zero, List.all_cons, List.all_nil, Option.map_some, Bool.and_self, Bool.and_true, true_and, and_true, and_self, Nat.reduceAdd, Nat.reduceSub, Nat.reduceLT, Nat.reduceLeDiff, Nat.reduceEqDiff, Nat.zero_add, Nat.add_zero, ne_eq, not_false_eq_true, reduceIte, Bool.not_true, Bool.not_false, Nat.le_refl, Int.cast_ofNat_Int, Int.reduceLE, decide_false]
  refine loopNil 13 3 1 rfl ?_
  refine loopW (ι := Option Nat) o14b_ok [(11, [(15, false, false, [])])] (fun | some i => [(3, .int .i64 (n : Int)), (4, .ptr 0 0), (9, .osl 1 1441), (13, .osl 2 (bitsTo n i).length), (14, .int .i64 (i : Int))] | none => [(3, .int .i64 (n : Int)), (4, .ptr 0 0), (9, .osl 1 1441), (13, .sl (iL (bI n))), (14, .int .i64 8)])
    (fun | some i => [(2, .arr 3 1 (intL (bitsTo n i))), (1, .arr 3 1 (iL cs)), (0, .box [.int .i64 a, .int .i64 b, .int .i64 c, .sl (rs.map Rd.d)])] | none => [(1, .arr 3 1 (iL cs)), (0, .box [.int .i64 a, .int .i64 b, .int .i64 c, .sl (rs.map Rd.d)])]) 3 (fun | some i => i < 8 | none => True) (fun | some i => 8 - i | none => 0) (some 0) (by kernel_rfl) (by kernel_rfl) (Nat.zero_lt_succ _) ?_ ?_
  · refine imp_head ?_
    simp [headW, heapW, envW, blkLt, D.ltL, D.lt, look, hget, eset_nil, eset_cons, bitsTo, intL]
  rintro (_ | i) hi8
  rotate_left
  · dsimp only at hi8 ⊢
    have hc : ((i : Int) < 8) = True := by simp; omega
    have hs := shr_nat n i (by omega)
    have hw := wrap_i64 (z := (i : Int) + 1) (by omega) (by omega)
    have hbl := bits_len n i
    have fin : ∀ s' : St, headW 0 s' [(3, .int .i64 (n : Int)), (4, .ptr 0 0), (9, .osl 1 1441), (13, .osl 2 (bitsTo n (i + 1)).length), (14, .int .i64 ((i : Int) + 1))] [(2, .arr 3 1 (intL (bitsTo n (i + 1)))), (1, .arr 3 1 (iL cs)), (0, .box [.int .i64 a, .int .i64 b, .int .i64 c, .sl (rs.map Rd.d)])] 3 128 →
        ∃ j : Option Nat, (match j with | some i => i < 8 | none => True) ∧ (match j with | some i => 8 - i | none => 0) < 8 - i ∧ Imp 0 s' ⟨(match j with | some i => [(3, .int .i64 (n : Int)), (4, .ptr 0 0), (9, .osl 1 1441), (13, .osl 2 (bitsTo n i).length), (14, .int .i64 (i : Int))] | none => [(3, .int .i64 (n : Int)), (4, .ptr 0 0), (9, .osl 1 1441), (13, .sl (iL (bI n))), (14, .int .i64 8)]),
          (match j with | some i => [(2, .arr 3 1 (intL (bitsTo n i))), (1, .arr 3 1 (iL cs)), (0, .box [.int .i64 a, .int .i64 b, .int .i64 c, .sl (rs.map Rd.d)])] | none => [(1, .arr 3 1 (iL cs)), (0, .box [.int .i64 a, .int .i64 b, .int .i64 c, .sl (rs.map Rd.d)])]), 3, 128⟩ := fun s' hh => by
      by_cases h7 : i = 7
      · subst h7
        refine ⟨none, trivial, by simp, Imp.trans (imp_head hh) (imp_frz 2 ?_)⟩
        simp [headW, heapW, envW, blkLt, D.ltL, D.lt, look, hget, frzD, herase, intL_bI, iL_length, bI]
      · refine ⟨some (i + 1), by simp only; omega, by simp only; omega, imp_head ?_⟩
        simpa using hh
    by_cases h1 : n / 2 ^ i % 2 = 1
    · have hb : (((n / 2 ^ i % 2 : Nat) : Int) == 1) = true := by simp [h1]
      have ha := fun h (hb : hget h 2 = some (.arr 3 1 (intL (bitsTo n i)))) (hb2 : hget h 3 = some (.arr 3 1 [[.int .i64 (i : Int)]])) => app_osl (P := Tryd.prog) Fz.und_25 Fz.size_3 Fz.zero_3 rfl (by omega) Fz.bytes_3_25 h 4 2 (bitsTo n i).length 3 1 (es := intL (bitsTo n i)) (xs := [[.int .i64 (i : Int)]]) (ty2 := 3) (sz2 := 1) hb (by simp [intL]) hb2 rfl rfl
        (by simp [intL]; omega) (by simp [intL]; omega)
      simp only [FT, ↓RD, RU, okR, Bool.true_or, Bool.or_true, argEnv, List.length_cons, List.length_nil, List.map_cons, List.map_nil, List.getElem?_cons_zero, List.getElem?_cons_succ, List.drop_zero, List.drop_succ_cons, List.take_succ_cons, List.take_zero, List.all_cons, List.all_nil, Option.map_some, Bool.and_self, Bool.and_true, true_and, and_true, and_self, Nat.reduceAdd, Nat.reduceSub, Nat.reduceLT, Nat.reduceLeDiff, Nat.reduceEqDiff, Nat.zero_add, Nat.add_zero, ne_eq, not_false_eq_true, reduceIte, Bool.not_true, Bool.not_false, Nat.le_refl, a_shr, hs, hc, a_and, and_one, hb, ha, hw, decide_true]
      exact fin _ (by simp [headW, heapW, envW, blkLt, D.ltL, D.lt, look, hget, hset, bitsTo_succ, h1, intL])
    · have hb : (((n / 2 ^ i % 2 : Nat) : Int) == 1) = false := by simpa using (by exact_mod_cast h1 : ¬ ((n / 2 ^ i % 2 : Nat) : Int) = 1)
      simp only [FT, ↓RD, RU, okR, Bool.true_or, Bool.or_true, argEnv, List.length_cons, List.length_nil, List.map_cons, List.map_nil, List.getElem?_cons_zero, List.getElem?_cons_succ, List.drop_zero, List.drop_succ_cons, List.take_succ_cons, List.take_zero, List.all_cons, List.all_nil, Option.map_some, Bool.and_self, Bool.and_true, true_and, and_true, and_self, Nat.reduceAdd, Nat.reduceSub, Nat.reduceLT, Nat.reduceLeDiff, Nat.reduceEqDiff, Nat.zero_add, Nat.add_zero, ne_eq, not_false_eq_true, reduceIte, Bool.not_true, Bool.not_false, Nat.le_refl, a_shr, hs, hc, a_and, and_one, hb, hw, decide_true]
      exact fin _ (by simp [headW, heapW, envW, blkLt, D.ltL, D.lt, look, hget, bitsTo_succ, h1])
  dsimp only
  have hbn := bI_len n
  have hig := gIg_eq hga (decL_sl (bI n)) (by omega)
  have hga2 : gaOk ⟨a, b, c, rs.filter (igB (bI n))⟩ = true := gaOk_sub (g := ⟨a, b, c, rs⟩) hga
  have hlf : (rs.filter (igB (bI n))).length ≤ 9223372036854775807 := Nat.le_trans (List.length_filter_le _ _) hl
  have hfit := gGI_eq (ok := gaOk) (fun g cs => D.bool (fitB g cs)) a b c (cs := cs) hlf hga2
  simp only [Ga.c, igG] at hig
  cases hF : fitB ⟨a, b, c, rs.filter (igB (bI n))⟩ cs
  · simp only [FT, ↓RD, RU, okR, Bool.true_or, Bool.or_true, argEnv, List.length_cons, List.length_nil, List.map_cons, List.map_nil, List.getElem?_cons_zero, List.getElem?_cons_succ, List.drop_zero, List.drop_succ_cons, List.take_succ_cons, List.take_zero, List.all_cons, List.all_nil, Option.map_some, Bool.and_self, Bool.and_true, true_and, and_true, and_self, Nat.reduceAdd, Nat.reduceSub, Nat.reduceLT, Nat.reduceLeDiff, Nat.reduceEqDiff, Nat.zero_add, Nat.add_zero, ne_eq, not_false_eq_true, reduceIte, Bool.not_true, Bool.not_false, Nat.le_refl, Int.cast_ofNat_Int, Int.lt_irrefl, decide_false, hig, hfit, hF, gTrue_eq, iL_length, hcl, viewA_arr]
  have hok : okB ⟨a, b, c, rs⟩ n = true := by
    rw [okB_eq hga]
    have := fit_clash hga2 hF
    simpa [igG] using this
  obtain ⟨m, hm1, hm2, hm3⟩ := blame_few hn hok
  have hB : BlameA ⟨a, b, c, rs⟩ = .tup [.sl (iL (bI m)), .int .i64 0] := by simp [BlameA, hga, hm1, bestD]
  have hbm := bI_len m
  have hig2 := gIg_eq hga (decL_sl (bI m)) (by omega)
  simp only [Ga.c, igG] at hig2
  have hlm : (rs.filter (igB (bI m))).length ≤ 9223372036854775807 := Nat.le_trans (List.length_filter_le _ _) hl
  have hga3 : gaOk ⟨a, b, c, rs.filter (igB (bI m))⟩ = true := gaOk_sub (g := ⟨a, b, c, rs⟩) hga
  have hcl3 : (clashG ⟨a, b, c, rs.filter (igB (bI m))⟩).2.2 = false := by
    rw [okB_eq hga] at hm2
    simpa [igG] using hm2
  have hBo : BoundsA ⟨a, b, c, rs.filter (igB (bI m))⟩ = .tup [.sl (boundsL ⟨a, b, c, rs.filter (igB (bI m))⟩ 1441), .int .i64 0] := by simp [BoundsA, hga3, hcl3]
  have hbl : (boundsL ⟨a, b, c, rs.filter (igB (bI m))⟩ 1441).length = 1441 := by rw [boundsL, List.length_map, List.length_range]
  have hgt : decide (((bI n).length : Int) < ((bI m).length : Int)) = false := by simp; omega
  simp only [FT, ↓RD, RU, okR, Bool.true_or, Bool.or_true, argEnv, List.length_cons, List.length_nil, List.map_cons, List.map_nil, List.getElem?_cons_zero, List.getElem?_cons_succ, List.drop_zero, List.drop_succ_cons, List.take_succ_cons, List.take_zero, List.all_cons, List.all_nil, Option.map_some, Bool.and_self, Bool.and_true, true_and, and_true, and_self, Nat.reduceAdd, Nat.reduceSub, Nat.reduceLT, Nat.reduceLeDiff, Nat.reduceEqDiff, Nat.zero_add, Nat.add_zero, ne_eq, not_false_eq_true, reduceIte, Bool.not_true, Bool.not_false, Nat.le_refl, Int.cast_ofNat_Int, Int.lt_irrefl, decide_false, hig, hfit, hF, gTrue_eq, iL_length, hcl, viewA_arr, gGa_eq _ _ _ _ hl, hB, ex_tup, hgt, hig2, gGa_eq _ _ _ _ hlm, hBo, hbl, beq_self_eq_true, bne_self_eq_false]

theorem waterBlamed_pure : ∀ Ds, TyL Tryd.prog Tryd.f6.params.toList Ds → Pure Tryd.prog 6 Ds (.bool true) := by
  intro Ds h
  rw [Tryd.params6] at h
  match Ds, h with
  | [_, _, _, _], ⟨⟨n, _, hg, he⟩, ⟨n2, _, hf, he2⟩, ⟨n3, _, hu, he3⟩, ⟨n4, _, hb, he4⟩, _⟩ =>
    rw [Tryd.underlying24] at he
    rw [Fz.und_3] at he2 he4
    rw [Fz.und_25] at he3
    dsimp only at he he2 he3 he4
    obtain ⟨g, rfl, hl⟩ := tyGa hg
    obtain ⟨us, rfl, hl2⟩ := tyIs hu
    obtain ⟨x, rfl, _⟩ := tyInt Fz.und_3 hf
    obtain ⟨y, rfl, _⟩ := tyInt Fz.und_3 hb
    cases he2
    cases he3
    cases he4
    subst he
    exact waterBlamed_at g x us y hl hl2
end Go.Sx
