/- Own work: contracts of functions, used in the proof of a law. -/
import Derived.Test.YtjhoplbdpdbgaaaDoorSxC8d
import Derived.Test.YtjhoplbdpdbgaaaDoorSxPa
set_option linter.unusedVariables false
set_option linter.unusedSimpArgs false
namespace Go.Sx
open Go.Proofs
set_option maxRecDepth 10000

abbrev o9 : List (FuncId × (List D → Option D)) := (13, gGa BoundsA) :: o8
theorem o9_ok : OkO Tryd.prog (mkO o9) :=
  mkO_ok (fun ds r h => by obtain ⟨g, hl, rfl, rfl⟩ := gGa_inv h; exact Bounds_t g hl) o8_ok

theorem ix_b {t e : TypeId} (hu : (Tryd.prog).underlying t = some (.slice e)) (hs : sizeT Tryd.prog e = some 2) {g : Ga} {n i : Nat} (hi : i < n) (h : H) :
    indexAddrD Tryd.prog h t (.sl (boundsL g n)) (.int .i64 (i : Int)) = some (.ref [.int .i64 (atG g.rate g.least g.most g.rs i).1, .int .i64 (atG g.rate g.least g.most g.rs i).2] 0) :=
  ix_sl hu hs (c := atS g i) (by simp [boundsL, hi]) rfl h .i64

theorem waterSharp_at (g : Ga) (cs : List Int) (hl : g.rs.length ≤ 9223372036854775807) (hl2 : cs.length ≤ 9223372036854775807) : Pure Tryd.prog 5 [.agg g.c, .sl (iL cs)] (.bool true) := by
  obtain ⟨a, b, c, rs⟩ := g
  dsimp only at hl
  simp only [Ga.c]
  refine pure_of_wc (rs := [.tmp 4]) (m := 133) [(14, [(15, false, true, [(3, 8), (2, 8), (1, 8), (0, 8)]), (3, false, false, [])]), (15, [(25, false, false, [])])] (o9_ok) (by kernel_rfl) Tryd.func5 rfl (by kernel_rfl) rfl rfl (by kernel_rfl) ?_
  cases hga : gaOk ⟨a, b, c, rs⟩
  · simp only [FT, ↓RD, RU, okR, Bool.true_or, Bool.or_true, argEnv, List.length_cons, List.length_nil, List.map_cons, List.map_nil, List.getElem?_cons_zero, List.getElem?_cons_succ, List.drop_zero, List.drop_succ_cons, List.take_succ_cons, List.take_zero, List.all_cons, List.all_nil, Option.map_some, Bool.and_self, Bool.and_true, true_and, and_true, and_self, Nat.reduceAdd, Nat.reduceSub, Nat.reduceLT, Nat.reduceLeDiff, Nat.reduceEqDiff, Nat.zero_add, Nat.add_zero, ne_eq, not_false_eq_true, reduceIte, Bool.not_true, Bool.not_false, Nat.le_refl, gGa_eq _ _ _ _ hl, hga, gTrue_eq]
  by_cases hc : (1500 : Int) < (cs.length : Int)
  · simp only [FT, ↓RD, RU, okR, Bool.true_or, Bool.or_true, argEnv, List.length_cons, List.length_nil, List.map_cons, List.map_nil, List.getElem?_cons_zero, List.getElem?_cons_succ, List.drop_zero, List.drop_succ_cons, List.take_succ_cons, List.take_zero, List.all_cons, List.all_nil, Option.map_some, Bool.and_self, Bool.and_true, true_and, and_true, and_self, Nat.reduceAdd, Nat.reduceSub, Nat.reduceLT, Nat.reduceLeDiff, Nat.reduceEqDiff, Nat.zero_add, Nat.add_zero, ne_eq, not_false_eq_true, reduceIte, Bool.not_true, Bool.not_false, Nat.le_refl, gGa_eq _ _ _ _ hl, hga, gTrue_eq, hc, iL_length, decide_true]
  have h2 := gGI_eq (fun g cs => D.bool (fitB g cs)) a b c (cs := cs) hl hga
  cases hcl : (clashG ⟨a, b, c, rs⟩).2.2
  rotate_left
  · have hB : BoundsA ⟨a, b, c, rs⟩ = .tup [.nils, .int .i64 5] := by simp [BoundsA, hga, hcl]
    have hC : ClashA ⟨a, b, c, rs⟩ = .tup [.int .i64 (clashG ⟨a, b, c, rs⟩).1, .int .i64 (clashG ⟨a, b, c, rs⟩).2.1, .int .i64 0] := by simp [ClashA, hga, hcl]
    have hF : fitB ⟨a, b, c, rs⟩ cs = false := by
      cases hf : fitB ⟨a, b, c, rs⟩ cs with
      | false => rfl
      | true => have := fit_clash hga hf; rw [hcl] at this; cases this
    have hi := (outer_yes hcl).1
    have hi : (0 ≤ (clashG ⟨a, b, c, rs⟩).1 ∧ (clashG ⟨a, b, c, rs⟩).1 ≤ (clashG ⟨a, b, c, rs⟩).2.1 ∧ (clashG ⟨a, b, c, rs⟩).2.1 < rs.length) := by
      simpa [clashG] using hi
    simp only [FT, ↓RD, RU, okR, Bool.true_or, Bool.or_true, argEnv, List.length_cons, List.length_nil, List.map_cons, List.map_nil, List.getElem?_cons_zero, List.getElem?_cons_succ, List.drop_zero, List.drop_succ_cons, List.take_succ_cons, List.take_zero, List.all_cons, List.all_nil, Option.map_some, Bool.and_self, Bool.and_true, true_and, and_true, and_self, Nat.reduceAdd, Nat.reduceSub, Nat.reduceLT, Nat.reduceLeDiff, Nat.reduceEqDiff, Nat.zero_add, Nat.add_zero, ne_eq, not_false_eq_true, reduceIte, Bool.not_true, Bool.not_false, Nat.le_refl, gGa_eq _ _ _ _ hl, hga, gTrue_eq, hc, iL_length, decide_true, decide_false, h2, hB, hC, hF, ex_tup, hi.1, hi.2.1, hi.2.2, List.length_map, Int.reduceBEq, Int.reduceBNe, beq_self_eq_true, bne_self_eq_false]
  have hB : BoundsA ⟨a, b, c, rs⟩ = .tup [.sl (boundsL ⟨a, b, c, rs⟩ 1441), .int .i64 0] := by simp [BoundsA, hga, hcl]
  have hC : ClashA ⟨a, b, c, rs⟩ = .tup [.int .i64 0, .int .i64 0, .int .i64 6] := by simp [ClashA, hga, hcl]
  have hbl : (boundsL ⟨a, b, c, rs⟩ 1441).length = 1441 := by rw [boundsL, List.length_map, List.length_range]
  simp only [FT, ↓RD, RU, okR, Bool.true_or, Bool.or_true, argEnv, List.length_cons, List.length_nil, List.map_cons, List.map_nil, List.getElem?_cons_zero, List.getElem?_cons_succ, List.drop_zero, List.drop_succ_cons, List.take_succ_cons, List.take_zero, List.all_cons, List.all_nil, Option.map_some, Bool.and_self, Bool.and_true, true_and, and_true, and_self, Nat.reduceAdd, Nat.reduceSub, Nat.reduceLT, Nat.reduceLeDiff, Nat.reduceEqDiff, Nat.zero_add, Nat.add_zero, ne_eq, not_false_eq_true, reduceIte, Bool.not_true, Bool.not_false, Nat.le_refl, gGa_eq _ _ _ _ hl, hga, gTrue_eq, hc, iL_length, decide_true, decide_false, h2, hB, hC, ex_tup, hbl, Int.reduceBEq, Int.reduceBNe, beq_self_eq_true, bne_self_eq_false, Int.cast_ofNat_Int]
  refine loopNil 11 3 1 rfl (loopNil 12 3 1 rfl ?_)
  refine loopV (ι := Nat) o9_ok [(14, [(15, false, true, [(3, 8), (2, 8), (1, 8), (0, 8)]), (3, false, false, [])]), (15, [(25, false, false, [])])] (fun i => [(1, .sl (iL cs)), (2, .ptr 0 0), (5, .sl (boundsL ⟨a, b, c, rs⟩ 1441)), (10, .bool (fitB ⟨a, b, c, rs⟩ cs)), (11, .osl 1 i), (12, .osl 2 i), (13, .int .i64 (i : Int))])
    (fun i => [(2, .arr 3 1 (iL (highL ⟨a, b, c, rs⟩ i))), (1, .arr 3 1 (iL (lowL ⟨a, b, c, rs⟩ i))), (0, .box [.int .i64 a, .int .i64 b, .int .i64 c, .sl (rs.map Rd.d)])]) 3 (fun i => i ≤ 1441) (fun i => 1441 - i) 0 (by kernel_rfl) (by kernel_rfl) (Nat.zero_le _) ?_ ?_
  · simp [headW, heapW, envW, blkLt, D.ltL, D.lt, look, hget, eset_nil, eset_cons, lowL, highL, iL]
  intro i hi
  have hll : (lowL ⟨a, b, c, rs⟩ i).length = i := by rw [lowL, List.length_map, List.length_range]
  have hhl : (highL ⟨a, b, c, rs⟩ i).length = i := by rw [highL, List.length_map, List.length_range]
  rcases Nat.lt_or_ge i 1441 with hlt | hge
  rotate_left
  · have : i = 1441 := by omega
    subst this
    have f1 := gGI_eq (fun g cs => D.bool (fitB g cs)) a b c (cs := lowL ⟨a, b, c, rs⟩ 1441) hl hga
    have f2 := gGI_eq (fun g cs => D.bool (fitB g cs)) a b c (cs := highL ⟨a, b, c, rs⟩ 1441) hl hga
    have g1 := low_fits hga hcl
    have g2 := high_fits hga hcl
    simp only [FT, ↓RD, RU, okR, Bool.true_or, Bool.or_true, argEnv, List.length_cons, List.length_nil, List.map_cons, List.map_nil, List.getElem?_cons_zero, List.getElem?_cons_succ, List.drop_zero, List.drop_succ_cons, List.take_succ_cons, List.take_zero, List.all_cons, List.all_nil, Option.map_some, Bool.and_self, Bool.and_true, true_and, and_true, and_self, Nat.reduceAdd, Nat.reduceSub, Nat.reduceLT, Nat.reduceLeDiff, Nat.reduceEqDiff, Nat.zero_add, Nat.add_zero, ne_eq, not_false_eq_true, reduceIte, Bool.not_true, Bool.not_false, Nat.le_refl, hbl, Int.cast_ofNat_Int, Int.lt_irrefl, decide_false, iL_length, hll, hhl, f1, f2, g1, g2, gTrue_eq]
  have hcc : ((i : Int) < 1441) = True := by simp; omega
  have hix := fun hp => ix_b Fz.und_31 Fz.size_45 (g := ⟨a, b, c, rs⟩) hlt hp
  dsimp only at hix
  have hd := fun h x => litD_int (P := Tryd.prog) Fz.und_25 Fz.size_3 Fz.zero_3 h .i64 x
  have ha1 := fun h nid (hb : hget h 1 = some (.arr 3 1 (iL (lowL ⟨a, b, c, rs⟩ i)))) => app_sl (P := Tryd.prog) (h := h) (nid := nid) Fz.und_25 Fz.size_3 Fz.zero_3 rfl (by omega) Fz.bytes_3_25 (b := 1) (n := i) (xs := [[.int .i64 (atG a b c rs i).1]]) hb (by rw [iL_length, hll]) rfl (by rw [iL_length, hll]; simp; omega) (by rw [iL_length, hll]; simp; omega)
  have ha2 := fun h nid (hb : hget h 2 = some (.arr 3 1 (iL (highL ⟨a, b, c, rs⟩ i)))) => app_sl (P := Tryd.prog) (h := h) (nid := nid) Fz.und_25 Fz.size_3 Fz.zero_3 rfl (by omega) Fz.bytes_3_25 (b := 2) (n := i) (xs := [[.int .i64 (atG a b c rs i).2]]) hb (by rw [iL_length, hhl]) rfl (by rw [iL_length, hhl]; simp; omega) (by rw [iL_length, hhl]; simp; omega)
  have hw := wrap_i64 (z := (i : Int) + 1) (by omega) (by omega)
  have hlo : iL (lowL ⟨a, b, c, rs⟩ (i + 1)) = iL (lowL ⟨a, b, c, rs⟩ i) ++ [[.int .i64 (atG a b c rs i).1]] := by simp [iL, lowL, List.range_succ]
  have hhi : iL (highL ⟨a, b, c, rs⟩ (i + 1)) = iL (highL ⟨a, b, c, rs⟩ i) ++ [[.int .i64 (atG a b c rs i).2]] := by simp [iL, highL, List.range_succ]
  cases hF : fitB ⟨a, b, c, rs⟩ cs
  · simp only [FT, ↓RD, RU, okR, Bool.true_or, Bool.or_true, argEnv, List.length_cons, List.length_nil, List.map_cons, List.map_nil, List.getElem?_cons_zero, List.getElem?_cons_succ, List.drop_zero, List.drop_succ_cons, List.take_succ_cons, List.take_zero, List.all_cons, List.all_nil, Option.map_some, Bool.and_self, Bool.and_true, true_and, and_true, and_self, Nat.reduceAdd, Nat.reduceSub, Nat.reduceLT, Nat.reduceLeDiff, Nat.reduceEqDiff, Nat.zero_add, Nat.add_zero, ne_eq, not_false_eq_true, reduceIte, Bool.not_true, Bool.not_false, Nat.le_refl, hix, hd, ha1, ha2, hbl, Int.cast_ofNat_Int, hcc, decide_true, iL_length, hll, hhl, hw]
    exact ⟨i + 1, by omega, by omega, by simp [headW, heapW, envW, blkLt, D.ltL, D.lt, look, hget, hlo, hhi]⟩
  · have hlen := (fit_inv hF).1
    have hix2 := fun hp => ix_i Fz.und_25 Fz.size_3 (l := cs) (m := (i : Int)) (by omega) (by omega) hp
    have hbd := fit_bounds hga hF (t := (i : Int)) (by omega)
    dsimp only at hbd
    have h5 : decide (iAt cs (i : Int) < (atG a b c rs i).1) = false := by simp; omega
    have h6 : decide ((atG a b c rs i).2 < iAt cs (i : Int)) = false := by simp; omega
    simp only [FT, ↓RD, RU, okR, Bool.true_or, Bool.or_true, argEnv, List.length_cons, List.length_nil, List.map_cons, List.map_nil, List.getElem?_cons_zero, List.getElem?_cons_succ, List.drop_zero, List.drop_succ_cons, List.take_succ_cons, List.take_zero, List.all_cons, List.all_nil, Option.map_some, Bool.and_self, Bool.and_true, true_and, and_true, and_self, Nat.reduceAdd, Nat.reduceSub, Nat.reduceLT, Nat.reduceLeDiff, Nat.reduceEqDiff, Nat.zero_add, Nat.add_zero, ne_eq, not_false_eq_true, reduceIte, Bool.not_true, Bool.not_false, Nat.le_refl, hix, hix2, hd, ha1, ha2, hbl, Int.cast_ofNat_Int, hcc, decide_true, iL_length, hll, hhl, hw, h5, h6]
    exact ⟨i + 1, by omega, by omega, by simp [headW, heapW, envW, blkLt, D.ltL, D.lt, look, hget, hlo, hhi]⟩

theorem waterSharp_pure : ∀ Ds, TyL Tryd.prog Tryd.f5.params.toList Ds → Pure Tryd.prog 5 Ds (.bool true) := by
  intro Ds h
  rw [Tryd.params5] at h
  match Ds, h with
  | [_, _], ⟨⟨n, _, hg, he⟩, ⟨m, _, hc, he2⟩, _⟩ =>
    rw [Tryd.underlying24] at he
    rw [Fz.und_25] at he2
    dsimp only at he he2
    obtain ⟨g, rfl, hl⟩ := tyGa hg
    obtain ⟨cs, rfl, hl2⟩ := tyIs hc
    cases he2
    subst he
    exact waterSharp_at g cs hl hl2
end Go.Sx
