/- Own work: contracts of functions, used in the proof of a law. -/
import Derived.Test.YthljonnokmkagaaSxEh
set_option linter.unusedVariables false
set_option linter.unusedSimpArgs false
namespace Go.Sx
open Go.Proofs
set_option maxRecDepth 10000

/-! RunNeeds -/
theorem startE_ne {c : Craft} {l : LandM} {a : AirW} {w : Int} {b : Bool} (h : startE c l a w true ≠ 0) : startE c l a w b ≠ 0 := by
  intro e
  apply h
  unfold startE at e ⊢
  cases b
  · simp at e
  · exact e
theorem NeedsR_bad {c : Craft} {l : LandM} {a : AirW} {w : Int} (h : startE c l a w true ≠ 0) : NeedsR c l a w = .tup [.nils, .int .i64 (startE c l a w true)] := by rw [NeedsR, if_neg h]
theorem NeedsR_ok {c : Craft} {l : LandM} {a : AirW} {w : Int} (h : startE c l a w true = 0) : NeedsR c l a w = .tup [.sl (intL (needsF c a (ceilI c w) l)), .int .i64 0] := by rw [NeedsR, if_pos h]
theorem EscD_bad {c : Craft} {l : LandM} {a : AirW} {w x h : Int} (he : startE c l a w (cellL l x && rI h 0 20000) ≠ 0) : EscD c l a w x h = .tup [.nils, .int .i64 (startE c l a w (cellL l x && rI h 0 20000))] := by
  rw [← startE_cell] at he ⊢
  rw [EscD, if_neg he]
theorem EscD_none {c : Craft} {l : LandM} {a : AirW} {w x h : Int} (he : startE c l a w (cellL l x && rI h 0 20000) = 0) (hm : manyI c a (ceilI c w) l x h = ((withinF c a (ceilI c w) l).length : Int)) : EscD c l a w x h = .tup [.nils, .int .i64 5] := by
  rw [← startE_cell] at he
  rw [EscD, if_pos he, if_pos hm]
theorem EscD_some {c : Craft} {l : LandM} {a : AirW} {w x h : Int} (he : startE c l a w (cellL l x && rI h 0 20000) = 0) (hm : manyI c a (ceilI c w) l x h ≠ ((withinF c a (ceilI c w) l).length : Int)) : EscD c l a w x h = .tup [.sl (intL (escA c a (ceilI c w) l x h)), .int .i64 0] := by
  rw [← startE_cell] at he
  rw [EscD, if_pos he, if_neg hm]
set_option maxHeartbeats 16000000 in
theorem runNeeds_at (c : Craft) (hl : CraftL c) (l : LandM) (ll : LandL l) (a : AirW) (w x h : Int) : Pure Try.prog 6 [.agg c.c, .agg l.c, .agg a.c, .int .i64 w, .int .i64 x, .int .i64 h] (.bool true) := by
  have oS := gC1_eq (fun c => .bool (shortC c)) hl
  have oT := gL1_eq (fun l => .bool (tinyL l)) ll
  have oLa := gLa_eq ll
  have oMap := gL1_eq (fun l => .int .i64 (if landB l then 0 else 2)) ll
  have oN := gCLA_eq (β := Int) (fun c l a _ => okL c l a) rs1 (fun c l a w => NeedsR c l a w) rs1_inj (c := c) (l := l) (a := a) (b := w) ⟨hl, ll⟩
  have oE := gCLA_eq (β := Int × Int × Int) (fun c l a _ => okL c l a) rs3 (fun c l a p => EscD c l a p.1 p.2.1 p.2.2) rs3_inj (c := c) (l := l) (a := a) (b := (w, x, h)) ⟨hl, ll⟩
  have oA1 := gCLA_eq (β := Int × Bool) (fun c l a _ => okL c l a) rs1b (fun c l a p => .int .i64 (startE c l a p.1 p.2)) rs1b_inj (c := c) (l := l) (a := a) (b := (w, true)) ⟨hl, ll⟩
  have oA2 := gCLA_eq (β := Int × Bool) (fun c l a _ => okL c l a) rs1b (fun c l a p => .int .i64 (startE c l a p.1 p.2)) rs1b_inj (c := c) (l := l) (a := a) (b := (w, cellL l x && rI h 0 20000)) ⟨hl, ll⟩
  have oC := gL2_eq (fun l x => .bool (cellL l x)) ll x
  have z1 := cstO_eq [] (.bool true)
  simp only [rs1, rs1b, rs3] at oN oE oA1 oA2
  cases hs : shortC c
  · rw [hs] at oS
    simp only [Craft.c, AirW.c, LandM.c, grD, waD] at *
    refine pure_of_wc (rs := [.tmp 12]) (m := 156) [(14, [(13, false, false, [])])] nC_ok (by kernel_rfl) Try.func6 rfl (by kernel_rfl) rfl rfl (by kernel_rfl) ?_
    simp only [RT, FS, ↓RE, okR, argEnv, Nat.reduceAdd, Nat.reduceSub, Nat.reduceLT, Nat.reduceLeDiff, Nat.reduceEqDiff, reduceIte, oS, oT, oLa, oMap, oN, oE, oA1, oA2, oC, gInt1_eq, z1, ex_tup, intL_len, Bool.and_true, Bool.not_true, Int.reduceBEq, Int.reduceBNe, beq_self_eq_true, bne_self_eq_false, Bool.and_self, decide_true, decide_false]
  rw [hs] at oS
  cases ht : tinyL l
  · rw [ht] at oT
    simp only [Craft.c, AirW.c, LandM.c, grD, waD] at *
    refine pure_of_wc (rs := [.tmp 12]) (m := 156) [(14, [(13, false, false, [])])] nC_ok (by kernel_rfl) Try.func6 rfl (by kernel_rfl) rfl rfl (by kernel_rfl) ?_
    simp only [RT, FS, ↓RE, okR, argEnv, Nat.reduceAdd, Nat.reduceSub, Nat.reduceLT, Nat.reduceLeDiff, Nat.reduceEqDiff, reduceIte, oS, oT, oLa, oMap, oN, oE, oA1, oA2, oC, gInt1_eq, z1, ex_tup, intL_len, Bool.and_true, Bool.not_true, Int.reduceBEq, Int.reduceBNe, beq_self_eq_true, bne_self_eq_false, Bool.and_self, decide_true, decide_false]
  rw [ht] at oT
  cases hb : landB l
  · have h1 := startE_land (c := c) (a := a) (w := w) (b := true) hb
    have h2 := startE_land (c := c) (a := a) (w := w) (b := cellL l x && rI h 0 20000) hb
    rw [hb] at oLa oMap
    rw [NeedsR_bad (by rw [h1]; decide), h1] at oN
    rw [EscD_bad (by rw [h2]; decide), h2] at oE
    rw [h1] at oA1
    rw [h2] at oA2
    cases hc : cellL l x
    · rw [hc, Bool.false_and] at oA2
      rw [hc] at oC
      simp only [Craft.c, AirW.c, LandM.c, grD, waD] at *
      refine pure_of_wc (rs := [.tmp 12]) (m := 156) [(14, [(13, false, false, [])])] nC_ok (by kernel_rfl) Try.func6 rfl (by kernel_rfl) rfl rfl (by kernel_rfl) ?_
      simp only [RT, FS, ↓RE, okR, argEnv, Nat.reduceAdd, Nat.reduceSub, Nat.reduceLT, Nat.reduceLeDiff, Nat.reduceEqDiff, reduceIte, oS, oT, oLa, oMap, oN, oE, oA1, oA2, oC, gInt1_eq, z1, ex_tup, intL_len, Bool.and_true, Bool.not_true, Int.reduceBEq, Int.reduceBNe, beq_self_eq_true, bne_self_eq_false, Bool.and_self, decide_true, decide_false, Bool.false_eq_true, if_false]
    · rw [hc, Bool.true_and] at oA2
      rw [hc] at oC
      simp only [Craft.c, AirW.c, LandM.c, grD, waD] at *
      refine pure_of_wc (rs := [.tmp 12]) (m := 156) [(14, [(13, false, false, [])])] nC_ok (by kernel_rfl) Try.func6 rfl (by kernel_rfl) rfl rfl (by kernel_rfl) ?_
      simp only [RT, FS, ↓RE, okR, argEnv, Nat.reduceAdd, Nat.reduceSub, Nat.reduceLT, Nat.reduceLeDiff, Nat.reduceEqDiff, reduceIte, oS, oT, oLa, oMap, oN, oE, oA1, oA2, oC, gInt1_eq, z1, ex_tup, intL_len, Bool.and_true, Bool.not_true, Int.reduceBEq, Int.reduceBNe, beq_self_eq_true, bne_self_eq_false, Bool.and_self, decide_true, decide_false, Bool.false_eq_true, if_false]
  rw [hb] at oLa oMap
  have hg30 : (30 < (l.ground.length : Int)) = (30 < l.ground.length) := by simp only [eq_iff_iff]; omega
  by_cases h30 : 30 < l.ground.length
  · have q30 : decide (30 < (l.ground.length : Int)) = true := by simp; omega
    simp only [Craft.c, AirW.c, LandM.c, grD, waD] at *
    refine pure_of_wc (rs := [.tmp 12]) (m := 156) [(14, [(13, false, false, [])])] nC_ok (by kernel_rfl) Try.func6 rfl (by kernel_rfl) rfl rfl (by kernel_rfl) ?_
    simp only [RT, FS, ↓RE, okR, argEnv, Nat.reduceAdd, Nat.reduceSub, Nat.reduceLT, Nat.reduceLeDiff, Nat.reduceEqDiff, reduceIte, oS, oT, oLa, oMap, oN, oE, oA1, oA2, oC, gInt1_eq, z1, ex_tup, intL_len, Bool.and_true, Bool.not_true, Int.reduceBEq, Int.reduceBNe, beq_self_eq_true, bne_self_eq_false, Bool.and_self, decide_true, decide_false, List.length_map, q30]
  have q30 : decide (30 < (l.ground.length : Int)) = false := by simp; omega
  by_cases h1 : startE c l a w true = 0
  rotate_left
  · have h2 := startE_ne (b := cellL l x && rI h 0 20000) h1
    have b1 : (startE c l a w true != 0) = true := by simpa using h1
    have b2 : (startE c l a w (cellL l x && rI h 0 20000) != 0) = true := by simpa using h2
    rw [NeedsR_bad h1] at oN
    rw [EscD_bad h2] at oE
    generalize startE c l a w true = E1 at *
    generalize hE2 : startE c l a w (cellL l x && rI h 0 20000) = E2 at *
    cases hc : cellL l x
    · rw [hc, Bool.false_and] at oA2
      rw [hc] at oC
      simp only [Craft.c, AirW.c, LandM.c, grD, waD] at *
      refine pure_of_wc (rs := [.tmp 12]) (m := 156) [(14, [(13, false, false, [])])] nC_ok (by kernel_rfl) Try.func6 rfl (by kernel_rfl) rfl rfl (by kernel_rfl) ?_
      simp only [RT, FS, ↓RE, okR, argEnv, Nat.reduceAdd, Nat.reduceSub, Nat.reduceLT, Nat.reduceLeDiff, Nat.reduceEqDiff, reduceIte, oS, oT, oLa, oMap, oN, oE, oA1, oA2, oC, gInt1_eq, z1, ex_tup, intL_len, Bool.and_true, Bool.not_true, Int.reduceBEq, Int.reduceBNe, beq_self_eq_true, bne_self_eq_false, Bool.and_self, decide_true, decide_false, List.length_map, q30, b1, b2, if_true]
    · rw [hc, Bool.true_and] at oA2
      rw [hc] at oC
      simp only [Craft.c, AirW.c, LandM.c, grD, waD] at *
      refine pure_of_wc (rs := [.tmp 12]) (m := 156) [(14, [(13, false, false, [])])] nC_ok (by kernel_rfl) Try.func6 rfl (by kernel_rfl) rfl rfl (by kernel_rfl) ?_
      simp only [RT, FS, ↓RE, okR, argEnv, Nat.reduceAdd, Nat.reduceSub, Nat.reduceLT, Nat.reduceLeDiff, Nat.reduceEqDiff, reduceIte, oS, oT, oLa, oMap, oN, oE, oA1, oA2, oC, gInt1_eq, z1, ex_tup, intL_len, Bool.and_true, Bool.not_true, Int.reduceBEq, Int.reduceBNe, beq_self_eq_true, bne_self_eq_false, Bool.and_self, decide_true, decide_false, List.length_map, q30, b1, b2, if_true]
  obtain ⟨k1, k2, k3, _, k5⟩ := startE_ok hl ll h1
  have oRN := gCLA_eq (β := Int) (fun c l a _ => okO c l a) rs1 (fun c l a w => .sl (intL (needsF c a (ceilI c w) l))) rs1_inj (c := c) (l := l) (a := a) (b := w) ⟨k1, k2, k3⟩
  have oRE := fun hx hh => gCLA_eq (β := Int × Int × Int) (fun c l a p => okO c l a ∧ cellI l p.2.1 ∧ (0 ≤ p.2.2 ∧ p.2.2 ≤ 20000)) rs3 (fun c l a p => REscD c l a p.1 p.2.1 p.2.2) rs3_inj (c := c) (l := l) (a := a) (b := (w, x, h)) ⟨⟨k1, k2, k3⟩, hx, hh⟩
  simp only [rs1, rs3] at oRN oRE
  have oSN := gSame_eq (needsF c a (ceilI c w) l) (needsF c a (ceilI c w) l) (by have := (needsF_ok k1 k3 k2 (ceilI c w)).len; have := k2.small; omega)
  rw [NeedsR_ok h1] at oN
  rw [h1] at oA1
  generalize hNF : needsF c a (ceilI c w) l = NF at *
  by_cases h2 : startE c l a w (cellL l x && rI h 0 20000) = 0
  rotate_left
  · have b2 : (startE c l a w (cellL l x && rI h 0 20000) != 0) = true := by simpa using h2
    rw [EscD_bad h2] at oE
    clear oRE
    generalize hE2 : startE c l a w (cellL l x && rI h 0 20000) = E2 at *
    cases hc : cellL l x
    · rw [hc, Bool.false_and] at oA2
      rw [hc] at oC
      simp only [Craft.c, AirW.c, LandM.c, grD, waD] at *
      refine pure_of_wc (rs := [.tmp 12]) (m := 156) [(14, [(13, false, false, [])])] nC_ok (by kernel_rfl) Try.func6 rfl (by kernel_rfl) rfl rfl (by kernel_rfl) ?_
      simp only [RT, FS, ↓RE, okR, argEnv, Nat.reduceAdd, Nat.reduceSub, Nat.reduceLT, Nat.reduceLeDiff, Nat.reduceEqDiff, reduceIte, oS, oT, oLa, oMap, oN, oE, oA1, oA2, oC, gInt1_eq, z1, ex_tup, intL_len, Bool.and_true, Bool.not_true, Int.reduceBEq, Int.reduceBNe, beq_self_eq_true, bne_self_eq_false, Bool.and_self, decide_true, decide_false, List.length_map, q30, b2, if_true, oRN, oSN]
    · rw [hc, Bool.true_and] at oA2
      rw [hc] at oC
      simp only [Craft.c, AirW.c, LandM.c, grD, waD] at *
      refine pure_of_wc (rs := [.tmp 12]) (m := 156) [(14, [(13, false, false, [])])] nC_ok (by kernel_rfl) Try.func6 rfl (by kernel_rfl) rfl rfl (by kernel_rfl) ?_
      simp only [RT, FS, ↓RE, okR, argEnv, Nat.reduceAdd, Nat.reduceSub, Nat.reduceLT, Nat.reduceLeDiff, Nat.reduceEqDiff, reduceIte, oS, oT, oLa, oMap, oN, oE, oA1, oA2, oC, gInt1_eq, z1, ex_tup, intL_len, Bool.and_true, Bool.not_true, Int.reduceBEq, Int.reduceBNe, beq_self_eq_true, bne_self_eq_false, Bool.and_self, decide_true, decide_false, List.length_map, q30, b2, if_true, oRN, oSN]
  have hch := (startE_ok hl ll h2).2.2.2.1
  simp only [Bool.and_eq_true] at hch
  have hc := hch.1
  have hh := hch.2
  have hE := h2
  rw [h2, hc, hh] at oA2
  rw [hc] at oC
  have hcx : cellI l x := by
    simp only [cellL, Bool.and_eq_true, decide_eq_true_eq] at hc
    exact hc
  have oRE := oRE hcx (rI_le hh)
  by_cases hm : manyI c a (ceilI c w) l x h = ((withinF c a (ceilI c w) l).length : Int)
  · rw [EscD_none hE hm] at oE
    rw [REscD, if_pos hm] at oRE
    simp only [Craft.c, AirW.c, LandM.c, grD, waD] at *
    refine pure_of_wc (rs := [.tmp 12]) (m := 156) [(14, [(13, false, false, [])])] nC_ok (by kernel_rfl) Try.func6 rfl (by kernel_rfl) rfl rfl (by kernel_rfl) ?_
    simp only [RT, FS, ↓RE, okR, argEnv, Nat.reduceAdd, Nat.reduceSub, Nat.reduceLT, Nat.reduceLeDiff, Nat.reduceEqDiff, reduceIte, oS, oT, oLa, oMap, oN, oE, oA1, oA2, oC, gInt1_eq, z1, ex_tup, intL_len, Bool.and_true, Bool.not_true, Int.reduceBEq, Int.reduceBNe, beq_self_eq_true, bne_self_eq_false, Bool.and_self, decide_true, decide_false, List.length_map, q30, if_true, oRN, oSN, oRE, hh]
  · rw [EscD_some hE hm] at oE
    rw [REscD, if_neg hm] at oRE
    have hmy := many_spec k1 k3 k2 (ceilI c w) (x := x.toNat) (by unfold cellI at hcx; omega) h
    rw [show ((x.toNat : Nat) : Int) = x by unfold cellI at hcx; omega] at hmy
    have hln := withinF_len c a (ceilI c w) k2
    have hEl : (escA c a (ceilI c w) l x h).length = (manyI c a (ceilI c w) l x h).toNat + 1 := by simp [escA, escF_len]
    have oSE := gSame_eq (escA c a (ceilI c w) l x h) (escA c a (ceilI c w) l x h) (by rw [hEl]; omega)
    generalize escA c a (ceilI c w) l x h = EA at *
    have hEz : ((EA.length : Int) == 0) = false := beq_eq_false_iff_ne.2 (by omega)
    simp only [Craft.c, AirW.c, LandM.c, grD, waD] at *
    refine pure_of_wc (rs := [.tmp 12]) (m := 156) [(14, [(13, false, false, [])])] nC_ok (by kernel_rfl) Try.func6 rfl (by kernel_rfl) rfl rfl (by kernel_rfl) ?_
    simp only [RT, FS, ↓RE, okR, argEnv, Nat.reduceAdd, Nat.reduceSub, Nat.reduceLT, Nat.reduceLeDiff, Nat.reduceEqDiff, reduceIte, oS, oT, oLa, oMap, oN, oE, oA1, oA2, oC, gInt1_eq, z1, ex_tup, intL_len, Bool.and_true, Bool.not_true, Int.reduceBEq, Int.reduceBNe, beq_self_eq_true, bne_self_eq_false, Bool.and_self, decide_true, decide_false, List.length_map, q30, if_true, oRN, oSN, oRE, hh, oSE, hEz]

theorem runNeeds_pure : ∀ Ds, TyL Try.prog Try.f6.params.toList Ds → Pure Try.prog 6 Ds (.bool true) := by
  intro Ds h
  rw [Try.params6] at h
  match Ds, h with
  | [_, _, _, _, _, _], ⟨⟨n, _, h1, e1⟩, ⟨n2, _, h2, e2⟩, ⟨n3, _, h3, e3⟩, ⟨n4, _, h4, e4⟩, ⟨n5, _, h5, e5⟩, ⟨n6, _, h6, e6⟩, _⟩ =>
    rw [Try.underlying24] at e1
    rw [Try.underlying28] at e2
    rw [Try.underlying32] at e3
    rw [Fz.und_3] at e4 e5 e6
    dsimp only at e1 e2 e3 e4 e5 e6
    obtain ⟨c, rfl, hl⟩ := tyCraft h1
    obtain ⟨l, rfl, ll⟩ := tyLand h2
    obtain ⟨a, rfl⟩ := tyAir h3
    obtain ⟨w, rfl, _⟩ := tyInt Fz.und_3 h4
    obtain ⟨x, rfl, _⟩ := tyInt Fz.und_3 h5
    obtain ⟨y, rfl, _⟩ := tyInt Fz.und_3 h6
    subst e1; subst e2; subst e3; cases e4; cases e5; cases e6
    exact runNeeds_at c hl l ll a w x y
end Go.Sx
