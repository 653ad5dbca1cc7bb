/- Own work: contracts of functions, used in the proof of a law. -/
import Derived.Test.YthljonnokmkagaaSxEq
set_option linter.unusedVariables false
set_option linter.unusedSimpArgs false
namespace Go.Sx
open Go.Proofs
set_option maxRecDepth 10000

noncomputable def gRTaxi : List D → Option D := orcF (fun p : LandM × Int × Int => LandOk p.1 ∧ cellI p.1 p.2.1 ∧ cellI p.1 p.2.2) (fun p => [.agg p.1.c, .int .i64 p.2.1, .int .i64 p.2.2]) (fun p => RTaxiD p.1 p.2.1 p.2.2)
theorem gRTaxi_eq {l : LandM} (hl : LandOk l) {frm to : Int} (hf : cellI l frm) (ht : cellI l to) : gRTaxi [.agg l.c, .int .i64 frm, .int .i64 to] = some (RTaxiD l frm to) :=
  orcF_eq (ok := fun p : LandM × Int × Int => LandOk p.1 ∧ cellI p.1 p.2.1 ∧ cellI p.1 p.2.2) (dsf := fun p => [.agg p.1.c, .int .i64 p.2.1, .int .i64 p.2.2]) (rf := fun p => RTaxiD p.1 p.2.1 p.2.2) (l, frm, to) ⟨hl, hf, ht⟩ fun b hb => by
    simp only [List.cons.injEq, D.agg.injEq, D.int.injEq, true_and, and_true] at hb
    rw [LandM.c_inj hb.1, hb.2.1, hb.2.2]
noncomputable abbrev nN : List (FuncId × (List D → Option D)) := (59, gRTaxi) :: nM
theorem nN_ok : OkO Try.prog (mkO nN) := mkO_ok (orcF_ok fun p h => ref3_Taxi_t p.1 h.1 p.2.1 p.2.2 h.2.1 h.2.2) <| nM_ok
theorem startE_bad (c : Craft) (l : LandM) (a : AirW) (w : Int) : startE c l a w false = 2 := by simp [startE]
theorem WayD_bad {c : Craft} {l : LandM} {a : AirW} {w frm to h : Int} {b : Bool} (hb : wayFine l frm to h = b) (hs : startE c l a w b ≠ 0) : WayD c l a w frm to h = .tup [.nils, .int .i64 0, .int .i64 (startE c l a w b)] := by
  rw [WayD, hb, if_neg hs]
theorem LowR_bad {c : Craft} {l : LandM} {a : AirW} {w frm to : Int} {b : Bool} (hb : (cellB l frm && cellB l to) = b) (hs : startE c l a w b ≠ 0) : LowestR c l a w frm to = (0, startE c l a w b) := by
  rw [LowestR, hb, if_neg hs]

theorem cellL_eqB {l : LandM} (hb : landB l = true) (x : Int) : cellL l x = cellB l x := by
  simp only [cellB, hb, cellL, rI, Bool.true_and]
  congr 1
  simp only [decide_eq_decide]; omega
/-! RunWays -/
set_option maxHeartbeats 32000000 in
theorem runWays_at (c : Craft) (hl : CraftL c) (l : LandM) (ll : LandL l) (a : AirW) (w frm to h : Int) :
    Pure Try.prog 11 [.agg c.c, .agg l.c, .agg a.c, .int .i64 w, .int .i64 frm, .int .i64 to, .int .i64 h] (.bool true) := by
  have oS := gC1_eq (fun c => .bool (shortC c)) hl
  have oT := gL1_eq (fun l => .bool (tinyL l)) ll
  have oL := gLa_eq ll
  have oA := fun b => gCLA_eq (β := Int × Bool) (fun c l a _ => okL c l a) rs1b (fun c l a p => .int .i64 (startE c l a p.1 p.2)) rs1b_inj (c := c) (l := l) (a := a) (b := (w, b)) ⟨hl, ll⟩
  have oC1 := gL2_eq (fun l x => .bool (cellL l x)) ll frm
  have oC2 := gL2_eq (fun l x => .bool (cellL l x)) ll to
  have oW := gCLA_eq (β := Int × Int × Int × Int) (fun c l a _ => okL c l a) rs4 (fun c l a p => WayD c l a p.1 p.2.1 p.2.2.1 p.2.2.2) rs4_inj (c := c) (l := l) (a := a) (b := (w, frm, to, h)) ⟨hl, ll⟩
  have oLo := gCLA_eq (β := Int × Int × Int) (fun c l a _ => okL c l a) rs3 (fun c l a p => .tup [.int .i64 (LowestR c l a p.1 p.2.1 p.2.2).1, .int .i64 (LowestR c l a p.1 p.2.1 p.2.2).2]) rs3_inj (c := c) (l := l) (a := a) (b := (w, frm, to)) ⟨hl, ll⟩
  have oX := gTaxi_eq ll frm to
  have z1 := cstO_eq [] (.bool true)
  simp only [rs1b, rs3, rs4] at oA oW oLo
  have hlc : l.c = [.int .i64 l.wide, .int .i64 l.deep, .sl (intL l.ground), .sl (boolL l.water), .int .i64 l.clear] := rfl
  rw [hlc] at oT oL oC1 oC2 oW oLo oX ⊢
  simp only [hlc] at oA
  simp only [Craft.c, AirW.c] at oS oA oW oLo ⊢
  cases hs : shortC c
  · rw [hs] at oS
    refine pure_of_wc (rs := [.tmp 14]) (m := 248) [(17, [(10, false, false, [])]), (20, [(11, false, false, [])]), (23, [(15, false, false, [])])] nN_ok (by kernel_rfl) Try.func11 rfl (by kernel_rfl) rfl rfl (by kernel_rfl) ?_
    simp only [RT, FS, ↓RE, okR, argEnv, Nat.reduceAdd, Nat.reduceSub, Nat.reduceLT, Nat.reduceLeDiff, Nat.reduceEqDiff, reduceIte, oS, oT, oL, z1, gInt1_eq, ex_tup, intL_len, Bool.and_true, Bool.and_false, Bool.not_true, Bool.not_false, Int.reduceBEq, Int.reduceBNe, Int.reduceLT, Int.reduceLE, Int.reduceNeg, beq_self_eq_true, bne_self_eq_false, Bool.and_self, decide_true, decide_false, List.length_nil]
  rw [hs] at oS
  cases ht : tinyL l
  · rw [ht] at oT
    refine pure_of_wc (rs := [.tmp 14]) (m := 248) [(17, [(10, false, false, [])]), (20, [(11, false, false, [])]), (23, [(15, false, false, [])])] nN_ok (by kernel_rfl) Try.func11 rfl (by kernel_rfl) rfl rfl (by kernel_rfl) ?_
    simp only [RT, FS, ↓RE, okR, argEnv, Nat.reduceAdd, Nat.reduceSub, Nat.reduceLT, Nat.reduceLeDiff, Nat.reduceEqDiff, reduceIte, oS, oT, oL, z1, gInt1_eq, ex_tup, intL_len, Bool.and_true, Bool.and_false, Bool.not_true, Bool.not_false, Int.reduceBEq, Int.reduceBNe, Int.reduceLT, Int.reduceLE, Int.reduceNeg, beq_self_eq_true, bne_self_eq_false, Bool.and_self, decide_true, decide_false, List.length_nil]
  rw [ht] at oT
  cases hb : landB l
  · rw [hb] at oL
    have e1 : ∀ b, startE c l a w b = 2 := fun b => startE_land hb
    have e2 : ∀ x, cellB l x = false := fun x => by simp [cellB, hb]
    have e3 : wayFine l frm to h = false := by simp [wayFine, e2]
    have hne : startE c l a w false ≠ 0 := by rw [e1]; decide
    rw [WayD_bad e3 hne, e1] at oW
    rw [LowR_bad (b := false) (by simp [e2]) hne, e1] at oLo
    rw [TaxiD_bad (by simp [e2])] at oX
    simp only [e1] at oA
    have oA1 := oA true
    have oA0 := oA false
    dsimp only at oLo
    cases h1 : cellL l frm
    · rw [h1] at oC1
      refine pure_of_wc (rs := [.tmp 14]) (m := 248) [(17, [(10, false, false, [])]), (20, [(11, false, false, [])]), (23, [(15, false, false, [])])] nN_ok (by kernel_rfl) Try.func11 rfl (by kernel_rfl) rfl rfl (by kernel_rfl) ?_
      simp only [RT, FS, ↓RE, okR, argEnv, Nat.reduceAdd, Nat.reduceSub, Nat.reduceLT, Nat.reduceLeDiff, Nat.reduceEqDiff, reduceIte, oS, oT, oL, z1, gInt1_eq, ex_tup, intL_len, Bool.and_true, Bool.and_false, Bool.not_true, Bool.not_false, Int.reduceBEq, Int.reduceBNe, Int.reduceLT, Int.reduceLE, Int.reduceNeg, beq_self_eq_true, bne_self_eq_false, Bool.and_self, decide_true, decide_false, List.length_nil, oW, oLo, oX, oC1, oA0]
    rw [h1] at oC1
    cases h2 : cellL l to
    · rw [h2] at oC2
      refine pure_of_wc (rs := [.tmp 14]) (m := 248) [(17, [(10, false, false, [])]), (20, [(11, false, false, [])]), (23, [(15, false, false, [])])] nN_ok (by kernel_rfl) Try.func11 rfl (by kernel_rfl) rfl rfl (by kernel_rfl) ?_
      simp only [RT, FS, ↓RE, okR, argEnv, Nat.reduceAdd, Nat.reduceSub, Nat.reduceLT, Nat.reduceLeDiff, Nat.reduceEqDiff, reduceIte, oS, oT, oL, z1, gInt1_eq, ex_tup, intL_len, Bool.and_true, Bool.and_false, Bool.not_true, Bool.not_false, Int.reduceBEq, Int.reduceBNe, Int.reduceLT, Int.reduceLE, Int.reduceNeg, beq_self_eq_true, bne_self_eq_false, Bool.and_self, decide_true, decide_false, List.length_nil, oW, oLo, oX, oC1, oC2, oA0]
    rw [h2] at oC2
    cases h3 : rI h 0 20000
    · refine pure_of_wc (rs := [.tmp 14]) (m := 248) [(17, [(10, false, false, [])]), (20, [(11, false, false, [])]), (23, [(15, false, false, [])])] nN_ok (by kernel_rfl) Try.func11 rfl (by kernel_rfl) rfl rfl (by kernel_rfl) ?_
      simp only [RT, FS, ↓RE, okR, argEnv, Nat.reduceAdd, Nat.reduceSub, Nat.reduceLT, Nat.reduceLeDiff, Nat.reduceEqDiff, reduceIte, oS, oT, oL, z1, gInt1_eq, ex_tup, intL_len, Bool.and_true, Bool.and_false, Bool.not_true, Bool.not_false, Int.reduceBEq, Int.reduceBNe, Int.reduceLT, Int.reduceLE, Int.reduceNeg, beq_self_eq_true, bne_self_eq_false, Bool.and_self, decide_true, decide_false, List.length_nil, oW, oLo, oX, oC1, oC2, oA0, oA1, h3]
    · refine pure_of_wc (rs := [.tmp 14]) (m := 248) [(17, [(10, false, false, [])]), (20, [(11, false, false, [])]), (23, [(15, false, false, [])])] nN_ok (by kernel_rfl) Try.func11 rfl (by kernel_rfl) rfl rfl (by kernel_rfl) ?_
      simp only [RT, FS, ↓RE, okR, argEnv, Nat.reduceAdd, Nat.reduceSub, Nat.reduceLT, Nat.reduceLeDiff, Nat.reduceEqDiff, reduceIte, oS, oT, oL, z1, gInt1_eq, ex_tup, intL_len, Bool.and_true, Bool.and_false, Bool.not_true, Bool.not_false, Int.reduceBEq, Int.reduceBNe, Int.reduceLT, Int.reduceLE, Int.reduceNeg, beq_self_eq_true, bne_self_eq_false, Bool.and_self, decide_true, decide_false, List.length_nil, oW, oLo, oX, oC1, oC2, oA0, oA1, h3]
  rw [hb] at oL
  by_cases h20 : 20 < l.ground.length
  · have q20 : ((20 : Int) < (l.ground.length : Int)) = True := by simp; omega
    refine pure_of_wc (rs := [.tmp 14]) (m := 248) [(17, [(10, false, false, [])]), (20, [(11, false, false, [])]), (23, [(15, false, false, [])])] nN_ok (by kernel_rfl) Try.func11 rfl (by kernel_rfl) rfl rfl (by kernel_rfl) ?_
    simp only [RT, FS, ↓RE, okR, argEnv, Nat.reduceAdd, Nat.reduceSub, Nat.reduceLT, Nat.reduceLeDiff, Nat.reduceEqDiff, reduceIte, oS, oT, oL, z1, gInt1_eq, ex_tup, intL_len, Bool.and_true, Bool.and_false, Bool.not_true, Bool.not_false, Int.reduceBEq, Int.reduceBNe, Int.reduceLT, Int.reduceLE, Int.reduceNeg, beq_self_eq_true, bne_self_eq_false, Bool.and_self, decide_true, decide_false, List.length_nil, q20]
  have q20 : ((20 : Int) < (l.ground.length : Int)) = False := by simp; omega
  have hk := land_ok ll hb
  have hbad : ∀ b, startE c l a w false = b → b = 2 := fun b e => by rw [startE_bad] at e; exact e.symm
  cases h1 : cellL l frm
  · have e2 : cellB l frm = false := by rw [← cellL_eqB hb]; exact h1
    have hne : startE c l a w false ≠ 0 := by rw [startE_bad]; decide
    rw [WayD_bad (b := false) (by simp [wayFine, e2]) hne, startE_bad] at oW
    rw [LowR_bad (b := false) (by simp [e2]) hne, startE_bad] at oLo
    rw [TaxiD_bad (by simp [e2])] at oX
    have oA0 := oA false
    rw [startE_bad] at oA0
    dsimp only at oLo
    rw [h1] at oC1
    refine pure_of_wc (rs := [.tmp 14]) (m := 248) [(17, [(10, false, false, [])]), (20, [(11, false, false, [])]), (23, [(15, false, false, [])])] nN_ok (by kernel_rfl) Try.func11 rfl (by kernel_rfl) rfl rfl (by kernel_rfl) ?_
    simp only [RT, FS, ↓RE, okR, argEnv, Nat.reduceAdd, Nat.reduceSub, Nat.reduceLT, Nat.reduceLeDiff, Nat.reduceEqDiff, reduceIte, oS, oT, oL, z1, gInt1_eq, ex_tup, intL_len, Bool.and_true, Bool.and_false, Bool.not_true, Bool.not_false, Int.reduceBEq, Int.reduceBNe, Int.reduceLT, Int.reduceLE, Int.reduceNeg, beq_self_eq_true, bne_self_eq_false, Bool.and_self, decide_true, decide_false, List.length_nil, q20, oW, oLo, oX, oC1, oA0]
  cases h2 : cellL l to
  · have e2 : cellB l to = false := by rw [← cellL_eqB hb]; exact h2
    have hne : startE c l a w false ≠ 0 := by rw [startE_bad]; decide
    rw [WayD_bad (b := false) (by simp [wayFine, e2]) hne, startE_bad] at oW
    rw [LowR_bad (b := false) (by simp [e2]) hne, startE_bad] at oLo
    rw [TaxiD_bad (by simp [e2])] at oX
    have oA0 := oA false
    rw [startE_bad] at oA0
    dsimp only at oLo
    rw [h1] at oC1
    rw [h2] at oC2
    refine pure_of_wc (rs := [.tmp 14]) (m := 248) [(17, [(10, false, false, [])]), (20, [(11, false, false, [])]), (23, [(15, false, false, [])])] nN_ok (by kernel_rfl) Try.func11 rfl (by kernel_rfl) rfl rfl (by kernel_rfl) ?_
    simp only [RT, FS, ↓RE, okR, argEnv, Nat.reduceAdd, Nat.reduceSub, Nat.reduceLT, Nat.reduceLeDiff, Nat.reduceEqDiff, reduceIte, oS, oT, oL, z1, gInt1_eq, ex_tup, intL_len, Bool.and_true, Bool.and_false, Bool.not_true, Bool.not_false, Int.reduceBEq, Int.reduceBNe, Int.reduceLT, Int.reduceLE, Int.reduceNeg, beq_self_eq_true, bne_self_eq_false, Bool.and_self, decide_true, decide_false, List.length_nil, q20, oW, oLo, oX, oC1, oC2, oA0]
  have cf : cellI l frm := cellL_of h1
  have ct : cellI l to := cellL_of h2
  have b1 : cellB l frm = true := by rw [← cellL_eqB hb]; exact h1
  have b2 : cellB l to = true := by rw [← cellL_eqB hb]; exact h2
  rw [h1] at oC1
  rw [h2] at oC2
  have oRT := gRTaxi_eq hk cf ct
  rw [hlc] at oRT
  have hTaxi : (TaxiD l frm to = .tup [.nils, .int .i64 5] ∧ RTaxiD l frm to = .nils) ∨ ∃ x : List Int, TaxiD l frm to = .tup [.sl (intL x), .int .i64 0] ∧ RTaxiD l frm to = .sl (intL x) ∧ 1 ≤ x.length ∧ x.length ≤ 203 := by
    cases hm : mget (costsT l to) frm with
    | none => exact .inl ⟨TaxiD_none hb cf ct hm, by rw [RTaxiD, hm]⟩
    | some v =>
      have h := oq_some (al := wetB l) (net_str hk) cf ct hm
      exact .inr ⟨taxiA l frm to, TaxiD_some hb cf ct hm, by rw [RTaxiD, hm], List.length_pos_iff.2 h.1.1.ne, h.2⟩
  obtain ⟨oA1, oA0⟩ := And.intro (oA true) (oA false)
  rw [startE_bad] at oA0
  clear oA
  have hq0 : ∀ x : List Int, 1 ≤ x.length → (((x.length : Int) == 0) = false ∧ ((0 : Int) < (x.length : Int)) = True) := fun x hx => ⟨beq_eq_false_iff_ne.2 (by omega), by simp only [eq_iff_iff, iff_true]; omega⟩
  by_cases hE : startE c l a w true = 0
  rotate_left
  · have qE : (startE c l a w true != 0) = true := by simpa using hE
    rw [LowR_bad (b := true) (by simp [b1, b2]) hE] at oLo
    dsimp only at oLo
    cases h3 : rI h 0 20000
    · rw [WayD_bad (b := false) (by simp [wayFine, h3]) (by rw [startE_bad]; decide), startE_bad] at oW
      generalize startE c l a w true = E at *
      rcases hTaxi with ⟨t1, t2⟩ | ⟨x, t1, t2, t3, t4⟩
      · rw [t1] at oX
        rw [t2] at oRT
        refine pure_of_wc (rs := [.tmp 14]) (m := 248) [(17, [(10, false, false, [])]), (20, [(11, false, false, [])]), (23, [(15, false, false, [])])] nN_ok (by kernel_rfl) Try.func11 rfl (by kernel_rfl) rfl rfl (by kernel_rfl) ?_
        simp only [RT, FS, ↓RE, okR, argEnv, Nat.reduceAdd, Nat.reduceSub, Nat.reduceLT, Nat.reduceLeDiff, Nat.reduceEqDiff, reduceIte, oS, oT, oL, z1, gInt1_eq, ex_tup, intL_len, Bool.and_true, Bool.and_false, Bool.not_true, Bool.not_false, Int.reduceBEq, Int.reduceBNe, Int.reduceLT, Int.reduceLE, Int.reduceNeg, beq_self_eq_true, bne_self_eq_false, Bool.and_self, decide_true, decide_false, List.length_nil, q20, oW, oLo, oX, oRT, oC1, oC2, oA1, oA0, qE, h3]
      · rw [t1] at oX
        rw [t2] at oRT
        obtain ⟨x1, x2⟩ := hq0 x t3
        have oSm := gSame_eq x x (by omega)
        refine pure_of_wc (rs := [.tmp 14]) (m := 248) [(17, [(10, false, false, [])]), (20, [(11, false, false, [])]), (23, [(15, false, false, [])])] nN_ok (by kernel_rfl) Try.func11 rfl (by kernel_rfl) rfl rfl (by kernel_rfl) ?_
        simp only [RT, FS, ↓RE, okR, argEnv, Nat.reduceAdd, Nat.reduceSub, Nat.reduceLT, Nat.reduceLeDiff, Nat.reduceEqDiff, reduceIte, oS, oT, oL, z1, gInt1_eq, ex_tup, intL_len, Bool.and_true, Bool.and_false, Bool.not_true, Bool.not_false, Int.reduceBEq, Int.reduceBNe, Int.reduceLT, Int.reduceLE, Int.reduceNeg, beq_self_eq_true, bne_self_eq_false, Bool.and_self, decide_true, decide_false, List.length_nil, q20, oW, oLo, oX, oRT, oC1, oC2, oA1, oA0, qE, h3, x1, x2, oSm]
    · rw [WayD_bad (b := true) (by simp [wayFine, h3, b1, b2]) hE] at oW
      generalize startE c l a w true = E at *
      rcases hTaxi with ⟨t1, t2⟩ | ⟨x, t1, t2, t3, t4⟩
      · rw [t1] at oX
        rw [t2] at oRT
        refine pure_of_wc (rs := [.tmp 14]) (m := 248) [(17, [(10, false, false, [])]), (20, [(11, false, false, [])]), (23, [(15, false, false, [])])] nN_ok (by kernel_rfl) Try.func11 rfl (by kernel_rfl) rfl rfl (by kernel_rfl) ?_
        simp only [RT, FS, ↓RE, okR, argEnv, Nat.reduceAdd, Nat.reduceSub, Nat.reduceLT, Nat.reduceLeDiff, Nat.reduceEqDiff, reduceIte, oS, oT, oL, z1, gInt1_eq, ex_tup, intL_len, Bool.and_true, Bool.and_false, Bool.not_true, Bool.not_false, Int.reduceBEq, Int.reduceBNe, Int.reduceLT, Int.reduceLE, Int.reduceNeg, beq_self_eq_true, bne_self_eq_false, Bool.and_self, decide_true, decide_false, List.length_nil, q20, oW, oLo, oX, oRT, oC1, oC2, oA1, oA0, qE, h3]
      · rw [t1] at oX
        rw [t2] at oRT
        obtain ⟨x1, x2⟩ := hq0 x t3
        have oSm := gSame_eq x x (by omega)
        refine pure_of_wc (rs := [.tmp 14]) (m := 248) [(17, [(10, false, false, [])]), (20, [(11, false, false, [])]), (23, [(15, false, false, [])])] nN_ok (by kernel_rfl) Try.func11 rfl (by kernel_rfl) rfl rfl (by kernel_rfl) ?_
        simp only [RT, FS, ↓RE, okR, argEnv, Nat.reduceAdd, Nat.reduceSub, Nat.reduceLT, Nat.reduceLeDiff, Nat.reduceEqDiff, reduceIte, oS, oT, oL, z1, gInt1_eq, ex_tup, intL_len, Bool.and_true, Bool.and_false, Bool.not_true, Bool.not_false, Int.reduceBEq, Int.reduceBNe, Int.reduceLT, Int.reduceLE, Int.reduceNeg, beq_self_eq_true, bne_self_eq_false, Bool.and_self, decide_true, decide_false, List.length_nil, q20, oW, oLo, oX, oRT, oC1, oC2, oA1, oA0, qE, h3, x1, x2, oSm]
  obtain ⟨k1, k2, k3, _, k5⟩ := startE_ok hl ll hE
  rw [hE] at oA1
  have hNo := needsF_ok k1 k3 k2 (ceilI c w)
  have hNl := hNo.len
  have oN := gCLA_eq (β := Int) (fun c l a _ => okO c l a) rs1 (fun c l a w => .sl (intL (needsF c a (ceilI c w) l))) rs1_inj (c := c) (l := l) (a := a) (b := w) ⟨k1, k2, k3⟩
  simp only [rs1, hlc, Craft.c, AirW.c] at oN
  have oRL := gRLow_eq hk hNl cf ct
  have oB := gBest_eq hk hNl cf ct h
  rw [hlc] at oRL oB
  have hLow : (LowestR c l a w frm to = (0, 5) ∧ (if 20000 < lowN l (needsF c a (ceilI c w) l) frm to then (-1 : Int) else lowN l (needsF c a (ceilI c w) l) frm to) = -1) ∨ ∃ B : Int, 0 ≤ B ∧ LowestR c l a w frm to = (B, 0) ∧ (if 20000 < lowN l (needsF c a (ceilI c w) l) frm to then (-1 : Int) else lowN l (needsF c a (ceilI c w) l) frm to) = B := by
    have hsp := lowN_spec hk (needsF c a (ceilI c w) l) (frm := frm) ct
    by_cases hB : 20000 < lowF c a (ceilI c w) l frm to
    · exact .inl ⟨LowR_none hE cf ct hB, if_pos hB⟩
    · exact .inr ⟨_, hsp.1.1, LowR_some hE cf ct hB, if_neg hB⟩
  generalize (if 20000 < lowN l (needsF c a (ceilI c w) l) frm to then (-1 : Int) else lowN l (needsF c a (ceilI c w) l) frm to) = RL at *
  have hWay : rI h 0 20000 = true → ((WayD c l a w frm to h = .tup [.nils, .int .i64 0, .int .i64 5] ∧ BestD l (needsF c a (ceilI c w) l) frm to h = .tup [.nils, .int .i64 0]) ∨ ∃ (x : List Int) (m : Int), WayD c l a w frm to h = .tup [.sl (intL x), .int .i64 m, .int .i64 0] ∧ BestD l (needsF c a (ceilI c w) l) frm to h = .tup [.sl (intL x), .int .i64 m] ∧ 1 ≤ x.length ∧ x.length ≤ 203) := fun h3 => by
    have hh := rI_le h3
    cases hm : mget (costsF c a (ceilI c w) l to h) frm with
    | none => exact .inl ⟨WayD_none hE cf ct hh hm, BestD_none hm⟩
    | some v =>
      have hbl := best_len hk cf ct hm
      exact .inr ⟨_, _, WayD_some hE cf ct hh hm, BestD_some hm, hbl⟩
  generalize needsF c a (ceilI c w) l = ND at *
  clear k5 hNo
  rcases hTaxi with ⟨t1, t2⟩ | ⟨x, t1, t2, t3, t4⟩
  · rw [t1] at oX
    rw [t2] at oRT
    rcases hLow with ⟨l1, l2⟩ | ⟨B, l0, l1, l2⟩
    · rw [l1] at oLo
      rw [l2] at oRL
      dsimp only at oLo
      cases h3 : rI h 0 20000
      · rw [WayD_bad (b := false) (by simp [wayFine, h3]) (by rw [startE_bad]; decide), startE_bad] at oW
        refine pure_of_wc (rs := [.tmp 14]) (m := 248) [(17, [(10, false, false, [])]), (20, [(11, false, false, [])]), (23, [(15, false, false, [])])] nN_ok (by kernel_rfl) Try.func11 rfl (by kernel_rfl) rfl rfl (by kernel_rfl) ?_
        simp only [RT, FS, ↓RE, okR, argEnv, Nat.reduceAdd, Nat.reduceSub, Nat.reduceLT, Nat.reduceLeDiff, Nat.reduceEqDiff, reduceIte, oS, oT, oL, z1, gInt1_eq, ex_tup, intL_len, Bool.and_true, Bool.and_false, Bool.not_true, Bool.not_false, Int.reduceBEq, Int.reduceBNe, Int.reduceLT, Int.reduceLE, Int.reduceNeg, beq_self_eq_true, bne_self_eq_false, Bool.and_self, decide_true, decide_false, List.length_nil, q20, oW, oLo, oX, oRT, oC1, oC2, oA1, oA0, h3, oN, oRL]
      rcases hWay h3 with ⟨w1, w2⟩ | ⟨y, m, w1, w2, w3, w4⟩
      · rw [w1] at oW
        rw [w2] at oB
        refine pure_of_wc (rs := [.tmp 14]) (m := 248) [(17, [(10, false, false, [])]), (20, [(11, false, false, [])]), (23, [(15, false, false, [])])] nN_ok (by kernel_rfl) Try.func11 rfl (by kernel_rfl) rfl rfl (by kernel_rfl) ?_
        simp only [RT, FS, ↓RE, okR, argEnv, Nat.reduceAdd, Nat.reduceSub, Nat.reduceLT, Nat.reduceLeDiff, Nat.reduceEqDiff, reduceIte, oS, oT, oL, z1, gInt1_eq, ex_tup, intL_len, Bool.and_true, Bool.and_false, Bool.not_true, Bool.not_false, Int.reduceBEq, Int.reduceBNe, Int.reduceLT, Int.reduceLE, Int.reduceNeg, beq_self_eq_true, bne_self_eq_false, Bool.and_self, decide_true, decide_false, List.length_nil, q20, oW, oLo, oX, oRT, oC1, oC2, oA1, oA0, h3, oN, oRL, oB]
      · rw [w1] at oW
        rw [w2] at oB
        obtain ⟨y3, y4⟩ := hq0 y w3
        have oSn := gSame_eq y y (by omega)
        refine pure_of_wc (rs := [.tmp 14]) (m := 248) [(17, [(10, false, false, [])]), (20, [(11, false, false, [])]), (23, [(15, false, false, [])])] nN_ok (by kernel_rfl) Try.func11 rfl (by kernel_rfl) rfl rfl (by kernel_rfl) ?_
        simp only [RT, FS, ↓RE, okR, argEnv, Nat.reduceAdd, Nat.reduceSub, Nat.reduceLT, Nat.reduceLeDiff, Nat.reduceEqDiff, reduceIte, oS, oT, oL, z1, gInt1_eq, ex_tup, intL_len, Bool.and_true, Bool.and_false, Bool.not_true, Bool.not_false, Int.reduceBEq, Int.reduceBNe, Int.reduceLT, Int.reduceLE, Int.reduceNeg, beq_self_eq_true, bne_self_eq_false, Bool.and_self, decide_true, decide_false, List.length_nil, q20, oW, oLo, oX, oRT, oC1, oC2, oA1, oA0, h3, oN, oRL, oB, y3, y4, oSn]
    · rw [l1] at oLo
      rw [l2] at oRL
      dsimp only at oLo
      have y1 : (B < 0) = False := by simp only [eq_iff_iff, iff_false]; omega
      have y2 : (0 ≤ B) = True := by simp [l0]
      cases h3 : rI h 0 20000
      · rw [WayD_bad (b := false) (by simp [wayFine, h3]) (by rw [startE_bad]; decide), startE_bad] at oW
        refine pure_of_wc (rs := [.tmp 14]) (m := 248) [(17, [(10, false, false, [])]), (20, [(11, false, false, [])]), (23, [(15, false, false, [])])] nN_ok (by kernel_rfl) Try.func11 rfl (by kernel_rfl) rfl rfl (by kernel_rfl) ?_
        simp only [RT, FS, ↓RE, okR, argEnv, Nat.reduceAdd, Nat.reduceSub, Nat.reduceLT, Nat.reduceLeDiff, Nat.reduceEqDiff, reduceIte, oS, oT, oL, z1, gInt1_eq, ex_tup, intL_len, Bool.and_true, Bool.and_false, Bool.not_true, Bool.not_false, Int.reduceBEq, Int.reduceBNe, Int.reduceLT, Int.reduceLE, Int.reduceNeg, beq_self_eq_true, bne_self_eq_false, Bool.and_self, decide_true, decide_false, List.length_nil, q20, oW, oLo, oX, oRT, oC1, oC2, oA1, oA0, h3, oN, oRL, y1, y2]
      rcases hWay h3 with ⟨w1, w2⟩ | ⟨y, m, w1, w2, w3, w4⟩
      · rw [w1] at oW
        rw [w2] at oB
        refine pure_of_wc (rs := [.tmp 14]) (m := 248) [(17, [(10, false, false, [])]), (20, [(11, false, false, [])]), (23, [(15, false, false, [])])] nN_ok (by kernel_rfl) Try.func11 rfl (by kernel_rfl) rfl rfl (by kernel_rfl) ?_
        simp only [RT, FS, ↓RE, okR, argEnv, Nat.reduceAdd, Nat.reduceSub, Nat.reduceLT, Nat.reduceLeDiff, Nat.reduceEqDiff, reduceIte, oS, oT, oL, z1, gInt1_eq, ex_tup, intL_len, Bool.and_true, Bool.and_false, Bool.not_true, Bool.not_false, Int.reduceBEq, Int.reduceBNe, Int.reduceLT, Int.reduceLE, Int.reduceNeg, beq_self_eq_true, bne_self_eq_false, Bool.and_self, decide_true, decide_false, List.length_nil, q20, oW, oLo, oX, oRT, oC1, oC2, oA1, oA0, h3, oN, oRL, y1, y2, oB]
      · rw [w1] at oW
        rw [w2] at oB
        obtain ⟨y3, y4⟩ := hq0 y w3
        have oSn := gSame_eq y y (by omega)
        refine pure_of_wc (rs := [.tmp 14]) (m := 248) [(17, [(10, false, false, [])]), (20, [(11, false, false, [])]), (23, [(15, false, false, [])])] nN_ok (by kernel_rfl) Try.func11 rfl (by kernel_rfl) rfl rfl (by kernel_rfl) ?_
        simp only [RT, FS, ↓RE, okR, argEnv, Nat.reduceAdd, Nat.reduceSub, Nat.reduceLT, Nat.reduceLeDiff, Nat.reduceEqDiff, reduceIte, oS, oT, oL, z1, gInt1_eq, ex_tup, intL_len, Bool.and_true, Bool.and_false, Bool.not_true, Bool.not_false, Int.reduceBEq, Int.reduceBNe, Int.reduceLT, Int.reduceLE, Int.reduceNeg, beq_self_eq_true, bne_self_eq_false, Bool.and_self, decide_true, decide_false, List.length_nil, q20, oW, oLo, oX, oRT, oC1, oC2, oA1, oA0, h3, oN, oRL, y1, y2, oB, y3, y4, oSn]
  · rw [t1] at oX
    rw [t2] at oRT
    obtain ⟨x1, x2⟩ := hq0 x t3
    have oSm := gSame_eq x x (by omega)
    rcases hLow with ⟨l1, l2⟩ | ⟨B, l0, l1, l2⟩
    · rw [l1] at oLo
      rw [l2] at oRL
      dsimp only at oLo
      cases h3 : rI h 0 20000
      · rw [WayD_bad (b := false) (by simp [wayFine, h3]) (by rw [startE_bad]; decide), startE_bad] at oW
        refine pure_of_wc (rs := [.tmp 14]) (m := 248) [(17, [(10, false, false, [])]), (20, [(11, false, false, [])]), (23, [(15, false, false, [])])] nN_ok (by kernel_rfl) Try.func11 rfl (by kernel_rfl) rfl rfl (by kernel_rfl) ?_
        simp only [RT, FS, ↓RE, okR, argEnv, Nat.reduceAdd, Nat.reduceSub, Nat.reduceLT, Nat.reduceLeDiff, Nat.reduceEqDiff, reduceIte, oS, oT, oL, z1, gInt1_eq, ex_tup, intL_len, Bool.and_true, Bool.and_false, Bool.not_true, Bool.not_false, Int.reduceBEq, Int.reduceBNe, Int.reduceLT, Int.reduceLE, Int.reduceNeg, beq_self_eq_true, bne_self_eq_false, Bool.and_self, decide_true, decide_false, List.length_nil, q20, oW, oLo, oX, oRT, oC1, oC2, oA1, oA0, h3, oN, oRL, x1, x2, oSm]
      rcases hWay h3 with ⟨w1, w2⟩ | ⟨y, m, w1, w2, w3, w4⟩
      · rw [w1] at oW
        rw [w2] at oB
        refine pure_of_wc (rs := [.tmp 14]) (m := 248) [(17, [(10, false, false, [])]), (20, [(11, false, false, [])]), (23, [(15, false, false, [])])] nN_ok (by kernel_rfl) Try.func11 rfl (by kernel_rfl) rfl rfl (by kernel_rfl) ?_
        simp only [RT, FS, ↓RE, okR, argEnv, Nat.reduceAdd, Nat.reduceSub, Nat.reduceLT, Nat.reduceLeDiff, Nat.reduceEqDiff, reduceIte, oS, oT, oL, z1, gInt1_eq, ex_tup, intL_len, Bool.and_true, Bool.and_false, Bool.not_true, Bool.not_false, Int.reduceBEq, Int.reduceBNe, Int.reduceLT, Int.reduceLE, Int.reduceNeg, beq_self_eq_true, bne_self_eq_false, Bool.and_self, decide_true, decide_false, List.length_nil, q20, oW, oLo, oX, oRT, oC1, oC2, oA1, oA0, h3, oN, oRL, x1, x2, oSm, oB]
      · rw [w1] at oW
        rw [w2] at oB
        obtain ⟨y3, y4⟩ := hq0 y w3
        have oSn := gSame_eq y y (by omega)
        refine pure_of_wc (rs := [.tmp 14]) (m := 248) [(17, [(10, false, false, [])]), (20, [(11, false, false, [])]), (23, [(15, false, false, [])])] nN_ok (by kernel_rfl) Try.func11 rfl (by kernel_rfl) rfl rfl (by kernel_rfl) ?_
        simp only [RT, FS, ↓RE, okR, argEnv, Nat.reduceAdd, Nat.reduceSub, Nat.reduceLT, Nat.reduceLeDiff, Nat.reduceEqDiff, reduceIte, oS, oT, oL, z1, gInt1_eq, ex_tup, intL_len, Bool.and_true, Bool.and_false, Bool.not_true, Bool.not_false, Int.reduceBEq, Int.reduceBNe, Int.reduceLT, Int.reduceLE, Int.reduceNeg, beq_self_eq_true, bne_self_eq_false, Bool.and_self, decide_true, decide_false, List.length_nil, q20, oW, oLo, oX, oRT, oC1, oC2, oA1, oA0, h3, oN, oRL, x1, x2, oSm, oB, y3, y4, oSn]
    · rw [l1] at oLo
      rw [l2] at oRL
      dsimp only at oLo
      have y1 : (B < 0) = False := by simp only [eq_iff_iff, iff_false]; omega
      have y2 : (0 ≤ B) = True := by simp [l0]
      cases h3 : rI h 0 20000
      · rw [WayD_bad (b := false) (by simp [wayFine, h3]) (by rw [startE_bad]; decide), startE_bad] at oW
        refine pure_of_wc (rs := [.tmp 14]) (m := 248) [(17, [(10, false, false, [])]), (20, [(11, false, false, [])]), (23, [(15, false, false, [])])] nN_ok (by kernel_rfl) Try.func11 rfl (by kernel_rfl) rfl rfl (by kernel_rfl) ?_
        simp only [RT, FS, ↓RE, okR, argEnv, Nat.reduceAdd, Nat.reduceSub, Nat.reduceLT, Nat.reduceLeDiff, Nat.reduceEqDiff, reduceIte, oS, oT, oL, z1, gInt1_eq, ex_tup, intL_len, Bool.and_true, Bool.and_false, Bool.not_true, Bool.not_false, Int.reduceBEq, Int.reduceBNe, Int.reduceLT, Int.reduceLE, Int.reduceNeg, beq_self_eq_true, bne_self_eq_false, Bool.and_self, decide_true, decide_false, List.length_nil, q20, oW, oLo, oX, oRT, oC1, oC2, oA1, oA0, h3, oN, oRL, x1, x2, oSm, y1, y2]
      rcases hWay h3 with ⟨w1, w2⟩ | ⟨y, m, w1, w2, w3, w4⟩
      · rw [w1] at oW
        rw [w2] at oB
        refine pure_of_wc (rs := [.tmp 14]) (m := 248) [(17, [(10, false, false, [])]), (20, [(11, false, false, [])]), (23, [(15, false, false, [])])] nN_ok (by kernel_rfl) Try.func11 rfl (by kernel_rfl) rfl rfl (by kernel_rfl) ?_
        simp only [RT, FS, ↓RE, okR, argEnv, Nat.reduceAdd, Nat.reduceSub, Nat.reduceLT, Nat.reduceLeDiff, Nat.reduceEqDiff, reduceIte, oS, oT, oL, z1, gInt1_eq, ex_tup, intL_len, Bool.and_true, Bool.and_false, Bool.not_true, Bool.not_false, Int.reduceBEq, Int.reduceBNe, Int.reduceLT, Int.reduceLE, Int.reduceNeg, beq_self_eq_true, bne_self_eq_false, Bool.and_self, decide_true, decide_false, List.length_nil, q20, oW, oLo, oX, oRT, oC1, oC2, oA1, oA0, h3, oN, oRL, x1, x2, oSm, y1, y2, oB]
      · rw [w1] at oW
        rw [w2] at oB
        obtain ⟨y3, y4⟩ := hq0 y w3
        have oSn := gSame_eq y y (by omega)
        refine pure_of_wc (rs := [.tmp 14]) (m := 248) [(17, [(10, false, false, [])]), (20, [(11, false, false, [])]), (23, [(15, false, false, [])])] nN_ok (by kernel_rfl) Try.func11 rfl (by kernel_rfl) rfl rfl (by kernel_rfl) ?_
        simp only [RT, FS, ↓RE, okR, argEnv, Nat.reduceAdd, Nat.reduceSub, Nat.reduceLT, Nat.reduceLeDiff, Nat.reduceEqDiff, reduceIte, oS, oT, oL, z1, gInt1_eq, ex_tup, intL_len, Bool.and_true, Bool.and_false, Bool.not_true, Bool.not_false, Int.reduceBEq, Int.reduceBNe, Int.reduceLT, Int.reduceLE, Int.reduceNeg, beq_self_eq_true, bne_self_eq_false, Bool.and_self, decide_true, decide_false, List.length_nil, q20, oW, oLo, oX, oRT, oC1, oC2, oA1, oA0, h3, oN, oRL, x1, x2, oSm, y1, y2, oB, y3, y4, oSn]
theorem runWays_pure : ∀ Ds, TyL Try.prog Try.f11.params.toList Ds → Pure Try.prog 11 Ds (.bool true) := by
  intro Ds h
  rw [Try.params11] at h
  match Ds, h with
  | [_, _, _, _, _, _, _], ⟨⟨n0, _, h0, e0⟩, ⟨n1, _, h1, e1⟩, ⟨n2, _, h2, e2⟩, ⟨n3, _, h3, e3⟩, ⟨n4, _, h4, e4⟩, ⟨n5, _, h5, e5⟩, ⟨n6, _, h6, e6⟩, _⟩ =>
    rw [Try.underlying24] at e0
    rw [Try.underlying28] at e1
    rw [Try.underlying32] at e2
    rw [Fz.und_3] at e3
    rw [Fz.und_3] at e4
    rw [Fz.und_3] at e5
    rw [Fz.und_3] at e6
    dsimp only at e0 e1 e2 e3 e4 e5 e6
    obtain ⟨c, rfl, hl⟩ := tyCraft h0
    obtain ⟨l, rfl, ll⟩ := tyLand h1
    obtain ⟨a, rfl⟩ := tyAir h2
    obtain ⟨x3, rfl, _⟩ := tyInt Fz.und_3 h3
    obtain ⟨x4, rfl, _⟩ := tyInt Fz.und_3 h4
    obtain ⟨x5, rfl, _⟩ := tyInt Fz.und_3 h5
    obtain ⟨x6, rfl, _⟩ := tyInt Fz.und_3 h6
    subst e0; subst e1; subst e2; cases e3; cases e4; cases e5; cases e6
    exact runWays_at c hl l ll a x3 x4 x5 x6
end Go.Sx
