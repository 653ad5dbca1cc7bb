/- Own work: contracts of functions, used in the proof of a law. -/
import Derived.Test.YthljonnokmkagaaSxEj
set_option linter.unusedVariables false
set_option linter.unusedSimpArgs false
namespace Go.Sx
open Go.Proofs
set_option maxRecDepth 10000

/-! RunDown -/
theorem EscD_no {c : Craft} {l : LandM} {a : AirW} {w x h : Int} (hs : startE c l a w true = 0) (hx : cellL l x = true) (hh : rI h 0 20000 = true) (hm : manyI c a (ceilI c w) l x h = ((withinF c a (ceilI c w) l).length : Int)) : EscD c l a w x h = .tup [.nils, .int .i64 5] :=
  EscD_none (by rw [hx, hh]; exact hs) hm
theorem EscD_yes {c : Craft} {l : LandM} {a : AirW} {w x h : Int} (hs : startE c l a w true = 0) (hx : cellL l x = true) (hh : rI h 0 20000 = true) (hm : manyI c a (ceilI c w) l x h ≠ ((withinF c a (ceilI c w) l).length : Int)) : EscD c l a w x h = .tup [.sl (intL (escA c a (ceilI c w) l x h)), .int .i64 0] :=
  EscD_some (by rw [hx, hh]; exact hs) hm
set_option maxHeartbeats 16000000 in
theorem runDown_at (c : Craft) (hl : CraftL c) (l : LandM) (ll : LandL l) (a : AirW) (w x mo : Int) (ws : List Int) (hwl : ws.length ≤ 9223372036854775807) (ot : List Int) (hol : ot.length ≤ 9223372036854775807) :
    Pure Try.prog 3 [.agg c.c, .agg l.c, .agg a.c, .int .i64 w, .int .i64 x, .int .i64 mo, .sl (intL ws), .sl (intL ot)] (.bool true) := by
  have oS := gC1_eq (fun c => .bool (shortC c)) hl
  have oT := gL1_eq (fun l => .bool (tinyL l)) ll
  have oN := gCLA_eq (β := Int) (fun c l a _ => okL c l a) rs1 (fun c l a w => NeedsR c l a w) rs1_inj (c := c) (l := l) (a := a) (b := w) ⟨hl, ll⟩
  have oE := fun h => gCLA_eq (β := Int × Int × Int) (fun c l a _ => okL c l a) rs3 (fun c l a p => EscD c l a p.1 p.2.1 p.2.2) rs3_inj (c := c) (l := l) (a := a) (b := (w, x, h)) ⟨hl, ll⟩
  have oA := gCLA_eq (β := Int × Bool) (fun c l a _ => okL c l a) rs1b (fun c l a p => .int .i64 (startE c l a p.1 p.2)) rs1b_inj (c := c) (l := l) (a := a) (b := (w, true)) ⟨hl, ll⟩
  have oC := gL2_eq (fun l x => .bool (cellL l x)) ll x
  have oP := gPct_eq hwl
  have z1 := cstO_eq [] (.bool true)
  simp only [rs1, rs1b, rs3] at oN oA oE
  have hlc : l.c = [.int .i64 l.wide, .int .i64 l.deep, .sl (intL l.ground), .sl (boolL l.water), .int .i64 l.clear] := rfl
  rw [hlc] at oT oC oA oN ⊢
  simp only [hlc] at oE
  cases hs : shortC c
  · rw [hs] at oS
    simp only [Craft.c, AirW.c] at *
    refine pure_of_wc (rs := [.tmp 16]) (m := 313) [(20, [(12, false, false, [])]), (25, [(17, false, false, [])]), (26, [(14, false, false, [])]), (28, [(32, false, false, [])]), (30, [(14, false, false, [])])] nF_ok (by kernel_rfl) Try.func3 rfl (by kernel_rfl) rfl rfl (by kernel_rfl) ?_
    simp only [RT, FS, ↓RE, okR, argEnv, Nat.reduceAdd, Nat.reduceSub, Nat.reduceLT, Nat.reduceLeDiff, Nat.reduceEqDiff, reduceIte, oS, oT, oA, oC, oP, z1, gInt1_eq, ex_tup, intL_len, Bool.and_true, Bool.not_true, Int.reduceBEq, Int.reduceBNe, beq_self_eq_true, bne_self_eq_false, Bool.and_self, decide_true, decide_false]
  rw [hs] at oS
  cases ht : tinyL l
  · rw [ht] at oT
    simp only [Craft.c, AirW.c] at *
    refine pure_of_wc (rs := [.tmp 16]) (m := 313) [(20, [(12, false, false, [])]), (25, [(17, false, false, [])]), (26, [(14, false, false, [])]), (28, [(32, false, false, [])]), (30, [(14, false, false, [])])] nF_ok (by kernel_rfl) Try.func3 rfl (by kernel_rfl) rfl rfl (by kernel_rfl) ?_
    simp only [RT, FS, ↓RE, okR, argEnv, Nat.reduceAdd, Nat.reduceSub, Nat.reduceLT, Nat.reduceLeDiff, Nat.reduceEqDiff, reduceIte, oS, oT, oA, oC, oP, z1, gInt1_eq, ex_tup, intL_len, Bool.and_true, Bool.not_true, Int.reduceBEq, Int.reduceBNe, beq_self_eq_true, bne_self_eq_false, Bool.and_self, decide_true, decide_false]
  rw [ht] at oT
  by_cases h1 : startE c l a w true = 0
  rotate_left
  · have b1 : (startE c l a w true != 0) = true := by simpa using h1
    simp only [Craft.c, AirW.c] at *
    refine pure_of_wc (rs := [.tmp 16]) (m := 313) [(20, [(12, false, false, [])]), (25, [(17, false, false, [])]), (26, [(14, false, false, [])]), (28, [(32, false, false, [])]), (30, [(14, false, false, [])])] nF_ok (by kernel_rfl) Try.func3 rfl (by kernel_rfl) rfl rfl (by kernel_rfl) ?_
    simp only [RT, FS, ↓RE, okR, argEnv, Nat.reduceAdd, Nat.reduceSub, Nat.reduceLT, Nat.reduceLeDiff, Nat.reduceEqDiff, reduceIte, oS, oT, oA, oC, oP, z1, gInt1_eq, ex_tup, intL_len, Bool.and_true, Bool.not_true, Int.reduceBEq, Int.reduceBNe, beq_self_eq_true, bne_self_eq_false, Bool.and_self, decide_true, decide_false, b1]
  rw [h1] at oA
  cases hc : cellL l x
  · rw [hc] at oC
    simp only [Craft.c, AirW.c] at *
    refine pure_of_wc (rs := [.tmp 16]) (m := 313) [(20, [(12, false, false, [])]), (25, [(17, false, false, [])]), (26, [(14, false, false, [])]), (28, [(32, false, false, [])]), (30, [(14, false, false, [])])] nF_ok (by kernel_rfl) Try.func3 rfl (by kernel_rfl) rfl rfl (by kernel_rfl) ?_
    simp only [RT, FS, ↓RE, okR, argEnv, Nat.reduceAdd, Nat.reduceSub, Nat.reduceLT, Nat.reduceLeDiff, Nat.reduceEqDiff, reduceIte, oS, oT, oA, oC, oP, z1, gInt1_eq, ex_tup, intL_len, Bool.and_true, Bool.not_true, Int.reduceBEq, Int.reduceBNe, beq_self_eq_true, bne_self_eq_false, Bool.and_self, decide_true, decide_false]
  rw [hc] at oC
  by_cases hm1 : mo < -1
  · have q1 : decide (mo < -1) = true := by simpa using hm1
    simp only [Craft.c, AirW.c] at *
    refine pure_of_wc (rs := [.tmp 16]) (m := 313) [(20, [(12, false, false, [])]), (25, [(17, false, false, [])]), (26, [(14, false, false, [])]), (28, [(32, false, false, [])]), (30, [(14, false, false, [])])] nF_ok (by kernel_rfl) Try.func3 rfl (by kernel_rfl) rfl rfl (by kernel_rfl) ?_
    simp only [RT, FS, ↓RE, okR, argEnv, Nat.reduceAdd, Nat.reduceSub, Nat.reduceLT, Nat.reduceLeDiff, Nat.reduceEqDiff, reduceIte, oS, oT, oA, oC, oP, z1, gInt1_eq, ex_tup, intL_len, Bool.and_true, Bool.not_true, Int.reduceBEq, Int.reduceBNe, beq_self_eq_true, bne_self_eq_false, Bool.and_self, decide_true, decide_false, q1]
  have q1 : decide (mo < -1) = false := by simpa using hm1
  by_cases hm2 : 2000 < mo
  · have q2 : decide (2000 < mo) = true := by simpa using hm2
    simp only [Craft.c, AirW.c] at *
    refine pure_of_wc (rs := [.tmp 16]) (m := 313) [(20, [(12, false, false, [])]), (25, [(17, false, false, [])]), (26, [(14, false, false, [])]), (28, [(32, false, false, [])]), (30, [(14, false, false, [])])] nF_ok (by kernel_rfl) Try.func3 rfl (by kernel_rfl) rfl rfl (by kernel_rfl) ?_
    simp only [RT, FS, ↓RE, okR, argEnv, Nat.reduceAdd, Nat.reduceSub, Nat.reduceLT, Nat.reduceLeDiff, Nat.reduceEqDiff, reduceIte, oS, oT, oA, oC, oP, z1, gInt1_eq, ex_tup, intL_len, Bool.and_true, Bool.not_true, Int.reduceBEq, Int.reduceBNe, beq_self_eq_true, bne_self_eq_false, Bool.and_self, decide_true, decide_false, q1, q2]
  have q2 : decide (2000 < mo) = false := by simpa using hm2
  by_cases hm3 : 400 < ws.length
  · have q3 : decide (400 < (ws.length : Int)) = true := by simp; omega
    simp only [Craft.c, AirW.c] at *
    refine pure_of_wc (rs := [.tmp 16]) (m := 313) [(20, [(12, false, false, [])]), (25, [(17, false, false, [])]), (26, [(14, false, false, [])]), (28, [(32, false, false, [])]), (30, [(14, false, false, [])])] nF_ok (by kernel_rfl) Try.func3 rfl (by kernel_rfl) rfl rfl (by kernel_rfl) ?_
    simp only [RT, FS, ↓RE, okR, argEnv, Nat.reduceAdd, Nat.reduceSub, Nat.reduceLT, Nat.reduceLeDiff, Nat.reduceEqDiff, reduceIte, oS, oT, oA, oC, oP, z1, gInt1_eq, ex_tup, intL_len, Bool.and_true, Bool.not_true, Int.reduceBEq, Int.reduceBNe, beq_self_eq_true, bne_self_eq_false, Bool.and_self, decide_true, decide_false, q1, q2, q3]
  have q3 : decide (400 < (ws.length : Int)) = false := by simp; omega
  cases hp : ws.all fun x => rI x 0 100
  · rw [hp] at oP
    simp only [Craft.c, AirW.c] at *
    refine pure_of_wc (rs := [.tmp 16]) (m := 313) [(20, [(12, false, false, [])]), (25, [(17, false, false, [])]), (26, [(14, false, false, [])]), (28, [(32, false, false, [])]), (30, [(14, false, false, [])])] nF_ok (by kernel_rfl) Try.func3 rfl (by kernel_rfl) rfl rfl (by kernel_rfl) ?_
    simp only [RT, FS, ↓RE, okR, argEnv, Nat.reduceAdd, Nat.reduceSub, Nat.reduceLT, Nat.reduceLeDiff, Nat.reduceEqDiff, reduceIte, oS, oT, oA, oC, oP, z1, gInt1_eq, ex_tup, intL_len, Bool.and_true, Bool.not_true, Int.reduceBEq, Int.reduceBNe, beq_self_eq_true, bne_self_eq_false, Bool.and_self, decide_true, decide_false, q1, q2, q3]
  rw [hp] at oP
  by_cases hm4 : 150 < ot.length
  · have q4 : decide (150 < (ot.length : Int)) = true := by simp; omega
    simp only [Craft.c, AirW.c] at *
    refine pure_of_wc (rs := [.tmp 16]) (m := 313) [(20, [(12, false, false, [])]), (25, [(17, false, false, [])]), (26, [(14, false, false, [])]), (28, [(32, false, false, [])]), (30, [(14, false, false, [])])] nF_ok (by kernel_rfl) Try.func3 rfl (by kernel_rfl) rfl rfl (by kernel_rfl) ?_
    simp only [RT, FS, ↓RE, okR, argEnv, Nat.reduceAdd, Nat.reduceSub, Nat.reduceLT, Nat.reduceLeDiff, Nat.reduceEqDiff, reduceIte, oS, oT, oA, oC, oP, z1, gInt1_eq, ex_tup, intL_len, Bool.and_true, Bool.not_true, Int.reduceBEq, Int.reduceBNe, beq_self_eq_true, bne_self_eq_false, Bool.and_self, decide_true, decide_false, q1, q2, q3, q4]
  have q4 : decide (150 < (ot.length : Int)) = false := by simp; omega
  obtain ⟨k1, k2, k3, _, k5⟩ := startE_ok hl ll h1
  have hcx : cellI l x := by
    simp only [cellL, Bool.and_eq_true, decide_eq_true_eq] at hc
    exact hc
  obtain ⟨k, rfl⟩ : ∃ k : Nat, x = (k : Int) := ⟨x.toNat, by unfold cellI at hcx; omega⟩
  have hk : k < l.ground.length := by unfold cellI at hcx; omega
  rw [NeedsR_ok h1] at oN
  have hNo := needsF_ok k1 k3 k2 (ceilI c w)
  have hNl := hNo.len
  have hNb := hNo.b k hk
  have ixN := sI_ix (hNo.at_ hk)
  have hbno := fun {x : List Int} {h : Int} hh hn => begB_no k1 k3 w k2 hk (x := x) (h := h) hh hn
  have hmno := fun {h : Int} hn => many_no k1 k3 w k2 hk (h := h) hn
  have hmyes := fun {h : Int} hh hn => many_yes k1 k3 w k2 hk (h := h) hh hn
  have hblen := fun {x : List Int} {h : Int} hh he => begB_len k1 k3 w k2 hk (x := x) (h := h) hh he
  have oB := fun h hh => gCLA_eq (β := Int × Int × List Int × Int) okB rsB (fun c l a p => .bool (begB c a p.1 l p.2.1 p.2.2.1 p.2.2.2)) rsB_inj (c := c) (l := l) (a := a) (b := (w, (k : Int), ot, h)) ⟨⟨k1, k2, k3⟩, hol, hh⟩
  simp only [rsB, hlc] at oB
  have hneq : ((l.ground.length : Int) != (l.ground.length : Int)) = false := by simp
  have n0 : decide (nAt (needsF c a (ceilI c w) l) k < 0) = false := by simp; omega
  have n1 : decide (1000000 < nAt (needsF c a (ceilI c w) l) k) = false := by simp; omega
  generalize hNF : needsF c a (ceilI c w) l = NF at *
  by_cases hnev : nAt NF k = 1000000
  · have b2 : (nAt NF k == 1000000) = true := by simpa using hnev
    have oE' := oE 20000
    rw [EscD_no h1 hc rfl (hmno (by omega))] at oE'
    have oB' := oB 20000 (by omega)
    rw [hbno (by omega) (by omega)] at oB'
    simp only [Craft.c, AirW.c] at *
    refine pure_of_wc (rs := [.tmp 16]) (m := 313) [(20, [(12, false, false, [])]), (25, [(17, false, false, [])]), (26, [(14, false, false, [])]), (28, [(32, false, false, [])]), (30, [(14, false, false, [])])] nF_ok (by kernel_rfl) Try.func3 rfl (by kernel_rfl) rfl rfl (by kernel_rfl) ?_
    simp only [RT, FS, ↓RE, okR, argEnv, Nat.reduceAdd, Nat.reduceSub, Nat.reduceLT, Nat.reduceLeDiff, Nat.reduceEqDiff, reduceIte, oS, oT, oA, oC, oP, z1, gInt1_eq, ex_tup, intL_len, Bool.and_true, Bool.not_true, Int.reduceBEq, Int.reduceBNe, beq_self_eq_true, bne_self_eq_false, Bool.and_self, decide_true, decide_false, q1, q2, q3, q4, oN, hNl, n0, n1, ixN, b2, oE', oB']
  have b2 : (nAt NF k == 1000000) = false := by simpa using hnev
  have wh := wrap_i64 (z := nAt NF k + mo) (by omega) (by omega)
  cases hh : rI (nAt NF k + mo) 0 20000
  · simp only [Craft.c, AirW.c] at *
    refine pure_of_wc (rs := [.tmp 16]) (m := 313) [(20, [(12, false, false, [])]), (25, [(17, false, false, [])]), (26, [(14, false, false, [])]), (28, [(32, false, false, [])]), (30, [(14, false, false, [])])] nF_ok (by kernel_rfl) Try.func3 rfl (by kernel_rfl) rfl rfl (by kernel_rfl) ?_
    simp only [RT, FS, ↓RE, okR, argEnv, Nat.reduceAdd, Nat.reduceSub, Nat.reduceLT, Nat.reduceLeDiff, Nat.reduceEqDiff, reduceIte, oS, oT, oA, oC, oP, z1, gInt1_eq, ex_tup, intL_len, Bool.and_true, Bool.not_true, Int.reduceBEq, Int.reduceBNe, beq_self_eq_true, bne_self_eq_false, Bool.and_self, decide_true, decide_false, q1, q2, q3, q4, oN, hNl, n0, n1, ixN, b2, wh, hh]
  have hhb := rI_le hh
  have oE' := oE (nAt NF k + mo)
  have oB' := oB (nAt NF k + mo) hhb
  by_cases hneg : mo < 0
  · have b3 : decide (mo < 0) = true := by simpa using hneg
    rw [EscD_no h1 hc hh (hmno (by omega))] at oE'
    rw [hbno hhb (by omega)] at oB'
    simp only [Craft.c, AirW.c] at *
    refine pure_of_wc (rs := [.tmp 16]) (m := 313) [(20, [(12, false, false, [])]), (25, [(17, false, false, [])]), (26, [(14, false, false, [])]), (28, [(32, false, false, [])]), (30, [(14, false, false, [])])] nF_ok (by kernel_rfl) Try.func3 rfl (by kernel_rfl) rfl rfl (by kernel_rfl) ?_
    simp only [RT, FS, ↓RE, okR, argEnv, Nat.reduceAdd, Nat.reduceSub, Nat.reduceLT, Nat.reduceLeDiff, Nat.reduceEqDiff, reduceIte, oS, oT, oA, oC, oP, z1, gInt1_eq, ex_tup, intL_len, Bool.and_true, Bool.not_true, Int.reduceBEq, Int.reduceBNe, beq_self_eq_true, bne_self_eq_false, Bool.and_self, decide_true, decide_false, q1, q2, q3, q4, oN, hNl, n0, n1, ixN, b2, wh, hh, b3, oE', oB']
  have b3 : decide (mo < 0) = false := by simpa using hneg
  have hmy := hmyes hhb (by omega)
  rw [EscD_yes h1 hc hh hmy.1] at oE'
  have hbl := hblen (x := ot) hhb
  generalize hH : nAt NF k + mo = H at *
  have wh' : IntKind.i64.wrap (nAt NF k + mo) = H := by rw [hH]; exact wh
  have hEs := escB_esc k1 k3 w k2 hmy.2
  have hPa := esc_path k1 k3 w k2 _ _ _ hmy.2
  have hRl : (escA c a (ceilI c w) l k H).length = (manyI c a (ceilI c w) l k H).toNat + 1 := by simp [escA, escF_len]
  have hWl := withinF_len c a (ceilI c w) k2
  have hmW := hmy.2.2.2.1
  have hR0 : nAt (escA c a (ceilI c w) l k H) 0 = (k : Int) := rfl
  have hRd : (k : Int) :: escF c a (ceilI c w) l (withinF c a (ceilI c w) l) (manyI c a (ceilI c w) l k H).toNat (k, H) = escA c a (ceilI c w) l k H := rfl
  rw [hRd] at hEs hPa
  generalize escA c a (ceilI c w) l k H = RR at *
  generalize hM : (manyI c a (ceilI c w) l k H).toNat = M at *
  have oEs := gCLA_eq (β := Int × List Int × Int) okEs rsE (fun c l a p => .bool (escB c a p.1 l p.2.1 p.2.2)) rsE_inj (c := c) (l := l) (a := a) (b := (w, RR, H)) ⟨⟨k1, k2, k3⟩, by rw [hRl]; omega, hhb⟩
  simp only [rsE, hEs, hlc] at oEs
  have r0 : ∀ h, indexAddrD Try.prog h 25 (.sl (intL RR)) (.int .i64 0) = some (.ref [.int .i64 (k : Int)] 0) := fun h => by
    have := sI_ix (i := 0) (nAt_get (x := RR) (i := 0) (by omega)) h
    rwa [hR0] at this
  have q5 : ∀ b, begB c a w l k ot H = b → (b = true → decide ((ot.length : Int) < (RR.length : Int)) = false) := fun b hb ht => by
    have := hbl (hb.trans ht); simp; omega
  have hok : ∀ i, i < RR.length → okAt c a w l RR H i = true := by
    simp only [escB, Bool.and_eq_true, List.all_eq_true, List.mem_range] at hEs
    exact hEs.2
  have htg := fun i (hi : i < RR.length) => tAt_ge k1 k3 w (l := l) (x := RR) hp H i fun j hj => hPa.2 j (by omega)
  have hAb := fun i (hi : i < RR.length) => hAt_b k1 k3 k2 hhb (wt := w) (x := RR) (i := i) fun j hj => hok j (by omega)
  generalize hBB : begB c a w l k ot H = BB at *
  have hst : ∀ b, BB = b → Pure Try.prog 3 [.agg c.c, .agg [.int .i64 l.wide, .int .i64 l.deep, .sl (intL l.ground), .sl (boolL l.water), .int .i64 l.clear], .agg a.c, .int .i64 w, .int .i64 (k : Int), .int .i64 mo, .sl (intL ws), .sl (intL ot)] (.bool true) := by
    intro b hb
    simp only [Craft.c, AirW.c] at *
    cases b
    case' false =>
      rw [hb] at oB'
      refine pure_of_wc (rs := [.tmp 16]) (m := 313) [(20, [(12, false, false, [])]), (25, [(17, false, false, [])]), (26, [(14, false, false, [])]), (28, [(32, false, false, [])]), (30, [(14, false, false, [])])] nF_ok (by kernel_rfl) Try.func3 rfl (by kernel_rfl) rfl rfl (by kernel_rfl) ?_
      simp only [RT, FS, ↓RE, okR, argEnv, Nat.reduceAdd, Nat.reduceSub, Nat.reduceLT, Nat.reduceLeDiff, Nat.reduceEqDiff, reduceIte, oS, oT, oA, oC, oP, z1, gInt1_eq, ex_tup, intL_len, Bool.and_true, Bool.not_true, Int.reduceBEq, Int.reduceBNe, beq_self_eq_true, bne_self_eq_false, Bool.and_self, decide_true, decide_false, q1, q2, q3, q4, oN, hNl, n0, n1, ixN, b2, wh', hh, b3, oE', oB', oEs, r0]
    case' true =>
      have q5 := q5 true hb rfl
      rw [hb] at oB'
      refine pure_of_wc (rs := [.tmp 16]) (m := 313) [(20, [(12, false, false, [])]), (25, [(17, false, false, [])]), (26, [(14, false, false, [])]), (28, [(32, false, false, [])]), (30, [(14, false, false, [])])] nF_ok (by kernel_rfl) Try.func3 rfl (by kernel_rfl) rfl rfl (by kernel_rfl) ?_
      simp only [RT, FS, ↓RE, okR, argEnv, Nat.reduceAdd, Nat.reduceSub, Nat.reduceLT, Nat.reduceLeDiff, Nat.reduceEqDiff, reduceIte, oS, oT, oA, oC, oP, z1, gInt1_eq, ex_tup, intL_len, Bool.and_true, Bool.not_true, Int.reduceBEq, Int.reduceBNe, beq_self_eq_true, bne_self_eq_false, Bool.and_self, decide_true, decide_false, q1, q2, q3, q4, oN, hNl, n0, n1, ixN, b2, wh', hh, b3, oE', oB', oEs, r0, q5]
    all_goals
      refine loopV (ι := Nat) nF_ok [(20, [(12, false, false, [])]), (25, [(17, false, false, [])]), (26, [(14, false, false, [])]), (28, [(32, false, false, [])]), (30, [(14, false, false, [])])] (fun i => [(3, .int .i64 w), (6, .sl (intL ws)), (8, .ptr 0 0), (9, .ptr 1 0), (10, .ptr 2 0), (21, .int .i64 (tAt c a w l RR ws H i)), (22, .sl (intL RR)), (24, .int .i64 ((i : Int) + 1))])
        (fun i => [(2, .box a.c), (1, .box l.c), (0, .box c.c)]) 3 (fun i => i ≤ M) (fun i => M - i) 0 (by kernel_rfl) (by kernel_rfl) (Nat.zero_le _) ?_ ?_
      · simp [headW, heapW, envW, blkLt, D.ltL, D.lt, look, hget, hlc, Craft.c, AirW.c, tAt]
      intro i hi
      have hRl' : (RR.length : Int) = (M : Int) + 1 := by rw [hRl]; omega
      rcases Nat.lt_or_ge i M with hlt | hge
      rotate_left
      · have hq : (((i : Nat) : Int) + 1 < (M : Int) + 1) = False := by simp; omega
        have : i = M := by omega
        subst this
        have hlast := hok i (by omega)
        have hcl := okAt_cell hlast
        obtain ⟨k', hk'⟩ : ∃ k' : Nat, nAt RR i = (k' : Int) := ⟨(nAt RR i).toNat, by unfold cellI at hcl; omega⟩
        have hkl : k' < l.ground.length := by unfold cellI at hcl; omega
        simp only [okAt, Bool.and_eq_true] at hlast
        have hwa := hlast.1.2
        rw [decide_eq_true (by omega : i + 1 = RR.length), show (nAt RR i).toNat = k' by omega] at hwa
        have hwt : wAt l k' = true := by simpa using hwa
        have ixw := sB_ix (k2.w_at hkl)
        rw [hwt] at ixw
        have ixl := sI_ix (nAt_get (x := RR) (i := i) (by omega))
        rw [hk'] at ixl
        have wl : IntKind.i64.wrap ((i : Int) + 1 - 1) = (i : Int) := by rw [wrap_i64 (by omega) (by omega)]; omega
        simp only [RT, FS, ↓RE, okR, argEnv, Nat.reduceAdd, Nat.reduceSub, Nat.reduceLT, Nat.reduceLeDiff, Nat.reduceEqDiff, reduceIte, intL_len, hRl', hq, decide_false, hlc, wl, ixl, ixw, z1]
      have hq : (((i : Nat) : Int) + 1 < (M : Int) + 1) = True := by simp; omega
      have w0 : IntKind.i64.wrap ((i : Int) + 1 - 1) = (i : Int) := by rw [wrap_i64 (by omega) (by omega)]; omega
      have wi : IntKind.i64.wrap ((i : Int) + 1 + 1) = ((i + 1 : Nat) : Int) + 1 := by rw [wrap_i64 (by omega) (by omega)]; omega
      have wl : IntKind.i64.wrap ((M : Int) + 1 - 1) = (M : Int) := by rw [wrap_i64 (by omega) (by omega)]; omega
      have hoi := hok i (by omega)
      have ho1 := hok (i + 1) (by omega)
      have hci := okAt_cell hoi
      have hc1 := okAt_cell ho1
      have hwn := hPa.2 i hlt
      have hwr := wayF_rI hwn
      have oW' := gWayR_eq k2 hci hc1.1
      rw [hlc] at oW'
      have hti := htg i (by omega)
      have ht1 := htg (i + 1) (by omega)
      have hai := hAb i (by omega)
      have ha1 := hAb (i + 1) (by omega)
      have oLf := gCAI_eq leftI k1 k3 w (h := tAt c a w l RR ws H i) hwr (by unfold htOk; omega)
      have ixa := sI_ix (nAt_get (x := RR) (i := i) (by omega))
      have ixb : ∀ h, indexAddrD Try.prog h 25 (.sl (intL RR)) (.int .i64 ((i : Int) + 1)) = some (.ref [.int .i64 (nAt RR (i + 1))] 0) := sI_ix (nAt_get (x := RR) (i := i + 1) (by omega))
      obtain ⟨k', hk'⟩ : ∃ k' : Nat, nAt RR (i + 1) = (k' : Int) := ⟨(nAt RR (i + 1)).toNat, by unfold cellI at hc1; omega⟩
      have hkl : k' < l.ground.length := by unfold cellI at hc1; omega
      have ixg := sI_ix (k2.g_at hkl).1
      have hgb := (k2.g_at hkl).2
      have hcb := k2.clear
      have wg := wrap_i64 (z := gAt l k' + l.clear) (by omega) (by omega)
      have hgr : gAt l k' ≤ tAt c a w l RR ws H (i + 1) ∧ (i + 1 < M → gAt l k' + l.clear ≤ tAt c a w l RR ws H (i + 1)) := by
        simp only [okAt, Bool.and_eq_true] at ho1
        have h3 := ho1.2
        rw [show (nAt RR (i + 1)).toNat = k' by omega] at h3
        split at h3
        · have := of_decide_eq_true h3; exact ⟨by omega, fun _ => by omega⟩
        · have := of_decide_eq_true h3; exact ⟨by omega, fun _ => by omega⟩
      have hTd : tAt c a w l RR ws H (i + 1) = if c.eng = 1 then tAt c a w l RR ws H i - lostP c (wayF l (nAt RR i) (nAt RR (i + 1))) (partS a.e (peW ws (i + 1))) (partS a.n (pnW ws (i + 1))) else leftI c a w (wayF l (nAt RR i) (nAt RR (i + 1))) (tAt c a w l RR ws H i) := rfl
      have hpw := pw_b hp (i + 1)
      have hae := k3.e
      have han := k3.n
      have oPe := gPart_eq (s := a.e) ⟨by omega, by omega, by omega⟩ hpw.1
      have oPn := gPart_eq (s := a.n) ⟨by omega, by omega, by omega⟩ hpw.2
      have hpe := partS_in (s := a.e) (by omega) hpw.1
      have hpn := partS_in (s := a.n) (by omega) hpw.2
      have oLo := gLost_eq k1 hwr (e := partS a.e (peW ws (i + 1))) (n := partS a.n (pnW ws (i + 1))) ⟨by omega, by omega⟩ ⟨by omega, by omega⟩
      have hlb : lostP c (wayF l (nAt RR i) (nAt RR (i + 1))) (partS a.e (peW ws (i + 1))) (partS a.n (pnW ws (i + 1))) ≤ 60000 := by
        have h1 := loss_in k1 a _ hwr _ _ hpe hpn
        have h2 := lostI_b k1 k3 (dirW_ok hwr 0)
        omega
      have hlb0 : 1 ≤ lostP c (wayF l (nAt RR i) (nAt RR (i + 1))) (partS a.e (peW ws (i + 1))) (partS a.n (pnW ws (i + 1))) := by unfold lostP; omega
      have wt := wrap_i64 (z := tAt c a w l RR ws H i - lostP c (wayF l (nAt RR i) (nAt RR (i + 1))) (partS a.e (peW ws (i + 1))) (partS a.n (pnW ws (i + 1)))) (by omega) (by omega)
      rw [hk'] at oW' ixb oLf oLo hTd wt hwr
      clear hlb hlb0 hpe hpn hti ht1 hai ha1
      simp only [Craft.c, AirW.c, SpI.c] at oLf oPe oPn oLo
      generalize hWY : wayF l (nAt RR i) (k' : Int) = WY at *
      generalize hT1 : tAt c a w l RR ws H (i + 1) = T1 at *
      have hT := hT1
      generalize tAt c a w l RR ws H i = T0 at *
      have qg2 : decide (T1 < gAt l k') = false := by have := hgr.1; simp; omega
      have hge1 : i + 1 < M → decide (T1 < gAt l k' + l.clear) = false := fun h => by have := hgr.2 h; simp; omega
      by_cases he : c.eng = 1
      · have qe : (c.eng == 1) = true := by simpa using he
        rw [if_pos he] at hTd
        by_cases hw0 : 0 < ws.length
        · have qw : decide ((0 : Int) < (ws.length : Int)) = true := by simp; omega
          have m1 := a_rem' (k := .i64) (x := (i : Int) + 1) (y := (ws.length : Int)) (by omega)
          have m2 := a_rem' (k := .i64) (x := ((i : Int) + 1) * 7) (y := (ws.length : Int)) (by omega)
          have m3 := wrap_i64 (z := ((i : Int) + 1) * 7) (by omega) (by omega)
          have m4 : ((i : Int) + 1).tmod (ws.length : Int) = (((i + 1) % ws.length : Nat) : Int) := by rw [Int.tmod_eq_emod_of_nonneg (by omega), Int.natCast_emod]; rfl
          have m5 : (((i : Int) + 1) * 7).tmod (ws.length : Int) = ((((i + 1) * 7) % ws.length : Nat) : Int) := by rw [Int.tmod_eq_emod_of_nonneg (by omega), Int.natCast_emod]; rfl
          have b1 := Nat.mod_lt (i + 1) hw0
          have b2 := Nat.mod_lt ((i + 1) * 7) hw0
          have m6 := wrap_i64 (z := (((i + 1) % ws.length : Nat) : Int)) (by omega) (by omega)
          have m7 := wrap_i64 (z := ((((i + 1) * 7) % ws.length : Nat) : Int)) (by omega) (by omega)
          have ix1 := sI_ix (nAt_get b1)
          have ix2 := sI_ix (nAt_get b2)
          have e1 : peW ws (i + 1) = nAt ws ((i + 1) % ws.length) := by simp [peW, hw0]
          have e2 : pnW ws (i + 1) = nAt ws (((i + 1) * 7) % ws.length) := by simp [pnW, hw0]
          rw [e1] at oPe oLo wt hTd
          rw [e2] at oPn oLo wt hTd
          have wt := wt.trans hTd.symm
          by_cases hla : i + 1 < M
          · have qc : decide (((i : Int) + 1) < (M : Int)) = true := by simp; omega
            have qg := hge1 hla
            simp only [RT, FS, ↓RE, okR, argEnv, Nat.reduceAdd, Nat.reduceSub, Nat.reduceLT, Nat.reduceLeDiff, Nat.reduceEqDiff, reduceIte, intL_len, hRl', hq, decide_true, decide_false, hlc, Craft.c, AirW.c, w0, ixa, ixb, oW', oLf, wi, wl, ixg, qc, qg, wg, qg2, qe, qw, m1, m2, m3, m4, m5, m6, m7, ix1, ix2, oPe, oPn, oLo, wt]
            refine ⟨i + 1, by omega, by omega, ?_⟩
            simp [headW, heapW, envW, blkLt, D.ltL, D.lt, look, hget, hlc, Craft.c, AirW.c, hT]
          · have qc : decide (((i : Int) + 1) < (M : Int)) = false := by simp; omega
            have qg := qg2
            simp only [RT, FS, ↓RE, okR, argEnv, Nat.reduceAdd, Nat.reduceSub, Nat.reduceLT, Nat.reduceLeDiff, Nat.reduceEqDiff, reduceIte, intL_len, hRl', hq, decide_true, decide_false, hlc, Craft.c, AirW.c, w0, ixa, ixb, oW', oLf, wi, wl, ixg, qc, qg, wg, qe, qw, m1, m2, m3, m4, m5, m6, m7, ix1, ix2, oPe, oPn, oLo, wt]
            refine ⟨i + 1, by omega, by omega, ?_⟩
            simp [headW, heapW, envW, blkLt, D.ltL, D.lt, look, hget, hlc, Craft.c, AirW.c, hT]
        · have qw : decide ((0 : Int) < (ws.length : Int)) = false := decide_eq_false (by omega)
          have e1 : peW ws (i + 1) = 0 := by simp [peW, hw0]
          have e2 : pnW ws (i + 1) = 0 := by simp [pnW, hw0]
          rw [e1] at oPe oLo wt hTd
          rw [e2] at oPn oLo wt hTd
          have wt := wt.trans hTd.symm
          by_cases hla : i + 1 < M
          · have qc : decide (((i : Int) + 1) < (M : Int)) = true := by simp; omega
            have qg := hge1 hla
            simp only [RT, FS, ↓RE, okR, argEnv, Nat.reduceAdd, Nat.reduceSub, Nat.reduceLT, Nat.reduceLeDiff, Nat.reduceEqDiff, reduceIte, intL_len, hRl', hq, decide_true, decide_false, hlc, Craft.c, AirW.c, w0, ixa, ixb, oW', oLf, wi, wl, ixg, qc, qg, wg, qg2, qe, qw, oPe, oPn, oLo, wt]
            refine ⟨i + 1, by omega, by omega, ?_⟩
            simp [headW, heapW, envW, blkLt, D.ltL, D.lt, look, hget, hlc, Craft.c, AirW.c, hT]
          · have qc : decide (((i : Int) + 1) < (M : Int)) = false := by simp; omega
            have qg := qg2
            simp only [RT, FS, ↓RE, okR, argEnv, Nat.reduceAdd, Nat.reduceSub, Nat.reduceLT, Nat.reduceLeDiff, Nat.reduceEqDiff, reduceIte, intL_len, hRl', hq, decide_true, decide_false, hlc, Craft.c, AirW.c, w0, ixa, ixb, oW', oLf, wi, wl, ixg, qc, qg, wg, qe, qw, oPe, oPn, oLo, wt]
            refine ⟨i + 1, by omega, by omega, ?_⟩
            simp [headW, heapW, envW, blkLt, D.ltL, D.lt, look, hget, hlc, Craft.c, AirW.c, hT]
      · have qe : (c.eng == 1) = false := by simpa using he
        rw [if_neg he] at hTd
        have oLf := oLf.trans (by rw [← hTd])
        by_cases hla : i + 1 < M
        · have qc : decide (((i : Int) + 1) < (M : Int)) = true := by simp; omega
          have qg := hge1 hla
          simp only [RT, FS, ↓RE, okR, argEnv, Nat.reduceAdd, Nat.reduceSub, Nat.reduceLT, Nat.reduceLeDiff, Nat.reduceEqDiff, reduceIte, intL_len, hRl', hq, decide_true, decide_false, hlc, Craft.c, AirW.c, w0, ixa, ixb, oW', oLf, wi, wl, ixg, qc, qg, wg, qg2, qe]
          refine ⟨i + 1, by omega, by omega, ?_⟩
          simp [headW, heapW, envW, blkLt, D.ltL, D.lt, look, hget, hlc, Craft.c, AirW.c, hT]
        · have qc : decide (((i : Int) + 1) < (M : Int)) = false := by simp; omega
          have qg := qg2
          simp only [RT, FS, ↓RE, okR, argEnv, Nat.reduceAdd, Nat.reduceSub, Nat.reduceLT, Nat.reduceLeDiff, Nat.reduceEqDiff, reduceIte, intL_len, hRl', hq, decide_true, decide_false, hlc, Craft.c, AirW.c, w0, ixa, ixb, oW', oLf, wi, wl, ixg, qc, qg, wg, qe]
          refine ⟨i + 1, by omega, by omega, ?_⟩
          simp [headW, heapW, envW, blkLt, D.ltL, D.lt, look, hget, hlc, Craft.c, AirW.c, hT]
  exact hst _ rfl
theorem runDown_pure : ∀ Ds, TyL Try.prog Try.f3.params.toList Ds → Pure Try.prog 3 Ds (.bool true) := by
  intro Ds h
  rw [Try.params3] at h
  match Ds, h with
  | [_, _, _, _, _, _, _, _], ⟨⟨n0, _, h0, e0⟩, ⟨n1, _, h1, e1⟩, ⟨n2, _, h2, e2⟩, ⟨n3, _, h3, e3⟩, ⟨n4, _, h4, e4⟩, ⟨n5, _, h5, e5⟩, ⟨n6, _, h6, e6⟩, ⟨n7, _, h7, e7⟩, _⟩ =>
    rw [Try.underlying24] at e0
    rw [Try.underlying28] at e1
    rw [Try.underlying32] at e2
    rw [Fz.und_3] at e3
    rw [Fz.und_3] at e4
    rw [Fz.und_3] at e5
    rw [Fz.und_25] at e6
    rw [Fz.und_25] at e7
    dsimp only at e0 e1 e2 e3 e4 e5 e6 e7
    obtain ⟨c, rfl, hl⟩ := tyCraft h0
    obtain ⟨l, rfl, ll⟩ := tyLand h1
    obtain ⟨a, rfl⟩ := tyAir h2
    obtain ⟨x3, rfl, _⟩ := tyInt Fz.und_3 h3
    obtain ⟨x4, rfl, _⟩ := tyInt Fz.und_3 h4
    obtain ⟨x5, rfl, _⟩ := tyInt Fz.und_3 h5
    obtain ⟨x6, rfl, y6⟩ := tyInts h6
    obtain ⟨x7, rfl, y7⟩ := tyInts h7
    subst e0; subst e1; subst e2; cases e3; cases e4; cases e5; cases e6; cases e7
    exact runDown_at c hl l ll a x3 x4 x5 x6 y6 x7 y7
end Go.Sx
