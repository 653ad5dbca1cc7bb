/- Own work: contracts of functions, used in the proof of a law. -/
import Derived.Test.YthljonnokmkagaaSxEk
set_option linter.unusedVariables false
set_option linter.unusedSimpArgs false
namespace Go.Sx
open Go.Proofs
set_option maxRecDepth 10000

/-! RunRivals -/
set_option maxHeartbeats 16000000 in
theorem runRivals_at (c : Craft) (hl : CraftL c) (l : LandM) (ll : LandL l) (a : AirW) (w h : Int) (ot : List Int) (hol : ot.length ≤ 9223372036854775807) :
    Pure Try.prog 4 [.agg c.c, .agg l.c, .agg a.c, .int .i64 w, .int .i64 h, .sl (intL ot)] (.bool true) := by
  have oS := gC1_eq (fun c => .bool (shortC c)) hl
  have oT := gL1_eq (fun l => .bool (tinyL l)) ll
  have oN := gCLA_eq (β := Int) (fun c l a _ => okL c l a) rs1 (fun c l a w => NeedsR c l a w) rs1_inj (c := c) (l := l) (a := a) (b := w) ⟨hl, ll⟩
  have oE := fun x => gCLA_eq (β := Int × Int × Int) (fun c l a _ => okL c l a) rs3 (fun c l a p => EscD c l a p.1 p.2.1 p.2.2) rs3_inj (c := c) (l := l) (a := a) (b := (w, x, h)) ⟨hl, ll⟩
  have oA := gCLA_eq (β := Int × Bool) (fun c l a _ => okL c l a) rs1b (fun c l a p => .int .i64 (startE c l a p.1 p.2)) rs1b_inj (c := c) (l := l) (a := a) (b := (w, true)) ⟨hl, ll⟩
  have oC := fun x => gL2_eq (fun l x => .bool (cellL l x)) ll x
  have oW := fun (frm to h : Int) => gCLA_eq (β := Int × Int × Int × Int) (fun c l a _ => okL c l a) rs4 (fun c l a p => WayD c l a p.1 p.2.1 p.2.2.1 p.2.2.2) rs4_inj (c := c) (l := l) (a := a) (b := (w, frm, to, h)) ⟨hl, ll⟩
  have oLo := fun (frm to : Int) => gCLA_eq (β := Int × Int × Int) (fun c l a _ => okL c l a) rs3 (fun c l a p => .tup [.int .i64 (LowestR c l a p.1 p.2.1 p.2.2).1, .int .i64 (LowestR c l a p.1 p.2.1 p.2.2).2]) rs3_inj (c := c) (l := l) (a := a) (b := (w, frm, to)) ⟨hl, ll⟩
  have z1 := cstO_eq [] (.bool true)
  simp only [rs1, rs1b, rs3, rs4] at oN oA oE oW oLo
  have hlc : l.c = [.int .i64 l.wide, .int .i64 l.deep, .sl (intL l.ground), .sl (boolL l.water), .int .i64 l.clear] := rfl
  rw [hlc] at oT oA oN ⊢
  simp only [hlc] at oE oC oW oLo
  cases hs : shortC c
  · rw [hs] at oS
    simp only [Craft.c, AirW.c] at *
    refine pure_of_wc (rs := [.tmp 12]) (m := 301) [(1, [(56, false, false, [])]), (3, [(11, false, false, [])]), (18, [(15, false, false, [])])] nI_ok (by kernel_rfl) Try.func4 rfl (by kernel_rfl) rfl rfl (by kernel_rfl) ?_
    simp only [RT, FS, ↓RE, okR, argEnv, Nat.reduceAdd, Nat.reduceSub, Nat.reduceLT, Nat.reduceLeDiff, Nat.reduceEqDiff, reduceIte, oS, oT, oA, z1, gInt1_eq, ex_tup, intL_len, Bool.and_true, Bool.not_true, Bool.not_false, Int.reduceBEq, Int.reduceBNe, beq_self_eq_true, bne_self_eq_false, Bool.and_self, decide_true, decide_false]
  rw [hs] at oS
  cases ht : tinyL l
  · rw [ht] at oT
    simp only [Craft.c, AirW.c] at *
    refine pure_of_wc (rs := [.tmp 12]) (m := 301) [(1, [(56, false, false, [])]), (3, [(11, false, false, [])]), (18, [(15, false, false, [])])] nI_ok (by kernel_rfl) Try.func4 rfl (by kernel_rfl) rfl rfl (by kernel_rfl) ?_
    simp only [RT, FS, ↓RE, okR, argEnv, Nat.reduceAdd, Nat.reduceSub, Nat.reduceLT, Nat.reduceLeDiff, Nat.reduceEqDiff, reduceIte, oS, oT, oA, z1, gInt1_eq, ex_tup, intL_len, Bool.and_true, Bool.not_true, Bool.not_false, Int.reduceBEq, Int.reduceBNe, beq_self_eq_true, bne_self_eq_false, Bool.and_self, decide_true, decide_false]
  rw [ht] at oT
  by_cases h1 : startE c l a w true = 0
  rotate_left
  · have b1 : (startE c l a w true != 0) = true := by simpa using h1
    simp only [Craft.c, AirW.c] at *
    refine pure_of_wc (rs := [.tmp 12]) (m := 301) [(1, [(56, false, false, [])]), (3, [(11, false, false, [])]), (18, [(15, false, false, [])])] nI_ok (by kernel_rfl) Try.func4 rfl (by kernel_rfl) rfl rfl (by kernel_rfl) ?_
    simp only [RT, FS, ↓RE, okR, argEnv, Nat.reduceAdd, Nat.reduceSub, Nat.reduceLT, Nat.reduceLeDiff, Nat.reduceEqDiff, reduceIte, oS, oT, oA, z1, gInt1_eq, ex_tup, intL_len, Bool.and_true, Bool.not_true, Bool.not_false, Int.reduceBEq, Int.reduceBNe, beq_self_eq_true, bne_self_eq_false, Bool.and_self, decide_true, decide_false, b1]
  rw [h1] at oA
  by_cases h36 : 36 < l.ground.length
  · have q36 : decide (36 < (l.ground.length : Int)) = true := by simp; omega
    simp only [Craft.c, AirW.c] at *
    refine pure_of_wc (rs := [.tmp 12]) (m := 301) [(1, [(56, false, false, [])]), (3, [(11, false, false, [])]), (18, [(15, false, false, [])])] nI_ok (by kernel_rfl) Try.func4 rfl (by kernel_rfl) rfl rfl (by kernel_rfl) ?_
    simp only [RT, FS, ↓RE, okR, argEnv, Nat.reduceAdd, Nat.reduceSub, Nat.reduceLT, Nat.reduceLeDiff, Nat.reduceEqDiff, reduceIte, oS, oT, oA, z1, gInt1_eq, ex_tup, intL_len, Bool.and_true, Bool.not_true, Bool.not_false, Int.reduceBEq, Int.reduceBNe, beq_self_eq_true, bne_self_eq_false, Bool.and_self, decide_true, decide_false, q36]
  have q36 : decide (36 < (l.ground.length : Int)) = false := by simp; omega
  cases hh : rI h 0 20000
  · simp only [Craft.c, AirW.c] at *
    refine pure_of_wc (rs := [.tmp 12]) (m := 301) [(1, [(56, false, false, [])]), (3, [(11, false, false, [])]), (18, [(15, false, false, [])])] nI_ok (by kernel_rfl) Try.func4 rfl (by kernel_rfl) rfl rfl (by kernel_rfl) ?_
    simp only [RT, FS, ↓RE, okR, argEnv, Nat.reduceAdd, Nat.reduceSub, Nat.reduceLT, Nat.reduceLeDiff, Nat.reduceEqDiff, reduceIte, oS, oT, oA, z1, gInt1_eq, ex_tup, intL_len, Bool.and_true, Bool.not_true, Bool.not_false, Int.reduceBEq, Int.reduceBNe, beq_self_eq_true, bne_self_eq_false, Bool.and_self, decide_true, decide_false, q36, hh]
  have hhb := rI_le hh
  by_cases ho1 : ot.length < 1
  · have q1 : decide ((ot.length : Int) < 1) = true := by simp; omega
    simp only [Craft.c, AirW.c] at *
    refine pure_of_wc (rs := [.tmp 12]) (m := 301) [(1, [(56, false, false, [])]), (3, [(11, false, false, [])]), (18, [(15, false, false, [])])] nI_ok (by kernel_rfl) Try.func4 rfl (by kernel_rfl) rfl rfl (by kernel_rfl) ?_
    simp only [RT, FS, ↓RE, okR, argEnv, Nat.reduceAdd, Nat.reduceSub, Nat.reduceLT, Nat.reduceLeDiff, Nat.reduceEqDiff, reduceIte, oS, oT, oA, z1, gInt1_eq, ex_tup, intL_len, Bool.and_true, Bool.not_true, Bool.not_false, Int.reduceBEq, Int.reduceBNe, beq_self_eq_true, bne_self_eq_false, Bool.and_self, decide_true, decide_false, q36, hh, q1]
  have q1 : decide ((ot.length : Int) < 1) = false := by simp; omega
  by_cases ho2 : 40 < ot.length
  · have q2 : decide (40 < (ot.length : Int)) = true := by simp; omega
    simp only [Craft.c, AirW.c] at *
    refine pure_of_wc (rs := [.tmp 12]) (m := 301) [(1, [(56, false, false, [])]), (3, [(11, false, false, [])]), (18, [(15, false, false, [])])] nI_ok (by kernel_rfl) Try.func4 rfl (by kernel_rfl) rfl rfl (by kernel_rfl) ?_
    simp only [RT, FS, ↓RE, okR, argEnv, Nat.reduceAdd, Nat.reduceSub, Nat.reduceLT, Nat.reduceLeDiff, Nat.reduceEqDiff, reduceIte, oS, oT, oA, z1, gInt1_eq, ex_tup, intL_len, Bool.and_true, Bool.not_true, Bool.not_false, Int.reduceBEq, Int.reduceBNe, beq_self_eq_true, bne_self_eq_false, Bool.and_self, decide_true, decide_false, q36, hh, q1, q2]
  have q2 : decide (40 < (ot.length : Int)) = false := by simp; omega
  have i0 : ∀ h, indexAddrD Try.prog h 25 (.sl (intL ot)) (.int .i64 0) = some (.ref [.int .i64 (nAt ot 0)] 0) := fun h => sI_ix (i := 0) (nAt_get (by omega)) h
  have oC0 := oC (nAt ot 0)
  have oC1 := oC (nAt ot (ot.length - 1))
  have wl : IntKind.i64.wrap ((ot.length : Int) - 1) = ((ot.length - 1 : Nat) : Int) := by rw [wrap_i64 (by omega) (by omega)]; omega
  have il := sI_ix (nAt_get (x := ot) (i := ot.length - 1) (by omega))
  clear oC
  cases hc0 : cellL l (nAt ot 0)
  · rw [hc0] at oC0
    simp only [Craft.c, AirW.c] at *
    refine pure_of_wc (rs := [.tmp 12]) (m := 301) [(1, [(56, false, false, [])]), (3, [(11, false, false, [])]), (18, [(15, false, false, [])])] nI_ok (by kernel_rfl) Try.func4 rfl (by kernel_rfl) rfl rfl (by kernel_rfl) ?_
    simp only [RT, FS, ↓RE, okR, argEnv, Nat.reduceAdd, Nat.reduceSub, Nat.reduceLT, Nat.reduceLeDiff, Nat.reduceEqDiff, reduceIte, oS, oT, oA, z1, gInt1_eq, ex_tup, intL_len, Bool.and_true, Bool.not_true, Bool.not_false, Int.reduceBEq, Int.reduceBNe, beq_self_eq_true, bne_self_eq_false, Bool.and_self, decide_true, decide_false, q36, hh, q1, q2, i0, oC0]
  rw [hc0] at oC0
  cases hc1 : cellL l (nAt ot (ot.length - 1))
  · rw [hc1] at oC1
    simp only [Craft.c, AirW.c] at *
    refine pure_of_wc (rs := [.tmp 12]) (m := 301) [(1, [(56, false, false, [])]), (3, [(11, false, false, [])]), (18, [(15, false, false, [])])] nI_ok (by kernel_rfl) Try.func4 rfl (by kernel_rfl) rfl rfl (by kernel_rfl) ?_
    simp only [RT, FS, ↓RE, okR, argEnv, Nat.reduceAdd, Nat.reduceSub, Nat.reduceLT, Nat.reduceLeDiff, Nat.reduceEqDiff, reduceIte, oS, oT, oA, z1, gInt1_eq, ex_tup, intL_len, Bool.and_true, Bool.not_true, Bool.not_false, Int.reduceBEq, Int.reduceBNe, beq_self_eq_true, bne_self_eq_false, Bool.and_self, decide_true, decide_false, q36, hh, q1, q2, i0, oC0, wl, il, oC1]
  rw [hc1] at oC1
  have hf := cellL_of hc0
  have hto := cellL_of hc1
  obtain ⟨k1, k2, k3, _, k5⟩ := startE_ok hl ll h1
  generalize hFR : nAt ot 0 = frm at *
  generalize hTO : nAt ot (ot.length - 1) = to at *
  rw [NeedsR_ok h1] at oN
  have hNo := needsF_ok k1 k3 k2 (ceilI c w)
  have hNl := hNo.len
  have hneq : ((l.ground.length : Int) != (l.ground.length : Int)) = false := by simp
  have oPo := fun h => gPass_eq k2 hNl (x := ot) (by omega) frm to h
  have oPw := fun (h : Int) (x : List Int) hx => gPass_eq k2 hNl (x := x) hx frm to h
  rw [hlc] at oPo oPw
  have oW1 := oW frm to h
  have oW2 := fun hl => oW frm to hl
  have oLo := oLo frm to
  have hlow := low_spec (c := c) a (ceilI c w) k2 (frm := frm) hto
  have hWn := fun {h : Int} hh hm => WayD_none (h := h) h1 hf hto hh hm
  have hWs := fun {h : Int} hh {v : Cst} hm => WayD_some (h := h) h1 hf hto hh (v := v) hm
  have hPn : ∀ h, mget (costsF c a (ceilI c w) l to h) frm = none → PassD l (needsF c a (ceilI c w) l) ot frm to h = .tup [.int .i64 0, .bool false] := fun h hm => by
    rw [PassD, way_none k2 _ hf hto hm]; simp
  have hff : (false == false) = true := rfl
  have htt : (true == true) = true := rfl
  -- the end of the law: the least height
  have hend : (20000 < lowF c a (ceilI c w) l frm to ∧ LowestR c l a w frm to = (0, 5) ∧ PassD l (needsF c a (ceilI c w) l) ot frm to 20000 = .tup [.int .i64 0, .bool false]) ∨
      (¬20000 < lowF c a (ceilI c w) l frm to ∧ LowestR c l a w frm to = (lowF c a (ceilI c w) l frm to, 0)) := by
    by_cases hB : 20000 < lowF c a (ceilI c w) l frm to
    · exact .inl ⟨hB, LowR_none h1 hf hto hB, hPn _ (hlow.2.1 20000 (by omega) hB)⟩
    · exact .inr ⟨hB, LowR_some h1 hf hto hB⟩
  have hwayB : ¬20000 < lowF c a (ceilI c w) l frm to → ∃ x m, WayD c l a w frm to (lowF c a (ceilI c w) l frm to) = .tup [.sl (intL x), .int .i64 m, .int .i64 0] := fun hB => by
    obtain ⟨v, hv⟩ := hlow.2.2 _ (Int.le_refl _) (by omega)
    exact ⟨_, _, hWs ⟨hlow.1.1, by omega⟩ hv⟩
  have hwayC : ¬20000 < lowF c a (ceilI c w) l frm to → lowF c a (ceilI c w) l frm to ≠ 0 → WayD c l a w frm to (lowF c a (ceilI c w) l frm to - 1) = .tup [.nils, .int .i64 0, .int .i64 5] ∧ PassD l (needsF c a (ceilI c w) l) ot frm to (lowF c a (ceilI c w) l frm to - 1) = .tup [.int .i64 0, .bool false] := fun hB h0 => by
    have hm := hlow.2.1 (lowF c a (ceilI c w) l frm to - 1) (by omega) (by omega)
    exact ⟨hWn (by omega) hm, hPn _ hm⟩
  cases hm : mget (costsF c a (ceilI c w) l to h) frm with
  | none =>
    rw [hWn hhb hm] at oW1
    have hP1 := hPn h hm
    have hlt : h < lowF c a (ceilI c w) l frm to := by
      refine Int.not_le.1 fun hge => ?_
      obtain ⟨v, hv⟩ := hlow.2.2 h hge hhb.2
      rw [hm] at hv; cases hv
    generalize hNF : needsF c a (ceilI c w) l = NF at *
    generalize lowF c a (ceilI c w) l frm to = B at *
    clear hWs hWn hPn hNo oPw hm
    have oPh := oPo h
    rw [hP1] at oPh
    rcases hend with ⟨hB, eL, eP⟩ | ⟨hB, eL⟩
    · rw [eL] at oLo
      have oP2 := oPo 20000
      rw [eP] at oP2
      clear oPo oW2 hwayB hwayC hlow
      simp only [Craft.c, AirW.c] at *
      refine pure_of_wc (rs := [.tmp 12]) (m := 301) [(1, [(56, false, false, [])]), (3, [(11, false, false, [])]), (18, [(15, false, false, [])])] nI_ok (by kernel_rfl) Try.func4 rfl (by kernel_rfl) rfl rfl (by kernel_rfl) ?_
      simp only [RT, FS, ↓RE, okR, argEnv, Nat.reduceAdd, Nat.reduceSub, Nat.reduceLT, Nat.reduceLeDiff, Nat.reduceEqDiff, reduceIte, oS, oT, oA, z1, gInt1_eq, ex_tup, intL_len, Bool.and_true, Bool.not_true, Bool.not_false, Int.reduceBEq, Int.reduceBNe, beq_self_eq_true, bne_self_eq_false, Bool.and_self, decide_true, decide_false, q36, hh, q1, q2, i0, oC0, wl, il, oC1, oN, hNl, oW1, oPh]
      refine loopV (ι := Nat) nI_ok [(1, [(56, false, false, [])]), (3, [(11, false, false, [])]), (18, [(15, false, false, [])])] (fun i => [(3, .int .i64 w), (4, .int .i64 h), (5, .sl (intL ot)), (6, .ptr 0 0), (7, .ptr 1 0), (8, .ptr 2 0), (13, .int .i64 frm), (14, .int .i64 to), (15, .sl (intL NF)), (17, .nils), (19, .int .i64 5), (24, .int .i64 (i : Int))])
        (fun i => [(2, .box a.c), (1, .box l.c), (0, .box c.c)]) 3 (fun i => i = 0) (fun i => 0) 0 (by kernel_rfl) (by kernel_rfl) (by omega) ?_ ?_
      · simp [headW, heapW, envW, blkLt, D.ltL, D.lt, look, hget, hlc, Craft.c, AirW.c]
      intro i hi
      subst hi
      have hq0 : ((((0 : Nat) : Int)) < 0) = False := by simp
      simp only [RT, FS, ↓RE, okR, argEnv, Nat.reduceAdd, Nat.reduceSub, Nat.reduceLT, Nat.reduceLeDiff, Nat.reduceEqDiff, reduceIte, hq0, decide_false, hlc, Craft.c, AirW.c, oLo, ex_tup, oP2, z1, Bool.not_false, Int.reduceBEq, Int.reduceBNe, beq_self_eq_true, bne_self_eq_false]
    · rw [eL] at oLo
      have hB0 : B ≠ 0 := by omega
      have oWB := oW2 B
      obtain ⟨xB, mB, eB⟩ := hwayB hB
      rw [eB] at oWB
      obtain ⟨eC1, eC2⟩ := hwayC hB hB0
      have oWC := oW2 (B - 1)
      rw [eC1] at oWC
      have oPC := oPo (B - 1)
      rw [eC2] at oPC
      have wB := wrap_i64 (z := B - 1) (by omega) (by omega)
      have hhB : rI B 0 20000 = true := by simp [rI]; omega
      have b0 : (B == 0) = false := by simpa using hB0
      have bh : decide (B ≤ h) = false := by simp; omega
      clear oPo oW2 hwayB hwayC hlow eB eC1 eC2
      simp only [Craft.c, AirW.c] at *
      refine pure_of_wc (rs := [.tmp 12]) (m := 301) [(1, [(56, false, false, [])]), (3, [(11, false, false, [])]), (18, [(15, false, false, [])])] nI_ok (by kernel_rfl) Try.func4 rfl (by kernel_rfl) rfl rfl (by kernel_rfl) ?_
      simp only [RT, FS, ↓RE, okR, argEnv, Nat.reduceAdd, Nat.reduceSub, Nat.reduceLT, Nat.reduceLeDiff, Nat.reduceEqDiff, reduceIte, oS, oT, oA, z1, gInt1_eq, ex_tup, intL_len, Bool.and_true, Bool.not_true, Bool.not_false, Int.reduceBEq, Int.reduceBNe, beq_self_eq_true, bne_self_eq_false, Bool.and_self, decide_true, decide_false, q36, hh, q1, q2, i0, oC0, wl, il, oC1, oN, hNl, oW1, oPh]
      refine loopV (ι := Nat) nI_ok [(1, [(56, false, false, [])]), (3, [(11, false, false, [])]), (18, [(15, false, false, [])])] (fun i => [(3, .int .i64 w), (4, .int .i64 h), (5, .sl (intL ot)), (6, .ptr 0 0), (7, .ptr 1 0), (8, .ptr 2 0), (13, .int .i64 frm), (14, .int .i64 to), (15, .sl (intL NF)), (17, .nils), (19, .int .i64 5), (24, .int .i64 (i : Int))])
        (fun i => [(2, .box a.c), (1, .box l.c), (0, .box c.c)]) 3 (fun i => i = 0) (fun i => 0) 0 (by kernel_rfl) (by kernel_rfl) (by omega) ?_ ?_
      · simp [headW, heapW, envW, blkLt, D.ltL, D.lt, look, hget, hlc, Craft.c, AirW.c]
      intro i hi
      subst hi
      have hq0 : ((((0 : Nat) : Int)) < 0) = False := by simp
      simp only [RT, FS, ↓RE, okR, argEnv, Nat.reduceAdd, Nat.reduceSub, Nat.reduceLT, Nat.reduceLeDiff, Nat.reduceEqDiff, reduceIte, hq0, decide_false, hlc, Craft.c, AirW.c, gInt1_eq, oLo, ex_tup, z1, Bool.not_false, Bool.not_true, Int.reduceBEq, Int.reduceBNe, beq_self_eq_true, bne_self_eq_false, hhB, bh, b0, wB, oWB, oWC, oPC, binB_ne Fz.und_4, hff]
  | some v =>
    rw [hWs hhb hm] at oW1
    have hws := way_some k2 (allowB l (needsF c a (ceilI c w) l) h) hf hto hm
    have hge : lowF c a (ceilI c w) l frm to ≤ h := by
      refine Int.not_lt.1 fun hlt => ?_
      rw [hlow.2.1 h hhb.1 hlt] at hm; cases hm
    have hB : ¬20000 < lowF c a (ceilI c w) l frm to := by omega
    have oPPw := oPw h (alongA (costsF c a (ceilI c w) l to h) (stepsL l.wide l.deep) frm to) (by have := hws.2.2.1; unfold costsF; omega)
    have eP : PassD l (needsF c a (ceilI c w) l) (alongA (costsF c a (ceilI c w) l to h) (stepsL l.wide l.deep) frm to) frm to h = .tup [.int .i64 v.len, .bool true] := by
      rw [PassD]
      unfold costsF
      rw [if_pos hws.1, hws.2.1]
    rw [eP] at oPPw
    have hall : ∀ y ∈ alongA (costsF c a (ceilI c w) l to h) (stepsL l.wide l.deep) frm to, cellI l y ∧ allowB l (needsF c a (ceilI c w) l) h y = true := hws.2.2.2.1
    have hless : ∀ x, passB l (allowB l (needsF c a (ceilI c w) l) h) x frm to = true → lessL (lenP l x (x.length - 1)) x v.len (alongA (costsF c a (ceilI c w) l to h) (stepsL l.wide l.deep) frm to) = false := hws.2.2.2.2
    have hPl : (alongA (costsF c a (ceilI c w) l to h) (stepsL l.wide l.deep) frm to).length ≤ 203 := hws.2.2.1
    have eL := LowR_some h1 hf hto hB
    rw [eL] at oLo
    have oWB := oW2 (lowF c a (ceilI c w) l frm to)
    obtain ⟨xB, mB, eB⟩ := hwayB hB
    rw [eB] at oWB
    have hwayC := hwayC hB
    have hlb := hlow.1
    have hmm : (v.len != v.len) = false := by simp
    have hEs0 : ∀ y ∈ alongA (costsF c a (ceilI c w) l to h) (stepsL l.wide l.deep) frm to, ∃ e, EscD c l a w y h = .tup [.sl (intL e), .int .i64 0] := fun y hy => by
      obtain ⟨hc, hal⟩ := hall y hy
      obtain ⟨k, rfl⟩ : ∃ k : Nat, y = (k : Int) := ⟨y.toNat, by unfold cellI at hc; omega⟩
      simp only [allowB, Bool.and_eq_true, decide_eq_true_eq] at hal
      have hmy := many_yes k1 k3 w k2 (k := k) (by unfold cellI at hc; omega) hhb (by have := hal.2; simpa using this)
      have hcl : cellL l k = true := by unfold cellI at hc; simp only [cellL, Bool.and_eq_true, decide_eq_true_eq]; exact hc
      exact ⟨_, EscD_yes h1 hcl hh hmy.1⟩
    have oPh := oPo h
    generalize hPP : alongA (costsF c a (ceilI c w) l to h) (stepsL l.wide l.deep) frm to = PP at *
    have hEs : ∀ i, i < PP.length → ∃ e, EscD c l a w (nAt PP i) h = .tup [.sl (intL e), .int .i64 0] := fun i hi => hEs0 _ (List.mem_of_getElem? (nAt_get hi))
    have hhB : rI (lowF c a (ceilI c w) l frm to) 0 20000 = true := by simp [rI]; omega
    have bh : decide (lowF c a (ceilI c w) l frm to ≤ h) = true := by simpa using hge
    cases hown : passB l (allowB l (needsF c a (ceilI c w) l) h) ot frm to
    · have eO : PassD l (needsF c a (ceilI c w) l) ot frm to h = .tup [.int .i64 0, .bool false] := by rw [PassD, hown]; simp
      rw [eO] at oPh
      clear hless hws hall hEs0 hend eP eO hPn hWs hWn
      generalize hNF : needsF c a (ceilI c w) l = NF at *
      generalize lowF c a (ceilI c w) l frm to = B at *
      have oPP := oPPw
      simp only [Craft.c, AirW.c] at *
      refine pure_of_wc (rs := [.tmp 12]) (m := 301) [(1, [(56, false, false, [])]), (3, [(11, false, false, [])]), (18, [(15, false, false, [])])] nI_ok (by kernel_rfl) Try.func4 rfl (by kernel_rfl) rfl rfl (by kernel_rfl) ?_
      simp only [RT, FS, ↓RE, okR, argEnv, Nat.reduceAdd, Nat.reduceSub, Nat.reduceLT, Nat.reduceLeDiff, Nat.reduceEqDiff, reduceIte, oS, oT, oA, z1, gInt1_eq, ex_tup, intL_len, Bool.and_true, Bool.not_true, Bool.not_false, Int.reduceBEq, Int.reduceBNe, beq_self_eq_true, bne_self_eq_false, Bool.and_self, decide_true, decide_false, q36, hh, q1, q2, i0, oC0, wl, il, oC1, oN, hNl, oW1, oPh, oPP, hmm]
      refine loopV (ι := Nat) nI_ok [(1, [(56, false, false, [])]), (3, [(11, false, false, [])]), (18, [(15, false, false, [])])] (fun i => [(3, .int .i64 w), (4, .int .i64 h), (5, .sl (intL ot)), (6, .ptr 0 0), (7, .ptr 1 0), (8, .ptr 2 0), (13, .int .i64 frm), (14, .int .i64 to), (15, .sl (intL NF)), (17, .sl (intL PP)), (19, .int .i64 0), (24, .int .i64 (i : Int))])
        (fun i => [(2, .box a.c), (1, .box l.c), (0, .box c.c)]) 3 (fun i => i ≤ PP.length) (fun i => PP.length - i) 0 (by kernel_rfl) (by kernel_rfl) (by omega) ?_ ?_
      · simp [headW, heapW, envW, blkLt, D.ltL, D.lt, look, hget, hlc, Craft.c, AirW.c]
      intro i hi
      rcases Nat.lt_or_ge i PP.length with hlt | hge
      · have hq : ((i : Int) < (PP.length : Int)) = True := by simp [hlt]
        have wi := wrap_i64 (z := (i : Int) + 1) (by omega) (by omega)
        have ixi := sI_ix (nAt_get hlt)
        obtain ⟨ei, he⟩ := hEs i hlt
        have oEi := oE (nAt PP i)
        rw [he] at oEi
        simp only [RT, FS, ↓RE, okR, argEnv, Nat.reduceAdd, Nat.reduceSub, Nat.reduceLT, Nat.reduceLeDiff, Nat.reduceEqDiff, reduceIte, intL_len, hq, decide_true, ixi, hlc, Craft.c, AirW.c, oEi, ex_tup, wi, Int.reduceBEq, Int.reduceBNe, beq_self_eq_true, bne_self_eq_false]
        exact ⟨i + 1, by omega, by omega, by simp [headW, heapW, envW, blkLt, D.ltL, D.lt, look, hget, hlc, Craft.c, AirW.c]⟩
      have hq : ((i : Int) < (PP.length : Int)) = False := by simp; omega
      by_cases hB0 : B = 0
      · have b0 : (B == 0) = true := by simpa using hB0
        simp only [RT, FS, ↓RE, okR, argEnv, Nat.reduceAdd, Nat.reduceSub, Nat.reduceLT, Nat.reduceLeDiff, Nat.reduceEqDiff, reduceIte, intL_len, hq, decide_false, hlc, Craft.c, AirW.c, gInt1_eq, oLo, ex_tup, z1, Bool.not_false, Bool.not_true, Int.reduceBEq, Int.reduceBNe, beq_self_eq_true, bne_self_eq_false, hhB, bh, b0, oWB, binB_ne Fz.und_4, htt]
      · have b0 : (B == 0) = false := by simpa using hB0
        obtain ⟨eC1, eC2⟩ := hwayC hB0
        have oWC := oW2 (B - 1)
        rw [eC1] at oWC
        have oPC := oPo (B - 1)
        rw [eC2] at oPC
        have wB := wrap_i64 (z := B - 1) (by omega) (by omega)
        simp only [RT, FS, ↓RE, okR, argEnv, Nat.reduceAdd, Nat.reduceSub, Nat.reduceLT, Nat.reduceLeDiff, Nat.reduceEqDiff, reduceIte, intL_len, hq, decide_false, hlc, Craft.c, AirW.c, gInt1_eq, oLo, ex_tup, z1, Bool.not_false, Bool.not_true, Int.reduceBEq, Int.reduceBNe, beq_self_eq_true, bne_self_eq_false, hhB, bh, b0, wB, oWB, oWC, oPC, binB_ne Fz.und_4, htt]
    · have eO : PassD l (needsF c a (ceilI c w) l) ot frm to h = .tup [.int .i64 (lenP l ot (ot.length - 1)), .bool true] := by rw [PassD, if_pos hown]
      rw [eO] at oPh
      have oLs := gLess_eq (lenP l ot (ot.length - 1)) v.len hol (b := PP) (by omega)
      rw [hless ot hown] at oLs
      clear hless hws hall hEs0 hend eP eO hPn hWs hWn
      generalize hNF : needsF c a (ceilI c w) l = NF at *
      generalize lowF c a (ceilI c w) l frm to = B at *
      have oPP := oPPw
      simp only [Craft.c, AirW.c] at *
      refine pure_of_wc (rs := [.tmp 12]) (m := 301) [(1, [(56, false, false, [])]), (3, [(11, false, false, [])]), (18, [(15, false, false, [])])] nI_ok (by kernel_rfl) Try.func4 rfl (by kernel_rfl) rfl rfl (by kernel_rfl) ?_
      simp only [RT, FS, ↓RE, okR, argEnv, Nat.reduceAdd, Nat.reduceSub, Nat.reduceLT, Nat.reduceLeDiff, Nat.reduceEqDiff, reduceIte, oS, oT, oA, z1, gInt1_eq, ex_tup, intL_len, Bool.and_true, Bool.not_true, Bool.not_false, Int.reduceBEq, Int.reduceBNe, beq_self_eq_true, bne_self_eq_false, Bool.and_self, decide_true, decide_false, q36, hh, q1, q2, i0, oC0, wl, il, oC1, oN, hNl, oW1, oPh, oPP, hmm, oLs]
      refine loopV (ι := Nat) nI_ok [(1, [(56, false, false, [])]), (3, [(11, false, false, [])]), (18, [(15, false, false, [])])] (fun i => [(3, .int .i64 w), (4, .int .i64 h), (5, .sl (intL ot)), (6, .ptr 0 0), (7, .ptr 1 0), (8, .ptr 2 0), (13, .int .i64 frm), (14, .int .i64 to), (15, .sl (intL NF)), (17, .sl (intL PP)), (19, .int .i64 0), (24, .int .i64 (i : Int))])
        (fun i => [(2, .box a.c), (1, .box l.c), (0, .box c.c)]) 3 (fun i => i ≤ PP.length) (fun i => PP.length - i) 0 (by kernel_rfl) (by kernel_rfl) (by omega) ?_ ?_
      · simp [headW, heapW, envW, blkLt, D.ltL, D.lt, look, hget, hlc, Craft.c, AirW.c]
      intro i hi
      rcases Nat.lt_or_ge i PP.length with hlt | hge
      · have hq : ((i : Int) < (PP.length : Int)) = True := by simp [hlt]
        have wi := wrap_i64 (z := (i : Int) + 1) (by omega) (by omega)
        have ixi := sI_ix (nAt_get hlt)
        obtain ⟨ei, he⟩ := hEs i hlt
        have oEi := oE (nAt PP i)
        rw [he] at oEi
        simp only [RT, FS, ↓RE, okR, argEnv, Nat.reduceAdd, Nat.reduceSub, Nat.reduceLT, Nat.reduceLeDiff, Nat.reduceEqDiff, reduceIte, intL_len, hq, decide_true, ixi, hlc, Craft.c, AirW.c, oEi, ex_tup, wi, Int.reduceBEq, Int.reduceBNe, beq_self_eq_true, bne_self_eq_false]
        exact ⟨i + 1, by omega, by omega, by simp [headW, heapW, envW, blkLt, D.ltL, D.lt, look, hget, hlc, Craft.c, AirW.c]⟩
      have hq : ((i : Int) < (PP.length : Int)) = False := by simp; omega
      by_cases hB0 : B = 0
      · have b0 : (B == 0) = true := by simpa using hB0
        simp only [RT, FS, ↓RE, okR, argEnv, Nat.reduceAdd, Nat.reduceSub, Nat.reduceLT, Nat.reduceLeDiff, Nat.reduceEqDiff, reduceIte, intL_len, hq, decide_false, hlc, Craft.c, AirW.c, gInt1_eq, oLo, ex_tup, z1, Bool.not_false, Bool.not_true, Int.reduceBEq, Int.reduceBNe, beq_self_eq_true, bne_self_eq_false, hhB, bh, b0, oWB, binB_ne Fz.und_4, htt]
      · have b0 : (B == 0) = false := by simpa using hB0
        obtain ⟨eC1, eC2⟩ := hwayC hB0
        have oWC := oW2 (B - 1)
        rw [eC1] at oWC
        have oPC := oPo (B - 1)
        rw [eC2] at oPC
        have wB := wrap_i64 (z := B - 1) (by omega) (by omega)
        simp only [RT, FS, ↓RE, okR, argEnv, Nat.reduceAdd, Nat.reduceSub, Nat.reduceLT, Nat.reduceLeDiff, Nat.reduceEqDiff, reduceIte, intL_len, hq, decide_false, hlc, Craft.c, AirW.c, gInt1_eq, oLo, ex_tup, z1, Bool.not_false, Bool.not_true, Int.reduceBEq, Int.reduceBNe, beq_self_eq_true, bne_self_eq_false, hhB, bh, b0, wB, oWB, oWC, oPC, binB_ne Fz.und_4, htt]
theorem runRivals_pure : ∀ Ds, TyL Try.prog Try.f4.params.toList Ds → Pure Try.prog 4 Ds (.bool true) := by
  intro Ds h
  rw [Try.params4] at h
  match Ds, h with
  | [_, _, _, _, _, _], ⟨⟨n0, _, h0, e0⟩, ⟨n1, _, h1, e1⟩, ⟨n2, _, h2, e2⟩, ⟨n3, _, h3, e3⟩, ⟨n4, _, h4, e4⟩, ⟨n5, _, h5, e5⟩, _⟩ =>
    rw [Try.underlying24] at e0
    rw [Try.underlying28] at e1
    rw [Try.underlying32] at e2
    rw [Fz.und_3] at e3
    rw [Fz.und_3] at e4
    rw [Fz.und_25] at e5
    dsimp only at e0 e1 e2 e3 e4 e5
    obtain ⟨c, rfl, hl⟩ := tyCraft h0
    obtain ⟨l, rfl, ll⟩ := tyLand h1
    obtain ⟨a, rfl⟩ := tyAir h2
    obtain ⟨x3, rfl, _⟩ := tyInt Fz.und_3 h3
    obtain ⟨x4, rfl, _⟩ := tyInt Fz.und_3 h4
    obtain ⟨x5, rfl, y5⟩ := tyInts h5
    subst e0; subst e1; subst e2; cases e3; cases e4; cases e5
    exact runRivals_at c hl l ll a x3 x4 x5 y5
end Go.Sx
