/- Own work: contracts of functions, used in the proof of a law. -/
import Derived.Test.YthljonnokmkagaaSxE41r
set_option linter.unusedVariables false
set_option linter.unusedSimpArgs false
namespace Go.Sx
open Go.Proofs
set_option maxRecDepth 10000

theorem RunBD_ok {c : Craft} (hc : CraftOk c) {k : Int} (hk : kindB k = true) {w al wv : SpI} (hw : rS w.lo w.hi 0 100000 = true) (hcd : condB al wv = true) :
    RunBD c k w al wv = match sayO (tabOf c k) w.hi with
      | none => .tup [.agg [.int .i64 0, .int .i64 0], .int .i64 7]
      | some hi => .tup [.agg (boundsI c ⟨(sayO (tabOf c k) w.lo).getD 0, hi⟩ al wv).c, .int .i64 0] := by
  simp only [RunBD, BoundsR, hc.b, hk, hw, hcd, Bool.and_self, if_true]
  cases sayO (tabOf c k) w.hi <;> rfl
def LenD (c : Craft) (k w al wv : Int) : D := .tup [.int .i64 (LenR c k w al wv).1, .int .i64 (LenR c k w al wv).2]
theorem LenD_ok {c : Craft} (hc : CraftOk c) {k w al wv m : Int} (h : lenFine k w al wv = true) (hm : sayO (tabOf c k) w = some m) : LenD c k w al wv = .tup [.int .i64 (lenI c m al wv), .int .i64 0] := by
  rw [LenD, LenR_fine c hc.n.gr k w al wv (by rw [hc.b, h]; rfl), hm]

set_option maxHeartbeats 16000000 in
theorem runFits_at (c : Craft) (hl : CraftL c) (k m : Int) (w al wv : SpI) (l : List Int) (hll : l.length ≤ 9223372036854775807) (light : Int) :
    Pure Try.prog 9 [.agg c.c, .int .i64 k, .int .i64 m, .agg w.c, .agg al.c, .agg wv.c, .sl (intL l), .int .i64 light] (.bool true) := by
  have oS := gC1_eq (fun c => .bool (shortC c)) hl
  have oC := gCr_eq hl
  have oP := gPct_eq hll
  have z1 := cstO_eq [] (.bool true)
  have eC : condB ⟨al.lo, al.hi⟩ ⟨wv.lo, wv.hi⟩ = condB al wv := rfl
  have oB := fun w => gBnd_eq (ok := fun c _ => CraftL c) RunBD c k w al wv hl
  have oH := gHv_eq (ok := fun c _ => CraftL c) RunHD c k m al wv hl
  have oL := fun w al wv => gC5_eq (ok := fun c _ => CraftL c) (fun c k w al wv => .tup [.int .i64 (LenR c k w al wv).1, .int .i64 (LenR c k w al wv).2]) k w al wv hl
  have oT := gTabO_eq c k
  have hv2 : ∀ {r : Int × Int} {x e : Int}, r = (x, e) → D.tup [.int .i64 r.1, .int .i64 r.2] = .tup [.int .i64 x, .int .i64 e] := by rintro _ _ _ rfl; rfl
  have oL' : ∀ {w al wv : Int} {r : D}, LenD c k w al wv = r → qLen [.agg c.c, .int .i64 k, .int .i64 w, .int .i64 al, .int .i64 wv] = some r := fun {w al wv r} h => (oL w al wv).trans (congrArg some h)
  cases hs : shortC c
  · rw [hs] at oS
    simp only [Craft.c, SpI.c] at *
    refine pure_of_wc (rs := [.tmp 16]) (m := 230) [(3, [(18, false, false, [])]), (4, [(11, false, false, [])])] e11_ok (by kernel_rfl) Try.func9 rfl (by kernel_rfl) rfl rfl (by kernel_rfl) ?_
    simp only [RT, FS, ↓RE, okR, argEnv, Nat.reduceAdd, Nat.reduceSub, Nat.reduceLT, Nat.reduceLeDiff, Nat.reduceEqDiff, reduceIte, oS, z1, oC, oP, gKi_eq, gSp_eq, gInt1_eq, eC, intL_len, ex_tup, build_span0, Bool.and_true, Bool.not_true, Int.reduceBEq, Int.reduceBNe, beq_self_eq_true, bne_self_eq_false, Bool.and_self, decide_true, decide_false]
  rw [hs] at oS
  cases hb : craftB c
  · rw [hb] at oC
    simp only [Craft.c, SpI.c] at *
    refine pure_of_wc (rs := [.tmp 16]) (m := 230) [(3, [(18, false, false, [])]), (4, [(11, false, false, [])])] e11_ok (by kernel_rfl) Try.func9 rfl (by kernel_rfl) rfl rfl (by kernel_rfl) ?_
    simp only [RT, FS, ↓RE, okR, argEnv, Nat.reduceAdd, Nat.reduceSub, Nat.reduceLT, Nat.reduceLeDiff, Nat.reduceEqDiff, reduceIte, oS, z1, oC, oP, gKi_eq, gSp_eq, gInt1_eq, eC, intL_len, ex_tup, build_span0, Bool.and_true, Bool.not_true, Int.reduceBEq, Int.reduceBNe, beq_self_eq_true, bne_self_eq_false, Bool.and_self, decide_true, decide_false]
  rw [hb] at oC
  have hc := craft_ok hl hb
  cases hk : kindB k
  · simp only [Craft.c, SpI.c] at *
    refine pure_of_wc (rs := [.tmp 16]) (m := 230) [(3, [(18, false, false, [])]), (4, [(11, false, false, [])])] e11_ok (by kernel_rfl) Try.func9 rfl (by kernel_rfl) rfl rfl (by kernel_rfl) ?_
    simp only [RT, FS, ↓RE, okR, argEnv, Nat.reduceAdd, Nat.reduceSub, Nat.reduceLT, Nat.reduceLeDiff, Nat.reduceEqDiff, reduceIte, oS, z1, oC, oP, gKi_eq, gSp_eq, gInt1_eq, eC, intL_len, ex_tup, build_span0, Bool.and_true, Bool.not_true, Int.reduceBEq, Int.reduceBNe, beq_self_eq_true, bne_self_eq_false, Bool.and_self, decide_true, decide_false, hk]
  cases hsp : (rS w.lo w.hi 0 100000 && condB al wv)
  · simp only [Craft.c, SpI.c] at *
    refine pure_of_wc (rs := [.tmp 16]) (m := 230) [(3, [(18, false, false, [])]), (4, [(11, false, false, [])])] e11_ok (by kernel_rfl) Try.func9 rfl (by kernel_rfl) rfl rfl (by kernel_rfl) ?_
    simp only [RT, FS, ↓RE, okR, argEnv, Nat.reduceAdd, Nat.reduceSub, Nat.reduceLT, Nat.reduceLeDiff, Nat.reduceEqDiff, reduceIte, oS, z1, oC, oP, gKi_eq, gSp_eq, gInt1_eq, eC, intL_len, ex_tup, build_span0, Bool.and_true, Bool.not_true, Int.reduceBEq, Int.reduceBNe, beq_self_eq_true, bne_self_eq_false, Bool.and_self, decide_true, decide_false, hk, hsp]
  by_cases hlen : l.length = 3
  rotate_left
  · have q3 : ((l.length : Int) != 3) = true := by simp; omega
    simp only [Craft.c, SpI.c] at *
    refine pure_of_wc (rs := [.tmp 16]) (m := 230) [(3, [(18, false, false, [])]), (4, [(11, false, false, [])])] e11_ok (by kernel_rfl) Try.func9 rfl (by kernel_rfl) rfl rfl (by kernel_rfl) ?_
    simp only [RT, FS, ↓RE, okR, argEnv, Nat.reduceAdd, Nat.reduceSub, Nat.reduceLT, Nat.reduceLeDiff, Nat.reduceEqDiff, reduceIte, oS, z1, oC, oP, gKi_eq, gSp_eq, gInt1_eq, eC, intL_len, ex_tup, build_span0, Bool.and_true, Bool.not_true, Int.reduceBEq, Int.reduceBNe, beq_self_eq_true, bne_self_eq_false, Bool.and_self, decide_true, decide_false, hk, hsp, q3]
  have q3 : ((l.length : Int) != 3) = false := by simp; omega
  cases hp : l.all fun x => rI x 0 100
  · rw [hp] at oP
    simp only [Craft.c, SpI.c] at *
    refine pure_of_wc (rs := [.tmp 16]) (m := 230) [(3, [(18, false, false, [])]), (4, [(11, false, false, [])])] e11_ok (by kernel_rfl) Try.func9 rfl (by kernel_rfl) rfl rfl (by kernel_rfl) ?_
    simp only [RT, FS, ↓RE, okR, argEnv, Nat.reduceAdd, Nat.reduceSub, Nat.reduceLT, Nat.reduceLeDiff, Nat.reduceEqDiff, reduceIte, oS, z1, oC, oP, gKi_eq, gSp_eq, gInt1_eq, eC, intL_len, ex_tup, build_span0, Bool.and_true, Bool.not_true, Int.reduceBEq, Int.reduceBNe, beq_self_eq_true, bne_self_eq_false, Bool.and_self, decide_true, decide_false, hk, hsp, q3]
  rw [hp] at oP
  by_cases hm1 : m < 0
  · simp only [Craft.c, SpI.c] at *
    refine pure_of_wc (rs := [.tmp 16]) (m := 230) [(3, [(18, false, false, [])]), (4, [(11, false, false, [])])] e11_ok (by kernel_rfl) Try.func9 rfl (by kernel_rfl) rfl rfl (by kernel_rfl) ?_
    simp only [RT, FS, ↓RE, okR, argEnv, Nat.reduceAdd, Nat.reduceSub, Nat.reduceLT, Nat.reduceLeDiff, Nat.reduceEqDiff, reduceIte, oS, z1, oC, oP, gKi_eq, gSp_eq, gInt1_eq, eC, intL_len, ex_tup, build_span0, Bool.and_true, Bool.not_true, Int.reduceBEq, Int.reduceBNe, beq_self_eq_true, bne_self_eq_false, Bool.and_self, decide_true, decide_false, hk, hsp, q3, hm1]
  by_cases hm2 : 20000 < m
  · simp only [Craft.c, SpI.c] at *
    refine pure_of_wc (rs := [.tmp 16]) (m := 230) [(3, [(18, false, false, [])]), (4, [(11, false, false, [])])] e11_ok (by kernel_rfl) Try.func9 rfl (by kernel_rfl) rfl rfl (by kernel_rfl) ?_
    simp only [RT, FS, ↓RE, okR, argEnv, Nat.reduceAdd, Nat.reduceSub, Nat.reduceLT, Nat.reduceLeDiff, Nat.reduceEqDiff, reduceIte, oS, z1, oC, oP, gKi_eq, gSp_eq, gInt1_eq, eC, intL_len, ex_tup, build_span0, Bool.and_true, Bool.not_true, Int.reduceBEq, Int.reduceBNe, beq_self_eq_true, bne_self_eq_false, Bool.and_self, decide_true, decide_false, hk, hsp, q3, hm1, hm2]
  cases hlt : rI light 0 100000
  · simp only [Craft.c, SpI.c] at *
    refine pure_of_wc (rs := [.tmp 16]) (m := 230) [(3, [(18, false, false, [])]), (4, [(11, false, false, [])])] e11_ok (by kernel_rfl) Try.func9 rfl (by kernel_rfl) rfl rfl (by kernel_rfl) ?_
    simp only [RT, FS, ↓RE, okR, argEnv, Nat.reduceAdd, Nat.reduceSub, Nat.reduceLT, Nat.reduceLeDiff, Nat.reduceEqDiff, reduceIte, oS, z1, oC, oP, gKi_eq, gSp_eq, gInt1_eq, eC, intL_len, ex_tup, build_span0, Bool.and_true, Bool.not_true, Int.reduceBEq, Int.reduceBNe, beq_self_eq_true, bne_self_eq_false, Bool.and_self, decide_true, decide_false, hk, hsp, q3, hm1, hm2, hlt]
  obtain ⟨p0, p1, p2, rfl⟩ := list3 hlen
  simp only [List.all_cons, List.all_nil, Bool.and_true, Bool.and_eq_true] at hp
  have b0 := rI_le hp.1
  have b1 := rI_le hp.2.1
  have b2 := rI_le hp.2.2
  have hsp2 := hsp
  simp only [Bool.and_eq_true] at hsp2
  obtain ⟨hw, hcd⟩ := hsp2
  have hw' := hw
  have hcd' := hcd
  simp only [condB, rS, Bool.and_eq_true, decide_eq_true_eq] at hcd' hw'
  have oP0 := gPart_eq (s := w) ⟨by omega, by omega, by omega⟩ b0
  have oP1 := gPart_eq (s := al) ⟨by omega, by omega, by omega⟩ b1
  have oP2 := gPart_eq (s := wv) ⟨by omega, by omega, by omega⟩ b2
  have hbx := partS_in (s := w) (by omega) b0
  have hby := partS_in (s := al) (by omega) b1
  have hbz := partS_in (s := wv) (by omega) b2
  generalize partS w p0 = x at *
  generalize partS al p1 = y at *
  generalize partS wv p2 = z at *
  have q3 : (((3 : Nat) : Int) != 3) = false := rfl
  have i0 : ∀ h, indexAddrD Try.prog h 25 (.sl (intL [p0, p1, p2])) (.int .i64 0) = some (.ref [.int .i64 p0] 0) := fun h => sI_ix (i := 0) rfl h
  have i1 : ∀ h, indexAddrD Try.prog h 25 (.sl (intL [p0, p1, p2])) (.int .i64 1) = some (.ref [.int .i64 p1] 0) := fun h => sI_ix (i := 1) rfl h
  have i2 : ∀ h, indexAddrD Try.prog h 25 (.sl (intL [p0, p1, p2])) (.int .i64 2) = some (.ref [.int .i64 p2] 0) := fun h => sI_ix (i := 2) rfl h
  have hmr : rI m 0 20000 = true := by simp [rI]; omega
  have fineI : ∀ v, rI v 0 100000 = true → lenFine k v y z = true := fun v hv => by simp [lenFine, hk, hv]; simp [rI]; omega
  have oSay := gSays_eq (l := tabOf c k) (by have := (hc.tab k).2.1; omega) w.hi
  cases hsy : sayO (tabOf c k) w.hi with
  | none =>
    simp only [hsy, Option.getD_none, Option.isSome_none] at oSay
    rcases heav_law2 hc hk hmr hcd with ⟨hq, m0, hs0, hS0⟩ | ⟨h, m0, hq, hh, hs0, hS0, hnx⟩
    · rw [show RunHD c k m al wv = _ from hv2 hq] at oH
      have oB0 := oB ⟨0, 0⟩
      rw [RunBD_ok hc hk (show rS (SpI.mk 0 0).lo (SpI.mk 0 0).hi 0 100000 = true by decide) hcd] at oB0
      simp only [hs0, Option.getD_some] at oB0
      clear oB
      simp only [Craft.c, SpI.c] at *
      refine pure_of_wc (rs := [.tmp 16]) (m := 230) [(3, [(18, false, false, [])]), (4, [(11, false, false, [])])] e11_ok (by kernel_rfl) Try.func9 rfl (by kernel_rfl) rfl rfl (by kernel_rfl) ?_
      simp only [RT, FS, ↓RE, okR, argEnv, Nat.reduceAdd, Nat.reduceSub, Nat.reduceLT, Nat.reduceLeDiff, Nat.reduceEqDiff, reduceIte, oS, z1, oC, oP, gKi_eq, gSp_eq, gInt1_eq, eC, intL_len, ex_tup, build_span0, Bool.and_true, Bool.not_true, Int.reduceBEq, Int.reduceBNe, beq_self_eq_true, bne_self_eq_false, Bool.and_self, decide_true, decide_false, hk, hsp, q3, hm1, hm2, hlt, oP0, oP1, oP2, i0, i1, i2, oT, oSay, oH, oB0, hS0]
    · rw [show RunHD c k m al wv = _ from hv2 hq] at oH
      have w1 := wrap_i64 (z := h + 1) (by omega) (by omega)
      by_cases hle : light ≤ h
      · obtain ⟨m2, hm2s, hm2l⟩ := sayO_up (hc.tab k).1 hle hs0
        have oLl := oL' (LenD_ok hc (fineI _ hlt) hm2s)
        have hN3 : ¬ m < lenI c m2 y z := by have := bounds_in hc.n (Int.le_refl m2) hm2l hby hbz; have := (bounds_in hc.n (ml := m0) (mh := m0) (m := m0) (Int.le_refl _) (Int.le_refl _) hby hbz).2; have := lenI_mono_m c hc.n hm2l y z; omega
        by_cases hh1 : h = 100000
        · have hW1 : rI (h + 1) 0 100000 = false := by simp [rI]; omega
          have hE : (h == 100000) = true := by simpa using hh1
          clear oB
          simp only [Craft.c, SpI.c] at *
          refine pure_of_wc (rs := [.tmp 16]) (m := 230) [(3, [(18, false, false, [])]), (4, [(11, false, false, [])])] e11_ok (by kernel_rfl) Try.func9 rfl (by kernel_rfl) rfl rfl (by kernel_rfl) ?_
          simp only [RT, FS, ↓RE, okR, argEnv, Nat.reduceAdd, Nat.reduceSub, Nat.reduceLT, Nat.reduceLeDiff, Nat.reduceEqDiff, reduceIte, oS, z1, oC, oP, gKi_eq, gSp_eq, gInt1_eq, eC, intL_len, ex_tup, build_span0, Bool.and_true, Bool.not_true, Int.reduceBEq, Int.reduceBNe, beq_self_eq_true, bne_self_eq_false, Bool.and_self, decide_true, decide_false, hk, hsp, q3, hm1, hm2, hlt, oP0, oP1, oP2, i0, i1, i2, oT, oSay, oH, hle, oLl, hN3, w1, hW1, hE]
        have hW1 : rI (h + 1) 0 100000 = true := by simp [rI]; omega
        have oB1 := oB ⟨h + 1, h + 1⟩
        rw [RunBD_ok hc hk (show rS (SpI.mk (h + 1) (h + 1)).lo (SpI.mk (h + 1) (h + 1)).hi 0 100000 = true by simp [rS]; omega) hcd] at oB1
        clear oB
        rcases hnx with hnx | ⟨m1, hnx, hS1⟩
        · simp only [hnx] at oB1
          simp only [Craft.c, SpI.c] at *
          refine pure_of_wc (rs := [.tmp 16]) (m := 230) [(3, [(18, false, false, [])]), (4, [(11, false, false, [])])] e11_ok (by kernel_rfl) Try.func9 rfl (by kernel_rfl) rfl rfl (by kernel_rfl) ?_
          simp only [RT, FS, ↓RE, okR, argEnv, Nat.reduceAdd, Nat.reduceSub, Nat.reduceLT, Nat.reduceLeDiff, Nat.reduceEqDiff, reduceIte, oS, z1, oC, oP, gKi_eq, gSp_eq, gInt1_eq, eC, intL_len, ex_tup, build_span0, Bool.and_true, Bool.not_true, Int.reduceBEq, Int.reduceBNe, beq_self_eq_true, bne_self_eq_false, Bool.and_self, decide_true, decide_false, hk, hsp, q3, hm1, hm2, hlt, oP0, oP1, oP2, i0, i1, i2, oT, oSay, oH, hle, oLl, hN3, w1, hW1, oB1]
        · simp only [hnx, Option.getD_some] at oB1
          simp only [Craft.c, SpI.c] at *
          refine pure_of_wc (rs := [.tmp 16]) (m := 230) [(3, [(18, false, false, [])]), (4, [(11, false, false, [])])] e11_ok (by kernel_rfl) Try.func9 rfl (by kernel_rfl) rfl rfl (by kernel_rfl) ?_
          simp only [RT, FS, ↓RE, okR, argEnv, Nat.reduceAdd, Nat.reduceSub, Nat.reduceLT, Nat.reduceLeDiff, Nat.reduceEqDiff, reduceIte, oS, z1, oC, oP, gKi_eq, gSp_eq, gInt1_eq, eC, intL_len, ex_tup, build_span0, Bool.and_true, Bool.not_true, Int.reduceBEq, Int.reduceBNe, beq_self_eq_true, bne_self_eq_false, Bool.and_self, decide_true, decide_false, hk, hsp, q3, hm1, hm2, hlt, oP0, oP1, oP2, i0, i1, i2, oT, oSay, oH, hle, oLl, hN3, w1, hW1, oB1, hS1]
      by_cases hh1 : h = 100000
      · have hW1 : rI (h + 1) 0 100000 = false := by simp [rI]; omega
        have hE : (h == 100000) = true := by simpa using hh1
        clear oB
        simp only [Craft.c, SpI.c] at *
        refine pure_of_wc (rs := [.tmp 16]) (m := 230) [(3, [(18, false, false, [])]), (4, [(11, false, false, [])])] e11_ok (by kernel_rfl) Try.func9 rfl (by kernel_rfl) rfl rfl (by kernel_rfl) ?_
        simp only [RT, FS, ↓RE, okR, argEnv, Nat.reduceAdd, Nat.reduceSub, Nat.reduceLT, Nat.reduceLeDiff, Nat.reduceEqDiff, reduceIte, oS, z1, oC, oP, gKi_eq, gSp_eq, gInt1_eq, eC, intL_len, ex_tup, build_span0, Bool.and_true, Bool.not_true, Int.reduceBEq, Int.reduceBNe, beq_self_eq_true, bne_self_eq_false, Bool.and_self, decide_true, decide_false, hk, hsp, q3, hm1, hm2, hlt, oP0, oP1, oP2, i0, i1, i2, oT, oSay, oH, hle, w1, hW1, hE]
      have hW1 : rI (h + 1) 0 100000 = true := by simp [rI]; omega
      have oB1 := oB ⟨h + 1, h + 1⟩
      rw [RunBD_ok hc hk (show rS (SpI.mk (h + 1) (h + 1)).lo (SpI.mk (h + 1) (h + 1)).hi 0 100000 = true by simp [rS]; omega) hcd] at oB1
      clear oB
      rcases hnx with hnx | ⟨m1, hnx, hS1⟩
      · simp only [hnx] at oB1
        simp only [Craft.c, SpI.c] at *
        refine pure_of_wc (rs := [.tmp 16]) (m := 230) [(3, [(18, false, false, [])]), (4, [(11, false, false, [])])] e11_ok (by kernel_rfl) Try.func9 rfl (by kernel_rfl) rfl rfl (by kernel_rfl) ?_
        simp only [RT, FS, ↓RE, okR, argEnv, Nat.reduceAdd, Nat.reduceSub, Nat.reduceLT, Nat.reduceLeDiff, Nat.reduceEqDiff, reduceIte, oS, z1, oC, oP, gKi_eq, gSp_eq, gInt1_eq, eC, intL_len, ex_tup, build_span0, Bool.and_true, Bool.not_true, Int.reduceBEq, Int.reduceBNe, beq_self_eq_true, bne_self_eq_false, Bool.and_self, decide_true, decide_false, hk, hsp, q3, hm1, hm2, hlt, oP0, oP1, oP2, i0, i1, i2, oT, oSay, oH, hle, w1, hW1, oB1]
      · simp only [hnx, Option.getD_some] at oB1
        simp only [Craft.c, SpI.c] at *
        refine pure_of_wc (rs := [.tmp 16]) (m := 230) [(3, [(18, false, false, [])]), (4, [(11, false, false, [])])] e11_ok (by kernel_rfl) Try.func9 rfl (by kernel_rfl) rfl rfl (by kernel_rfl) ?_
        simp only [RT, FS, ↓RE, okR, argEnv, Nat.reduceAdd, Nat.reduceSub, Nat.reduceLT, Nat.reduceLeDiff, Nat.reduceEqDiff, reduceIte, oS, z1, oC, oP, gKi_eq, gSp_eq, gInt1_eq, eC, intL_len, ex_tup, build_span0, Bool.and_true, Bool.not_true, Int.reduceBEq, Int.reduceBNe, beq_self_eq_true, bne_self_eq_false, Bool.and_self, decide_true, decide_false, hk, hsp, q3, hm1, hm2, hlt, oP0, oP1, oP2, i0, i1, i2, oT, oSay, oH, hle, w1, hW1, oB1, hS1]
  | some mh =>
    simp only [hsy, Option.getD_some, Option.isSome_some] at oSay
    obtain ⟨mx, hmx, hmxh⟩ := sayO_up (hc.tab k).1 hbx.2 hsy
    obtain ⟨ml, hml, hmlx⟩ := sayO_up (hc.tab k).1 hbx.1 hmx
    have oBw := oB w
    rw [RunBD_ok hc hk hw hcd] at oBw
    simp only [hsy, hml, Option.getD_some] at oBw
    have oLx := oL' (LenD_ok hc (fineI x (by simp [rI]; omega)) hmx)
    have hbn := bounds_in hc.n hmlx hmxh hby hbz
    have hN1 : ¬ lenI c mx y z < (boundsI c ⟨ml, mh⟩ al wv).lo := by omega
    have hN2 : ¬ (boundsI c ⟨ml, mh⟩ al wv).hi < lenI c mx y z := by omega
    rcases heav_law2 hc hk hmr hcd with ⟨hq, m0, hs0, hS0⟩ | ⟨h, m0, hq, hh, hs0, hS0, hnx⟩
    · rw [show RunHD c k m al wv = _ from hv2 hq] at oH
      have oB0 := oB ⟨0, 0⟩
      rw [RunBD_ok hc hk (show rS (SpI.mk 0 0).lo (SpI.mk 0 0).hi 0 100000 = true by decide) hcd] at oB0
      simp only [hs0, Option.getD_some] at oB0
      clear oB
      simp only [Craft.c, SpI.c] at *
      refine pure_of_wc (rs := [.tmp 16]) (m := 230) [(3, [(18, false, false, [])]), (4, [(11, false, false, [])])] e11_ok (by kernel_rfl) Try.func9 rfl (by kernel_rfl) rfl rfl (by kernel_rfl) ?_
      simp only [RT, FS, ↓RE, okR, argEnv, Nat.reduceAdd, Nat.reduceSub, Nat.reduceLT, Nat.reduceLeDiff, Nat.reduceEqDiff, reduceIte, oS, z1, oC, oP, gKi_eq, gSp_eq, gInt1_eq, eC, intL_len, ex_tup, build_span0, Bool.and_true, Bool.not_true, Int.reduceBEq, Int.reduceBNe, beq_self_eq_true, bne_self_eq_false, Bool.and_self, decide_true, decide_false, hk, hsp, q3, hm1, hm2, hlt, oP0, oP1, oP2, i0, i1, i2, oT, oSay, oH, oBw, oLx, hN1, hN2, oB0, hS0]
    · rw [show RunHD c k m al wv = _ from hv2 hq] at oH
      have w1 := wrap_i64 (z := h + 1) (by omega) (by omega)
      by_cases hle : light ≤ h
      · obtain ⟨m2, hm2s, hm2l⟩ := sayO_up (hc.tab k).1 hle hs0
        have oLl := oL' (LenD_ok hc (fineI _ hlt) hm2s)
        have hN3 : ¬ m < lenI c m2 y z := by have := bounds_in hc.n (Int.le_refl m2) hm2l hby hbz; have := (bounds_in hc.n (ml := m0) (mh := m0) (m := m0) (Int.le_refl _) (Int.le_refl _) hby hbz).2; have := lenI_mono_m c hc.n hm2l y z; omega
        by_cases hh1 : h = 100000
        · have hW1 : rI (h + 1) 0 100000 = false := by simp [rI]; omega
          have hE : (h == 100000) = true := by simpa using hh1
          clear oB
          simp only [Craft.c, SpI.c] at *
          refine pure_of_wc (rs := [.tmp 16]) (m := 230) [(3, [(18, false, false, [])]), (4, [(11, false, false, [])])] e11_ok (by kernel_rfl) Try.func9 rfl (by kernel_rfl) rfl rfl (by kernel_rfl) ?_
          simp only [RT, FS, ↓RE, okR, argEnv, Nat.reduceAdd, Nat.reduceSub, Nat.reduceLT, Nat.reduceLeDiff, Nat.reduceEqDiff, reduceIte, oS, z1, oC, oP, gKi_eq, gSp_eq, gInt1_eq, eC, intL_len, ex_tup, build_span0, Bool.and_true, Bool.not_true, Int.reduceBEq, Int.reduceBNe, beq_self_eq_true, bne_self_eq_false, Bool.and_self, decide_true, decide_false, hk, hsp, q3, hm1, hm2, hlt, oP0, oP1, oP2, i0, i1, i2, oT, oSay, oH, oBw, oLx, hN1, hN2, hle, oLl, hN3, w1, hW1, hE]
        have hW1 : rI (h + 1) 0 100000 = true := by simp [rI]; omega
        have oB1 := oB ⟨h + 1, h + 1⟩
        rw [RunBD_ok hc hk (show rS (SpI.mk (h + 1) (h + 1)).lo (SpI.mk (h + 1) (h + 1)).hi 0 100000 = true by simp [rS]; omega) hcd] at oB1
        clear oB
        rcases hnx with hnx | ⟨m1, hnx, hS1⟩
        · simp only [hnx] at oB1
          simp only [Craft.c, SpI.c] at *
          refine pure_of_wc (rs := [.tmp 16]) (m := 230) [(3, [(18, false, false, [])]), (4, [(11, false, false, [])])] e11_ok (by kernel_rfl) Try.func9 rfl (by kernel_rfl) rfl rfl (by kernel_rfl) ?_
          simp only [RT, FS, ↓RE, okR, argEnv, Nat.reduceAdd, Nat.reduceSub, Nat.reduceLT, Nat.reduceLeDiff, Nat.reduceEqDiff, reduceIte, oS, z1, oC, oP, gKi_eq, gSp_eq, gInt1_eq, eC, intL_len, ex_tup, build_span0, Bool.and_true, Bool.not_true, Int.reduceBEq, Int.reduceBNe, beq_self_eq_true, bne_self_eq_false, Bool.and_self, decide_true, decide_false, hk, hsp, q3, hm1, hm2, hlt, oP0, oP1, oP2, i0, i1, i2, oT, oSay, oH, oBw, oLx, hN1, hN2, hle, oLl, hN3, w1, hW1, oB1]
        · simp only [hnx, Option.getD_some] at oB1
          simp only [Craft.c, SpI.c] at *
          refine pure_of_wc (rs := [.tmp 16]) (m := 230) [(3, [(18, false, false, [])]), (4, [(11, false, false, [])])] e11_ok (by kernel_rfl) Try.func9 rfl (by kernel_rfl) rfl rfl (by kernel_rfl) ?_
          simp only [RT, FS, ↓RE, okR, argEnv, Nat.reduceAdd, Nat.reduceSub, Nat.reduceLT, Nat.reduceLeDiff, Nat.reduceEqDiff, reduceIte, oS, z1, oC, oP, gKi_eq, gSp_eq, gInt1_eq, eC, intL_len, ex_tup, build_span0, Bool.and_true, Bool.not_true, Int.reduceBEq, Int.reduceBNe, beq_self_eq_true, bne_self_eq_false, Bool.and_self, decide_true, decide_false, hk, hsp, q3, hm1, hm2, hlt, oP0, oP1, oP2, i0, i1, i2, oT, oSay, oH, oBw, oLx, hN1, hN2, hle, oLl, hN3, w1, hW1, oB1, hS1]
      by_cases hh1 : h = 100000
      · have hW1 : rI (h + 1) 0 100000 = false := by simp [rI]; omega
        have hE : (h == 100000) = true := by simpa using hh1
        clear oB
        simp only [Craft.c, SpI.c] at *
        refine pure_of_wc (rs := [.tmp 16]) (m := 230) [(3, [(18, false, false, [])]), (4, [(11, false, false, [])])] e11_ok (by kernel_rfl) Try.func9 rfl (by kernel_rfl) rfl rfl (by kernel_rfl) ?_
        simp only [RT, FS, ↓RE, okR, argEnv, Nat.reduceAdd, Nat.reduceSub, Nat.reduceLT, Nat.reduceLeDiff, Nat.reduceEqDiff, reduceIte, oS, z1, oC, oP, gKi_eq, gSp_eq, gInt1_eq, eC, intL_len, ex_tup, build_span0, Bool.and_true, Bool.not_true, Int.reduceBEq, Int.reduceBNe, beq_self_eq_true, bne_self_eq_false, Bool.and_self, decide_true, decide_false, hk, hsp, q3, hm1, hm2, hlt, oP0, oP1, oP2, i0, i1, i2, oT, oSay, oH, oBw, oLx, hN1, hN2, hle, w1, hW1, hE]
      have hW1 : rI (h + 1) 0 100000 = true := by simp [rI]; omega
      have oB1 := oB ⟨h + 1, h + 1⟩
      rw [RunBD_ok hc hk (show rS (SpI.mk (h + 1) (h + 1)).lo (SpI.mk (h + 1) (h + 1)).hi 0 100000 = true by simp [rS]; omega) hcd] at oB1
      clear oB
      rcases hnx with hnx | ⟨m1, hnx, hS1⟩
      · simp only [hnx] at oB1
        simp only [Craft.c, SpI.c] at *
        refine pure_of_wc (rs := [.tmp 16]) (m := 230) [(3, [(18, false, false, [])]), (4, [(11, false, false, [])])] e11_ok (by kernel_rfl) Try.func9 rfl (by kernel_rfl) rfl rfl (by kernel_rfl) ?_
        simp only [RT, FS, ↓RE, okR, argEnv, Nat.reduceAdd, Nat.reduceSub, Nat.reduceLT, Nat.reduceLeDiff, Nat.reduceEqDiff, reduceIte, oS, z1, oC, oP, gKi_eq, gSp_eq, gInt1_eq, eC, intL_len, ex_tup, build_span0, Bool.and_true, Bool.not_true, Int.reduceBEq, Int.reduceBNe, beq_self_eq_true, bne_self_eq_false, Bool.and_self, decide_true, decide_false, hk, hsp, q3, hm1, hm2, hlt, oP0, oP1, oP2, i0, i1, i2, oT, oSay, oH, oBw, oLx, hN1, hN2, hle, w1, hW1, oB1]
      · simp only [hnx, Option.getD_some] at oB1
        simp only [Craft.c, SpI.c] at *
        refine pure_of_wc (rs := [.tmp 16]) (m := 230) [(3, [(18, false, false, [])]), (4, [(11, false, false, [])])] e11_ok (by kernel_rfl) Try.func9 rfl (by kernel_rfl) rfl rfl (by kernel_rfl) ?_
        simp only [RT, FS, ↓RE, okR, argEnv, Nat.reduceAdd, Nat.reduceSub, Nat.reduceLT, Nat.reduceLeDiff, Nat.reduceEqDiff, reduceIte, oS, z1, oC, oP, gKi_eq, gSp_eq, gInt1_eq, eC, intL_len, ex_tup, build_span0, Bool.and_true, Bool.not_true, Int.reduceBEq, Int.reduceBNe, beq_self_eq_true, bne_self_eq_false, Bool.and_self, decide_true, decide_false, hk, hsp, q3, hm1, hm2, hlt, oP0, oP1, oP2, i0, i1, i2, oT, oSay, oH, oBw, oLx, hN1, hN2, hle, w1, hW1, oB1, hS1]
theorem runFits_pure : ∀ Ds, TyL Try.prog Try.f9.params.toList Ds → Pure Try.prog 9 Ds (.bool true) := by
  intro Ds h
  rw [Try.params9] at h
  match Ds, h with
  | [_, _, _, _, _, _, _, _], ⟨⟨n, _, h1, e1⟩, ⟨n2, _, h2, e2⟩, ⟨n3, _, h3, e3⟩, ⟨n4, _, h4, e4⟩, ⟨n5, _, h5, e5⟩, ⟨n6, _, h6, e6⟩, ⟨n7, _, h7, e7⟩, ⟨n8, _, h8, e8⟩, _⟩ =>
    rw [Try.underlying24] at e1
    rw [Fz.und_71] at e2
    rw [Fz.und_3] at e3 e8
    rw [Try.underlying30] at e4 e5 e6
    rw [Fz.und_25] at e7
    dsimp only at e1 e2 e3 e4 e5 e6 e7 e8
    obtain ⟨c, rfl, hl⟩ := tyCraft h1
    obtain ⟨k, rfl, _⟩ := tyInt Fz.und_71 h2
    obtain ⟨m, rfl, _⟩ := tyInt Fz.und_3 h3
    obtain ⟨w, rfl⟩ := tySpR h4
    obtain ⟨al, rfl⟩ := tySpR h5
    obtain ⟨wv, rfl⟩ := tySpR h6
    obtain ⟨l, rfl, hll⟩ := tyInts h7
    obtain ⟨li, rfl, _⟩ := tyInt Fz.und_3 h8
    subst e1; cases e2; cases e3; subst e4; subst e5; subst e6; cases e7; cases e8
    exact runFits_at c hl k m w al wv l hll li
end Go.Sx
