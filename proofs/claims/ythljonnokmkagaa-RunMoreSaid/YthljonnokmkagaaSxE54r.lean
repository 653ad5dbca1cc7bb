/- Own work: contracts of functions, used in the proof of a law. -/
import Derived.Test.YthljonnokmkagaaSxEi
set_option linter.unusedVariables false
set_option linter.unusedSimpArgs false
namespace Go.Sx
open Go.Proofs
set_option maxRecDepth 10000

/-! RunMore -/
theorem landC (l : LandM) : l.c = [.int .i64 l.wide, .int .i64 l.deep, .sl (intL l.ground), .sl (boolL l.water), .int .i64 l.clear] := rfl
set_option maxHeartbeats 16000000 in
theorem runMore_at (c : Craft) (hl : CraftL c) (l : LandM) (ll : LandL l) (a : AirW) (w : Int) (wh : List Int) (hwl : wh.length ≤ 9223372036854775807) (x : Int) :
    Pure Try.prog 5 [.agg c.c, .agg l.c, .agg a.c, .int .i64 w, .sl (intL wh), .int .i64 x] (.bool true) := by
  have oS := gC1_eq (fun c => .bool (shortC c)) hl
  have oT := gL1_eq (fun l => .bool (tinyL l)) ll
  have oN := fun (l' : LandM) (ll' : LandL l') (a' : AirW) => gCLA_eq (β := Int) (fun c l a _ => okL c l a) rs1 (fun c l a w => NeedsR c l a w) rs1_inj (c := c) (l := l') (a := a') (b := w) ⟨hl, ll'⟩
  have oA := gCLA_eq (β := Int × Bool) (fun c l a _ => okL c l a) rs1b (fun c l a p => .int .i64 (startE c l a p.1 p.2)) rs1b_inj (c := c) (l := l) (a := a) (b := (w, true)) ⟨hl, ll⟩
  have oC := gL2_eq (fun l x => .bool (cellL l x)) ll x
  have oP := gPct_eq hwl
  have z1 := cstO_eq [] (.bool true)
  simp only [rs1, rs1b] at oN oA
  have hlc := landC l
  have oN1 := oN l ll a
  rw [hlc] at oT oC oA oN1 ⊢
  cases hs : shortC c
  · rw [hs] at oS
    simp only [Craft.c, AirW.c] at *
    refine pure_of_wc (rs := [.tmp 12]) (m := 227) [(1, [(47, false, false, [])]), (4, [(28, true, false, []), (1, false, false, [])]), (18, [(31, false, false, [])])] nC_ok (by kernel_rfl) Try.func5 rfl (by kernel_rfl) rfl rfl (by kernel_rfl) ?_
    simp only [RT, FS, ↓RE, okR, argEnv, Nat.reduceAdd, Nat.reduceSub, Nat.reduceLT, Nat.reduceLeDiff, Nat.reduceEqDiff, reduceIte, oS, oT, oC, oP, oA, z1, ex_tup, intL_len, Bool.and_true, Bool.not_true, Int.reduceBEq, Int.reduceBNe, beq_self_eq_true, bne_self_eq_false, Bool.and_self, decide_true, decide_false]
  rw [hs] at oS
  cases ht : tinyL l
  · rw [ht] at oT
    simp only [Craft.c, AirW.c] at *
    refine pure_of_wc (rs := [.tmp 12]) (m := 227) [(1, [(47, false, false, [])]), (4, [(28, true, false, []), (1, false, false, [])]), (18, [(31, false, false, [])])] nC_ok (by kernel_rfl) Try.func5 rfl (by kernel_rfl) rfl rfl (by kernel_rfl) ?_
    simp only [RT, FS, ↓RE, okR, argEnv, Nat.reduceAdd, Nat.reduceSub, Nat.reduceLT, Nat.reduceLeDiff, Nat.reduceEqDiff, reduceIte, oS, oT, oC, oP, oA, z1, ex_tup, intL_len, Bool.and_true, Bool.not_true, Int.reduceBEq, Int.reduceBNe, beq_self_eq_true, bne_self_eq_false, Bool.and_self, decide_true, decide_false]
  rw [ht] at oT
  by_cases h1 : startE c l a w true = 0
  rotate_left
  · have b1 : (startE c l a w true != 0) = true := by simpa using h1
    simp only [Craft.c, AirW.c] at *
    refine pure_of_wc (rs := [.tmp 12]) (m := 227) [(1, [(47, false, false, [])]), (4, [(28, true, false, []), (1, false, false, [])]), (18, [(31, false, false, [])])] nC_ok (by kernel_rfl) Try.func5 rfl (by kernel_rfl) rfl rfl (by kernel_rfl) ?_
    simp only [RT, FS, ↓RE, okR, argEnv, Nat.reduceAdd, Nat.reduceSub, Nat.reduceLT, Nat.reduceLeDiff, Nat.reduceEqDiff, reduceIte, oS, oT, oC, oP, oA, z1, ex_tup, intL_len, Bool.and_true, Bool.not_true, Int.reduceBEq, Int.reduceBNe, beq_self_eq_true, bne_self_eq_false, Bool.and_self, decide_true, decide_false, b1]
  rw [h1] at oA
  by_cases h60 : 60 < l.ground.length
  · have q60 : decide (60 < (l.ground.length : Int)) = true := by simp; omega
    simp only [Craft.c, AirW.c] at *
    refine pure_of_wc (rs := [.tmp 12]) (m := 227) [(1, [(47, false, false, [])]), (4, [(28, true, false, []), (1, false, false, [])]), (18, [(31, false, false, [])])] nC_ok (by kernel_rfl) Try.func5 rfl (by kernel_rfl) rfl rfl (by kernel_rfl) ?_
    simp only [RT, FS, ↓RE, okR, argEnv, Nat.reduceAdd, Nat.reduceSub, Nat.reduceLT, Nat.reduceLeDiff, Nat.reduceEqDiff, reduceIte, oS, oT, oC, oP, oA, z1, ex_tup, intL_len, Bool.and_true, Bool.not_true, Int.reduceBEq, Int.reduceBNe, beq_self_eq_true, bne_self_eq_false, Bool.and_self, decide_true, decide_false, q60]
  have q60 : decide (60 < (l.ground.length : Int)) = false := by simp; omega
  by_cases hlen : wh.length = 2
  rotate_left
  · have q3 : ((wh.length : Int) != 2) = true := by simp; omega
    simp only [Craft.c, AirW.c] at *
    refine pure_of_wc (rs := [.tmp 12]) (m := 227) [(1, [(47, false, false, [])]), (4, [(28, true, false, []), (1, false, false, [])]), (18, [(31, false, false, [])])] nC_ok (by kernel_rfl) Try.func5 rfl (by kernel_rfl) rfl rfl (by kernel_rfl) ?_
    simp only [RT, FS, ↓RE, okR, argEnv, Nat.reduceAdd, Nat.reduceSub, Nat.reduceLT, Nat.reduceLeDiff, Nat.reduceEqDiff, reduceIte, oS, oT, oC, oP, oA, z1, ex_tup, intL_len, Bool.and_true, Bool.not_true, Int.reduceBEq, Int.reduceBNe, beq_self_eq_true, bne_self_eq_false, Bool.and_self, decide_true, decide_false, q60, q3]
  have q3 : ((wh.length : Int) != 2) = false := by simp; omega
  cases hp : wh.all fun x => rI x 0 100
  · rw [hp] at oP
    simp only [Craft.c, AirW.c] at *
    refine pure_of_wc (rs := [.tmp 12]) (m := 227) [(1, [(47, false, false, [])]), (4, [(28, true, false, []), (1, false, false, [])]), (18, [(31, false, false, [])])] nC_ok (by kernel_rfl) Try.func5 rfl (by kernel_rfl) rfl rfl (by kernel_rfl) ?_
    simp only [RT, FS, ↓RE, okR, argEnv, Nat.reduceAdd, Nat.reduceSub, Nat.reduceLT, Nat.reduceLeDiff, Nat.reduceEqDiff, reduceIte, oS, oT, oC, oP, oA, z1, ex_tup, intL_len, Bool.and_true, Bool.not_true, Int.reduceBEq, Int.reduceBNe, beq_self_eq_true, bne_self_eq_false, Bool.and_self, decide_true, decide_false, q60, q3]
  rw [hp] at oP
  obtain ⟨p, q, rfl⟩ : ∃ p q, wh = [p, q] := by
    match wh, hlen with
    | [p, q], _ => exact ⟨p, q, rfl⟩
  have i0 : ∀ h, indexAddrD Try.prog h 25 (.sl (intL [p, q])) (.int .i64 0) = some (.ref [.int .i64 p] 0) := fun h => sI_ix (i := 0) rfl h
  have i1 : ∀ h, indexAddrD Try.prog h 25 (.sl (intL [p, q])) (.int .i64 1) = some (.ref [.int .i64 q] 0) := fun h => sI_ix (i := 1) rfl h
  have q3 : (((2 : Nat) : Int) != 2) = false := rfl
  simp only [List.all_cons, List.all_nil, Bool.and_true, Bool.and_eq_true] at hp
  have hpb := rI_le hp.1
  have hqb := rI_le hp.2
  by_cases hpq : q < p
  · have q4 : decide (q < p) = true := by simpa using hpq
    simp only [Craft.c, AirW.c] at *
    refine pure_of_wc (rs := [.tmp 12]) (m := 227) [(1, [(47, false, false, [])]), (4, [(28, true, false, []), (1, false, false, [])]), (18, [(31, false, false, [])])] nC_ok (by kernel_rfl) Try.func5 rfl (by kernel_rfl) rfl rfl (by kernel_rfl) ?_
    simp only [RT, FS, ↓RE, okR, argEnv, Nat.reduceAdd, Nat.reduceSub, Nat.reduceLT, Nat.reduceLeDiff, Nat.reduceEqDiff, reduceIte, oS, oT, oC, oP, oA, z1, ex_tup, intL_len, Bool.and_true, Bool.not_true, Int.reduceBEq, Int.reduceBNe, beq_self_eq_true, bne_self_eq_false, Bool.and_self, decide_true, decide_false, q60, q3, i0, i1, q4]
  have q4 : decide (q < p) = false := by simpa using hpq
  cases hc : cellL l x
  · rw [hc] at oC
    simp only [Craft.c, AirW.c] at *
    refine pure_of_wc (rs := [.tmp 12]) (m := 227) [(1, [(47, false, false, [])]), (4, [(28, true, false, []), (1, false, false, [])]), (18, [(31, false, false, [])])] nC_ok (by kernel_rfl) Try.func5 rfl (by kernel_rfl) rfl rfl (by kernel_rfl) ?_
    simp only [RT, FS, ↓RE, okR, argEnv, Nat.reduceAdd, Nat.reduceSub, Nat.reduceLT, Nat.reduceLeDiff, Nat.reduceEqDiff, reduceIte, oS, oT, oC, oP, oA, z1, ex_tup, intL_len, Bool.and_true, Bool.not_true, Int.reduceBEq, Int.reduceBNe, beq_self_eq_true, bne_self_eq_false, Bool.and_self, decide_true, decide_false, q60, q3, i0, i1, q4]
  rw [hc] at oC
  obtain ⟨k1, k2, k3, _, k5⟩ := startE_ok hl ll h1
  have hcx : cellI l x := by
    simp only [cellL, Bool.and_eq_true, decide_eq_true_eq] at hc
    exact hc
  obtain ⟨k, rfl⟩ : ∃ k : Nat, x = (k : Int) := ⟨x.toNat, by unfold cellI at hcx; omega⟩
  have hk : k < l.ground.length := by unfold cellI at hcx; omega
  have hab : airB a = true := by
    unfold startE at h1
    cases hA : airB a
    · simp [hA] at h1
    · rfl
  have hA' := narrow_air k3 hab hpb.1 (by omega) hqb.2
  have oN2 := oN l ll (narrowA a p q)
  have oN3 := oN (wetL l k) ⟨ll.ground, by show (l.water.set k true).length ≤ _; rw [List.length_set]; exact ll.water⟩ a
  have oN4 := oN (lowL l) ⟨ll.ground, ll.water⟩ a
  have s2 : startE c l (narrowA a p q) w true = 0 := by rw [startE_same rfl hA', h1]
  have s3 : startE c (wetL l k) a w true = 0 := by rw [startE_same (wet_land l k) rfl, h1]
  have s4 : startE c (lowL l) a w true = 0 := by rw [startE_same (low_land k2) rfl, h1]
  obtain ⟨_, _, kA, _, _⟩ := startE_ok hl ll s2
  obtain ⟨_, kW, _, _, _⟩ := startE_ok (l := wetL l k) hl ⟨ll.ground, by show (l.water.set k true).length ≤ _; rw [List.length_set]; exact ll.water⟩ s3
  obtain ⟨_, kL, _, _, _⟩ := startE_ok (l := lowL l) hl ⟨ll.ground, ll.water⟩ s4
  have e2 := eased_needs k1 (eased_air k1 l k3 hpb.1 (by omega) hqb.2) k2 k2 (ceilI c w)
  have e3 := eased_needs k1 (eased_wet c l a k) k2 kW (ceilI c w)
  have e4 := eased_needs k1 (eased_low c k2 a) k2 kL (ceilI c w)
  have t1 := needsF_ok k1 k3 k2 (ceilI c w)
  have t2 := needsF_ok k1 kA k2 (ceilI c w)
  have t3 := needsF_ok k1 k3 kW (ceilI c w)
  have t4 := needsF_ok k1 k3 kL (ceilI c w)
  rw [NeedsR_ok h1] at oN1
  rw [NeedsR_ok s2, hlc] at oN2
  rw [NeedsR_ok s3] at oN3
  rw [NeedsR_ok s4] at oN4
  have u1 := t1.len
  have u2 := t2.len
  have u3 : (needsF c a (ceilI c w) (wetL l k)).length = l.ground.length := t3.len
  have u4 : (needsF c a (ceilI c w) (lowL l)).length = l.ground.length := t4.len
  have v1 := fun i hi => t1.at_ (i := i) hi
  have v2 := fun i hi => t2.at_ (i := i) hi
  have v3 := fun i (hi : i < l.ground.length) => t3.at_ (i := i) hi
  have v4 := fun i (hi : i < l.ground.length) => t4.at_ (i := i) hi
  clear t1 t2 t3 t4
  generalize needsF c a (ceilI c w) l = N1 at *
  generalize needsF c (narrowA a p q) (ceilI c w) l = N2 at *
  generalize needsF c a (ceilI c w) (wetL l k) = N3 at *
  generalize needsF c a (ceilI c w) (lowL l) = N4 at *
  have oPa := gPart_eq (s := a.e) ⟨by have := k3.e; omega, by have := k3.e; omega, by have := k3.e; omega⟩ (p := p) (by omega)
  have oPb := gPart_eq (s := a.e) ⟨by have := k3.e; omega, by have := k3.e; omega, by have := k3.e; omega⟩ (p := q) (by omega)
  have oPc := gPart_eq (s := a.n) ⟨by have := k3.n; omega, by have := k3.n; omega, by have := k3.n; omega⟩ (p := p) (by omega)
  have oPd := gPart_eq (s := a.n) ⟨by have := k3.n; omega, by have := k3.n; omega, by have := k3.n; omega⟩ (p := q) (by omega)
  rw [show (wetL l k).c = [.int .i64 l.wide, .int .i64 l.deep, .sl (intL l.ground), .sl (boolL (l.water.set k true)), .int .i64 l.clear] from rfl] at oN3
  rw [show (lowL l).c = [.int .i64 l.wide, .int .i64 l.deep, .sl (intL l.ground), .sl (boolL l.water), .int .i64 (l.clear / 2)] from rfl] at oN4
  rw [show (narrowA a p q).c = [.int .i64 (partS a.e p), .int .i64 (partS a.e q), .int .i64 (partS a.n p), .int .i64 (partS a.n q)] from rfl] at oN2
  have hwl := k2.water
  have hsm := k2.small
  have mkW := fun h nid => app_nils_bool l.water h nid (by omega)
  rw [hwl] at mkW
  have hbx : ∃ b, l.water[k]? = some b := ⟨_, k2.w_at hk⟩
  obtain ⟨bx, hbx⟩ := hbx
  have x5 := fun h b (hb : hget h b = some (.arr 4 1 (boolL l.water))) => oB_ix (n := l.ground.length) hb hwl hk
  have s5 := fun h b nid y (hb : hget h b = some (.arr 4 1 (boolL l.water))) => oB_store (n := l.ground.length) hb hwl hbx nid y
  have hcl := k2.clear
  have d1 := a_quo' (k := .i64) (x := l.clear) (y := 2) (by omega)
  have d2 : l.clear.tdiv 2 = l.clear / 2 := Int.tdiv_eq_ediv_of_nonneg hcl.1
  have d3 := wrap_i64 (z := l.clear / 2) (by omega) (by omega)
  simp only [Craft.c, AirW.c, SpI.c] at *
  refine pure_of_pieces (rs := [.tmp 12]) (m := 227) [(1, [(47, false, false, [])]), (4, [(28, true, false, []), (1, false, false, [])]), (18, [(31, false, false, [])])] nC_ok (by kernel_rfl) Try.func5 rfl (by kernel_rfl) rfl rfl (by kernel_rfl) ?_
  refine awp_peel (T := [(1, [(47, false, false, [])]), (4, [(28, true, false, []), (1, false, false, [])]), (18, [(31, false, false, [])])]) nC_ok (by kernel_rfl) (by kernel_rfl) ?_
  simp only [RT, FS, ↓RE, okR, argEnv, Nat.reduceAdd, Nat.reduceSub, Nat.reduceLT, Nat.reduceLeDiff, Nat.reduceEqDiff, reduceIte]
  refine awp_peel (T := [(1, [(47, false, false, [])]), (4, [(28, true, false, []), (1, false, false, [])]), (18, [(31, false, false, [])])]) nC_ok (by kernel_rfl) (by kernel_rfl) ?_
  simp only [RT, FS, ↓RE, okR, argEnv, Nat.reduceAdd, Nat.reduceSub, Nat.reduceLT, Nat.reduceLeDiff, Nat.reduceEqDiff, reduceIte, oS, oT, oC, oP, oA, z1, ex_tup, intL_len, Bool.and_true, Bool.not_true, Int.reduceBEq, Int.reduceBNe, beq_self_eq_true, bne_self_eq_false, Bool.and_self, decide_true, decide_false, q60, q3, i0, i1, q4]
  refine awp_peel (T := [(1, [(47, false, false, [])]), (4, [(28, true, false, []), (1, false, false, [])]), (18, [(31, false, false, [])])]) nC_ok (by kernel_rfl) (by kernel_rfl) ?_
  simp only [RT, FS, ↓RE, okR, argEnv, Nat.reduceAdd, Nat.reduceSub, Nat.reduceLT, Nat.reduceLeDiff, Nat.reduceEqDiff, reduceIte, RM, oN1, ex_tup]
  refine awp_peel (T := [(1, [(47, false, false, [])]), (4, [(28, true, false, []), (1, false, false, [])]), (18, [(31, false, false, [])])]) nC_ok (by kernel_rfl) (by kernel_rfl) ?_
  simp only [RT, FS, ↓RE, okR, argEnv, Nat.reduceAdd, Nat.reduceSub, Nat.reduceLT, Nat.reduceLeDiff, Nat.reduceEqDiff, reduceIte, RM, i0, i1, oPa, oPb, oPc, oPd, b_span, b_air]
  refine awp_peel (T := [(1, [(47, false, false, [])]), (4, [(28, true, false, []), (1, false, false, [])]), (18, [(31, false, false, [])])]) nC_ok (by kernel_rfl) (by kernel_rfl) ?_
  simp only [RT, FS, ↓RE, okR, argEnv, Nat.reduceAdd, Nat.reduceSub, Nat.reduceLT, Nat.reduceLeDiff, Nat.reduceEqDiff, reduceIte, RM, oN2, ex_tup]
  refine awp_peel (T := [(1, [(47, false, false, [])]), (4, [(28, true, false, []), (1, false, false, [])]), (18, [(31, false, false, [])])]) nC_ok (by kernel_rfl) (by kernel_rfl) ?_
  simp only [RT, FS, ↓RE, okR, argEnv, Nat.reduceAdd, Nat.reduceSub, Nat.reduceLT, Nat.reduceLeDiff, Nat.reduceEqDiff, reduceIte, RM]
  refine awp_peel (T := [(1, [(47, false, false, [])]), (4, [(28, true, false, []), (1, false, false, [])]), (18, [(31, false, false, [])])]) nC_ok (by kernel_rfl) (by kernel_rfl) ?_
  simp only [RT, FS, ↓RE, okR, argEnv, Nat.reduceAdd, Nat.reduceSub, Nat.reduceLT, Nat.reduceLeDiff, Nat.reduceEqDiff, reduceIte, RM, mkW, boolL_len, hwl, decide_true]
  refine awp_peel (T := [(1, [(47, false, false, [])]), (4, [(28, true, false, []), (1, false, false, [])]), (18, [(31, false, false, [])])]) nC_ok (by kernel_rfl) (by kernel_rfl) ?_
  simp only [RT, FS, ↓RE, okR, argEnv, Nat.reduceAdd, Nat.reduceSub, Nat.reduceLT, Nat.reduceLeDiff, Nat.reduceEqDiff, reduceIte, RM, x5, s5, boolL_len, hwl, decide_true]
  refine awp_imp (imp_thaw 5 (.weak (weak_of (e := [(3, .int .i64 w), (6, .ptr 0 0), (7, .ptr 1 0), (8, .ptr 2 0), (13, .sl (intL N1)), (14, .int .i64 0), (16, .sl (intL N2)), (17, .int .i64 0), (18, .ptr 4 0)])
    (h := [(4, .box [.int .i64 l.wide, .int .i64 l.deep, .sl (intL l.ground), .sl (boolL (l.water.set k true)), .int .i64 l.clear]), (2, .box [.int .i64 a.e.lo, .int .i64 a.e.hi, .int .i64 a.n.lo, .int .i64 a.n.hi]), (1, .box [.int .i64 l.wide, .int .i64 l.deep, .sl (intL l.ground), .sl (boolL l.water), .int .i64 l.clear]),
      (0, .box c.c)]) (nid := 5) (n := 227) ?_))) ?_
  · simp [headW, heapW, envW, blkLt, D.ltL, D.lt, look, hget, frzHH, herase, frzBlk, frzD, boolL_len, hwl, Craft.c]
  refine awp_rest (T := [(1, [(47, false, false, [])]), (4, [(28, true, false, []), (1, false, false, [])]), (18, [(31, false, false, [])])]) nC_ok (by kernel_rfl) (by kernel_rfl) ?_
  simp only [RT, FS, ↓RE, okR, argEnv, Nat.reduceAdd, Nat.reduceSub, Nat.reduceLT, Nat.reduceLeDiff, Nat.reduceEqDiff, reduceIte, RM, oN3, oN4, ex_tup, d1, d2, d3, intL_len, u1, u2, u3, u4, Int.reduceBEq, Int.reduceBNe, beq_self_eq_true, bne_self_eq_false, Craft.c, decide_true, decide_false, Bool.not_true]
  refine loopV (ι := Nat) nC_ok [(1, [(47, false, false, [])]), (4, [(28, true, false, []), (1, false, false, [])]), (18, [(31, false, false, [])])] (fun i => [(13, .sl (intL N1)), (16, .sl (intL N2)), (19, .sl (intL N3)), (22, .sl (intL N4)), (24, .int .i64 (i : Int))])
    (fun i => []) 0 (fun i => i ≤ l.ground.length) (fun i => l.ground.length - i) 0 (by kernel_rfl) (by kernel_rfl) (Nat.zero_le _) ?_ ?_
  · simp [headW, heapW, envW, blkLt, D.ltL, D.lt, look, hget]
  intro i hi
  rcases Nat.lt_or_ge i l.ground.length with hlt | hge
  rotate_left
  · have hq : ((i : Int) < (l.ground.length : Int)) = False := by simp; omega
    simp only [RT, FS, ↓RE, okR, argEnv, Nat.reduceAdd, Nat.reduceSub, Nat.reduceLT, Nat.reduceLeDiff, Nat.reduceEqDiff, reduceIte, intL_len, u1, hq, decide_false, z1]
  have hq : ((i : Int) < (l.ground.length : Int)) = True := by simp [hlt]
  have wi := wrap_i64 (z := (i : Int) + 1) (by omega) (by omega)
  have ix1 := sI_ix (v1 i hlt)
  have ix2 := sI_ix (v2 i hlt)
  have ix3 := sI_ix (v3 i hlt)
  have ix4 := sI_ix (v4 i hlt)
  have g2 : decide (nAt N1 i < nAt N2 i) = false := by have := e2 i hlt; simp; omega
  have g3 : decide (nAt N1 i < nAt N3 i) = false := by have := e3 i hlt; simp; omega
  have g4 : decide (nAt N1 i < nAt N4 i) = false := by have := e4 i hlt; simp; omega
  simp only [RT, FS, ↓RE, okR, argEnv, Nat.reduceAdd, Nat.reduceSub, Nat.reduceLT, Nat.reduceLeDiff, Nat.reduceEqDiff, reduceIte, intL_len, u1, hq, decide_true, ix1, ix2, ix3, ix4, g2, g3, g4, wi]
  exact ⟨i + 1, by omega, by omega, by simp [headW, heapW, envW, blkLt, D.ltL, D.lt, look, hget]⟩
theorem runMore_pure : ∀ Ds, TyL Try.prog Try.f5.params.toList Ds → Pure Try.prog 5 Ds (.bool true) := by
  intro Ds h
  rw [Try.params5] at h
  match Ds, h with
  | [_, _, _, _, _, _], ⟨⟨n, _, h1, e1⟩, ⟨n2, _, h2, e2⟩, ⟨n3, _, h3, e3⟩, ⟨n4, _, h4, e4⟩, ⟨n5, _, h5, e5⟩, ⟨n6, _, h6, e6⟩, _⟩ =>
    rw [Try.underlying24] at e1
    rw [Try.underlying28] at e2
    rw [Try.underlying32] at e3
    rw [Fz.und_3] at e4 e6
    rw [Fz.und_25] at e5
    dsimp only at e1 e2 e3 e4 e5 e6
    obtain ⟨c, rfl, hl⟩ := tyCraft h1
    obtain ⟨l, rfl, ll⟩ := tyLand h2
    obtain ⟨a, rfl⟩ := tyAir h3
    obtain ⟨w, rfl, _⟩ := tyInt Fz.und_3 h4
    obtain ⟨x, rfl, hx⟩ := tyInts h5
    obtain ⟨y, rfl, _⟩ := tyInt Fz.und_3 h6
    subst e1; subst e2; subst e3; cases e4; cases e5; cases e6
    exact runMore_at c hl l ll a w x hx y
end Go.Sx
