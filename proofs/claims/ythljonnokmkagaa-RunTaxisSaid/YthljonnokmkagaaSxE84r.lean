/- Own work: contracts of functions, used in the proof of a law. -/
import Derived.Test.YthljonnokmkagaaSxEn
set_option linter.unusedVariables false
set_option linter.unusedSimpArgs false
namespace Go.Sx
open Go.Proofs
set_option maxRecDepth 10000

/-! Oracles of ways over water -/
noncomputable def gTaxi : List D → Option D := orcF (fun p : LandM × Int × Int => LandL p.1) (fun p => [.agg p.1.c, .int .i64 p.2.1, .int .i64 p.2.2]) (fun p => TaxiD p.1 p.2.1 p.2.2)
theorem gTaxi_eq {l : LandM} (hl : LandL l) (frm to : Int) : gTaxi [.agg l.c, .int .i64 frm, .int .i64 to] = some (TaxiD l frm to) :=
  orcF_eq (ok := fun p : LandM × Int × Int => LandL p.1) (dsf := fun p => [.agg p.1.c, .int .i64 p.2.1, .int .i64 p.2.2]) (rf := fun p => TaxiD p.1 p.2.1 p.2.2) (l, frm, to) hl fun b hb => by
    simp only [List.cons.injEq, D.agg.injEq, D.int.injEq, true_and, and_true] at hb
    rw [LandM.c_inj hb.1, hb.2.1, hb.2.2]
noncomputable def gTaxis : List D → Option D := orcF (fun p : LandM × List Int × Int × Int => LandOk p.1 ∧ p.2.1.length ≤ 1000) (fun p => [.agg p.1.c, .sl (intL p.2.1), .int .i64 p.2.2.1, .int .i64 p.2.2.2]) (fun p => .bool (tB p.1 p.2.1 p.2.2.1 p.2.2.2))
theorem gTaxis_eq {l : LandM} (hl : LandOk l) {x : List Int} (hx : x.length ≤ 1000) (frm to : Int) : gTaxis [.agg l.c, .sl (intL x), .int .i64 frm, .int .i64 to] = some (.bool (tB l x frm to)) :=
  orcF_eq (ok := fun p : LandM × List Int × Int × Int => LandOk p.1 ∧ p.2.1.length ≤ 1000) (dsf := fun p => [.agg p.1.c, .sl (intL p.2.1), .int .i64 p.2.2.1, .int .i64 p.2.2.2]) (rf := fun p => .bool (tB p.1 p.2.1 p.2.2.1 p.2.2.2)) (l, x, frm, to) ⟨hl, hx⟩ fun b hb => by
    simp only [List.cons.injEq, D.agg.injEq, D.int.injEq, D.sl.injEq, true_and, and_true] at hb
    rw [LandM.c_inj hb.1, intL_inj hb.2.1, hb.2.2.1, hb.2.2.2]
noncomputable abbrev nK : List (FuncId × (List D → Option D)) := (58, gTaxi) :: (62, gTaxis) :: nI
theorem nK_ok : OkO Try.prog (mkO nK) := mkO_ok (orcF_ok fun p h => run_Taxi_t p.1 h p.2.1 p.2.2) <| mkO_ok (orcF_ok fun p h => ref3_Taxis_t p.1 h.1 p.2.1 h.2 p.2.2.1 p.2.2.2) <| nI_ok
theorem TaxiD_none {l : LandM} (hb : landB l = true) {frm to : Int} (hf : cellI l frm) (ht : cellI l to) (hm : mget (costsT l to) frm = none) : TaxiD l frm to = .tup [.nils, .int .i64 5] := by
  rw [TaxiD, cellB_of hb hf, cellB_of hb ht, hm]; rfl
theorem TaxiD_some {l : LandM} (hb : landB l = true) {frm to : Int} (hf : cellI l frm) (ht : cellI l to) {v : Cst} (hm : mget (costsT l to) frm = some v) : TaxiD l frm to = .tup [.sl (intL (taxiA l frm to)), .int .i64 0] := by
  rw [TaxiD, cellB_of hb hf, cellB_of hb ht, hm]; rfl
/-! RunTaxis -/
set_option maxHeartbeats 16000000 in
theorem runTaxis_at (l : LandM) (ll : LandL l) (ot : List Int) (hol : ot.length ≤ 9223372036854775807) : Pure Try.prog 12 [.agg l.c, .sl (intL ot)] (.bool true) := by
  have oT := gL1_eq (fun l => .bool (tinyL l)) ll
  have oL := gLa_eq ll
  have oC := fun x => gL2_eq (fun l x => .bool (cellL l x)) ll x
  have oX := fun (frm to : Int) => gTaxi_eq ll frm to
  have z1 := cstO_eq [] (.bool true)
  have hlc : l.c = [.int .i64 l.wide, .int .i64 l.deep, .sl (intL l.ground), .sl (boolL l.water), .int .i64 l.clear] := rfl
  rw [hlc] at oT oL ⊢
  simp only [hlc] at oC oX
  cases ht : tinyL l
  · rw [ht] at oT
    refine pure_of_wc (rs := [.tmp 4]) (m := 98) [(1, [(37, false, false, [])]), (3, [(11, false, false, [])])] nK_ok (by kernel_rfl) Try.func12 rfl (by kernel_rfl) rfl rfl (by kernel_rfl) ?_
    simp only [RT, FS, ↓RE, okR, argEnv, Nat.reduceAdd, Nat.reduceSub, Nat.reduceLT, Nat.reduceLeDiff, Nat.reduceEqDiff, reduceIte, oT, z1]
  rw [ht] at oT
  cases hb : landB l
  · rw [hb] at oL
    refine pure_of_wc (rs := [.tmp 4]) (m := 98) [(1, [(37, false, false, [])]), (3, [(11, false, false, [])])] nK_ok (by kernel_rfl) Try.func12 rfl (by kernel_rfl) rfl rfl (by kernel_rfl) ?_
    simp only [RT, FS, ↓RE, okR, argEnv, Nat.reduceAdd, Nat.reduceSub, Nat.reduceLT, Nat.reduceLeDiff, Nat.reduceEqDiff, reduceIte, oT, oL, z1]
  rw [hb] at oL
  have hk := land_ok ll hb
  have hsm := hk.small
  by_cases ho1 : ot.length < 1
  · have q1 : ((ot.length : Int) < 1) = True := by simp; omega
    refine pure_of_wc (rs := [.tmp 4]) (m := 98) [(1, [(37, false, false, [])]), (3, [(11, false, false, [])])] nK_ok (by kernel_rfl) Try.func12 rfl (by kernel_rfl) rfl rfl (by kernel_rfl) ?_
    simp only [RT, FS, ↓RE, okR, argEnv, Nat.reduceAdd, Nat.reduceSub, Nat.reduceLT, Nat.reduceLeDiff, Nat.reduceEqDiff, reduceIte, oT, oL, intL_len, q1, decide_true, z1]
  have q1 : ((ot.length : Int) < 1) = False := by simp; omega
  by_cases ho2 : 150 < ot.length
  · have q2 : ((150 : Int) < (ot.length : Int)) = True := by simp; omega
    refine pure_of_wc (rs := [.tmp 4]) (m := 98) [(1, [(37, false, false, [])]), (3, [(11, false, false, [])])] nK_ok (by kernel_rfl) Try.func12 rfl (by kernel_rfl) rfl rfl (by kernel_rfl) ?_
    simp only [RT, FS, ↓RE, okR, argEnv, Nat.reduceAdd, Nat.reduceSub, Nat.reduceLT, Nat.reduceLeDiff, Nat.reduceEqDiff, reduceIte, oT, oL, intL_len, q1, q2, decide_true, decide_false, z1]
  have q2 : ((150 : Int) < (ot.length : Int)) = False := by simp; omega
  have i0 : ∀ h, indexAddrD Try.prog h 25 (.sl (intL ot)) (.int .i64 0) = some (.ref [.int .i64 (nAt ot 0)] 0) := fun h => sI_ix (i := 0) (nAt_get (by omega)) h
  have wl : IntKind.i64.wrap ((ot.length : Int) - 1) = ((ot.length - 1 : Nat) : Int) := by rw [wrap_i64 (by omega) (by omega)]; omega
  have il := sI_ix (nAt_get (x := ot) (i := ot.length - 1) (by omega))
  generalize hfrm : nAt ot 0 = frm at *
  generalize hto : nAt ot (ot.length - 1) = to at *
  have oC0 := oC frm
  have oC1 := oC to
  cases hc0 : cellL l frm
  · rw [hc0] at oC0
    refine pure_of_wc (rs := [.tmp 4]) (m := 98) [(1, [(37, false, false, [])]), (3, [(11, false, false, [])])] nK_ok (by kernel_rfl) Try.func12 rfl (by kernel_rfl) rfl rfl (by kernel_rfl) ?_
    simp only [RT, FS, ↓RE, okR, argEnv, Nat.reduceAdd, Nat.reduceSub, Nat.reduceLT, Nat.reduceLeDiff, Nat.reduceEqDiff, reduceIte, oT, oL, intL_len, q1, q2, decide_true, decide_false, i0, oC0, z1]
  rw [hc0] at oC0
  cases hc1 : cellL l to
  · rw [hc1] at oC1
    refine pure_of_wc (rs := [.tmp 4]) (m := 98) [(1, [(37, false, false, [])]), (3, [(11, false, false, [])])] nK_ok (by kernel_rfl) Try.func12 rfl (by kernel_rfl) rfl rfl (by kernel_rfl) ?_
    simp only [RT, FS, ↓RE, okR, argEnv, Nat.reduceAdd, Nat.reduceSub, Nat.reduceLT, Nat.reduceLeDiff, Nat.reduceEqDiff, reduceIte, oT, oL, intL_len, q1, q2, decide_true, decide_false, i0, oC0, wl, il, oC1, z1]
  rw [hc1] at oC1
  have cf : cellI l frm := by simp only [cellL, Bool.and_eq_true, decide_eq_true_eq] at hc0; exact hc0
  have ct : cellI l to := by simp only [cellL, Bool.and_eq_true, decide_eq_true_eq] at hc1; exact hc1
  have oX' := oX frm to
  have oP := gTaxis_eq hk (x := ot) (by omega) frm to
  rw [hlc] at oP
  cases hm : mget (costsT l to) frm with
  | none =>
    rw [TaxiD_none hb cf ct hm] at oX'
    rw [taxi_none hk cf ct hm ot] at oP
    refine pure_of_wc (rs := [.tmp 4]) (m := 98) [(1, [(37, false, false, [])]), (3, [(11, false, false, [])])] nK_ok (by kernel_rfl) Try.func12 rfl (by kernel_rfl) rfl rfl (by kernel_rfl) ?_
    simp only [RT, FS, ↓RE, okR, argEnv, Nat.reduceAdd, Nat.reduceSub, Nat.reduceLT, Nat.reduceLeDiff, Nat.reduceEqDiff, reduceIte, oT, oL, intL_len, q1, q2, decide_true, decide_false, i0, oC0, wl, il, oC1, oX', ex_tup, oP, z1, Bool.not_false, Bool.not_true, Int.reduceBEq, Int.reduceBNe]
  | some v =>
    obtain ⟨t1, t2, t3, t4, t5⟩ := taxi_some hk cf ct hm
    rw [TaxiD_some hb cf ct hm] at oX'
    have oQ := gTaxis_eq hk (x := taxiA l frm to) (by omega) frm to
    rw [hlc, t1] at oQ
    have hz : ((0 : Int) != 0) = false := rfl
    cases hp : tB l ot frm to
    · rw [hp] at oP
      refine pure_of_wc (rs := [.tmp 4]) (m := 98) [(1, [(37, false, false, [])]), (3, [(11, false, false, [])])] nK_ok (by kernel_rfl) Try.func12 rfl (by kernel_rfl) rfl rfl (by kernel_rfl) ?_
      simp only [RT, FS, ↓RE, okR, argEnv, Nat.reduceAdd, Nat.reduceSub, Nat.reduceLT, Nat.reduceLeDiff, Nat.reduceEqDiff, reduceIte, oT, oL, intL_len, q1, q2, decide_true, decide_false, i0, oC0, wl, il, oC1, oX', ex_tup, oP, oQ, hz, z1, Bool.not_false, Bool.not_true, Int.reduceBEq, Int.reduceBNe]
    · rw [hp] at oP
      have oLs := gLess_eq 0 0 hol (b := taxiA l frm to) (by omega)
      rw [t5 ot hp] at oLs
      refine pure_of_wc (rs := [.tmp 4]) (m := 98) [(1, [(37, false, false, [])]), (3, [(11, false, false, [])])] nK_ok (by kernel_rfl) Try.func12 rfl (by kernel_rfl) rfl rfl (by kernel_rfl) ?_
      simp only [RT, FS, ↓RE, okR, argEnv, Nat.reduceAdd, Nat.reduceSub, Nat.reduceLT, Nat.reduceLeDiff, Nat.reduceEqDiff, reduceIte, oT, oL, intL_len, q1, q2, decide_true, decide_false, i0, oC0, wl, il, oC1, oX', ex_tup, oP, oQ, oLs, hz, z1, Bool.not_false, Bool.not_true, Int.reduceBEq, Int.reduceBNe]
theorem runTaxis_pure : ∀ Ds, TyL Try.prog Try.f12.params.toList Ds → Pure Try.prog 12 Ds (.bool true) := by
  intro Ds h
  rw [Try.params12] at h
  match Ds, h with
  | [_, _], ⟨⟨n0, _, h0, e0⟩, ⟨n1, _, h1, e1⟩, _⟩ =>
    rw [Try.underlying28] at e0
    rw [Fz.und_25] at e1
    dsimp only at e0 e1
    obtain ⟨l, rfl, ll⟩ := tyLand h0
    obtain ⟨x1, rfl, y1⟩ := tyInts h1
    subst e0; cases e1
    exact runTaxis_at l ll x1 y1
end Go.Sx
