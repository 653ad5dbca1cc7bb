/- Own work: contracts of functions, used in the proof of a law. -/
import Derived.Test.YthljonnokmkagaaSxE39r
set_option linter.unusedVariables false
set_option linter.unusedSimpArgs false
namespace Go.Sx
open Go.Proofs
set_option maxRecDepth 10000

def gSp : List D → Option D
  | [.agg [.int .i64 a, .int .i64 b], .agg [.int .i64 c, .int .i64 d], .agg [.int .i64 e, .int .i64 f]] => some (.bool (rS a b 0 100000 && condB ⟨c, d⟩ ⟨e, f⟩))
  | _ => none
theorem gSp_eq (a b c d e f : Int) : gSp [.agg [.int .i64 a, .int .i64 b], .agg [.int .i64 c, .int .i64 d], .agg [.int .i64 e, .int .i64 f]] = some (.bool (rS a b 0 100000 && condB ⟨c, d⟩ ⟨e, f⟩)) := (rfl)
theorem gSp_ok (ds : List D) (r : D) (h : gSp ds = some r) : Pure Try.prog 46 ds r := by
  unfold gSp at h; split at h
  · cases h; exact spans_t ⟨_, _⟩ ⟨_, _⟩ ⟨_, _⟩
  · cases h
noncomputable def gHv (ok : Craft → SpI → Prop) (q : Craft → Int → Int → SpI → SpI → D) : List D → Option D :=
  orcF (fun p : Craft × Int × Int × SpI × SpI => ok p.1 p.2.2.2.1) (fun p => [.agg p.1.c, .int .i64 p.2.1, .int .i64 p.2.2.1, .agg p.2.2.2.1.c, .agg p.2.2.2.2.c]) (fun p => q p.1 p.2.1 p.2.2.1 p.2.2.2.1 p.2.2.2.2)
theorem gHv_eq {ok : Craft → SpI → Prop} (q : Craft → Int → Int → SpI → SpI → D) (c : Craft) (k m : Int) (al wv : SpI) (h : ok c al) : gHv ok q [.agg c.c, .int .i64 k, .int .i64 m, .agg al.c, .agg wv.c] = some (q c k m al wv) :=
  orcF_eq (ok := fun p : Craft × Int × Int × SpI × SpI => ok p.1 p.2.2.2.1) (dsf := fun p => [.agg p.1.c, .int .i64 p.2.1, .int .i64 p.2.2.1, .agg p.2.2.2.1.c, .agg p.2.2.2.2.c]) (rf := fun p => q p.1 p.2.1 p.2.2.1 p.2.2.2.1 p.2.2.2.2) (c, k, m, al, wv) h fun b hb => by
    simp only [List.cons.injEq, D.agg.injEq, D.int.injEq, true_and, and_true] at hb
    rw [Craft.c_inj hb.1, hb.2.1, hb.2.2.1, SpI.c_inj hb.2.2.2.1, SpI.c_inj hb.2.2.2.2]
theorem gHv_ok {f : FuncId} {ok : Craft → SpI → Prop} {q : Craft → Int → Int → SpI → SpI → D} (h : ∀ c k m al wv, ok c al → Pure Try.prog f [.agg c.c, .int .i64 k, .int .i64 m, .agg al.c, .agg wv.c] (q c k m al wv)) (ds : List D) (r : D) (hr : gHv ok q ds = some r) : Pure Try.prog f ds r :=
  orcF_ok (fun p hp => h p.1 p.2.1 p.2.2.1 p.2.2.2.1 p.2.2.2.2 hp) ds r hr
def RunBD (c : Craft) (k : Int) (w al wv : SpI) : D := .tup [.agg (BoundsR c k w al wv).1.c, .int .i64 (BoundsR c k w al wv).2]
def RunHD (c : Craft) (k m : Int) (al wv : SpI) : D := .tup [.int .i64 (HeavR c k m al wv).1, .int .i64 (HeavR c k m al wv).2]
def RefHD (c : Craft) (k m : Int) (al wv : SpI) : D := .int .i64 (RHeavI c k m al wv)
noncomputable abbrev e11 : List (FuncId × (List D → Option D)) :=
  (46, gSp) :: (47, gHv (fun c al => CraftOk c ∧ alOk al) RefHD) :: (43, gBnd (fun c _ => CraftL c) RunBD) :: (44, gHv (fun c _ => CraftL c) RunHD) :: e10
theorem e11_ok : OkO Try.prog (mkO e11) :=
  mkO_ok gSp_ok <| mkO_ok (gHv_ok fun c k m al wv h => ref3_Heaviest_t c h.1 k m al wv h.2) <| mkO_ok (gBnd_ok fun c k w al wv h => run_Bounds_t c h k w al wv) <| mkO_ok (gHv_ok fun c k m al wv h => run_Heaviest_t c h k m al wv) <| e10_ok
theorem BoundsR_bad {c : Craft} {k : Int} {w al wv : SpI} (h : (craftB c && (kindB k && (rS w.lo w.hi 0 100000 && condB al wv))) = false) : BoundsR c k w al wv = (⟨0, 0⟩, 2) := by
  simp only [BoundsR, h, Bool.false_eq_true, if_false]
theorem HeavR_bad {c : Craft} {k m : Int} {al wv : SpI} (h : (craftB c && (kindB k && (rI m 0 20000 && condB al wv))) = false) : HeavR c k m al wv = (0, 2) := by
  simp only [HeavR, h, Bool.false_eq_true, if_false]
theorem bounds_law {c : Craft} (hc : CraftOk c) {k : Int} (hk : kindB k = true) {w al wv : SpI} (hw : rS w.lo w.hi 0 100000 = true) (hcd : condB al wv = true) :
    (RBoundsO c k w al wv = none ∧ BoundsR c k w al wv = (⟨0, 0⟩, 7)) ∨ ∃ s, RBoundsO c k w al wv = some s ∧ BoundsR c k w al wv = (s, 0) := by
  have hcd' := hcd
  have hw' := hw
  simp only [condB, rS, Bool.and_eq_true, decide_eq_true_eq] at hcd' hw'
  simp only [BoundsR, hc.b, hk, hw, hcd, Bool.and_self, if_true]
  cases hs : sayO (tabOf c k) w.hi with
  | none => exact .inl ⟨by simp [RBoundsO, hs], rfl⟩
  | some m => exact .inr ⟨_, RBoundsO_at hc (by omega) (by omega) (by omega) hs, rfl⟩

/-! RunBounds -/
set_option maxHeartbeats 8000000 in
theorem runBounds_at (c : Craft) (hl : CraftL c) (k m : Int) (w al wv : SpI) : Pure Try.prog 8 [.agg c.c, .int .i64 k, .int .i64 m, .agg w.c, .agg al.c, .agg wv.c] (.bool true) := by
  have oS := gC1_eq (fun c => .bool (shortC c)) hl
  have oC := gCr_eq hl
  have oB := gBnd_eq (ok := fun c _ => CraftL c) RunBD c k w al wv hl
  have oH := gHv_eq (ok := fun c _ => CraftL c) RunHD c k m al wv hl
  have z1 := cstO_eq [] (.bool true)
  have hng : decide ((0 : Int) ≤ -1) = false := by decide
  have z0 : rS 0 0 0 100000 = true := by decide
  have eW : rS w.lo w.hi 0 100000 = rS w.lo w.hi 0 100000 := rfl
  have eC : condB ⟨al.lo, al.hi⟩ ⟨wv.lo, wv.hi⟩ = condB al wv := rfl
  have bad2 : ∀ {r : SpI × Int}, r = (⟨0, 0⟩, 2) → D.tup [.agg r.1.c, .int .i64 r.2] = .tup [.agg [.int .i64 0, .int .i64 0], .int .i64 2] := by rintro _ rfl; rfl
  have bad7 : ∀ {r : SpI × Int}, r = (⟨0, 0⟩, 7) → D.tup [.agg r.1.c, .int .i64 r.2] = .tup [.agg [.int .i64 0, .int .i64 0], .int .i64 7] := by rintro _ rfl; rfl
  have hv2 : ∀ {r : Int × Int} {x e : Int}, r = (x, e) → D.tup [.int .i64 r.1, .int .i64 r.2] = .tup [.int .i64 x, .int .i64 e] := by rintro _ _ _ rfl; rfl
  simp only [Craft.c, SpI.c] at oS oC oB oH ⊢
  cases hs : shortC c
  · rw [hs] at oS
    refine pure_of_wc (rs := [.tmp 12]) (m := 151) [] e11_ok (by kernel_rfl) Try.func8 rfl (by kernel_rfl) rfl rfl (by kernel_rfl) ?_
    simp only [RT, FS, ↓RE, okR, argEnv, Nat.reduceAdd, Nat.reduceSub, Nat.reduceLT, Nat.reduceLeDiff, Nat.reduceEqDiff, reduceIte, oS, z1, oC, oB, oH, gKi_eq, gSp_eq, ex_tup, build_span0, eql_span, neq_span, Bool.and_true, Bool.not_true, Int.reduceBEq, Int.reduceBNe, Int.reduceLT, beq_self_eq_true, bne_self_eq_false, Bool.and_self, decide_true, decide_false]
  rw [hs] at oS
  cases hb : craftB c
  · rw [hb] at oC
    rw [show RunBD c k w al wv = _ from bad2 (BoundsR_bad (by simp [hb]))] at oB
    rw [show RunHD c k m al wv = _ from hv2 (HeavR_bad (by simp [hb]))] at oH
    refine pure_of_wc (rs := [.tmp 12]) (m := 151) [] e11_ok (by kernel_rfl) Try.func8 rfl (by kernel_rfl) rfl rfl (by kernel_rfl) ?_
    simp only [RT, FS, ↓RE, okR, argEnv, Nat.reduceAdd, Nat.reduceSub, Nat.reduceLT, Nat.reduceLeDiff, Nat.reduceEqDiff, reduceIte, oS, z1, oC, oB, oH, gKi_eq, gSp_eq, ex_tup, build_span0, eql_span, neq_span, Bool.and_true, Bool.not_true, Int.reduceBEq, Int.reduceBNe, Int.reduceLT, beq_self_eq_true, bne_self_eq_false, Bool.and_self, decide_true, decide_false]
  rw [hb] at oC
  have hc := craft_ok hl hb
  cases hk : kindB k
  · rw [show RunBD c k w al wv = _ from bad2 (BoundsR_bad (by simp [hk]))] at oB
    rw [show RunHD c k m al wv = _ from hv2 (HeavR_bad (by simp [hk]))] at oH
    refine pure_of_wc (rs := [.tmp 12]) (m := 151) [] e11_ok (by kernel_rfl) Try.func8 rfl (by kernel_rfl) rfl rfl (by kernel_rfl) ?_
    simp only [RT, FS, ↓RE, okR, argEnv, Nat.reduceAdd, Nat.reduceSub, Nat.reduceLT, Nat.reduceLeDiff, Nat.reduceEqDiff, reduceIte, oS, z1, oC, oB, oH, gKi_eq, gSp_eq, ex_tup, build_span0, eql_span, neq_span, Bool.and_true, Bool.not_true, Int.reduceBEq, Int.reduceBNe, Int.reduceLT, beq_self_eq_true, bne_self_eq_false, Bool.and_self, decide_true, decide_false, hk]
  cases hcd : condB al wv
  · rw [show RunBD c k w al wv = _ from bad2 (BoundsR_bad (by simp [hcd]))] at oB
    rw [show RunHD c k m al wv = _ from hv2 (HeavR_bad (by simp [hcd]))] at oH
    refine pure_of_wc (rs := [.tmp 12]) (m := 151) [] e11_ok (by kernel_rfl) Try.func8 rfl (by kernel_rfl) rfl rfl (by kernel_rfl) ?_
    simp only [RT, FS, ↓RE, okR, argEnv, Nat.reduceAdd, Nat.reduceSub, Nat.reduceLT, Nat.reduceLeDiff, Nat.reduceEqDiff, reduceIte, oS, z1, oC, oB, oH, gKi_eq, gSp_eq, ex_tup, build_span0, eql_span, neq_span, Bool.and_true, Bool.not_true, Int.reduceBEq, Int.reduceBNe, Int.reduceLT, beq_self_eq_true, bne_self_eq_false, Bool.and_self, decide_true, decide_false, hk, z0, eC, hcd, Bool.and_false, Bool.false_and]
  have hal : alOk al := condB_al hcd
  have oRB := gBnd_eq (ok := fun c al => CraftOk c ∧ alOk al) BndD c k w al wv ⟨hc, hal⟩
  have oRH := gHv_eq (ok := fun c al => CraftOk c ∧ alOk al) RefHD c k m al wv ⟨hc, hal⟩
  simp only [Craft.c, SpI.c, RefHD] at oRB oRH
  by_cases hm1 : m < 0
  · rw [show RunHD c k m al wv = _ from hv2 (HeavR_bad (by rw [show rI m 0 20000 = false by simp [rI]; omega]; simp))] at oH
    cases hw : rS w.lo w.hi 0 100000
    · rw [show RunBD c k w al wv = _ from bad2 (BoundsR_bad (by simp [hw]))] at oB
      refine pure_of_wc (rs := [.tmp 12]) (m := 151) [] e11_ok (by kernel_rfl) Try.func8 rfl (by kernel_rfl) rfl rfl (by kernel_rfl) ?_
      simp only [RT, FS, ↓RE, okR, argEnv, Nat.reduceAdd, Nat.reduceSub, Nat.reduceLT, Nat.reduceLeDiff, Nat.reduceEqDiff, reduceIte, oS, z1, oC, oB, oH, gKi_eq, gSp_eq, ex_tup, build_span0, eql_span, neq_span, Bool.and_true, Bool.not_true, Int.reduceBEq, Int.reduceBNe, Int.reduceLT, beq_self_eq_true, bne_self_eq_false, Bool.and_self, decide_true, decide_false, hk, z0, eC, hcd, hm1, hw, Bool.false_and]
    rcases bounds_law hc hk hw hcd with ⟨hr, hq⟩ | ⟨s, hr, hq⟩
    · rw [show RunBD c k w al wv = _ from bad7 hq] at oB
      rw [show BndD c k w al wv = .tup [.agg [.int .i64 0, .int .i64 0], .bool false] by simp [BndD, hr, SpI.c]] at oRB
      refine pure_of_wc (rs := [.tmp 12]) (m := 151) [] e11_ok (by kernel_rfl) Try.func8 rfl (by kernel_rfl) rfl rfl (by kernel_rfl) ?_
      simp only [RT, FS, ↓RE, okR, argEnv, Nat.reduceAdd, Nat.reduceSub, Nat.reduceLT, Nat.reduceLeDiff, Nat.reduceEqDiff, reduceIte, oS, z1, oC, oB, oH, gKi_eq, gSp_eq, ex_tup, build_span0, eql_span, neq_span, Bool.and_true, Bool.not_true, Int.reduceBEq, Int.reduceBNe, Int.reduceLT, beq_self_eq_true, bne_self_eq_false, Bool.and_self, decide_true, decide_false, hk, z0, eC, hcd, hm1, hw, oRB]
    · rw [show RunBD c k w al wv = .tup [.agg [.int .i64 s.lo, .int .i64 s.hi], .int .i64 0] by simp [RunBD, hq, SpI.c]] at oB
      rw [show BndD c k w al wv = .tup [.agg [.int .i64 s.lo, .int .i64 s.hi], .bool true] by simp [BndD, hr, SpI.c]] at oRB
      refine pure_of_wc (rs := [.tmp 12]) (m := 151) [] e11_ok (by kernel_rfl) Try.func8 rfl (by kernel_rfl) rfl rfl (by kernel_rfl) ?_
      simp only [RT, FS, ↓RE, okR, argEnv, Nat.reduceAdd, Nat.reduceSub, Nat.reduceLT, Nat.reduceLeDiff, Nat.reduceEqDiff, reduceIte, oS, z1, oC, oB, oH, gKi_eq, gSp_eq, ex_tup, build_span0, eql_span, neq_span, Bool.and_true, Bool.not_true, Int.reduceBEq, Int.reduceBNe, Int.reduceLT, beq_self_eq_true, bne_self_eq_false, Bool.and_self, decide_true, decide_false, hk, z0, eC, hcd, hm1, hw, oRB]
  by_cases hm2 : 20000 < m
  · rw [show RunHD c k m al wv = _ from hv2 (HeavR_bad (by rw [show rI m 0 20000 = false by simp [rI]; omega]; simp))] at oH
    cases hw : rS w.lo w.hi 0 100000
    · rw [show RunBD c k w al wv = _ from bad2 (BoundsR_bad (by simp [hw]))] at oB
      refine pure_of_wc (rs := [.tmp 12]) (m := 151) [] e11_ok (by kernel_rfl) Try.func8 rfl (by kernel_rfl) rfl rfl (by kernel_rfl) ?_
      simp only [RT, FS, ↓RE, okR, argEnv, Nat.reduceAdd, Nat.reduceSub, Nat.reduceLT, Nat.reduceLeDiff, Nat.reduceEqDiff, reduceIte, oS, z1, oC, oB, oH, gKi_eq, gSp_eq, ex_tup, build_span0, eql_span, neq_span, Bool.and_true, Bool.not_true, Int.reduceBEq, Int.reduceBNe, Int.reduceLT, beq_self_eq_true, bne_self_eq_false, Bool.and_self, decide_true, decide_false, hk, z0, eC, hcd, hm1, hm2, hw, Bool.false_and]
    rcases bounds_law hc hk hw hcd with ⟨hr, hq⟩ | ⟨s, hr, hq⟩
    · rw [show RunBD c k w al wv = _ from bad7 hq] at oB
      rw [show BndD c k w al wv = .tup [.agg [.int .i64 0, .int .i64 0], .bool false] by simp [BndD, hr, SpI.c]] at oRB
      refine pure_of_wc (rs := [.tmp 12]) (m := 151) [] e11_ok (by kernel_rfl) Try.func8 rfl (by kernel_rfl) rfl rfl (by kernel_rfl) ?_
      simp only [RT, FS, ↓RE, okR, argEnv, Nat.reduceAdd, Nat.reduceSub, Nat.reduceLT, Nat.reduceLeDiff, Nat.reduceEqDiff, reduceIte, oS, z1, oC, oB, oH, gKi_eq, gSp_eq, ex_tup, build_span0, eql_span, neq_span, Bool.and_true, Bool.not_true, Int.reduceBEq, Int.reduceBNe, Int.reduceLT, beq_self_eq_true, bne_self_eq_false, Bool.and_self, decide_true, decide_false, hk, z0, eC, hcd, hm1, hm2, hw, oRB]
    · rw [show RunBD c k w al wv = .tup [.agg [.int .i64 s.lo, .int .i64 s.hi], .int .i64 0] by simp [RunBD, hq, SpI.c]] at oB
      rw [show BndD c k w al wv = .tup [.agg [.int .i64 s.lo, .int .i64 s.hi], .bool true] by simp [BndD, hr, SpI.c]] at oRB
      refine pure_of_wc (rs := [.tmp 12]) (m := 151) [] e11_ok (by kernel_rfl) Try.func8 rfl (by kernel_rfl) rfl rfl (by kernel_rfl) ?_
      simp only [RT, FS, ↓RE, okR, argEnv, Nat.reduceAdd, Nat.reduceSub, Nat.reduceLT, Nat.reduceLeDiff, Nat.reduceEqDiff, reduceIte, oS, z1, oC, oB, oH, gKi_eq, gSp_eq, ex_tup, build_span0, eql_span, neq_span, Bool.and_true, Bool.not_true, Int.reduceBEq, Int.reduceBNe, Int.reduceLT, beq_self_eq_true, bne_self_eq_false, Bool.and_self, decide_true, decide_false, hk, z0, eC, hcd, hm1, hm2, hw, oRB]
  rcases heav_law hc hk (show rI m 0 20000 = true by simp [rI]; omega) hcd with ⟨hr1, hq1⟩ | ⟨hr1, hq1⟩
  · rw [show RunHD c k m al wv = _ from hv2 hq1] at oH
    rw [hr1] at oRH
    cases hw : rS w.lo w.hi 0 100000
    · rw [show RunBD c k w al wv = _ from bad2 (BoundsR_bad (by simp [hw]))] at oB
      refine pure_of_wc (rs := [.tmp 12]) (m := 151) [] e11_ok (by kernel_rfl) Try.func8 rfl (by kernel_rfl) rfl rfl (by kernel_rfl) ?_
      simp only [RT, FS, ↓RE, okR, argEnv, Nat.reduceAdd, Nat.reduceSub, Nat.reduceLT, Nat.reduceLeDiff, Nat.reduceEqDiff, reduceIte, oS, z1, oC, oB, oH, gKi_eq, gSp_eq, ex_tup, build_span0, eql_span, neq_span, Bool.and_true, Bool.not_true, Int.reduceBEq, Int.reduceBNe, Int.reduceLT, beq_self_eq_true, bne_self_eq_false, Bool.and_self, decide_true, decide_false, hk, z0, eC, hcd, hm1, hm2, oRH, hng, hw, Bool.false_and]
    rcases bounds_law hc hk hw hcd with ⟨hr, hq⟩ | ⟨s, hr, hq⟩
    · rw [show RunBD c k w al wv = _ from bad7 hq] at oB
      rw [show BndD c k w al wv = .tup [.agg [.int .i64 0, .int .i64 0], .bool false] by simp [BndD, hr, SpI.c]] at oRB
      refine pure_of_wc (rs := [.tmp 12]) (m := 151) [] e11_ok (by kernel_rfl) Try.func8 rfl (by kernel_rfl) rfl rfl (by kernel_rfl) ?_
      simp only [RT, FS, ↓RE, okR, argEnv, Nat.reduceAdd, Nat.reduceSub, Nat.reduceLT, Nat.reduceLeDiff, Nat.reduceEqDiff, reduceIte, oS, z1, oC, oB, oH, gKi_eq, gSp_eq, ex_tup, build_span0, eql_span, neq_span, Bool.and_true, Bool.not_true, Int.reduceBEq, Int.reduceBNe, Int.reduceLT, beq_self_eq_true, bne_self_eq_false, Bool.and_self, decide_true, decide_false, hk, z0, eC, hcd, hm1, hm2, oRH, hng, hw, oRB]
    · rw [show RunBD c k w al wv = .tup [.agg [.int .i64 s.lo, .int .i64 s.hi], .int .i64 0] by simp [RunBD, hq, SpI.c]] at oB
      rw [show BndD c k w al wv = .tup [.agg [.int .i64 s.lo, .int .i64 s.hi], .bool true] by simp [BndD, hr, SpI.c]] at oRB
      refine pure_of_wc (rs := [.tmp 12]) (m := 151) [] e11_ok (by kernel_rfl) Try.func8 rfl (by kernel_rfl) rfl rfl (by kernel_rfl) ?_
      simp only [RT, FS, ↓RE, okR, argEnv, Nat.reduceAdd, Nat.reduceSub, Nat.reduceLT, Nat.reduceLeDiff, Nat.reduceEqDiff, reduceIte, oS, z1, oC, oB, oH, gKi_eq, gSp_eq, ex_tup, build_span0, eql_span, neq_span, Bool.and_true, Bool.not_true, Int.reduceBEq, Int.reduceBNe, Int.reduceLT, beq_self_eq_true, bne_self_eq_false, Bool.and_self, decide_true, decide_false, hk, z0, eC, hcd, hm1, hm2, oRH, hng, hw, oRB]
  · rw [show RunHD c k m al wv = _ from hv2 hq1] at oH
    have hn1 : ¬ RHeavI c k m al wv < 0 := by omega
    have hn2 : 0 ≤ RHeavI c k m al wv := hr1
    generalize RHeavI c k m al wv = X at *
    cases hw : rS w.lo w.hi 0 100000
    · rw [show RunBD c k w al wv = _ from bad2 (BoundsR_bad (by simp [hw]))] at oB
      refine pure_of_wc (rs := [.tmp 12]) (m := 151) [] e11_ok (by kernel_rfl) Try.func8 rfl (by kernel_rfl) rfl rfl (by kernel_rfl) ?_
      simp only [RT, FS, ↓RE, okR, argEnv, Nat.reduceAdd, Nat.reduceSub, Nat.reduceLT, Nat.reduceLeDiff, Nat.reduceEqDiff, reduceIte, oS, z1, oC, oB, oH, gKi_eq, gSp_eq, ex_tup, build_span0, eql_span, neq_span, Bool.and_true, Bool.not_true, Int.reduceBEq, Int.reduceBNe, Int.reduceLT, beq_self_eq_true, bne_self_eq_false, Bool.and_self, decide_true, decide_false, hk, z0, eC, hcd, hm1, hm2, oRH, hn1, hn2, hw, Bool.false_and]
    rcases bounds_law hc hk hw hcd with ⟨hr, hq⟩ | ⟨s, hr, hq⟩
    · rw [show RunBD c k w al wv = _ from bad7 hq] at oB
      rw [show BndD c k w al wv = .tup [.agg [.int .i64 0, .int .i64 0], .bool false] by simp [BndD, hr, SpI.c]] at oRB
      refine pure_of_wc (rs := [.tmp 12]) (m := 151) [] e11_ok (by kernel_rfl) Try.func8 rfl (by kernel_rfl) rfl rfl (by kernel_rfl) ?_
      simp only [RT, FS, ↓RE, okR, argEnv, Nat.reduceAdd, Nat.reduceSub, Nat.reduceLT, Nat.reduceLeDiff, Nat.reduceEqDiff, reduceIte, oS, z1, oC, oB, oH, gKi_eq, gSp_eq, ex_tup, build_span0, eql_span, neq_span, Bool.and_true, Bool.not_true, Int.reduceBEq, Int.reduceBNe, Int.reduceLT, beq_self_eq_true, bne_self_eq_false, Bool.and_self, decide_true, decide_false, hk, z0, eC, hcd, hm1, hm2, oRH, hn1, hn2, hw, oRB]
    · rw [show RunBD c k w al wv = .tup [.agg [.int .i64 s.lo, .int .i64 s.hi], .int .i64 0] by simp [RunBD, hq, SpI.c]] at oB
      rw [show BndD c k w al wv = .tup [.agg [.int .i64 s.lo, .int .i64 s.hi], .bool true] by simp [BndD, hr, SpI.c]] at oRB
      refine pure_of_wc (rs := [.tmp 12]) (m := 151) [] e11_ok (by kernel_rfl) Try.func8 rfl (by kernel_rfl) rfl rfl (by kernel_rfl) ?_
      simp only [RT, FS, ↓RE, okR, argEnv, Nat.reduceAdd, Nat.reduceSub, Nat.reduceLT, Nat.reduceLeDiff, Nat.reduceEqDiff, reduceIte, oS, z1, oC, oB, oH, gKi_eq, gSp_eq, ex_tup, build_span0, eql_span, neq_span, Bool.and_true, Bool.not_true, Int.reduceBEq, Int.reduceBNe, Int.reduceLT, beq_self_eq_true, bne_self_eq_false, Bool.and_self, decide_true, decide_false, hk, z0, eC, hcd, hm1, hm2, oRH, hn1, hn2, hw, oRB]
theorem runBounds_pure : ∀ Ds, TyL Try.prog Try.f8.params.toList Ds → Pure Try.prog 8 Ds (.bool true) := by
  intro Ds h
  rw [Try.params8] at h
  match Ds, h with
  | [_, _, _, _, _, _], ⟨⟨n, _, h1, e1⟩, ⟨n2, _, h2, e2⟩, ⟨n3, _, h3, e3⟩, ⟨n4, _, h4, e4⟩, ⟨n5, _, h5, e5⟩, ⟨n6, _, h6, e6⟩, _⟩ =>
    rw [Try.underlying24] at e1
    rw [Fz.und_71] at e2
    rw [Fz.und_3] at e3
    rw [Try.underlying30] at e4 e5 e6
    dsimp only at e1 e2 e3 e4 e5 e6
    obtain ⟨c, rfl, hl⟩ := tyCraft h1
    obtain ⟨k, rfl, _⟩ := tyInt Fz.und_71 h2
    obtain ⟨m, rfl, _⟩ := tyInt Fz.und_3 h3
    obtain ⟨w, rfl⟩ := tySpR h4
    obtain ⟨al, rfl⟩ := tySpR h5
    obtain ⟨wv, rfl⟩ := tySpR h6
    subst e1; cases e2; cases e3; subst e4; subst e5; subst e6
    exact runBounds_at c hl k m w al wv
end Go.Sx
