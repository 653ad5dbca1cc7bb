/- Own work: contracts of functions, used in the proof of a law. -/
import Derived.Test.YthljonnokmkagaaSxE34r
set_option linter.unusedVariables false
set_option linter.unusedSimpArgs false
namespace Go.Sx
open Go.Proofs
set_option maxRecDepth 10000

/-! Oracles -/
theorem AirW.c_inj {a b : AirW} (h : a.c = b.c) : a = b := by
  obtain ⟨⟨a1, a2⟩, a3, a4⟩ := a
  obtain ⟨⟨b1, b2⟩, b3, b4⟩ := b
  simp [AirW.c] at h
  obtain ⟨rfl, rfl, rfl, rfl⟩ := h
  rfl
theorem SpI.c_inj {a b : SpI} (h : a.c = b.c) : a = b := by
  obtain ⟨a1, a2⟩ := a
  obtain ⟨b1, b2⟩ := b
  simp [SpI.c] at h
  obtain ⟨rfl, rfl⟩ := h
  rfl
noncomputable def gCAW (ok : Craft → AirW → Int → Prop) (q : Craft → AirW → Int → D) : List D → Option D := orcF (fun p : Craft × AirW × Int => ok p.1 p.2.1 p.2.2) (fun p => [.agg p.1.c, .agg p.2.1.c, .int .i64 p.2.2]) (fun p => q p.1 p.2.1 p.2.2)
theorem gCAW_eq {ok : Craft → AirW → Int → Prop} (q : Craft → AirW → Int → D) (c : Craft) (a : AirW) (w : Int) (h : ok c a w) : gCAW ok q [.agg c.c, .agg a.c, .int .i64 w] = some (q c a w) :=
  orcF_eq (ok := fun p : Craft × AirW × Int => ok p.1 p.2.1 p.2.2) (dsf := fun p => [.agg p.1.c, .agg p.2.1.c, .int .i64 p.2.2]) (rf := fun p => q p.1 p.2.1 p.2.2) (c, a, w) h fun b hb => by
    simp only [List.cons.injEq, D.agg.injEq, D.int.injEq, true_and, and_true] at hb
    rw [Craft.c_inj hb.1, AirW.c_inj hb.2.1, hb.2.2]
theorem gCAW_ok {f : FuncId} {ok : Craft → AirW → Int → Prop} {q : Craft → AirW → Int → D} (h : ∀ c a w, ok c a w → Pure Try.prog f [.agg c.c, .agg a.c, .int .i64 w] (q c a w)) (ds : List D) (r : D) (hr : gCAW ok q ds = some r) : Pure Try.prog f ds r :=
  orcF_ok (fun p hp => h p.1 p.2.1 p.2.2 hp) ds r hr
noncomputable def gPart : List D → Option D := orcF (fun p : SpI × Int => spanOk p.1 ∧ 0 ≤ p.2 ∧ p.2 ≤ 100) (fun p => [.agg p.1.c, .int .i64 p.2]) (fun p => .int .i64 (partS p.1 p.2))
theorem gPart_eq {s : SpI} (hs : spanOk s) {p : Int} (hp : 0 ≤ p ∧ p ≤ 100) : gPart [.agg s.c, .int .i64 p] = some (.int .i64 (partS s p)) :=
  orcF_eq (ok := fun p : SpI × Int => spanOk p.1 ∧ 0 ≤ p.2 ∧ p.2 ≤ 100) (dsf := fun p => [.agg p.1.c, .int .i64 p.2]) (rf := fun p => .int .i64 (partS p.1 p.2)) (s, p) ⟨hs, hp⟩ fun b hb => by
    simp only [List.cons.injEq, D.agg.injEq, D.int.injEq, true_and, and_true] at hb
    rw [SpI.c_inj hb.1, hb.2]
noncomputable def gPct : List D → Option D := orcF (fun l : List Int => l.length ≤ 9223372036854775807) (fun l => [.sl (intL l)]) (fun l => .bool (l.all fun x => rI x 0 100))
theorem gPct_eq {l : List Int} (h : l.length ≤ 9223372036854775807) : gPct [.sl (intL l)] = some (.bool (l.all fun x => rI x 0 100)) :=
  orcF_eq (ok := fun l : List Int => l.length ≤ 9223372036854775807) (dsf := fun l => [.sl (intL l)]) (rf := fun l => .bool (l.all fun x => rI x 0 100)) l h fun b hb => by
    simp only [List.cons.injEq, D.sl.injEq, and_true] at hb
    rw [intL_inj hb]
def LossD (c : Craft) (a : AirW) (w : Int) : D := .tup [.agg (LossR c a w).1.c, .int .i64 (LossR c a w).2]
def RLossD (c : Craft) (a : AirW) (w : Int) : D := .agg (lossI c a w).c
noncomputable abbrev e8 : List (FuncId × (List D → Option D)) :=
  (38, gCAW (fun c _ _ => CraftL c) LossD) ::
  (42, gCAW (fun c a w => CraftOk c ∧ AirOk a ∧ rI w 1 8 = true) RLossD) ::
  (41, qB fun w => rI w 1 8) :: (28, gPart) :: (18, gPct) :: e7
theorem e8_ok : OkO Try.prog (mkO e8) :=
  mkO_ok (gCAW_ok fun c a w h => run_Loss_t c h a w) <| mkO_ok (gCAW_ok fun c a w h => ref3_Loss_t c h.1 a h.2.1 w h.2.2) <| mkO_ok (gInt1_ok ref_Way_t) <|
  mkO_ok (orcF_ok fun p h => part_t p.1 h.1 p.2 h.2) <| mkO_ok (orcF_ok fun l h => percents_t l h) <| e7_ok
theorem neq_span (a b c d : Int) : binD Try.prog .neq 30 (.agg [.int .i64 a, .int .i64 b]) (.agg [.int .i64 c, .int .i64 d]) = some (.bool (!((a == c) && ((b == d) && true)))) := by kernel_rfl
theorem build_span0 (h : H) : buildD Try.prog h 30 [] = some (.agg [.int .i64 0, .int .i64 0]) := by kernel_rfl

/-! RunLosses -/
set_option maxHeartbeats 4000000 in
theorem runLosses_at (c : Craft) (hl : CraftL c) (a : AirW) (w : Int) (l : List Int) (hll : l.length ≤ 9223372036854775807) :
    Pure Try.prog 7 [.agg c.c, .agg a.c, .int .i64 w, .sl (intL l)] (.bool true) := by
  have oS := gC1_eq (fun c => .bool (shortC c)) hl
  have oC := gCr_eq hl
  have oA := gAi_eq a.e.lo a.e.hi a.n.lo a.n.hi
  have oL := gCAW_eq (ok := fun c _ _ => CraftL c) LossD c a w hl
  have oP := gPct_eq hll
  have z1 := cstO_eq [] (.bool true)
  have eA : airB ⟨⟨a.e.lo, a.e.hi⟩, ⟨a.n.lo, a.n.hi⟩⟩ = airB a := rfl
  rw [eA] at oA
  simp only [Craft.c, AirW.c] at oS oC oA oL ⊢
  cases hs : shortC c
  · rw [hs] at oS
    refine pure_of_wc (rs := [.tmp 8]) (m := 98) [(6, [(10, false, false, [])]), (10, [(16, false, false, [])])] e8_ok (by kernel_rfl) Try.func7 rfl (by kernel_rfl) rfl rfl (by kernel_rfl) ?_
    simp only [RT, FS, ↓RE, okR, argEnv, Nat.reduceAdd, Nat.reduceSub, Nat.reduceLT, Nat.reduceLeDiff, Nat.reduceEqDiff, reduceIte, oS, z1]
  rw [hs] at oS
  by_cases h10 : 10 < l.length
  · have q10 : (10 < (l.length : Int)) = True := by simp; omega
    refine pure_of_wc (rs := [.tmp 8]) (m := 98) [(6, [(10, false, false, [])]), (10, [(16, false, false, [])])] e8_ok (by kernel_rfl) Try.func7 rfl (by kernel_rfl) rfl rfl (by kernel_rfl) ?_
    simp only [RT, FS, ↓RE, okR, argEnv, Nat.reduceAdd, Nat.reduceSub, Nat.reduceLT, Nat.reduceLeDiff, Nat.reduceEqDiff, reduceIte, oS, z1, intL_len, q10, decide_true]
  have q10 : (10 < (l.length : Int)) = False := by simp; omega
  have hbad : (craftB c && (airB a && rI w 1 8)) = false → LossR c a w = (⟨0, 0⟩, 2) := fun h => by unfold LossR; rw [h]; rfl
  cases hb : craftB c
  · have h1 := hbad (by simp [hb])
    rw [show LossD c a w = .tup [.agg [.int .i64 0, .int .i64 0], .int .i64 2] by simp only [LossD, h1, SpI.c]] at oL
    rw [hb] at oC
    refine pure_of_wc (rs := [.tmp 8]) (m := 98) [(6, [(10, false, false, [])]), (10, [(16, false, false, [])])] e8_ok (by kernel_rfl) Try.func7 rfl (by kernel_rfl) rfl rfl (by kernel_rfl) ?_
    simp only [RT, FS, ↓RE, okR, argEnv, Nat.reduceAdd, Nat.reduceSub, Nat.reduceLT, Nat.reduceLeDiff, Nat.reduceEqDiff, reduceIte, oS, z1, intL_len, q10, decide_false, oL, oC, ex_tup, build_span0, eql_span, Int.reduceBEq, Int.reduceBNe, beq_self_eq_true, bne_self_eq_false, Bool.and_self]
  rw [hb] at oC
  have hc := craft_ok hl hb
  cases ha : airB a
  · have h1 := hbad (by simp [ha])
    rw [show LossD c a w = .tup [.agg [.int .i64 0, .int .i64 0], .int .i64 2] by simp only [LossD, h1, SpI.c]] at oL
    rw [ha] at oA
    refine pure_of_wc (rs := [.tmp 8]) (m := 98) [(6, [(10, false, false, [])]), (10, [(16, false, false, [])])] e8_ok (by kernel_rfl) Try.func7 rfl (by kernel_rfl) rfl rfl (by kernel_rfl) ?_
    simp only [RT, FS, ↓RE, okR, argEnv, Nat.reduceAdd, Nat.reduceSub, Nat.reduceLT, Nat.reduceLeDiff, Nat.reduceEqDiff, reduceIte, oS, z1, intL_len, q10, decide_false, oL, oC, oA, ex_tup, build_span0, eql_span, Int.reduceBEq, Int.reduceBNe, beq_self_eq_true, bne_self_eq_false, Bool.and_self]
  rw [ha] at oA
  have hao := air_ok ha
  cases hw : rI w 1 8
  · have h1 := hbad (by simp [hw])
    rw [show LossD c a w = .tup [.agg [.int .i64 0, .int .i64 0], .int .i64 2] by simp only [LossD, h1, SpI.c]] at oL
    refine pure_of_wc (rs := [.tmp 8]) (m := 98) [(6, [(10, false, false, [])]), (10, [(16, false, false, [])])] e8_ok (by kernel_rfl) Try.func7 rfl (by kernel_rfl) rfl rfl (by kernel_rfl) ?_
    simp only [RT, FS, ↓RE, okR, argEnv, Nat.reduceAdd, Nat.reduceSub, Nat.reduceLT, Nat.reduceLeDiff, Nat.reduceEqDiff, reduceIte, oS, z1, intL_len, q10, decide_false, oL, oC, oA, gInt1_eq, hw, ex_tup, build_span0, eql_span, Int.reduceBEq, Int.reduceBNe, beq_self_eq_true, bne_self_eq_false, Bool.and_self]
  have h1 : LossR c a w = (lostI c a ⟨0, dxW w, dyW w⟩, 0) := by simp [LossR, hb, ha, hw]
  have oR := gCAW_eq (ok := fun c a w => CraftOk c ∧ AirOk a ∧ rI w 1 8 = true) RLossD c a w ⟨hc, hao, hw⟩
  rw [show RLossD c a w = .agg (lostI c a ⟨0, dxW w, dyW w⟩).c by simp only [RLossD, loss_eq hc]] at oR
  rw [show LossD c a w = .tup [.agg (lostI c a ⟨0, dxW w, dyW w⟩).c, .int .i64 0] by simp only [LossD, h1]] at oL
  simp only [Craft.c, AirW.c, SpI.c] at oR oL
  have hin := loss_in hc a w hw
  generalize lostI c a ⟨0, dxW w, dyW w⟩ = R at *
  by_cases h2 : l.length = 2
  rotate_left
  · have q2 : ((l.length : Int) != 2) = true := by simp; omega
    refine pure_of_wc (rs := [.tmp 8]) (m := 98) [(6, [(10, false, false, [])]), (10, [(16, false, false, [])])] e8_ok (by kernel_rfl) Try.func7 rfl (by kernel_rfl) rfl rfl (by kernel_rfl) ?_
    simp only [RT, FS, ↓RE, okR, argEnv, Nat.reduceAdd, Nat.reduceSub, Nat.reduceLT, Nat.reduceLeDiff, Nat.reduceEqDiff, reduceIte, oS, z1, intL_len, q10, decide_false, oL, oC, oA, oR, gInt1_eq, hw, ex_tup, neq_span, q2, Bool.and_true, Bool.not_true, Int.reduceBEq, Int.reduceBNe, beq_self_eq_true, bne_self_eq_false, Bool.and_self]
  have q2 : ((l.length : Int) != 2) = false := by simp; omega
  cases hp : l.all fun x => rI x 0 100
  · rw [hp] at oP
    refine pure_of_wc (rs := [.tmp 8]) (m := 98) [(6, [(10, false, false, [])]), (10, [(16, false, false, [])])] e8_ok (by kernel_rfl) Try.func7 rfl (by kernel_rfl) rfl rfl (by kernel_rfl) ?_
    simp only [RT, FS, ↓RE, okR, argEnv, Nat.reduceAdd, Nat.reduceSub, Nat.reduceLT, Nat.reduceLeDiff, Nat.reduceEqDiff, reduceIte, oS, z1, intL_len, q10, decide_false, oL, oC, oA, oR, oP, gInt1_eq, hw, ex_tup, neq_span, q2, Bool.and_true, Bool.not_true, Int.reduceBEq, Int.reduceBNe, beq_self_eq_true, bne_self_eq_false, Bool.and_self]
  rw [hp] at oP
  obtain ⟨p, q, rfl⟩ := list2 h2
  simp only [List.all_cons, List.all_nil, Bool.and_true, Bool.and_eq_true] at hp
  have bp := rI_le hp.1
  have bq := rI_le hp.2
  have he := hao.e
  have hn := hao.n
  have o1 := gPart_eq (s := a.e) ⟨by omega, by omega, by omega⟩ bp
  have o2 := gPart_eq (s := a.n) ⟨by omega, by omega, by omega⟩ bq
  have b1 := partS_in he.2.1 bp
  have b2 := partS_in hn.2.1 bq
  have o3 := gLost_eq hc hw (e := partS a.e p) (n := partS a.n q) ⟨by omega, by omega⟩ ⟨by omega, by omega⟩
  have hin2 := hin _ _ b1 b2
  have i0 : ∀ h, indexAddrD Try.prog h 25 (.sl (intL [p, q])) (.int .i64 0) = some (.ref [.int .i64 p] 0) := fun h => sI_ix (i := 0) rfl h
  have i1 : ∀ h, indexAddrD Try.prog h 25 (.sl (intL [p, q])) (.int .i64 1) = some (.ref [.int .i64 q] 0) := fun h => sI_ix (i := 1) rfl h
  simp only [Craft.c, SpI.c] at o1 o2 o3
  generalize lostP c w (partS a.e p) (partS a.n q) = N at *
  have g1 := hin2.1
  have g2 := hin2.2
  refine pure_of_wc (rs := [.tmp 8]) (m := 98) [(6, [(10, false, false, [])]), (10, [(16, false, false, [])])] e8_ok (by kernel_rfl) Try.func7 rfl (by kernel_rfl) rfl rfl (by kernel_rfl) ?_
  simp only [RT, FS, ↓RE, okR, argEnv, Nat.reduceAdd, Nat.reduceSub, Nat.reduceLT, Nat.reduceLeDiff, Nat.reduceEqDiff, reduceIte, oS, z1, intL_len, q10, decide_false, decide_true, oL, oC, oA, oR, oP, o1, o2, o3, i0, i1, g1, g2, gInt1_eq, hw, ex_tup, neq_span, q2, Bool.and_true, Bool.not_true, Int.reduceBEq, Int.reduceBNe, beq_self_eq_true, bne_self_eq_false, Bool.and_self]
  simp [BR]
theorem runLosses_pure : ∀ Ds, TyL Try.prog Try.f7.params.toList Ds → Pure Try.prog 7 Ds (.bool true) := by
  intro Ds h
  rw [Try.params7] at h
  match Ds, h with
  | [_, _, _, _], ⟨⟨n, _, h1, e1⟩, ⟨n2, _, h2, e2⟩, ⟨n3, _, h3, e3⟩, ⟨n4, _, h4, e4⟩, _⟩ =>
    rw [Try.underlying24] at e1
    rw [Try.underlying32] at e2
    rw [Fz.und_46] at e3
    rw [Fz.und_25] at e4
    dsimp only at e1 e2 e3 e4
    obtain ⟨c, rfl, hl⟩ := tyCraft h1
    obtain ⟨a, rfl⟩ := tyAir h2
    obtain ⟨w, rfl, _⟩ := tyInt Fz.und_46 h3
    obtain ⟨l, rfl, hll⟩ := tyInts h4
    subst e1; subst e2; cases e3; cases e4
    exact runLosses_at c hl a w l hll
end Go.Sx
