/- Own work: contracts of functions, used in the proof of a law. -/
import Derived.Test.YthljonnokmkagaaSxEl
import Derived.Test.YthljonnokmkagaaSxEi
set_option linter.unusedVariables false
set_option linter.unusedSimpArgs false
namespace Go.Sx
open Go.Proofs
set_option maxRecDepth 10000

noncomputable abbrev qLeg := gCLA (β := List FixW) (fun c l _ fs => CraftL c ∧ LandL l ∧ fs.length ≤ 9223372036854775807) (fun fs => [.sl (fixL fs)]) (fun c l a fs => .tup [.int .i64 (LegR c l a fs).1, .int .i64 (LegR c l a fs).2])
theorem fixL_inj (a b : List FixW) (h : [D.sl (fixL a)] = [D.sl (fixL b)]) : a = b := by
  simp only [List.cons.injEq, D.sl.injEq, and_true] at h
  refine map_inj (fun x y e => ?_) h
  obtain ⟨x1, x2, x3, x4⟩ := x; obtain ⟨y1, y2, y3, y4⟩ := y
  simp [enFix] at e
  obtain ⟨rfl, rfl, rfl, rfl⟩ := e
  rfl
noncomputable abbrev nJ : List (FuncId × (List D → Option D)) := (63, qLeg) :: nC
theorem nJ_ok : OkO Try.prog (mkO nJ) := mkO_ok (gCLA_ok _ _ _ fun c l a fs h => run_Leg_t c h.1 l h.2.1 a fs h.2.2) <| nC_ok
theorem cellL_B {l : LandM} (hb : landB l = true) (x : Int) : cellL l x = cellB l x := by
  simp only [cellB, hb, cellL, rI, Bool.true_and]
  congr 1
  simp only [decide_eq_decide]; omega
theorem tyFix {n : Nat} {ds : List D} (h : TyD Try.prog n 99 ds) : ∃ f : FixW, ds = enFix.d f := by
  obtain ⟨hl, m, hf⟩ := tySt Try.underlying99 (by decide +kernel) h
  obtain ⟨a, b, c, d, rfl⟩ := list4 (hl.trans (by kernel_rfl))
  obtain ⟨x, hx, _⟩ := tyInt Fz.und_3 (hf 0 _ rfl)
  obtain ⟨y, hy, _⟩ := tyInt Fz.und_3 (hf 1 _ rfl)
  obtain ⟨z, hz⟩ := tySpR (hf 2 _ rfl)
  cases hx; cases hy; cases hz
  exact ⟨⟨x, y, z⟩, rfl⟩
theorem tyFixs {n : Nat} {ds : List D} (h : TyD Try.prog n 96 ds) : ∃ l : List FixW, ds = [.sl (fixL l)] ∧ l.length ≤ 9223372036854775807 :=
  tyEn (E := enFix) Fz.und_96 (by decide +kernel) (fun _ _ h => tyFix h) h

def eF (c : Craft) (l : LandM) (a : AirW) (fs : List FixW) : Int := match fs.find? (fun f => startE c l a f.w.hi true != 0) with
  | some f => startE c l a f.w.hi true
  | none => 0
theorem eF_ne {c : Craft} {l : LandM} {a : AirW} {fs : List FixW} (h : eF c l a fs ≠ 0) : ∃ f, fs.find? (fun f => startE c l a f.w.hi true != 0) = some f ∧ eF c l a fs = startE c l a f.w.hi true := by
  unfold eF at h ⊢
  cases hf : fs.find? (fun f => startE c l a f.w.hi true != 0) with
  | none => rw [hf] at h; exact absurd rfl h
  | some f => exact ⟨f, rfl, rfl⟩
theorem eF_none {c : Craft} {l : LandM} {a : AirW} {fs : List FixW} (h : eF c l a fs = 0) : fs.find? (fun f => startE c l a f.w.hi true != 0) = none := by
  unfold eF at h
  cases hf : fs.find? (fun f => startE c l a f.w.hi true != 0) with
  | none => rfl
  | some f =>
    rw [hf] at h
    have := List.find?_some hf
    dsimp only at h
    simp [h] at this
theorem eF_zero {c : Craft} {l : LandM} {a : AirW} {fs : List FixW} (h : eF c l a fs = 0) : ∀ f ∈ fs, startE c l a f.w.hi true = 0 := fun f hf => by
  have := List.find?_eq_none.1 (eF_none h) f hf
  simpa using this
theorem eF_pre {c : Craft} {l : LandM} {a : AirW} {fs gs : List FixW} (hp : fs <+: gs) (h : eF c l a fs ≠ 0) : eF c l a gs = eF c l a fs := by
  obtain ⟨f, hf, he⟩ := eF_ne h
  obtain ⟨t, rfl⟩ := hp
  rw [he]
  unfold eF
  rw [List.find?_append, hf]
  rfl
theorem eF_snoc {c : Craft} {l : LandM} {a : AirW} {fs : List FixW} {f : FixW} (h : eF c l a fs = 0) : eF c l a (fs ++ [f]) = startE c l a f.w.hi true := by
  unfold eF
  rw [List.find?_append, eF_none h]
  by_cases hs : startE c l a f.w.hi true = 0
  · simp [List.find?, hs]
  · have hb : (startE c l a f.w.hi true != 0) = true := by simpa using hs
    simp [List.find?, hb]
theorem legF_bad {c : Craft} {l : LandM} {a : AirW} {fs : List FixW} (h : eF c l a fs ≠ 0) : legF c a l fs = (0, eF c l a fs) := by
  obtain ⟨f, hf, he⟩ := eF_ne h
  rw [he, legF, hf]
theorem legF_ok {c : Craft} {l : LandM} {a : AirW} {fs : List FixW} (h : eF c l a fs = 0) : legF c a l fs = (firstI (badF c a l) fs 0, 0) := by
  rw [legF, eF_none h]
theorem firstI_spec {α : Type} (p : α → Bool) : ∀ (l : List α) (j : Nat), (firstI p l j = -1 ∧ ∀ x ∈ l, p x = false) ∨ ∃ k x, firstI p l j = ((j + k : Nat) : Int) ∧ l[k]? = some x ∧ p x = true ∧ ∀ i y, i < k → l[i]? = some y → p y = false
  | [], j => .inl ⟨rfl, fun x h => by cases h⟩
  | x :: r, j => by
    simp only [firstI]
    by_cases h : p x = true
    · exact .inr ⟨0, x, by simp [h], rfl, h, fun i y hi => by omega⟩
    · have h' : p x = false := by simpa using h
      rw [if_neg h]
      rcases firstI_spec p r (j + 1) with ⟨e, hn⟩ | ⟨k, y, e, hk, hy, hn⟩
      · refine .inl ⟨e, fun z hz => ?_⟩
        rcases List.mem_cons.1 hz with rfl | hz
        · exact h'
        · exact hn z hz
      · refine .inr ⟨k + 1, y, by rw [e]; congr 1; omega, by simpa using hk, hy, fun i z hi hz => ?_⟩
        cases i with
        | zero => simp at hz; subst hz; exact h'
        | succ i => exact hn i z (by omega) (by simpa using hz)

theorem firstI_neg {α : Type} (p : α → Bool) : ∀ (l : List α) (j : Nat), firstI p l j < 0 → firstI p l j = -1
  | [], _, _ => rfl
  | x :: r, j, h => by
    simp only [firstI] at h ⊢
    split at h
    · omega
    · rename_i hp; rw [if_neg hp]; exact firstI_neg p r (j + 1) h
theorem firstI_pre {α : Type} (p : α → Bool) : ∀ (l l' : List α) (j : Nat), ∀ _ : l <+: l', 0 ≤ firstI p l j → firstI p l' j = firstI p l j
  | [], _, _, _, h => by simp [firstI] at h
  | x :: r, l', j, ⟨t, ht⟩, h => by
    subst ht
    simp only [List.cons_append, firstI] at h ⊢
    by_cases hp : p x = true
    · simp [hp]
    · rw [if_neg hp] at h ⊢
      rw [if_neg hp]
      exact firstI_pre p r (r ++ t) (j + 1) ⟨t, rfl⟩ h

/-! RunLegs -/
set_option maxHeartbeats 16000000 in
theorem runLegs_at (c : Craft) (hl : CraftL c) (l : LandM) (ll : LandL l) (a : AirW) (fs : List FixW) (hfl : fs.length ≤ 9223372036854775807) :
    Pure Try.prog 13 [.agg c.c, .agg l.c, .agg a.c, .sl (fixL fs)] (.bool true) := by
  have oS := gC1_eq (fun c => .bool (shortC c)) hl
  have oT := gL1_eq (fun l => .bool (tinyL l)) ll
  have oLa := gLa_eq ll
  have oCr := gCr_eq hl
  have oAi := gAi_eq a.e.lo a.e.hi a.n.lo a.n.hi
  have oAi' : airB ⟨⟨a.e.lo, a.e.hi⟩, ⟨a.n.lo, a.n.hi⟩⟩ = airB a := rfl
  rw [oAi'] at oAi
  have oG := gCLA_eq (β := List FixW) (fun c l _ fs => CraftL c ∧ LandL l ∧ fs.length ≤ 9223372036854775807) (fun fs => [.sl (fixL fs)]) (fun c l a fs => .tup [.int .i64 (LegR c l a fs).1, .int .i64 (LegR c l a fs).2]) fixL_inj (c := c) (l := l) (a := a) (b := fs) ⟨hl, ll, hfl⟩
  have oE := fun (w x h : Int) => gCLA_eq (β := Int × Int × Int) (fun c l a _ => okL c l a) rs3 (fun c l a p => EscD c l a p.1 p.2.1 p.2.2) rs3_inj (c := c) (l := l) (a := a) (b := (w, x, h)) ⟨hl, ll⟩
  have oA := fun w => gCLA_eq (β := Int × Bool) (fun c l a _ => okL c l a) rs1b (fun c l a p => .int .i64 (startE c l a p.1 p.2)) rs1b_inj (c := c) (l := l) (a := a) (b := (w, true)) ⟨hl, ll⟩
  have oC := fun x => gL2_eq (fun l x => .bool (cellL l x)) ll x
  have z1 := cstO_eq [] (.bool true)
  simp only [rs1b, rs3] at oA oE
  have hlc : l.c = [.int .i64 l.wide, .int .i64 l.deep, .sl (intL l.ground), .sl (boolL l.water), .int .i64 l.clear] := rfl
  rw [hlc] at oT oLa oG ⊢
  simp only [hlc] at oA oE oC
  have lc : ∀ m, D.ltL m c.c = true := fun m => by simp [Craft.c, D.ltL, D.lt]
  have la : ∀ m, D.ltL m a.c = true := fun m => by simp [AirW.c, D.ltL, D.lt]
  simp only [Craft.c, AirW.c] at oS oCr oAi oG oE oA ⊢
  refine pure_of_pieces (rs := [.tmp 8]) (m := 223) [(10, [(26, false, false, [])]), (15, [(11, false, false, [])]), (25, [(14, false, false, [])])] nJ_ok (by kernel_rfl) Try.func13 rfl (by kernel_rfl) rfl rfl (by kernel_rfl) ?_
  refine awp_peel (T := [(10, [(26, false, false, [])]), (15, [(11, false, false, [])]), (25, [(14, false, false, [])])]) nJ_ok (by kernel_rfl) (by kernel_rfl) ?_
  simp only [RT, FS, ↓RE, okR, argEnv, Nat.reduceAdd, Nat.reduceSub, Nat.reduceLT, Nat.reduceLeDiff, Nat.reduceEqDiff, reduceIte]
  refine awp_cut nJ_ok (by kernel_rfl) [(3, .sl (fixL fs)), (4, .ptr 0 0), (5, .ptr 1 0), (6, .ptr 2 0)] [(2, .box a.c), (1, .box l.c), (0, .box c.c)] 3 223 (T := [(10, [(26, false, false, [])]), (15, [(11, false, false, [])]), (25, [(14, false, false, [])])]) (by kernel_rfl) ?_ ?_
  · cases hs : shortC c
    · rw [hs] at oS
      simp only [RT, FS, ↓RE, okR, argEnv, Nat.reduceAdd, Nat.reduceSub, Nat.reduceLT, Nat.reduceLeDiff, Nat.reduceEqDiff, reduceIte, ex_tup, fixL_len, intL_len, Bool.and_true, Bool.not_true, Bool.not_false, Int.reduceBEq, Int.reduceBNe, beq_self_eq_true, bne_self_eq_false, Bool.and_self, decide_true, decide_false, hlc, Craft.c, AirW.c, z1, gInt1_eq, oS]
    rw [hs] at oS
    cases ht : tinyL l
    · rw [ht] at oT
      simp only [RT, FS, ↓RE, okR, argEnv, Nat.reduceAdd, Nat.reduceSub, Nat.reduceLT, Nat.reduceLeDiff, Nat.reduceEqDiff, reduceIte, ex_tup, fixL_len, intL_len, Bool.and_true, Bool.not_true, Bool.not_false, Int.reduceBEq, Int.reduceBNe, beq_self_eq_true, bne_self_eq_false, Bool.and_self, decide_true, decide_false, hlc, Craft.c, AirW.c, z1, gInt1_eq, oS, oT]
    rw [ht] at oT
    have tail : ∀ b1 : Bool, True := fun _ => trivial
    clear tail
    cases hb : landB l
    · rw [hb] at oLa
      by_cases q1 : 40 < fs.length
      · have q1' : decide (40 < (fs.length : Int)) = true := by simp; omega
        by_cases q2 : fs.length ≤ 100
        · have q2' : decide ((fs.length : Int) ≤ 100) = true := by simp; omega
          simp only [RT, FS, ↓RE, okR, argEnv, Nat.reduceAdd, Nat.reduceSub, Nat.reduceLT, Nat.reduceLeDiff, Nat.reduceEqDiff, reduceIte, ex_tup, fixL_len, intL_len, Bool.and_true, Bool.not_true, Bool.not_false, Int.reduceBEq, Int.reduceBNe, beq_self_eq_true, bne_self_eq_false, Bool.and_self, decide_true, decide_false, hlc, Craft.c, AirW.c, z1, gInt1_eq, oS, oT, oLa, q1', q2']
        · have q2' : decide ((fs.length : Int) ≤ 100) = false := decide_eq_false (by omega)
          by_cases q3 : 110 < fs.length
          · have q3' : decide (110 < (fs.length : Int)) = true := by simp; omega
            simp only [RT, FS, ↓RE, okR, argEnv, Nat.reduceAdd, Nat.reduceSub, Nat.reduceLT, Nat.reduceLeDiff, Nat.reduceEqDiff, reduceIte, ex_tup, fixL_len, intL_len, Bool.and_true, Bool.not_true, Bool.not_false, Int.reduceBEq, Int.reduceBNe, beq_self_eq_true, bne_self_eq_false, Bool.and_self, decide_true, decide_false, hlc, Craft.c, AirW.c, z1, gInt1_eq, oS, oT, oLa, q1', q2', q3']
          · have q3' : decide (110 < (fs.length : Int)) = false := decide_eq_false (by omega)
            simp only [RT, FS, ↓RE, okR, argEnv, Nat.reduceAdd, Nat.reduceSub, Nat.reduceLT, Nat.reduceLeDiff, Nat.reduceEqDiff, reduceIte, ex_tup, fixL_len, intL_len, Bool.and_true, Bool.not_true, Bool.not_false, Int.reduceBEq, Int.reduceBNe, beq_self_eq_true, bne_self_eq_false, Bool.and_self, decide_true, decide_false, hlc, Craft.c, AirW.c, z1, gInt1_eq, oS, oT, oLa, q1', q2', q3']
            simp [headW, heapW, envW, blkLt, D.ltL, D.lt, look, hget, Sx.hset, hlc, lc, la, Craft.c, AirW.c]
      · have q1' : decide (40 < (fs.length : Int)) = false := decide_eq_false (by omega)
        have q3' : decide (110 < (fs.length : Int)) = false := decide_eq_false (by omega)
        simp only [RT, FS, ↓RE, okR, argEnv, Nat.reduceAdd, Nat.reduceSub, Nat.reduceLT, Nat.reduceLeDiff, Nat.reduceEqDiff, reduceIte, ex_tup, fixL_len, intL_len, Bool.and_true, Bool.not_true, Bool.not_false, Int.reduceBEq, Int.reduceBNe, beq_self_eq_true, bne_self_eq_false, Bool.and_self, decide_true, decide_false, hlc, Craft.c, AirW.c, z1, gInt1_eq, oS, oT, oLa, q1', q3']
        simp [headW, heapW, envW, blkLt, D.ltL, D.lt, look, hget, Sx.hset, hlc, lc, la, Craft.c, AirW.c]
    · rw [hb] at oLa
      by_cases q0 : 30 < l.ground.length
      · have q0' : decide (30 < (l.ground.length : Int)) = true := by simp; omega
        simp only [RT, FS, ↓RE, okR, argEnv, Nat.reduceAdd, Nat.reduceSub, Nat.reduceLT, Nat.reduceLeDiff, Nat.reduceEqDiff, reduceIte, ex_tup, fixL_len, intL_len, Bool.and_true, Bool.not_true, Bool.not_false, Int.reduceBEq, Int.reduceBNe, beq_self_eq_true, bne_self_eq_false, Bool.and_self, decide_true, decide_false, hlc, Craft.c, AirW.c, z1, gInt1_eq, oS, oT, oLa, q0']
      have q0' : decide (30 < (l.ground.length : Int)) = false := decide_eq_false (by omega)
      by_cases q1 : 40 < fs.length
      · have q1' : decide (40 < (fs.length : Int)) = true := by simp; omega
        by_cases q2 : fs.length ≤ 100
        · have q2' : decide ((fs.length : Int) ≤ 100) = true := by simp; omega
          simp only [RT, FS, ↓RE, okR, argEnv, Nat.reduceAdd, Nat.reduceSub, Nat.reduceLT, Nat.reduceLeDiff, Nat.reduceEqDiff, reduceIte, ex_tup, fixL_len, intL_len, Bool.and_true, Bool.not_true, Bool.not_false, Int.reduceBEq, Int.reduceBNe, beq_self_eq_true, bne_self_eq_false, Bool.and_self, decide_true, decide_false, hlc, Craft.c, AirW.c, z1, gInt1_eq, oS, oT, oLa, q0', q1', q2']
        · have q2' : decide ((fs.length : Int) ≤ 100) = false := decide_eq_false (by omega)
          by_cases q3 : 110 < fs.length
          · have q3' : decide (110 < (fs.length : Int)) = true := by simp; omega
            simp only [RT, FS, ↓RE, okR, argEnv, Nat.reduceAdd, Nat.reduceSub, Nat.reduceLT, Nat.reduceLeDiff, Nat.reduceEqDiff, reduceIte, ex_tup, fixL_len, intL_len, Bool.and_true, Bool.not_true, Bool.not_false, Int.reduceBEq, Int.reduceBNe, beq_self_eq_true, bne_self_eq_false, Bool.and_self, decide_true, decide_false, hlc, Craft.c, AirW.c, z1, gInt1_eq, oS, oT, oLa, q0', q1', q2', q3']
          · have q3' : decide (110 < (fs.length : Int)) = false := decide_eq_false (by omega)
            simp only [RT, FS, ↓RE, okR, argEnv, Nat.reduceAdd, Nat.reduceSub, Nat.reduceLT, Nat.reduceLeDiff, Nat.reduceEqDiff, reduceIte, ex_tup, fixL_len, intL_len, Bool.and_true, Bool.not_true, Bool.not_false, Int.reduceBEq, Int.reduceBNe, beq_self_eq_true, bne_self_eq_false, Bool.and_self, decide_true, decide_false, hlc, Craft.c, AirW.c, z1, gInt1_eq, oS, oT, oLa, q0', q1', q2', q3']
            simp [headW, heapW, envW, blkLt, D.ltL, D.lt, look, hget, Sx.hset, hlc, lc, la, Craft.c, AirW.c]
      · have q1' : decide (40 < (fs.length : Int)) = false := decide_eq_false (by omega)
        have q3' : decide (110 < (fs.length : Int)) = false := decide_eq_false (by omega)
        simp only [RT, FS, ↓RE, okR, argEnv, Nat.reduceAdd, Nat.reduceSub, Nat.reduceLT, Nat.reduceLeDiff, Nat.reduceEqDiff, reduceIte, ex_tup, fixL_len, intL_len, Bool.and_true, Bool.not_true, Bool.not_false, Int.reduceBEq, Int.reduceBNe, beq_self_eq_true, bne_self_eq_false, Bool.and_self, decide_true, decide_false, hlc, Craft.c, AirW.c, z1, gInt1_eq, oS, oT, oLa, q0', q1', q3']
        simp [headW, heapW, envW, blkLt, D.ltL, D.lt, look, hget, Sx.hset, hlc, lc, la, Craft.c, AirW.c]
  refine awp_peel (T := [(10, [(26, false, false, [])]), (15, [(11, false, false, [])]), (25, [(14, false, false, [])])]) nJ_ok (by kernel_rfl) (by kernel_rfl) ?_
  simp only [RT, FS, ↓RE, okR, argEnv, Nat.reduceAdd, Nat.reduceSub, Nat.reduceLT, Nat.reduceLeDiff, Nat.reduceEqDiff, reduceIte, RM, ex_tup, fixL_len, intL_len, Bool.and_true, Bool.not_true, Bool.not_false, Int.reduceBEq, Int.reduceBNe, beq_self_eq_true, bne_self_eq_false, Bool.and_self, decide_true, decide_false, hlc, Craft.c, AirW.c, z1, gInt1_eq, oG]
  refine awp_peel (T := [(10, [(26, false, false, [])]), (15, [(11, false, false, [])]), (25, [(14, false, false, [])])]) nJ_ok (by kernel_rfl) (by kernel_rfl) ?_
  simp only [RT, FS, ↓RE, okR, argEnv, Nat.reduceAdd, Nat.reduceSub, Nat.reduceLT, Nat.reduceLeDiff, Nat.reduceEqDiff, reduceIte, RM]
  obtain ⟨L1, hL1⟩ : ∃ L1, (LegR c l a fs).1 = L1 := ⟨_, rfl⟩
  obtain ⟨L2, hL2⟩ : ∃ L2, (LegR c l a fs).2 = L2 := ⟨_, rfl⟩
  simp only [hL1, hL2]
  refine awp_cut nJ_ok (by kernel_rfl) [(3, .sl (fixL fs)), (4, .ptr 0 0), (5, .ptr 1 0), (6, .ptr 2 0), (9, .int .i64 L1), (10, .int .i64 L2), (11, .int .i64 (if craftB c && (landB l && airB a) then 0 else 2))] [(2, .box a.c), (1, .box l.c), (0, .box c.c)] 3 223 (T := [(10, [(26, false, false, [])]), (15, [(11, false, false, [])]), (25, [(14, false, false, [])])]) (by kernel_rfl) ?_ ?_
  · cases h1 : craftB c
    · rw [h1] at oCr
      simp only [RT, FS, ↓RE, okR, argEnv, Nat.reduceAdd, Nat.reduceSub, Nat.reduceLT, Nat.reduceLeDiff, Nat.reduceEqDiff, reduceIte, RM, ex_tup, fixL_len, intL_len, Bool.and_true, Bool.not_true, Bool.not_false, Int.reduceBEq, Int.reduceBNe, beq_self_eq_true, bne_self_eq_false, Bool.and_self, decide_true, decide_false, hlc, Craft.c, AirW.c, z1, gInt1_eq, oCr]
      simp [headW, heapW, envW, blkLt, D.ltL, D.lt, look, hget, Sx.hset, hlc, lc, la, Craft.c, AirW.c]
    rw [h1] at oCr
    cases h2 : landB l
    · rw [h2] at oLa
      simp only [RT, FS, ↓RE, okR, argEnv, Nat.reduceAdd, Nat.reduceSub, Nat.reduceLT, Nat.reduceLeDiff, Nat.reduceEqDiff, reduceIte, RM, ex_tup, fixL_len, intL_len, Bool.and_true, Bool.not_true, Bool.not_false, Int.reduceBEq, Int.reduceBNe, beq_self_eq_true, bne_self_eq_false, Bool.and_self, decide_true, decide_false, hlc, Craft.c, AirW.c, z1, gInt1_eq, oCr, oLa]
      simp [headW, heapW, envW, blkLt, D.ltL, D.lt, look, hget, Sx.hset, hlc, lc, la, Craft.c, AirW.c]
    rw [h2] at oLa
    cases h3 : airB a
    · rw [h3] at oAi
      simp only [RT, FS, ↓RE, okR, argEnv, Nat.reduceAdd, Nat.reduceSub, Nat.reduceLT, Nat.reduceLeDiff, Nat.reduceEqDiff, reduceIte, RM, ex_tup, fixL_len, intL_len, Bool.and_true, Bool.not_true, Bool.not_false, Int.reduceBEq, Int.reduceBNe, beq_self_eq_true, bne_self_eq_false, Bool.and_self, decide_true, decide_false, hlc, Craft.c, AirW.c, z1, gInt1_eq, oCr, oLa, oAi]
      simp [headW, heapW, envW, blkLt, D.ltL, D.lt, look, hget, Sx.hset, hlc, lc, la, Craft.c, AirW.c]
    · rw [h3] at oAi
      simp only [RT, FS, ↓RE, okR, argEnv, Nat.reduceAdd, Nat.reduceSub, Nat.reduceLT, Nat.reduceLeDiff, Nat.reduceEqDiff, reduceIte, RM, ex_tup, fixL_len, intL_len, Bool.and_true, Bool.not_true, Bool.not_false, Int.reduceBEq, Int.reduceBNe, beq_self_eq_true, bne_self_eq_false, Bool.and_self, decide_true, decide_false, hlc, Craft.c, AirW.c, z1, gInt1_eq, oCr, oLa, oAi]
      simp [headW, heapW, envW, blkLt, D.ltL, D.lt, look, hget, Sx.hset, hlc, lc, la, Craft.c, AirW.c]
  refine awp_cut nJ_ok (by kernel_rfl) [(3, .sl (fixL fs)), (4, .ptr 0 0), (5, .ptr 1 0), (6, .ptr 2 0), (9, .int .i64 L1), (10, .int .i64 L2), (11, .int .i64 (if legFine c l a fs then 0 else 2))] [(2, .box a.c), (1, .box l.c), (0, .box c.c)] 3 223 (T := [(10, [(26, false, false, [])]), (15, [(11, false, false, [])]), (25, [(14, false, false, [])])]) (by kernel_rfl) ?_ ?_
  · have hbase : legFine c l a fs = ((craftB c && (landB l && airB a)) && fs.all (fixB l)) := by simp [legFine, Bool.and_assoc]
    rw [hbase]
    obtain ⟨B, hB⟩ : ∃ B, (craftB c && (landB l && airB a)) = B := ⟨_, rfl⟩
    rw [hB]
    have hcell : B = true → ∀ x, cellB l x = cellL l x := fun e x => by
      rw [e] at hB
      simp only [Bool.and_eq_true] at hB
      rw [cellL_B hB.2.1]
    simp only [RT, FS, ↓RE, okR, argEnv, Nat.reduceAdd, Nat.reduceSub, Nat.reduceLT, Nat.reduceLeDiff, Nat.reduceEqDiff, reduceIte, RM]
    refine loopV (ι := Nat) nJ_ok [(10, [(26, false, false, [])]), (15, [(11, false, false, [])]), (25, [(14, false, false, [])])] (fun i => [(3, .sl (fixL fs)), (4, .ptr 0 0), (5, .ptr 1 0), (6, .ptr 2 0), (9, .int .i64 L1), (10, .int .i64 L2), (11, .int .i64 (if B && (fs.take i).all (fixB l) then 0 else 2)), (12, .int .i64 (i : Int))])
      (fun i => [(2, .box a.c), (1, .box l.c), (0, .box c.c)]) 3 (fun i => i ≤ fs.length) (fun i => fs.length - i) 0 (by kernel_rfl) (by kernel_rfl) (Nat.zero_le _) ?_ ?_
    · simp [headW, heapW, envW, blkLt, D.ltL, D.lt, look, hget, hlc, lc, la, Craft.c, AirW.c]
    intro i hi
    cases hP : (B && (fs.take i).all (fixB l))
    · have hall : (B && fs.all (fixB l)) = false := by
        cases hBv : B
        · rfl
        · rw [hBv] at hP
          simp only [Bool.true_and] at hP ⊢
          rw [← Bool.not_eq_true] at hP ⊢
          intro h
          apply hP
          rw [List.all_eq_true] at h ⊢
          exact fun x hx => h x (List.mem_of_mem_take hx)
      rw [hall]
      rcases Nat.lt_or_ge i fs.length with hlt | hge
      · have hq : ((i : Int) < (fs.length : Int)) = True := by simp [hlt]
        simp only [RT, FS, ↓RE, okR, argEnv, Nat.reduceAdd, Nat.reduceSub, Nat.reduceLT, Nat.reduceLeDiff, Nat.reduceEqDiff, reduceIte, RM, fixL_len, hq, decide_true, Bool.false_eq_true, Int.reduceBEq, Bool.and_false, Bool.and_true, hlc, Craft.c, AirW.c]
        simp [headW, heapW, envW, blkLt, D.ltL, D.lt, look, hget, Sx.hset, hlc, lc, la, Craft.c, AirW.c]
      · have hq : ((i : Int) < (fs.length : Int)) = False := by simp; omega
        simp only [RT, FS, ↓RE, okR, argEnv, Nat.reduceAdd, Nat.reduceSub, Nat.reduceLT, Nat.reduceLeDiff, Nat.reduceEqDiff, reduceIte, RM, fixL_len, hq, decide_false, Bool.false_eq_true, Int.reduceBEq, Bool.and_false, Bool.and_true, hlc, Craft.c, AirW.c]
        simp [headW, heapW, envW, blkLt, D.ltL, D.lt, look, hget, Sx.hset, hlc, lc, la, Craft.c, AirW.c]
    obtain ⟨hBt, hPt⟩ : B = true ∧ (fs.take i).all (fixB l) = true := by simpa using hP
    rcases Nat.lt_or_ge i fs.length with hlt | hge
    rotate_left
    · have hq : ((i : Int) < (fs.length : Int)) = False := by simp; omega
      rw [List.take_of_length_le hge] at hP
      rw [hP]
      simp only [RT, FS, ↓RE, okR, argEnv, Nat.reduceAdd, Nat.reduceSub, Nat.reduceLT, Nat.reduceLeDiff, Nat.reduceEqDiff, reduceIte, RM, fixL_len, hq, decide_false, Int.reduceBEq, Bool.and_false, Bool.and_true, hlc, Craft.c, AirW.c]
      simp [headW, heapW, envW, blkLt, D.ltL, D.lt, look, hget, Sx.hset, hlc, lc, la, Craft.c, AirW.c]
    have hq : ((i : Int) < (fs.length : Int)) = True := by simp [hlt]
    have wi := wrap_i64 (z := (i : Int) + 1) (by omega) (by omega)
    obtain ⟨f, hf⟩ : ∃ f, fs[i]? = some f := ⟨fs[i], by simp [hlt]⟩
    have ixf := sF_ix hf
    have oCf := oC f.cell
    have hsn : (B && (fs.take (i + 1)).all (fixB l)) = fixB l f := by rw [List.take_add_one, hf]; simp [hBt, hPt]
    have hfb : fixB l f = (cellL l f.cell && (rI f.h 0 20000 && rS f.w.lo f.w.hi 0 100000)) := by rw [fixB, hcell hBt]
    rw [hfb] at hsn
    cases h1 : cellL l f.cell
    · rw [h1] at oCf hsn
      simp only [RT, FS, ↓RE, okR, argEnv, Nat.reduceAdd, Nat.reduceSub, Nat.reduceLT, Nat.reduceLeDiff, Nat.reduceEqDiff, reduceIte, RM, fixL_len, hq, decide_true, Int.reduceBEq, Bool.and_true, hlc, Craft.c, AirW.c, ixf, oCf, wi]
      refine ⟨i + 1, by omega, by omega, ?_⟩
      simp [headW, heapW, envW, blkLt, D.ltL, D.lt, look, hget, Sx.hset, hlc, lc, la, Craft.c, AirW.c, hsn]
    rw [h1] at oCf hsn
    cases h2 : rI f.h 0 20000
    · rw [h2] at hsn
      simp only [RT, FS, ↓RE, okR, argEnv, Nat.reduceAdd, Nat.reduceSub, Nat.reduceLT, Nat.reduceLeDiff, Nat.reduceEqDiff, reduceIte, RM, fixL_len, hq, decide_true, Int.reduceBEq, Bool.and_true, hlc, Craft.c, AirW.c, ixf, oCf, gInt1_eq, h2, wi]
      refine ⟨i + 1, by omega, by omega, ?_⟩
      simp [headW, heapW, envW, blkLt, D.ltL, D.lt, look, hget, Sx.hset, hlc, lc, la, Craft.c, AirW.c, hsn]
    rw [h2] at hsn
    cases h3 : rS f.w.lo f.w.hi 0 100000
    · rw [h3] at hsn
      simp only [RT, FS, ↓RE, okR, argEnv, Nat.reduceAdd, Nat.reduceSub, Nat.reduceLT, Nat.reduceLeDiff, Nat.reduceEqDiff, reduceIte, RM, fixL_len, hq, decide_true, Int.reduceBEq, Bool.and_true, hlc, Craft.c, AirW.c, ixf, oCf, gInt1_eq, h2, gS3_eq, h3, wi]
      refine ⟨i + 1, by omega, by omega, ?_⟩
      simp [headW, heapW, envW, blkLt, D.ltL, D.lt, look, hget, Sx.hset, hlc, lc, la, Craft.c, AirW.c, hsn]
    rw [h3] at hsn
    simp only [RT, FS, ↓RE, okR, argEnv, Nat.reduceAdd, Nat.reduceSub, Nat.reduceLT, Nat.reduceLeDiff, Nat.reduceEqDiff, reduceIte, RM, fixL_len, hq, decide_true, Int.reduceBEq, Bool.and_true, hlc, Craft.c, AirW.c, ixf, oCf, gInt1_eq, h2, gS3_eq, h3, wi]
    refine ⟨i + 1, by omega, by omega, ?_⟩
    simp [headW, heapW, envW, blkLt, D.ltL, D.lt, look, hget, Sx.hset, hlc, lc, la, Craft.c, AirW.c, hsn]
  have hep : ∀ l' : List FixW, (if legFine c l a fs then eF c l a l' else 2) = 0 → legFine c l a fs = true ∧ eF c l a l' = 0 := fun l' h => by
    cases hf : legFine c l a fs
    · rw [hf] at h; simp at h
    · rw [hf] at h; exact ⟨rfl, by simpa using h⟩
  refine awp_cut nJ_ok (by kernel_rfl) [(3, .sl (fixL fs)), (4, .ptr 0 0), (5, .ptr 1 0), (6, .ptr 2 0), (9, .int .i64 L1), (10, .int .i64 L2), (11, .int .i64 (if legFine c l a fs then eF c l a fs else 2))] [(2, .box a.c), (1, .box l.c), (0, .box c.c)] 3 223 (T := [(10, [(26, false, false, [])]), (15, [(11, false, false, [])]), (25, [(14, false, false, [])])]) (by kernel_rfl) ?_ ?_
  · simp only [RT, FS, ↓RE, okR, argEnv, Nat.reduceAdd, Nat.reduceSub, Nat.reduceLT, Nat.reduceLeDiff, Nat.reduceEqDiff, reduceIte, RM, fixL_len, Bool.and_true, Bool.and_false, Bool.not_true, Bool.not_false, Int.reduceBEq, Int.reduceBNe, beq_self_eq_true, bne_self_eq_false, Bool.false_eq_true, decide_true, decide_false, hlc, Craft.c, AirW.c]
    refine loopV (ι := Nat) nJ_ok [(10, [(26, false, false, [])]), (15, [(11, false, false, [])]), (25, [(14, false, false, [])])] (fun i => [(3, .sl (fixL fs)), (4, .ptr 0 0), (5, .ptr 1 0), (6, .ptr 2 0), (9, .int .i64 L1), (10, .int .i64 L2), (11, .int .i64 (if legFine c l a fs then eF c l a (fs.take i) else 2)), (13, .int .i64 (i : Int))])
      (fun i => [(2, .box a.c), (1, .box l.c), (0, .box c.c)]) 3 (fun i => i ≤ fs.length) (fun i => fs.length - i) 0 (by kernel_rfl) (by kernel_rfl) (Nat.zero_le _) ?_ ?_
    · simp [headW, heapW, envW, blkLt, D.ltL, D.lt, look, hget, Sx.hset, hlc, lc, la, Craft.c, AirW.c, eF]
    intro i hi
    by_cases hE : (if legFine c l a fs then eF c l a (fs.take i) else 2) = 0
    rotate_left
    · have hb : ((if legFine c l a fs then eF c l a (fs.take i) else 2) == 0) = false := by simpa using hE
      have hend : (if legFine c l a fs then eF c l a fs else 2) = (if legFine c l a fs then eF c l a (fs.take i) else 2) := by
        cases hf : legFine c l a fs
        · rfl
        · rw [hf] at hE
          simp only [if_true] at hE ⊢
          exact eF_pre (List.take_prefix i fs) hE
      rw [hend]
      generalize (if legFine c l a fs then eF c l a (fs.take i) else 2) = E at *
      rcases Nat.lt_or_ge i fs.length with hlt | hge
      · have hq : ((i : Int) < (fs.length : Int)) = True := by simp [hlt]
        simp only [RT, FS, ↓RE, okR, argEnv, Nat.reduceAdd, Nat.reduceSub, Nat.reduceLT, Nat.reduceLeDiff, Nat.reduceEqDiff, reduceIte, RM, fixL_len, Bool.and_true, Bool.and_false, Bool.not_true, Bool.not_false, Int.reduceBEq, Int.reduceBNe, beq_self_eq_true, bne_self_eq_false, Bool.false_eq_true, decide_true, decide_false, hlc, Craft.c, AirW.c, hq, hb]
        simp [headW, heapW, envW, blkLt, D.ltL, D.lt, look, hget, Sx.hset, hlc, lc, la, Craft.c, AirW.c]
      · have hq : ((i : Int) < (fs.length : Int)) = False := by simp; omega
        simp only [RT, FS, ↓RE, okR, argEnv, Nat.reduceAdd, Nat.reduceSub, Nat.reduceLT, Nat.reduceLeDiff, Nat.reduceEqDiff, reduceIte, RM, fixL_len, Bool.and_true, Bool.and_false, Bool.not_true, Bool.not_false, Int.reduceBEq, Int.reduceBNe, beq_self_eq_true, bne_self_eq_false, Bool.false_eq_true, decide_true, decide_false, hlc, Craft.c, AirW.c, hq, hb]
        simp [headW, heapW, envW, blkLt, D.ltL, D.lt, look, hget, Sx.hset, hlc, lc, la, Craft.c, AirW.c]
    obtain ⟨hf1, hf2⟩ := hep _ hE
    rw [hE]
    rcases Nat.lt_or_ge i fs.length with hlt | hge
    rotate_left
    · have hq : ((i : Int) < (fs.length : Int)) = False := by simp; omega
      rw [List.take_of_length_le hge] at hE
      rw [hE]
      simp only [RT, FS, ↓RE, okR, argEnv, Nat.reduceAdd, Nat.reduceSub, Nat.reduceLT, Nat.reduceLeDiff, Nat.reduceEqDiff, reduceIte, RM, fixL_len, Bool.and_true, Bool.and_false, Bool.not_true, Bool.not_false, Int.reduceBEq, Int.reduceBNe, beq_self_eq_true, bne_self_eq_false, Bool.false_eq_true, decide_true, decide_false, hlc, Craft.c, AirW.c, hq]
      simp [headW, heapW, envW, blkLt, D.ltL, D.lt, look, hget, Sx.hset, hlc, lc, la, Craft.c, AirW.c]
    have hq : ((i : Int) < (fs.length : Int)) = True := by simp [hlt]
    have wi := wrap_i64 (z := (i : Int) + 1) (by omega) (by omega)
    obtain ⟨f, hf⟩ : ∃ f, fs[i]? = some f := ⟨fs[i], by simp [hlt]⟩
    have ixf := sF_ix hf
    have oAf := oA f.w.hi
    have hsn : eF c l a (fs.take (i + 1)) = startE c l a f.w.hi true := by rw [List.take_add_one, hf]; exact eF_snoc hf2
    simp only [RT, FS, ↓RE, okR, argEnv, Nat.reduceAdd, Nat.reduceSub, Nat.reduceLT, Nat.reduceLeDiff, Nat.reduceEqDiff, reduceIte, RM, fixL_len, Bool.and_true, Bool.and_false, Bool.not_true, Bool.not_false, Int.reduceBEq, Int.reduceBNe, beq_self_eq_true, bne_self_eq_false, Bool.false_eq_true, decide_true, decide_false, hlc, Craft.c, AirW.c, hq, ixf, oAf, wi]
    refine ⟨i + 1, by omega, by omega, ?_⟩
    simp [headW, heapW, envW, blkLt, D.ltL, D.lt, look, hget, Sx.hset, hlc, lc, la, Craft.c, AirW.c, hsn, hf1]
  by_cases q4 : 100 < fs.length
  · have q4' : ((100 : Int) < (fs.length : Int)) = True := by simp; omega
    have hR : LegR c l a fs = (0, 3) := by rw [LegR, if_pos q4]
    have e1 : L1 = 0 := by rw [← hL1, hR]
    have e2 : L2 = 3 := by rw [← hL2, hR]
    subst e1; subst e2
    refine awp_rest (T := [(10, [(26, false, false, [])]), (15, [(11, false, false, [])]), (25, [(14, false, false, [])])]) nJ_ok (by kernel_rfl) (by kernel_rfl) ?_
    simp only [RT, FS, ↓RE, okR, argEnv, Nat.reduceAdd, Nat.reduceSub, Nat.reduceLT, Nat.reduceLeDiff, Nat.reduceEqDiff, reduceIte, RM, fixL_len, Bool.and_true, Bool.and_false, Bool.not_true, Bool.not_false, Int.reduceBEq, Int.reduceBNe, beq_self_eq_true, bne_self_eq_false, Bool.false_eq_true, decide_true, decide_false, hlc, Craft.c, AirW.c, q4', z1]
  have q4' : ((100 : Int) < (fs.length : Int)) = False := by simp; omega
  by_cases hE : (if legFine c l a fs then eF c l a fs else 2) = 0
  rotate_left
  · have hb : ((if legFine c l a fs then eF c l a fs else 2) != 0) = true := by simpa using hE
    have hR : LegR c l a fs = (0, if legFine c l a fs then eF c l a fs else 2) := by
      rw [LegR, if_neg q4]
      cases hf : legFine c l a fs
      · rfl
      · rw [hf] at hE
        simp only [if_true] at hE ⊢
        exact legF_bad hE
    have e1 : L1 = 0 := by rw [← hL1, hR]
    have e2 : L2 = (if legFine c l a fs then eF c l a fs else 2) := by rw [← hL2, hR]
    subst e1; subst e2
    generalize (if legFine c l a fs then eF c l a fs else 2) = E at *
    refine awp_rest (T := [(10, [(26, false, false, [])]), (15, [(11, false, false, [])]), (25, [(14, false, false, [])])]) nJ_ok (by kernel_rfl) (by kernel_rfl) ?_
    simp only [RT, FS, ↓RE, okR, argEnv, Nat.reduceAdd, Nat.reduceSub, Nat.reduceLT, Nat.reduceLeDiff, Nat.reduceEqDiff, reduceIte, RM, fixL_len, Bool.and_true, Bool.and_false, Bool.not_true, Bool.not_false, Int.reduceBEq, Int.reduceBNe, beq_self_eq_true, bne_self_eq_false, Bool.false_eq_true, decide_true, decide_false, hlc, Craft.c, AirW.c, q4', hb, z1]
  obtain ⟨hfine, hf2⟩ := hep _ hE
  rw [hE]
  have hR : LegR c l a fs = (firstI (badF c a l) fs 0, 0) := by rw [LegR, if_neg q4, if_pos hfine]; exact legF_ok hf2
  have e1 : L1 = firstI (badF c a l) fs 0 := by rw [← hL1, hR]
  have e2 : L2 = 0 := by rw [← hL2, hR]
  subst e2
  clear hL1 hL2 hR oG
  have hfs := hfine
  simp only [legFine, Bool.and_eq_true, List.all_eq_true] at hfs
  obtain ⟨k1, k2b, k3, hfx⟩ := hfs
  have hst0 : ∀ f : FixW, f ∈ fs → startE c l a f.w.hi true = 0 := eF_zero hf2
  have hpt : ∀ (i : Nat) (f : FixW), fs[i]? = some f → cellL l f.cell = true ∧ rI f.h 0 20000 = true ∧ (∃ k : Nat, f.cell = (k : Int) ∧ k < l.ground.length) := fun i f hf => by
    have := hfx f (List.mem_of_getElem? hf)
    simp only [fixB, Bool.and_eq_true] at this
    rw [← cellL_B k2b] at this
    have hc := this.1
    simp only [cellL, Bool.and_eq_true, decide_eq_true_eq] at hc
    exact ⟨this.1, this.2.1, f.cell.toNat, by omega, by omega⟩
  refine awp_peel (T := [(10, [(26, false, false, [])]), (15, [(11, false, false, [])]), (25, [(14, false, false, [])])]) nJ_ok (by kernel_rfl) (by kernel_rfl) ?_
  simp only [RT, FS, ↓RE, okR, argEnv, Nat.reduceAdd, Nat.reduceSub, Nat.reduceLT, Nat.reduceLeDiff, Nat.reduceEqDiff, reduceIte, RM, fixL_len, Bool.and_true, Bool.and_false, Bool.not_true, Bool.not_false, Int.reduceBEq, Int.reduceBNe, beq_self_eq_true, bne_self_eq_false, Bool.false_eq_true, decide_true, decide_false, hlc, Craft.c, AirW.c, q4']
  refine awp_peel (T := [(10, [(26, false, false, [])]), (15, [(11, false, false, [])]), (25, [(14, false, false, [])])]) nJ_ok (by kernel_rfl) (by kernel_rfl) ?_
  simp only [RT, FS, ↓RE, okR, argEnv, Nat.reduceAdd, Nat.reduceSub, Nat.reduceLT, Nat.reduceLeDiff, Nat.reduceEqDiff, reduceIte, RM, fixL_len, Bool.and_true, Bool.and_false, Bool.not_true, Bool.not_false, Int.reduceBEq, Int.reduceBNe, beq_self_eq_true, bne_self_eq_false, Bool.false_eq_true, decide_true, decide_false, hlc, Craft.c, AirW.c]
  have kc := craft_ok hl k1
  have kl := land_ok ll k2b
  have ka := air_ok k3
  have hno := fun ce => needsF_ok kc ka kl ce
  have oRN := fun w => gCLA_eq (β := Int) (fun c l a _ => okO c l a) rs1 (fun c l a w => .sl (intL (needsF c a (ceilI c w) l))) rs1_inj (c := c) (l := l) (a := a) (b := w) ⟨kc, kl, ka⟩
  simp only [rs1, hlc, Craft.c, AirW.c] at oRN
  have hmin := kl.small
  refine awp_peel (T := [(10, [(26, false, false, [])]), (15, [(11, false, false, [])]), (25, [(14, false, false, [])])]) nJ_ok (by kernel_rfl) (by kernel_rfl) ?_
  simp only [RT, FS, ↓RE, okR, argEnv, Nat.reduceAdd, Nat.reduceSub, Nat.reduceLT, Nat.reduceLeDiff, Nat.reduceEqDiff, reduceIte, RM, fixL_len, Bool.and_true, Bool.and_false, Bool.not_true, Bool.not_false, Int.reduceBEq, Int.reduceBNe, beq_self_eq_true, bne_self_eq_false, Bool.false_eq_true, decide_true, decide_false, hlc, Craft.c, AirW.c]
  refine awp_cut nJ_ok (by kernel_rfl) [(3, .sl (fixL fs)), (4, .ptr 0 0), (5, .ptr 1 0), (6, .ptr 2 0), (9, .int .i64 L1), (10, .int .i64 0), (14, .int .i64 (firstI (badF c a l) fs 0))] [(2, .box a.c), (1, .box l.c), (0, .box c.c)] 3 223 (T := [(10, [(26, false, false, [])]), (15, [(11, false, false, [])]), (25, [(14, false, false, [])])]) (by kernel_rfl) ?_ ?_
  · simp only [RT, FS, ↓RE, okR, argEnv, Nat.reduceAdd, Nat.reduceSub, Nat.reduceLT, Nat.reduceLeDiff, Nat.reduceEqDiff, reduceIte, RM, fixL_len, Bool.and_true, Bool.and_false, Bool.not_true, Bool.not_false, Int.reduceBEq, Int.reduceBNe, beq_self_eq_true, bne_self_eq_false, Bool.false_eq_true, decide_true, decide_false, hlc, Craft.c, AirW.c]
    refine loopV (ι := Nat) nJ_ok [(10, [(26, false, false, [])]), (15, [(11, false, false, [])]), (25, [(14, false, false, [])])] (fun i => [(3, .sl (fixL fs)), (4, .ptr 0 0), (5, .ptr 1 0), (6, .ptr 2 0), (9, .int .i64 L1), (10, .int .i64 0), (14, .int .i64 (firstI (badF c a l) (fs.take i) 0)), (15, .int .i64 (i : Int))])
      (fun i => [(2, .box a.c), (1, .box l.c), (0, .box c.c)]) 3 (fun i => i ≤ fs.length) (fun i => fs.length - i) 0 (by kernel_rfl) (by kernel_rfl) (Nat.zero_le _) ?_ ?_
    · simp [headW, heapW, envW, blkLt, D.ltL, D.lt, look, hget, Sx.hset, hlc, lc, la, Craft.c, AirW.c, firstI]
    intro i hi
    rcases Nat.lt_or_ge i fs.length with hlt | hge
    rotate_left
    · have hq : ((i : Int) < (fs.length : Int)) = False := by simp; omega
      rw [List.take_of_length_le hge]
      simp only [RT, FS, ↓RE, okR, argEnv, Nat.reduceAdd, Nat.reduceSub, Nat.reduceLT, Nat.reduceLeDiff, Nat.reduceEqDiff, reduceIte, RM, fixL_len, Bool.and_true, Bool.and_false, Bool.not_true, Bool.not_false, Int.reduceBEq, Int.reduceBNe, beq_self_eq_true, bne_self_eq_false, Bool.false_eq_true, decide_true, decide_false, hlc, Craft.c, AirW.c, hq]
      simp [headW, heapW, envW, blkLt, D.ltL, D.lt, look, hget, Sx.hset, hlc, lc, la, Craft.c, AirW.c]
    have hq : ((i : Int) < (fs.length : Int)) = True := by simp [hlt]
    by_cases hneg : firstI (badF c a l) (fs.take i) 0 < 0
    rotate_left
    · have hn' : (firstI (badF c a l) (fs.take i) 0 < 0) = False := by simp; omega
      have hend : firstI (badF c a l) fs 0 = firstI (badF c a l) (fs.take i) 0 := firstI_pre _ _ _ _ (List.take_prefix i fs) (by omega)
      rw [hend]
      generalize firstI (badF c a l) (fs.take i) 0 = FI at *
      simp only [RT, FS, ↓RE, okR, argEnv, Nat.reduceAdd, Nat.reduceSub, Nat.reduceLT, Nat.reduceLeDiff, Nat.reduceEqDiff, reduceIte, RM, fixL_len, Bool.and_true, Bool.and_false, Bool.not_true, Bool.not_false, Int.reduceBEq, Int.reduceBNe, beq_self_eq_true, bne_self_eq_false, Bool.false_eq_true, decide_true, decide_false, hlc, Craft.c, AirW.c, hq, hn']
      simp [headW, heapW, envW, blkLt, D.ltL, D.lt, look, hget, Sx.hset, hlc, lc, la, Craft.c, AirW.c]
    have hn' : (firstI (badF c a l) (fs.take i) 0 < 0) = True := by simp [hneg]
    have wi := wrap_i64 (z := (i : Int) + 1) (by omega) (by omega)
    obtain ⟨f, hf⟩ : ∃ f, fs[i]? = some f := ⟨fs[i], by simp [hlt]⟩
    have ixf := sF_ix hf
    obtain ⟨_, _, k, hk, hkl⟩ := hpt i f hf
    have hsn := firstI_snoc (badF c a l) (fs.take i) f 0
    have htk : fs.take (i + 1) = fs.take i ++ [f] := by rw [List.take_add_one, hf]; rfl
    rw [← htk, List.length_take, Nat.min_eq_left (by omega), Nat.zero_add, if_pos hneg] at hsn
    have hbad : badF c a l f = decide (f.h < nAt (needsF c a (ceilI c f.w.hi) l) k) := by simp only [badF, hk]; rfl
    rw [hbad] at hsn
    have oR := oRN f.w.hi
    have hNix := sI_ix ((hno (ceilI c f.w.hi)).at_ hkl)
    have hm1 := firstI_neg (badF c a l) (fs.take i) 0 hneg
    rw [hk] at ixf
    generalize firstI (badF c a l) (fs.take i) 0 = FI at *
    cases hb2 : decide (f.h < nAt (needsF c a (ceilI c f.w.hi) l) k)
    · rw [hb2] at hsn
      simp only [RT, FS, ↓RE, okR, argEnv, Nat.reduceAdd, Nat.reduceSub, Nat.reduceLT, Nat.reduceLeDiff, Nat.reduceEqDiff, reduceIte, RM, fixL_len, Bool.and_true, Bool.and_false, Bool.not_true, Bool.not_false, Int.reduceBEq, Int.reduceBNe, beq_self_eq_true, bne_self_eq_false, Bool.false_eq_true, decide_true, decide_false, hlc, Craft.c, AirW.c, hq, hn', ixf, oR, hNix, hb2, wi]
      refine ⟨i + 1, by omega, by omega, ?_⟩
      simp [headW, heapW, envW, blkLt, D.ltL, D.lt, look, hget, Sx.hset, hlc, lc, la, Craft.c, AirW.c, hsn, hm1]
    · rw [hb2] at hsn
      simp only [RT, FS, ↓RE, okR, argEnv, Nat.reduceAdd, Nat.reduceSub, Nat.reduceLT, Nat.reduceLeDiff, Nat.reduceEqDiff, reduceIte, RM, fixL_len, Bool.and_true, Bool.and_false, Bool.not_true, Bool.not_false, Int.reduceBEq, Int.reduceBNe, beq_self_eq_true, bne_self_eq_false, Bool.false_eq_true, decide_true, decide_false, hlc, Craft.c, AirW.c, hq, hn', ixf, oR, hNix, hb2, wi]
      refine ⟨i + 1, by omega, by omega, ?_⟩
      simp [headW, heapW, envW, blkLt, D.ltL, D.lt, look, hget, Sx.hset, hlc, lc, la, Craft.c, AirW.c, hsn]
  rw [e1]
  have hfi := firstI_spec (badF c a l) fs 0
  have hEsc : ∀ (i : Nat) (f : FixW), fs[i]? = some f → (firstI (badF c a l) fs 0 < 0 ∨ (i : Int) ≤ firstI (badF c a l) fs 0) → (∃ x, EscD c l a f.w.hi f.cell f.h = .tup [.sl (intL x), .int .i64 0] ∧ ((i : Int) != firstI (badF c a l) fs 0) = true) ∨ (EscD c l a f.w.hi f.cell f.h = .tup [.nils, .int .i64 5] ∧ ((i : Int) != firstI (badF c a l) fs 0) = false) := fun i f hf hle => by
    obtain ⟨hcf, hhf, k, hk, hkl⟩ := hpt i f hf
    have hs := hst0 f (List.mem_of_getElem? hf)
    have hhr := rI_le hhf
    cases hbf : badF c a l f
    · have hbf' : nAt (needsF c a (ceilI c f.w.hi) l) k ≤ f.h := by
        have h := hbf
        simp only [badF, hk, decide_eq_false_iff_not] at h
        have : nAt (needsF c a (ceilI c f.w.hi) l) (Int.toNat (k : Int)) = nAt (needsF c a (ceilI c f.w.hi) l) k := rfl
        omega
      have hmy := many_yes kc ka f.w.hi kl hkl hhr hbf'
      rw [← hk] at hmy
      refine .inl ⟨_, EscD_yes hs hcf hhf hmy.1, ?_⟩
      have : (i : Int) ≠ firstI (badF c a l) fs 0 := by
        rcases hfi with ⟨h, _⟩ | ⟨k', y, h, hy, hb, _⟩
        · omega
        · intro e
          have : i = k' := by omega
          subst this
          rw [hf] at hy; cases hy
          rw [hbf] at hb; cases hb
      simp [this]
    · have hbf' : f.h < nAt (needsF c a (ceilI c f.w.hi) l) k := by
        have h := hbf
        simp only [badF, hk, decide_eq_true_eq] at h
        exact h
      have hmn := many_no kc ka f.w.hi kl hkl hbf'
      rw [← hk] at hmn
      refine .inr ⟨EscD_no hs hcf hhf hmn, ?_⟩
      have : (i : Int) = firstI (badF c a l) fs 0 := by
        rcases hfi with ⟨h, hn⟩ | ⟨k', y, h, hy, hb, hn⟩
        · have := hn f (List.mem_of_getElem? hf)
          rw [hbf] at this; cases this
        · rcases Nat.lt_or_ge i k' with hlt | hge
          · have := hn i f hlt hf
            rw [hbf] at this; cases this
          · omega
      simp [this]
  generalize firstI (badF c a l) fs 0 = FI at *
  refine awp_peel (T := [(10, [(26, false, false, [])]), (15, [(11, false, false, [])]), (25, [(14, false, false, [])])]) nJ_ok (by kernel_rfl) (by kernel_rfl) ?_
  simp only [RT, FS, ↓RE, okR, argEnv, Nat.reduceAdd, Nat.reduceSub, Nat.reduceLT, Nat.reduceLeDiff, Nat.reduceEqDiff, reduceIte, RM, fixL_len, Bool.and_true, Bool.and_false, Bool.not_true, Bool.not_false, Int.reduceBEq, Int.reduceBNe, beq_self_eq_true, bne_self_eq_false, Bool.false_eq_true, decide_true, decide_false, hlc, Craft.c, AirW.c, Bool.or_false, Bool.or_self]
  refine awp_rest (T := [(10, [(26, false, false, [])]), (15, [(11, false, false, [])]), (25, [(14, false, false, [])])]) nJ_ok (by kernel_rfl) (by kernel_rfl) ?_
  simp only [RT, FS, ↓RE, okR, argEnv, Nat.reduceAdd, Nat.reduceSub, Nat.reduceLT, Nat.reduceLeDiff, Nat.reduceEqDiff, reduceIte, RM, fixL_len, Bool.and_true, Bool.and_false, Bool.not_true, Bool.not_false, Int.reduceBEq, Int.reduceBNe, beq_self_eq_true, bne_self_eq_false, Bool.false_eq_true, decide_true, decide_false, hlc, Craft.c, AirW.c]
  refine loopV (ι := Nat) nJ_ok [(10, [(26, false, false, [])]), (15, [(11, false, false, [])]), (25, [(14, false, false, [])])] (fun i => [(3, .sl (fixL fs)), (4, .ptr 0 0), (5, .ptr 1 0), (6, .ptr 2 0), (14, .int .i64 FI), (17, .int .i64 (i : Int))])
      (fun i => [(2, .box a.c), (1, .box l.c), (0, .box c.c)]) 3 (fun i => i ≤ fs.length) (fun i => fs.length - i) 0 (by kernel_rfl) (by kernel_rfl) (Nat.zero_le _) ?_ ?_
  · simp [headW, heapW, envW, blkLt, D.ltL, D.lt, look, hget, Sx.hset, hlc, lc, la, Craft.c, AirW.c]
  intro i hi
  rcases Nat.lt_or_ge i fs.length with hlt | hge
  rotate_left
  · have hq : ((i : Int) < (fs.length : Int)) = False := by simp; omega
    simp only [RT, FS, ↓RE, okR, argEnv, Nat.reduceAdd, Nat.reduceSub, Nat.reduceLT, Nat.reduceLeDiff, Nat.reduceEqDiff, reduceIte, RM, fixL_len, Bool.and_true, Bool.and_false, Bool.not_true, Bool.not_false, Int.reduceBEq, Int.reduceBNe, beq_self_eq_true, bne_self_eq_false, Bool.false_eq_true, decide_true, decide_false, hlc, Craft.c, AirW.c, hq, z1]
  have hq : ((i : Int) < (fs.length : Int)) = True := by simp [hlt]
  have wi := wrap_i64 (z := (i : Int) + 1) (by omega) (by omega)
  obtain ⟨f, hf⟩ : ∃ f, fs[i]? = some f := ⟨fs[i], by simp [hlt]⟩
  have ixf := sF_ix hf
  have hE := hEsc i f hf
  have oEf := oE f.w.hi f.cell f.h
  have hbt : (true != true) = false := rfl
  have hbf : (false != false) = false := rfl
  by_cases hn : FI < 0
  · have hn' : (FI < 0) = True := by simp [hn]
    rcases hE (.inl hn) with ⟨x, he, hee⟩ | ⟨he, hee⟩
    · rw [he] at oEf
      simp only [RT, FS, ↓RE, okR, argEnv, Nat.reduceAdd, Nat.reduceSub, Nat.reduceLT, Nat.reduceLeDiff, Nat.reduceEqDiff, reduceIte, RM, fixL_len, Bool.and_true, Bool.and_false, Bool.not_true, Bool.not_false, Int.reduceBEq, Int.reduceBNe, beq_self_eq_true, bne_self_eq_false, Bool.false_eq_true, decide_true, decide_false, hlc, Craft.c, AirW.c, hq, hn', ixf, oEf, ex_tup, wi, hee, hbt, hbf, binB_ne Fz.und_4]
      exact ⟨i + 1, by omega, by omega, by simp [headW, heapW, envW, blkLt, D.ltL, D.lt, look, hget, Sx.hset, hlc, lc, la, Craft.c, AirW.c]⟩
    · rw [he] at oEf
      simp only [RT, FS, ↓RE, okR, argEnv, Nat.reduceAdd, Nat.reduceSub, Nat.reduceLT, Nat.reduceLeDiff, Nat.reduceEqDiff, reduceIte, RM, fixL_len, Bool.and_true, Bool.and_false, Bool.not_true, Bool.not_false, Int.reduceBEq, Int.reduceBNe, beq_self_eq_true, bne_self_eq_false, Bool.false_eq_true, decide_true, decide_false, hlc, Craft.c, AirW.c, hq, hn', ixf, oEf, ex_tup, wi, hee, hbt, hbf, binB_ne Fz.und_4]
      exact ⟨i + 1, by omega, by omega, by simp [headW, heapW, envW, blkLt, D.ltL, D.lt, look, hget, Sx.hset, hlc, lc, la, Craft.c, AirW.c]⟩
  have hn' : (FI < 0) = False := by simp; omega
  by_cases hi2 : (i : Int) ≤ FI
  · have hi2' : ((i : Int) ≤ FI) = True := by simp [hi2]
    rcases hE (.inr hi2) with ⟨x, he, hee⟩ | ⟨he, hee⟩
    · rw [he] at oEf
      simp only [RT, FS, ↓RE, okR, argEnv, Nat.reduceAdd, Nat.reduceSub, Nat.reduceLT, Nat.reduceLeDiff, Nat.reduceEqDiff, reduceIte, RM, fixL_len, Bool.and_true, Bool.and_false, Bool.not_true, Bool.not_false, Int.reduceBEq, Int.reduceBNe, beq_self_eq_true, bne_self_eq_false, Bool.false_eq_true, decide_true, decide_false, hlc, Craft.c, AirW.c, hq, hn', hi2', ixf, oEf, ex_tup, wi, hee, hbt, hbf, binB_ne Fz.und_4]
      exact ⟨i + 1, by omega, by omega, by simp [headW, heapW, envW, blkLt, D.ltL, D.lt, look, hget, Sx.hset, hlc, lc, la, Craft.c, AirW.c]⟩
    · rw [he] at oEf
      simp only [RT, FS, ↓RE, okR, argEnv, Nat.reduceAdd, Nat.reduceSub, Nat.reduceLT, Nat.reduceLeDiff, Nat.reduceEqDiff, reduceIte, RM, fixL_len, Bool.and_true, Bool.and_false, Bool.not_true, Bool.not_false, Int.reduceBEq, Int.reduceBNe, beq_self_eq_true, bne_self_eq_false, Bool.false_eq_true, decide_true, decide_false, hlc, Craft.c, AirW.c, hq, hn', hi2', ixf, oEf, ex_tup, wi, hee, hbt, hbf, binB_ne Fz.und_4]
      exact ⟨i + 1, by omega, by omega, by simp [headW, heapW, envW, blkLt, D.ltL, D.lt, look, hget, Sx.hset, hlc, lc, la, Craft.c, AirW.c]⟩
  · have hi2' : ((i : Int) ≤ FI) = False := by simp; omega
    simp only [RT, FS, ↓RE, okR, argEnv, Nat.reduceAdd, Nat.reduceSub, Nat.reduceLT, Nat.reduceLeDiff, Nat.reduceEqDiff, reduceIte, RM, fixL_len, Bool.and_true, Bool.and_false, Bool.not_true, Bool.not_false, Int.reduceBEq, Int.reduceBNe, beq_self_eq_true, bne_self_eq_false, Bool.false_eq_true, decide_true, decide_false, hlc, Craft.c, AirW.c, hq, hn', hi2', z1]
theorem runLegs_pure : ∀ Ds, TyL Try.prog Try.f13.params.toList Ds → Pure Try.prog 13 Ds (.bool true) := by
  intro Ds h
  rw [Try.params13] at h
  match Ds, h with
  | [_, _, _, _], ⟨⟨n0, _, h0, e0⟩, ⟨n1, _, h1, e1⟩, ⟨n2, _, h2, e2⟩, ⟨n3, _, h3, e3⟩, _⟩ =>
    rw [Try.underlying24] at e0
    rw [Try.underlying28] at e1
    rw [Try.underlying32] at e2
    rw [Fz.und_96] at e3
    dsimp only at e0 e1 e2 e3
    obtain ⟨c, rfl, hl⟩ := tyCraft h0
    obtain ⟨l, rfl, ll⟩ := tyLand h1
    obtain ⟨a, rfl⟩ := tyAir h2
    obtain ⟨x3, rfl, y3⟩ := tyFixs h3
    subst e0; subst e1; subst e2; cases e3
    exact runLegs_at c hl l ll a x3 y3
end Go.Sx
