/- Own work: contracts of functions, used in the proof of a law. -/
import Derived.Test.YthljonnokmkagaaSxEf
set_option linter.unusedVariables false
set_option linter.unusedSimpArgs false
namespace Go.Sx
open Go.Proofs
set_option maxRecDepth 10000

/-! Oracles for the laws -/
def gInt1 (q : Int → D) : List D → Option D
  | [.int .i64 w] => some (q w)
  | _ => none
theorem gInt1_eq (q : Int → D) (w : Int) : gInt1 q [.int .i64 w] = some (q w) := (rfl)
theorem gInt1_ok {f : FuncId} {q : Int → D} (h : ∀ w, Pure Try.prog f [.int .i64 w] (q w)) (ds : List D) (r : D) (hr : gInt1 q ds = some r) : Pure Try.prog f ds r := by
  unfold gInt1 at hr; split at hr
  · cases hr; exact h _
  · cases hr
noncomputable def gC1 (ok : Craft → Prop) (q : Craft → D) : List D → Option D := orcF ok (fun c => [.agg c.c]) q
theorem gC1_eq {ok : Craft → Prop} (q : Craft → D) {c : Craft} (h : ok c) : gC1 ok q [.agg c.c] = some (q c) := orcF_eq (ok := ok) (dsf := fun c : Craft => [.agg c.c]) c h fun b hb => by
  simp only [List.cons.injEq, D.agg.injEq, and_true] at hb
  rw [Craft.c_inj hb]
theorem gC1_ok {f : FuncId} {ok : Craft → Prop} {q : Craft → D} (h : ∀ c, ok c → Pure Try.prog f [.agg c.c] (q c)) (ds : List D) (r : D) (hr : gC1 ok q ds = some r) : Pure Try.prog f ds r := orcF_ok h ds r hr
noncomputable def gC2 (ok : Craft → Prop) (q : Craft → Int → D) : List D → Option D := orcF (fun p : Craft × Int => ok p.1) (fun p => [.agg p.1.c, .int .i64 p.2]) (fun p => q p.1 p.2)
theorem gC2_eq {ok : Craft → Prop} (q : Craft → Int → D) {c : Craft} (h : ok c) (w : Int) : gC2 ok q [.agg c.c, .int .i64 w] = some (q c w) := orcF_eq (ok := fun p : Craft × Int => ok p.1) (dsf := fun p => [.agg p.1.c, .int .i64 p.2]) (rf := fun p => q p.1 p.2) (c, w) h fun b hb => by
  simp only [List.cons.injEq, D.agg.injEq, D.int.injEq, true_and, and_true] at hb
  rw [Craft.c_inj hb.1, hb.2]
theorem gC2_ok {f : FuncId} {ok : Craft → Prop} {q : Craft → Int → D} (h : ∀ c w, ok c → Pure Try.prog f [.agg c.c, .int .i64 w] (q c w)) (ds : List D) (r : D) (hr : gC2 ok q ds = some r) : Pure Try.prog f ds r := orcF_ok (fun p hp => h p.1 p.2 hp) ds r hr
noncomputable def gC5 (ok : Craft → Int → Prop) (q : Craft → Int → Int → Int → Int → D) : List D → Option D :=
  orcF (fun p : Craft × Int × Int × Int × Int => ok p.1 p.2.2.2.1) (fun p => [.agg p.1.c, .int .i64 p.2.1, .int .i64 p.2.2.1, .int .i64 p.2.2.2.1, .int .i64 p.2.2.2.2]) (fun p => q p.1 p.2.1 p.2.2.1 p.2.2.2.1 p.2.2.2.2)
theorem gC5_eq {ok : Craft → Int → Prop} (q : Craft → Int → Int → Int → Int → D) {c : Craft} (k w al wv : Int) (h : ok c al) : gC5 ok q [.agg c.c, .int .i64 k, .int .i64 w, .int .i64 al, .int .i64 wv] = some (q c k w al wv) :=
  orcF_eq (ok := fun p : Craft × Int × Int × Int × Int => ok p.1 p.2.2.2.1) (dsf := fun p => [.agg p.1.c, .int .i64 p.2.1, .int .i64 p.2.2.1, .int .i64 p.2.2.2.1, .int .i64 p.2.2.2.2]) (rf := fun p => q p.1 p.2.1 p.2.2.1 p.2.2.2.1 p.2.2.2.2) (c, k, w, al, wv) h fun b hb => by
    simp only [List.cons.injEq, D.agg.injEq, D.int.injEq, true_and, and_true] at hb
    rw [Craft.c_inj hb.1, hb.2.1, hb.2.2.1, hb.2.2.2.1, hb.2.2.2.2]
theorem gC5_ok {f : FuncId} {ok : Craft → Int → Prop} {q : Craft → Int → Int → Int → Int → D} (h : ∀ c k w al wv, ok c al → Pure Try.prog f [.agg c.c, .int .i64 k, .int .i64 w, .int .i64 al, .int .i64 wv] (q c k w al wv)) (ds : List D) (r : D) (hr : gC5 ok q ds = some r) : Pure Try.prog f ds r :=
  orcF_ok (fun p hp => h p.1 p.2.1 p.2.2.1 p.2.2.2.1 p.2.2.2.2 hp) ds r hr
noncomputable def gSays : List D → Option D := orcF (fun p : List RRow × Int => p.1.length ≤ 9223372036854775807) (fun p => [.sl (p.1.map RRow.d), .int .i64 p.2]) (fun p => .tup [.int .i64 ((sayO p.1 p.2).getD 0), .bool (sayO p.1 p.2).isSome])
theorem gSays_eq {l : List RRow} (h : l.length ≤ 9223372036854775807) (w : Int) : gSays [.sl (l.map RRow.d), .int .i64 w] = some (.tup [.int .i64 ((sayO l w).getD 0), .bool (sayO l w).isSome]) :=
  orcF_eq (ok := fun p : List RRow × Int => p.1.length ≤ 9223372036854775807) (dsf := fun p => [.sl (p.1.map RRow.d), .int .i64 p.2]) (rf := fun p => .tup [.int .i64 ((sayO p.1 p.2).getD 0), .bool (sayO p.1 p.2).isSome]) (l, w) h fun b hb => by
    simp only [List.cons.injEq, D.sl.injEq, D.int.injEq, true_and, and_true] at hb
    rw [map_inj RRow.d_inj hb.1, hb.2]
noncomputable abbrev qShort := gC1 CraftL fun c => .bool (shortC c)
noncomputable abbrev qCheck := gC1 CraftL fun c => .int .i64 (if craftB c then 0 else 2)
noncomputable abbrev qCeil := gC2 CraftL fun c w => .tup [.int .i64 (CeilR c w).1, .int .i64 (CeilR c w).2]
noncomputable abbrev qLen := gC5 (fun c _ => CraftL c) fun c k w al wv => .tup [.int .i64 (LenR c k w al wv).1, .int .i64 (LenR c k w al wv).2]
noncomputable abbrev qRLen := gC5 (fun c al => CraftOk c ∧ -600 ≤ al ∧ al ≤ 600) fun c k w al wv => .tup [.int .i64 ((rlenO c k w al wv).getD 0), .bool (rlenO c k w al wv).isSome]
noncomputable abbrev qB (p : Int → Bool) : List D → Option D := gInt1 fun w => .bool (p w)
noncomputable abbrev e6 : List (FuncId × (List D → Option D)) :=
  (19, cstO [] (.bool true)) :: (49, qB fun w => rI w 0 100000) :: (55, qB fun w => rI w (-600) 600) :: (56, qB fun w => rI w 0 2000) ::
  (14, qShort) :: (53, qCheck) :: (54, qCeil) :: (52, qLen) :: (57, qRLen) :: (50, gSays) :: e3
theorem e6_ok : OkO Try.prog (mkO e6) :=
  mkO_ok (cstO_ok known_t) <| mkO_ok (gInt1_ok ref3_Weight_t) <| mkO_ok (gInt1_ok alongW_t) <| mkO_ok (gInt1_ok waveW_t) <|
  mkO_ok (gC1_ok short_t) <| mkO_ok (gC1_ok run_Check_t) <| mkO_ok (gC2_ok fun c w h => run_Ceiling_t c h w) <| mkO_ok (gC5_ok fun c k w al wv h => run_Length_t c h k w al wv) <|
  mkO_ok (gC5_ok fun c k w al wv h => by have := ref3_Length_t c h.1 k w al wv h.2; rwa [sayD_eq] at this) <|
  mkO_ok (orcF_ok fun p h => by have := ref3_Says_t p.1 p.2 h; rwa [sayD_eq] at this) <| e3_ok

/-! RunLengths -/
set_option maxHeartbeats 4000000 in
theorem runLengths_at (c : Craft) (hl : CraftL c) (k w al wv : Int) : Pure Try.prog 10 [.agg c.c, .int .i64 k, .int .i64 w, .int .i64 al, .int .i64 wv] (.bool true) := by
  have oS := gC1_eq (fun c => .bool (shortC c)) hl
  have oC := gCr_eq hl
  have oK := gC1_eq (fun c => .int .i64 (if craftB c then 0 else 2)) hl
  have oL := gC5_eq (ok := fun c _ => CraftL c) (fun c k w al wv => .tup [.int .i64 (LenR c k w al wv).1, .int .i64 (LenR c k w al wv).2]) k w al wv hl
  have oH := gC2_eq (ok := CraftL) (fun c w => .tup [.int .i64 (CeilR c w).1, .int .i64 (CeilR c w).2]) hl w
  have z1 := cstO_eq [] (.bool true)
  simp only [Craft.c] at oS oC oK oL oH ⊢
  cases hs : shortC c
  · rw [hs] at oS
    refine pure_of_wc (rs := [.tmp 10]) (m := 202) [] e6_ok (by kernel_rfl) Try.func10 rfl (by kernel_rfl) rfl rfl (by kernel_rfl) ?_
    simp only [RT, FS, ↓RE, okR, argEnv, Nat.reduceAdd, Nat.reduceSub, Nat.reduceLT, Nat.reduceLeDiff, Nat.reduceEqDiff, reduceIte, oS, z1]
  rw [hs] at oS
  cases hb : craftB c
  · simp only [hb, if_true, Bool.false_eq_true, if_false] at oC oK
    have h1 := LenR_bad c k w al wv (by simp [hb])
    have h2 : CeilR c w = (0, 2) := by simp [CeilR, hb]
    simp only [h1] at oL
    simp only [h2] at oH
    refine pure_of_wc (rs := [.tmp 10]) (m := 202) [] e6_ok (by kernel_rfl) Try.func10 rfl (by kernel_rfl) rfl rfl (by kernel_rfl) ?_
    simp only [RT, FS, ↓RE, okR, argEnv, Nat.reduceAdd, Nat.reduceSub, Nat.reduceLT, Nat.reduceLeDiff, Nat.reduceEqDiff, reduceIte, oS, oC, oK, oL, oH, z1, gInt1_eq, gKi_eq, ex_tup, Int.reduceBEq, Int.reduceBNe, beq_self_eq_true, bne_self_eq_false]
  simp only [hb, if_true] at oC oK
  have hc := craft_ok hl hb
  have hg := hc.n.gr
  have oX := gSays_eq hl.ceil w
  cases hw : rI w 0 100000
  · have h1 := LenR_bad c k w al wv (by simp [hb, lenFine, hw])
    have h2 : CeilR c w = (0, 2) := by simp [CeilR, hb, hw]
    simp only [h1] at oL
    simp only [h2] at oH
    refine pure_of_wc (rs := [.tmp 10]) (m := 202) [] e6_ok (by kernel_rfl) Try.func10 rfl (by kernel_rfl) rfl rfl (by kernel_rfl) ?_
    simp only [RT, FS, ↓RE, okR, argEnv, Nat.reduceAdd, Nat.reduceSub, Nat.reduceLT, Nat.reduceLeDiff, Nat.reduceEqDiff, reduceIte, oS, oC, oK, oL, oH, z1, gInt1_eq, gKi_eq, ex_tup, Int.reduceBEq, Int.reduceBNe, beq_self_eq_true, bne_self_eq_false, hw]
    cases kindB k <;> simp [BR]
  have hcs : (CeilR c w = (0, 7) ∧ sayO c.ceil w = none) ∨ ∃ m, CeilR c w = (m, 0) ∧ sayO c.ceil w = some m := by
    cases h : sayO c.ceil w with
    | none => exact .inl ⟨by simp [CeilR, hb, hw, h], rfl⟩
    | some m => exact .inr ⟨m, by simp [CeilR, hb, hw, h], rfl⟩
  rcases hcs with ⟨h2, hcm⟩ | ⟨cm, h2, hcm⟩
  · simp only [h2] at oH
    simp only [hcm, Option.getD_none, Option.isSome_none] at oX
    cases hk : kindB k
    · have h1 := LenR_bad c k w al wv (by simp [lenFine, hk])
      simp only [h1] at oL
      refine pure_of_wc (rs := [.tmp 10]) (m := 202) [] e6_ok (by kernel_rfl) Try.func10 rfl (by kernel_rfl) rfl rfl (by kernel_rfl) ?_
      simp only [RT, FS, ↓RE, okR, argEnv, Nat.reduceAdd, Nat.reduceSub, Nat.reduceLT, Nat.reduceLeDiff, Nat.reduceEqDiff, reduceIte, oS, oC, oK, oL, oH, z1, gInt1_eq, gKi_eq, ex_tup, Int.reduceBEq, Int.reduceBNe, beq_self_eq_true, bne_self_eq_false, hw, oX, hk]
    cases ha : rI al (-600) 600
    · have h1 := LenR_bad c k w al wv (by simp [lenFine, ha])
      simp only [h1] at oL
      refine pure_of_wc (rs := [.tmp 10]) (m := 202) [] e6_ok (by kernel_rfl) Try.func10 rfl (by kernel_rfl) rfl rfl (by kernel_rfl) ?_
      simp only [RT, FS, ↓RE, okR, argEnv, Nat.reduceAdd, Nat.reduceSub, Nat.reduceLT, Nat.reduceLeDiff, Nat.reduceEqDiff, reduceIte, oS, oC, oK, oL, oH, z1, gInt1_eq, gKi_eq, ex_tup, Int.reduceBEq, Int.reduceBNe, beq_self_eq_true, bne_self_eq_false, hw, oX, hk, ha]
    cases hv : rI wv 0 2000
    · have h1 := LenR_bad c k w al wv (by simp [lenFine, hv])
      simp only [h1] at oL
      refine pure_of_wc (rs := [.tmp 10]) (m := 202) [] e6_ok (by kernel_rfl) Try.func10 rfl (by kernel_rfl) rfl rfl (by kernel_rfl) ?_
      simp only [RT, FS, ↓RE, okR, argEnv, Nat.reduceAdd, Nat.reduceSub, Nat.reduceLT, Nat.reduceLeDiff, Nat.reduceEqDiff, reduceIte, oS, oC, oK, oL, oH, z1, gInt1_eq, gKi_eq, ex_tup, Int.reduceBEq, Int.reduceBNe, beq_self_eq_true, bne_self_eq_false, hw, oX, hk, ha, hv]
    have h1 := LenR_fine c hg k w al wv (by simp [hb, lenFine, hk, hw, ha, hv])
    have oR := gC5_eq (ok := fun c al => CraftOk c ∧ -600 ≤ al ∧ al ≤ 600) (fun c k w al wv => .tup [.int .i64 ((rlenO c k w al wv).getD 0), .bool (rlenO c k w al wv).isSome]) k w al wv ⟨hc, rI_le ha⟩
    simp only [Craft.c] at oR
    cases hm : sayO (tabOf c k) w with
    | none =>
      simp only [h1, hm] at oL
      have h3 : rlenO c k w al wv = none := by simp [rlenO, hm]
      simp only [h3, Option.getD_none, Option.isSome_none] at oR
      refine pure_of_wc (rs := [.tmp 10]) (m := 202) [] e6_ok (by kernel_rfl) Try.func10 rfl (by kernel_rfl) rfl rfl (by kernel_rfl) ?_
      simp only [RT, FS, ↓RE, okR, argEnv, Nat.reduceAdd, Nat.reduceSub, Nat.reduceLT, Nat.reduceLeDiff, Nat.reduceEqDiff, reduceIte, oS, oC, oK, oL, oH, z1, gInt1_eq, gKi_eq, ex_tup, Int.reduceBEq, Int.reduceBNe, beq_self_eq_true, bne_self_eq_false, hw, oX, hk, ha, hv, oR]
    | some m =>
      simp only [h1, hm] at oL
      have h3 : rlenO c k w al wv = some (lenI c m al wv) := by simp [rlenO, hm]
      simp only [h3, Option.getD_some, Option.isSome_some] at oR
      have hwb := rI_le hw
      have hab := rI_le ha
      have w1 := wrap_i64 (z := w - 1) (by omega) (by omega)
      have w2 := wrap_i64 (z := al - 1) (by omega) (by omega)
      have oL1 := gC5_eq (ok := fun c _ => CraftL c) (fun c k w al wv => .tup [.int .i64 (LenR c k w al wv).1, .int .i64 (LenR c k w al wv).2]) k (max 0 (w - 1)) al wv hl
      have oL2 := gC5_eq (ok := fun c _ => CraftL c) (fun c k w al wv => .tup [.int .i64 (LenR c k w al wv).1, .int .i64 (LenR c k w al wv).2]) k w (max (-600) (al - 1)) wv hl
      obtain ⟨m', hm', hle⟩ := sayO_up (hc.tab k).1 (w' := max 0 (w - 1)) (by omega) hm
      have g1 := LenR_fine c hg k (max 0 (w - 1)) al wv (by simp [hb, lenFine, hk, ha, hv]; simp [rI]; omega)
      have g2 := LenR_fine c hg k w (max (-600) (al - 1)) wv (by simp [hb, lenFine, hk, hw, hv]; simp [rI]; omega)
      simp only [Craft.c, g1, hm'] at oL1
      simp only [Craft.c, g2, hm] at oL2
      have f1 := lenI_mono_m c hc.n hle al wv
      have f2 := lenI_mono_al c hc.n (al := al) (al' := max (-600) (al - 1)) (by omega) m wv
      refine pure_of_wc (rs := [.tmp 10]) (m := 202) [] e6_ok (by kernel_rfl) Try.func10 rfl (by kernel_rfl) rfl rfl (by kernel_rfl) ?_
      simp only [RT, FS, ↓RE, okR, argEnv, Nat.reduceAdd, Nat.reduceSub, Nat.reduceLT, Nat.reduceLeDiff, Nat.reduceEqDiff, reduceIte, oS, oC, oK, oL, oH, z1, gInt1_eq, gKi_eq, ex_tup, Int.reduceBEq, Int.reduceBNe, beq_self_eq_true, bne_self_eq_false, hw, oX, hk, ha, hv, oR, w1, w2, oL1, oL2, f1, f2, decide_true]
  · simp only [h2] at oH
    simp only [hcm, Option.getD_some, Option.isSome_some] at oX
    cases hk : kindB k
    · have h1 := LenR_bad c k w al wv (by simp [lenFine, hk])
      simp only [h1] at oL
      refine pure_of_wc (rs := [.tmp 10]) (m := 202) [] e6_ok (by kernel_rfl) Try.func10 rfl (by kernel_rfl) rfl rfl (by kernel_rfl) ?_
      simp only [RT, FS, ↓RE, okR, argEnv, Nat.reduceAdd, Nat.reduceSub, Nat.reduceLT, Nat.reduceLeDiff, Nat.reduceEqDiff, reduceIte, oS, oC, oK, oL, oH, z1, gInt1_eq, gKi_eq, ex_tup, Int.reduceBEq, Int.reduceBNe, beq_self_eq_true, bne_self_eq_false, hw, oX, hk]
    cases ha : rI al (-600) 600
    · have h1 := LenR_bad c k w al wv (by simp [lenFine, ha])
      simp only [h1] at oL
      refine pure_of_wc (rs := [.tmp 10]) (m := 202) [] e6_ok (by kernel_rfl) Try.func10 rfl (by kernel_rfl) rfl rfl (by kernel_rfl) ?_
      simp only [RT, FS, ↓RE, okR, argEnv, Nat.reduceAdd, Nat.reduceSub, Nat.reduceLT, Nat.reduceLeDiff, Nat.reduceEqDiff, reduceIte, oS, oC, oK, oL, oH, z1, gInt1_eq, gKi_eq, ex_tup, Int.reduceBEq, Int.reduceBNe, beq_self_eq_true, bne_self_eq_false, hw, oX, hk, ha]
    cases hv : rI wv 0 2000
    · have h1 := LenR_bad c k w al wv (by simp [lenFine, hv])
      simp only [h1] at oL
      refine pure_of_wc (rs := [.tmp 10]) (m := 202) [] e6_ok (by kernel_rfl) Try.func10 rfl (by kernel_rfl) rfl rfl (by kernel_rfl) ?_
      simp only [RT, FS, ↓RE, okR, argEnv, Nat.reduceAdd, Nat.reduceSub, Nat.reduceLT, Nat.reduceLeDiff, Nat.reduceEqDiff, reduceIte, oS, oC, oK, oL, oH, z1, gInt1_eq, gKi_eq, ex_tup, Int.reduceBEq, Int.reduceBNe, beq_self_eq_true, bne_self_eq_false, hw, oX, hk, ha, hv]
    have h1 := LenR_fine c hg k w al wv (by simp [hb, lenFine, hk, hw, ha, hv])
    have oR := gC5_eq (ok := fun c al => CraftOk c ∧ -600 ≤ al ∧ al ≤ 600) (fun c k w al wv => .tup [.int .i64 ((rlenO c k w al wv).getD 0), .bool (rlenO c k w al wv).isSome]) k w al wv ⟨hc, rI_le ha⟩
    simp only [Craft.c] at oR
    cases hm : sayO (tabOf c k) w with
    | none =>
      simp only [h1, hm] at oL
      have h3 : rlenO c k w al wv = none := by simp [rlenO, hm]
      simp only [h3, Option.getD_none, Option.isSome_none] at oR
      refine pure_of_wc (rs := [.tmp 10]) (m := 202) [] e6_ok (by kernel_rfl) Try.func10 rfl (by kernel_rfl) rfl rfl (by kernel_rfl) ?_
      simp only [RT, FS, ↓RE, okR, argEnv, Nat.reduceAdd, Nat.reduceSub, Nat.reduceLT, Nat.reduceLeDiff, Nat.reduceEqDiff, reduceIte, oS, oC, oK, oL, oH, z1, gInt1_eq, gKi_eq, ex_tup, Int.reduceBEq, Int.reduceBNe, beq_self_eq_true, bne_self_eq_false, hw, oX, hk, ha, hv, oR]
    | some m =>
      simp only [h1, hm] at oL
      have h3 : rlenO c k w al wv = some (lenI c m al wv) := by simp [rlenO, hm]
      simp only [h3, Option.getD_some, Option.isSome_some] at oR
      have hwb := rI_le hw
      have hab := rI_le ha
      have w1 := wrap_i64 (z := w - 1) (by omega) (by omega)
      have w2 := wrap_i64 (z := al - 1) (by omega) (by omega)
      have oL1 := gC5_eq (ok := fun c _ => CraftL c) (fun c k w al wv => .tup [.int .i64 (LenR c k w al wv).1, .int .i64 (LenR c k w al wv).2]) k (max 0 (w - 1)) al wv hl
      have oL2 := gC5_eq (ok := fun c _ => CraftL c) (fun c k w al wv => .tup [.int .i64 (LenR c k w al wv).1, .int .i64 (LenR c k w al wv).2]) k w (max (-600) (al - 1)) wv hl
      obtain ⟨m', hm', hle⟩ := sayO_up (hc.tab k).1 (w' := max 0 (w - 1)) (by omega) hm
      have g1 := LenR_fine c hg k (max 0 (w - 1)) al wv (by simp [hb, lenFine, hk, ha, hv]; simp [rI]; omega)
      have g2 := LenR_fine c hg k w (max (-600) (al - 1)) wv (by simp [hb, lenFine, hk, hw, hv]; simp [rI]; omega)
      simp only [Craft.c, g1, hm'] at oL1
      simp only [Craft.c, g2, hm] at oL2
      have f1 := lenI_mono_m c hc.n hle al wv
      have f2 := lenI_mono_al c hc.n (al := al) (al' := max (-600) (al - 1)) (by omega) m wv
      refine pure_of_wc (rs := [.tmp 10]) (m := 202) [] e6_ok (by kernel_rfl) Try.func10 rfl (by kernel_rfl) rfl rfl (by kernel_rfl) ?_
      simp only [RT, FS, ↓RE, okR, argEnv, Nat.reduceAdd, Nat.reduceSub, Nat.reduceLT, Nat.reduceLeDiff, Nat.reduceEqDiff, reduceIte, oS, oC, oK, oL, oH, z1, gInt1_eq, gKi_eq, ex_tup, Int.reduceBEq, Int.reduceBNe, beq_self_eq_true, bne_self_eq_false, hw, oX, hk, ha, hv, oR, w1, w2, oL1, oL2, f1, f2, decide_true]
theorem runLengths_pure : ∀ Ds, TyL Try.prog Try.f10.params.toList Ds → Pure Try.prog 10 Ds (.bool true) := by
  intro Ds h
  rw [Try.params10] at h
  match Ds, h with
  | [_, _, _, _, _], ⟨⟨n, _, h1, e1⟩, ⟨n2, _, h2, e2⟩, ⟨n3, _, h3, e3⟩, ⟨n4, _, h4, e4⟩, ⟨n5, _, h5, e5⟩, _⟩ =>
    rw [Try.underlying24] at e1
    rw [Fz.und_71] at e2
    rw [Fz.und_3] at e3 e4 e5
    dsimp only at e1 e2 e3 e4 e5
    obtain ⟨c, rfl, hl⟩ := tyCraft h1
    obtain ⟨k, rfl, _⟩ := tyInt Fz.und_71 h2
    obtain ⟨w, rfl, _⟩ := tyInt Fz.und_3 h3
    obtain ⟨al, rfl, _⟩ := tyInt Fz.und_3 h4
    obtain ⟨wv, rfl, _⟩ := tyInt Fz.und_3 h5
    subst e1; cases e2; cases e3; cases e4; cases e5
    exact runLengths_at c hl k w al wv
end Go.Sx
