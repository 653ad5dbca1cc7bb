/- Own work: a calculus of contracts for the programs of this kit: parts SxE10r, SxE11r, SxE12r, SxE13r, SxE14r. -/
import Derived.Test.YthljonnokmkagaaSxEa
import Derived.Test.YthljonnokmkagaaSxMg
set_option linter.unusedVariables false
set_option linter.unusedSimpArgs false
namespace Go.Sx
open Go.Proofs
set_option maxRecDepth 10000

theorem RRow.d_inj (a b : RRow) (h : a.d = b.d) : a = b := by
  obtain ⟨a1, a2⟩ := a; obtain ⟨b1, b2⟩ := b
  simp [RRow.d] at h; simp [h.1, h.2]
theorem Craft.c_inj {a b : Craft} (h : a.c = b.c) : a = b := by
  obtain ⟨a1, a2, a3, a4, a5, a6, a7, a8, a9, a10, a11, a12, a13⟩ := a
  obtain ⟨b1, b2, b3, b4, b5, b6, b7, b8, b9, b10, b11, b12, b13⟩ := b
  simp only [Craft.c, List.cons.injEq, D.sl.injEq, D.int.injEq, true_and, and_true] at h
  obtain ⟨h1, h2, h3, h4, h5, h6, h7, h8, h9, h10, h11, h12, h13⟩ := h
  rw [map_inj RRow.d_inj h1, map_inj RRow.d_inj h2, h3, h4, h5, h6, h7, h8, h9, h10, h11, map_inj RRow.d_inj h12, h13]
theorem enI_inj (a b : Int) (h : enI.d a = enI.d b) : a = b := by simpa [enI] using h
theorem enB_inj (a b : Bool) (h : enB.d a = enB.d b) : a = b := by simpa [enB] using h
theorem LandM.c_inj {a b : LandM} (h : a.c = b.c) : a = b := by
  obtain ⟨a1, a2, a3, a4, a5⟩ := a
  obtain ⟨b1, b2, b3, b4, b5⟩ := b
  simp only [LandM.c, grD, waD, List.cons.injEq, D.sl.injEq, D.int.injEq, true_and, and_true] at h
  obtain ⟨h1, h2, h3, h4, h5⟩ := h
  rw [h1, h2, map_inj enI_inj h3, map_inj enB_inj h4, h5]

/-- What holds of an aircraft as defined. -/
structure CraftOk (c : Craft) : Prop where
  l : CraftL c
  b : craftB c = true
  n : CraftN c
  off : rowsOk 1 none c.off = true ∧ c.off.length ≤ 12 ∧ 1 ≤ c.off.length
  on : rowsOk 1 none c.on = true ∧ c.on.length ≤ 12 ∧ 1 ≤ c.on.length
  ceil : rowsOk (-1) none c.ceil = true ∧ c.ceil.length ≤ 12 ∧ 1 ≤ c.ceil.length
  eng : c.eng = 1 ∨ c.eng = 2
  fall : 1 ≤ c.fall ∧ c.fall ≤ 20000
  drag : 0 ≤ c.drag ∧ c.drag ≤ 50
  sink : 0 ≤ c.sink ∧ c.sink ≤ 20000
  wave : 0 ≤ c.glass ∧ c.rough ≤ 2000
theorem craft_ok {c : Craft} (l : CraftL c) (h : craftB c = true) : CraftOk c := by
  have hb := h
  simp only [craftB, tabB, rI, Bool.and_eq_true, decide_eq_true_eq] at h
  obtain ⟨⟨h1, h1'⟩, ⟨h2, h2'⟩, h3, h4, h5, h6, h7, h8, h9, h10, h11, ⟨h12, h12'⟩, h13⟩ := h
  exact ⟨l, hb, ⟨by omega, by omega, h7, h8, h3.2⟩, ⟨h1, by omega, by omega⟩, ⟨h2, by omega, by omega⟩, ⟨h12, by omega, by omega⟩, by omega, h10, h11, h13, ⟨h3.1, h4⟩⟩
theorem CraftOk.tab {c : Craft} (h : CraftOk c) (k : Int) : rowsOk 1 none (tabOf c k) = true ∧ (tabOf c k).length ≤ 12 ∧ 1 ≤ (tabOf c k).length := by
  unfold tabOf; split
  · exact h.off
  · exact h.on
theorem rowsOk_mem {sg : Int} : ∀ {l : List RRow} {o : Option RRow}, rowsOk sg o l = true → ∀ r ∈ l, (0 ≤ r.w ∧ r.w ≤ 100000) ∧ 0 ≤ r.m ∧ r.m ≤ 20000
  | [], _, _, r, hr => by simp at hr
  | a :: l, o, h, r, hr => by
    simp only [rowsOk, rI, Bool.and_eq_true, decide_eq_true_eq] at h
    rcases List.mem_cons.1 hr with rfl | hr
    · exact ⟨h.1, h.2.1⟩
    · exact rowsOk_mem h.2.2.2 r hr
theorem sayO_mem : ∀ {l : List RRow} {w m : Int}, sayO l w = some m → ∃ r ∈ l, r.m = m ∧ w ≤ r.w
  | [], _, _, h => by cases h
  | a :: l, w, m, h => by
    simp only [sayO] at h; split at h
    · cases h; exact ⟨a, by simp, rfl, by assumption⟩
    · obtain ⟨r, h1, h2⟩ := sayO_mem h; exact ⟨r, by simp [h1], h2⟩
theorem sayO_le {sg : Int} {l : List RRow} (h : rowsOk sg none l = true) {w m : Int} (hs : sayO l w = some m) : 0 ≤ m ∧ m ≤ 20000 := by
  obtain ⟨r, h1, rfl, _⟩ := sayO_mem hs
  exact (rowsOk_mem h r h1).2
theorem sayO_getD {sg : Int} {l : List RRow} (h : rowsOk sg none l = true) (w : Int) : 0 ≤ (sayO l w).getD 0 ∧ (sayO l w).getD 0 ≤ 20000 := by
  cases hs : sayO l w with
  | none => simp
  | some m => exact sayO_le h hs
theorem sayD_eq (o : Option Int) : sayD o = .tup [.int .i64 (o.getD 0), .bool o.isSome] := by cases o <;> rfl

/-! Oracles of what is as defined -/
noncomputable def gCr : List D → Option D := orcF CraftL (fun c => [.agg c.c]) fun c => .bool (craftB c)
theorem gCr_eq {c : Craft} (h : CraftL c) : gCr [.agg c.c] = some (.bool (craftB c)) := orcF_eq (ok := CraftL) (dsf := fun c : Craft => [.agg c.c]) c h fun b hb => by
  simp only [List.cons.injEq, D.agg.injEq, and_true] at hb; rw [Craft.c_inj hb]
noncomputable def gLa : List D → Option D := orcF LandL (fun c => [.agg c.c]) fun c => .bool (landB c)
theorem gLa_eq {c : LandM} (h : LandL c) : gLa [.agg c.c] = some (.bool (landB c)) := orcF_eq (ok := LandL) (dsf := fun c : LandM => [.agg c.c]) c h fun b hb => by
  simp only [List.cons.injEq, D.agg.injEq, and_true] at hb; rw [LandM.c_inj hb]
def gAi : List D → Option D
  | [.agg [.int .i64 a, .int .i64 b, .int .i64 c, .int .i64 d]] => some (.bool (airB ⟨⟨a, b⟩, ⟨c, d⟩⟩))
  | _ => none
theorem gAi_eq (a b c d : Int) : gAi [.agg [.int .i64 a, .int .i64 b, .int .i64 c, .int .i64 d]] = some (.bool (airB ⟨⟨a, b⟩, ⟨c, d⟩⟩)) := (rfl)
theorem gAi_inv {ds : List D} {r : D} (h : gAi ds = some r) : ∃ a : AirW, ds = [.agg a.c] ∧ r = .bool (airB a) := by
  unfold gAi at h; split at h
  · cases h; exact ⟨⟨⟨_, _⟩, ⟨_, _⟩⟩, rfl, rfl⟩
  · cases h
def gKi : List D → Option D
  | [.int .i64 k] => some (.bool (kindB k))
  | _ => none
theorem gKi_eq (k : Int) : gKi [.int .i64 k] = some (.bool (kindB k)) := (rfl)
theorem gKi_inv {ds : List D} {r : D} (h : gKi ds = some r) : ∃ k, ds = [.int .i64 k] ∧ r = .bool (kindB k) := by
  unfold gKi at h; split at h
  · cases h; exact ⟨_, rfl, rfl⟩
  · cases h
def gCo : List D → Option D
  | [.agg [.int .i64 a, .int .i64 b], .agg [.int .i64 c, .int .i64 d]] => some (.bool (condB ⟨a, b⟩ ⟨c, d⟩))
  | _ => none
theorem gCo_eq (a b c d : Int) : gCo [.agg [.int .i64 a, .int .i64 b], .agg [.int .i64 c, .int .i64 d]] = some (.bool (condB ⟨a, b⟩ ⟨c, d⟩)) := (rfl)
theorem gCo_inv {ds : List D} {r : D} (h : gCo ds = some r) : ∃ a w : SpI, ds = [.agg a.c, .agg w.c] ∧ r = .bool (condB a w) := by
  unfold gCo at h; split at h
  · cases h; exact ⟨⟨_, _⟩, ⟨_, _⟩, rfl, rfl⟩
  · cases h
noncomputable abbrev e3 : List (FuncId × (List D → Option D)) := (90, gCr) :: (39, gCr) :: (88, gLa) :: (33, gLa) :: (91, gAi) :: (40, gAi) ::
  (94, gKi) :: (45, gKi) :: (96, gCo) :: e1
theorem e3_ok : OkO Try.prog (mkO e3) :=
  mkO_ok (orcF_ok fun c h => run_craft_t c h) <| mkO_ok (orcF_ok fun c h => ref3_Craft_t c h) <| mkO_ok (orcF_ok fun c h => run_land_t c h) <| mkO_ok (orcF_ok fun c h => ref3_Land_t c h) <|
  mkO_ok (fun ds r h => by obtain ⟨a, rfl, rfl⟩ := gAi_inv h; exact run_air_t a) <| mkO_ok (fun ds r h => by obtain ⟨a, rfl, rfl⟩ := gAi_inv h; exact ref3_Air_t a) <|
  mkO_ok (fun ds r h => by obtain ⟨a, rfl, rfl⟩ := gKi_inv h; exact run_kind_t a) <| mkO_ok (fun ds r h => by obtain ⟨a, rfl, rfl⟩ := gKi_inv h; exact ref3_Kind_t a) <|
  mkO_ok (fun ds r h => by obtain ⟨a, w, rfl, rfl⟩ := gCo_inv h; exact run_conditions_t a w) e1_ok

/-- The answer of Bounds. -/
def BoundsR (c : Craft) (k : Int) (w al wv : SpI) : SpI × Int :=
  if craftB c && (kindB k && (rS w.lo w.hi 0 100000 && condB al wv)) then
    match sayO (tabOf c k) w.hi with
    | none => (⟨0, 0⟩, 7)
    | some hi => (boundsI c ⟨(sayO (tabOf c k) w.lo).getD 0, hi⟩ al wv, 0)
  else (⟨0, 0⟩, 2)
theorem condB_al {al wv : SpI} (h : condB al wv = true) : -600 ≤ al.lo ∧ al.lo ≤ 600 ∧ -600 ≤ al.hi ∧ al.hi ≤ 600 := by
  simp only [condB, rS, Bool.and_eq_true, decide_eq_true_eq] at h; omega
theorem run_Bounds_t (c : Craft) (l : CraftL c) (k : Int) (w al wv : SpI) :
    Pure Try.prog 43 [.agg c.c, .int .i64 k, .agg w.c, .agg al.c, .agg wv.c] (.tup [.agg (BoundsR c k w al wv).1.c, .int .i64 (BoundsR c k w al wv).2]) := by
  have o1 := gCr_eq l
  simp only [Craft.c, SpI.c] at o1 ⊢
  refine pure_of_wc (rs := [.cell 10 30, .tmp 11]) (m := 64) [(3, [(11, false, false, [])]), (4, [(11, false, false, [])])] e3_ok (by kernel_rfl) Try.func43 rfl (by kernel_rfl) rfl rfl (by kernel_rfl) ?_
  cases h1 : craftB c
  · simp only [FS, ↓RE, okR, argEnv, Nat.reduceAdd, Nat.reduceSub, Nat.reduceLT, Nat.reduceLeDiff, Nat.reduceEqDiff, reduceIte, o1, h1]
    simp [BoundsR, h1]
  cases h2 : kindB k
  · simp only [FS, ↓RE, okR, argEnv, Nat.reduceAdd, Nat.reduceSub, Nat.reduceLT, Nat.reduceLeDiff, Nat.reduceEqDiff, reduceIte, o1, h1, gKi_eq, h2]
    simp [BoundsR, h1, h2]
  cases h3 : rS w.lo w.hi 0 100000
  · simp only [FS, ↓RE, okR, argEnv, Nat.reduceAdd, Nat.reduceSub, Nat.reduceLT, Nat.reduceLeDiff, Nat.reduceEqDiff, reduceIte, o1, h1, gKi_eq, h2, gS3_eq, h3]
    simp [BoundsR, h1, h2, h3]
  cases h4 : condB al wv
  · simp only [FS, ↓RE, okR, argEnv, Nat.reduceAdd, Nat.reduceSub, Nat.reduceLT, Nat.reduceLeDiff, Nat.reduceEqDiff, reduceIte, o1, h1, gKi_eq, h2, gS3_eq, h3, gCo_eq, h4]
    simp [BoundsR, h1, h2, h3, h4]
  have hc := craft_ok l h1
  have ht := hc.tab k
  have pr := run_rows_t c k h2
  simp only [Craft.c] at pr
  simp only [FS, ↓RE, okR, argEnv, Nat.reduceAdd, Nat.reduceSub, Nat.reduceLT, Nat.reduceLeDiff, Nat.reduceEqDiff, reduceIte, o1, h1, gKi_eq, h2, gS3_eq, h3, gCo_eq, h4]
  refine call_of_pure' pr (by simp [D.ltL, D.lt]) (by simp [D.lt]) ?_
  simp only [FS, ↓RE, okR, argEnv, Nat.reduceAdd, Nat.reduceSub, Nat.reduceLT, Nat.reduceLeDiff, Nat.reduceEqDiff, reduceIte]
  refine call_of_pure (run_says_t _ w.lo ht.1 ht.2.1) (by rw [sayD_eq]; rfl) ?_
  simp only [sayD_eq]
  simp only [FS, ↓RE, okR, argEnv, Nat.reduceAdd, Nat.reduceSub, Nat.reduceLT, Nat.reduceLeDiff, Nat.reduceEqDiff, reduceIte, ex_tup]
  refine call_of_pure' pr (by simp [D.ltL, D.lt]) (by simp [D.lt]) ?_
  simp only [FS, ↓RE, okR, argEnv, Nat.reduceAdd, Nat.reduceSub, Nat.reduceLT, Nat.reduceLeDiff, Nat.reduceEqDiff, reduceIte, ex_tup]
  refine call_of_pure (run_says_t _ w.hi ht.1 ht.2.1) (by rw [sayD_eq]; rfl) ?_
  simp only [sayD_eq]
  cases hs : sayO (tabOf c k) w.hi with
  | none =>
    simp only [FS, ↓RE, okR, argEnv, Nat.reduceAdd, Nat.reduceSub, Nat.reduceLT, Nat.reduceLeDiff, Nat.reduceEqDiff, reduceIte, ex_tup, Option.isSome_none, Option.getD_none]
    simp [BoundsR, h1, h2, h3, h4, hs]
  | some hi =>
    have hp := run_bounds_t c hc.n ⟨(sayO (tabOf c k) w.lo).getD 0, hi⟩ al wv (by have := sayO_getD ht.1 w.lo; have := sayO_le ht.1 hs; dsimp only; omega) (condB_al h4)
    simp only [Craft.c, SpI.c] at hp
    simp only [FS, ↓RE, okR, argEnv, Nat.reduceAdd, Nat.reduceSub, Nat.reduceLT, Nat.reduceLeDiff, Nat.reduceEqDiff, reduceIte, ex_tup, Option.isSome_some, Option.getD_some]
    refine call_of_pure hp rfl ?_
    simp only [FS, ↓RE, okR, argEnv, Nat.reduceAdd, Nat.reduceSub, Nat.reduceLT, Nat.reduceLeDiff, Nat.reduceEqDiff, reduceIte]
    simp [BoundsR, h1, h2, h3, h4, hs]

theorem length1_t (n : Int) : Pure Try.prog 103 [.int .i64 n] (.agg (SpI.mk n n).c) := by
  refine pure_of_wc (rs := [.cell 2 30]) (m := 6) [] oNone_ok (by kernel_rfl) Try.func103 rfl (by kernel_rfl) rfl rfl (by kernel_rfl) ?_
  simp only [FS, ↓RE, okR, argEnv, Nat.reduceAdd, Nat.reduceSub, Nat.reduceLT, Nat.reduceLeDiff, Nat.reduceEqDiff, reduceIte, SpI.c]
theorem run_Length_t (c : Craft) (l : CraftL c) (k w al wv : Int) :
    Pure Try.prog 52 [.agg c.c, .int .i64 k, .int .i64 w, .int .i64 al, .int .i64 wv] (.tup [.int .i64 (BoundsR c k ⟨w, w⟩ ⟨al, al⟩ ⟨wv, wv⟩).1.lo, .int .i64 (BoundsR c k ⟨w, w⟩ ⟨al, al⟩ ⟨wv, wv⟩).2]) := by
  have hp := run_Bounds_t c l k ⟨w, w⟩ ⟨al, al⟩ ⟨wv, wv⟩
  have h1 := length1_t
  simp only [Craft.c, SpI.c] at hp h1 ⊢
  refine pure_of_wc (rs := [.tmp 10, .tmp 11]) (m := 33) [(2, [(17, false, true, [(16, 1), (12, 1), (9, 1), (6, 1), (5, 1)]), (1, false, false, [])])] oNone_ok (by kernel_rfl) Try.func52 rfl (by kernel_rfl) rfl rfl (by kernel_rfl) ?_
  simp only [FS, ↓RE, okR, argEnv, Nat.reduceAdd, Nat.reduceSub, Nat.reduceLT, Nat.reduceLeDiff, Nat.reduceEqDiff, reduceIte, rev_callv, calleeZ_fn, List.nil_append, List.append_nil, List.cons_append]
  refine call_of_pure (h1 w) rfl ?_
  simp only [FS, ↓RE, okR, argEnv, Nat.reduceAdd, Nat.reduceSub, Nat.reduceLT, Nat.reduceLeDiff, Nat.reduceEqDiff, reduceIte, rev_callv, calleeZ_fn, List.nil_append, List.append_nil, List.cons_append]
  refine call_of_pure (h1 al) rfl ?_
  simp only [FS, ↓RE, okR, argEnv, Nat.reduceAdd, Nat.reduceSub, Nat.reduceLT, Nat.reduceLeDiff, Nat.reduceEqDiff, reduceIte, rev_callv, calleeZ_fn, List.nil_append, List.append_nil, List.cons_append]
  refine call_of_pure (h1 wv) rfl ?_
  simp only [FS, ↓RE, okR, argEnv, Nat.reduceAdd, Nat.reduceSub, Nat.reduceLT, Nat.reduceLeDiff, Nat.reduceEqDiff, reduceIte, rev_callv, calleeZ_fn, List.nil_append, List.append_nil, List.cons_append]
  refine call_of_pure hp rfl ?_
  simp only [FS, ↓RE, okR, argEnv, Nat.reduceAdd, Nat.reduceSub, Nat.reduceLT, Nat.reduceLeDiff, Nat.reduceEqDiff, reduceIte, ex_tup, rev_callv, calleeZ_fn, List.nil_append, List.append_nil, List.cons_append]

/-- The answers of Ceiling, Check and Map. -/
def CeilR (c : Craft) (w : Int) : Int × Int := if craftB c && rI w 0 100000 then match sayO c.ceil w with | none => (0, 7) | some m => (m, 0) else (0, 2)
theorem run_Ceiling_t (c : Craft) (l : CraftL c) (w : Int) : Pure Try.prog 54 [.agg c.c, .int .i64 w] (.tup [.int .i64 (CeilR c w).1, .int .i64 (CeilR c w).2]) := by
  have o1 := gCr_eq l
  simp only [Craft.c] at o1 ⊢
  refine pure_of_wc (rs := [.tmp 4, .tmp 5]) (m := 26) [] e3_ok (by kernel_rfl) Try.func54 rfl (by kernel_rfl) rfl rfl (by kernel_rfl) ?_
  cases h1 : craftB c
  · simp only [FS, ↓RE, okR, argEnv, Nat.reduceAdd, Nat.reduceSub, Nat.reduceLT, Nat.reduceLeDiff, Nat.reduceEqDiff, reduceIte, o1, h1]
    simp [CeilR, h1]
  cases h2 : rI w 0 100000
  · simp only [FS, ↓RE, okR, argEnv, Nat.reduceAdd, Nat.reduceSub, Nat.reduceLT, Nat.reduceLeDiff, Nat.reduceEqDiff, reduceIte, o1, h1, gI3_eq, h2]
    simp [CeilR, h1, h2]
  have hc := craft_ok l h1
  simp only [FS, ↓RE, okR, argEnv, Nat.reduceAdd, Nat.reduceSub, Nat.reduceLT, Nat.reduceLeDiff, Nat.reduceEqDiff, reduceIte, o1, h1, gI3_eq, h2]
  refine call_of_pure (run_says_t _ w hc.ceil.1 hc.ceil.2.1) (by rw [sayD_eq]; rfl) ?_
  simp only [sayD_eq]
  cases hs : sayO c.ceil w with
  | none =>
    simp only [FS, ↓RE, okR, argEnv, Nat.reduceAdd, Nat.reduceSub, Nat.reduceLT, Nat.reduceLeDiff, Nat.reduceEqDiff, reduceIte, ex_tup, Option.isSome_none, Option.getD_none]
    simp [CeilR, h1, h2, hs]
  | some m =>
    simp only [FS, ↓RE, okR, argEnv, Nat.reduceAdd, Nat.reduceSub, Nat.reduceLT, Nat.reduceLeDiff, Nat.reduceEqDiff, reduceIte, ex_tup, Option.isSome_some, Option.getD_some]
    simp [CeilR, h1, h2, hs]
end Go.Sx

namespace Go.Sx
open Go.Proofs
set_option maxRecDepth 10000

/-- The search by halves, as it goes. -/
def bisI (p : Int → Bool) : Nat → Int → Int → Int
  | 0, lo, _ => lo
  | n + 1, lo, hi => if lo < hi then (if p (lo + (hi - lo) / 2) then bisI p n lo (lo + (hi - lo) / 2) else bisI p n (lo + (hi - lo) / 2 + 1) hi) else lo
theorem bisI_done (p : Int → Bool) (n : Nat) (a b : Int) (h : ¬ a < b) : bisI p n a b = a := by cases n <;> simp [bisI, h]
theorem bisI_range (p : Int → Bool) : ∀ (n : Nat) (a b : Int), a ≤ b → a ≤ bisI p n a b ∧ bisI p n a b ≤ b
  | 0, a, b, h => by simp [bisI, h]
  | n + 1, a, b, h => by
    simp only [bisI]
    split
    · split
      · have := bisI_range p n a (a + (b - a) / 2) (by omega); omega
      · have := bisI_range p n (a + (b - a) / 2 + 1) b (by omega); omega
    · omega
/-- Of a condition that stays, the search finds the first place. -/
theorem bisI_mono (p : Int → Bool) : ∀ (n : Nat) (a b : Int), a ≤ b → b - a < 2 ^ n → (∀ i j, a ≤ i → i ≤ j → j < b → p i = true → p j = true) →
    (∀ i, a ≤ i → i < bisI p n a b → p i = false) ∧ ∀ i, bisI p n a b ≤ i → i < b → p i = true
  | 0, a, b, h, hn, _ => by simp at hn; exact ⟨fun i h1 h2 => by simp [bisI] at h2; omega, fun i h1 h2 => by simp [bisI] at h1; omega⟩
  | n + 1, a, b, h, hn, hm => by
    have hp : (2 : Int) ^ (n + 1) = 2 * 2 ^ n := by rw [Int.pow_succ]; omega
    simp only [bisI]
    split
    · rename_i hab
      split
      · rename_i hpm
        obtain ⟨h1, h2⟩ := bisI_mono p n a (a + (b - a) / 2) (by omega) (by omega) fun i j x y z => hm i j x y (by omega)
        refine ⟨h1, fun i x y => ?_⟩
        by_cases hi : i < a + (b - a) / 2
        · exact h2 i x hi
        · exact hm (a + (b - a) / 2) i (by omega) (by omega) y hpm
      · rename_i hpm
        have hpm : p (a + (b - a) / 2) = false := by simpa using hpm
        obtain ⟨h1, h2⟩ := bisI_mono p n (a + (b - a) / 2 + 1) b (by omega) (by omega) fun i j x y z => hm i j (by omega) y z
        refine ⟨fun i x y => ?_, h2⟩
        by_cases hi : i < a + (b - a) / 2 + 1
        · cases hpi : p i with
          | false => rfl
          | true => rw [hm i (a + (b - a) / 2) x (by omega) (by omega) hpi] at hpm; cases hpm
        · exact h1 i (by omega) y
    · exact ⟨fun i x y => by omega, fun i x y => by omega⟩
theorem rfirstB_t (lo hi : Int) (hb : -100000 ≤ lo ∧ lo ≤ hi ∧ hi ≤ 100000) (f : FuncId) (fst caps : List D) (p : Int → Bool) (hfl : ∀ m, D.ltL m fst = true) (hcl : ∀ m, D.ltL m caps = true)
    (hva : ∀ h i, viewL h (fst ++ [D.int .i64 i] ++ caps) = fst ++ [D.int .i64 i] ++ caps) (hq : ∀ i, lo ≤ i → i < hi → Pure Try.prog f (fst ++ [.int .i64 i] ++ caps) (.bool (p i))) :
    Pure Try.prog 73 [.int .i64 lo, .int .i64 hi, .fn (.func f) fst caps] (.int .i64 (bisI p 20 lo hi)) := by
  refine pure_of_wc (rs := [.tmp 6]) (m := 24) [] oNone_ok (by kernel_rfl) Try.func73 rfl (by kernel_rfl) rfl rfl (by kernel_rfl) ?_
  simp only [FS, ↓RE, okR, argEnv, Nat.reduceAdd, Nat.reduceSub, Nat.reduceLT, Nat.reduceLeDiff, Nat.reduceEqDiff, reduceIte]
  generalize hR : bisI p 20 lo hi = R
  refine loopV (ι := Nat × Int × Int) oNone_ok [] (fun i => [(0, .int .i64 i.2.1), (1, .int .i64 i.2.2), (2, .fn (.func f) fst caps)])
    (fun i => []) 0 (fun i => lo ≤ i.2.1 ∧ i.2.1 ≤ i.2.2 ∧ i.2.2 ≤ hi ∧ i.2.2 - i.2.1 < 2 ^ i.1 ∧ bisI p i.1 i.2.1 i.2.2 = R) (fun i => (i.2.2 - i.2.1).toNat) (20, lo, hi) (by kernel_rfl) (by kernel_rfl) ⟨Int.le_refl _, hb.2.1, Int.le_refl _, by simp only; omega, hR⟩ ?_ ?_
  · simp [headW, heapW, envW, blkLt, D.ltL, D.lt, look, hget, hfl, hcl]
  rintro ⟨n, a, b⟩ ⟨h1, h2, h3, h4, h5⟩
  dsimp only at h1 h2 h3 h4 h5 ⊢
  by_cases hab : a < b
  rotate_left
  · simp only [FS, ↓RE, okR, argEnv, Nat.reduceAdd, Nat.reduceSub, Nat.reduceLT, Nat.reduceLeDiff, Nat.reduceEqDiff, reduceIte, hab, decide_false]
    rw [← h5, bisI_done p n a b hab]
  cases n with
  | zero => simp at h4; omega
  | succ n =>
  have hp : (2 : Int) ^ (n + 1) = 2 * 2 ^ n := by rw [Int.pow_succ]; omega
  have w1 := wrap_i64 (z := b - a) (by omega) (by omega)
  have hd := a_quo' (k := .i64) (x := b - a) (y := 2) (by omega)
  have he : (b - a).tdiv 2 = (b - a) / 2 := Int.tdiv_eq_ediv_of_nonneg (by omega)
  have w2 := wrap_i64 (z := (b - a) / 2) (by omega) (by omega)
  have w3 := wrap_i64 (z := a + (b - a) / 2) (by omega) (by omega)
  have w4 := wrap_i64 (z := a + (b - a) / 2 + 1) (by omega) (by omega)
  simp only [FS, ↓RE, okR, argEnv, Nat.reduceAdd, Nat.reduceSub, Nat.reduceLT, Nat.reduceLeDiff, Nat.reduceEqDiff, reduceIte, hab, decide_true, w1, hd, he, w2, w3]
  refine call_of_pure (by rw [hva]; exact hq (a + (b - a) / 2) (by omega) (by omega)) rfl ?_
  simp only [bisI, if_pos hab] at h5
  cases q : p (a + (b - a) / 2)
  · rw [q] at h5
    simp only [FS, ↓RE, okR, argEnv, Nat.reduceAdd, Nat.reduceSub, Nat.reduceLT, Nat.reduceLeDiff, Nat.reduceEqDiff, reduceIte, w4]
    exact ⟨(n, a + (b - a) / 2 + 1, b), ⟨by simp only; omega, by simp only; omega, h3, by simp only; omega, by simpa using h5⟩, by simp only; omega, by simp [headW, heapW, envW, blkLt, D.ltL, D.lt, look, hget, hfl, hcl]⟩
  · rw [q] at h5
    simp only [FS, ↓RE, okR, argEnv, Nat.reduceAdd, Nat.reduceSub, Nat.reduceLT, Nat.reduceLeDiff, Nat.reduceEqDiff, reduceIte]
    exact ⟨(n, a, a + (b - a) / 2), ⟨h1, by simp only; omega, by simp only; omega, by simp only; omega, by simpa using h5⟩, by simp only; omega, by simp [headW, heapW, envW, blkLt, D.ltL, D.lt, look, hget, hfl, hcl]⟩

end Go.Sx

namespace Go.Sx
open Go.Proofs
set_option maxRecDepth 10000

/-- A step: to which cell, how far to the east and to the north. -/
structure Stp where
  cell : Int
  dx : Int
  dy : Int
  deriving DecidableEq
def Stp.c (s : Stp) : List D := [.int .i64 s.cell, .int .i64 s.dx, .int .i64 s.dy]
def lenS (dx dy : Int) : Int := if dx ≠ 0 ∧ dy ≠ 0 then 14 else 10
theorem lenS_b (dx dy : Int) : 10 ≤ lenS dx dy ∧ lenS dx dy ≤ 14 := by unfold lenS; split <;> omega
theorem step_length_t (s : Stp) : Pure Try.prog 106 [.agg s.c] (.int .i64 (lenS s.dx s.dy)) := by
  simp only [Stp.c]
  refine pure_of_wc (rs := [.tmp 2]) (m := 11) [] oNone_ok (by kernel_rfl) Try.func106 rfl (by kernel_rfl) rfl rfl (by kernel_rfl) ?_
  by_cases h1 : s.dx = 0
  · have b1 : (s.dx != 0) = false := by simpa using h1
    simp only [RT, FS, ↓RE, okR, argEnv, Nat.reduceAdd, Nat.reduceSub, Nat.reduceLT, Nat.reduceLeDiff, Nat.reduceEqDiff, reduceIte, b1]
    simp [lenS, h1]
  have b1 : (s.dx != 0) = true := by simpa using h1
  by_cases h2 : s.dy = 0
  · have b2 : (s.dy != 0) = false := by simpa using h2
    simp only [RT, FS, ↓RE, okR, argEnv, Nat.reduceAdd, Nat.reduceSub, Nat.reduceLT, Nat.reduceLeDiff, Nat.reduceEqDiff, reduceIte, b1, b2]
    simp [lenS, h2]
  · have b2 : (s.dy != 0) = true := by simpa using h2
    simp only [RT, FS, ↓RE, okR, argEnv, Nat.reduceAdd, Nat.reduceSub, Nat.reduceLT, Nat.reduceLeDiff, Nat.reduceEqDiff, reduceIte, b1, b2]
    simp [lenS, h1, h2]
def partI (n len : Int) : Int := (n * len + 9) / 10
theorem partI_b {n len : Int} (hn : 0 ≤ n ∧ n ≤ 20000) (hl : 10 ≤ len ∧ len ≤ 14) : 0 ≤ partI n len ∧ partI n len ≤ 28001 := by
  have h1 : 0 ≤ n * len := Int.mul_nonneg hn.1 (by omega)
  have h2 : n * len ≤ 20000 * 14 := Int.mul_le_mul hn.2 hl.2 (by omega) (by omega)
  unfold partI; omega
theorem run_part_t (n len : Int) (hn : 0 ≤ n ∧ n ≤ 20000) (hl : 10 ≤ len ∧ len ≤ 14) : Pure Try.prog 124 [.int .i64 n, .int .i64 len] (.int .i64 (partI n len)) := by
  have h1 : 0 ≤ n * len := Int.mul_nonneg hn.1 (by omega)
  have h2 : n * len ≤ 20000 * 14 := Int.mul_le_mul hn.2 hl.2 (by omega) (by omega)
  have w1 := wrap_i64 (z := n * len) (by omega) (by omega)
  have w2 := wrap_i64 (z := n * len + 9) (by omega) (by omega)
  have hd := a_quo' (k := .i64) (x := n * len + 9) (y := 10) (by omega)
  have he : (n * len + 9).tdiv 10 = (n * len + 9) / 10 := Int.tdiv_eq_ediv_of_nonneg (by omega)
  have w3 := wrap_i64 (z := (n * len + 9) / 10) (by omega) (by omega)
  refine pure_of_wc (rs := [.tmp 4]) (m := 10) [] oNone_ok (by kernel_rfl) Try.func124 rfl (by kernel_rfl) rfl rfl (by kernel_rfl) ?_
  simp only [RT, FS, ↓RE, okR, argEnv, Nat.reduceAdd, Nat.reduceSub, Nat.reduceLT, Nat.reduceLeDiff, Nat.reduceEqDiff, reduceIte, w1, w2, hd, he, w3]
  rfl

/-! A flight. 'g', 'wa': ground and water. -/
def flD (c : Craft) (w d : Int) (g wa : D) (cl : Int) (a : AirW) (ce : Int) : List D :=
  [.sl (c.off.map RRow.d), .sl (c.on.map RRow.d), .int .i64 c.glass, .int .i64 c.rough, .int .i64 c.gby, .int .i64 c.rby, .int .i64 c.head, .int .i64 c.tail, .int .i64 c.eng, .int .i64 c.fall, .int .i64 c.drag, .sl (c.ceil.map RRow.d), .int .i64 c.sink,
   .int .i64 w, .int .i64 d, g, wa, .int .i64 cl, .int .i64 a.e.lo, .int .i64 a.e.hi, .int .i64 a.n.lo, .int .i64 a.n.hi, .int .i64 ce]
structure AirOk (a : AirW) : Prop where
  e : -300 ≤ a.e.lo ∧ a.e.lo ≤ a.e.hi ∧ a.e.hi ≤ 300
  n : -300 ≤ a.n.lo ∧ a.n.lo ≤ a.n.hi ∧ a.n.hi ≤ 300
theorem air_ok {a : AirW} (h : airB a = true) : AirOk a := by
  simp only [airB, rS, Bool.and_eq_true, decide_eq_true_eq] at h
  exact ⟨h.1, h.2⟩
structure DirOk (s : Stp) : Prop where
  x : -1 ≤ s.dx ∧ s.dx ≤ 1
  y : -1 ≤ s.dy ∧ s.dy ≤ 1
def aheadI (a : AirW) (s : Stp) : SpI := wideI (-(a.e.lo * s.dx + a.n.lo * s.dy)) [-(a.e.lo * s.dx + a.n.hi * s.dy), -(a.e.hi * s.dx + a.n.lo * s.dy), -(a.e.hi * s.dx + a.n.hi * s.dy)]
theorem dir_mul {e d : Int} (he : -300 ≤ e ∧ e ≤ 300) (hd : -1 ≤ d ∧ d ≤ 1) : -300 ≤ e * d ∧ e * d ≤ 300 := by
  have : d = -1 ∨ d = 0 ∨ d = 1 := by omega
  rcases this with rfl | rfl | rfl <;> simp <;> omega
set_option maxHeartbeats 400000 in
theorem ahead_t (c : Craft) (w d : Int) (g wa : D) (cl : Int) (a : AirW) (ha : AirOk a) (ce : Int) (s : Stp) (hs : DirOk s) :
    Pure Try.prog 125 [.ref (flD c w d g wa cl a ce) 0, .agg s.c] (.agg (aheadI a s).c) := by
  have m1 := dir_mul (e := a.e.lo) (by have := ha.e; omega) hs.x
  have m2 := dir_mul (e := a.e.hi) (by have := ha.e; omega) hs.x
  have m3 := dir_mul (e := a.n.lo) (by have := ha.n; omega) hs.y
  have m4 := dir_mul (e := a.n.hi) (by have := ha.n; omega) hs.y
  have key := fun z (h1 : -100000 ≤ z) (h2 : z ≤ 100000) => wrap_i64 (z := z) (by omega) (by omega)
  have w1 := key _ (show -100000 ≤ a.e.lo * s.dx by omega) (by omega)
  have w2 := key _ (show -100000 ≤ a.e.hi * s.dx by omega) (by omega)
  have w3 := key _ (show -100000 ≤ a.n.lo * s.dy by omega) (by omega)
  have w4 := key _ (show -100000 ≤ a.n.hi * s.dy by omega) (by omega)
  have x1 := key _ (show -100000 ≤ a.e.lo * s.dx + a.n.lo * s.dy by omega) (by omega)
  have x2 := key _ (show -100000 ≤ a.e.lo * s.dx + a.n.hi * s.dy by omega) (by omega)
  have x3 := key _ (show -100000 ≤ a.e.hi * s.dx + a.n.lo * s.dy by omega) (by omega)
  have x4 := key _ (show -100000 ≤ a.e.hi * s.dx + a.n.hi * s.dy by omega) (by omega)
  have y1 : IntKind.i64.wrap (0 - (a.e.lo * s.dx + a.n.lo * s.dy)) = -(a.e.lo * s.dx + a.n.lo * s.dy) := by rw [key _ (by omega) (by omega)]; omega
  have y2 : IntKind.i64.wrap (0 - (a.e.lo * s.dx + a.n.hi * s.dy)) = -(a.e.lo * s.dx + a.n.hi * s.dy) := by rw [key _ (by omega) (by omega)]; omega
  have y3 : IntKind.i64.wrap (0 - (a.e.hi * s.dx + a.n.lo * s.dy)) = -(a.e.hi * s.dx + a.n.lo * s.dy) := by rw [key _ (by omega) (by omega)]; omega
  have y4 : IntKind.i64.wrap (0 - (a.e.hi * s.dx + a.n.hi * s.dy)) = -(a.e.hi * s.dx + a.n.hi * s.dy) := by rw [key _ (by omega) (by omega)]; omega
  have pw : Pure Try.prog 101 [.sl (intL [-(a.e.lo * s.dx + a.n.lo * s.dy), -(a.e.lo * s.dx + a.n.hi * s.dy), -(a.e.hi * s.dx + a.n.lo * s.dy), -(a.e.hi * s.dx + a.n.hi * s.dy)])] (.agg (aheadI a s).c) := run_wide_t _ _ (by simp)
  generalize aheadI a s = A at pw ⊢
  simp only [Stp.c, flD, SpI.c] at pw ⊢
  refine pure_of_wc (rs := [.cell 4 30]) (m := 87) [(1, [(83, false, false, [])])] oNone_ok (by kernel_rfl) Try.func125 rfl (by kernel_rfl) rfl rfl (by kernel_rfl) ?_
  simp only [List.append_eq, List.cons_append, List.nil_append]
  simp only [RT, FS, ↓RE, okR, argEnv, Nat.reduceAdd, Nat.reduceSub, Nat.reduceLT, Nat.reduceLeDiff, Nat.reduceEqDiff, reduceIte, w1, w2, w3, w4, x1, x2, x3, x4, y1, y2, y3, y4, litD_4]
  refine call_of_pure pw rfl ?_
  simp only [RT, FS, ↓RE, okR, argEnv, Nat.reduceAdd, Nat.reduceSub, Nat.reduceLT, Nat.reduceLeDiff, Nat.reduceEqDiff, reduceIte]
theorem aheadI_b {a : AirW} (ha : AirOk a) {s : Stp} (hs : DirOk s) : -600 ≤ (aheadI a s).lo ∧ (aheadI a s).lo ≤ (aheadI a s).hi ∧ (aheadI a s).hi ≤ 600 := by
  have m1 := dir_mul (e := a.e.lo) (by have := ha.e; omega) hs.x
  have m2 := dir_mul (e := a.e.hi) (by have := ha.e; omega) hs.x
  have m3 := dir_mul (e := a.n.lo) (by have := ha.n; omega) hs.y
  have m4 := dir_mul (e := a.n.hi) (by have := ha.n; omega) hs.y
  simp only [aheadI, wideI, List.foldl_cons, List.foldl_nil]
  omega
def lostI (c : Craft) (a : AirW) (s : Stp) : SpI := ⟨max 1 (partI c.fall (lenS s.dx s.dy) + c.drag * (aheadI a s).lo), max 1 (partI c.fall (lenS s.dx s.dy) + c.drag * (aheadI a s).hi)⟩
theorem lostI_b {c : Craft} (hc : CraftOk c) {a : AirW} (ha : AirOk a) {s : Stp} (hs : DirOk s) : 1 ≤ (lostI c a s).lo ∧ (lostI c a s).lo ≤ (lostI c a s).hi ∧ (lostI c a s).hi ≤ 58001 := by
  have h1 := aheadI_b ha hs
  have h2 := partI_b (n := c.fall) (by have := hc.fall; omega) (lenS_b s.dx s.dy)
  have h3 := drag_le hc.drag (a := (aheadI a s).hi) (by omega)
  have h4 : c.drag * (aheadI a s).lo ≤ c.drag * (aheadI a s).hi := Int.mul_le_mul_of_nonneg_left h1.2.1 hc.drag.1
  simp only [lostI]; omega
theorem lost_t (c : Craft) (hc : CraftOk c) (w d : Int) (g wa : D) (cl : Int) (a : AirW) (ha : AirOk a) (ce : Int) (s : Stp) (hs : DirOk s) :
    Pure Try.prog 92 [.ref (flD c w d g wa cl a ce) 0, .agg s.c] (.agg (lostI c a s).c) := by
  have h1 := aheadI_b ha hs
  have h2 := partI_b (n := c.fall) (by have := hc.fall; omega) (lenS_b s.dx s.dy)
  have h3 := drag_le hc.drag (a := (aheadI a s).hi) (by omega)
  have h4 := drag_le hc.drag (a := (aheadI a s).lo) (by omega)
  have p1 := step_length_t s
  have p2 := run_part_t c.fall (lenS s.dx s.dy) (by have := hc.fall; omega) (lenS_b s.dx s.dy)
  have p3 := ahead_t c w d g wa cl a ha ce s hs
  simp only [lostI]
  generalize aheadI a s = A at *
  generalize partI c.fall (lenS s.dx s.dy) = N at *
  have w1 := wrap_i64 (z := c.drag * A.lo) (by omega) (by omega)
  have w2 := wrap_i64 (z := c.drag * A.hi) (by omega) (by omega)
  have w3 := wrap_i64 (z := N + c.drag * A.lo) (by omega) (by omega)
  have w4 := wrap_i64 (z := N + c.drag * A.hi) (by omega) (by omega)
  simp only [Stp.c, flD, SpI.c] at p1 p2 p3 ⊢
  refine pure_of_wc (rs := [.cell 4 30]) (m := 41) [(1, [(12, true, false, []), (2, false, false, [])]), (2, [(24, false, false, [])])] oNone_ok (by kernel_rfl) Try.func92 rfl (by kernel_rfl) rfl rfl (by kernel_rfl) ?_
  simp only [RT, FS, ↓RE, okR, argEnv, Nat.reduceAdd, Nat.reduceSub, Nat.reduceLT, Nat.reduceLeDiff, Nat.reduceEqDiff, reduceIte]
  refine call_of_pure p1 rfl ?_
  simp only [RT, FS, ↓RE, okR, argEnv, Nat.reduceAdd, Nat.reduceSub, Nat.reduceLT, Nat.reduceLeDiff, Nat.reduceEqDiff, reduceIte]
  refine call_of_pure p2 rfl ?_
  simp only [RT, FS, ↓RE, okR, argEnv, Nat.reduceAdd, Nat.reduceSub, Nat.reduceLT, Nat.reduceLeDiff, Nat.reduceEqDiff, reduceIte]
  refine call_of_pure p3 rfl ?_
  simp only [RT, FS, ↓RE, okR, argEnv, Nat.reduceAdd, Nat.reduceSub, Nat.reduceLT, Nat.reduceLeDiff, Nat.reduceEqDiff, reduceIte, w1, w2, w3, w4]
end Go.Sx

namespace Go.Sx
open Go.Proofs
set_option maxRecDepth 10000

/-- What is left of a height, and what is needed for one. -/
def leftF (c : Craft) (a : AirW) (ce : Int) (s : Stp) (h : Int) : Int := if c.eng = 1 then h - (lostI c a s).hi else if h ≤ ce then h else max ce (h - partI c.sink (lenS s.dx s.dy))
def needF (c : Craft) (a : AirW) (ce : Int) (s : Stp) (h : Int) : Int := if c.eng = 1 then h + (lostI c a s).hi else if h ≤ ce then h else h + partI c.sink (lenS s.dx s.dy)
theorem needF_b {c : Craft} (hc : CraftOk c) {a : AirW} (ha : AirOk a) {s : Stp} (hs : DirOk s) (ce h : Int) : h ≤ needF c a ce s h ∧ needF c a ce s h ≤ h + 60000 := by
  have := lostI_b hc ha hs
  have := partI_b (n := c.sink) hc.sink (lenS_b s.dx s.dy)
  unfold needF; split
  · omega
  · split <;> omega
theorem leftF_b {c : Craft} (hc : CraftOk c) {a : AirW} (ha : AirOk a) {s : Stp} (hs : DirOk s) (ce h : Int) : leftF c a ce s h ≤ h ∧ h - 60000 ≤ leftF c a ce s h := by
  have := lostI_b hc ha hs
  have := partI_b (n := c.sink) hc.sink (lenS_b s.dx s.dy)
  unfold leftF; split
  · omega
  · split <;> omega
section
variable (c : Craft) (hc : CraftOk c) (w d : Int) (g wa : D) (cl : Int) (a : AirW) (ha : AirOk a) (ce : Int) (s : Stp) (hs : DirOk s) (h : Int) (hh : -100000 ≤ h ∧ h ≤ 2000000)
include hc ha hs hh
theorem needOne_t : Pure Try.prog 117 [.ref (flD c w d g wa cl a ce) 0, .agg s.c, .int .i64 h] (.int .i64 (h + (lostI c a s).hi)) := by
  have hb := lostI_b hc ha hs
  have p := lost_t c hc w d g wa cl a ha ce s hs
  have w1 := wrap_i64 (z := h + (lostI c a s).hi) (by omega) (by omega)
  simp only [Stp.c, flD, SpI.c] at p ⊢
  refine pure_of_wc (rs := [.tmp 6]) (m := 13) [] oNone_ok (by kernel_rfl) Try.func117 rfl (by kernel_rfl) rfl rfl (by kernel_rfl) ?_
  simp only [RT, FS, ↓RE, okR, argEnv, Nat.reduceAdd, Nat.reduceSub, Nat.reduceLT, Nat.reduceLeDiff, Nat.reduceEqDiff, reduceIte]
  refine call_of_pure p rfl ?_
  simp only [RT, FS, ↓RE, okR, argEnv, Nat.reduceAdd, Nat.reduceSub, Nat.reduceLT, Nat.reduceLeDiff, Nat.reduceEqDiff, reduceIte, w1]
theorem leftOne_t : Pure Try.prog 116 [.ref (flD c w d g wa cl a ce) 0, .agg s.c, .int .i64 h] (.int .i64 (h - (lostI c a s).hi)) := by
  have hb := lostI_b hc ha hs
  have p := lost_t c hc w d g wa cl a ha ce s hs
  have w1 := wrap_i64 (z := h - (lostI c a s).hi) (by omega) (by omega)
  simp only [Stp.c, flD, SpI.c] at p ⊢
  refine pure_of_wc (rs := [.tmp 6]) (m := 13) [] oNone_ok (by kernel_rfl) Try.func116 rfl (by kernel_rfl) rfl rfl (by kernel_rfl) ?_
  simp only [RT, FS, ↓RE, okR, argEnv, Nat.reduceAdd, Nat.reduceSub, Nat.reduceLT, Nat.reduceLeDiff, Nat.reduceEqDiff, reduceIte]
  refine call_of_pure p rfl ?_
  simp only [RT, FS, ↓RE, okR, argEnv, Nat.reduceAdd, Nat.reduceSub, Nat.reduceLT, Nat.reduceLeDiff, Nat.reduceEqDiff, reduceIte, w1]
omit hs ha in
theorem needTwo_t : Pure Try.prog 119 [.ref (flD c w d g wa cl a ce) 0, .agg s.c, .int .i64 h] (.int .i64 (if h ≤ ce then h else h + partI c.sink (lenS s.dx s.dy))) := by
  have hb := partI_b (n := c.sink) hc.sink (lenS_b s.dx s.dy)
  have p1 := step_length_t s
  have p2 := run_part_t c.sink (lenS s.dx s.dy) hc.sink (lenS_b s.dx s.dy)
  generalize partI c.sink (lenS s.dx s.dy) = N at *
  have w1 := wrap_i64 (z := h + N) (by omega) (by omega)
  simp only [Stp.c, flD, SpI.c] at p1 p2 ⊢
  refine pure_of_wc (rs := [.tmp 6]) (m := 24) [(3, [(11, false, false, [])])] oNone_ok (by kernel_rfl) Try.func119 rfl (by kernel_rfl) rfl rfl (by kernel_rfl) ?_
  by_cases q : h ≤ ce
  · simp only [RT, FS, ↓RE, okR, argEnv, Nat.reduceAdd, Nat.reduceSub, Nat.reduceLT, Nat.reduceLeDiff, Nat.reduceEqDiff, reduceIte, q, decide_true]
  · simp only [RT, FS, ↓RE, okR, argEnv, Nat.reduceAdd, Nat.reduceSub, Nat.reduceLT, Nat.reduceLeDiff, Nat.reduceEqDiff, reduceIte, q, decide_false]
    refine call_of_pure p1 rfl ?_
    simp only [RT, FS, ↓RE, okR, argEnv, Nat.reduceAdd, Nat.reduceSub, Nat.reduceLT, Nat.reduceLeDiff, Nat.reduceEqDiff, reduceIte]
    refine call_of_pure p2 rfl ?_
    simp only [RT, FS, ↓RE, okR, argEnv, Nat.reduceAdd, Nat.reduceSub, Nat.reduceLT, Nat.reduceLeDiff, Nat.reduceEqDiff, reduceIte, w1]
omit hs ha in
theorem leftTwo_t : Pure Try.prog 118 [.ref (flD c w d g wa cl a ce) 0, .agg s.c, .int .i64 h] (.int .i64 (if h ≤ ce then h else max ce (h - partI c.sink (lenS s.dx s.dy)))) := by
  have hb := partI_b (n := c.sink) hc.sink (lenS_b s.dx s.dy)
  have p1 := step_length_t s
  have p2 := run_part_t c.sink (lenS s.dx s.dy) hc.sink (lenS_b s.dx s.dy)
  generalize partI c.sink (lenS s.dx s.dy) = N at *
  have w1 := wrap_i64 (z := h - N) (by omega) (by omega)
  simp only [Stp.c, flD, SpI.c] at p1 p2 ⊢
  refine pure_of_wc (rs := [.tmp 6]) (m := 29) [(3, [(16, false, false, [])])] oNone_ok (by kernel_rfl) Try.func118 rfl (by kernel_rfl) rfl rfl (by kernel_rfl) ?_
  by_cases q : h ≤ ce
  · simp only [RT, FS, ↓RE, okR, argEnv, Nat.reduceAdd, Nat.reduceSub, Nat.reduceLT, Nat.reduceLeDiff, Nat.reduceEqDiff, reduceIte, q, decide_true]
  · simp only [RT, FS, ↓RE, okR, argEnv, Nat.reduceAdd, Nat.reduceSub, Nat.reduceLT, Nat.reduceLeDiff, Nat.reduceEqDiff, reduceIte, q, decide_false]
    refine call_of_pure p1 rfl ?_
    simp only [RT, FS, ↓RE, okR, argEnv, Nat.reduceAdd, Nat.reduceSub, Nat.reduceLT, Nat.reduceLeDiff, Nat.reduceEqDiff, reduceIte]
    refine call_of_pure p2 rfl ?_
    simp only [RT, FS, ↓RE, okR, argEnv, Nat.reduceAdd, Nat.reduceSub, Nat.reduceLT, Nat.reduceLeDiff, Nat.reduceEqDiff, reduceIte, w1]
end
/-- The functions that a flight has for its steps. -/
def needFn (c : Craft) : FuncId := if c.eng = 1 then 117 else 119
def leftFn (c : Craft) : FuncId := if c.eng = 1 then 116 else 118
theorem need_t (c : Craft) (hc : CraftOk c) (w d : Int) (g wa : D) (cl : Int) (a : AirW) (ha : AirOk a) (ce : Int) (s : Stp) (hs : DirOk s) (h : Int) (hh : -100000 ≤ h ∧ h ≤ 2000000) :
    Pure Try.prog (needFn c) [.ref (flD c w d g wa cl a ce) 0, .agg s.c, .int .i64 h] (.int .i64 (needF c a ce s h)) := by
  unfold needFn needF; split
  · exact needOne_t c hc w d g wa cl a ha ce s hs h hh
  · exact needTwo_t c hc w d g wa cl a ce s h hh
theorem left_t (c : Craft) (hc : CraftOk c) (w d : Int) (g wa : D) (cl : Int) (a : AirW) (ha : AirOk a) (ce : Int) (s : Stp) (hs : DirOk s) (h : Int) (hh : -100000 ≤ h ∧ h ≤ 2000000) :
    Pure Try.prog (leftFn c) [.ref (flD c w d g wa cl a ce) 0, .agg s.c, .int .i64 h] (.int .i64 (leftF c a ce s h)) := by
  unfold leftFn leftF; split
  · exact leftOne_t c hc w d g wa cl a ha ce s hs h hh
  · exact leftTwo_t c hc w d g wa cl a ce s h hh
theorem way_t (c : Craft) (hc : CraftOk c) (w d : Int) (g wa : D) (cl : Int) (a : AirW) (ce : Int) :
    Pure Try.prog 76 [.ref (flD c w d g wa cl a ce) 0] (.agg [.fn (.func (leftFn c)) [.ref (flD c w d g wa cl a ce) 0] [], .fn (.func (needFn c)) [.ref (flD c w d g wa cl a ce) 0] []]) := by
  have i0 : ∀ cs, indexD Try.prog 157 (.agg cs) (.int .i64 0) = partD Try.prog 119 cs 0 := fun cs => by simpa using ix_arr (P := Try.prog) Fz.und_157 Fz.size_119 (i := 0) (by decide) cs .i64
  have i1 : ∀ cs, indexD Try.prog 157 (.agg cs) (.int .i64 1) = partD Try.prog 119 cs 2 := fun cs => by simpa using ix_arr (P := Try.prog) Fz.und_157 Fz.size_119 (i := 1) (by decide) cs .i64
  simp only [flD]
  rcases hc.eng with h | h
  · have w1 : IntKind.i64.wrap (c.eng - 1) = 0 := by rw [h]; decide
    have e1 : leftFn c = 116 := if_pos h
    have e2 : needFn c = 117 := if_pos h
    rw [e1, e2]
    refine pure_of_wc (rs := [.cell 2 119]) (m := 21) [] oNone_ok (by kernel_rfl) Try.func76 rfl (by kernel_rfl) rfl rfl (by kernel_rfl) ?_
    simp only [RT, FS, ↓RE, okR, argEnv, Nat.reduceAdd, Nat.reduceSub, Nat.reduceLT, Nat.reduceLeDiff, Nat.reduceEqDiff, reduceIte, w1, i0]
  · have w1 : IntKind.i64.wrap (c.eng - 1) = 1 := by rw [h]; decide
    have e1 : leftFn c = 118 := if_neg (by omega)
    have e2 : needFn c = 119 := if_neg (by omega)
    rw [e1, e2]
    refine pure_of_wc (rs := [.cell 2 119]) (m := 21) [] oNone_ok (by kernel_rfl) Try.func76 rfl (by kernel_rfl) rfl rfl (by kernel_rfl) ?_
    simp only [RT, FS, ↓RE, okR, argEnv, Nat.reduceAdd, Nat.reduceSub, Nat.reduceLT, Nat.reduceLeDiff, Nat.reduceEqDiff, reduceIte, w1, i1]
end Go.Sx

namespace Go.Sx
open Go.Proofs
set_option maxRecDepth 10000

/-! Maps as defined -/
structure LandOk (l : LandM) : Prop where
  len : LandL l
  b : landB l = true
  ground : ∀ n ∈ l.ground, 0 ≤ n ∧ n ≤ 20000
  wide : 1 ≤ l.wide ∧ l.wide ≤ 12
  deep : 1 ≤ l.deep ∧ l.deep ≤ 12
  size : (l.ground.length : Int) = l.wide * l.deep
  water : l.water.length = l.ground.length
  clear : 0 ≤ l.clear ∧ l.clear ≤ 20000
  small : 1 ≤ l.ground.length ∧ l.ground.length ≤ 144
theorem land_ok {l : LandM} (h : LandL l) (hb : landB l = true) : LandOk l := by
  have hb' := hb
  simp only [landB, rI, Bool.and_eq_true, decide_eq_true_eq, List.all_eq_true] at hb
  obtain ⟨h1, h2, h3, h4, h5, h6⟩ := hb
  have := mul_le h2 h3
  exact ⟨h, hb', h1, h2, h3, h4, h5, h6, by omega⟩
def gAt (l : LandM) (i : Nat) : Int := l.ground[i]?.getD 0
def wAt (l : LandM) (i : Nat) : Bool := l.water[i]?.getD false
theorem LandOk.g_at {l : LandM} (h : LandOk l) {i : Nat} (hi : i < l.ground.length) : l.ground[i]? = some (gAt l i) ∧ 0 ≤ gAt l i ∧ gAt l i ≤ 20000 := by
  have h1 : l.ground[i]? = some l.ground[i] := by simp [hi]
  have h2 := h.ground _ (List.mem_of_getElem? h1)
  simp [gAt, h1, h2]
theorem LandOk.w_at {l : LandM} (h : LandOk l) {i : Nat} (hi : i < l.ground.length) : l.water[i]? = some (wAt l i) := by
  have h1 : l.water[i]? = some (l.water[i]'(by rw [h.water]; exact hi)) := by simp
  simp [wAt, h1]
def bareI (l : LandM) (i : Nat) : Int := if wAt l i then gAt l i else gAt l i + l.clear
theorem bareI_b {l : LandM} (h : LandOk l) {i : Nat} (hi : i < l.ground.length) : 0 ≤ bareI l i ∧ bareI l i ≤ 40000 := by
  have := (h.g_at hi).2
  have := h.clear
  unfold bareI; split <;> omega
/-- The cells of a flight over a map. -/
def flO (c : Craft) (l : LandM) (a : AirW) (ce : Int) : List D := flD c l.wide l.deep (.sl (intL l.ground)) (.sl (boolL l.water)) l.clear a ce
theorem bare_t (c : Craft) (l : LandM) (hl : LandOk l) (a : AirW) (ce : Int) (i : Nat) (hi : i < l.ground.length) :
    Pure Try.prog 112 [.ref (flO c l a ce) 0, .int .i64 (i : Int)] (.int .i64 (bareI l i)) := by
  have h1 := hl.g_at hi
  have hg := sI_ix h1.1
  have hw := sB_ix (hl.w_at hi)
  have hc := hl.clear
  have w1 := wrap_i64 (z := gAt l i + l.clear) (by omega) (by omega)
  simp only [flO, flD]
  unfold bareI
  generalize gAt l i = G at *
  cases h : wAt l i
  · rw [h] at hw
    refine pure_of_wc (rs := [.tmp 4]) (m := 35) [(3, [(15, false, false, [])])] oNone_ok (by kernel_rfl) Try.func112 rfl (by kernel_rfl) rfl rfl (by kernel_rfl) ?_
    simp only [RT, FS, ↓RE, okR, argEnv, Nat.reduceAdd, Nat.reduceSub, Nat.reduceLT, Nat.reduceLeDiff, Nat.reduceEqDiff, reduceIte, hg, hw, w1]
    all_goals rfl
  · rw [h] at hw
    refine pure_of_wc (rs := [.tmp 4]) (m := 35) [(3, [(15, false, false, [])])] oNone_ok (by kernel_rfl) Try.func112 rfl (by kernel_rfl) rfl rfl (by kernel_rfl) ?_
    simp only [RT, FS, ↓RE, okR, argEnv, Nat.reduceAdd, Nat.reduceSub, Nat.reduceLT, Nat.reduceLeDiff, Nat.reduceEqDiff, reduceIte, hg, hw, w1]
    all_goals rfl
/-- Whether a number is a cell of a map as defined. -/
def cellB (l : LandM) (n : Int) : Bool := landB l && rI n 0 (l.ground.length - 1)
theorem run_cell_t (l : LandM) (hl : LandL l) (n : Int) : Pure Try.prog 70 [.agg l.c, .int .i64 n] (.bool (cellB l n)) := by
  have o1 := gLa_eq hl
  have hg := hl.ground
  have w1 := wrap_i64 (z := (l.ground.length : Int) - 1) (by omega) (by omega)
  unfold cellB
  simp only [LandM.c, grD, waD] at o1 ⊢
  cases h : landB l
  · refine pure_of_wc (rs := [.tmp 4]) (m := 15) [] e3_ok (by kernel_rfl) Try.func70 rfl (by kernel_rfl) rfl rfl (by kernel_rfl) ?_
    simp only [RT, FS, ↓RE, okR, argEnv, Nat.reduceAdd, Nat.reduceSub, Nat.reduceLT, Nat.reduceLeDiff, Nat.reduceEqDiff, reduceIte, o1, h]
    simp

  · refine pure_of_wc (rs := [.tmp 4]) (m := 15) [] e3_ok (by kernel_rfl) Try.func70 rfl (by kernel_rfl) rfl rfl (by kernel_rfl) ?_
    simp only [RT, FS, ↓RE, okR, argEnv, Nat.reduceAdd, Nat.reduceSub, Nat.reduceLT, Nat.reduceLeDiff, Nat.reduceEqDiff, reduceIte, o1, h, List.length_map, w1, gI3_eq]
    simp
noncomputable def gCe : List D → Option D := orcF (fun p : LandM × Int => LandL p.1) (fun p => [.agg p.1.c, .int .i64 p.2]) fun p => .bool (cellB p.1 p.2)
theorem gCe_eq {l : LandM} (h : LandL l) (n : Int) : gCe [.agg l.c, .int .i64 n] = some (.bool (cellB l n)) := orcF_eq (ok := fun p : LandM × Int => LandL p.1) (dsf := fun p => [.agg p.1.c, .int .i64 p.2]) (rf := fun p => .bool (cellB p.1 p.2)) (l, n) h fun b hb => by
  simp only [List.cons.injEq, D.agg.injEq, D.int.injEq, true_and, and_true] at hb; rw [LandM.c_inj hb.1, hb.2]

/-! The start of a flight -/
def startE (c : Craft) (l : LandM) (a : AirW) (w : Int) (fine : Bool) : Int :=
  if craftB c && (landB l && (airB a && (rI w 0 100000 && fine))) then (if (sayO c.ceil w).isNone && (c.eng == 2) then 7 else 0) else 2
def ceilI (c : Craft) (w : Int) : Int := (sayO c.ceil w).getD 0
def startR (c : Craft) (l : LandM) (a : AirW) (w : Int) (fine : Bool) : D := .tup [if startE c l a w fine = 0 then .ref (flO c l a (ceilI c w)) 0 else .nilp, .int .i64 (startE c l a w fine)]
theorem run_start_t (c : Craft) (hc : CraftL c) (l : LandM) (hl : LandL l) (a : AirW) (w : Int) (fine : Bool) :
    Pure Try.prog 68 [.agg c.c, .agg l.c, .agg a.c, .int .i64 w, .bool fine] (startR c l a w fine) := by
  have o1 := gCr_eq hc
  have o2 := gLa_eq hl
  cases h1 : craftB c
  · simp only [Craft.c, LandM.c, grD, waD, AirW.c] at o1 o2 ⊢
    refine pure_of_wc (rs := [.tmp 10, .tmp 11]) (m := 56) [] e3_ok (by kernel_rfl) Try.func68 rfl (by kernel_rfl) rfl rfl (by kernel_rfl) ?_
    simp only [RT, FS, ↓RE, okR, argEnv, Nat.reduceAdd, Nat.reduceSub, Nat.reduceLT, Nat.reduceLeDiff, Nat.reduceEqDiff, reduceIte, o1, h1]
    simp [view, startR, startE, h1]
  cases h2 : landB l
  · simp only [Craft.c, LandM.c, grD, waD, AirW.c] at o1 o2 ⊢
    refine pure_of_wc (rs := [.tmp 10, .tmp 11]) (m := 56) [] e3_ok (by kernel_rfl) Try.func68 rfl (by kernel_rfl) rfl rfl (by kernel_rfl) ?_
    simp only [RT, FS, ↓RE, okR, argEnv, Nat.reduceAdd, Nat.reduceSub, Nat.reduceLT, Nat.reduceLeDiff, Nat.reduceEqDiff, reduceIte, o1, h1, o2, h2]
    simp [view, startR, startE, h1, h2]
  cases h3 : airB a
  · simp only [Craft.c, LandM.c, grD, waD, AirW.c] at o1 o2 ⊢
    refine pure_of_wc (rs := [.tmp 10, .tmp 11]) (m := 56) [] e3_ok (by kernel_rfl) Try.func68 rfl (by kernel_rfl) rfl rfl (by kernel_rfl) ?_
    simp only [RT, FS, ↓RE, okR, argEnv, Nat.reduceAdd, Nat.reduceSub, Nat.reduceLT, Nat.reduceLeDiff, Nat.reduceEqDiff, reduceIte, o1, h1, o2, h2, gAi_eq, h3]
    simp [view, startR, startE, h1, h2, h3]
  cases h4 : rI w 0 100000
  · simp only [Craft.c, LandM.c, grD, waD, AirW.c] at o1 o2 ⊢
    refine pure_of_wc (rs := [.tmp 10, .tmp 11]) (m := 56) [] e3_ok (by kernel_rfl) Try.func68 rfl (by kernel_rfl) rfl rfl (by kernel_rfl) ?_
    simp only [RT, FS, ↓RE, okR, argEnv, Nat.reduceAdd, Nat.reduceSub, Nat.reduceLT, Nat.reduceLeDiff, Nat.reduceEqDiff, reduceIte, o1, h1, o2, h2, gAi_eq, h3, gI3_eq, h4]
    simp [view, startR, startE, h1, h2, h3, h4]
  cases h5 : fine
  · simp only [Craft.c, LandM.c, grD, waD, AirW.c] at o1 o2 ⊢
    refine pure_of_wc (rs := [.tmp 10, .tmp 11]) (m := 56) [] e3_ok (by kernel_rfl) Try.func68 rfl (by kernel_rfl) rfl rfl (by kernel_rfl) ?_
    simp only [RT, FS, ↓RE, okR, argEnv, Nat.reduceAdd, Nat.reduceSub, Nat.reduceLT, Nat.reduceLeDiff, Nat.reduceEqDiff, reduceIte, o1, h1, o2, h2, gAi_eq, h3, gI3_eq, h4]
    simp [view, startR, startE, h1, h2, h3, h4]
  have hk := craft_ok hc h1
  have ps := run_says_t c.ceil w hk.ceil.1 hk.ceil.2.1
  rw [sayD_eq] at ps
  cases hs : sayO c.ceil w with
  | none =>
    rw [hs] at ps
    simp only [Option.getD_none, Option.isSome_none] at ps
    by_cases h6 : c.eng = 2
    · have b6 : (c.eng == 2) = true := by simpa using h6
      simp only [Craft.c, LandM.c, grD, waD, AirW.c] at o1 o2 ⊢
      refine pure_of_wc (rs := [.tmp 10, .tmp 11]) (m := 56) [] e3_ok (by kernel_rfl) Try.func68 rfl (by kernel_rfl) rfl rfl (by kernel_rfl) ?_
      simp only [RT, FS, ↓RE, okR, argEnv, Nat.reduceAdd, Nat.reduceSub, Nat.reduceLT, Nat.reduceLeDiff, Nat.reduceEqDiff, reduceIte, o1, h1, o2, h2, gAi_eq, h3, gI3_eq, h4]
      refine call_of_pure ps rfl ?_
      simp only [RT, FS, ↓RE, okR, argEnv, Nat.reduceAdd, Nat.reduceSub, Nat.reduceLT, Nat.reduceLeDiff, Nat.reduceEqDiff, reduceIte, b6]
      simp [view, startR, startE, h1, h2, h3, h4, hs, h6]
    · have b6 : (c.eng == 2) = false := by simpa using h6
      simp only [Craft.c, LandM.c, grD, waD, AirW.c] at o1 o2 ⊢
      refine pure_of_wc (rs := [.tmp 10, .tmp 11]) (m := 56) [] e3_ok (by kernel_rfl) Try.func68 rfl (by kernel_rfl) rfl rfl (by kernel_rfl) ?_
      simp only [RT, FS, ↓RE, okR, argEnv, Nat.reduceAdd, Nat.reduceSub, Nat.reduceLT, Nat.reduceLeDiff, Nat.reduceEqDiff, reduceIte, o1, h1, o2, h2, gAi_eq, h3, gI3_eq, h4]
      refine call_of_pure ps rfl ?_
      simp only [RT, FS, ↓RE, okR, argEnv, Nat.reduceAdd, Nat.reduceSub, Nat.reduceLT, Nat.reduceLeDiff, Nat.reduceEqDiff, reduceIte, b6]
      simp [view, startR, startE, h1, h2, h3, h4, hs, h6, flO, flD, ceilI, intL, boolL]
  | some m =>
    rw [hs] at ps
    simp only [Option.getD_some, Option.isSome_some] at ps
    simp only [Craft.c, LandM.c, grD, waD, AirW.c] at o1 o2 ⊢
    refine pure_of_wc (rs := [.tmp 10, .tmp 11]) (m := 56) [] e3_ok (by kernel_rfl) Try.func68 rfl (by kernel_rfl) rfl rfl (by kernel_rfl) ?_
    simp only [RT, FS, ↓RE, okR, argEnv, Nat.reduceAdd, Nat.reduceSub, Nat.reduceLT, Nat.reduceLeDiff, Nat.reduceEqDiff, reduceIte, o1, h1, o2, h2, gAi_eq, h3, gI3_eq, h4]
    refine call_of_pure ps rfl ?_
    simp only [RT, FS, ↓RE, okR, argEnv, Nat.reduceAdd, Nat.reduceSub, Nat.reduceLT, Nat.reduceLeDiff, Nat.reduceEqDiff, reduceIte]
    simp [view, startR, startE, h1, h2, h3, h4, hs, flO, flD, ceilI, intL, boolL]
end Go.Sx
