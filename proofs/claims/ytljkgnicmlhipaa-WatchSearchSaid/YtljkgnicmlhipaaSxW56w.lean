/- Own work: contracts of functions, used in the proof of a law. -/
import Derived.Test.YtljkgnicmlhipaaSxW52w
set_option linter.unusedVariables false
set_option linter.unusedSimpArgs false
namespace Go.Sx
open Go.Proofs
set_option maxRecDepth 10000

/-! The document's searches -/
def okSB (s : SkyW) (a b : Int) : Prop := SkyOk s ∧ InS s a ∧ InS s b
def besD (s : SkyW) (a b : Int) : D := .bool (decide (distI s.w a b = 1))
noncomputable def gHasL : List D → Option D := orcF (fun p : List Int × Int => BL p.1) (fun p => [.sl (intL p.1), .int .i64 p.2]) (fun p => .bool (p.1.any fun x => decide (x = p.2)))
theorem gHasL_eq {l : List Int} (h : BL l) (n : Int) : gHasL [.sl (intL l), .int .i64 n] = some (.bool (l.any fun x => decide (x = n))) :=
  orcF_eq (ok := fun p : List Int × Int => BL p.1) (dsf := fun p => [.sl (intL p.1), .int .i64 p.2]) (rf := fun p => .bool (p.1.any fun x => decide (x = p.2))) (l, n) h fun q hq => by
    simp only [List.cons.injEq, D.sl.injEq, D.int.injEq, and_true, true_and] at hq
    rw [intL_inj hq.1, hq.2]
noncomputable abbrev e56 : List (FuncId × (List D → Option D)) := (69, gSII okSB besD) :: (51, gHasL) :: e5
theorem e56_ok : OkO Try.prog (mkO e56) := mkO_ok (orcF_ok fun p h => r_Beside_t h.1 h.2.1 h.2.2) <| mkO_ok (orcF_ok fun p h => r_Has_t p.1 h p.2) e5_ok
theorem all_range_cut {p : Nat → Bool} {i : Nat} (h : (List.range i).all p = true) (hp : p i = true) : (List.range (i + 1)).all p = true := by
  rw [List.range_succ, List.all_append, h]; simp [hp]
theorem all_range_out {p : Nat → Bool} {n i : Nat} (hi : i < n) (hp : p i = false) : (List.range n).all p = false := by
  rw [Bool.eq_false_iff]
  intro h
  have := List.all_eq_true.1 h i (List.mem_range.2 hi)
  rw [hp] at this; cases this
set_option maxHeartbeats 2000000 in
theorem r_Searches_t {s : SkyW} (hs : SkyOk s) (frm : Int) {l p : List Int} (hl : BL l) (hp : BL p) : Pure Try.prog 31 [.agg s.c, .int .i64 frm, inD l, .sl (intL p)] (.bool (searchesB s frm l p)) := by
  have hle := hs.le
  have oF := fun c => gFree_eq (s := s) (by simp only [BL]; omega) c
  have oB : ∀ a b, InS s a → InS s b → gSII okSB besD [.agg s.c, .int .i64 a, .int .i64 b] = some (.bool (decide (distI s.w a b = 1))) := fun a b ha hb => gSII_eq (ok := okSB) (rf := besD) ⟨hs, ha, hb⟩
  have oH := fun n => gHasL_eq hp n
  have hin : ∀ i, okB s p i = true → InS s (nAt p i) := fun i h => by
    unfold okB at h; simp only [Bool.and_eq_true] at h; exact free_ins h.1
  have hok : ∀ i, okB s p i = (freeB s.sh (nAt p i) && (decide (i = 0) || decide (distI s.w (nAt p (i - 1)) (nAt p i) = 1))) := fun i => rfl
  unfold searchesB
  generalize okB s p = K at *
  have hfi : ∀ c, freeB s.sh c = true → InS s c := fun c h => free_ins h
  obtain ⟨w, d, sh⟩ := s
  simp only [SkyW.c] at *
  by_cases hn : p = []
  · subst hn
    have hz : ((0 : Int) == 0) = true := rfl
    have e0 : ((intL []).length : Int) = 0 := rfl
    refine pure_of_wc (rs := [.tmp 8]) (m := 65) [(6, [(25, false, false, [])])] e56_ok (by kernel_rfl) Try.func31 rfl (by kernel_rfl) rfl rfl (by kernel_rfl) ?_
    simp only [RT, FS, ↓RE, okR, argEnv, Nat.reduceAdd, Nat.reduceSub, Nat.reduceLT, Nat.reduceLeDiff, Nat.reduceEqDiff, reduceIte, RM, e0, hz]
    simp
  have hp0 : 0 < p.length := by
    cases p with
    | nil => exact absurd rfl hn
    | cons a r => simp
  have hpe : decide (p = []) = false := by simpa using hn
  rw [hpe]
  have hz : ((p.length : Int) == 0) = false := by simp; omega
  have hix0 : ∀ h, indexAddrD Try.prog h 29 (.sl (intL p)) (.int .i64 0) = some (.ref [.int .i64 (nAt p 0)] 0) := fun h => sI_ix (i := 0) (nAt_get hp0) h
  by_cases hf : nAt p 0 = frm
  rotate_left
  · have hz2 : (nAt p 0 != frm) = true := by simpa using hf
    have hfe : decide (nAt p 0 = frm) = false := by simpa using hf
    rw [hfe]
    refine pure_of_wc (rs := [.tmp 8]) (m := 65) [(6, [(25, false, false, [])])] e56_ok (by kernel_rfl) Try.func31 rfl (by kernel_rfl) rfl rfl (by kernel_rfl) ?_
    simp only [RT, FS, ↓RE, okR, argEnv, Nat.reduceAdd, Nat.reduceSub, Nat.reduceLT, Nat.reduceLeDiff, Nat.reduceEqDiff, reduceIte, RM, intL_len, hz, hix0, hz2]
    simp
  have hz2 : (nAt p 0 != frm) = false := by simpa using hf
  have hfe : decide (nAt p 0 = frm) = true := by simpa using hf
  rw [hfe]
  simp only [Bool.not_false, Bool.and_self, Bool.true_and]
  refine pure_of_wc (rs := [.tmp 8]) (m := 65) [(6, [(25, false, false, [])])] e56_ok (by kernel_rfl) Try.func31 rfl (by kernel_rfl) rfl rfl (by kernel_rfl) ?_
  simp only [RT, FS, ↓RE, okR, argEnv, Nat.reduceAdd, Nat.reduceSub, Nat.reduceLT, Nat.reduceLeDiff, Nat.reduceEqDiff, reduceIte, RM, intL_len, hz, hix0, hz2]
  refine loopV (ι := Nat) e56_ok [(6, [(25, false, false, [])])] (fun i => [(2, inD l), (3, .sl (intL p)), (4, .ptr 0 0), (9, .int .i64 (i : Int))])
    (fun i => [(0, .box [.int .i64 w, .int .i64 d, shD sh])]) 1 (fun i => i ≤ p.length ∧ (List.range i).all K = true) (fun i => p.length - i) 0 (by kernel_rfl) (by kernel_rfl) ⟨Nat.zero_le _, rfl⟩ ?_ ?_
  · simp [headW, heapW, envW, blkLt, D.ltL, D.lt, look, hget, shD]
  · rintro i ⟨hil, hal⟩
    rcases Nat.lt_or_ge i p.length with hlt | hge
    · have hc := nat_lt_true hlt
      have hix := sI_ix (nAt_get hlt)
      have hw1 := wrap_i64 (z := (i : Int) + 1) (by omega) (by omega)
      have oFi := oF (nAt p i)
      have hK := hok i
      cases q1 : freeB sh (nAt p i)
      · rw [q1] at oFi hK
        rw [all_range_out hlt (by rw [hK]; rfl)]
        simp only [RT, FS, ↓RE, okR, argEnv, Nat.reduceAdd, Nat.reduceSub, Nat.reduceLT, Nat.reduceLeDiff, Nat.reduceEqDiff, reduceIte, RM, intL_len, hc, decide_true, hix, oFi, Bool.not_false, Bool.false_and]
      rw [q1, Bool.true_and] at hK
      rw [q1] at oFi
      rcases Nat.eq_zero_or_pos i with h0 | h0
      · subst h0
        have hc5 : (((0 : Nat) : Int) > 0) = False := by simp
        have hc6 : ((0 : Int) < ((0 : Nat) : Int)) = False := by simp
        simp only [RT, FS, ↓RE, okR, argEnv, Nat.reduceAdd, Nat.reduceSub, Nat.reduceLT, Nat.reduceLeDiff, Nat.reduceEqDiff, reduceIte, RM, intL_len, hc, decide_true, decide_false, hix, oFi, Bool.not_true, hc6, hw1]
        exact ⟨0 + 1, ⟨by omega, all_range_cut hal (by rw [hK]; rfl)⟩, by omega, by simp [headW, heapW, envW, blkLt, D.ltL, D.lt, look, hget, shD]⟩
      · have hc6 : ((0 : Int) < (i : Int)) = True := by simp; omega
        have hkp : K (i - 1) = true := List.all_eq_true.1 hal (i - 1) (List.mem_range.2 (by omega))
        have hix2 := sI_ix (nAt_get (l := p) (i := i - 1) (by omega))
        have hw2 : IntKind.i64.wrap ((i : Int) - 1) = ((i - 1 : Nat) : Int) := by rw [wrap_i64 (by omega) (by omega)]; omega
        have oBi := oB (nAt p (i - 1)) (nAt p i) (hin _ hkp) (hfi _ q1)
        have hd0 : decide (i = 0) = false := by simp; omega
        rw [hd0, Bool.false_or] at hK
        cases q2 : decide (distI w (nAt p (i - 1)) (nAt p i) = 1)
        · rw [q2] at hK oBi
          rw [all_range_out hlt hK]
          simp only [RT, FS, ↓RE, okR, argEnv, Nat.reduceAdd, Nat.reduceSub, Nat.reduceLT, Nat.reduceLeDiff, Nat.reduceEqDiff, reduceIte, RM, intL_len, hc, decide_true, hix, oFi, Bool.not_true, Bool.not_false, hc6, hix2, hw2, oBi, Bool.false_and]
        · rw [q2] at hK oBi
          simp only [RT, FS, ↓RE, okR, argEnv, Nat.reduceAdd, Nat.reduceSub, Nat.reduceLT, Nat.reduceLeDiff, Nat.reduceEqDiff, reduceIte, RM, intL_len, hc, decide_true, hix, oFi, Bool.not_true, hc6, hix2, hw2, oBi, hw1]
          exact ⟨i + 1, ⟨by omega, all_range_cut hal hK⟩, by omega, by simp [headW, heapW, envW, blkLt, D.ltL, D.lt, look, hget, shD]⟩
    · have hc := nat_lt_false hge
      have : i = p.length := by omega
      subst this
      rw [hal, Bool.true_and]
      simp only [RT, FS, ↓RE, okR, argEnv, Nat.reduceAdd, Nat.reduceSub, Nat.reduceLT, Nat.reduceLeDiff, Nat.reduceEqDiff, reduceIte, RM, intL_len, hc, decide_false]
      refine loopV (ι := Nat) e56_ok [(6, [(25, false, false, [])])] (fun i => [(2, inD l), (3, .sl (intL p)), (10, .int .i64 (i : Int))])
        (fun i => []) 0 (fun i => i ≤ l.length ∧ (l.take i).all (fun c => p.any fun x => decide (x = c)) = true) (fun i => l.length - i) 0 (by kernel_rfl) (by kernel_rfl) ⟨Nat.zero_le _, by simp⟩ ?_ ?_
      · simp [headW, heapW, envW, blkLt, D.ltL, D.lt, look, hget]
      rintro i ⟨hil2, hal2⟩
      rcases Nat.lt_or_ge i l.length with hlt | hge2
      · have hc := nat_lt_true hlt
        obtain ⟨x, hr⟩ : ∃ r, l[i]? = some r := ⟨l[i], by simp [hlt]⟩
        have hix := aft_ix hr
        have hw1 := wrap_i64 (z := (i : Int) + 1) (by omega) (by omega)
        have oHx := oH x
        cases q : p.any fun y => decide (y = x)
        · rw [q] at oHx
          rw [all_out hr q]
          simp only [RT, FS, ↓RE, okR, argEnv, Nat.reduceAdd, Nat.reduceSub, Nat.reduceLT, Nat.reduceLeDiff, Nat.reduceEqDiff, reduceIte, RM, List.length_map, hc, decide_true, hix, oHx, Bool.not_false]
        · rw [q] at oHx
          simp only [RT, FS, ↓RE, okR, argEnv, Nat.reduceAdd, Nat.reduceSub, Nat.reduceLT, Nat.reduceLeDiff, Nat.reduceEqDiff, reduceIte, RM, List.length_map, hc, decide_true, hix, oHx, Bool.not_true, hw1]
          exact ⟨i + 1, ⟨by omega, all_cut hr hal2 q⟩, by omega, by simp [headW, heapW, envW, blkLt, D.ltL, D.lt, look, hget]⟩
      · have hc := nat_lt_false hge2
        have : i = l.length := by omega
        subst this
        rw [List.take_length] at hal2
        rw [hal2]
        simp only [RT, FS, ↓RE, okR, argEnv, Nat.reduceAdd, Nat.reduceSub, Nat.reduceLT, Nat.reduceLeDiff, Nat.reduceEqDiff, reduceIte, RM, List.length_map, hc, decide_false]
/-! Bits -/
end Go.Sx
