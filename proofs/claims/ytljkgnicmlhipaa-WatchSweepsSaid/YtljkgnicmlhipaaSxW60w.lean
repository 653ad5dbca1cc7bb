/- Own work: contracts of functions, used in the proof of a law. -/
import Derived.Test.YtljkgnicmlhipaaSxW59w
set_option linter.unusedVariables false
set_option linter.unusedSimpArgs false
namespace Go.Sx
open Go.Proofs
set_option maxRecDepth 10000

/-! WatchSweeps -/
noncomputable def gRSw : List D → Option D := orcF (fun p : SkyW × Int × List Int => SkyOk p.1 ∧ freeB p.1.sh p.2.1 = true ∧ p.2.2.length ≤ 8) (fun p => [.agg p.1.c, .int .i64 p.2.1, inD p.2.2]) (fun p => swpD (searchO p.1 p.2.1 p.2.2))
theorem gRSw_eq {s : SkyW} (hs : SkyOk s) {frm : Int} (hf : freeB s.sh frm = true) {l : List Int} (hl : l.length ≤ 8) : gRSw [.agg s.c, .int .i64 frm, inD l] = some (swpD (searchO s frm l)) :=
  orcF_eq (ok := fun p : SkyW × Int × List Int => SkyOk p.1 ∧ freeB p.1.sh p.2.1 = true ∧ p.2.2.length ≤ 8) (dsf := fun p => [.agg p.1.c, .int .i64 p.2.1, inD p.2.2]) (rf := fun p => swpD (searchO p.1 p.2.1 p.2.2)) (s, frm, l) ⟨hs, hf, hl⟩ fun q hq => by
    simp only [List.cons.injEq, D.agg.injEq, D.int.injEq, and_true, true_and] at hq
    rw [SkyW.c_inj hq.1, hq.2.1, inD_inj hq.2.2]
noncomputable abbrev e60 : List (FuncId × (List D → Option D)) :=
  (14, cstO [] (.bool true)) :: (29, gSw) :: (30, gRSw) :: (19, gSame) :: e5
theorem e60_ok : OkO Try.prog (mkO e60) :=
  mkO_ok (cstO_ok known_t) <| mkO_ok (orcF_ok fun p h => Sweep_t p.1 h.1 p.2.1 p.2.2 h.2) <| mkO_ok (orcF_ok fun p h => r_Sweep_t h.1 h.2.1 h.2.2) <| mkO_ok gSame_ok e5_ok
set_option maxHeartbeats 4000000 in
theorem watchSweeps_at (s : SkyW) (hs : BL s.sh) (frm : Int) (l : List Int) (hl : BL l) : Pure Try.prog 7 [.agg s.c, .int .i64 frm, inD l] (.bool true) := by
  have o2 := cstO_eq [] (.bool true)
  have o3 := gSky_eq s
  have o4 := fun c => gFree_eq hs c
  have o4f := gFree_eq hs frm
  have o5 := gSw_eq hs hl frm
  have hz : ((0 : Int) != 0) = false := rfl
  have hz0 : ((0 : Int) == 0) = true := rfl
  have hz2 : ((2 : Int) != 0) = true := rfl
  have hz22 : ((2 : Int) == 2) = true := rfl
  have hz3 : ((3 : Int) != 0) = true := rfl
  have hz33 : ((3 : Int) == 3) = true := rfl
  have hz55 : ((5 : Int) == 5) = true := rfl
  have hR8 : (8 : Int) < (l.length : Int) → SweepR s frm l = .tup [.nils, .int .i64 3] := fun h => by unfold SweepR; rw [if_pos (by omega)]
  have hRb : ¬ (8 : Int) < (l.length : Int) → sweepB s frm l = false → SweepR s frm l = .tup [.nils, .int .i64 2] := fun h h2 => by unfold SweepR; rw [if_neg (by omega), if_neg (by rw [h2]; simp)]
  have hRg : ¬ (8 : Int) < (l.length : Int) → sweepB s frm l = true → SkyOk s ∧ freeB s.sh frm = true ∧ gRSw [.agg s.c, .int .i64 frm, inD l] = some (swpD (searchO s frm l)) ∧
      ((SweepR s frm l = .tup [.nils, .int .i64 5] ∧ searchO s frm l = none) ∨ ∃ p, SweepR s frm l = .tup [.sl (intL p), .int .i64 0] ∧ searchO s frm l = some p ∧ 1 ≤ p.length ∧ BL p) := fun h h2 => by
    have h3 := h2
    unfold sweepB at h3
    simp only [Bool.and_eq_true] at h3
    have hso := sky_ok h3.1
    refine ⟨hso, h3.2.1, gRSw_eq hso h3.2.1 (by omega), ?_⟩
    unfold SweepR
    rw [if_neg (by omega), if_pos h2]
    cases hse : searchO s frm l with
    | none => exact .inl ⟨rfl, rfl⟩
    | some p =>
      obtain ⟨y, hy, _⟩ := search_some hso hse
      have := search_len hse
      exact .inr ⟨p, rfl, rfl, hy.pos, by simp only [BL]; omega⟩
  have hB : sweepB s frm l = (skyB s && (freeB s.sh frm && l.all fun c => freeB s.sh c)) := by
    unfold sweepB
    congr 2
    simp [List.all_eq_not_any_not]
  generalize searchO s frm l = SO at *
  generalize SweepR s frm l = R at *
  generalize sweepB s frm l = SB at *
  obtain ⟨B, hBd⟩ : ∃ B, skyB s = B := ⟨_, rfl⟩
  obtain ⟨F, hFd⟩ : ∃ F, freeB s.sh frm = F := ⟨_, rfl⟩
  rw [hBd] at o3 hB
  rw [hFd] at o4f hB
  clear hBd
  obtain ⟨w, d, sh⟩ := s
  simp only [SkyW.c] at *
  refine pure_of_pieces (rs := [.tmp 6]) (m := 114) [(12, [(7, false, false, [])])] e60_ok (by kernel_rfl) Try.func7 rfl (by kernel_rfl) rfl rfl (by kernel_rfl) ?_
  refine awp_peel (T := [(12, [(7, false, false, [])])]) e60_ok (by kernel_rfl) (by kernel_rfl) ?_
  simp only [RT, FS, ↓RE, okR, argEnv, Nat.reduceAdd, Nat.reduceSub, Nat.reduceLT, Nat.reduceLeDiff, Nat.reduceEqDiff, reduceIte, RM]
  refine awp_peel (T := [(12, [(7, false, false, [])])]) e60_ok (by kernel_rfl) (by kernel_rfl) ?_
  cases q1 : decide ((200 : Int) < (sh.length : Int))
  case true =>
    simp only [RT, FS, ↓RE, okR, argEnv, Nat.reduceAdd, Nat.reduceSub, Nat.reduceLT, Nat.reduceLeDiff, Nat.reduceEqDiff, reduceIte, RM, q1, o2, List.length_map]
  have q2 : B = true → decide ((20 : Int) < (sh.length : Int)) = true ∨ decide ((20 : Int) < (sh.length : Int)) = false := fun _ => by cases decide ((20 : Int) < (sh.length : Int)) <;> simp
  cases q3 : (B && decide ((20 : Int) < (sh.length : Int)))
  case true =>
    simp only [Bool.and_eq_true] at q3
    obtain ⟨rfl, q3⟩ := q3
    simp only [RT, FS, ↓RE, okR, argEnv, Nat.reduceAdd, Nat.reduceSub, Nat.reduceLT, Nat.reduceLeDiff, Nat.reduceEqDiff, reduceIte, RM, q1, o2, o3, q3, List.length_map]
  have q3' : B = false ∨ (B = true ∧ decide ((20 : Int) < (sh.length : Int)) = false) := by
    cases B
    · exact .inl rfl
    · exact .inr ⟨rfl, by simpa using q3⟩
  clear q2 q3
  rcases q3' with rfl | ⟨rfl, q3⟩
  · cases q4 : decide ((8 : Int) < (l.length : Int))
    case true =>
      have r1 := hR8 (by simpa using q4)
      subst r1
      have q5 : decide ((5 : Int) < (l.length : Int)) = true := by simp at q4 ⊢; omega
      have q6 : decide ((l.length : Int) ≤ 8) = false := by simp at q4 ⊢; omega
      cases q7 : decide ((18 : Int) < (l.length : Int))
      case true =>
        simp only [RT, FS, ↓RE, okR, argEnv, Nat.reduceAdd, Nat.reduceSub, Nat.reduceLT, Nat.reduceLeDiff, Nat.reduceEqDiff, reduceIte, RM, q1, o3, q5, q6, q7, o2, List.length_map]
      simp only [RT, FS, ↓RE, okR, argEnv, Nat.reduceAdd, Nat.reduceSub, Nat.reduceLT, Nat.reduceLeDiff, Nat.reduceEqDiff, reduceIte, RM, q1, o3, q5, q6, q7, o2, List.length_map]
      refine awp_peel (T := [(12, [(7, false, false, [])])]) e60_ok (by kernel_rfl) (by kernel_rfl) ?_
      simp only [RT, FS, ↓RE, okR, argEnv, Nat.reduceAdd, Nat.reduceSub, Nat.reduceLT, Nat.reduceLeDiff, Nat.reduceEqDiff, reduceIte, RM, o5]
      refine awp_peel (T := [(12, [(7, false, false, [])])]) e60_ok (by kernel_rfl) (by kernel_rfl) ?_
      simp only [RT, FS, ↓RE, okR, argEnv, Nat.reduceAdd, Nat.reduceSub, Nat.reduceLT, Nat.reduceLeDiff, Nat.reduceEqDiff, reduceIte, RM]
      refine awp_peel (T := [(12, [(7, false, false, [])])]) e60_ok (by kernel_rfl) (by kernel_rfl) ?_
      simp only [RT, FS, ↓RE, okR, argEnv, Nat.reduceAdd, Nat.reduceSub, Nat.reduceLT, Nat.reduceLeDiff, Nat.reduceEqDiff, reduceIte, RM, List.length_map, q4]
      refine awp_peel (T := [(12, [(7, false, false, [])])]) e60_ok (by kernel_rfl) (by kernel_rfl) ?_
      simp only [RT, FS, ↓RE, okR, argEnv, Nat.reduceAdd, Nat.reduceSub, Nat.reduceLT, Nat.reduceLeDiff, Nat.reduceEqDiff, reduceIte, RM, hz3, hz33, hz0, o2]
    have r8 : ¬ (8 : Int) < (l.length : Int) := by simpa using q4
    cases q5 : decide ((5 : Int) < (l.length : Int))
    case true =>
      have q6 : decide ((l.length : Int) ≤ 8) = true := by simp at q4 ⊢; omega
      simp only [RT, FS, ↓RE, okR, argEnv, Nat.reduceAdd, Nat.reduceSub, Nat.reduceLT, Nat.reduceLeDiff, Nat.reduceEqDiff, reduceIte, RM, q1, o3, q5, q6, o2, List.length_map]
    have q7 : decide ((18 : Int) < (l.length : Int)) = false := by simp at q5 ⊢; omega
    simp only [RT, FS, ↓RE, okR, argEnv, Nat.reduceAdd, Nat.reduceSub, Nat.reduceLT, Nat.reduceLeDiff, Nat.reduceEqDiff, reduceIte, RM, q1, o3, q5, q7, o2, List.length_map]
    refine awp_peel (T := [(12, [(7, false, false, [])])]) e60_ok (by kernel_rfl) (by kernel_rfl) ?_
    have r1 := hRb r8 (by rw [hB]; rfl)
    subst r1
    simp only [RT, FS, ↓RE, okR, argEnv, Nat.reduceAdd, Nat.reduceSub, Nat.reduceLT, Nat.reduceLeDiff, Nat.reduceEqDiff, reduceIte, RM, o5]
    refine awp_peel (T := [(12, [(7, false, false, [])])]) e60_ok (by kernel_rfl) (by kernel_rfl) ?_
    simp only [RT, FS, ↓RE, okR, argEnv, Nat.reduceAdd, Nat.reduceSub, Nat.reduceLT, Nat.reduceLeDiff, Nat.reduceEqDiff, reduceIte, RM]
    refine awp_peel (T := [(12, [(7, false, false, [])])]) e60_ok (by kernel_rfl) (by kernel_rfl) ?_
    simp only [RT, FS, ↓RE, okR, argEnv, Nat.reduceAdd, Nat.reduceSub, Nat.reduceLT, Nat.reduceLeDiff, Nat.reduceEqDiff, reduceIte, RM, List.length_map, q4, o3, Bool.not_false]
    refine awp_peel (T := [(12, [(7, false, false, [])])]) e60_ok (by kernel_rfl) (by kernel_rfl) ?_
    simp only [RT, FS, ↓RE, okR, argEnv, Nat.reduceAdd, Nat.reduceSub, Nat.reduceLT, Nat.reduceLeDiff, Nat.reduceEqDiff, reduceIte, RM, hz2, hz22, hz0, o2]
  · cases q4 : decide ((8 : Int) < (l.length : Int))
    case true =>
      have r1 := hR8 (by simpa using q4)
      subst r1
      have q5 : decide ((5 : Int) < (l.length : Int)) = true := by simp at q4 ⊢; omega
      have q6 : decide ((l.length : Int) ≤ 8) = false := by simp at q4 ⊢; omega
      cases q7 : decide ((18 : Int) < (l.length : Int))
      case true =>
        simp only [RT, FS, ↓RE, okR, argEnv, Nat.reduceAdd, Nat.reduceSub, Nat.reduceLT, Nat.reduceLeDiff, Nat.reduceEqDiff, reduceIte, RM, q1, o3, q3, q5, q6, q7, o2, List.length_map]
      simp only [RT, FS, ↓RE, okR, argEnv, Nat.reduceAdd, Nat.reduceSub, Nat.reduceLT, Nat.reduceLeDiff, Nat.reduceEqDiff, reduceIte, RM, q1, o3, q3, q5, q6, q7, o2, List.length_map]
      refine awp_peel (T := [(12, [(7, false, false, [])])]) e60_ok (by kernel_rfl) (by kernel_rfl) ?_
      simp only [RT, FS, ↓RE, okR, argEnv, Nat.reduceAdd, Nat.reduceSub, Nat.reduceLT, Nat.reduceLeDiff, Nat.reduceEqDiff, reduceIte, RM, o5]
      refine awp_peel (T := [(12, [(7, false, false, [])])]) e60_ok (by kernel_rfl) (by kernel_rfl) ?_
      simp only [RT, FS, ↓RE, okR, argEnv, Nat.reduceAdd, Nat.reduceSub, Nat.reduceLT, Nat.reduceLeDiff, Nat.reduceEqDiff, reduceIte, RM]
      refine awp_peel (T := [(12, [(7, false, false, [])])]) e60_ok (by kernel_rfl) (by kernel_rfl) ?_
      simp only [RT, FS, ↓RE, okR, argEnv, Nat.reduceAdd, Nat.reduceSub, Nat.reduceLT, Nat.reduceLeDiff, Nat.reduceEqDiff, reduceIte, RM, List.length_map, q4]
      refine awp_peel (T := [(12, [(7, false, false, [])])]) e60_ok (by kernel_rfl) (by kernel_rfl) ?_
      simp only [RT, FS, ↓RE, okR, argEnv, Nat.reduceAdd, Nat.reduceSub, Nat.reduceLT, Nat.reduceLeDiff, Nat.reduceEqDiff, reduceIte, RM, hz3, hz33, hz0, o2]
    have r8 : ¬ (8 : Int) < (l.length : Int) := by simpa using q4
    cases q5 : decide ((5 : Int) < (l.length : Int))
    case true =>
      have q6 : decide ((l.length : Int) ≤ 8) = true := by simp at q4 ⊢; omega
      simp only [RT, FS, ↓RE, okR, argEnv, Nat.reduceAdd, Nat.reduceSub, Nat.reduceLT, Nat.reduceLeDiff, Nat.reduceEqDiff, reduceIte, RM, q1, o3, q3, q5, q6, o2, List.length_map]
    have q7 : decide ((18 : Int) < (l.length : Int)) = false := by simp at q5 ⊢; omega
    simp only [RT, FS, ↓RE, okR, argEnv, Nat.reduceAdd, Nat.reduceSub, Nat.reduceLT, Nat.reduceLeDiff, Nat.reduceEqDiff, reduceIte, RM, q1, o3, q3, q5, q7, o2, List.length_map]
    refine awp_peel (T := [(12, [(7, false, false, [])])]) e60_ok (by kernel_rfl) (by kernel_rfl) ?_
    cases F
    · have r1 := hRb r8 (by rw [hB]; rfl)
      subst r1
      simp only [RT, FS, ↓RE, okR, argEnv, Nat.reduceAdd, Nat.reduceSub, Nat.reduceLT, Nat.reduceLeDiff, Nat.reduceEqDiff, reduceIte, RM, o5]
      refine awp_peel (T := [(12, [(7, false, false, [])])]) e60_ok (by kernel_rfl) (by kernel_rfl) ?_
      simp only [RT, FS, ↓RE, okR, argEnv, Nat.reduceAdd, Nat.reduceSub, Nat.reduceLT, Nat.reduceLeDiff, Nat.reduceEqDiff, reduceIte, RM]
      refine awp_peel (T := [(12, [(7, false, false, [])])]) e60_ok (by kernel_rfl) (by kernel_rfl) ?_
      simp only [RT, FS, ↓RE, okR, argEnv, Nat.reduceAdd, Nat.reduceSub, Nat.reduceLT, Nat.reduceLeDiff, Nat.reduceEqDiff, reduceIte, RM, List.length_map, q4, o3, o4f, Bool.not_false, Bool.not_true]
      refine awp_peel (T := [(12, [(7, false, false, [])])]) e60_ok (by kernel_rfl) (by kernel_rfl) ?_
      simp only [RT, FS, ↓RE, okR, argEnv, Nat.reduceAdd, Nat.reduceSub, Nat.reduceLT, Nat.reduceLeDiff, Nat.reduceEqDiff, reduceIte, RM, hz2, hz22, hz0, o2]
    cases hSB : SB
    · have r1 := hRb r8 hSB
      subst r1
      have hal : (l.all fun c => freeB sh c) = false := by rw [hSB] at hB; simpa using hB.symm
      simp only [RT, FS, ↓RE, okR, argEnv, Nat.reduceAdd, Nat.reduceSub, Nat.reduceLT, Nat.reduceLeDiff, Nat.reduceEqDiff, reduceIte, RM, o5]
      refine awp_peel (T := [(12, [(7, false, false, [])])]) e60_ok (by kernel_rfl) (by kernel_rfl) ?_
      simp only [RT, FS, ↓RE, okR, argEnv, Nat.reduceAdd, Nat.reduceSub, Nat.reduceLT, Nat.reduceLeDiff, Nat.reduceEqDiff, reduceIte, RM]
      refine awp_peel (T := [(12, [(7, false, false, [])])]) e60_ok (by kernel_rfl) (by kernel_rfl) ?_
      simp only [RT, FS, ↓RE, okR, argEnv, Nat.reduceAdd, Nat.reduceSub, Nat.reduceLT, Nat.reduceLeDiff, Nat.reduceEqDiff, reduceIte, RM, List.length_map, q4, o3, o4f, Bool.not_true]
      refine loopV (ι := Nat) e60_ok [(12, [(7, false, false, [])])] (fun i => [(1, .int .i64 frm), (2, inD l), (3, .ptr 0 0), (7, .nils), (8, .int .i64 2), (9, .int .i64 (if (l.take i).all (fun c => freeB sh c) = true then 0 else 2)), (10, .int .i64 (i : Int))])
        (fun i => [(0, .box [.int .i64 w, .int .i64 d, shD sh])]) 1 (fun i => i ≤ l.length) (fun i => l.length - i) 0 (by kernel_rfl) (by kernel_rfl) (Nat.zero_le _) ?_ ?_
      · simp [headW, heapW, envW, blkLt, D.ltL, D.lt, look, hget, shD]
      intro i hil
      rcases Nat.lt_or_ge i l.length with hlt | hge
      · have hc := nat_lt_true hlt
        obtain ⟨x, hr⟩ : ∃ r, l[i]? = some r := ⟨l[i], by simp [hlt]⟩
        have hix := aft_ix hr
        have hw1 := wrap_i64 (z := (i : Int) + 1) (by omega) (by omega)
        have oFx := o4 x
        have hS : (l.take (i + 1)).all (fun c => freeB sh c) = ((l.take i).all (fun c => freeB sh c) && freeB sh x) := by rw [List.take_add_one, hr, List.all_append]; simp
        cases q : freeB sh x
        · rw [q] at oFx hS
          rw [Bool.and_false] at hS
          simp only [RT, FS, ↓RE, okR, argEnv, Nat.reduceAdd, Nat.reduceSub, Nat.reduceLT, Nat.reduceLeDiff, Nat.reduceEqDiff, reduceIte, RM, List.length_map, hc, decide_true, hix, oFx, Bool.not_false, hw1]
          exact ⟨i + 1, by omega, by omega, by rw [hS]; simp [headW, heapW, envW, blkLt, D.ltL, D.lt, look, hget, shD]⟩
        · rw [q] at oFx hS
          rw [Bool.and_true] at hS
          simp only [RT, FS, ↓RE, okR, argEnv, Nat.reduceAdd, Nat.reduceSub, Nat.reduceLT, Nat.reduceLeDiff, Nat.reduceEqDiff, reduceIte, RM, List.length_map, hc, decide_true, hix, oFx, Bool.not_true, hw1]
          exact ⟨i + 1, by omega, by omega, by rw [hS]; simp [headW, heapW, envW, blkLt, D.ltL, D.lt, look, hget, shD]⟩
      · have hc := nat_lt_false hge
        have hi : i = l.length := by omega
        subst hi
        rw [List.take_length, hal]
        simp only [Bool.false_eq_true, if_false, if_true]
        simp only [RT, FS, ↓RE, okR, argEnv, Nat.reduceAdd, Nat.reduceSub, Nat.reduceLT, Nat.reduceLeDiff, Nat.reduceEqDiff, reduceIte, RM, List.length_map, hc, decide_false]
        refine awp_peel (T := [(12, [(7, false, false, [])])]) e60_ok (by kernel_rfl) (by kernel_rfl) ?_
        simp only [RT, FS, ↓RE, okR, argEnv, Nat.reduceAdd, Nat.reduceSub, Nat.reduceLT, Nat.reduceLeDiff, Nat.reduceEqDiff, reduceIte, RM, hz2, hz22, hz0, o2]
    · have hal : (l.all fun c => freeB sh c) = true := by rw [hSB] at hB; simpa using hB.symm
      obtain ⟨hso, hff, oR, hcs⟩ := hRg r8 hSB
      rcases hcs with ⟨rfl, rfl⟩ | ⟨p, rfl, rfl, hp1, hp2⟩
      · simp only [swpD] at oR
        simp only [RT, FS, ↓RE, okR, argEnv, Nat.reduceAdd, Nat.reduceSub, Nat.reduceLT, Nat.reduceLeDiff, Nat.reduceEqDiff, reduceIte, RM, o5]
        refine awp_peel (T := [(12, [(7, false, false, [])])]) e60_ok (by kernel_rfl) (by kernel_rfl) ?_
        simp only [RT, FS, ↓RE, okR, argEnv, Nat.reduceAdd, Nat.reduceSub, Nat.reduceLT, Nat.reduceLeDiff, Nat.reduceEqDiff, reduceIte, RM]
        refine awp_peel (T := [(12, [(7, false, false, [])])]) e60_ok (by kernel_rfl) (by kernel_rfl) ?_
        simp only [RT, FS, ↓RE, okR, argEnv, Nat.reduceAdd, Nat.reduceSub, Nat.reduceLT, Nat.reduceLeDiff, Nat.reduceEqDiff, reduceIte, RM, List.length_map, q4, o3, o4f, Bool.not_true]
        refine loopV (ι := Nat) e60_ok [(12, [(7, false, false, [])])] (fun i => [(1, .int .i64 frm), (2, inD l), (3, .ptr 0 0), (7, .nils), (8, .int .i64 5), (9, .int .i64 (if (l.take i).all (fun c => freeB sh c) = true then 0 else 2)), (10, .int .i64 (i : Int))])
          (fun i => [(0, .box [.int .i64 w, .int .i64 d, shD sh])]) 1 (fun i => i ≤ l.length) (fun i => l.length - i) 0 (by kernel_rfl) (by kernel_rfl) (Nat.zero_le _) ?_ ?_
        · simp [headW, heapW, envW, blkLt, D.ltL, D.lt, look, hget, shD]
        intro i hil
        rcases Nat.lt_or_ge i l.length with hlt | hge
        · have hc := nat_lt_true hlt
          obtain ⟨x, hr⟩ : ∃ r, l[i]? = some r := ⟨l[i], by simp [hlt]⟩
          have hix := aft_ix hr
          have hw1 := wrap_i64 (z := (i : Int) + 1) (by omega) (by omega)
          have oFx := o4 x
          have hS : (l.take (i + 1)).all (fun c => freeB sh c) = ((l.take i).all (fun c => freeB sh c) && freeB sh x) := by rw [List.take_add_one, hr, List.all_append]; simp
          cases q : freeB sh x
          · rw [q] at oFx hS
            rw [Bool.and_false] at hS
            simp only [RT, FS, ↓RE, okR, argEnv, Nat.reduceAdd, Nat.reduceSub, Nat.reduceLT, Nat.reduceLeDiff, Nat.reduceEqDiff, reduceIte, RM, List.length_map, hc, decide_true, hix, oFx, Bool.not_false, hw1]
            exact ⟨i + 1, by omega, by omega, by rw [hS]; simp [headW, heapW, envW, blkLt, D.ltL, D.lt, look, hget, shD]⟩
          · rw [q] at oFx hS
            rw [Bool.and_true] at hS
            simp only [RT, FS, ↓RE, okR, argEnv, Nat.reduceAdd, Nat.reduceSub, Nat.reduceLT, Nat.reduceLeDiff, Nat.reduceEqDiff, reduceIte, RM, List.length_map, hc, decide_true, hix, oFx, Bool.not_true, hw1]
            exact ⟨i + 1, by omega, by omega, by rw [hS]; simp [headW, heapW, envW, blkLt, D.ltL, D.lt, look, hget, shD]⟩
        · have hc := nat_lt_false hge
          have hi : i = l.length := by omega
          subst hi
          rw [List.take_length, hal]
          simp only [Bool.false_eq_true, if_false, if_true]
          simp only [RT, FS, ↓RE, okR, argEnv, Nat.reduceAdd, Nat.reduceSub, Nat.reduceLT, Nat.reduceLeDiff, Nat.reduceEqDiff, reduceIte, RM, List.length_map, hc, decide_false]
          refine awp_peel (T := [(12, [(7, false, false, [])])]) e60_ok (by kernel_rfl) (by kernel_rfl) ?_
          simp only [RT, FS, ↓RE, okR, argEnv, Nat.reduceAdd, Nat.reduceSub, Nat.reduceLT, Nat.reduceLeDiff, Nat.reduceEqDiff, reduceIte, RM, hz]
          refine awp_peel (T := [(12, [(7, false, false, [])])]) e60_ok (by kernel_rfl) (by kernel_rfl) ?_
          simp only [RT, FS, ↓RE, okR, argEnv, Nat.reduceAdd, Nat.reduceSub, Nat.reduceLT, Nat.reduceLeDiff, Nat.reduceEqDiff, reduceIte, RM, oR]
          refine awp_peel (T := [(12, [(7, false, false, [])])]) e60_ok (by kernel_rfl) (by kernel_rfl) ?_
          simp only [RT, FS, ↓RE, okR, argEnv, Nat.reduceAdd, Nat.reduceSub, Nat.reduceLT, Nat.reduceLeDiff, Nat.reduceEqDiff, reduceIte, RM, hz0, hz55, o2]
      · simp only [swpD] at oR
        have hpn : ((p.length : Int) == 0) = false := by rw [beq_eq_false_iff_ne]; omega
        have oS := gSame_eq hp2 hp2
        simp only [RT, FS, ↓RE, okR, argEnv, Nat.reduceAdd, Nat.reduceSub, Nat.reduceLT, Nat.reduceLeDiff, Nat.reduceEqDiff, reduceIte, RM, o5]
        refine awp_peel (T := [(12, [(7, false, false, [])])]) e60_ok (by kernel_rfl) (by kernel_rfl) ?_
        simp only [RT, FS, ↓RE, okR, argEnv, Nat.reduceAdd, Nat.reduceSub, Nat.reduceLT, Nat.reduceLeDiff, Nat.reduceEqDiff, reduceIte, RM]
        refine awp_peel (T := [(12, [(7, false, false, [])])]) e60_ok (by kernel_rfl) (by kernel_rfl) ?_
        simp only [RT, FS, ↓RE, okR, argEnv, Nat.reduceAdd, Nat.reduceSub, Nat.reduceLT, Nat.reduceLeDiff, Nat.reduceEqDiff, reduceIte, RM, List.length_map, q4, o3, o4f, Bool.not_true]
        refine loopV (ι := Nat) e60_ok [(12, [(7, false, false, [])])] (fun i => [(1, .int .i64 frm), (2, inD l), (3, .ptr 0 0), (7, .sl (intL p)), (8, .int .i64 0), (9, .int .i64 (if (l.take i).all (fun c => freeB sh c) = true then 0 else 2)), (10, .int .i64 (i : Int))])
          (fun i => [(0, .box [.int .i64 w, .int .i64 d, shD sh])]) 1 (fun i => i ≤ l.length) (fun i => l.length - i) 0 (by kernel_rfl) (by kernel_rfl) (Nat.zero_le _) ?_ ?_
        · simp [headW, heapW, envW, blkLt, D.ltL, D.lt, look, hget, shD]
        intro i hil
        rcases Nat.lt_or_ge i l.length with hlt | hge
        · have hc := nat_lt_true hlt
          obtain ⟨x, hr⟩ : ∃ r, l[i]? = some r := ⟨l[i], by simp [hlt]⟩
          have hix := aft_ix hr
          have hw1 := wrap_i64 (z := (i : Int) + 1) (by omega) (by omega)
          have oFx := o4 x
          have hS : (l.take (i + 1)).all (fun c => freeB sh c) = ((l.take i).all (fun c => freeB sh c) && freeB sh x) := by rw [List.take_add_one, hr, List.all_append]; simp
          cases q : freeB sh x
          · rw [q] at oFx hS
            rw [Bool.and_false] at hS
            simp only [RT, FS, ↓RE, okR, argEnv, Nat.reduceAdd, Nat.reduceSub, Nat.reduceLT, Nat.reduceLeDiff, Nat.reduceEqDiff, reduceIte, RM, List.length_map, hc, decide_true, hix, oFx, Bool.not_false, hw1]
            exact ⟨i + 1, by omega, by omega, by rw [hS]; simp [headW, heapW, envW, blkLt, D.ltL, D.lt, look, hget, shD]⟩
          · rw [q] at oFx hS
            rw [Bool.and_true] at hS
            simp only [RT, FS, ↓RE, okR, argEnv, Nat.reduceAdd, Nat.reduceSub, Nat.reduceLT, Nat.reduceLeDiff, Nat.reduceEqDiff, reduceIte, RM, List.length_map, hc, decide_true, hix, oFx, Bool.not_true, hw1]
            exact ⟨i + 1, by omega, by omega, by rw [hS]; simp [headW, heapW, envW, blkLt, D.ltL, D.lt, look, hget, shD]⟩
        · have hc := nat_lt_false hge
          have hi : i = l.length := by omega
          subst hi
          rw [List.take_length, hal]
          simp only [Bool.false_eq_true, if_false, if_true]
          simp only [RT, FS, ↓RE, okR, argEnv, Nat.reduceAdd, Nat.reduceSub, Nat.reduceLT, Nat.reduceLeDiff, Nat.reduceEqDiff, reduceIte, RM, List.length_map, hc, decide_false]
          refine awp_peel (T := [(12, [(7, false, false, [])])]) e60_ok (by kernel_rfl) (by kernel_rfl) ?_
          simp only [RT, FS, ↓RE, okR, argEnv, Nat.reduceAdd, Nat.reduceSub, Nat.reduceLT, Nat.reduceLeDiff, Nat.reduceEqDiff, reduceIte, RM, hz]
          refine awp_peel (T := [(12, [(7, false, false, [])])]) e60_ok (by kernel_rfl) (by kernel_rfl) ?_
          simp only [RT, FS, ↓RE, okR, argEnv, Nat.reduceAdd, Nat.reduceSub, Nat.reduceLT, Nat.reduceLeDiff, Nat.reduceEqDiff, reduceIte, RM, oR]
          refine awp_peel (T := [(12, [(7, false, false, [])])]) e60_ok (by kernel_rfl) (by kernel_rfl) ?_
          simp only [RT, FS, ↓RE, okR, argEnv, Nat.reduceAdd, Nat.reduceSub, Nat.reduceLT, Nat.reduceLeDiff, Nat.reduceEqDiff, reduceIte, RM, intL_len, hpn]
          refine awp_rest (T := [(12, [(7, false, false, [])])]) e60_ok (by kernel_rfl) (by kernel_rfl) ?_
          simp only [RT, FS, ↓RE, okR, argEnv, Nat.reduceAdd, Nat.reduceSub, Nat.reduceLT, Nat.reduceLeDiff, Nat.reduceEqDiff, reduceIte, RM, hz0, oS, decide_true, o2]
theorem watchSweeps_pure : ∀ Ds, TyL Try.prog Try.f7.params.toList Ds → Pure Try.prog 7 Ds (.bool true) := by
  intro Ds h
  rw [Try.params7] at h
  match Ds, h with
  | [_, _, _], ⟨⟨n, _, h1, e1⟩, ⟨n2, _, h2, e2⟩, ⟨n3, _, h3, e3⟩, _⟩ =>
    rw [Try.underlying24] at e1
    rw [Fz.und_3] at e2
    rw [Fz.und_29] at e3
    dsimp only at e1 e2 e3
    obtain ⟨s, rfl, hs⟩ := tySky h1
    obtain ⟨frm, rfl, _⟩ := tyInt Fz.und_3 h2
    obtain ⟨l, rfl, hl⟩ := tyInts h3
    subst e1; cases e2; cases e3
    exact watchSweeps_at s hs frm l hl
end Go.Sx
