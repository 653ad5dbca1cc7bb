/- Own work: a calculus of contracts for the programs of this kit: parts SxT2t, SxL8t, SxT3t. -/
import Derived.Test.YtaifjmjooapmhaaGreatSxTm
import Derived.Test.YtaifjmjooapmhaaGreatSxL7t
set_option linter.unusedVariables false
set_option linter.unusedSimpArgs false
namespace Go.Sx.E
open Go.Proofs
set_option maxRecDepth 10000

theorem same_t (a b : List Int) (ha : a.length ≤ 1000000000000) : Pure Tryz.prog 21 [.sl (intL a), .sl (intL b)] (.bool (decide (a = b))) := by
 by_cases hlen : a.length = b.length
 rotate_left
 ·have hc : ((a.length : Int) != (b.length : Int)) = true := by simp; omega
  have hab : a ≠ b := fun e => hlen (by rw [e])
  refine pure_of_wc (rs := [.tmp 4]) (m := 26) [(6, [(9, false, false, [])])] oNone_ok (by kernel_rfl) Tryz.func21 rfl (by kernel_rfl) rfl rfl (by kernel_rfl) ?_
  simp only [RT, FS, ↓RE, okR, argEnv, Nat.reduceAdd, Nat.reduceSub, Nat.reduceLT, Nat.reduceLeDiff, Nat.reduceEqDiff, reduceIte, intL_len, hc]
  simp [hab]
 have hc : ((a.length : Int) != (b.length : Int)) = false := by simp; omega
 refine pure_of_wc (rs := [.tmp 4]) (m := 26) [(6, [(9, false, false, [])])] oNone_ok (by kernel_rfl) Tryz.func21 rfl (by kernel_rfl) rfl rfl (by kernel_rfl) ?_
 simp only [RT, FS, ↓RE, okR, argEnv, Nat.reduceAdd, Nat.reduceSub, Nat.reduceLT, Nat.reduceLeDiff, Nat.reduceEqDiff, reduceIte, intL_len, hc]
 refine loopV (ι := Nat) oNone_ok [(6, [(9, false, false, [])])] (fun i => [(0, .sl (intL a)), (1, .sl (intL b)), (5, .int .i64 (i : Int))])
  (fun i => []) 0 (fun i => i ≤ a.length ∧ a.take i = b.take i) (fun i => a.length - i) 0 (by kernel_rfl) (by kernel_rfl) ⟨Nat.zero_le _, by simp⟩ ?_ ?_
 ·simp [headW, heapW, envW, blkLt, D.ltL, D.lt, look, hget]
 rintro i ⟨hi, he⟩
 rcases Nat.lt_or_ge i a.length with hlt | hge
 rotate_left
 ·have hq : ((i : Int) < (a.length : Int)) = False := by simp; omega
  have hab : a = b := by
   rw [List.take_of_length_le (by omega), List.take_of_length_le (by omega)] at he; exact he
  simp only [RT, FS, ↓RE, okR, argEnv, Nat.reduceAdd, Nat.reduceSub, Nat.reduceLT, Nat.reduceLeDiff, Nat.reduceEqDiff, reduceIte, intL_len, hq, decide_false]
  simp [hab]
 have hq : ((i : Int) < (a.length : Int)) = True := by simp [hlt]
 obtain ⟨x, hx⟩ : ∃ x, a[i]? = some x := ⟨a[i], by simp [hlt]⟩
 obtain ⟨y, hy⟩ : ∃ y, b[i]? = some y := ⟨b[i]'(by omega), by simp⟩
 have ix := sI_ix hx
 have iy := sI_ix hy
 have hw := wrap_i64 (z := (i : Int) + 1) (by omega) (by omega)
 by_cases hxy : x = y
 ·have hc2 : (x != y) = false := by simpa using hxy
  simp only [RT, FS, ↓RE, okR, argEnv, Nat.reduceAdd, Nat.reduceSub, Nat.reduceLT, Nat.reduceLeDiff, Nat.reduceEqDiff, reduceIte, intL_len, hq, decide_true, ix, iy, hc2, hw]
  exact ⟨i + 1, ⟨by omega, by rw [List.take_add_one, List.take_add_one, hx, hy, he, hxy]⟩, by omega, by simp [headW, heapW, envW, blkLt, D.ltL, D.lt, look, hget]⟩
 ·have hc2 : (x != y) = true := by simpa using hxy
  have hab : a ≠ b := fun e => hxy (by rw [e, hy] at hx; exact (Option.some.inj hx).symm)
  simp only [RT, FS, ↓RE, okR, argEnv, Nat.reduceAdd, Nat.reduceSub, Nat.reduceLT, Nat.reduceLeDiff, Nat.reduceEqDiff, reduceIte, intL_len, hq, decide_true, ix, iy, hc2, hw]
  simp [hab]

def cK : Craft := ⟨[⟨2500, 300⟩, ⟨3000, 420⟩, ⟨3500, 600⟩], [⟨3500, 500⟩], 5, 40, 1300, 1200, 2, 5, 1, 100, 2, [⟨3000, 200⟩, ⟨4000, 120⟩], 30⟩
def lK : LandM := ⟨4, 1, [0, 100, 300, 0], [true, false, false, false], 50⟩
def aK : AirW := ⟨⟨-10, 20⟩, ⟨0, 0⟩⟩
theorem cK_l : CraftL cK := ⟨by decide, by decide, by decide⟩
theorem lK_l : LandL lK := ⟨by decide, by decide⟩
theorem lawCraft_t : Pure Tryz.prog 15 [] (.agg cK.c) := by
 have l3 : ∀ h nid, litOpD Tryz.prog h nid 61 3 [(0, .agg [.int .i64 2500, .int .i64 300]), (1, .agg [.int .i64 3000, .int .i64 420]), (2, .agg [.int .i64 3500, .int .i64 600])] = some (.osl nid 3, (nid, .arr 121 2 [[.int .i64 2500, .int .i64 300], [.int .i64 3000, .int .i64 420], [.int .i64 3500, .int .i64 600]]) :: h, nid + 1) := fun h nid => by kernel_rfl
 have l1 : ∀ h nid, litOpD Tryz.prog h nid 61 1 [(0, .agg [.int .i64 3500, .int .i64 500])] = some (.osl nid 1, (nid, .arr 121 2 [[.int .i64 3500, .int .i64 500]]) :: h, nid + 1) := fun h nid => by kernel_rfl
 have l2 : ∀ h nid, litOpD Tryz.prog h nid 61 2 [(0, .agg [.int .i64 3000, .int .i64 200]), (1, .agg [.int .i64 4000, .int .i64 120])] = some (.osl nid 2, (nid, .arr 121 2 [[.int .i64 3000, .int .i64 200], [.int .i64 4000, .int .i64 120]]) :: h, nid + 1) := fun h nid => by kernel_rfl
 refine pure_of_wc (rs := [.cell 0 63]) (m := 11) [] oNone_ok (by kernel_rfl) Tryz.func15 rfl (by kernel_rfl) rfl rfl (by kernel_rfl) ?_
 simp only [RT, FS, ↓RE, okR, argEnv, Nat.reduceAdd, Nat.reduceSub, Nat.reduceLT, Nat.reduceLeDiff, Nat.reduceEqDiff, reduceIte, RM, l3, l1, l2]
 rfl
theorem lawLand_t : Pure Tryz.prog 16 [] (.agg lK.c) := by
 have l1 : ∀ h nid, litOpD Tryz.prog h nid 34 4 [(0, .int .i64 0), (1, .int .i64 100), (2, .int .i64 300), (3, .int .i64 0)] = some (.osl nid 4, (nid, .arr 3 1 (intL [0, 100, 300, 0])) :: h, nid + 1) := fun h nid => by kernel_rfl
 have l2 : ∀ h nid, litOpD Tryz.prog h nid 35 4 [(0, .bool true), (1, .bool false), (2, .bool false), (3, .bool false)] = some (.osl nid 4, (nid, .arr 4 1 (boolL [true, false, false, false])) :: h, nid + 1) := fun h nid => by kernel_rfl
 refine pure_of_wc (rs := [.cell 0 42]) (m := 4) [] oNone_ok (by kernel_rfl) Tryz.func16 rfl (by kernel_rfl) rfl rfl (by kernel_rfl) ?_
 simp only [RT, FS, ↓RE, okR, argEnv, Nat.reduceAdd, Nat.reduceSub, Nat.reduceLT, Nat.reduceLeDiff, Nat.reduceEqDiff, reduceIte, RM, l1, l2]
 rfl
theorem lawAir_t : Pure Tryz.prog 17 [] (.agg aK.c) := by
 refine pure_of_wc (rs := [.cell 0 67]) (m := 3) [] oNone_ok (by kernel_rfl) Tryz.func17 rfl (by kernel_rfl) rfl rfl (by kernel_rfl) ?_
 simp only [RT, FS, ↓RE, okR, argEnv, Nat.reduceAdd, Nat.reduceSub, Nat.reduceLT, Nat.reduceLeDiff, Nat.reduceEqDiff, reduceIte, RM]
 rfl
theorem kNeeds : NeedsR cK lK aK 3000 = .tup [.sl (intL [0, 150, 350, 490]), .int .i64 0] := by kernel_rfl
end Go.Sx.E

namespace Go.Sx.L
open Go.Proofs
set_option maxRecDepth 10000

theorem tripped_t : Pure Tryz.prog 47 [.agg pK.c, .agg [.int .i64 0, .int .i64 0], lgD tK] (.int .i64 0) :=
 pure_of_ev (fuel := 1000) (n := 20) (by kernel_rfl) tabL_ok orC_ok (tblO_ok (l := [(96, [.agg pK.c], .bool (convexF pK))]) fun e he => by
  rw [List.mem_singleton] at he
  subst he
  exact convex_t pK (by decide)) (by kernel_rfl)
theorem first_t : Pure Tryz.prog 51 [.agg pK.c, .agg [.int .i64 160, .int .i64 160], lgD tK] (.tup [.int .i64 (-1), .int .i64 1, .int .i64 0]) :=
 pure_of_ev (fuel := 1000) (n := 20) (by kernel_rfl) tabL_ok orC_ok (tblO_ok (entB_ok 160)) (by kernel_rfl)
def entF : List (FuncId × List D × D) := (47, [.agg pK.c, .agg [.int .i64 0, .int .i64 0], lgD tK], .int .i64 0) ::
 (51, [.agg pK.c, .agg [.int .i64 160, .int .i64 160], lgD tK], .tup [.int .i64 (-1), .int .i64 1, .int .i64 0]) ::
 nsK.map fun n => (48, [.agg pK.c, lgD tK, .int .i64 n], .sl (boL (bK n)))
theorem entF_ok : ∀ e ∈ entF, Pure Tryz.prog e.1 e.2.1 e.2.2 := by
 intro e he
 simp only [entF, List.mem_cons, List.mem_map] at he
 rcases he with rfl | rfl | ⟨n, hn, rfl⟩
 ·exact tripped_t
 ·exact first_t
 ·exact brk_t n hn
theorem Fuel_t : Pure Tryz.prog 18 [.agg pK.c, lgD tK] (.tup [.int .i64 160, .int .i64 0]) :=
 pure_of_ev (fuel := 1000) (n := 20) (by kernel_rfl) tabL_ok orC_ok (tblO_ok entF_ok) (by kernel_rfl)
end Go.Sx.L

namespace Go.Sx.E
open Go.Proofs
set_option maxRecDepth 10000

noncomputable def cstO (a : List D) (r : D) : List D → Option D := orcF (fun _ : Unit => True) (fun _ => a) (fun _ => r)
theorem cstO_eq (a : List D) (r : D) : cstO a r a = some r := orcF_eq (α := Unit) (ok := fun _ => True) (dsf := fun _ => a) (rf := fun _ => r) () trivial (fun _ _ => rfl)
theorem cstO_ok {P : Program} {f : FuncId} {a : List D} {r : D} (h : Pure P f a r) (ds : List D) (s : D) (hs : cstO a r ds = some s) : Pure P f ds s := orcF_ok (fun _ _ => h) ds s hs
noncomputable def cD : List D := cK.c
noncomputable def lD : List D := lK.c
noncomputable def aD : List D := aK.c
noncomputable def pD : List D := L.pK.c
noncomputable def tD : D := L.lgD L.tK
theorem cD_lt : ∀ m, D.ltL m cD = true := fun m => by simp [cD, Craft.c, D.ltL, D.lt]
theorem lD_lt : ∀ m, D.ltL m lD = true := fun m => by simp [lD, LandM.c, grD, waD, D.ltL, D.lt]
theorem aD_lt : ∀ m, D.ltL m aD = true := fun m => by simp [aD, AirW.c, D.ltL, D.lt]
theorem pD_lt : ∀ m, D.ltL m pD = true := fun m => by simp [pD, L.prD, D.ltL, D.lt]
theorem tD_lt : ∀ m, D.lt m tD = true := fun m => by simp [tD, L.lgD, D.lt]
theorem cD_v : ∀ h, viewL h cD = cD := fun h => viewL_old h (cD_lt 0)
theorem lD_v : ∀ h, viewL h lD = lD := fun h => viewL_old h (lD_lt 0)
theorem aD_v : ∀ h, viewL h aD = aD := fun h => viewL_old h (aD_lt 0)
theorem pD_v : ∀ h, viewL h pD = pD := fun h => viewL_old h (pD_lt 0)
theorem tD_v : ∀ h, view h tD = tD := fun h => (rfl)
noncomputable abbrev k20 : List (FuncId × (List D → Option D)) :=
 (15, cstO [] (.agg cD)) :: (16, cstO [] (.agg lD)) :: (17, cstO [] (.agg aD)) :: (14, cstO [.agg cD, .agg lD, .agg aD, .int .i64 3000] (.tup [.sl (intL [0, 150, 350, 490]), .int .i64 0])) :: (19, cstO [] (.agg pD)) :: (20, cstO [] tD) :: (18, cstO [.agg pD, tD] (.tup [.int .i64 160, .int .i64 0])) :: (21, cstO [.sl (intL [0, 150, 350, 490]), .sl (intL [0, 150, 350, 490])] (.bool true)) :: []

theorem k20_ok : OkO Tryz.prog (mkO k20) := 
 mkO_ok (cstO_ok lawCraft_t) <|
 mkO_ok (cstO_ok lawLand_t) <|
 mkO_ok (cstO_ok lawAir_t) <|
 mkO_ok (cstO_ok (by have h := run_Needs_t cK cK_l lK lK_l aK 3000; rw [kNeeds] at h; exact h)) <|
 mkO_ok (cstO_ok L.lawP_t) <|
 mkO_ok (cstO_ok L.lawT_t) <|
 mkO_ok (cstO_ok L.Fuel_t) <|
 mkO_ok (cstO_ok (by have h := same_t [0, 150, 350, 490] [0, 150, 350, 490] (by decide); rw [decide_eq_true rfl] at h; exact h)) <| fun _ _ _ h => by cases h

theorem known20_t : Pure Tryz.prog 7 [] (.bool true) := by
 have q1 : ((160 : Int) == 160) = true := rfl
 have hz : ((0 : Int) == 0) = true := rfl
 have v1 : viewA 4 (some (.arr 3 1 (intL [0, 150, 350, 490]))) = .sl (intL [0, 150, 350, 490]) := (rfl)
 have l4 : ∀ h nid, litOpD Tryz.prog h nid 34 4 [(0, .int .i64 0), (1, .int .i64 150), (2, .int .i64 350), (3, .int .i64 490)] = some (.osl nid 4, (nid, .arr 3 1 (intL [0, 150, 350, 490])) :: h, nid + 1) := fun h nid => by kernel_rfl
 have gs := cstO_eq [.sl (intL [0, 150, 350, 490]), .sl (intL [0, 150, 350, 490])] (.bool true)
 refine pure_of_pieces (rs := [.tmp 0]) (m := 33) [] k20_ok (by kernel_rfl) Tryz.func7 rfl (by kernel_rfl) rfl rfl (by kernel_rfl) ?_
 refine awp_peel (T := []) k20_ok (by kernel_rfl) (by kernel_rfl) ?_
 simp only [RT, FS, ↓RE, okR, argEnv, Nat.reduceAdd, Nat.reduceSub, Nat.reduceLT, Nat.reduceLeDiff, Nat.reduceEqDiff, reduceIte, RT, RM]
 refine awp_peel (T := []) k20_ok (by kernel_rfl) (by kernel_rfl) ?_
 simp only [RT, FS, ↓RE, okR, argEnv, Nat.reduceAdd, Nat.reduceSub, Nat.reduceLT, Nat.reduceLeDiff, Nat.reduceEqDiff, reduceIte, RT, RM, cstO_eq, cD_lt, lD_lt, aD_lt, cD_v, lD_v, aD_v]
 refine awp_peel (T := []) k20_ok (by kernel_rfl) (by kernel_rfl) ?_
 simp only [RT, FS, ↓RE, okR, argEnv, Nat.reduceAdd, Nat.reduceSub, Nat.reduceLT, Nat.reduceLeDiff, Nat.reduceEqDiff, reduceIte, RT, RM, cstO_eq, pD_lt, tD_lt, pD_v, tD_v]
 refine awp_rest (T := []) k20_ok (by kernel_rfl) (by kernel_rfl) ?_
 simp only [RT, FS, ↓RE, okR, argEnv, Nat.reduceAdd, Nat.reduceSub, Nat.reduceLT, Nat.reduceLeDiff, Nat.reduceEqDiff, reduceIte, RT, RM, hz, q1, gs, l4, v1]
end Go.Sx.E
