/- Own work: a calculus of contracts for the programs of this kit: parts SxE25r, SxE26r, SxE27r, SxE28r, SxE29r. -/
import Derived.Test.YthljonnokmkagaaSxEd
set_option linter.unusedVariables false
set_option linter.unusedSimpArgs false
namespace Go.Sx
open Go.Proofs
set_option maxRecDepth 10000

noncomputable abbrev e4 : List (FuncId × (List D → Option D)) := (70, gCe) :: e3
theorem e4_ok : OkO Try.prog (mkO e4) := mkO_ok (orcF_ok fun p h => run_cell_t p.1 h p.2) e3_ok
theorem cellB_ok {l : LandM} (hl : LandL l) {n : Int} (h : cellB l n = true) : 0 ≤ n ∧ n < (l.ground.length : Int) := by
  simp only [cellB, rI, Bool.and_eq_true, decide_eq_true_eq] at h; omega

/-! Lowest -/
def lowF (c : Craft) (a : AirW) (ce : Int) (l : LandM) (frm to : Int) : Int := bisI (fun h => (mget (costsF c a ce l to h) frm).isSome) 20 0 20001
def LowestR (c : Craft) (l : LandM) (a : AirW) (w frm to : Int) : Int × Int :=
  if startE c l a w (cellB l frm && cellB l to) = 0 then (if 20000 < lowF c a (ceilI c w) l frm to then (0, 5) else (lowF c a (ceilI c w) l frm to, 0)) else (0, startE c l a w (cellB l frm && cellB l to))
theorem run_Lowest_t (c : Craft) (hc : CraftL c) (l : LandM) (hl : LandL l) (a : AirW) (w frm to : Int) :
    Pure Try.prog 32 [.agg c.c, .agg l.c, .agg a.c, .int .i64 w, .int .i64 frm, .int .i64 to] (.tup [.int .i64 (LowestR c l a w frm to).1, .int .i64 (LowestR c l a w frm to).2]) := by
  have ps := run_start_t c hc l hl a w (cellB l frm && cellB l to)
  have hz : ((0 : Int) != 0) = false := rfl
  have oc1 := gCe_eq hl frm
  have oc2 := gCe_eq hl to
  unfold LowestR
  by_cases h0 : startE c l a w (cellB l frm && cellB l to) = 0
  rotate_left
  · rw [if_neg h0]
    simp only [startR, if_neg h0] at ps
    have hb : (startE c l a w (cellB l frm && cellB l to) != 0) = true := by simpa using h0
    generalize startE c l a w (cellB l frm && cellB l to) = E at *
    cases h1 : cellB l frm
    · rw [h1] at ps oc1
      simp only [Bool.false_and, Craft.c, LandM.c, grD, waD, AirW.c] at ps oc1 oc2 ⊢
      refine pure_of_wc (rs := [.tmp 12, .tmp 13]) (m := 41) [(1, [(18, false, true, [(17, 1), (16, 1), (15, 1), (13, 1), (12, 1), (11, 1), (9, 1), (8, 1), (7, 1), (5, 1)]), (1, false, false, [])])] e4_ok (by kernel_rfl) Try.func32 rfl (by kernel_rfl) rfl rfl (by kernel_rfl) ?_
      simp only [RT, FS, ↓RE, okR, argEnv, Nat.reduceAdd, Nat.reduceSub, Nat.reduceLT, Nat.reduceLeDiff, Nat.reduceEqDiff, reduceIte, RM, oc1, oc2]
      refine call_of_pure' ps (by simp [D.ltL, D.lt]) (by simp [D.ltL, D.lt]) ?_
      simp only [RT, FS, ↓RE, okR, argEnv, Nat.reduceAdd, Nat.reduceSub, Nat.reduceLT, Nat.reduceLeDiff, Nat.reduceEqDiff, reduceIte, RM, hb]
    · rw [h1] at ps oc1
      simp only [Bool.true_and, Craft.c, LandM.c, grD, waD, AirW.c] at ps oc1 oc2 ⊢
      refine pure_of_wc (rs := [.tmp 12, .tmp 13]) (m := 41) [(1, [(18, false, true, [(17, 1), (16, 1), (15, 1), (13, 1), (12, 1), (11, 1), (9, 1), (8, 1), (7, 1), (5, 1)]), (1, false, false, [])])] e4_ok (by kernel_rfl) Try.func32 rfl (by kernel_rfl) rfl rfl (by kernel_rfl) ?_
      simp only [RT, FS, ↓RE, okR, argEnv, Nat.reduceAdd, Nat.reduceSub, Nat.reduceLT, Nat.reduceLeDiff, Nat.reduceEqDiff, reduceIte, RM, oc1, oc2]
      refine call_of_pure' ps (by simp [D.ltL, D.lt]) (by simp [D.ltL, D.lt]) ?_
      simp only [RT, FS, ↓RE, okR, argEnv, Nat.reduceAdd, Nat.reduceSub, Nat.reduceLT, Nat.reduceLeDiff, Nat.reduceEqDiff, reduceIte, RM, hb]
  obtain ⟨k1, k2, k3, k4, _⟩ := startE_ok hc hl h0
  simp only [Bool.and_eq_true] at k4
  rw [if_pos h0]
  simp only [startR, if_pos h0] at ps
  rw [h0, k4.1, k4.2] at ps
  rw [k4.1] at oc1
  rw [k4.2] at oc2
  have hto := cellB_ok hl k4.2
  have hf := rfirstB_t 0 20001 (by omega) 87 [] [.ref [.int .i64 to] 0, .ref [.ref (flO c l a (ceilI c w)) 0] 0, .ref [.int .i64 frm] 0] (fun h => (mget (costsF c a (ceilI c w) l to h) frm).isSome)
    (fun m => rfl) (fun m => rfl) (fun h i => rfl) (fun i h0 h1 => lowest1_t c k1 l k2 a k3 (ceilI c w) frm to hto i)
  unfold lowF
  generalize bisI (fun h => (mget (costsF c a (ceilI c w) l to h) frm).isSome) 20 0 20001 = B at *
  generalize flO c l a (ceilI c w) = F at *
  simp only [Bool.and_self, Craft.c, LandM.c, grD, waD, AirW.c] at ps oc1 oc2 ⊢
  by_cases hB : 20000 < B
  · rw [if_pos hB]
    refine pure_of_wc (rs := [.tmp 12, .tmp 13]) (m := 41) [(1, [(18, false, true, [(17, 1), (16, 1), (15, 1), (13, 1), (12, 1), (11, 1), (9, 1), (8, 1), (7, 1), (5, 1)]), (1, false, false, [])])] e4_ok (by kernel_rfl) Try.func32 rfl (by kernel_rfl) rfl rfl (by kernel_rfl) ?_
    simp only [RT, FS, ↓RE, okR, argEnv, Nat.reduceAdd, Nat.reduceSub, Nat.reduceLT, Nat.reduceLeDiff, Nat.reduceEqDiff, reduceIte, RM, oc1, oc2]
    refine call_of_pure' ps (by simp [D.ltL, D.lt]) (by simp [D.ltL, D.lt]) ?_
    simp only [RT, FS, ↓RE, okR, argEnv, Nat.reduceAdd, Nat.reduceSub, Nat.reduceLT, Nat.reduceLeDiff, Nat.reduceEqDiff, reduceIte, RM, hz]
    refine call_of_pure (by simpa [view, viewL, hget] using hf) rfl ?_
    simp only [RT, FS, ↓RE, okR, argEnv, Nat.reduceAdd, Nat.reduceSub, Nat.reduceLT, Nat.reduceLeDiff, Nat.reduceEqDiff, reduceIte, RM, hB, decide_true]
  · rw [if_neg hB]
    refine pure_of_wc (rs := [.tmp 12, .tmp 13]) (m := 41) [(1, [(18, false, true, [(17, 1), (16, 1), (15, 1), (13, 1), (12, 1), (11, 1), (9, 1), (8, 1), (7, 1), (5, 1)]), (1, false, false, [])])] e4_ok (by kernel_rfl) Try.func32 rfl (by kernel_rfl) rfl rfl (by kernel_rfl) ?_
    simp only [RT, FS, ↓RE, okR, argEnv, Nat.reduceAdd, Nat.reduceSub, Nat.reduceLT, Nat.reduceLeDiff, Nat.reduceEqDiff, reduceIte, RM, oc1, oc2]
    refine call_of_pure' ps (by simp [D.ltL, D.lt]) (by simp [D.ltL, D.lt]) ?_
    simp only [RT, FS, ↓RE, okR, argEnv, Nat.reduceAdd, Nat.reduceSub, Nat.reduceLT, Nat.reduceLeDiff, Nat.reduceEqDiff, reduceIte, RM, hz]
    refine call_of_pure (by simpa [view, viewL, hget] using hf) rfl ?_
    simp only [RT, FS, ↓RE, okR, argEnv, Nat.reduceAdd, Nat.reduceSub, Nat.reduceLT, Nat.reduceLeDiff, Nat.reduceEqDiff, reduceIte, RM, hB, decide_false]
end Go.Sx

namespace Go.Sx
open Go.Proofs
set_option maxRecDepth 10000

/-! Way -/
def wayFine (l : LandM) (frm to h : Int) : Bool := cellB l frm && (cellB l to && rI h 0 20000)
def WayD (c : Craft) (l : LandM) (a : AirW) (w frm to h : Int) : D :=
  if startE c l a w (wayFine l frm to h) = 0 then
    (match mget (costsF c a (ceilI c w) l to h) frm with
     | some v => .tup [.sl (intL (alongA (costsF c a (ceilI c w) l to h) (stepsL l.wide l.deep) frm to)), .int .i64 v.len, .int .i64 0]
     | none => .tup [.nils, .int .i64 0, .int .i64 5])
  else .tup [.nils, .int .i64 0, .int .i64 (startE c l a w (wayFine l frm to h))]
theorem run_Way_t (c : Craft) (hc : CraftL c) (l : LandM) (hl : LandL l) (a : AirW) (w frm to h : Int) :
    Pure Try.prog 29 [.agg c.c, .agg l.c, .agg a.c, .int .i64 w, .int .i64 frm, .int .i64 to, .int .i64 h] (WayD c l a w frm to h) := by
  have ps := run_start_t c hc l hl a w (wayFine l frm to h)
  have hz : ((0 : Int) != 0) = false := rfl
  have oc1 := gCe_eq hl frm
  have oc2 := gCe_eq hl to
  unfold WayD
  by_cases h0 : startE c l a w (wayFine l frm to h) = 0
  rotate_left
  · rw [if_neg h0]
    simp only [startR, if_neg h0] at ps
    have hb : (startE c l a w (wayFine l frm to h) != 0) = true := by simpa using h0
    generalize startE c l a w (wayFine l frm to h) = E at *
    unfold wayFine at ps
    cases h1 : cellB l frm
    · rw [h1] at ps oc1
      simp only [Bool.false_and, Craft.c, LandM.c, grD, waD, AirW.c] at ps oc1 oc2 ⊢
      refine pure_of_wc (rs := [.tmp 14, .tmp 15, .tmp 16]) (m := 70) [(1, [(22, false, false, [])]), (8, [(13, false, false, [])])] e4_ok (by kernel_rfl) Try.func29 rfl (by kernel_rfl) rfl rfl (by kernel_rfl) ?_
      simp only [RT, FS, ↓RE, okR, argEnv, Nat.reduceAdd, Nat.reduceSub, Nat.reduceLT, Nat.reduceLeDiff, Nat.reduceEqDiff, reduceIte, RM, oc1, oc2]
      refine call_of_pure' ps (by simp [D.ltL, D.lt]) (by simp [D.ltL, D.lt]) ?_
      simp only [RT, FS, ↓RE, okR, argEnv, Nat.reduceAdd, Nat.reduceSub, Nat.reduceLT, Nat.reduceLeDiff, Nat.reduceEqDiff, reduceIte, RM, hb]
    cases h2 : cellB l to
    · rw [h1, h2] at ps
      rw [h1] at oc1
      rw [h2] at oc2
      simp only [Bool.true_and, Bool.false_and, Craft.c, LandM.c, grD, waD, AirW.c] at ps oc1 oc2 ⊢
      refine pure_of_wc (rs := [.tmp 14, .tmp 15, .tmp 16]) (m := 70) [(1, [(22, false, false, [])]), (8, [(13, false, false, [])])] e4_ok (by kernel_rfl) Try.func29 rfl (by kernel_rfl) rfl rfl (by kernel_rfl) ?_
      simp only [RT, FS, ↓RE, okR, argEnv, Nat.reduceAdd, Nat.reduceSub, Nat.reduceLT, Nat.reduceLeDiff, Nat.reduceEqDiff, reduceIte, RM, oc1, oc2]
      refine call_of_pure' ps (by simp [D.ltL, D.lt]) (by simp [D.ltL, D.lt]) ?_
      simp only [RT, FS, ↓RE, okR, argEnv, Nat.reduceAdd, Nat.reduceSub, Nat.reduceLT, Nat.reduceLeDiff, Nat.reduceEqDiff, reduceIte, RM, hb]
    · rw [h1, h2] at ps
      rw [h1] at oc1
      rw [h2] at oc2
      simp only [Bool.true_and, Craft.c, LandM.c, grD, waD, AirW.c] at ps oc1 oc2 ⊢
      refine pure_of_wc (rs := [.tmp 14, .tmp 15, .tmp 16]) (m := 70) [(1, [(22, false, false, [])]), (8, [(13, false, false, [])])] e4_ok (by kernel_rfl) Try.func29 rfl (by kernel_rfl) rfl rfl (by kernel_rfl) ?_
      simp only [RT, FS, ↓RE, okR, argEnv, Nat.reduceAdd, Nat.reduceSub, Nat.reduceLT, Nat.reduceLeDiff, Nat.reduceEqDiff, reduceIte, RM, oc1, oc2, gI3_eq]
      refine call_of_pure' ps (by simp [D.ltL, D.lt]) (by simp [D.ltL, D.lt]) ?_
      simp only [RT, FS, ↓RE, okR, argEnv, Nat.reduceAdd, Nat.reduceSub, Nat.reduceLT, Nat.reduceLeDiff, Nat.reduceEqDiff, reduceIte, RM, hb]
  obtain ⟨k1, k2, k3, k4, _⟩ := startE_ok hc hl h0
  simp only [wayFine, Bool.and_eq_true] at k4
  rw [if_pos h0]
  simp only [startR, if_pos h0] at ps
  simp only [wayFine] at ps h0
  rw [h0, k4.1, k4.2.1, k4.2.2] at ps
  rw [k4.1] at oc1
  rw [k4.2.1] at oc2
  have hto := cellB_ok hl k4.2.1
  have hfr := cellB_ok hl k4.1
  have hs := k2.small
  have hsz := k2.size
  have p1 := allowed_t c k1 l k2 a k3 (ceilI c w) h
  have W := walk_fl c k1 l k2 a k3 (ceilI c w) h
  have p2 := far_t W to hto
  have hmok : MapOk l.ground.length (costsF c a (ceilI c w) l to h) := farA_ok W.n _ _ (fun x h0 h1 s hsx => (W.ok x h0 h1 s hsx).1) hto
  have p3 := along_t W.n (m := costsF c a (ceilI c w) l to h) hmok W.sfl W.scl W.s W.icl W.cal W.q frm to hfr
  have hAC : ∀ m, D.ltL m (allowC c l a (ceilI c w) h) = true := fun m => rfl
  have hAF : D.frL (allowC c l a (ceilI c w) h) = true := rfl
  have hAV : ∀ hh, viewL hh (allowC c l a (ceilI c w) h) = allowC c l a (ceilI c w) h := fun hh => rfl
  have hq := k4.2.2
  have e2 : farA (allowB l (needsF c a (ceilI c w) l) h) (stepsL l.wide l.deep) to = costsF c a (ceilI c w) l to h := rfl
  rw [e2] at p2
  generalize alongA (costsF c a (ceilI c w) l to h) (stepsL l.wide l.deep) frm to = R at *
  generalize flO c l a (ceilI c w) = F at *
  generalize allowC c l a (ceilI c w) h = AC at *
  generalize costsF c a (ceilI c w) l to h = M at *
  have hlk := fun hh => md_look hh M frm
  have hgk := fun hh => md_get hh M frm
  simp only [Bool.and_self, Craft.c, LandM.c, grD, waD, AirW.c] at ps oc1 oc2 ⊢
  cases hm : mget M frm with
  | none =>
    rw [hm] at hlk
    simp only [valC, Option.isSome_none] at hlk
    refine pure_of_wc (rs := [.tmp 14, .tmp 15, .tmp 16]) (m := 70) [(1, [(22, false, false, [])]), (8, [(13, false, false, [])])] e4_ok (by kernel_rfl) Try.func29 rfl (by kernel_rfl) rfl rfl (by kernel_rfl) ?_
    simp only [RT, FS, ↓RE, okR, argEnv, Nat.reduceAdd, Nat.reduceSub, Nat.reduceLT, Nat.reduceLeDiff, Nat.reduceEqDiff, reduceIte, RM, oc1, oc2, gI3_eq, hq]
    refine call_of_pure' ps (by simp [D.ltL, D.lt]) (by simp [D.ltL, D.lt]) ?_
    simp only [RT, FS, ↓RE, okR, argEnv, Nat.reduceAdd, Nat.reduceSub, Nat.reduceLT, Nat.reduceLeDiff, Nat.reduceEqDiff, reduceIte, RM, hz]
    refine call_of_pure' p1 (by simp [D.ltL, D.lt]) (by simp [D.ltL, D.lt, hAC]) ?_
    simp only [RT, FS, ↓RE, okR, argEnv, Nat.reduceAdd, Nat.reduceSub, Nat.reduceLT, Nat.reduceLeDiff, Nat.reduceEqDiff, reduceIte, RM, hz]
    refine call_of_free p2 (by simp [D.frL, D.fr, hAF]) (by simp [D.fr]) ?_
    simp only [RT, FS, ↓RE, okR, argEnv, Nat.reduceAdd, Nat.reduceSub, Nat.reduceLT, Nat.reduceLeDiff, Nat.reduceEqDiff, reduceIte, RM, hlk]
  | some v =>
    rw [hm] at hlk hgk
    simp only [valC, Option.isSome_some, Cst.c] at hlk hgk
    refine pure_of_wc (rs := [.tmp 14, .tmp 15, .tmp 16]) (m := 70) [(1, [(22, false, false, [])]), (8, [(13, false, false, [])])] e4_ok (by kernel_rfl) Try.func29 rfl (by kernel_rfl) rfl rfl (by kernel_rfl) ?_
    simp only [RT, FS, ↓RE, okR, argEnv, Nat.reduceAdd, Nat.reduceSub, Nat.reduceLT, Nat.reduceLeDiff, Nat.reduceEqDiff, reduceIte, RM, oc1, oc2, gI3_eq, hq]
    refine call_of_pure' ps (by simp [D.ltL, D.lt]) (by simp [D.ltL, D.lt]) ?_
    simp only [RT, FS, ↓RE, okR, argEnv, Nat.reduceAdd, Nat.reduceSub, Nat.reduceLT, Nat.reduceLeDiff, Nat.reduceEqDiff, reduceIte, RM, hz]
    refine call_of_pure' p1 (by simp [D.ltL, D.lt]) (by simp [D.ltL, D.lt, hAC]) ?_
    simp only [RT, FS, ↓RE, okR, argEnv, Nat.reduceAdd, Nat.reduceSub, Nat.reduceLT, Nat.reduceLeDiff, Nat.reduceEqDiff, reduceIte, RM, hz]
    refine call_of_free p2 (by simp [D.frL, D.fr, hAF]) (by simp [D.fr]) ?_
    simp only [RT, FS, ↓RE, okR, argEnv, Nat.reduceAdd, Nat.reduceSub, Nat.reduceLT, Nat.reduceLeDiff, Nat.reduceEqDiff, reduceIte, RM, hlk]
    refine call_of_free p3 (by simp [D.frL, D.fr]) (by simp [D.fr]) ?_
    simp only [RT, FS, ↓RE, okR, argEnv, Nat.reduceAdd, Nat.reduceSub, Nat.reduceLT, Nat.reduceLeDiff, Nat.reduceEqDiff, reduceIte, RM, hgk]
end Go.Sx

namespace Go.Sx
open Go.Proofs
set_option maxRecDepth 10000

theorem rfirstG_t (fu : Nat) (lo hi : Int) (hb : -1000000000 ≤ lo ∧ lo ≤ hi ∧ hi ≤ 1000000000) (hfu : hi - lo < 2 ^ fu) (f : FuncId) (fst caps : List D) (p : Int → Bool) (hfl : ∀ m, D.ltL m fst = true) (hcl : ∀ m, D.ltL m caps = true)
    (hva : ∀ h i, viewL h (fst ++ [D.int .i64 i] ++ caps) = fst ++ [D.int .i64 i] ++ caps) (hq : ∀ i, lo ≤ i → i < hi → Pure Try.prog f (fst ++ [.int .i64 i] ++ caps) (.bool (p i))) :
    Pure Try.prog 73 [.int .i64 lo, .int .i64 hi, .fn (.func f) fst caps] (.int .i64 (bisI p fu lo hi)) := by
  refine pure_of_wc (rs := [.tmp 6]) (m := 24) [] oNone_ok (by kernel_rfl) Try.func73 rfl (by kernel_rfl) rfl rfl (by kernel_rfl) ?_
  simp only [RT, FS, ↓RE, okR, argEnv, Nat.reduceAdd, Nat.reduceSub, Nat.reduceLT, Nat.reduceLeDiff, Nat.reduceEqDiff, reduceIte]
  generalize hR : bisI p fu lo hi = R
  refine loopV (ι := Nat × Int × Int) oNone_ok [] (fun i => [(0, .int .i64 i.2.1), (1, .int .i64 i.2.2), (2, .fn (.func f) fst caps)])
    (fun i => []) 0 (fun i => lo ≤ i.2.1 ∧ i.2.1 ≤ i.2.2 ∧ i.2.2 ≤ hi ∧ i.2.2 - i.2.1 < 2 ^ i.1 ∧ bisI p i.1 i.2.1 i.2.2 = R) (fun i => (i.2.2 - i.2.1).toNat) (fu, lo, hi) (by kernel_rfl) (by kernel_rfl) ⟨Int.le_refl _, hb.2.1, Int.le_refl _, hfu, hR⟩ ?_ ?_
  · simp [headW, heapW, envW, blkLt, D.ltL, D.lt, look, hget, hfl, hcl]
  rintro ⟨n, a, b⟩ ⟨h1, h2, h3, h4, h5⟩
  dsimp only at h1 h2 h3 h4 h5 ⊢
  by_cases hab : a < b
  rotate_left
  · simp only [RT, FS, ↓RE, okR, argEnv, Nat.reduceAdd, Nat.reduceSub, Nat.reduceLT, Nat.reduceLeDiff, Nat.reduceEqDiff, reduceIte, hab, decide_false]
    rw [← h5, bisI_done p n a b hab]
  cases n with
  | zero => simp at h4; omega
  | succ n =>
  have hp : (2 : Int) ^ (n + 1) = 2 * 2 ^ n := by rw [Int.pow_succ]; omega
  have w1 := wrap_i64 (z := b - a) (by omega) (by omega)
  have hd := a_quo' (k := .i64) (x := b - a) (y := 2) (by omega)
  have he : (b - a).tdiv 2 = (b - a) / 2 := Int.tdiv_eq_ediv_of_nonneg (by omega)
  have w2 := wrap_i64 (z := (b - a) / 2) (by omega) (by omega)
  have w3 := wrap_i64 (z := a + (b - a) / 2) (by omega) (by omega)
  have w4 := wrap_i64 (z := a + (b - a) / 2 + 1) (by omega) (by omega)
  simp only [RT, FS, ↓RE, okR, argEnv, Nat.reduceAdd, Nat.reduceSub, Nat.reduceLT, Nat.reduceLeDiff, Nat.reduceEqDiff, reduceIte, hab, decide_true, w1, hd, he, w2, w3]
  refine call_of_pure (by rw [hva]; exact hq (a + (b - a) / 2) (by omega) (by omega)) rfl ?_
  simp only [bisI, if_pos hab] at h5
  cases q : p (a + (b - a) / 2)
  · rw [q] at h5
    simp only [RT, FS, ↓RE, okR, argEnv, Nat.reduceAdd, Nat.reduceSub, Nat.reduceLT, Nat.reduceLeDiff, Nat.reduceEqDiff, reduceIte, w4]
    exact ⟨(n, a + (b - a) / 2 + 1, b), ⟨by simp only; omega, by simp only; omega, h3, by simp only; omega, by simpa using h5⟩, by simp only; omega, by simp [headW, heapW, envW, blkLt, D.ltL, D.lt, look, hget, hfl, hcl]⟩
  · rw [q] at h5
    simp only [RT, FS, ↓RE, okR, argEnv, Nat.reduceAdd, Nat.reduceSub, Nat.reduceLT, Nat.reduceLeDiff, Nat.reduceEqDiff, reduceIte]
    exact ⟨(n, a, a + (b - a) / 2), ⟨h1, by simp only; omega, by simp only; omega, by simp only; omega, by simpa using h5⟩, by simp only; omega, by simp [headW, heapW, envW, blkLt, D.ltL, D.lt, look, hget, hfl, hcl]⟩


/-! Escapes -/
def rowN (W : List (List Int)) (k : Nat) : List Int := W[k]?.getD []
theorem rowN_at {W : List (List Int)} {k : Nat} (h : k < W.length) : W[k]? = some (rowN W k) := by simp [rowN, h]
theorem escape1_t (W : List (List Int)) (frm h : Int) (i : Nat) (hi : i < W.length) (n : Nat) (hf : frm = (n : Int)) (hn : n < (rowN W i).length) :
    Pure Try.prog 74 [.int .i64 (i : Int), .ref [.sl (rowsD W)] 0, .ref [.int .i64 frm] 0, .ref [.int .i64 h] 0] (.bool (decide (nAt (rowN W i) n ≤ h))) := by
  subst hf
  have h1 := sR_ix (rowN_at hi)
  have h2 : (rowN W i)[n]? = some (nAt (rowN W i) n) := by simp [nAt, hn]
  have h3 := sI_ix h2
  refine pure_of_wc (rs := [.tmp 5]) (m := 15) [(1, [(10, false, false, [])])] oNone_ok (by kernel_rfl) Try.func74 rfl (by kernel_rfl) rfl rfl (by kernel_rfl) ?_
  simp only [RT, FS, ↓RE, okR, argEnv, Nat.reduceAdd, Nat.reduceSub, Nat.reduceLT, Nat.reduceLeDiff, Nat.reduceEqDiff, reduceIte, h1, h3]
section
variable (c : Craft) (a : AirW) (ce : Int) (l : LandM)
def okS (W : List (List Int)) (k : Nat) (h : Int) (s : Stp) : Bool := decide (nAt (rowN W k) s.cell.toNat ≤ leftF c a ce s h)
def escStep (W : List (List Int)) (k : Nat) (st : Int × Int) : Int × Int := match (stepsL l.wide l.deep st.1).find? (okS c a ce W k st.2) with
  | some s => (s.cell, leftF c a ce s st.2)
  | none => st
def escF (W : List (List Int)) : Nat → Int × Int → List Int
  | 0, _ => []
  | k + 1, st => (escStep c a ce l W k st).1 :: escF W k (escStep c a ce l W k st)
def manyI (frm h : Int) : Int := bisI (fun i => decide (nAt (rowN (withinF c a ce l) i.toNat) frm.toNat ≤ h)) 40 0 (withinF c a ce l).length
def escA (frm h : Int) : List Int := frm :: escF c a ce l (withinF c a ce l) (manyI c a ce l frm h).toNat (frm, h)
end
def EscD (c : Craft) (l : LandM) (a : AirW) (w frm h : Int) : D :=
  if startE c l a w (cellB l frm && rI h 0 20000) = 0 then
    (if manyI c a (ceilI c w) l frm h = ((withinF c a (ceilI c w) l).length : Int) then .tup [.nils, .int .i64 5] else .tup [.sl (intL (escA c a (ceilI c w) l frm h)), .int .i64 0])
  else .tup [.nils, .int .i64 (startE c l a w (cellB l frm && rI h 0 20000))]
set_option maxHeartbeats 1000000 in
theorem run_Escape_t (c : Craft) (hc : CraftL c) (l : LandM) (hl : LandL l) (a : AirW) (w frm h : Int) :
    Pure Try.prog 21 [.agg c.c, .agg l.c, .agg a.c, .int .i64 w, .int .i64 frm, .int .i64 h] (EscD c l a w frm h) := by
  have ps := run_start_t c hc l hl a w (cellB l frm && rI h 0 20000)
  have hz : ((0 : Int) != 0) = false := rfl
  have oc1 := gCe_eq hl frm
  unfold EscD
  by_cases h0 : startE c l a w (cellB l frm && rI h 0 20000) = 0
  rotate_left
  · rw [if_neg h0]
    simp only [startR, if_neg h0] at ps
    have hb : (startE c l a w (cellB l frm && rI h 0 20000) != 0) = true := by simpa using h0
    generalize startE c l a w (cellB l frm && rI h 0 20000) = E at *
    cases h1 : cellB l frm
    · rw [h1] at ps oc1
      simp only [Bool.false_and, Craft.c, LandM.c, grD, waD, AirW.c] at ps oc1 ⊢
      refine pure_of_wc (rs := [.tmp 12, .tmp 13]) (m := 87) [(1, [(17, false, true, [(16, 1), (15, 1), (14, 1), (12, 1), (11, 1), (10, 1), (8, 1), (7, 1), (5, 1)]), (1, false, false, [])]), (14, [(7, false, false, [])]), (15, [(10, false, false, [])])] e4_ok (by kernel_rfl) Try.func21 rfl (by kernel_rfl) rfl rfl (by kernel_rfl) ?_
      simp only [RT, FS, ↓RE, okR, argEnv, Nat.reduceAdd, Nat.reduceSub, Nat.reduceLT, Nat.reduceLeDiff, Nat.reduceEqDiff, reduceIte, RM, oc1]
      refine call_of_pure' ps (by simp [D.ltL, D.lt]) (by simp [D.ltL, D.lt]) ?_
      simp only [RT, FS, ↓RE, okR, argEnv, Nat.reduceAdd, Nat.reduceSub, Nat.reduceLT, Nat.reduceLeDiff, Nat.reduceEqDiff, reduceIte, RM, hb]
    · rw [h1] at ps oc1
      simp only [Bool.true_and, Craft.c, LandM.c, grD, waD, AirW.c] at ps oc1 ⊢
      refine pure_of_wc (rs := [.tmp 12, .tmp 13]) (m := 87) [(1, [(17, false, true, [(16, 1), (15, 1), (14, 1), (12, 1), (11, 1), (10, 1), (8, 1), (7, 1), (5, 1)]), (1, false, false, [])]), (14, [(7, false, false, [])]), (15, [(10, false, false, [])])] e4_ok (by kernel_rfl) Try.func21 rfl (by kernel_rfl) rfl rfl (by kernel_rfl) ?_
      simp only [RT, FS, ↓RE, okR, argEnv, Nat.reduceAdd, Nat.reduceSub, Nat.reduceLT, Nat.reduceLeDiff, Nat.reduceEqDiff, reduceIte, RM, oc1, gI3_eq]
      refine call_of_pure' ps (by simp [D.ltL, D.lt]) (by simp [D.ltL, D.lt]) ?_
      simp only [RT, FS, ↓RE, okR, argEnv, Nat.reduceAdd, Nat.reduceSub, Nat.reduceLT, Nat.reduceLeDiff, Nat.reduceEqDiff, reduceIte, RM, hb]
  obtain ⟨k1, k2, k3, k4, _⟩ := startE_ok hc hl h0
  simp only [Bool.and_eq_true] at k4
  rw [if_pos h0]
  simp only [startR, if_pos h0] at ps
  rw [h0, k4.1, k4.2] at ps
  rw [k4.1] at oc1
  have hq := k4.2
  have hfr := cellB_ok hl k4.1
  have hhb : 0 ≤ h ∧ h ≤ 20000 := by simpa [rI] using hq
  have pw := within_t c k1 l k2 a k3 (ceilI c w)
  have hWl := withinF_len c a (ceilI c w) k2
  have hWo := withinF_ok k1 k3 k2 (ceilI c w)
  unfold escA manyI
  generalize hce : ceilI c w = ce at *
  have pway := way_t c k1 l.wide l.deep (.sl (intL l.ground)) (.sl (boolL l.water)) l.clear a ce
  have pleft := fun s hs hh hb => left_t c k1 l.wide l.deep (.sl (intL l.ground)) (.sl (boolL l.water)) l.clear a k3 ce s hs hh hb
  have pseq := fun x hx => steps_seq c l.wide l.deep (.sl (intL l.ground)) (.sl (boolL l.water)) l.clear a ce k2.wide k2.deep x hx
  have pst := fun x => steps_t (flO c l a ce) x
  generalize hF : flO c l a ce = F at *
  rw [show flD c l.wide l.deep (.sl (intL l.ground)) (.sl (boolL l.water)) l.clear a ce = F from hF] at pway
  simp only [show flD c l.wide l.deep (.sl (intL l.ground)) (.sl (boolL l.water)) l.clear a ce = F from hF] at pleft pseq
  generalize hW : withinF c a ce l = W at *
  have hrow : ∀ i, i < W.length → (rowN W i).length = l.ground.length := fun i hi => (hWo _ (List.mem_of_getElem? (rowN_at hi))).len
  have hf := rfirstG_t 40 0 (W.length : Int) (by omega) (by omega) 74 [] [.ref [.sl (rowsD W)] 0, .ref [.int .i64 frm] 0, .ref [.int .i64 h] 0] (fun i => decide (nAt (rowN W i.toNat) frm.toNat ≤ h))
    (fun m => rfl) (fun m => rfl) (fun h i => rfl) (fun i h0 h1 => by
      have := escape1_t W frm h i.toNat (by omega) frm.toNat (by omega) (by rw [hrow i.toNat (by omega)]; omega)
      rw [show ((i.toNat : Nat) : Int) = i by omega] at this
      exact this)
  have hrg := bisI_range (fun i => decide (nAt (rowN W i.toNat) frm.toNat ≤ h)) 40 0 (W.length : Int) (by omega)
  generalize bisI (fun i => decide (nAt (rowN W i.toNat) frm.toNat ≤ h)) 40 0 (W.length : Int) = B at *
  simp only [Bool.and_self, Craft.c, LandM.c, grD, waD, AirW.c] at ps oc1 ⊢
  by_cases hB : B = (W.length : Int)
  · have hb1 : (B == (W.length : Int)) = true := by simpa using hB
    rw [if_pos hB]
    refine pure_of_wc (rs := [.tmp 12, .tmp 13]) (m := 87) [(1, [(17, false, true, [(16, 1), (15, 1), (14, 1), (12, 1), (11, 1), (10, 1), (8, 1), (7, 1), (5, 1)]), (1, false, false, [])]), (14, [(7, false, false, [])]), (15, [(10, false, false, [])])] e4_ok (by kernel_rfl) Try.func21 rfl (by kernel_rfl) rfl rfl (by kernel_rfl) ?_
    simp only [RT, FS, ↓RE, okR, argEnv, Nat.reduceAdd, Nat.reduceSub, Nat.reduceLT, Nat.reduceLeDiff, Nat.reduceEqDiff, reduceIte, RM, oc1, gI3_eq, hq]
    refine call_of_pure' ps (by simp [D.ltL, D.lt]) (by simp [D.ltL, D.lt]) ?_
    simp only [RT, FS, ↓RE, okR, argEnv, Nat.reduceAdd, Nat.reduceSub, Nat.reduceLT, Nat.reduceLeDiff, Nat.reduceEqDiff, reduceIte, RM, hz]
    refine call_of_pure' pw (by simp [D.ltL, D.lt]) (by simp [D.lt]) ?_
    simp only [RT, FS, ↓RE, okR, argEnv, Nat.reduceAdd, Nat.reduceSub, Nat.reduceLT, Nat.reduceLeDiff, Nat.reduceEqDiff, reduceIte, RM, rowsD_len]
    refine call_of_pure (by simpa [view, viewL, hget] using hf) rfl ?_
    simp only [RT, FS, ↓RE, okR, argEnv, Nat.reduceAdd, Nat.reduceSub, Nat.reduceLT, Nat.reduceLeDiff, Nat.reduceEqDiff, reduceIte, RM, rowsD_len, hb1]
  have hb1 : (B == (W.length : Int)) = false := by simpa using hB
  have w1 := wrap_i64 (z := B - 1) (by omega) (by omega)
  rw [if_neg hB]
  refine pure_of_wc (rs := [.tmp 12, .tmp 13]) (m := 87) [(1, [(17, false, true, [(16, 1), (15, 1), (14, 1), (12, 1), (11, 1), (10, 1), (8, 1), (7, 1), (5, 1)]), (1, false, false, [])]), (14, [(7, false, false, [])]), (15, [(10, false, false, [])])] e4_ok (by kernel_rfl) Try.func21 rfl (by kernel_rfl) rfl rfl (by kernel_rfl) ?_
  simp only [RT, FS, ↓RE, okR, argEnv, Nat.reduceAdd, Nat.reduceSub, Nat.reduceLT, Nat.reduceLeDiff, Nat.reduceEqDiff, reduceIte, RM, oc1, gI3_eq, hq]
  refine call_of_pure' ps (by simp [D.ltL, D.lt]) (by simp [D.ltL, D.lt]) ?_
  simp only [RT, FS, ↓RE, okR, argEnv, Nat.reduceAdd, Nat.reduceSub, Nat.reduceLT, Nat.reduceLeDiff, Nat.reduceEqDiff, reduceIte, RM, hz]
  refine call_of_pure' pw (by simp [D.ltL, D.lt]) (by simp [D.lt]) ?_
  simp only [RT, FS, ↓RE, okR, argEnv, Nat.reduceAdd, Nat.reduceSub, Nat.reduceLT, Nat.reduceLeDiff, Nat.reduceEqDiff, reduceIte, RM, rowsD_len]
  refine call_of_pure (by simpa [view, viewL, hget] using hf) rfl ?_
  simp only [RT, FS, ↓RE, okR, argEnv, Nat.reduceAdd, Nat.reduceSub, Nat.reduceLT, Nat.reduceLeDiff, Nat.reduceEqDiff, reduceIte, RM, rowsD_len, hb1, w1]
  have hBn : ((B.toNat : Nat) : Int) = B := by omega
  generalize hR : frm :: escF c a ce l W B.toNat (frm, h) = R
  refine loopN (ι := Nat × List Int × Int × Int) e4_ok [(1, [(17, false, true, [(16, 1), (15, 1), (14, 1), (12, 1), (11, 1), (10, 1), (8, 1), (7, 1), (5, 1)]), (1, false, false, [])]), (14, [(7, false, false, [])]), (15, [(10, false, false, [])])] (fun s => [(10, .ptr 3 0), (11, .ptr 4 0), (14, .ptr 5 0), (16, .ptr 6 0), (18, .osl 7 s.2.1.length), (19, .ptr 8 0)])
    (fun s => [(8, .box [.int .i64 ((s.1 : Int) - 1)]), (7, .arr 3 1 (intL s.2.1)), (6, .box [.sl (rowsD W)]), (5, .box [.ref F 0]), (4, .box [.int .i64 s.2.2.2]), (3, .box [.int .i64 s.2.2.1])]) (fun _ => 9)
    (fun s => s.1 ≤ W.length ∧ (0 ≤ s.2.2.1 ∧ s.2.2.1 < (l.ground.length : Int)) ∧ (0 ≤ s.2.2.2 ∧ s.2.2.2 ≤ 20000) ∧ s.2.1.length + s.1 ≤ W.length + 1 ∧ s.2.1 ++ escF c a ce l W s.1 s.2.2 = R) (fun s => s.1) (B.toNat, [frm], frm, h) (by kernel_rfl) (by kernel_rfl)
    ⟨by omega, hfr, hhb, by simp; omega, by simpa using hR⟩ ?_ ?_
  · refine .weak (weak_of ?_)
    simp [headW, heapW, envW, blkLt, D.ltL, D.lt, look, hget, hBn, intL, enI]
  rintro ⟨j, out, x, y⟩ ⟨hj, hx, hy, hlen, htot⟩
  dsimp only at hj hx hy hlen htot ⊢
  cases j with
  | zero =>
    have hg : decide ((((0 : Nat) : Int) - 1) ≥ 0) = false := rfl
    have hg' : decide ((0 : Int) ≤ (((0 : Nat) : Int) - 1)) = false := rfl
    simp only [RT, FS, ↓RE, okR, argEnv, Nat.reduceAdd, Nat.reduceSub, Nat.reduceLT, Nat.reduceLeDiff, Nat.reduceEqDiff, reduceIte, RM, hg, hg']
    simp only [escF, List.append_nil] at htot
    subst htot
    simp [viewA, intL_len]
  | succ j =>
  have hk : ((j + 1 : Nat) : Int) - 1 = (j : Int) := by omega
  have hg' : decide ((0 : Int) ≤ (j : Int)) = true := by simp
  have wk := wrap_i64 (z := (j : Int) - 1) (by omega) (by omega)
  simp only [hk]
  simp only [RT, FS, ↓RE, okR, argEnv, Nat.reduceAdd, Nat.reduceSub, Nat.reduceLT, Nat.reduceLeDiff, Nat.reduceEqDiff, reduceIte, RM, hg']
  refine call_of_pure' (pst x) (by simp [D.ltL, D.lt]) (by simp [D.ltL, D.lt]) ?_
  simp only [RT, FS, ↓RE, okR, argEnv, Nat.reduceAdd, Nat.reduceSub, Nat.reduceLT, Nat.reduceLeDiff, Nat.reduceEqDiff, reduceIte, RM]
  simp only [escF] at htot
  have hjr := hrow j (by omega)
  refine rangeQ (α := StpIn l.wide l.deep x) oNone_ok [(1, [(17, false, true, [(16, 1), (15, 1), (14, 1), (12, 1), (11, 1), (10, 1), (8, 1), (7, 1), (5, 1)]), (1, false, false, [])]), (14, [(7, false, false, [])]), (15, [(10, false, false, [])])] (by kernel_rfl) (by kernel_rfl) (by kernel_rfl) (pseq x ⟨hx.1, by have := k2.small; omega⟩) (by kernel_rfl) (fun _ => rfl) (fun R n x => stp_enc R n x.1) (by simp [D.ltL, D.lt])
    [(10, .ptr 3 0), (11, .ptr 4 0), (14, .ptr 5 0), (16, .ptr 6 0), (18, .osl 7 out.length), (19, .ptr 8 0), (60, .fn (.func 115) [] [.ref [.int .i64 x] 0, .ref [.ref F 0] 0])]
    (fun _ => [(8, .box [.int .i64 (j : Int)]), (7, .arr 3 1 (intL out)), (6, .box [.sl (rowsD W)]), (5, .box [.ref F 0]), (4, .box [.int .i64 y]), (3, .box [.int .i64 x])]) 9 (fun pre => ∀ s ∈ pre, okS c a ce W j y s.1 = false) (fun s hs => by cases hs) rfl (fun _ => rfl) ?_ ?_ ?_
  · simp [headW, heapW, envW, blkLt, D.ltL, D.lt, look, hget]
  · intro lo pr s hI hlen'
    have hsi : s.1.cell.toNat < l.ground.length ∧ ((s.1.cell.toNat : Nat) : Int) = s.1.cell ∧ DirOk s.1 := by
      obtain ⟨i, rfl⟩ : ∃ i : Nat, x = i := ⟨x.toNat, by omega⟩
      exact steps_in k2 (i := i) (by omega) s.2
    obtain ⟨k, hkk⟩ : ∃ k, k = s.1.cell.toNat := ⟨_, rfl⟩
    have hkx : s.1.cell = (k : Int) := by omega
    have hrx := sR_ix (rowN_at (W := W) (k := j) (by omega))
    have hcx : (rowN W j)[k]? = some (nAt (rowN W j) k) := by
      have : k < (rowN W j).length := by omega
      simp [nAt, this]
    have hix := sI_ix hcx
    have hro := (hWo _ (List.mem_of_getElem? (rowN_at (W := W) (k := j) (by omega)))).b k (by omega)
    have hlb := leftF_b k1 k3 hsi.2.2 ce y
    have pl := pleft s.1 hsi.2.2 y (by omega)
    have hsnoc : okS c a ce W j y s.1 = false → ∀ t ∈ pr ++ [s], okS c a ce W j y t.1 = false := fun hb t ht => by
      rcases List.mem_append.1 ht with h' | h'
      · exact hI t h'
      · simp at h'; subst h'; exact hb
    have hoe : okS c a ce W j y s.1 = decide (nAt (rowN W j) k ≤ leftF c a ce s.1 y) := by simp only [okS, hkk]
    have hpm : pr ++ [s] <+: (stepsL l.wide l.deep x).attach → okS c a ce W j y s.1 = true → escStep c a ce l W j (x, y) = (s.1.cell, leftF c a ce s.1 y) := fun hpre hok => by
      have hp1 : (pr.map (·.1)) ++ [s.1] <+: stepsL l.wide l.deep x := by
        have := hpre.map (·.1)
        rw [List.map_append] at this
        have hmap : ((stepsL l.wide l.deep x).attach.map (·.1)) = stepsL l.wide l.deep x := List.attach_map_subtype_val _
        rw [hmap] at this
        exact this
      have hfd := find_pre hp1 (fun t ht => by
        obtain ⟨z, hz, rfl⟩ := List.mem_map.1 ht
        exact hI z hz) hok
      simp [escStep, hfd]
    obtain ⟨⟨xc, xdx, xdy⟩, hxm⟩ := s
    dsimp only at hkx hsi hkk hlb hpm hoe
    simp only [Stp.c] at pl
    subst hkx
    generalize hLf : leftF c a ce ⟨(k : Int), xdx, xdy⟩ y = Lf at *
    cases hok : okS c a ce W j y ⟨(k : Int), xdx, xdy⟩
    · rw [hok] at hoe
      have hge : decide (Lf ≥ nAt (rowN W j) k) = false := hoe.symm
      simp only [RT, FS, ↓RE, okR, argEnv, Nat.reduceAdd, Nat.reduceSub, Nat.reduceLT, Nat.reduceLeDiff, Nat.reduceEqDiff, reduceIte, RM, pe_cons, pe_nil, Array.toList, stpD, Stp.c]
      refine call_of_pure' pway (by simp [D.ltL, D.lt]) (by simp [D.ltL, D.lt]) ?_
      simp only [RT, FS, ↓RE, okR, argEnv, Nat.reduceAdd, Nat.reduceSub, Nat.reduceLT, Nat.reduceLeDiff, Nat.reduceEqDiff, reduceIte, RM]
      refine call_of_pure pl rfl ?_
      simp only [RT, FS, ↓RE, okR, argEnv, Nat.reduceAdd, Nat.reduceSub, Nat.reduceLT, Nat.reduceLeDiff, Nat.reduceEqDiff, reduceIte, RM, hrx, hix, ← hoe]
      refine ⟨hsnoc hok, ?_⟩
      simp [headW, heapW, envW, blkLt, D.ltL, D.lt, look, hget]
    · rw [hok] at hoe
      have hle3 : nAt (rowN W j) k ≤ Lf := by simpa using hoe.symm
      have a7 := fun h nid (hb : hget h 7 = some (.arr 3 1 (intL out))) (hb2 : hget h 10 = some (.arr 3 1 [[.int .i64 (k : Int)]])) => oI_app (n := out.length) (n2 := 1) (r := [(k : Int)]) hb rfl hb2 rfl nid (by simp; omega)
      simp only [RT, FS, ↓RE, okR, argEnv, Nat.reduceAdd, Nat.reduceSub, Nat.reduceLT, Nat.reduceLeDiff, Nat.reduceEqDiff, reduceIte, RM, pe_cons, pe_nil, Array.toList, stpD, Stp.c]
      refine call_of_pure' pway (by simp [D.ltL, D.lt]) (by simp [D.ltL, D.lt]) ?_
      simp only [RT, FS, ↓RE, okR, argEnv, Nat.reduceAdd, Nat.reduceSub, Nat.reduceLT, Nat.reduceLeDiff, Nat.reduceEqDiff, reduceIte, RM]
      refine call_of_pure pl rfl ?_
      simp only [RT, FS, ↓RE, okR, argEnv, Nat.reduceAdd, Nat.reduceSub, Nat.reduceLT, Nat.reduceLeDiff, Nat.reduceEqDiff, reduceIte, RM, hrx, hix, ← hoe, a7, intL_len, List.length_append, List.length_cons, List.length_nil, decide_true, wk]
      refine ⟨rfl, fun hpre => ?_⟩
      have hst := hpm hpre hok
      refine ⟨(j, out ++ [(k : Int)], (k : Int), Lf), ⟨by omega, by simp only; omega, by simp only; omega, by simp; omega, by rw [← htot, hst]; simp⟩, by simp only; omega, ?_⟩
      refine (Imp.weak (weak_of (e := [(10, .ptr 3 0), (11, .ptr 4 0), (14, .ptr 5 0), (16, .ptr 6 0), (18, .osl 7 (out.length + 1)), (19, .ptr 11 0)])
        (h := [(11, .box [.int .i64 ((j : Int) - 1)]), (7, .arr 3 1 (intL (out ++ [(k : Int)]))), (6, .box [.sl (rowsD W)]), (5, .box [.ref F 0]), (4, .box [.int .i64 (Lf)]), (3, .box [.int .i64 ((k : Int))])]) (nid := 11 + 1) (n := 87) ?_)).trans (imp_move 11 8 (bi := .box [.int .i64 ((j : Int) - 1)]) (by omega) rfl rfl (by omega) (by omega) ?_ ?_ (.weak (weak_of ?_)))
      · simp [headW, heapW, envW, blkLt, D.ltL, D.lt, look, hget]
      · simp [okMB, okM, D.lt]
      · simp [okM, D.lt]
      · simp [headW, heapW, envW, blkLt, D.ltL, D.lt, look, hget, mvH, mvB, mvD]
  · intro xs hxs hI
    subst hxs
    have hst : escStep c a ce l W j (x, y) = (x, y) := by
      have : (stepsL l.wide l.deep x).find? (okS c a ce W j y) = none := by
        rw [List.find?_eq_none]
        intro s hs
        rw [hI ⟨s, hs⟩ (List.mem_attach _ _)]
        simp
      simp [escStep, this]
    have a7 := fun h nid (hb : hget h 7 = some (.arr 3 1 (intL out))) (hb2 : hget h 9 = some (.arr 3 1 [[.int .i64 x]])) => oI_app (n := out.length) (n2 := 1) (r := [x]) hb rfl hb2 rfl nid (by simp; omega)
    simp only [RT, FS, ↓RE, okR, argEnv, Nat.reduceAdd, Nat.reduceSub, Nat.reduceLT, Nat.reduceLeDiff, Nat.reduceEqDiff, reduceIte, RM, a7, intL_len, List.length_append, List.length_cons, List.length_nil, decide_true, wk]
    refine ⟨(j, out ++ [x], x, y), ⟨by omega, hx, hy, by simp; omega, by rw [← htot, hst]; simp⟩, by simp only; omega, ?_⟩
    refine (Imp.weak (weak_of (e := [(10, .ptr 3 0), (11, .ptr 4 0), (14, .ptr 5 0), (16, .ptr 6 0), (18, .osl 7 (out.length + 1)), (19, .ptr 10 0)])
      (h := [(10, .box [.int .i64 ((j : Int) - 1)]), (7, .arr 3 1 (intL (out ++ [x]))), (6, .box [.sl (rowsD W)]), (5, .box [.ref F 0]), (4, .box [.int .i64 (y)]), (3, .box [.int .i64 (x)])]) (nid := 10 + 1) (n := 87) ?_)).trans (imp_move 10 8 (bi := .box [.int .i64 ((j : Int) - 1)]) (by omega) rfl rfl (by omega) (by omega) ?_ ?_ (.weak (weak_of ?_)))
    · simp [headW, heapW, envW, blkLt, D.ltL, D.lt, look, hget]
    · simp [okMB, okM, D.lt]
    · simp [okM, D.lt]
    · simp [headW, heapW, envW, blkLt, D.ltL, D.lt, look, hget, mvH, mvB, mvD]
end Go.Sx

namespace Go.Sx
open Go.Proofs
set_option maxRecDepth 10000

theorem same_t (a b : List Int) (ha : a.length ≤ 1000000000000) : Pure Try.prog 35 [.sl (intL a), .sl (intL b)] (.bool (decide (a = b))) := by
  by_cases hlen : a.length = b.length
  rotate_left
  · have hc : ((a.length : Int) != (b.length : Int)) = true := by simp; omega
    have hab : a ≠ b := fun e => hlen (by rw [e])
    refine pure_of_wc (rs := [.tmp 4]) (m := 26) [(6, [(9, false, false, [])])] oNone_ok (by kernel_rfl) Try.func35 rfl (by kernel_rfl) rfl rfl (by kernel_rfl) ?_
    simp only [RT, FS, ↓RE, okR, argEnv, Nat.reduceAdd, Nat.reduceSub, Nat.reduceLT, Nat.reduceLeDiff, Nat.reduceEqDiff, reduceIte, intL_len, hc]
    simp [hab]
  have hc : ((a.length : Int) != (b.length : Int)) = false := by simp; omega
  refine pure_of_wc (rs := [.tmp 4]) (m := 26) [(6, [(9, false, false, [])])] oNone_ok (by kernel_rfl) Try.func35 rfl (by kernel_rfl) rfl rfl (by kernel_rfl) ?_
  simp only [RT, FS, ↓RE, okR, argEnv, Nat.reduceAdd, Nat.reduceSub, Nat.reduceLT, Nat.reduceLeDiff, Nat.reduceEqDiff, reduceIte, intL_len, hc]
  refine loopV (ι := Nat) oNone_ok [(6, [(9, false, false, [])])] (fun i => [(0, .sl (intL a)), (1, .sl (intL b)), (5, .int .i64 (i : Int))])
    (fun i => []) 0 (fun i => i ≤ a.length ∧ a.take i = b.take i) (fun i => a.length - i) 0 (by kernel_rfl) (by kernel_rfl) ⟨Nat.zero_le _, by simp⟩ ?_ ?_
  · simp [headW, heapW, envW, blkLt, D.ltL, D.lt, look, hget]
  rintro i ⟨hi, he⟩
  rcases Nat.lt_or_ge i a.length with hlt | hge
  rotate_left
  · have hq : ((i : Int) < (a.length : Int)) = False := by simp; omega
    have hab : a = b := by
      rw [List.take_of_length_le (by omega), List.take_of_length_le (by omega)] at he; exact he
    simp only [RT, FS, ↓RE, okR, argEnv, Nat.reduceAdd, Nat.reduceSub, Nat.reduceLT, Nat.reduceLeDiff, Nat.reduceEqDiff, reduceIte, intL_len, hq, decide_false]
    simp [hab]
  have hq : ((i : Int) < (a.length : Int)) = True := by simp [hlt]
  obtain ⟨x, hx⟩ : ∃ x, a[i]? = some x := ⟨a[i], by simp [hlt]⟩
  obtain ⟨y, hy⟩ : ∃ y, b[i]? = some y := ⟨b[i]'(by omega), by simp⟩
  have ix := sI_ix hx
  have iy := sI_ix hy
  have hw := wrap_i64 (z := (i : Int) + 1) (by omega) (by omega)
  by_cases hxy : x = y
  · have hc2 : (x != y) = false := by simpa using hxy
    simp only [RT, FS, ↓RE, okR, argEnv, Nat.reduceAdd, Nat.reduceSub, Nat.reduceLT, Nat.reduceLeDiff, Nat.reduceEqDiff, reduceIte, intL_len, hq, decide_true, ix, iy, hc2, hw]
    exact ⟨i + 1, ⟨by omega, by rw [List.take_add_one, List.take_add_one, hx, hy, he, hxy]⟩, by omega, by simp [headW, heapW, envW, blkLt, D.ltL, D.lt, look, hget]⟩
  · have hc2 : (x != y) = true := by simpa using hxy
    have hab : a ≠ b := fun e => hxy (by rw [e, hy] at hx; exact (Option.some.inj hx).symm)
    simp only [RT, FS, ↓RE, okR, argEnv, Nat.reduceAdd, Nat.reduceSub, Nat.reduceLT, Nat.reduceLeDiff, Nat.reduceEqDiff, reduceIte, intL_len, hq, decide_true, ix, iy, hc2, hw]
    simp [hab]

/-! The examples -/
def cK : Craft := ⟨[⟨2500, 300⟩, ⟨3000, 420⟩, ⟨3500, 600⟩], [⟨3500, 500⟩], 5, 40, 1300, 1200, 2, 5, 1, 100, 2, [⟨3000, 200⟩, ⟨4000, 120⟩], 30⟩
def lK : LandM := ⟨4, 1, [0, 100, 300, 0], [true, false, false, false], 50⟩
def aK : AirW := ⟨⟨-10, 20⟩, ⟨0, 0⟩⟩
theorem cK_l : CraftL cK := ⟨by decide, by decide, by decide⟩
theorem lK_l : LandL lK := ⟨by decide, by decide⟩
theorem lawCraft_t : Pure Try.prog 65 [] (.agg cK.c) := by
  have l3 : ∀ h nid, litOpD Try.prog h nid 22 3 [(0, .agg [.int .i64 2500, .int .i64 300]), (1, .agg [.int .i64 3000, .int .i64 420]), (2, .agg [.int .i64 3500, .int .i64 600])] = some (.osl nid 3, (nid, .arr 146 2 [[.int .i64 2500, .int .i64 300], [.int .i64 3000, .int .i64 420], [.int .i64 3500, .int .i64 600]]) :: h, nid + 1) := fun h nid => by kernel_rfl
  have l1 : ∀ h nid, litOpD Try.prog h nid 22 1 [(0, .agg [.int .i64 3500, .int .i64 500])] = some (.osl nid 1, (nid, .arr 146 2 [[.int .i64 3500, .int .i64 500]]) :: h, nid + 1) := fun h nid => by kernel_rfl
  have l2 : ∀ h nid, litOpD Try.prog h nid 22 2 [(0, .agg [.int .i64 3000, .int .i64 200]), (1, .agg [.int .i64 4000, .int .i64 120])] = some (.osl nid 2, (nid, .arr 146 2 [[.int .i64 3000, .int .i64 200], [.int .i64 4000, .int .i64 120]]) :: h, nid + 1) := fun h nid => by kernel_rfl
  refine pure_of_wc (rs := [.cell 0 24]) (m := 11) [] oNone_ok (by kernel_rfl) Try.func65 rfl (by kernel_rfl) rfl rfl (by kernel_rfl) ?_
  simp only [RT, FS, ↓RE, okR, argEnv, Nat.reduceAdd, Nat.reduceSub, Nat.reduceLT, Nat.reduceLeDiff, Nat.reduceEqDiff, reduceIte, RM, l3, l1, l2]
  rfl
theorem lawLand_t : Pure Try.prog 66 [] (.agg lK.c) := by
  have l1 : ∀ h nid, litOpD Try.prog h nid 25 4 [(0, .int .i64 0), (1, .int .i64 100), (2, .int .i64 300), (3, .int .i64 0)] = some (.osl nid 4, (nid, .arr 3 1 (intL [0, 100, 300, 0])) :: h, nid + 1) := fun h nid => by kernel_rfl
  have l2 : ∀ h nid, litOpD Try.prog h nid 26 4 [(0, .bool true), (1, .bool false), (2, .bool false), (3, .bool false)] = some (.osl nid 4, (nid, .arr 4 1 (boolL [true, false, false, false])) :: h, nid + 1) := fun h nid => by kernel_rfl
  refine pure_of_wc (rs := [.cell 0 28]) (m := 4) [] oNone_ok (by kernel_rfl) Try.func66 rfl (by kernel_rfl) rfl rfl (by kernel_rfl) ?_
  simp only [RT, FS, ↓RE, okR, argEnv, Nat.reduceAdd, Nat.reduceSub, Nat.reduceLT, Nat.reduceLeDiff, Nat.reduceEqDiff, reduceIte, RM, l1, l2]
  rfl
theorem lawAir_t : Pure Try.prog 67 [] (.agg aK.c) := by
  refine pure_of_wc (rs := [.cell 0 32]) (m := 3) [] oNone_ok (by kernel_rfl) Try.func67 rfl (by kernel_rfl) rfl rfl (by kernel_rfl) ?_
  simp only [RT, FS, ↓RE, okR, argEnv, Nat.reduceAdd, Nat.reduceSub, Nat.reduceLT, Nat.reduceLeDiff, Nat.reduceEqDiff, reduceIte, RM]
  rfl
theorem kBounds : BoundsR cK 1 ⟨2400, 2600⟩ ⟨-20, 10⟩ ⟨3, 10⟩ = (⟨260, 596⟩, 0) := by kernel_rfl
theorem kNeeds : NeedsR cK lK aK 3000 = .tup [.sl (intL [0, 150, 350, 490]), .int .i64 0] := by kernel_rfl
theorem kEsc : EscD cK lK aK 3000 3 490 = .tup [.sl (intL [3, 2, 1, 0]), .int .i64 0] := by kernel_rfl
theorem kWay : WayD cK lK aK 3000 2 0 400 = .tup [.sl (intL [2, 1, 0]), .int .i64 20, .int .i64 0] := by kernel_rfl
theorem kLow : LowestR cK lK aK 3000 3 0 = (490, 0) := by kernel_rfl
end Go.Sx

namespace Go.Sx
open Go.Proofs
set_option maxRecDepth 10000

/-! The oracle of constants, and known -/
noncomputable def cstO (a : List D) (r : D) : List D → Option D := orcF (fun _ : Unit => True) (fun _ => a) (fun _ => r)
theorem cstO_eq (a : List D) (r : D) : cstO a r a = some r := orcF_eq (α := Unit) (ok := fun _ => True) (dsf := fun _ => a) (rf := fun _ => r) () trivial (fun _ _ => rfl)
theorem cstO_ok {P : Program} {f : FuncId} {a : List D} {r : D} (h : Pure P f a r) (ds : List D) (s : D) (hs : cstO a r ds = some s) : Pure P f ds s := orcF_ok (fun _ _ => h) ds s hs
noncomputable abbrev gSame : List D → Option D := orcF (fun p : List Int × List Int => p.1.length ≤ 1000000000000) (fun p => [.sl (intL p.1), .sl (intL p.2)]) (fun p => .bool (decide (p.1 = p.2)))
theorem intL_inj {a b : List Int} (h : intL a = intL b) : a = b := map_inj (f := fun x => [D.int .i64 x]) (fun a b h => by simpa using h) h
theorem gSame_eq (a b : List Int) (h : a.length ≤ 1000000000000) : gSame [.sl (intL a), .sl (intL b)] = some (.bool (decide (a = b))) :=
  orcF_eq (ok := fun p : List Int × List Int => p.1.length ≤ 1000000000000) (dsf := fun p => [.sl (intL p.1), .sl (intL p.2)]) (rf := fun p => .bool (decide (p.1 = p.2))) (a, b) h (fun q hq => by
    simp only [List.cons.injEq, D.sl.injEq, and_true] at hq
    rw [intL_inj hq.1, intL_inj hq.2])
noncomputable def cD : List D := cK.c
noncomputable def lD : List D := lK.c
noncomputable def aD : List D := aK.c
theorem cD_lt : ∀ m, D.ltL m cD = true := fun m => by simp [cD, Craft.c, D.ltL, D.lt]
theorem lD_lt : ∀ m, D.ltL m lD = true := fun m => by simp [lD, LandM.c, grD, waD, D.ltL, D.lt]
theorem aD_lt : ∀ m, D.ltL m aD = true := fun m => by simp [aD, AirW.c, D.ltL, D.lt]
noncomputable abbrev e5 : List (FuncId × (List D → Option D)) :=
  (65, cstO [] (.agg cD)) :: (66, cstO [] (.agg lD)) :: (67, cstO [] (.agg aD)) ::
  (43, cstO [.agg cD, .int .i64 1, .agg [.int .i64 2400, .int .i64 2600], .agg [.int .i64 (-20), .int .i64 10], .agg [.int .i64 3, .int .i64 10]] (.tup [.agg [.int .i64 260, .int .i64 596], .int .i64 0])) ::
  (20, cstO [.agg cD, .agg lD, .agg aD, .int .i64 3000] (.tup [.sl (intL [0, 150, 350, 490]), .int .i64 0])) ::
  (21, cstO [.agg cD, .agg lD, .agg aD, .int .i64 3000, .int .i64 3, .int .i64 490] (.tup [.sl (intL [3, 2, 1, 0]), .int .i64 0])) ::
  (29, cstO [.agg cD, .agg lD, .agg aD, .int .i64 3000, .int .i64 2, .int .i64 0, .int .i64 400] (.tup [.sl (intL [2, 1, 0]), .int .i64 20, .int .i64 0])) ::
  (32, cstO [.agg cD, .agg lD, .agg aD, .int .i64 3000, .int .i64 3, .int .i64 0] (.tup [.int .i64 490, .int .i64 0])) :: (35, gSame) :: []
theorem e5_ok : OkO Try.prog (mkO e5) :=
  mkO_ok (cstO_ok lawCraft_t) <| mkO_ok (cstO_ok lawLand_t) <| mkO_ok (cstO_ok lawAir_t) <|
  mkO_ok (cstO_ok (by have h := run_Bounds_t cK cK_l 1 ⟨2400, 2600⟩ ⟨-20, 10⟩ ⟨3, 10⟩; rw [kBounds] at h; exact h)) <|
  mkO_ok (cstO_ok (by have h := run_Needs_t cK cK_l lK lK_l aK 3000; rw [kNeeds] at h; exact h)) <|
  mkO_ok (cstO_ok (by have h := run_Escape_t cK cK_l lK lK_l aK 3000 3 490; rw [kEsc] at h; exact h)) <|
  mkO_ok (cstO_ok (by have h := run_Way_t cK cK_l lK lK_l aK 3000 2 0 400; rw [kWay] at h; exact h)) <|
  mkO_ok (cstO_ok (by have h := run_Lowest_t cK cK_l lK lK_l aK 3000 3 0; rw [kLow] at h; exact h)) <|
  mkO_ok (orcF_ok fun p h => same_t p.1 p.2 h) <| fun _ _ _ h => by cases h
theorem cD_v : ∀ h, viewL h cD = cD := fun h => viewL_old h (cD_lt 0)
theorem lD_v : ∀ h, viewL h lD = lD := fun h => viewL_old h (lD_lt 0)
theorem aD_v : ∀ h, viewL h aD = aD := fun h => viewL_old h (aD_lt 0)
theorem known_t : Pure Try.prog 19 [] (.bool true) := by
  have ek : binD Try.prog .eql 30 (.agg [.int .i64 260, .int .i64 596]) (.agg [.int .i64 260, .int .i64 596]) = some (.bool true) := by kernel_rfl
  have q1 : ((20 : Int) == 20) = true := rfl
  have q2 : ((490 : Int) == 490) = true := rfl
  have t1 : ∀ l : List Int, decide (l = l) = true := fun l => by simp
  have v1 : viewA 4 (some (.arr 3 1 (intL [0, 150, 350, 490]))) = .sl (intL [0, 150, 350, 490]) := (rfl)
  have v2 : viewA 4 (some (.arr 3 1 (intL [3, 2, 1, 0]))) = .sl (intL [3, 2, 1, 0]) := (rfl)
  have v3 : viewA 3 (some (.arr 3 1 (intL [2, 1, 0]))) = .sl (intL [2, 1, 0]) := (rfl)
  have hz : ((0 : Int) != 0) = false := rfl
  have gs1 := gSame_eq [0, 150, 350, 490] [0, 150, 350, 490] (by decide)
  have gs2 := gSame_eq [3, 2, 1, 0] [3, 2, 1, 0] (by decide)
  have gs3 := gSame_eq [2, 1, 0] [2, 1, 0] (by decide)
  have l4 : ∀ h nid, litOpD Try.prog h nid 25 4 [(0, .int .i64 0), (1, .int .i64 150), (2, .int .i64 350), (3, .int .i64 490)] = some (.osl nid 4, (nid, .arr 3 1 (intL [0, 150, 350, 490])) :: h, nid + 1) := fun h nid => by kernel_rfl
  have l5 : ∀ h nid, litOpD Try.prog h nid 25 4 [(0, .int .i64 3), (1, .int .i64 2), (2, .int .i64 1), (3, .int .i64 0)] = some (.osl nid 4, (nid, .arr 3 1 (intL [3, 2, 1, 0])) :: h, nid + 1) := fun h nid => by kernel_rfl
  have l6 : ∀ h nid, litOpD Try.prog h nid 25 3 [(0, .int .i64 2), (1, .int .i64 1), (2, .int .i64 0)] = some (.osl nid 3, (nid, .arr 3 1 (intL [2, 1, 0])) :: h, nid + 1) := fun h nid => by kernel_rfl
  refine pure_of_pieces (rs := [.tmp 0]) (m := 93) [] e5_ok (by kernel_rfl) Try.func19 rfl (by kernel_rfl) rfl rfl (by kernel_rfl) ?_
  refine awp_peel (T := []) e5_ok (by kernel_rfl) (by kernel_rfl) ?_
  simp only [RT, FS, ↓RE, okR, argEnv, Nat.reduceAdd, Nat.reduceSub, Nat.reduceLT, Nat.reduceLeDiff, Nat.reduceEqDiff, reduceIte, RM, cstO_eq, cD_lt, lD_lt, aD_lt, cD_v, lD_v, aD_v]
  refine awp_peel (T := []) e5_ok (by kernel_rfl) (by kernel_rfl) ?_
  simp only [RT, FS, ↓RE, okR, argEnv, Nat.reduceAdd, Nat.reduceSub, Nat.reduceLT, Nat.reduceLeDiff, Nat.reduceEqDiff, reduceIte, RM, cstO_eq, cD_lt, lD_lt, aD_lt, cD_v, lD_v, aD_v]
  refine awp_peel (T := []) e5_ok (by kernel_rfl) (by kernel_rfl) ?_
  simp only [RT, FS, ↓RE, okR, argEnv, Nat.reduceAdd, Nat.reduceSub, Nat.reduceLT, Nat.reduceLeDiff, Nat.reduceEqDiff, reduceIte, RM, cstO_eq, cD_lt, lD_lt, aD_lt, cD_v, lD_v, aD_v]
  refine awp_peel (T := []) e5_ok (by kernel_rfl) (by kernel_rfl) ?_
  simp only [RT, FS, ↓RE, okR, argEnv, Nat.reduceAdd, Nat.reduceSub, Nat.reduceLT, Nat.reduceLeDiff, Nat.reduceEqDiff, reduceIte, RM, cstO_eq, cD_lt, lD_lt, aD_lt, cD_v, lD_v, aD_v]
  refine awp_peel (T := []) e5_ok (by kernel_rfl) (by kernel_rfl) ?_
  simp only [RT, FS, ↓RE, okR, argEnv, Nat.reduceAdd, Nat.reduceSub, Nat.reduceLT, Nat.reduceLeDiff, Nat.reduceEqDiff, reduceIte, RM, cstO_eq, cD_lt, lD_lt, aD_lt, cD_v, lD_v, aD_v]
  refine awp_peel (T := []) e5_ok (by kernel_rfl) (by kernel_rfl) ?_
  simp only [RT, FS, ↓RE, okR, argEnv, Nat.reduceAdd, Nat.reduceSub, Nat.reduceLT, Nat.reduceLeDiff, Nat.reduceEqDiff, reduceIte, RM, cstO_eq, cD_lt, lD_lt, aD_lt, cD_v, lD_v, aD_v]
  refine awp_peel (T := []) e5_ok (by kernel_rfl) (by kernel_rfl) ?_
  simp only [RT, FS, ↓RE, okR, argEnv, Nat.reduceAdd, Nat.reduceSub, Nat.reduceLT, Nat.reduceLeDiff, Nat.reduceEqDiff, reduceIte, RM, cstO_eq, cD_lt, lD_lt, aD_lt, cD_v, lD_v, aD_v, hz]
  refine awp_rest (T := []) e5_ok (by kernel_rfl) (by kernel_rfl) ?_
  simp only [RT, FS, ↓RE, okR, argEnv, Nat.reduceAdd, Nat.reduceSub, Nat.reduceLT, Nat.reduceLeDiff, Nat.reduceEqDiff, reduceIte, RM, ek, q1, q2, t1, gs1, gs2, gs3, l4, l5, l6, v1, v2, v3]
  simp [BR]
end Go.Sx
