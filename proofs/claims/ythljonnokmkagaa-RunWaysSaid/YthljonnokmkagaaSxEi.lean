/- Own work: a calculus of contracts for the programs of this kit: parts SxE52r, SxE55r. -/
import Derived.Test.YthljonnokmkagaaSxEh
set_option linter.unusedVariables false
set_option linter.unusedSimpArgs false
namespace Go.Sx
open Go.Proofs
set_option maxRecDepth 10000

/-! Rounds without end -/
section
variable {c : Craft} {a : AirW} {l : LandM} (hl : LandOk l) (ce : Int)
include hl
end
/-- Less is needed: wind that is known better, more water, less clearance. -/
structure Eased (c : Craft) (a a' : AirW) (l l' : LandM) : Prop where
  wide : l'.wide = l.wide
  deep : l'.deep = l.deep
  ground : l'.ground = l.ground
  water : ∀ i, wAt l i = true → wAt l' i = true
  clear : l'.clear ≤ l.clear
  loss : ∀ s, DirOk s → (lostI c a' s).hi ≤ (lostI c a s).hi
end Go.Sx

namespace Go.Sx
open Go.Proofs
set_option maxRecDepth 10000

/-! The direction to a neighbour -/
def wayN (l : LandM) (f t : Int) : Option Nat := (List.range 8).find? fun j => nextI l f ((j : Int) + 1) == t
def wayF (l : LandM) (f t : Int) : Int := match wayN l f t with | some j => (j : Int) + 1 | none => 0
theorem wayN_some {l : LandM} {f t : Int} {j : Nat} (h : wayN l f t = some j) : j < 8 ∧ nextI l f ((j : Int) + 1) = t := by
  have h1 := List.mem_of_find?_eq_some h
  have h2 := List.find?_some h
  exact ⟨by simpa using h1, by simpa using h2⟩
theorem range_find {p : Nat → Bool} {n j : Nat} (hj : j < n) (hp : p j = true) (hn : ∀ i, i < j → p i = false) : (List.range n).find? p = some j := by
  rw [List.find?_eq_some_iff_append]
  refine ⟨hp, List.range j, List.range' (j + 1) (n - j - 1), ?_, fun a ha => by simp at ha; simp [hn a ha]⟩
  rw [List.range_eq_range', List.range_eq_range', ← List.range'_succ]
  have := List.range'_append (s := 0) (m := j) (n := n - j - 1 + 1) (step := 1)
  simp only [Nat.one_mul, Nat.zero_add] at this
  rw [this]; congr 1; omega
theorem ref3_Way_t (l : LandM) (hl : LandOk l) (f t : Int) (hf : cellI l f) (ht : 0 ≤ t) : Pure Try.prog 25 [.agg l.c, .int .i64 f, .int .i64 t] (.int .i64 (wayF l f t)) := by
  have oN := fun (j : Nat) (hj : j < 8) => gNext_eq hl (cell := f) (way_rI hj) hf
  have hlc : l.c = [.int .i64 l.wide, .int .i64 l.deep, .sl (intL l.ground), .sl (boolL l.water), .int .i64 l.clear] := rfl
  have ht' : decide (0 ≤ t) = true := by simpa using ht
  rw [hlc] at oN ⊢
  refine pure_of_wc (rs := [.tmp 6]) (m := 23) [] nA_ok (by kernel_rfl) Try.func25 rfl (by kernel_rfl) rfl rfl (by kernel_rfl) ?_
  simp only [RT, FS, ↓RE, okR, argEnv, Nat.reduceAdd, Nat.reduceSub, Nat.reduceLT, Nat.reduceLeDiff, Nat.reduceEqDiff, reduceIte]
  refine loopV (ι := Nat) nA_ok [] (fun j => [(1, .int .i64 f), (2, .int .i64 t), (3, .ptr 0 0), (7, .int .i64 ((j : Int) + 1))])
    (fun j => [(0, .box l.c)]) 1 (fun j => j ≤ 8 ∧ ∀ i, i < j → nextI l f ((i : Int) + 1) ≠ t) (fun j => 8 - j) 0 (by kernel_rfl) (by kernel_rfl) ⟨by omega, fun i hi => by omega⟩ ?_ ?_
  · simp [headW, heapW, envW, blkLt, D.ltL, D.lt, look, hget, hlc]
  rintro j ⟨hj, hn⟩
  rcases Nat.lt_or_ge j 8 with hjl | hjg
  rotate_left
  · have hq8 : (((j : Nat) : Int) + 1 ≤ 8) = False := by simp; omega
    have h8 : j = 8 := by omega
    have hw : wayF l f t = 0 := by
      have : wayN l f t = none := by
        rw [wayN, List.find?_eq_none]
        intro i hi
        simp at hi
        simpa using hn i (by omega)
      simp [wayF, this]
    simp only [RT, FS, ↓RE, okR, argEnv, Nat.reduceAdd, Nat.reduceSub, Nat.reduceLT, Nat.reduceLeDiff, Nat.reduceEqDiff, reduceIte, hq8, decide_false]
    rw [hw]
  have hq8 : (((j : Nat) : Int) + 1 ≤ 8) = True := by simp; omega
  have wj : IntKind.i64.wrap ((j : Int) + 1 + 1) = ((j + 1 : Nat) : Int) + 1 := by rw [wrap_i64 (by omega) (by omega)]; omega
  have oN' := oN j hjl
  by_cases he : nextI l f ((j : Int) + 1) = t
  · have hb : (nextI l f ((j : Int) + 1) == t) = true := by simpa using he
    have hw : wayF l f t = (j : Int) + 1 := by
      have : wayN l f t = some j := range_find hjl (by simpa using he) fun i hi => by simpa using hn i hi
      simp [wayF, this]
    simp only [RT, FS, ↓RE, okR, argEnv, Nat.reduceAdd, Nat.reduceSub, Nat.reduceLT, Nat.reduceLeDiff, Nat.reduceEqDiff, reduceIte, hq8, decide_true, ht', hlc, oN', hb]
    rw [hw]
  · have hb : (nextI l f ((j : Int) + 1) == t) = false := by simpa using he
    simp only [RT, FS, ↓RE, okR, argEnv, Nat.reduceAdd, Nat.reduceSub, Nat.reduceLT, Nat.reduceLeDiff, Nat.reduceEqDiff, reduceIte, hq8, decide_true, ht', hlc, oN', hb, wj]
    refine ⟨j + 1, ⟨by omega, fun i hi => ?_⟩, by omega, ?_⟩
    · rcases Nat.lt_or_ge i j with h | h
      · exact hn i h
      · rw [show i = j by omega]; exact he
    · simp [headW, heapW, envW, blkLt, D.ltL, D.lt, look, hget, hlc]
noncomputable def gWayR : List D → Option D := orcF (fun p : LandM × Int × Int => LandOk p.1 ∧ cellI p.1 p.2.1 ∧ 0 ≤ p.2.2) (fun p => [.agg p.1.c, .int .i64 p.2.1, .int .i64 p.2.2]) (fun p => .int .i64 (wayF p.1 p.2.1 p.2.2))
theorem gWayR_eq {l : LandM} (hl : LandOk l) {f t : Int} (hf : cellI l f) (ht : 0 ≤ t) : gWayR [.agg l.c, .int .i64 f, .int .i64 t] = some (.int .i64 (wayF l f t)) :=
  orcF_eq (ok := fun p : LandM × Int × Int => LandOk p.1 ∧ cellI p.1 p.2.1 ∧ 0 ≤ p.2.2) (dsf := fun p => [.agg p.1.c, .int .i64 p.2.1, .int .i64 p.2.2]) (rf := fun p => .int .i64 (wayF p.1 p.2.1 p.2.2)) (l, f, t) ⟨hl, hf, ht⟩ fun b hb => by
    simp only [List.cons.injEq, D.agg.injEq, D.int.injEq, true_and, and_true] at hb
    rw [LandM.c_inj hb.1, hb.2.1, hb.2.2]
theorem ref3_above_t (l : LandM) (hl : LandOk l) (x h : Int) (k : Nat) (hx : x = (k : Int)) (hk : k < l.ground.length) : Pure Try.prog 78 [.agg l.c, .int .i64 x, .int .i64 h] (.bool (decide (gAt l k + l.clear ≤ h))) := by
  subst hx
  have h1 := hl.g_at hk
  have hg := sI_ix h1.1
  have hc := hl.clear
  have w1 := wrap_i64 (z := gAt l k + l.clear) (by omega) (by omega)
  have hlc : l.c = [.int .i64 l.wide, .int .i64 l.deep, .sl (intL l.ground), .sl (boolL l.water), .int .i64 l.clear] := rfl
  rw [hlc]
  refine pure_of_wc (rs := [.tmp 6]) (m := 17) [(1, [(11, false, false, [])])] oNone_ok (by kernel_rfl) Try.func78 rfl (by kernel_rfl) rfl rfl (by kernel_rfl) ?_
  simp only [RT, FS, ↓RE, okR, argEnv, Nat.reduceAdd, Nat.reduceSub, Nat.reduceLT, Nat.reduceLeDiff, Nat.reduceEqDiff, reduceIte, hg, w1]
noncomputable def gAbove : List D → Option D := orcF (fun p : LandM × Nat × Int => LandOk p.1 ∧ p.2.1 < p.1.ground.length) (fun p => [.agg p.1.c, .int .i64 (p.2.1 : Int), .int .i64 p.2.2]) (fun p => .bool (decide (gAt p.1 p.2.1 + p.1.clear ≤ p.2.2)))
theorem gAbove_eq {l : LandM} (hl : LandOk l) {k : Nat} (hk : k < l.ground.length) (h : Int) : gAbove [.agg l.c, .int .i64 (k : Int), .int .i64 h] = some (.bool (decide (gAt l k + l.clear ≤ h))) :=
  orcF_eq (ok := fun p : LandM × Nat × Int => LandOk p.1 ∧ p.2.1 < p.1.ground.length) (dsf := fun p => [.agg p.1.c, .int .i64 (p.2.1 : Int), .int .i64 p.2.2]) (rf := fun p => .bool (decide (gAt p.1 p.2.1 + p.1.clear ≤ p.2.2))) (l, k, h) ⟨hl, hk⟩ fun b hb => by
    simp only [List.cons.injEq, D.agg.injEq, D.int.injEq, true_and, and_true] at hb
    have e : b.2.1 = k := by have := hb.2.1; omega
    rw [LandM.c_inj hb.1, e, hb.2.2]
noncomputable abbrev nD : List (FuncId × (List D → Option D)) := (25, gWayR) :: (78, gAbove) :: nC0
theorem nD_ok : OkO Try.prog (mkO nD) := mkO_ok (orcF_ok fun p h => ref3_Way_t p.1 h.1 p.2.1 p.2.2 h.2.1 h.2.2) <| mkO_ok (orcF_ok fun p h => ref3_above_t p.1 h.1 _ p.2.2 p.2.1 rfl h.2) <| nC0_ok

/-! Escapes that are proposed -/
section
variable (c : Craft) (a : AirW) (wt : Int) (l : LandM) (x : List Int) (h : Int)
end
theorem nAt_get {x : List Int} {i : Nat} (h : i < x.length) : x[i]? = some (nAt x i) := by simp [nAt, h]
theorem wayF_rI {l : LandM} {f t : Int} (h : wayF l f t ≠ 0) : rI (wayF l f t) 1 8 = true := by
  unfold wayF at h ⊢
  cases hw : wayN l f t with
  | none => rw [hw] at h; exact absurd rfl h
  | some j => exact way_rI (wayN_some hw).1
theorem steps_inj {w d f : Int} (hw : 1 ≤ w) {s t : Stp} (hs : s ∈ stepsL w d f) (ht : t ∈ stepsL w d f) (h : s.cell = t.cell) : s = t := by
  have hp := steps_sorted (w := w) (d := d) (c := f) hw
  rw [List.pairwise_iff_getElem] at hp
  obtain ⟨i, hi, rfl⟩ := List.mem_iff_getElem.1 hs
  obtain ⟨j, hj, rfl⟩ := List.mem_iff_getElem.1 ht
  rcases Nat.lt_trichotomy i j with h1 | h1 | h1
  · have := hp i j hi hj h1; omega
  · subst h1; rfl
  · have := hp j i hj hi h1; omega
theorem wayF_step {l : LandM} (hl : LandOk l) {i : Nat} (hi : i < l.ground.length) {s : Stp} (hs : s ∈ stepsL l.wide l.deep i) : wayF l i s.cell ≠ 0 ∧ s = ⟨s.cell, dxW (wayF l i s.cell), dyW (wayF l i s.cell)⟩ := by
  have hm := (mem_ways hl.wide.1).2 hs
  simp only [waysN, List.mem_filterMap, List.mem_range] at hm
  obtain ⟨j, hj, hjs⟩ := hm
  unfold wayAt at hjs
  split at hjs
  · cases hjs
  · rename_i hneg
    cases hjs
    cases hw : wayN l i (nextI l i ((j : Int) + 1)) with
    | none =>
      rw [wayN, List.find?_eq_none] at hw
      have := hw j (by simpa using hj)
      simp at this
    | some k =>
      have hk := wayN_some hw
      have e : wayF l i (nextI l i ((j : Int) + 1)) = (k : Int) + 1 := by simp [wayF, hw]
      dsimp only
      rw [e]
      refine ⟨by omega, ?_⟩
      have hm2 : (⟨nextI l i ((k : Int) + 1), dxW ((k : Int) + 1), dyW ((k : Int) + 1)⟩ : Stp) ∈ stepsL l.wide l.deep i := (mem_ways hl.wide.1).1 (by
        simp only [waysN, List.mem_filterMap, List.mem_range]
        exact ⟨k, hk.1, by rw [wayAt, if_neg (by rw [hk.2]; exact hneg)]⟩)
      have := steps_inj hl.wide.1 hs hm2 hk.2.symm
      rw [hk.2] at this
      exact this
theorem way_mem {l : LandM} (hl : LandOk l) {i : Nat} {t : Int} (ht : 0 ≤ t) (h : wayF l i t ≠ 0) : (⟨t, dxW (wayF l i t), dyW (wayF l i t)⟩ : Stp) ∈ stepsL l.wide l.deep i := by
  cases hw : wayN l i t with
  | none => rw [wayF, hw] at h; exact absurd rfl h
  | some k =>
    have hk := wayN_some hw
    have e : wayF l i t = (k : Int) + 1 := by simp [wayF, hw]
    rw [e]
    refine (mem_ways hl.wide.1).1 ?_
    simp only [waysN, List.mem_filterMap, List.mem_range]
    exact ⟨k, hk.1, by rw [wayAt, if_neg (by omega), hk.2]⟩
section
variable {c : Craft} (hc : CraftOk c) {a : AirW} (ha : AirOk a) (wt : Int) {l : LandM} (hl : LandOk l)
include hc ha hl
end
end Go.Sx
