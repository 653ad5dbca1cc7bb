/- Own work: a calculus of contracts for the programs of this kit: parts SxE55r, SxE56r, SxE57r, SxE58r. -/
import Derived.Test.YthljonnokmkagaaSxEh
import Derived.Test.YthljonnokmkagaaSxEi
set_option linter.unusedVariables false
set_option linter.unusedSimpArgs false
namespace Go.Sx
open Go.Proofs
set_option maxRecDepth 10000

/-! The direction to a neighbour -/
def wayN (l : LandM) (f t : Int) : Option Nat := (List.range 8).find? fun j => nextI l f ((j : Int) + 1) == t
def wayF (l : LandM) (f t : Int) : Int := match wayN l f t with | some j => (j : Int) + 1 | none => 0
theorem wayN_some {l : LandM} {f t : Int} {j : Nat} (h : wayN l f t = some j) : j < 8 ∧ nextI l f ((j : Int) + 1) = t := by
  have h1 := List.mem_of_find?_eq_some h
  have h2 := List.find?_some h
  exact ⟨by simpa using h1, by simpa using h2⟩
theorem range_find {p : Nat → Bool} {n j : Nat} (hj : j < n) (hp : p j = true) (hn : ∀ i, i < j → p i = false) : (List.range n).find? p = some j := by
  rw [List.find?_eq_some_iff_append]
  refine ⟨hp, List.range j, List.range' (j + 1) (n - j - 1), ?_, fun a ha => by simp at ha; simp [hn a ha]⟩
  rw [List.range_eq_range', List.range_eq_range', ← List.range'_succ]
  have := List.range'_append (s := 0) (m := j) (n := n - j - 1 + 1) (step := 1)
  simp only [Nat.one_mul, Nat.zero_add] at this
  rw [this]; congr 1; omega
theorem ref3_Way_t (l : LandM) (hl : LandOk l) (f t : Int) (hf : cellI l f) (ht : 0 ≤ t) : Pure Try.prog 25 [.agg l.c, .int .i64 f, .int .i64 t] (.int .i64 (wayF l f t)) := by
  have oN := fun (j : Nat) (hj : j < 8) => gNext_eq hl (cell := f) (way_rI hj) hf
  have hlc : l.c = [.int .i64 l.wide, .int .i64 l.deep, .sl (intL l.ground), .sl (boolL l.water), .int .i64 l.clear] := rfl
  have ht' : decide (0 ≤ t) = true := by simpa using ht
  rw [hlc] at oN ⊢
  refine pure_of_wc (rs := [.tmp 6]) (m := 23) [] nA_ok (by kernel_rfl) Try.func25 rfl (by kernel_rfl) rfl rfl (by kernel_rfl) ?_
  simp only [RT, FS, ↓RE, okR, argEnv, Nat.reduceAdd, Nat.reduceSub, Nat.reduceLT, Nat.reduceLeDiff, Nat.reduceEqDiff, reduceIte]
  refine loopV (ι := Nat) nA_ok [] (fun j => [(1, .int .i64 f), (2, .int .i64 t), (3, .ptr 0 0), (7, .int .i64 ((j : Int) + 1))])
    (fun j => [(0, .box l.c)]) 1 (fun j => j ≤ 8 ∧ ∀ i, i < j → nextI l f ((i : Int) + 1) ≠ t) (fun j => 8 - j) 0 (by kernel_rfl) (by kernel_rfl) ⟨by omega, fun i hi => by omega⟩ ?_ ?_
  · simp [headW, heapW, envW, blkLt, D.ltL, D.lt, look, hget, hlc]
  rintro j ⟨hj, hn⟩
  rcases Nat.lt_or_ge j 8 with hjl | hjg
  rotate_left
  · have hq8 : (((j : Nat) : Int) + 1 ≤ 8) = False := by simp; omega
    have h8 : j = 8 := by omega
    have hw : wayF l f t = 0 := by
      have : wayN l f t = none := by
        rw [wayN, List.find?_eq_none]
        intro i hi
        simp at hi
        simpa using hn i (by omega)
      simp [wayF, this]
    simp only [RT, FS, ↓RE, okR, argEnv, Nat.reduceAdd, Nat.reduceSub, Nat.reduceLT, Nat.reduceLeDiff, Nat.reduceEqDiff, reduceIte, hq8, decide_false]
    rw [hw]
  have hq8 : (((j : Nat) : Int) + 1 ≤ 8) = True := by simp; omega
  have wj : IntKind.i64.wrap ((j : Int) + 1 + 1) = ((j + 1 : Nat) : Int) + 1 := by rw [wrap_i64 (by omega) (by omega)]; omega
  have oN' := oN j hjl
  by_cases he : nextI l f ((j : Int) + 1) = t
  · have hb : (nextI l f ((j : Int) + 1) == t) = true := by simpa using he
    have hw : wayF l f t = (j : Int) + 1 := by
      have : wayN l f t = some j := range_find hjl (by simpa using he) fun i hi => by simpa using hn i hi
      simp [wayF, this]
    simp only [RT, FS, ↓RE, okR, argEnv, Nat.reduceAdd, Nat.reduceSub, Nat.reduceLT, Nat.reduceLeDiff, Nat.reduceEqDiff, reduceIte, hq8, decide_true, ht', hlc, oN', hb]
    rw [hw]
  · have hb : (nextI l f ((j : Int) + 1) == t) = false := by simpa using he
    simp only [RT, FS, ↓RE, okR, argEnv, Nat.reduceAdd, Nat.reduceSub, Nat.reduceLT, Nat.reduceLeDiff, Nat.reduceEqDiff, reduceIte, hq8, decide_true, ht', hlc, oN', hb, wj]
    refine ⟨j + 1, ⟨by omega, fun i hi => ?_⟩, by omega, ?_⟩
    · rcases Nat.lt_or_ge i j with h | h
      · exact hn i h
      · rw [show i = j by omega]; exact he
    · simp [headW, heapW, envW, blkLt, D.ltL, D.lt, look, hget, hlc]
noncomputable def gWayR : List D → Option D := orcF (fun p : LandM × Int × Int => LandOk p.1 ∧ cellI p.1 p.2.1 ∧ 0 ≤ p.2.2) (fun p => [.agg p.1.c, .int .i64 p.2.1, .int .i64 p.2.2]) (fun p => .int .i64 (wayF p.1 p.2.1 p.2.2))
theorem gWayR_eq {l : LandM} (hl : LandOk l) {f t : Int} (hf : cellI l f) (ht : 0 ≤ t) : gWayR [.agg l.c, .int .i64 f, .int .i64 t] = some (.int .i64 (wayF l f t)) :=
  orcF_eq (ok := fun p : LandM × Int × Int => LandOk p.1 ∧ cellI p.1 p.2.1 ∧ 0 ≤ p.2.2) (dsf := fun p => [.agg p.1.c, .int .i64 p.2.1, .int .i64 p.2.2]) (rf := fun p => .int .i64 (wayF p.1 p.2.1 p.2.2)) (l, f, t) ⟨hl, hf, ht⟩ fun b hb => by
    simp only [List.cons.injEq, D.agg.injEq, D.int.injEq, true_and, and_true] at hb
    rw [LandM.c_inj hb.1, hb.2.1, hb.2.2]
theorem ref3_above_t (l : LandM) (hl : LandOk l) (x h : Int) (k : Nat) (hx : x = (k : Int)) (hk : k < l.ground.length) : Pure Try.prog 78 [.agg l.c, .int .i64 x, .int .i64 h] (.bool (decide (gAt l k + l.clear ≤ h))) := by
  subst hx
  have h1 := hl.g_at hk
  have hg := sI_ix h1.1
  have hc := hl.clear
  have w1 := wrap_i64 (z := gAt l k + l.clear) (by omega) (by omega)
  have hlc : l.c = [.int .i64 l.wide, .int .i64 l.deep, .sl (intL l.ground), .sl (boolL l.water), .int .i64 l.clear] := rfl
  rw [hlc]
  refine pure_of_wc (rs := [.tmp 6]) (m := 17) [(1, [(11, false, false, [])])] oNone_ok (by kernel_rfl) Try.func78 rfl (by kernel_rfl) rfl rfl (by kernel_rfl) ?_
  simp only [RT, FS, ↓RE, okR, argEnv, Nat.reduceAdd, Nat.reduceSub, Nat.reduceLT, Nat.reduceLeDiff, Nat.reduceEqDiff, reduceIte, hg, w1]
noncomputable def gAbove : List D → Option D := orcF (fun p : LandM × Nat × Int => LandOk p.1 ∧ p.2.1 < p.1.ground.length) (fun p => [.agg p.1.c, .int .i64 (p.2.1 : Int), .int .i64 p.2.2]) (fun p => .bool (decide (gAt p.1 p.2.1 + p.1.clear ≤ p.2.2)))
theorem gAbove_eq {l : LandM} (hl : LandOk l) {k : Nat} (hk : k < l.ground.length) (h : Int) : gAbove [.agg l.c, .int .i64 (k : Int), .int .i64 h] = some (.bool (decide (gAt l k + l.clear ≤ h))) :=
  orcF_eq (ok := fun p : LandM × Nat × Int => LandOk p.1 ∧ p.2.1 < p.1.ground.length) (dsf := fun p => [.agg p.1.c, .int .i64 (p.2.1 : Int), .int .i64 p.2.2]) (rf := fun p => .bool (decide (gAt p.1 p.2.1 + p.1.clear ≤ p.2.2))) (l, k, h) ⟨hl, hk⟩ fun b hb => by
    simp only [List.cons.injEq, D.agg.injEq, D.int.injEq, true_and, and_true] at hb
    have e : b.2.1 = k := by have := hb.2.1; omega
    rw [LandM.c_inj hb.1, e, hb.2.2]
noncomputable abbrev nD : List (FuncId × (List D → Option D)) := (25, gWayR) :: (78, gAbove) :: nC
theorem nD_ok : OkO Try.prog (mkO nD) := mkO_ok (orcF_ok fun p h => ref3_Way_t p.1 h.1 p.2.1 p.2.2 h.2.1 h.2.2) <| mkO_ok (orcF_ok fun p h => ref3_above_t p.1 h.1 _ p.2.2 p.2.1 rfl h.2) <| nC_ok

/-! Escapes that are proposed -/
section
variable (c : Craft) (a : AirW) (wt : Int) (l : LandM) (x : List Int) (h : Int)
def hAt : Nat → Int
  | 0 => h
  | i + 1 => leftI c a wt (wayF l (nAt x i) (nAt x (i + 1))) (hAt i)
def okAt (i : Nat) : Bool := rI (nAt x i) 0 ((l.ground.length : Int) - 1) && (decide (i = 0) || !(wayF l (nAt x (i - 1)) (nAt x i) == 0)) && (wAt l (nAt x i).toNat == decide (i + 1 = x.length)) &&
  (if i + 1 = x.length then decide (gAt l (nAt x i).toNat ≤ hAt c a wt l x h i) else decide (gAt l (nAt x i).toNat + l.clear ≤ hAt c a wt l x h i))
def escB : Bool := decide (0 < x.length) && (List.range x.length).all (okAt c a wt l x h)
end
end Go.Sx

namespace Go.Sx
open Go.Proofs
set_option maxRecDepth 10000

theorem nAt_get {x : List Int} {i : Nat} (h : i < x.length) : x[i]? = some (nAt x i) := by simp [nAt, h]
theorem wayF_rI {l : LandM} {f t : Int} (h : wayF l f t ≠ 0) : rI (wayF l f t) 1 8 = true := by
  unfold wayF at h ⊢
  cases hw : wayN l f t with
  | none => rw [hw] at h; exact absurd rfl h
  | some j => exact way_rI (wayN_some hw).1
section
variable {c : Craft} (hc : CraftOk c) {a : AirW} (ha : AirOk a) {wt : Int} {l : LandM} (hl : LandOk l) {x : List Int} {h : Int} (hh : 0 ≤ h ∧ h ≤ 20000)
theorem okAt_cell {i : Nat} (h1 : okAt c a wt l x h i = true) : cellI l (nAt x i) := by
  simp only [okAt, Bool.and_eq_true] at h1
  have := rI_le h1.1.1.1
  unfold cellI; omega
include hc ha hl hh in
theorem hAt_b : ∀ {i : Nat}, (∀ j, j < i + 1 → okAt c a wt l x h j = true) → 0 ≤ hAt c a wt l x h i ∧ hAt c a wt l x h i ≤ 20000
  | 0, _ => hh
  | i + 1, hp => by
    have ih := hAt_b (i := i) fun j hj => hp j (by omega)
    have h1 := hp (i + 1) (by omega)
    have hcl := okAt_cell h1
    simp only [okAt, Bool.and_eq_true] at h1
    obtain ⟨⟨⟨_, h2⟩, _⟩, h3⟩ := h1
    have hw : wayF l (nAt x i) (nAt x (i + 1)) ≠ 0 := by simpa using h2
    have hb := leftF_b hc ha (dirW_ok (wayF_rI hw) 0) (ceilI c wt) (hAt c a wt l x h i)
    have hg := (hl.g_at (i := (nAt x (i + 1)).toNat) (by unfold cellI at hcl; omega)).2
    have hcr := hl.clear
    have e : hAt c a wt l x h (i + 1) = leftF c a (ceilI c wt) ⟨0, dxW (wayF l (nAt x i) (nAt x (i + 1))), dyW (wayF l (nAt x i) (nAt x (i + 1)))⟩ (hAt c a wt l x h i) := rfl
    refine ⟨?_, by rw [e]; omega⟩
    split at h3
    · have := of_decide_eq_true h3; omega
    · have := of_decide_eq_true h3; omega
theorem escB_no {i : Nat} (hi : i < x.length) (h1 : okAt c a wt l x h i = false) : escB c a wt l x h = false := by
  unfold escB
  rw [Bool.and_eq_false_iff]
  right
  rw [List.all_eq_false]
  exact ⟨i, by simpa using hi, by simp [h1]⟩
theorem escB_yes (hi : 0 < x.length) (h1 : ∀ i, i < x.length → okAt c a wt l x h i = true) : escB c a wt l x h = true := by
  unfold escB
  simp only [Bool.and_eq_true, decide_eq_true_eq, List.all_eq_true]
  exact ⟨hi, fun i hi => h1 i (by simpa using hi)⟩
end
set_option maxHeartbeats 4000000 in
theorem ref3_Escapes_t (c : Craft) (hc : CraftOk c) (l : LandM) (hl : LandOk l) (a : AirW) (ha : AirOk a) (wt : Int) (x : List Int) (hx : x.length ≤ 9223372036854775807) (h : Int) (hh : 0 ≤ h ∧ h ≤ 20000) :
    Pure Try.prog 24 [.agg c.c, .agg l.c, .agg a.c, .int .i64 wt, .sl (intL x), .int .i64 h] (.bool (escB c a wt l x h)) := by
  have oW := fun (f t : Int) (hf : cellI l f) (ht : 0 ≤ t) => gWayR_eq hl hf ht
  have oA := fun (k : Nat) (hk : k < l.ground.length) (h : Int) => gAbove_eq hl hk h
  have oL := fun (w : Int) (hw : rI w 1 8 = true) (h : Int) (hh : htOk h) => gCAI_eq leftI hc ha wt hw hh
  have hno := fun i hi (h1 : okAt c a wt l x h i = false) => escB_no (c := c) (a := a) (wt := wt) (l := l) (x := x) (h := h) (i := i) hi h1
  have hb := fun i (hp : ∀ j, j < i + 1 → okAt c a wt l x h j = true) => hAt_b hc ha hl hh (wt := wt) (x := x) (i := i) hp
  have hcl := fun i (h1 : okAt c a wt l x h i = true) => okAt_cell h1
  have hdef : ∀ i, okAt c a wt l x h i = (rI (nAt x i) 0 ((l.ground.length : Int) - 1) && (decide (i = 0) || !(wayF l (nAt x (i - 1)) (nAt x i) == 0)) && (wAt l (nAt x i).toNat == decide (i + 1 = x.length)) &&
    (if i + 1 = x.length then decide (gAt l (nAt x i).toNat ≤ hAt c a wt l x h i) else decide (gAt l (nAt x i).toNat + l.clear ≤ hAt c a wt l x h i))) := fun i => rfl
  have hH0 : hAt c a wt l x h 0 = h := rfl
  have hHs : ∀ i, hAt c a wt l x h (i + 1) = leftI c a wt (wayF l (nAt x i) (nAt x (i + 1))) (hAt c a wt l x h i) := fun i => rfl
  have hsm := hl.small
  have hlc : l.c = [.int .i64 l.wide, .int .i64 l.deep, .sl (intL l.ground), .sl (boolL l.water), .int .i64 l.clear] := rfl
  have lc : ∀ m, D.ltL m c.c = true := fun m => by simp [Craft.c, D.ltL, D.lt]
  have la : ∀ m, D.ltL m a.c = true := fun m => by simp [AirW.c, D.ltL, D.lt]
  by_cases hx0 : x.length = 0
  · have hz : ((x.length : Int) == 0) = true := by simp; exact List.length_eq_zero_iff.1 hx0
    have he : escB c a wt l x h = false := by simp [escB, hx0]
    rw [he]
    clear hdef hH0 hHs hno hb hcl
    simp only [Craft.c, AirW.c] at oL ⊢
    rw [hlc] at oW oA ⊢
    refine pure_of_wc (rs := [.tmp 12]) (m := 100) [(6, [(10, false, false, [])]), (9, [(12, false, false, [])]), (14, [(39, false, false, [])])] nD_ok (by kernel_rfl) Try.func24 rfl (by kernel_rfl) rfl rfl (by kernel_rfl) ?_
    simp only [RT, FS, ↓RE, okR, argEnv, Nat.reduceAdd, Nat.reduceSub, Nat.reduceLT, Nat.reduceLeDiff, Nat.reduceEqDiff, reduceIte, intL_len, hz]
  have hz : ((x.length : Int) == 0) = false := beq_eq_false_iff_ne.2 (by omega)
  have hyes := fun h1 => escB_yes (c := c) (a := a) (wt := wt) (l := l) (x := x) (h := h) (by omega) h1
  generalize escB c a wt l x h = EB at *
  generalize hOK : okAt c a wt l x h = OK at *
  generalize hHA : hAt c a wt l x h = HA at *
  simp only [Craft.c, AirW.c] at oL ⊢
  rw [hlc] at oW oA ⊢
  refine pure_of_wc (rs := [.tmp 12]) (m := 100) [(6, [(10, false, false, [])]), (9, [(12, false, false, [])]), (14, [(39, false, false, [])])] nD_ok (by kernel_rfl) Try.func24 rfl (by kernel_rfl) rfl rfl (by kernel_rfl) ?_
  simp only [RT, FS, ↓RE, okR, argEnv, Nat.reduceAdd, Nat.reduceSub, Nat.reduceLT, Nat.reduceLeDiff, Nat.reduceEqDiff, reduceIte, intL_len, hz]
  refine loopV (ι := Nat) nD_ok [(6, [(10, false, false, [])]), (9, [(12, false, false, [])]), (14, [(39, false, false, [])])] (fun i => [(3, .int .i64 wt), (4, .sl (intL x)), (5, .int .i64 (HA (i - 1))), (6, .ptr 0 0), (7, .ptr 1 0), (8, .ptr 2 0), (13, .int .i64 (i : Int))])
    (fun i => [(2, .box a.c), (1, .box l.c), (0, .box c.c)]) 3 (fun i => i ≤ x.length ∧ ∀ j, j < i → OK j = true) (fun i => x.length - i) 0 (by kernel_rfl) (by kernel_rfl) ⟨Nat.zero_le _, fun j hj => by omega⟩ ?_ ?_
  · simp [headW, heapW, envW, blkLt, D.ltL, D.lt, look, hget, hlc, Craft.c, AirW.c, hH0]
  rintro i ⟨hi, hp⟩
  rcases Nat.lt_or_ge i x.length with hlt | hge
  rotate_left
  · have hq : ((i : Int) < (x.length : Int)) = False := by simp; omega
    simp only [RT, FS, ↓RE, okR, argEnv, Nat.reduceAdd, Nat.reduceSub, Nat.reduceLT, Nat.reduceLeDiff, Nat.reduceEqDiff, reduceIte, intL_len, hq, decide_false]
    rw [hyes fun j hj => hp j (by omega)]
  have hq : ((i : Int) < (x.length : Int)) = True := by simp [hlt]
  have wi := wrap_i64 (z := (i : Int) + 1) (by omega) (by omega)
  have ixi := sI_ix (nAt_get hlt)
  have wn := wrap_i64 (z := (l.ground.length : Int) - 1) (by omega) (by omega)
  have wx := wrap_i64 (z := (x.length : Int) - 1) (by omega) (by omega)
  have hd := hdef i
  have hnoi := hno i hlt
  have fin : OK i = true → ∀ j, j < i + 1 → OK j = true := fun h1 j hj => by
    rcases Nat.lt_or_ge j i with h2 | h2
    · exact hp j h2
    · rw [show j = i by omega]; exact h1
  cases hr : rI (nAt x i) 0 ((l.ground.length : Int) - 1)
  · rw [hr] at hd
    simp only [Bool.false_and] at hd
    simp only [RT, FS, ↓RE, okR, argEnv, Nat.reduceAdd, Nat.reduceSub, Nat.reduceLT, Nat.reduceLeDiff, Nat.reduceEqDiff, reduceIte, intL_len, hq, decide_true, ixi, wn, hlc, gI3_eq, hr]
    rw [hnoi hd]
  rw [hr] at hd
  have hrb := rI_le hr
  obtain ⟨k, hk⟩ : ∃ k : Nat, nAt x i = (k : Int) := ⟨(nAt x i).toNat, by omega⟩
  have hkl : k < l.ground.length := by omega
  have ixw := sB_ix (hl.w_at hkl)
  have ixg := sI_ix (hl.g_at hkl).1
  have oA' := oA k hkl (HA i)
  have hkn : (nAt x i).toNat = k := by omega
  rw [hkn] at hd
  have hft : (false == true) = false := rfl
  have htf : (true == false) = false := rfl
  rw [hk] at ixi hr
  cases i with
  | zero =>
    have hpos : decide ((0 : Int) < ((0 : Nat) : Int)) = false := rfl
    have hz0 : (0 : Nat) - 1 = 0 := rfl
    simp only [hz0, hH0] at hd ⊢
    simp only [decide_true, Bool.true_or, Bool.and_true, Bool.true_and] at hd
    rw [hH0] at oA'
    by_cases hla : 0 + 1 = x.length
    · have ql : (((0 : Nat) : Int) == (x.length : Int) - 1) = true := by simp; omega
      rw [if_pos hla] at hd
      rw [decide_eq_true hla] at hd
      cases hwa : wAt l k
      · rw [hwa] at hd ixw
        have hd : OK 0 = false := by rw [hd]; simp
        simp only [RT, FS, ↓RE, okR, argEnv, Nat.reduceAdd, Nat.reduceSub, Nat.reduceLT, Nat.reduceLeDiff, Nat.reduceEqDiff, reduceIte, binB_ne Fz.und_4, Bool.not_true, Bool.not_false, beq_self_eq_true, hft, htf, intL_len, hq, decide_true, decide_false, ixi, wn, wx, hlc, gI3_eq, hr, ixw, ixg, oA', wi, Craft.c, AirW.c, hpos, ql, hwa]
        rw [hnoi hd]
      rw [hwa] at hd ixw
      by_cases hgr : gAt l k ≤ h
      · have qg : decide (h < gAt l k) = false := by simp; omega
        have hd : OK 0 = true := by rw [hd]; simp [hgr, hH0]
        simp only [RT, FS, ↓RE, okR, argEnv, Nat.reduceAdd, Nat.reduceSub, Nat.reduceLT, Nat.reduceLeDiff, Nat.reduceEqDiff, reduceIte, binB_ne Fz.und_4, Bool.not_true, Bool.not_false, beq_self_eq_true, hft, htf, intL_len, hq, decide_true, decide_false, ixi, wn, wx, hlc, gI3_eq, hr, ixw, ixg, oA', wi, Craft.c, AirW.c, hpos, ql, qg]
        refine ⟨0 + 1, ⟨by omega, fin hd⟩, by omega, ?_⟩
        simp [headW, heapW, envW, blkLt, D.ltL, D.lt, look, hget, hlc, Craft.c, AirW.c, hpos, hH0]
      · have qg : decide (h < gAt l k) = true := by simp; omega
        have hd : OK 0 = false := by rw [hd]; simp [hgr, hH0]
        simp only [RT, FS, ↓RE, okR, argEnv, Nat.reduceAdd, Nat.reduceSub, Nat.reduceLT, Nat.reduceLeDiff, Nat.reduceEqDiff, reduceIte, binB_ne Fz.und_4, Bool.not_true, Bool.not_false, beq_self_eq_true, hft, htf, intL_len, hq, decide_true, decide_false, ixi, wn, wx, hlc, gI3_eq, hr, ixw, ixg, oA', wi, Craft.c, AirW.c, hpos, ql, qg]
        rw [hnoi hd]
    have ql : (((0 : Nat) : Int) == (x.length : Int) - 1) = false := beq_eq_false_iff_ne.2 (by omega)
    rw [if_neg hla] at hd
    rw [decide_eq_false hla] at hd
    cases hwa : wAt l k
    rotate_left
    · rw [hwa] at hd ixw
      have hd : OK 0 = false := by rw [hd]; simp
      simp only [RT, FS, ↓RE, okR, argEnv, Nat.reduceAdd, Nat.reduceSub, Nat.reduceLT, Nat.reduceLeDiff, Nat.reduceEqDiff, reduceIte, binB_ne Fz.und_4, Bool.not_true, Bool.not_false, beq_self_eq_true, hft, htf, intL_len, hq, decide_true, decide_false, ixi, wn, wx, hlc, gI3_eq, hr, ixw, ixg, oA', wi, Craft.c, AirW.c, hpos, ql, hwa]
      rw [hnoi hd]
    rw [hwa] at hd ixw
    cases hab : decide (gAt l k + l.clear ≤ h)
    · rw [hab] at oA' hd
      have hd : OK 0 = false := by rw [hd]; simp
      simp only [RT, FS, ↓RE, okR, argEnv, Nat.reduceAdd, Nat.reduceSub, Nat.reduceLT, Nat.reduceLeDiff, Nat.reduceEqDiff, reduceIte, binB_ne Fz.und_4, Bool.not_true, Bool.not_false, beq_self_eq_true, hft, htf, intL_len, hq, decide_true, decide_false, ixi, wn, wx, hlc, gI3_eq, hr, ixw, ixg, oA', wi, Craft.c, AirW.c, hpos, ql]
      rw [hnoi hd]
    · rw [hab] at oA' hd
      have hd : OK 0 = true := by rw [hd]; simp
      simp only [RT, FS, ↓RE, okR, argEnv, Nat.reduceAdd, Nat.reduceSub, Nat.reduceLT, Nat.reduceLeDiff, Nat.reduceEqDiff, reduceIte, binB_ne Fz.und_4, Bool.not_true, Bool.not_false, beq_self_eq_true, hft, htf, intL_len, hq, decide_true, decide_false, ixi, wn, wx, hlc, gI3_eq, hr, ixw, ixg, oA', wi, Craft.c, AirW.c, hpos, ql]
      refine ⟨0 + 1, ⟨by omega, fin hd⟩, by omega, ?_⟩
      simp [headW, heapW, envW, blkLt, D.ltL, D.lt, look, hget, hlc, Craft.c, AirW.c, hpos, hH0]
  | succ i =>
    have hpos : decide ((0 : Int) < ((i + 1 : Nat) : Int)) = true := by simp
    have hcast : ((i + 1 : Nat) : Int) - 1 = (i : Int) := by omega
    have hi1 : (i + 1) - 1 = i := rfl
    have wp := wrap_i64 (z := (i : Int)) (by omega) (by omega)
    have ixp := sI_ix (nAt_get (show i < x.length by omega))
    have hpi := hp i (by omega)
    have oW' := oW (nAt x i) (nAt x (i + 1)) (hcl i hpi) hrb.1
    rw [hk] at oW'
    have hHs' := hHs i
    have hbi := hb i (fun j hj => hp j (by omega))
    simp only [hi1] at hd ⊢
    have hne : decide (i + 1 = 0) = false := by simp
    rw [hne] at hd
    rw [hk] at hd hHs'
    cases hwy : (wayF l (nAt x i) (k : Int) == 0)
    rotate_left
    · rw [hwy] at hd
      have hd : OK (i + 1) = false := by rw [hd]; simp
      simp only [RT, FS, ↓RE, okR, argEnv, Nat.reduceAdd, Nat.reduceSub, Nat.reduceLT, Nat.reduceLeDiff, Nat.reduceEqDiff, reduceIte, intL_len, hq, decide_true, decide_false, ixi, wn, wx, hlc, gI3_eq, hr, ixp, wp, oW', hwy, hpos, hcast]
      rw [hnoi hd]
    have hwn : wayF l (nAt x i) (k : Int) ≠ 0 := by simpa using hwy
    have oL' := oL _ (wayF_rI hwn) (HA i) (by unfold htOk; omega)
    rw [hwy] at hd
    rw [← hHs'] at oL'
    simp only [Bool.false_or, Bool.not_false, Bool.true_and, Bool.and_true] at hd
    by_cases hla : i + 1 + 1 = x.length
    · have ql : (((i + 1 : Nat) : Int) == (x.length : Int) - 1) = true := by simp; omega
      rw [if_pos hla] at hd
      rw [decide_eq_true hla] at hd
      cases hwa : wAt l k
      · rw [hwa] at hd ixw
        have hd : OK (i + 1) = false := by rw [hd]; simp
        simp only [RT, FS, ↓RE, okR, argEnv, Nat.reduceAdd, Nat.reduceSub, Nat.reduceLT, Nat.reduceLeDiff, Nat.reduceEqDiff, reduceIte, binB_ne Fz.und_4, Bool.not_true, Bool.not_false, beq_self_eq_true, hft, htf, intL_len, hq, decide_true, decide_false, ixi, wn, wx, hlc, gI3_eq, hr, ixw, ixg, oA', wi, Craft.c, AirW.c, ixp, wp, oW', hwy, oL', hpos, hcast, hi1, ql, hwa]
        rw [hnoi hd]
      rw [hwa] at hd ixw
      by_cases hgr : gAt l k ≤ HA (i + 1)
      · have qg : decide (HA (i + 1) < gAt l k) = false := by simp; omega
        have hd : OK (i + 1) = true := by rw [hd]; simp [hgr, hwy]
        simp only [RT, FS, ↓RE, okR, argEnv, Nat.reduceAdd, Nat.reduceSub, Nat.reduceLT, Nat.reduceLeDiff, Nat.reduceEqDiff, reduceIte, binB_ne Fz.und_4, Bool.not_true, Bool.not_false, beq_self_eq_true, hft, htf, intL_len, hq, decide_true, decide_false, ixi, wn, wx, hlc, gI3_eq, hr, ixw, ixg, oA', wi, Craft.c, AirW.c, ixp, wp, oW', hwy, oL', hpos, hcast, hi1, ql, qg]
        refine ⟨i + 1 + 1, ⟨by omega, fin hd⟩, by omega, ?_⟩
        simp [headW, heapW, envW, blkLt, D.ltL, D.lt, look, hget, hlc, Craft.c, AirW.c]
      · have qg : decide (HA (i + 1) < gAt l k) = true := by simp; omega
        have hd : OK (i + 1) = false := by rw [hd]; simp [hgr]
        simp only [RT, FS, ↓RE, okR, argEnv, Nat.reduceAdd, Nat.reduceSub, Nat.reduceLT, Nat.reduceLeDiff, Nat.reduceEqDiff, reduceIte, binB_ne Fz.und_4, Bool.not_true, Bool.not_false, beq_self_eq_true, hft, htf, intL_len, hq, decide_true, decide_false, ixi, wn, wx, hlc, gI3_eq, hr, ixw, ixg, oA', wi, Craft.c, AirW.c, ixp, wp, oW', hwy, oL', hpos, hcast, hi1, ql, qg]
        rw [hnoi hd]
    have ql : (((i + 1 : Nat) : Int) == (x.length : Int) - 1) = false := beq_eq_false_iff_ne.2 (by omega)
    rw [if_neg hla] at hd
    rw [decide_eq_false hla] at hd
    cases hwa : wAt l k
    rotate_left
    · rw [hwa] at hd ixw
      have hd : OK (i + 1) = false := by rw [hd]; simp
      simp only [RT, FS, ↓RE, okR, argEnv, Nat.reduceAdd, Nat.reduceSub, Nat.reduceLT, Nat.reduceLeDiff, Nat.reduceEqDiff, reduceIte, binB_ne Fz.und_4, Bool.not_true, Bool.not_false, beq_self_eq_true, hft, htf, intL_len, hq, decide_true, decide_false, ixi, wn, wx, hlc, gI3_eq, hr, ixw, ixg, oA', wi, Craft.c, AirW.c, ixp, wp, oW', hwy, oL', hpos, hcast, hi1, ql, hwa]
      rw [hnoi hd]
    rw [hwa] at hd ixw
    cases hab : decide (gAt l k + l.clear ≤ HA (i + 1))
    · rw [hab] at oA' hd
      have hd : OK (i + 1) = false := by rw [hd]; simp
      simp only [RT, FS, ↓RE, okR, argEnv, Nat.reduceAdd, Nat.reduceSub, Nat.reduceLT, Nat.reduceLeDiff, Nat.reduceEqDiff, reduceIte, binB_ne Fz.und_4, Bool.not_true, Bool.not_false, beq_self_eq_true, hft, htf, intL_len, hq, decide_true, decide_false, ixi, wn, wx, hlc, gI3_eq, hr, ixw, ixg, oA', wi, Craft.c, AirW.c, ixp, wp, oW', hwy, oL', hpos, hcast, hi1, ql]
      rw [hnoi hd]
    · rw [hab] at oA' hd
      have hd : OK (i + 1) = true := by rw [hd]; simp [hwy]
      simp only [RT, FS, ↓RE, okR, argEnv, Nat.reduceAdd, Nat.reduceSub, Nat.reduceLT, Nat.reduceLeDiff, Nat.reduceEqDiff, reduceIte, binB_ne Fz.und_4, Bool.not_true, Bool.not_false, beq_self_eq_true, hft, htf, intL_len, hq, decide_true, decide_false, ixi, wn, wx, hlc, gI3_eq, hr, ixw, ixg, oA', wi, Craft.c, AirW.c, ixp, wp, oW', hwy, oL', hpos, hcast, hi1, ql]
      refine ⟨i + 1 + 1, ⟨by omega, fin hd⟩, by omega, ?_⟩
      simp [headW, heapW, envW, blkLt, D.ltL, D.lt, look, hget, hlc, Craft.c, AirW.c]
end Go.Sx

namespace Go.Sx
open Go.Proofs
set_option maxRecDepth 10000

def okEs (c : Craft) (l : LandM) (a : AirW) (p : Int × List Int × Int) : Prop := okO c l a ∧ p.2.1.length ≤ 9223372036854775807 ∧ (0 ≤ p.2.2 ∧ p.2.2 ≤ 20000)
def rsE (p : Int × List Int × Int) : List D := [.int .i64 p.1, .sl (intL p.2.1), .int .i64 p.2.2]
theorem rsE_inj (a b : Int × List Int × Int) (h : rsE a = rsE b) : a = b := by
  obtain ⟨a1, a2, a3⟩ := a; obtain ⟨b1, b2, b3⟩ := b
  simp only [rsE, List.cons.injEq, D.int.injEq, D.sl.injEq, true_and, and_true] at h
  rw [h.1, intL_inj h.2.1, h.2.2]
noncomputable abbrev qEscs := gCLA (β := Int × List Int × Int) okEs rsE (fun c l a p => .bool (escB c a p.1 l p.2.1 p.2.2))
noncomputable abbrev nE : List (FuncId × (List D → Option D)) := (24, qEscs) :: nD
theorem nE_ok : OkO Try.prog (mkO nE) := mkO_ok (gCLA_ok _ _ _ fun c l a p h => ref3_Escapes_t c h.1.1 l h.1.2.1 a h.1.2.2 p.1 p.2.1 h.2.1 p.2.2 h.2.2) <| nD_ok
def begB (c : Craft) (a : AirW) (wt : Int) (l : LandM) (at_ : Int) (x : List Int) (h : Int) : Bool := decide (0 < x.length) && (nAt x 0 == at_) && escB c a wt l x h
theorem begins_t (c : Craft) (hc : CraftOk c) (l : LandM) (hl : LandOk l) (a : AirW) (ha : AirOk a) (wt at_ : Int) (x : List Int) (hx : x.length ≤ 9223372036854775807) (h : Int) (hh : 0 ≤ h ∧ h ≤ 20000) :
    Pure Try.prog 22 [.agg c.c, .agg l.c, .agg a.c, .int .i64 wt, .int .i64 at_, .sl (intL x), .int .i64 h] (.bool (begB c a wt l at_ x h)) := by
  have oE := gCLA_eq (β := Int × List Int × Int) okEs rsE (fun c l a p => .bool (escB c a p.1 l p.2.1 p.2.2)) rsE_inj (c := c) (l := l) (a := a) (b := (wt, x, h)) ⟨⟨hc, hl, ha⟩, hx, hh⟩
  have hlc : l.c = [.int .i64 l.wide, .int .i64 l.deep, .sl (intL l.ground), .sl (boolL l.water), .int .i64 l.clear] := rfl
  simp only [rsE] at oE
  unfold begB
  generalize escB c a wt l x h = EB at *
  simp only [Craft.c, AirW.c] at *
  rw [hlc] at oE ⊢
  by_cases hx0 : 0 < x.length
  · have q0 : decide ((0 : Int) < (x.length : Int)) = true := by simp; omega
    have i0 : ∀ h, indexAddrD Try.prog h 25 (.sl (intL x)) (.int .i64 0) = some (.ref [.int .i64 (nAt x 0)] 0) := fun h => sI_ix (i := 0) (nAt_get hx0) h
    cases q1 : (nAt x 0 == at_)
    · refine pure_of_wc (rs := [.tmp 14]) (m := 34) [] nE_ok (by kernel_rfl) Try.func22 rfl (by kernel_rfl) rfl rfl (by kernel_rfl) ?_
      simp only [RT, FS, ↓RE, okR, argEnv, Nat.reduceAdd, Nat.reduceSub, Nat.reduceLT, Nat.reduceLeDiff, Nat.reduceEqDiff, reduceIte, intL_len, q0, i0, q1]
      simp
    · refine pure_of_wc (rs := [.tmp 14]) (m := 34) [] nE_ok (by kernel_rfl) Try.func22 rfl (by kernel_rfl) rfl rfl (by kernel_rfl) ?_
      simp only [RT, FS, ↓RE, okR, argEnv, Nat.reduceAdd, Nat.reduceSub, Nat.reduceLT, Nat.reduceLeDiff, Nat.reduceEqDiff, reduceIte, intL_len, q0, i0, q1, oE]
      simp [hx0]
  · have q0 : decide ((0 : Int) < (x.length : Int)) = false := decide_eq_false (by omega)
    refine pure_of_wc (rs := [.tmp 14]) (m := 34) [] nE_ok (by kernel_rfl) Try.func22 rfl (by kernel_rfl) rfl rfl (by kernel_rfl) ?_
    simp only [RT, FS, ↓RE, okR, argEnv, Nat.reduceAdd, Nat.reduceSub, Nat.reduceLT, Nat.reduceLeDiff, Nat.reduceEqDiff, reduceIte, intL_len, q0]
    simp [hx0]

/-! The theorem of escapes -/
theorem steps_inj {w d f : Int} (hw : 1 ≤ w) {s t : Stp} (hs : s ∈ stepsL w d f) (ht : t ∈ stepsL w d f) (h : s.cell = t.cell) : s = t := by
  have hp := steps_sorted (w := w) (d := d) (c := f) hw
  rw [List.pairwise_iff_getElem] at hp
  obtain ⟨i, hi, rfl⟩ := List.mem_iff_getElem.1 hs
  obtain ⟨j, hj, rfl⟩ := List.mem_iff_getElem.1 ht
  rcases Nat.lt_trichotomy i j with h1 | h1 | h1
  · have := hp i j hi hj h1; omega
  · subst h1; rfl
  · have := hp j i hj hi h1; omega
theorem wayF_step {l : LandM} (hl : LandOk l) {i : Nat} (hi : i < l.ground.length) {s : Stp} (hs : s ∈ stepsL l.wide l.deep i) : wayF l i s.cell ≠ 0 ∧ s = ⟨s.cell, dxW (wayF l i s.cell), dyW (wayF l i s.cell)⟩ := by
  have hm := (mem_ways hl.wide.1).2 hs
  simp only [waysN, List.mem_filterMap, List.mem_range] at hm
  obtain ⟨j, hj, hjs⟩ := hm
  unfold wayAt at hjs
  split at hjs
  · cases hjs
  · rename_i hneg
    cases hjs
    cases hw : wayN l i (nextI l i ((j : Int) + 1)) with
    | none =>
      rw [wayN, List.find?_eq_none] at hw
      have := hw j (by simpa using hj)
      simp at this
    | some k =>
      have hk := wayN_some hw
      have e : wayF l i (nextI l i ((j : Int) + 1)) = (k : Int) + 1 := by simp [wayF, hw]
      dsimp only
      rw [e]
      refine ⟨by omega, ?_⟩
      have hm2 : (⟨nextI l i ((k : Int) + 1), dxW ((k : Int) + 1), dyW ((k : Int) + 1)⟩ : Stp) ∈ stepsL l.wide l.deep i := (mem_ways hl.wide.1).1 (by
        simp only [waysN, List.mem_filterMap, List.mem_range]
        exact ⟨k, hk.1, by rw [wayAt, if_neg (by rw [hk.2]; exact hneg)]⟩)
      have := steps_inj hl.wide.1 hs hm2 hk.2.symm
      rw [hk.2] at this
      exact this
theorem way_mem {l : LandM} (hl : LandOk l) {i : Nat} {t : Int} (ht : 0 ≤ t) (h : wayF l i t ≠ 0) : (⟨t, dxW (wayF l i t), dyW (wayF l i t)⟩ : Stp) ∈ stepsL l.wide l.deep i := by
  cases hw : wayN l i t with
  | none => rw [wayF, hw] at h; exact absurd rfl h
  | some k =>
    have hk := wayN_some hw
    have e : wayF l i t = (k : Int) + 1 := by simp [wayF, hw]
    rw [e]
    refine (mem_ways hl.wide.1).1 ?_
    simp only [waysN, List.mem_filterMap, List.mem_range]
    exact ⟨k, hk.1, by rw [wayAt, if_neg (by omega), hk.2]⟩
theorem leftI_way {c : Craft} {a : AirW} {wt w h x : Int} : leftI c a wt w h = leftF c a (ceilI c wt) ⟨x, dxW w, dyW w⟩ h := rfl
section
variable {c : Craft} (hc : CraftOk c) {a : AirW} (ha : AirOk a) (wt : Int) {l : LandM} (hl : LandOk l)
include hc ha hl
theorem escB_need {x : List Int} {h : Int} (hh : 0 ≤ h ∧ h ≤ 20000) (he : escB c a wt l x h = true) : 0 < x.length ∧ cellI l (nAt x 0) ∧ nAt (iterN c a (ceilI c wt) l (x.length - 1)) (nAt x 0).toNat ≤ h := by
  simp only [escB, Bool.and_eq_true, decide_eq_true_eq, List.all_eq_true, List.mem_range] at he
  obtain ⟨hpos, hall⟩ := he
  refine ⟨hpos, okAt_cell (hall 0 hpos), ?_⟩
  have key : ∀ d i, i + d + 1 = x.length → nAt (iterN c a (ceilI c wt) l d) (nAt x i).toNat ≤ hAt c a wt l x h i := by
    intro d
    induction d with
    | zero =>
      intro i hi
      have h1 := hall i (by omega)
      have hcl := okAt_cell h1
      unfold cellI at hcl
      simp only [okAt, Bool.and_eq_true] at h1
      have hw := h1.1.2
      have hg := h1.2
      rw [if_pos (by omega)] at hg
      rw [decide_eq_true (by omega : i + 1 = x.length)] at hw
      rw [iter_water (ceilI c wt) (by omega) (by simpa using hw) 0]
      simpa using hg
    | succ d ih =>
      intro i hi
      have h1 := hall i (by omega)
      have h2 := hall (i + 1) (by omega)
      have ihd := ih (i + 1) (by omega)
      have hcl := okAt_cell h1
      have hcl2 := okAt_cell h2
      unfold cellI at hcl hcl2
      have hb := hAt_b hc ha hl hh (wt := wt) (x := x) (i := i + 1) fun j hj => hall j (by omega)
      simp only [okAt, Bool.and_eq_true] at h1 h2
      have hw := h1.1.2
      have hg := h1.2
      rw [if_neg (by omega)] at hg
      rw [decide_eq_false (by omega : ¬i + 1 = x.length)] at hw
      have hwy : wayF l (nAt x i) (nAt x (i + 1)) ≠ 0 := by simpa using h2.1.1.2
      obtain ⟨k, hk⟩ : ∃ k : Nat, nAt x i = (k : Int) := ⟨(nAt x i).toNat, by omega⟩
      have hm := way_mem hl (i := k) (t := nAt x (i + 1)) (by omega) (by rw [← hk]; exact hwy)
      have hH : hAt c a wt l x h (i + 1) = leftF c a (ceilI c wt) ⟨nAt x (i + 1), dxW (wayF l k (nAt x (i + 1))), dyW (wayF l k (nAt x (i + 1)))⟩ (hAt c a wt l x h i) := by rw [← hk]; rfl
      have hkn : (nAt x i).toNat = k := by omega
      rw [hkn] at hw hg ⊢
      have hwf : wAt l k = false := by simpa using hw
      rw [iter_cell (ceilI c wt) (by omega)]
      have hba : bareI l k = gAt l k + l.clear := by simp [bareI, hwf]
      simp only [cellN, hwf, Bool.false_eq_true, if_false]
      have hn := (need_left hc a (ceilI c wt) ⟨nAt x (i + 1), dxW (wayF l k (nAt x (i + 1))), dyW (wayF l k (nAt x (i + 1)))⟩ (nAt (iterN c a (ceilI c wt) l d) (nAt x (i + 1)).toNat) (hAt c a wt l x h i)).2 (by rw [← hH]; exact ihd)
      refine Int.le_trans (foldMin_leq _ _ _ _ _ hm (by unfold viaN; dsimp only; rw [if_pos (by omega)])) ?_
      have := of_decide_eq_true hg
      omega
  exact key (x.length - 1) 0 (by omega)
omit hc ha hl in
theorem hAt_cons (y : Int) (p : List Int) (g : Int) : ∀ i, hAt c a wt l (y :: p) g (i + 1) = hAt c a wt l p (leftI c a wt (wayF l y (nAt p 0)) g) i
  | 0 => rfl
  | i + 1 => by
    show leftI c a wt (wayF l (nAt p i) (nAt p (i + 1))) (hAt c a wt l (y :: p) g (i + 1)) = _
    rw [hAt_cons y p g i]; rfl
theorem esc_path : ∀ (m y : Nat) (g : Int), EscInv c a l (ceilI c wt) m y g →
    (∀ i, i ≤ m → EscInv c a l (ceilI c wt) (m - i) (nAt ((y : Int) :: escF c a (ceilI c wt) l (withinF c a (ceilI c wt) l) m (y, g)) i).toNat (hAt c a wt l ((y : Int) :: escF c a (ceilI c wt) l (withinF c a (ceilI c wt) l) m (y, g)) g i) ∧
      cellI l (nAt ((y : Int) :: escF c a (ceilI c wt) l (withinF c a (ceilI c wt) l) m (y, g)) i)) ∧
    ∀ i, i < m → wayF l (nAt ((y : Int) :: escF c a (ceilI c wt) l (withinF c a (ceilI c wt) l) m (y, g)) i) (nAt ((y : Int) :: escF c a (ceilI c wt) l (withinF c a (ceilI c wt) l) m (y, g)) (i + 1)) ≠ 0
  | 0, y, g, h => ⟨fun i hi => by
      have : i = 0 := by omega
      subst this
      exact ⟨h, by have := h.1; show 0 ≤ (y : Int) ∧ (y : Int) < _; omega⟩, fun i hi => by omega⟩
  | m + 1, y, g, h => by
    obtain ⟨_, s, hs, ho, hst⟩ := bestL_step hc ha hl (ceilI c wt) h
    have hn := esc_next hc ha hl (ceilI c wt) h hs ho
    obtain ⟨s1, s2, s3⟩ := steps_in hl h.1 hs
    have hws := wayF_step hl h.1 hs
    have ih := esc_path m s.cell.toNat _ hn
    have e : escF c a (ceilI c wt) l (withinF c a (ceilI c wt) l) (m + 1) ((y : Int), g) = ((s.cell.toNat : Nat) : Int) :: escF c a (ceilI c wt) l (withinF c a (ceilI c wt) l) m (((s.cell.toNat : Nat) : Int), leftF c a (ceilI c wt) s g) := by
      simp only [escF, hst, s2]
    rw [e]
    generalize hP : ((s.cell.toNat : Nat) : Int) :: escF c a (ceilI c wt) l (withinF c a (ceilI c wt) l) m (((s.cell.toNat : Nat) : Int), leftF c a (ceilI c wt) s g) = P at *
    have hP0 : nAt P 0 = s.cell := by rw [← hP]; exact s2
    have hle : leftI c a wt (wayF l y s.cell) g = leftF c a (ceilI c wt) s g := by
      rw [leftI_way (x := s.cell), ← hws.2]
    refine ⟨fun i hi => ?_, fun i hi => ?_⟩
    · cases i with
      | zero => exact ⟨h, by have := h.1; show 0 ≤ (y : Int) ∧ (y : Int) < _; omega⟩
      | succ i =>
        have := ih.1 i (by omega)
        rw [hAt_cons, hP0, hle]
        rw [show m + 1 - (i + 1) = m - i by omega]
        exact this
    · cases i with
      | zero => show wayF l y (nAt P 0) ≠ 0; rw [hP0]; exact hws.1
      | succ i => exact ih.2 i (by omega)
theorem escB_esc {m y : Nat} {g : Int} (h : EscInv c a l (ceilI c wt) m y g) : escB c a wt l ((y : Int) :: escF c a (ceilI c wt) l (withinF c a (ceilI c wt) l) m (y, g)) g = true := by
  have hp := esc_path hc ha wt hl m y g h
  have hlen : ((y : Int) :: escF c a (ceilI c wt) l (withinF c a (ceilI c wt) l) m (y, g)).length = m + 1 := by simp [escF_len]
  generalize ((y : Int) :: escF c a (ceilI c wt) l (withinF c a (ceilI c wt) l) m (y, g)) = P at *
  refine escB_yes (by omega) fun i hi => ?_
  obtain ⟨h1, h2⟩ := hp.1 i (by omega)
  unfold cellI at h2
  have hr : rI (nAt P i) 0 ((l.ground.length : Int) - 1) = true := by simp [rI]; omega
  have hw : (decide (i = 0) || !(wayF l (nAt P (i - 1)) (nAt P i) == 0)) = true := by
    cases i with
    | zero => rfl
    | succ i =>
      have := hp.2 i (by omega)
      simp [this]
  unfold okAt
  rw [hr, hw]
  by_cases him : i = m
  · subst him
    rw [show i - i = 0 by omega] at h1
    obtain ⟨k1, k2, k3, k4, _⟩ := h1
    rw [W_row0] at k4
    unfold startN at k4
    rw [map_at _ k1] at k4
    cases hwa : wAt l (nAt P i).toNat
    · simp [hwa] at k4; omega
    · simp only [hwa, if_true, bareI] at k4
      rw [if_pos (by omega), decide_eq_true (by omega : i + 1 = P.length)]
      simp [k4]
  · have hm : m - i = (m - i - 1) + 1 := by omega
    rw [hm] at h1
    have hb := esc_bare hc ha hl (ceilI c wt) h1
    have hba : bareI l (nAt P i).toNat = gAt l (nAt P i).toNat + l.clear := by simp [bareI, hb.1]
    rw [if_neg (by omega), decide_eq_false (by omega : ¬i + 1 = P.length), hb.1]
    have := hb.2.1
    rw [hba] at this
    simp [this]
end
end Go.Sx

namespace Go.Sx
open Go.Proofs
set_option maxRecDepth 10000

/-! The true heights -/
def peW (ws : List Int) (i : Nat) : Int := if 0 < ws.length then nAt ws (i % ws.length) else 0
def pnW (ws : List Int) (i : Nat) : Int := if 0 < ws.length then nAt ws ((i * 7) % ws.length) else 0
section
variable (c : Craft) (a : AirW) (wt : Int) (l : LandM) (x ws : List Int) (h : Int)
def tAt : Nat → Int
  | 0 => h
  | i + 1 => if c.eng = 1 then tAt i - lostP c (wayF l (nAt x i) (nAt x (i + 1))) (partS a.e (peW ws (i + 1))) (partS a.n (pnW ws (i + 1))) else leftI c a wt (wayF l (nAt x i) (nAt x (i + 1))) (tAt i)
end
theorem pw_b {ws : List Int} (h : (ws.all fun x => rI x 0 100) = true) (k : Nat) : (0 ≤ peW ws k ∧ peW ws k ≤ 100) ∧ (0 ≤ pnW ws k ∧ pnW ws k ≤ 100) := by
  rw [List.all_eq_true] at h
  have key : ∀ i, i < ws.length → 0 ≤ nAt ws i ∧ nAt ws i ≤ 100 := fun i hi => rI_le (h _ (List.mem_of_getElem? (nAt_get hi)))
  unfold peW pnW
  by_cases hl : 0 < ws.length
  · rw [if_pos hl, if_pos hl]
    exact ⟨key _ (Nat.mod_lt _ hl), key _ (Nat.mod_lt _ hl)⟩
  · rw [if_neg hl, if_neg hl]; omega
theorem left_mono {c : Craft} (hc : CraftOk c) (a : AirW) (ce : Int) (s : Stp) {g g' : Int} (h : g ≤ g') : leftF c a ce s g ≤ leftF c a ce s g' :=
  (need_left hc a ce s _ _).1 (Int.le_trans ((need_left hc a ce s _ _).2 (Int.le_refl _)) h)
section
variable {c : Craft} (hc : CraftOk c) {a : AirW} (ha : AirOk a) (wt : Int) {l : LandM} {x ws : List Int} (hws : (ws.all fun x => rI x 0 100) = true) (h : Int)
include hc ha hws
theorem tAt_ge : ∀ i, (∀ j, j < i → wayF l (nAt x j) (nAt x (j + 1)) ≠ 0) → hAt c a wt l x h i ≤ tAt c a wt l x ws h i ∧ tAt c a wt l x ws h i ≤ h
  | 0, _ => ⟨Int.le_refl _, Int.le_refl _⟩
  | i + 1, hw => by
    have ih := tAt_ge i fun j hj => hw j (by omega)
    have hwi := wayF_rI (hw i (by omega))
    have hp := pw_b hws (i + 1)
    have he := ha.e
    have hn := ha.n
    have e1 := partS_in (s := a.e) (by omega) hp.1
    have n1 := partS_in (s := a.n) (by omega) hp.2
    have hb := lostI_b hc ha (dirW_ok hwi 0)
    have hl := loss_in hc a _ hwi _ _ e1 n1
    have e : hAt c a wt l x h (i + 1) = leftF c a (ceilI c wt) ⟨0, dxW (wayF l (nAt x i) (nAt x (i + 1))), dyW (wayF l (nAt x i) (nAt x (i + 1)))⟩ (hAt c a wt l x h i) := rfl
    have e2 : leftI c a wt (wayF l (nAt x i) (nAt x (i + 1))) (tAt c a wt l x ws h i) = leftF c a (ceilI c wt) ⟨0, dxW (wayF l (nAt x i) (nAt x (i + 1))), dyW (wayF l (nAt x i) (nAt x (i + 1)))⟩ (tAt c a wt l x ws h i) := rfl
    rw [e]
    unfold tAt
    rw [e2]
    have hlp : 1 ≤ lostP c (wayF l (nAt x i) (nAt x (i + 1))) (partS a.e (peW ws (i + 1))) (partS a.n (pnW ws (i + 1))) := by unfold lostP; omega
    have hbt := leftF_b hc ha (dirW_ok hwi 0) (ceilI c wt) (tAt c a wt l x ws h i)
    split
    · rename_i h1
      unfold leftF
      rw [if_pos h1]
      omega
    · have := left_mono hc a (ceilI c wt) ⟨0, dxW (wayF l (nAt x i) (nAt x (i + 1))), dyW (wayF l (nAt x i) (nAt x (i + 1)))⟩ ih.1
      omega
end

/-! Oracles -/
def rsB (p : Int × Int × List Int × Int) : List D := [.int .i64 p.1, .int .i64 p.2.1, .sl (intL p.2.2.1), .int .i64 p.2.2.2]
theorem rsB_inj (a b : Int × Int × List Int × Int) (h : rsB a = rsB b) : a = b := by
  obtain ⟨a1, a2, a3, a4⟩ := a; obtain ⟨b1, b2, b3, b4⟩ := b
  simp only [rsB, List.cons.injEq, D.int.injEq, D.sl.injEq, true_and, and_true] at h
  rw [h.1, h.2.1, intL_inj h.2.2.1, h.2.2.2]
def okB (c : Craft) (l : LandM) (a : AirW) (p : Int × Int × List Int × Int) : Prop := okO c l a ∧ p.2.2.1.length ≤ 9223372036854775807 ∧ (0 ≤ p.2.2.2 ∧ p.2.2.2 ≤ 20000)
noncomputable abbrev qBeg := gCLA (β := Int × Int × List Int × Int) okB rsB (fun c l a p => .bool (begB c a p.1 l p.2.1 p.2.2.1 p.2.2.2))
noncomputable abbrev nF : List (FuncId × (List D → Option D)) := (22, qBeg) :: nE
theorem nF_ok : OkO Try.prog (mkO nF) := mkO_ok (gCLA_ok _ _ _ fun c l a p h => begins_t c h.1.1 l h.1.2.1 a h.1.2.2 p.1 p.2.1 p.2.2.1 h.2.1 p.2.2.2 h.2.2) <| nE_ok

/-! What the law asks of answers -/
section
variable {c : Craft} (hc : CraftOk c) {a : AirW} (ha : AirOk a) (wt : Int) {l : LandM} (hl : LandOk l)
include hc ha hl
theorem begB_no {k : Nat} (hk : k < l.ground.length) {x : List Int} {h : Int} (hh : 0 ≤ h ∧ h ≤ 20000) (hn : h < nAt (needsF c a (ceilI c wt) l) k) : begB c a wt l k x h = false := by
  unfold begB
  cases he : escB c a wt l x h
  · simp
  · have hb := escB_need hc ha wt hl hh he
    by_cases h0 : nAt x 0 = (k : Int)
    · have h1 := hb.2.2
      rw [show (nAt x 0).toNat = k by omega] at h1
      have := needs_le (c := c) (a := a) hl (ceilI c wt) hk (x.length - 1)
      omega
    · have : (nAt x 0 == (k : Int)) = false := by simpa using h0
      simp [this]
theorem many_no {k : Nat} (hk : k < l.ground.length) {h : Int} (hn : h < nAt (needsF c a (ceilI c wt) l) k) : manyI c a (ceilI c wt) l k h = ((withinF c a (ceilI c wt) l).length : Int) := by
  have hm := many_spec hc ha hl (ceilI c wt) hk h
  by_cases hlt : manyI c a (ceilI c wt) l k h < ((withinF c a (ceilI c wt) l).length : Int)
  · have h1 := hm.2.2.2 hlt
    rw [W_iter hl (ceilI c wt) (by omega)] at h1
    have := needs_le (c := c) (a := a) hl (ceilI c wt) hk (manyI c a (ceilI c wt) l k h).toNat
    omega
  · omega
theorem many_yes {k : Nat} (hk : k < l.ground.length) {h : Int} (hh : 0 ≤ h ∧ h ≤ 20000) (hn : nAt (needsF c a (ceilI c wt) l) k ≤ h) :
    manyI c a (ceilI c wt) l k h ≠ ((withinF c a (ceilI c wt) l).length : Int) ∧ EscInv c a l (ceilI c wt) (manyI c a (ceilI c wt) l k h).toNat k h := by
  have hm := many_spec hc ha hl (ceilI c wt) hk h
  have hp := W_pos (c := c) (a := a) (l := l) (ceilI c wt)
  have hlt : manyI c a (ceilI c wt) l k h < ((withinF c a (ceilI c wt) l).length : Int) := by
    refine Int.not_le.1 fun hge => ?_
    have := hm.2.2.1 ((withinF c a (ceilI c wt) l).length - 1) (by omega)
    rw [← needsF_row] at this
    omega
  exact ⟨by omega, hk, hh, by omega, hm.2.2.2 hlt, fun j hj => hm.2.2.1 j (by omega)⟩
theorem begB_len {k : Nat} (hk : k < l.ground.length) {x : List Int} {h : Int} (hh : 0 ≤ h ∧ h ≤ 20000) (he : begB c a wt l k x h = true) : (manyI c a (ceilI c wt) l k h).toNat + 1 ≤ x.length := by
  simp only [begB, Bool.and_eq_true] at he
  have hb := escB_need hc ha wt hl hh he.2
  have h0 : nAt x 0 = (k : Int) := by simpa using he.1.2
  have hm := many_spec hc ha hl (ceilI c wt) hk h
  have h1 := hb.2.2
  rw [show (nAt x 0).toNat = k by omega] at h1
  refine Nat.not_lt.1 fun hlt => ?_
  have h2 := hm.2.2.1 (x.length - 1) (by omega)
  rw [W_iter hl (ceilI c wt) (by omega)] at h2
  omega
end
end Go.Sx
