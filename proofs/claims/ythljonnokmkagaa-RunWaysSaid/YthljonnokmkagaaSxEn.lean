/- Own work: a calculus of contracts for the programs of this kit: parts SxE82r, SxE83r. -/
import Derived.Test.YthljonnokmkagaaSxEm
import Derived.Test.YthljonnokmkagaaSxEk
set_option linter.unusedVariables false
set_option linter.unusedSimpArgs false
namespace Go.Sx
open Go.Proofs
set_option maxRecDepth 10000

/-! Ways over water that are proposed -/
def strAt (l : LandM) (x : List Int) (i : Nat) : Bool := decide (i = 0) || (lenF l (nAt x (i - 1)) (nAt x i) == 10)
def okT (l : LandM) (x : List Int) (i : Nat) : Bool := okP l (wetB l) x i && strAt l x i
def tB (l : LandM) (x : List Int) (frm to : Int) : Bool := decide (0 < x.length) && (nAt x 0 == frm) && (nAt x (x.length - 1) == to) && (List.range x.length).all (okT l x)
theorem tB_no {l : LandM} {x : List Int} {frm to : Int} {i : Nat} (hi : i < x.length) (h : okT l x i = false) : tB l x frm to = false := by
  unfold tB
  rw [Bool.and_eq_false_iff]
  right
  rw [List.all_eq_false]
  exact ⟨i, by simpa using hi, by simp [h]⟩
theorem tB_yes {l : LandM} {x : List Int} {frm to : Int} (h0 : 0 < x.length) (hf : nAt x 0 = frm) (ht : nAt x (x.length - 1) = to) (h : ∀ i, i < x.length → okT l x i = true) : tB l x frm to = true := by
  unfold tB
  simp only [Bool.and_eq_true, decide_eq_true_eq, List.all_eq_true, beq_iff_eq]
  exact ⟨⟨⟨h0, hf⟩, ht⟩, fun i hi => h i (by simpa using hi)⟩
set_option maxHeartbeats 4000000 in
theorem ref3_Taxis_t (l : LandM) (hl : LandOk l) (x : List Int) (hx : x.length ≤ 1000) (frm to : Int) :
    Pure Try.prog 62 [.agg l.c, .sl (intL x), .int .i64 frm, .int .i64 to] (.bool (tB l x frm to)) := by
  have oW := fun (f t : Int) (hf : cellI l f) (ht : 0 ≤ t) => gWayR_eq hl hf ht
  have hno := fun i hi (h1 : okT l x i = false) => tB_no (l := l) (x := x) (frm := frm) (to := to) (i := i) hi h1
  have hdef : ∀ i, okT l x i = (rI (nAt x i) 0 ((l.ground.length : Int) - 1) && wetB l (nAt x i) && (List.range i).all (fun k => !(nAt x k == nAt x i)) && (decide (i = 0) || !(wayF l (nAt x (i - 1)) (nAt x i) == 0)) && (decide (i = 0) || (lenF l (nAt x (i - 1)) (nAt x i) == 10))) := fun i => rfl
  have hsm := hl.small
  have hlc : l.c = [.int .i64 l.wide, .int .i64 l.deep, .sl (intL l.ground), .sl (boolL l.water), .int .i64 l.clear] := rfl
  rw [hlc] at oW ⊢
  by_cases hx0 : x.length = 0
  · have hz : ((x.length : Int) == 0) = true := by simp; exact List.length_eq_zero_iff.1 hx0
    have he : tB l x frm to = false := by simp [tB, hx0]
    rw [he]
    refine pure_of_wc (rs := [.tmp 8]) (m := 93) [(6, [(21, false, false, [])]), (11, [(9, false, false, [])]), (14, [(12, false, false, [])])] nI_ok (by kernel_rfl) Try.func62 rfl (by kernel_rfl) rfl rfl (by kernel_rfl) ?_
    simp only [RT, FS, ↓RE, okR, argEnv, Nat.reduceAdd, Nat.reduceSub, Nat.reduceLT, Nat.reduceLeDiff, Nat.reduceEqDiff, reduceIte, intL_len, hz]
  have hz : ((x.length : Int) == 0) = false := beq_eq_false_iff_ne.2 (by omega)
  have i0 : ∀ h, indexAddrD Try.prog h 25 (.sl (intL x)) (.int .i64 0) = some (.ref [.int .i64 (nAt x 0)] 0) := fun h => sI_ix (i := 0) (nAt_get (by omega)) h
  cases hf : (nAt x 0 != frm)
  rotate_left
  · have he : tB l x frm to = false := by
      have : (nAt x 0 == frm) = false := by simpa using hf
      simp [tB, this]
    rw [he]
    refine pure_of_wc (rs := [.tmp 8]) (m := 93) [(6, [(21, false, false, [])]), (11, [(9, false, false, [])]), (14, [(12, false, false, [])])] nI_ok (by kernel_rfl) Try.func62 rfl (by kernel_rfl) rfl rfl (by kernel_rfl) ?_
    simp only [RT, FS, ↓RE, okR, argEnv, Nat.reduceAdd, Nat.reduceSub, Nat.reduceLT, Nat.reduceLeDiff, Nat.reduceEqDiff, reduceIte, intL_len, hz, i0, hf]
  have wl : IntKind.i64.wrap ((x.length : Int) - 1) = ((x.length - 1 : Nat) : Int) := by rw [wrap_i64 (by omega) (by omega)]; omega
  have il := sI_ix (nAt_get (x := x) (i := x.length - 1) (by omega))
  cases ht : (nAt x (x.length - 1) != to)
  rotate_left
  · have he : tB l x frm to = false := by
      have : (nAt x (x.length - 1) == to) = false := by simpa using ht
      simp [tB, this]
    rw [he]
    refine pure_of_wc (rs := [.tmp 8]) (m := 93) [(6, [(21, false, false, [])]), (11, [(9, false, false, [])]), (14, [(12, false, false, [])])] nI_ok (by kernel_rfl) Try.func62 rfl (by kernel_rfl) rfl rfl (by kernel_rfl) ?_
    simp only [RT, FS, ↓RE, okR, argEnv, Nat.reduceAdd, Nat.reduceSub, Nat.reduceLT, Nat.reduceLeDiff, Nat.reduceEqDiff, reduceIte, intL_len, hz, i0, hf, wl, il, ht]
  have hyes := fun h1 => tB_yes (l := l) (x := x) (frm := frm) (to := to) (by omega) (by simpa using hf) (by simpa using ht) h1
  generalize tB l x frm to = PB at *
  generalize hOK : okT l x = OK at *
  refine pure_of_wc (rs := [.tmp 8]) (m := 93) [(6, [(21, false, false, [])]), (11, [(9, false, false, [])]), (14, [(12, false, false, [])])] nI_ok (by kernel_rfl) Try.func62 rfl (by kernel_rfl) rfl rfl (by kernel_rfl) ?_
  simp only [RT, FS, ↓RE, okR, argEnv, Nat.reduceAdd, Nat.reduceSub, Nat.reduceLT, Nat.reduceLeDiff, Nat.reduceEqDiff, reduceIte, intL_len, hz, i0, hf, wl, il, ht]
  refine loopV (ι := Nat) nI_ok [(6, [(21, false, false, [])]), (11, [(9, false, false, [])]), (14, [(12, false, false, [])])] (fun i => [(1, .sl (intL x)), (4, .ptr 0 0), (9, .int .i64 (i : Int))])
    (fun i => [(0, .box l.c)]) 1 (fun i => i ≤ x.length ∧ ∀ j, j < i → OK j = true) (fun i => x.length - i) 0 (by kernel_rfl) (by kernel_rfl) ⟨Nat.zero_le _, fun j hj => by omega⟩ ?_ ?_
  · simp [headW, heapW, envW, blkLt, D.ltL, D.lt, look, hget, hlc]
  rintro i ⟨hi, hp⟩
  rcases Nat.lt_or_ge i x.length with hlt | hge
  rotate_left
  · have hq : ((i : Int) < (x.length : Int)) = False := by simp; omega
    have hie : i = x.length := by omega
    simp only [RT, FS, ↓RE, okR, argEnv, Nat.reduceAdd, Nat.reduceSub, Nat.reduceLT, Nat.reduceLeDiff, Nat.reduceEqDiff, reduceIte, intL_len, hq, decide_false]
    rw [hyes fun j hj => hp j (by omega)]
  have hq : ((i : Int) < (x.length : Int)) = True := by simp [hlt]
  have wi := wrap_i64 (z := (i : Int) + 1) (by omega) (by omega)
  have ixi := sI_ix (nAt_get hlt)
  have wn := wrap_i64 (z := (l.ground.length : Int) - 1) (by omega) (by omega)
  have hd := hdef i
  have hnoi := hno i hlt
  cases hr : rI (nAt x i) 0 ((l.ground.length : Int) - 1)
  · rw [hr] at hd
    simp only [Bool.false_and] at hd
    simp only [RT, FS, ↓RE, okR, argEnv, Nat.reduceAdd, Nat.reduceSub, Nat.reduceLT, Nat.reduceLeDiff, Nat.reduceEqDiff, reduceIte, intL_len, hq, decide_true, ixi, wn, hlc, gI3_eq, hr]
    rw [hnoi hd]
  rw [hr] at hd
  have hrb := rI_le hr
  have hci : cellI l (nAt x i) := by unfold cellI; omega
  obtain ⟨c, hc⟩ : ∃ c : Nat, nAt x i = (c : Int) := ⟨(nAt x i).toNat, by omega⟩
  have hwt := sB_ix (hl.w_at (i := c) (by omega))
  have hwe : wetB l (nAt x i) = wAt l c := by rw [hc]; rfl
  rw [hwe] at hd
  rw [← hc] at hwt
  cases ha : wAt l c
  · rw [ha] at hd hwt
    have hd : OK i = false := by rw [hd]; simp
    simp only [RT, FS, ↓RE, okR, argEnv, Nat.reduceAdd, Nat.reduceSub, Nat.reduceLT, Nat.reduceLeDiff, Nat.reduceEqDiff, reduceIte, intL_len, hq, decide_true, ixi, wn, hlc, gI3_eq, hr, hwt]
    rw [hnoi hd]
  rw [ha] at hd hwt
  simp only [RT, FS, ↓RE, okR, argEnv, Nat.reduceAdd, Nat.reduceSub, Nat.reduceLT, Nat.reduceLeDiff, Nat.reduceEqDiff, reduceIte, intL_len, hq, decide_true, ixi, wn, hlc, gI3_eq, hr, hwt]
  refine loopV (ι := Nat) nI_ok [(6, [(21, false, false, [])]), (11, [(9, false, false, [])]), (14, [(12, false, false, [])])] (fun k => [(1, .sl (intL x)), (4, .ptr 0 0), (9, .int .i64 (i : Int)), (10, .int .i64 (k : Int))])
    (fun k => [(0, .box l.c)]) 1 (fun k => k ≤ i ∧ ∀ j, j < k → nAt x j ≠ nAt x i) (fun k => i - k) 0 (by kernel_rfl) (by kernel_rfl) ⟨Nat.zero_le _, fun j hj => by omega⟩ ?_ ?_
  · simp [headW, heapW, envW, blkLt, D.ltL, D.lt, look, hget, hlc]
  rintro k ⟨hk, hkn⟩
  rcases Nat.lt_or_ge k i with hkl | hkg
  · have hq2 : ((k : Int) < (i : Int)) = True := by simp [hkl]
    have wk := wrap_i64 (z := (k : Int) + 1) (by omega) (by omega)
    have ixk := sI_ix (nAt_get (show k < x.length by omega))
    by_cases he : nAt x k = nAt x i
    · have hb : (nAt x k == nAt x i) = true := by simpa using he
      have hd : OK i = false := by
        rw [hd]
        have : (List.range i).all (fun k => !(nAt x k == nAt x i)) = false := by
          rw [List.all_eq_false]
          exact ⟨k, by simpa using hkl, by simp [he]⟩
        simp [this]
      simp only [RT, FS, ↓RE, okR, argEnv, Nat.reduceAdd, Nat.reduceSub, Nat.reduceLT, Nat.reduceLeDiff, Nat.reduceEqDiff, reduceIte, hq2, decide_true, ixi, ixk, hb]
      rw [hnoi hd]
    · have hb : (nAt x k == nAt x i) = false := by simpa using he
      simp only [RT, FS, ↓RE, okR, argEnv, Nat.reduceAdd, Nat.reduceSub, Nat.reduceLT, Nat.reduceLeDiff, Nat.reduceEqDiff, reduceIte, hq2, decide_true, ixi, ixk, hb, wk]
      refine ⟨k + 1, ⟨by omega, fun j hj => ?_⟩, by omega, ?_⟩
      · rcases Nat.lt_or_ge j k with h1 | h1
        · exact hkn j h1
        · rw [show j = k by omega]; exact he
      · simp [headW, heapW, envW, blkLt, D.ltL, D.lt, look, hget, hlc]
  have hq2 : ((k : Int) < (i : Int)) = False := by simp; omega
  have hall : (List.range i).all (fun k => !(nAt x k == nAt x i)) = true := by
    rw [List.all_eq_true]
    intro j hj
    have := hkn j (by simp at hj; omega)
    simpa using this
  rw [hall] at hd
  have fin : OK i = true → ∀ j, j < i + 1 → OK j = true := fun h1 j hj => by
    rcases Nat.lt_or_ge j i with h2 | h2
    · exact hp j h2
    · rw [show j = i by omega]; exact h1
  cases i with
  | zero =>
    have hpos : decide ((0 : Int) < ((0 : Nat) : Int)) = false := rfl
    have hd : OK 0 = true := by rw [hd]; simp
    simp only [RT, FS, ↓RE, okR, argEnv, Nat.reduceAdd, Nat.reduceSub, Nat.reduceLT, Nat.reduceLeDiff, Nat.reduceEqDiff, reduceIte, hq2, decide_false, hpos, wi]
    refine ⟨0 + 1, ⟨by omega, fin hd⟩, by omega, ?_⟩
    simp [headW, heapW, envW, blkLt, D.ltL, D.lt, look, hget, hlc]
  | succ i =>
    have hpos : decide ((0 : Int) < ((i + 1 : Nat) : Int)) = true := by simp
    have hcast : ((i + 1 : Nat) : Int) - 1 = (i : Int) := by omega
    have wp := wrap_i64 (z := (i : Int)) (by omega) (by omega)
    have ixp := sI_ix (nAt_get (show i < x.length by omega))
    have hpi := hp i (by omega)
    have hcp : cellI l (nAt x i) := by
      rw [hdef i] at hpi
      simp only [Bool.and_eq_true] at hpi
      have := rI_le hpi.1.1.1.1
      unfold cellI; omega
    have oW' := oW (nAt x i) (nAt x (i + 1)) hcp hrb.1
    have hi1 : (i + 1) - 1 = i := rfl
    simp only [hi1] at hd ⊢
    have hne : decide (i + 1 = 0) = false := by simp
    rw [hne] at hd
    cases hwy : (wayF l (nAt x i) (nAt x (i + 1)) == 0)
    rotate_left
    · rw [hwy] at hd
      have hd : OK (i + 1) = false := by rw [hd]; simp
      simp only [RT, FS, ↓RE, okR, argEnv, Nat.reduceAdd, Nat.reduceSub, Nat.reduceLT, Nat.reduceLeDiff, Nat.reduceEqDiff, reduceIte, hq2, decide_false, hpos, hcast, wp, ixp, ixi, hlc, oW', hwy]
      rw [hnoi hd]
    rw [hwy] at hd
    have hd2 := hd
    have hwn : wayF l (nAt x i) (nAt x (i + 1)) ≠ 0 := by simpa using hwy
    have oS' := gSteps_eq (wayF_rI hwn)
    cases hst : (lenF l (nAt x i) (nAt x (i + 1)) != 10)
    rotate_left
    · have hst2 : (lenF l (nAt x i) (nAt x (i + 1)) == 10) = false := by simpa using hst
      rw [hst2] at hd2
      have hd : OK (i + 1) = false := by rw [hd2]; simp
      simp only [lenF] at hst
      simp only [RT, FS, ↓RE, okR, argEnv, Nat.reduceAdd, Nat.reduceSub, Nat.reduceLT, Nat.reduceLeDiff, Nat.reduceEqDiff, reduceIte, hq2, decide_false, hpos, hcast, wp, ixp, ixi, hlc, oW', hwy, oS', hst]
      rw [hnoi hd]
    have hst2 : (lenF l (nAt x i) (nAt x (i + 1)) == 10) = true := by simpa using hst
    rw [hst2] at hd2
    have hd : OK (i + 1) = true := by rw [hd2]; simp
    simp only [lenF] at hst
    simp only [RT, FS, ↓RE, okR, argEnv, Nat.reduceAdd, Nat.reduceSub, Nat.reduceLT, Nat.reduceLeDiff, Nat.reduceEqDiff, reduceIte, hq2, decide_false, hpos, hcast, wp, ixp, ixi, hlc, oW', hwy, oS', hst, wi]
    refine ⟨i + 1 + 1, ⟨by omega, fin hd⟩, by omega, ?_⟩
    simp [headW, heapW, envW, blkLt, D.ltL, D.lt, look, hget, hlc]
end Go.Sx

namespace Go.Sx
open Go.Proofs
set_option maxRecDepth 10000

/-! Straight ways: plain theory -/
theorem net_str {l : LandM} (hl : LandOk l) : Net l.ground.length (strL l.wide l.deep) := by
  have hn := net_steps hl
  refine ⟨hn.n, fun c h0 h1 s hs => hn.ok c h0 h1 s (List.mem_filter.1 hs).1, fun c h0 h1 s hs => ?_, fun c h0 h1 => (hn.sorted c h0 h1).filter _⟩
  obtain ⟨hs1, hs2⟩ := List.mem_filter.1 hs
  obtain ⟨t, ht, e1, e2⟩ := hn.sym c h0 h1 s hs1
  exact ⟨t, List.mem_filter.2 ⟨ht, by simpa [isStr, e2] using hs2⟩, e1, e2⟩
theorem str_len {al : Int → Bool} {w d : Int} : ∀ {p : List Int} {v : Cst}, PathC al (strL w d) p v → v.len = 10 * (v.cells - 1)
  | [x], v, h => by rw [h.2]; rfl
  | x :: y :: r, v, h => by
    obtain ⟨_, s, hs, _, u, hu, rfl⟩ := h
    have ih := str_len hu
    have h2 := (List.mem_filter.1 hs).2
    simp only [isStr, beq_iff_eq] at h2
    simp only [addC, h2]; omega
section
variable {l : LandM} (hl : LandOk l) {al : Int → Bool}
include hl
end
section
variable {l : LandM} (hl : LandOk l) {frm to : Int} (hf : cellI l frm) (ht : cellI l to)
include hl hf ht
end
end Go.Sx
