/- Own work: a calculus of contracts for the programs of this kit: parts SxE82r, SxE83r. -/
import Derived.Test.YthljonnokmkagaaSxEm
import Derived.Test.YthljonnokmkagaaSxEk
set_option linter.unusedVariables false
set_option linter.unusedSimpArgs false
namespace Go.Sx
open Go.Proofs
set_option maxRecDepth 10000

/-! Ways over water that are proposed -/
def strAt (l : LandM) (x : List Int) (i : Nat) : Bool := decide (i = 0) || (lenF l (nAt x (i - 1)) (nAt x i) == 10)
def okT (l : LandM) (x : List Int) (i : Nat) : Bool := okP l (wetB l) x i && strAt l x i
def tB (l : LandM) (x : List Int) (frm to : Int) : Bool := decide (0 < x.length) && (nAt x 0 == frm) && (nAt x (x.length - 1) == to) && (List.range x.length).all (okT l x)
theorem tB_no {l : LandM} {x : List Int} {frm to : Int} {i : Nat} (hi : i < x.length) (h : okT l x i = false) : tB l x frm to = false := by
  unfold tB
  rw [Bool.and_eq_false_iff]
  right
  rw [List.all_eq_false]
  exact ⟨i, by simpa using hi, by simp [h]⟩
theorem tB_yes {l : LandM} {x : List Int} {frm to : Int} (h0 : 0 < x.length) (hf : nAt x 0 = frm) (ht : nAt x (x.length - 1) = to) (h : ∀ i, i < x.length → okT l x i = true) : tB l x frm to = true := by
  unfold tB
  simp only [Bool.and_eq_true, decide_eq_true_eq, List.all_eq_true, beq_iff_eq]
  exact ⟨⟨⟨h0, hf⟩, ht⟩, fun i hi => h i (by simpa using hi)⟩
set_option maxHeartbeats 4000000 in
theorem ref3_Taxis_t (l : LandM) (hl : LandOk l) (x : List Int) (hx : x.length ≤ 1000) (frm to : Int) :
    Pure Try.prog 62 [.agg l.c, .sl (intL x), .int .i64 frm, .int .i64 to] (.bool (tB l x frm to)) := by
  have oW := fun (f t : Int) (hf : cellI l f) (ht : 0 ≤ t) => gWayR_eq hl hf ht
  have hno := fun i hi (h1 : okT l x i = false) => tB_no (l := l) (x := x) (frm := frm) (to := to) (i := i) hi h1
  have hdef : ∀ i, okT l x i = (rI (nAt x i) 0 ((l.ground.length : Int) - 1) && wetB l (nAt x i) && (List.range i).all (fun k => !(nAt x k == nAt x i)) && (decide (i = 0) || !(wayF l (nAt x (i - 1)) (nAt x i) == 0)) && (decide (i = 0) || (lenF l (nAt x (i - 1)) (nAt x i) == 10))) := fun i => rfl
  have hsm := hl.small
  have hlc : l.c = [.int .i64 l.wide, .int .i64 l.deep, .sl (intL l.ground), .sl (boolL l.water), .int .i64 l.clear] := rfl
  rw [hlc] at oW ⊢
  by_cases hx0 : x.length = 0
  · have hz : ((x.length : Int) == 0) = true := by simp; exact List.length_eq_zero_iff.1 hx0
    have he : tB l x frm to = false := by simp [tB, hx0]
    rw [he]
    refine pure_of_wc (rs := [.tmp 8]) (m := 93) [(6, [(21, false, false, [])]), (11, [(9, false, false, [])]), (14, [(12, false, false, [])])] nI_ok (by kernel_rfl) Try.func62 rfl (by kernel_rfl) rfl rfl (by kernel_rfl) ?_
    simp only [RT, FS, ↓RE, okR, argEnv, Nat.reduceAdd, Nat.reduceSub, Nat.reduceLT, Nat.reduceLeDiff, Nat.reduceEqDiff, reduceIte, intL_len, hz]
  have hz : ((x.length : Int) == 0) = false := beq_eq_false_iff_ne.2 (by omega)
  have i0 : ∀ h, indexAddrD Try.prog h 25 (.sl (intL x)) (.int .i64 0) = some (.ref [.int .i64 (nAt x 0)] 0) := fun h => sI_ix (i := 0) (nAt_get (by omega)) h
  cases hf : (nAt x 0 != frm)
  rotate_left
  · have he : tB l x frm to = false := by
      have : (nAt x 0 == frm) = false := by simpa using hf
      simp [tB, this]
    rw [he]
    refine pure_of_wc (rs := [.tmp 8]) (m := 93) [(6, [(21, false, false, [])]), (11, [(9, false, false, [])]), (14, [(12, false, false, [])])] nI_ok (by kernel_rfl) Try.func62 rfl (by kernel_rfl) rfl rfl (by kernel_rfl) ?_
    simp only [RT, FS, ↓RE, okR, argEnv, Nat.reduceAdd, Nat.reduceSub, Nat.reduceLT, Nat.reduceLeDiff, Nat.reduceEqDiff, reduceIte, intL_len, hz, i0, hf]
  have wl : IntKind.i64.wrap ((x.length : Int) - 1) = ((x.length - 1 : Nat) : Int) := by rw [wrap_i64 (by omega) (by omega)]; omega
  have il := sI_ix (nAt_get (x := x) (i := x.length - 1) (by omega))
  cases ht : (nAt x (x.length - 1) != to)
  rotate_left
  · have he : tB l x frm to = false := by
      have : (nAt x (x.length - 1) == to) = false := by simpa using ht
      simp [tB, this]
    rw [he]
    refine pure_of_wc (rs := [.tmp 8]) (m := 93) [(6, [(21, false, false, [])]), (11, [(9, false, false, [])]), (14, [(12, false, false, [])])] nI_ok (by kernel_rfl) Try.func62 rfl (by kernel_rfl) rfl rfl (by kernel_rfl) ?_
    simp only [RT, FS, ↓RE, okR, argEnv, Nat.reduceAdd, Nat.reduceSub, Nat.reduceLT, Nat.reduceLeDiff, Nat.reduceEqDiff, reduceIte, intL_len, hz, i0, hf, wl, il, ht]
  have hyes := fun h1 => tB_yes (l := l) (x := x) (frm := frm) (to := to) (by omega) (by simpa using hf) (by simpa using ht) h1
  generalize tB l x frm to = PB at *
  generalize hOK : okT l x = OK at *
  refine pure_of_wc (rs := [.tmp 8]) (m := 93) [(6, [(21, false, false, [])]), (11, [(9, false, false, [])]), (14, [(12, false, false, [])])] nI_ok (by kernel_rfl) Try.func62 rfl (by kernel_rfl) rfl rfl (by kernel_rfl) ?_
  simp only [RT, FS, ↓RE, okR, argEnv, Nat.reduceAdd, Nat.reduceSub, Nat.reduceLT, Nat.reduceLeDiff, Nat.reduceEqDiff, reduceIte, intL_len, hz, i0, hf, wl, il, ht]
  refine loopV (ι := Nat) nI_ok [(6, [(21, false, false, [])]), (11, [(9, false, false, [])]), (14, [(12, false, false, [])])] (fun i => [(1, .sl (intL x)), (4, .ptr 0 0), (9, .int .i64 (i : Int))])
    (fun i => [(0, .box l.c)]) 1 (fun i => i ≤ x.length ∧ ∀ j, j < i → OK j = true) (fun i => x.length - i) 0 (by kernel_rfl) (by kernel_rfl) ⟨Nat.zero_le _, fun j hj => by omega⟩ ?_ ?_
  · simp [headW, heapW, envW, blkLt, D.ltL, D.lt, look, hget, hlc]
  rintro i ⟨hi, hp⟩
  rcases Nat.lt_or_ge i x.length with hlt | hge
  rotate_left
  · have hq : ((i : Int) < (x.length : Int)) = False := by simp; omega
    have hie : i = x.length := by omega
    simp only [RT, FS, ↓RE, okR, argEnv, Nat.reduceAdd, Nat.reduceSub, Nat.reduceLT, Nat.reduceLeDiff, Nat.reduceEqDiff, reduceIte, intL_len, hq, decide_false]
    rw [hyes fun j hj => hp j (by omega)]
  have hq : ((i : Int) < (x.length : Int)) = True := by simp [hlt]
  have wi := wrap_i64 (z := (i : Int) + 1) (by omega) (by omega)
  have ixi := sI_ix (nAt_get hlt)
  have wn := wrap_i64 (z := (l.ground.length : Int) - 1) (by omega) (by omega)
  have hd := hdef i
  have hnoi := hno i hlt
  cases hr : rI (nAt x i) 0 ((l.ground.length : Int) - 1)
  · rw [hr] at hd
    simp only [Bool.false_and] at hd
    simp only [RT, FS, ↓RE, okR, argEnv, Nat.reduceAdd, Nat.reduceSub, Nat.reduceLT, Nat.reduceLeDiff, Nat.reduceEqDiff, reduceIte, intL_len, hq, decide_true, ixi, wn, hlc, gI3_eq, hr]
    rw [hnoi hd]
  rw [hr] at hd
  have hrb := rI_le hr
  have hci : cellI l (nAt x i) := by unfold cellI; omega
  obtain ⟨c, hc⟩ : ∃ c : Nat, nAt x i = (c : Int) := ⟨(nAt x i).toNat, by omega⟩
  have hwt := sB_ix (hl.w_at (i := c) (by omega))
  have hwe : wetB l (nAt x i) = wAt l c := by rw [hc]; rfl
  rw [hwe] at hd
  rw [← hc] at hwt
  cases ha : wAt l c
  · rw [ha] at hd hwt
    have hd : OK i = false := by rw [hd]; simp
    simp only [RT, FS, ↓RE, okR, argEnv, Nat.reduceAdd, Nat.reduceSub, Nat.reduceLT, Nat.reduceLeDiff, Nat.reduceEqDiff, reduceIte, intL_len, hq, decide_true, ixi, wn, hlc, gI3_eq, hr, hwt]
    rw [hnoi hd]
  rw [ha] at hd hwt
  simp only [RT, FS, ↓RE, okR, argEnv, Nat.reduceAdd, Nat.reduceSub, Nat.reduceLT, Nat.reduceLeDiff, Nat.reduceEqDiff, reduceIte, intL_len, hq, decide_true, ixi, wn, hlc, gI3_eq, hr, hwt]
  refine loopV (ι := Nat) nI_ok [(6, [(21, false, false, [])]), (11, [(9, false, false, [])]), (14, [(12, false, false, [])])] (fun k => [(1, .sl (intL x)), (4, .ptr 0 0), (9, .int .i64 (i : Int)), (10, .int .i64 (k : Int))])
    (fun k => [(0, .box l.c)]) 1 (fun k => k ≤ i ∧ ∀ j, j < k → nAt x j ≠ nAt x i) (fun k => i - k) 0 (by kernel_rfl) (by kernel_rfl) ⟨Nat.zero_le _, fun j hj => by omega⟩ ?_ ?_
  · simp [headW, heapW, envW, blkLt, D.ltL, D.lt, look, hget, hlc]
  rintro k ⟨hk, hkn⟩
  rcases Nat.lt_or_ge k i with hkl | hkg
  · have hq2 : ((k : Int) < (i : Int)) = True := by simp [hkl]
    have wk := wrap_i64 (z := (k : Int) + 1) (by omega) (by omega)
    have ixk := sI_ix (nAt_get (show k < x.length by omega))
    by_cases he : nAt x k = nAt x i
    · have hb : (nAt x k == nAt x i) = true := by simpa using he
      have hd : OK i = false := by
        rw [hd]
        have : (List.range i).all (fun k => !(nAt x k == nAt x i)) = false := by
          rw [List.all_eq_false]
          exact ⟨k, by simpa using hkl, by simp [he]⟩
        simp [this]
      simp only [RT, FS, ↓RE, okR, argEnv, Nat.reduceAdd, Nat.reduceSub, Nat.reduceLT, Nat.reduceLeDiff, Nat.reduceEqDiff, reduceIte, hq2, decide_true, ixi, ixk, hb]
      rw [hnoi hd]
    · have hb : (nAt x k == nAt x i) = false := by simpa using he
      simp only [RT, FS, ↓RE, okR, argEnv, Nat.reduceAdd, Nat.reduceSub, Nat.reduceLT, Nat.reduceLeDiff, Nat.reduceEqDiff, reduceIte, hq2, decide_true, ixi, ixk, hb, wk]
      refine ⟨k + 1, ⟨by omega, fun j hj => ?_⟩, by omega, ?_⟩
      · rcases Nat.lt_or_ge j k with h1 | h1
        · exact hkn j h1
        · rw [show j = k by omega]; exact he
      · simp [headW, heapW, envW, blkLt, D.ltL, D.lt, look, hget, hlc]
  have hq2 : ((k : Int) < (i : Int)) = False := by simp; omega
  have hall : (List.range i).all (fun k => !(nAt x k == nAt x i)) = true := by
    rw [List.all_eq_true]
    intro j hj
    have := hkn j (by simp at hj; omega)
    simpa using this
  rw [hall] at hd
  have fin : OK i = true → ∀ j, j < i + 1 → OK j = true := fun h1 j hj => by
    rcases Nat.lt_or_ge j i with h2 | h2
    · exact hp j h2
    · rw [show j = i by omega]; exact h1
  cases i with
  | zero =>
    have hpos : decide ((0 : Int) < ((0 : Nat) : Int)) = false := rfl
    have hd : OK 0 = true := by rw [hd]; simp
    simp only [RT, FS, ↓RE, okR, argEnv, Nat.reduceAdd, Nat.reduceSub, Nat.reduceLT, Nat.reduceLeDiff, Nat.reduceEqDiff, reduceIte, hq2, decide_false, hpos, wi]
    refine ⟨0 + 1, ⟨by omega, fin hd⟩, by omega, ?_⟩
    simp [headW, heapW, envW, blkLt, D.ltL, D.lt, look, hget, hlc]
  | succ i =>
    have hpos : decide ((0 : Int) < ((i + 1 : Nat) : Int)) = true := by simp
    have hcast : ((i + 1 : Nat) : Int) - 1 = (i : Int) := by omega
    have wp := wrap_i64 (z := (i : Int)) (by omega) (by omega)
    have ixp := sI_ix (nAt_get (show i < x.length by omega))
    have hpi := hp i (by omega)
    have hcp : cellI l (nAt x i) := by
      rw [hdef i] at hpi
      simp only [Bool.and_eq_true] at hpi
      have := rI_le hpi.1.1.1.1
      unfold cellI; omega
    have oW' := oW (nAt x i) (nAt x (i + 1)) hcp hrb.1
    have hi1 : (i + 1) - 1 = i := rfl
    simp only [hi1] at hd ⊢
    have hne : decide (i + 1 = 0) = false := by simp
    rw [hne] at hd
    cases hwy : (wayF l (nAt x i) (nAt x (i + 1)) == 0)
    rotate_left
    · rw [hwy] at hd
      have hd : OK (i + 1) = false := by rw [hd]; simp
      simp only [RT, FS, ↓RE, okR, argEnv, Nat.reduceAdd, Nat.reduceSub, Nat.reduceLT, Nat.reduceLeDiff, Nat.reduceEqDiff, reduceIte, hq2, decide_false, hpos, hcast, wp, ixp, ixi, hlc, oW', hwy]
      rw [hnoi hd]
    rw [hwy] at hd
    have hd2 := hd
    have hwn : wayF l (nAt x i) (nAt x (i + 1)) ≠ 0 := by simpa using hwy
    have oS' := gSteps_eq (wayF_rI hwn)
    cases hst : (lenF l (nAt x i) (nAt x (i + 1)) != 10)
    rotate_left
    · have hst2 : (lenF l (nAt x i) (nAt x (i + 1)) == 10) = false := by simpa using hst
      rw [hst2] at hd2
      have hd : OK (i + 1) = false := by rw [hd2]; simp
      simp only [lenF] at hst
      simp only [RT, FS, ↓RE, okR, argEnv, Nat.reduceAdd, Nat.reduceSub, Nat.reduceLT, Nat.reduceLeDiff, Nat.reduceEqDiff, reduceIte, hq2, decide_false, hpos, hcast, wp, ixp, ixi, hlc, oW', hwy, oS', hst]
      rw [hnoi hd]
    have hst2 : (lenF l (nAt x i) (nAt x (i + 1)) == 10) = true := by simpa using hst
    rw [hst2] at hd2
    have hd : OK (i + 1) = true := by rw [hd2]; simp
    simp only [lenF] at hst
    simp only [RT, FS, ↓RE, okR, argEnv, Nat.reduceAdd, Nat.reduceSub, Nat.reduceLT, Nat.reduceLeDiff, Nat.reduceEqDiff, reduceIte, hq2, decide_false, hpos, hcast, wp, ixp, ixi, hlc, oW', hwy, oS', hst, wi]
    refine ⟨i + 1 + 1, ⟨by omega, fin hd⟩, by omega, ?_⟩
    simp [headW, heapW, envW, blkLt, D.ltL, D.lt, look, hget, hlc]
end Go.Sx

namespace Go.Sx
open Go.Proofs
set_option maxRecDepth 10000

/-! Straight ways: plain theory -/
theorem net_str {l : LandM} (hl : LandOk l) : Net l.ground.length (strL l.wide l.deep) := by
  have hn := net_steps hl
  refine ⟨hn.n, fun c h0 h1 s hs => hn.ok c h0 h1 s (List.mem_filter.1 hs).1, fun c h0 h1 s hs => ?_, fun c h0 h1 => (hn.sorted c h0 h1).filter _⟩
  obtain ⟨hs1, hs2⟩ := List.mem_filter.1 hs
  obtain ⟨t, ht, e1, e2⟩ := hn.sym c h0 h1 s hs1
  exact ⟨t, List.mem_filter.2 ⟨ht, by simpa [isStr, e2] using hs2⟩, e1, e2⟩
theorem str_len {al : Int → Bool} {w d : Int} : ∀ {p : List Int} {v : Cst}, PathC al (strL w d) p v → v.len = 10 * (v.cells - 1)
  | [x], v, h => by rw [h.2]; rfl
  | x :: y :: r, v, h => by
    obtain ⟨_, s, hs, _, u, hu, rfl⟩ := h
    have ih := str_len hu
    have h2 := (List.mem_filter.1 hs).2
    simp only [isStr, beq_iff_eq] at h2
    simp only [addC, h2]; omega
theorem str_mono {al : Int → Bool} {w d : Int} : ∀ {p : List Int} {v : Cst}, PathC al (strL w d) p v → PathC al (stepsL w d) p v
  | [x], v, h => h
  | x :: y :: r, v, h => by
    obtain ⟨ha, s, hs, e, u, hu, hv⟩ := h
    exact ⟨ha, s, (List.mem_filter.1 hs).1, e, u, str_mono hu, hv⟩
section
variable {l : LandM} (hl : LandOk l) {al : Int → Bool}
include hl
theorem str_path : ∀ {x : Int} {p : List Int} {v : Cst}, cellI l x → PathC al (stepsL l.wide l.deep) (x :: p) v → (∀ i, i < p.length → lenF l (nAt (x :: p) i) (nAt (x :: p) (i + 1)) = 10) → PathC al (strL l.wide l.deep) (x :: p) v
  | x, [], v, _, h, _ => h
  | x, y :: p, v, hx, h, hs => by
    obtain ⟨ha, s, hsm, rfl, u, hu, hv⟩ := h
    obtain ⟨k, rfl⟩ : ∃ k : Nat, x = (k : Int) := ⟨x.toNat, by unfold cellI at hx; omega⟩
    have hk : k < l.ground.length := by unfold cellI at hx; omega
    have hw := wayF_step hl hk hsm
    have hy := steps_in hl hk hsm
    have h0 := hs 0 (by simp)
    refine ⟨ha, s, List.mem_filter.2 ⟨hsm, ?_⟩, rfl, u, str_path (by unfold cellI; omega) hu (fun i hi => hs (i + 1) (by simp; omega)), hv⟩
    have h1 : lenF l k s.cell = 10 := h0
    unfold lenF at h1
    simp only [isStr, beq_iff_eq]
    rw [hw.2]
    exact h1
theorem path_str : ∀ {x : Int} {p : List Int} {v : Cst}, cellI l x → PathC al (strL l.wide l.deep) (x :: p) v → ∀ i, i < p.length → lenF l (nAt (x :: p) i) (nAt (x :: p) (i + 1)) = 10
  | x, [], v, _, _ => fun i hi => by simp at hi
  | x, y :: p, v, hx, h => fun i hi => by
    obtain ⟨ha, s, hsm, rfl, u, hu, hv⟩ := h
    obtain ⟨h1, h2⟩ := List.mem_filter.1 hsm
    obtain ⟨k, rfl⟩ : ∃ k : Nat, x = (k : Int) := ⟨x.toNat, by unfold cellI at hx; omega⟩
    have hk : k < l.ground.length := by unfold cellI at hx; omega
    have hw := wayF_step hl hk h1
    have hy := steps_in hl hk h1
    cases i with
    | zero =>
      show lenF l k s.cell = 10
      unfold lenF
      simp only [isStr, beq_iff_eq] at h2
      rw [hw.2] at h2
      exact h2
    | succ i => exact path_str (by unfold cellI; omega) hu i (by simpa using hi)
theorem tB_path {x : List Int} {frm to : Int} (h : tB l x frm to = true) : ∃ r, x = frm :: r ∧ cellI l frm ∧ PathC (wetB l) (strL l.wide l.deep) x ⟨10 * ((x.length : Int) - 1), x.length⟩ ∧ x.getLast? = some to := by
  have hp : passB l (wetB l) x frm to = true := by
    simp only [tB, Bool.and_eq_true, List.all_eq_true, okT] at h
    simp only [passB, Bool.and_eq_true, List.all_eq_true]
    exact ⟨h.1, fun i hi => (h.2 i hi).1⟩
  obtain ⟨r, rfl, hc, hpa, hlast⟩ := pass_path hl hp
  have hs : ∀ i, i < r.length → lenF l (nAt (frm :: r) i) (nAt (frm :: r) (i + 1)) = 10 := fun i hi => by
    simp only [tB, Bool.and_eq_true, List.all_eq_true, okT, strAt, Bool.or_eq_true, decide_eq_true_eq, beq_iff_eq, List.mem_range] at h
    have := (h.2 (i + 1) (by simp; omega)).2
    rcases this with h | h
    · omega
    · simpa using h
  have hst := str_path hl hc hpa hs
  have hle := str_len hst
  refine ⟨r, rfl, hc, ?_, hlast⟩
  dsimp only at hle
  rw [hle] at hst
  exact hst
theorem path_tB {x : Int} {p : List Int} {v : Cst} {to : Int} (hx : cellI l x) (h : PathC (wetB l) (strL l.wide l.deep) (x :: p) v) (hlast : (x :: p).getLast? = some to) (hnd : (x :: p).Nodup) : tB l (x :: p) x to = true := by
  have hp := (path_pass hl hx (str_mono h) hlast hnd).1
  have hs := path_str hl hx h
  simp only [passB, Bool.and_eq_true, List.all_eq_true] at hp
  simp only [tB, Bool.and_eq_true, List.all_eq_true, okT]
  refine ⟨hp.1, fun i hi => ⟨hp.2 i hi, ?_⟩⟩
  simp only [List.mem_range] at hi
  cases i with
  | zero => rfl
  | succ i =>
    have := hs i (by simpa using hi)
    simp [strAt, this]
end
section
variable {l : LandM} (hl : LandOk l) {frm to : Int} (hf : cellI l frm) (ht : cellI l to)
include hl hf ht
theorem taxi_none (h : mget (costsT l to) frm = none) (x : List Int) : tB l x frm to = false := by
  cases hp : tB l x frm to
  · rfl
  · obtain ⟨r, rfl, _, h2, h3⟩ := tB_path hl hp
    have hw := path_walk (net_str hl) hf h2 h3
    obtain ⟨v, hv, _⟩ := (far_spec (al := wetB l) (net_str hl).n (net_str hl).ok ht).2.1 _ _ hw
    rw [show farA (wetB l) (strL l.wide l.deep) to = costsT l to from rfl, h] at hv; cases hv
theorem taxi_some {v : Cst} (h : mget (costsT l to) frm = some v) :
    tB l (taxiA l frm to) frm to = true ∧ (taxiA l frm to).length ≤ 203 ∧ ((taxiA l frm to).length : Int) = v.cells ∧
    (∀ y ∈ taxiA l frm to, cellI l y ∧ wetB l y = true) ∧ ∀ x, tB l x frm to = true → lessL 0 x 0 (taxiA l frm to) = false := by
  have hnet := net_str hl
  have hmo := farA_ok hnet.n (wetB l) _ hnet.ok ht
  have hvb := hmo.b _ _ h
  have hn : v.cells ≤ ((cellsN (farA (wetB l) (strL l.wide l.deep) to) frm + 1 : Nat) : Int) := by
    have h' : mget (farA (wetB l) (strL l.wide l.deep) to) frm = some v := h
    simp only [cellsN, h', Option.getD_some]; omega
  obtain ⟨r, e1, e2, e3, e4, e5, e6⟩ := along_spec (al := wetB l) hnet ht _ frm v hf h hn
  have ea : taxiA l frm to = frm :: r := e1
  have hpos := path_pos e2
  have hsl := str_len e2
  rw [ea]
  refine ⟨path_tB hl hf e2 e3 e4, by simp; omega, by simp; omega, fun y hy => ⟨path_range hnet hf e2 y hy, path_al e2 y hy⟩, fun x hx => ?_⟩
  obtain ⟨q, rfl, h1, h2, h3⟩ := tB_path hl hx
  have hw := path_walk hnet hf h2 h3
  obtain ⟨v', hv', hle⟩ := (far_spec (al := wetB l) hnet.n hnet.ok ht).2.1 _ _ hw
  rw [show farA (wetB l) (strL l.wide l.deep) to = costsT l to from rfl, h] at hv'; cases hv'
  unfold leC at hle
  dsimp only at hle
  simp only [List.length_cons] at h2 hle hpos
  unfold lessL
  rw [if_pos rfl]
  split
  · rename_i hlen
    refine e6 q ?_ h3
    simp only [List.length_cons] at hlen
    have : v = ⟨10 * (((q.length + 1 : Nat) : Int) - 1), ((q.length + 1 : Nat) : Int)⟩ := by
      obtain ⟨a, b⟩ := v
      simp only [Cst.mk.injEq]
      dsimp only at hsl hpos
      omega
    rw [this]; exact h2
  · rename_i hlen
    simp only [List.length_cons] at hlen ⊢
    simp only [decide_eq_false_iff_not]; omega
end
end Go.Sx
