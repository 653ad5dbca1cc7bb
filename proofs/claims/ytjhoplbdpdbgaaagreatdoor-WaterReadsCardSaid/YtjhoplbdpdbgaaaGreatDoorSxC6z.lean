/- Own work: contracts of functions, used in the proof of a law. -/
import Derived.Test.YtjhoplbdpdbgaaaGreatDoorSxC5z
set_option linter.unusedVariables false
set_option linter.unusedSimpArgs false
namespace Go.Sx
open Go.Proofs
set_option maxRecDepth 10000

def atStep (c t : Int) (s : Int × Int) (r : Rd) : Int × Int := (max s.1 (r.lo - c * bFar r.minute t), min s.2 (r.hi + c * bFar r.minute t))
def atG (c lo hi : Int) (rs : List Rd) (t : Int) : Int × Int := rs.foldl (atStep c t) (lo, hi)
def gAt : List D → Option D
 | [.agg [.int .i64 a, .int .i64 b, .int .i64 c, .sl es], .int .i64 t] => match decRds es with
  | some rs => if gaOk ⟨a, b, c, rs⟩ = true ∧ 0 ≤ t ∧ t ≤ 1440 then some (.agg [.int .i64 (atG a b c rs t).1, .int .i64 (atG a b c rs t).2]) else none
  | none => none
 | _ => none
theorem gAt_eq {a b c t : Int} {rs : List Rd} (h : gaOk ⟨a, b, c, rs⟩ = true ∧ 0 ≤ t ∧ t ≤ 1440) : gAt [.agg [.int .i64 a, .int .i64 b, .int .i64 c, .sl (rs.map Rd.d)], .int .i64 t] = some (.agg [.int .i64 (atG a b c rs t).1, .int .i64 (atG a b c rs t).2]) := by
 simp only [gAt, decRds_map]; rw [if_pos h]
theorem gAt_inv {ds : List D} {d : D} (h : gAt ds = some d) : ∃ a b c rs t, (gaOk ⟨a, b, c, rs⟩ = true ∧ 0 ≤ t ∧ t ≤ 1440) ∧ ds = [.agg [.int .i64 a, .int .i64 b, .int .i64 c, .sl (rs.map Rd.d)], .int .i64 t] ∧ d = .agg [.int .i64 (atG a b c rs t).1, .int .i64 (atG a b c rs t).2] := by
 unfold gAt at h
 split at h
 ·split at h
  ·rename_i rs hrs
   split at h
   ·rename_i hc
    cases h
    exact ⟨_, _, _, rs, _, hc, by rw [decRds_inv hrs], rfl⟩
   ·cases h
  ·cases h
 ·cases h

theorem at_t (a b c t : Int) (rs : List Rd) (h : gaOk ⟨a, b, c, rs⟩ = true ∧ 0 ≤ t ∧ t ≤ 1440) : Pure Tryz.prog 75 [.agg [.int .i64 a, .int .i64 b, .int .i64 c, .sl (rs.map Rd.d)], .int .i64 t] (.agg [.int .i64 (atG a b c rs t).1, .int .i64 (atG a b c rs t).2]) := by
 obtain ⟨hga, ht⟩ := h
 obtain ⟨hrs, hrate, hspan, hl⟩ := gaOk_inv hga
 dsimp only at hrs hrate hspan hl
 refine pure_of_wc (rs := [.cell 4 70]) (m := 48) [(5, [(8, false, false, [])]), (6, [(18, false, true, [(7, 0), (6, 0), (5, 0), (2, 0)]), (2, false, false, [])])] o5_ok (by kernel_rfl) Tryz.func75 rfl (by kernel_rfl) rfl rfl (by kernel_rfl) ?_
 simp only [FS, ↓RE, okR, argEnv, Nat.reduceAdd, Nat.reduceSub, Nat.reduceLT, Nat.reduceLeDiff, Nat.reduceEqDiff, reduceIte, List.length_map]
 refine loopV (ι := Nat) o5_ok [(5, [(8, false, false, [])]), (6, [(18, false, true, [(7, 0), (6, 0), (5, 0), (2, 0)]), (2, false, false, [])])] (fun i => [(1, .int .i64 t), (2, .ptr 0 0), (4, .ptr 1 0), (5, .ptr 2 0), (15, .sl (rs.map Rd.d)), (16, .int .i64 (rs.length : Int)), (17, .int .i64 (i : Int))])
  (fun i => [(2, .box [.int .i64 (atG a b c (rs.take i) t).1, .int .i64 (atG a b c (rs.take i) t).2]), (1, .box [.int .i64 0, .int .i64 0]), (0, .box [.int .i64 a, .int .i64 b, .int .i64 c, .sl (rs.map Rd.d)])]) 3
  (fun i => i ≤ rs.length) (fun i => rs.length - i) 0 (by kernel_rfl) (by kernel_rfl) (Nat.zero_le _) ?_ ?_
 ·simp [headW, heapW, envW, blkLt, D.ltL, D.lt, look, hget, atG]
 intro i hil
 rcases Nat.lt_or_ge i rs.length with hlt | hge
 ·have hc : ((i : Int) < (rs.length : Int)) = True := by simp [hlt]
  obtain ⟨r, hr⟩ : ∃ r, rs[i]? = some r := ⟨rs[i], by simp [hlt]⟩
  obtain ⟨hmin, hv, _⟩ := hrs r (List.mem_of_getElem? hr)
  have hix := fun h => ix_rd Fz.und_25 Fz.size_75 hr h
  have hfar := gFar_eq (x := r.minute) (y := t) (by omega)
  have hb : 0 ≤ bFar r.minute t ∧ bFar r.minute t ≤ 1440 := by simp only [bFar]; omega
  have hp : 0 ≤ a * bFar r.minute t ∧ a * bFar r.minute t ≤ 1000 * 1440 :=
   ⟨Int.mul_nonneg hrate.1 hb.1, Int.mul_le_mul hrate.2 hb.2 hb.1 (by omega)⟩
  have w1 := wrap_i64 (z := a * bFar r.minute t) (by omega) (by omega)
  have w2 := wrap_i64 (z := r.lo - a * bFar r.minute t) (by omega) (by omega)
  have w3 := wrap_i64 (z := r.hi + a * bFar r.minute t) (by omega) (by omega)
  have w4 := wrap_i64 (z := (i : Int) + 1) (by omega) (by omega)
  have hs : atG a b c (rs.take (i + 1)) t = atStep a t (atG a b c (rs.take i) t) r := by
   rw [List.take_add_one, hr]; simp [atG]
  simp only [FS, ↓RE, okR, argEnv, Nat.reduceAdd, Nat.reduceSub, Nat.reduceLT, Nat.reduceLeDiff, Nat.reduceEqDiff, reduceIte, hix, hc, decide_true, hfar, w1, w2, w3, w4]
  refine ⟨i + 1, by omega, by omega, ?_⟩
  simp [headW, heapW, envW, blkLt, D.ltL, D.lt, look, hget, hs, atStep]
 ·have hc : ((i : Int) < (rs.length : Int)) = False := by simp; omega
  simp only [FS, ↓RE, okR, argEnv, Nat.reduceAdd, Nat.reduceSub, Nat.reduceLT, Nat.reduceLeDiff, Nat.reduceEqDiff, reduceIte, hc, decide_false]
  have : i = rs.length := by omega
  subst this
  simp

theorem rAt_t (a b c t : Int) (rs : List Rd) (h : gaOk ⟨a, b, c, rs⟩ = true ∧ 0 ≤ t ∧ t ≤ 1440) : Pure Tryz.prog 78 [.agg [.int .i64 a, .int .i64 b, .int .i64 c, .sl (rs.map Rd.d)], .int .i64 t] (.agg [.int .i64 (atG a b c rs t).1, .int .i64 (atG a b c rs t).2]) := by
 obtain ⟨hga, ht⟩ := h
 obtain ⟨hrs, hrate, hspan, hl⟩ := gaOk_inv hga
 dsimp only at hrs hrate hspan hl
 refine pure_of_wc (rs := [.cell 4 70]) (m := 52) [(6, [(8, false, false, [])]), (7, [(18, false, true, [(7, 0), (6, 0), (5, 0), (2, 0)]), (2, false, false, [])])] o5_ok (by kernel_rfl) Tryz.func78 rfl (by kernel_rfl) rfl rfl (by kernel_rfl) ?_
 simp only [FS, ↓RE, okR, argEnv, Nat.reduceAdd, Nat.reduceSub, Nat.reduceLT, Nat.reduceLeDiff, Nat.reduceEqDiff, reduceIte, List.length_map]
 refine loopV (ι := Nat) o5_ok [(6, [(8, false, false, [])]), (7, [(18, false, true, [(7, 0), (6, 0), (5, 0), (2, 0)]), (2, false, false, [])])] (fun i => [(1, .int .i64 t), (2, .ptr 0 0), (4, .ptr 1 0), (5, .ptr 2 0), (6, .int .i64 (i : Int))])
  (fun i => [(2, .box [.int .i64 (atG a b c (rs.take i) t).1, .int .i64 (atG a b c (rs.take i) t).2]), (1, .box [.int .i64 0, .int .i64 0]), (0, .box [.int .i64 a, .int .i64 b, .int .i64 c, .sl (rs.map Rd.d)])]) 3
  (fun i => i ≤ rs.length) (fun i => rs.length - i) 0 (by kernel_rfl) (by kernel_rfl) (Nat.zero_le _) ?_ ?_
 ·simp [headW, heapW, envW, blkLt, D.ltL, D.lt, look, hget, atG]
 intro i hil
 rcases Nat.lt_or_ge i rs.length with hlt | hge
 ·have hc : ((i : Int) < (rs.length : Int)) = True := by simp [hlt]
  obtain ⟨r, hr⟩ : ∃ r, rs[i]? = some r := ⟨rs[i], by simp [hlt]⟩
  obtain ⟨hmin, hv, _⟩ := hrs r (List.mem_of_getElem? hr)
  have hix := fun h => ix_rd Fz.und_25 Fz.size_75 hr h
  have hfar := gFar_eq (x := r.minute) (y := t) (by omega)
  have hb : 0 ≤ bFar r.minute t ∧ bFar r.minute t ≤ 1440 := by simp only [bFar]; omega
  have hp : 0 ≤ a * bFar r.minute t ∧ a * bFar r.minute t ≤ 1000 * 1440 :=
   ⟨Int.mul_nonneg hrate.1 hb.1, Int.mul_le_mul hrate.2 hb.2 hb.1 (by omega)⟩
  have w1 := wrap_i64 (z := a * bFar r.minute t) (by omega) (by omega)
  have w2 := wrap_i64 (z := r.lo - a * bFar r.minute t) (by omega) (by omega)
  have w3 := wrap_i64 (z := r.hi + a * bFar r.minute t) (by omega) (by omega)
  have w4 := wrap_i64 (z := (i : Int) + 1) (by omega) (by omega)
  have hs : atG a b c (rs.take (i + 1)) t = atStep a t (atG a b c (rs.take i) t) r := by
   rw [List.take_add_one, hr]; simp [atG]
  simp only [FS, ↓RE, okR, argEnv, Nat.reduceAdd, Nat.reduceSub, Nat.reduceLT, Nat.reduceLeDiff, Nat.reduceEqDiff, reduceIte, hix, hc, decide_true, hfar, w1, w2, w3, w4, List.length_map]
  refine ⟨i + 1, by omega, by omega, ?_⟩
  simp [headW, heapW, envW, blkLt, D.ltL, D.lt, look, hget, hs, atStep]
 ·have hc : ((i : Int) < (rs.length : Int)) = False := by simp; omega
  simp only [FS, ↓RE, okR, argEnv, Nat.reduceAdd, Nat.reduceSub, Nat.reduceLT, Nat.reduceLeDiff, Nat.reduceEqDiff, reduceIte, hc, decide_false, List.length_map]
  have : i = rs.length := by omega
  subst this
  simp

def single (g : Ga) (r : Rd) : Bool := decide (g.most < r.lo) || decide (r.hi < g.least)
def pairB (g : Ga) (r s : Rd) : Bool := decide (g.rate * bFar r.minute s.minute < max (r.lo - s.hi) (s.lo - r.hi))
def inner (g : Ga) (r : Rd) : List Rd → Nat → Option Nat
 | [], _ => none
 | s :: l, j => if pairB g r s then some j else inner g r l (j + 1)
def outer (g : Ga) : List Rd → Nat → Int × Int × Bool
 | [], _ => (0, 0, false)
 | r :: l, i => if single g r then ((i : Int), (i : Int), true) else match inner g r l (i + 1) with
  | some j => ((i : Int), (j : Int), true)
  | none => outer g l (i + 1)
def clashG (g : Ga) : Int × Int × Bool := outer g g.rs 0
theorem drop_at {α : Type} {l : List α} {i : Nat} {x : α} (h : l[i]? = some x) : l.drop i = x :: l.drop (i + 1) := by
 obtain ⟨hlt, rfl⟩ := List.getElem?_eq_some_iff.1 h
 exact List.drop_eq_getElem_cons hlt

def clD (p : Int × Int × Bool) : D := .tup [.int .i64 p.1, .int .i64 p.2.1, .bool p.2.2]

theorem clash_t (g : Ga) (hga : gaOk g = true) : Pure Tryz.prog 105 [.agg g.c] (clD (clashG g)) := by
 obtain ⟨hrs, hrate, hspan, hl⟩ := gaOk_inv hga
 obtain ⟨a, b, c, rs⟩ := g
 dsimp only at hrs hrate hspan hl
 simp only [Ga.c]
 refine pure_of_wc (rs := [.tmp 2, .tmp 3, .tmp 4]) (m := 74) [(10, [(24, false, false, [])])] o5_ok (by kernel_rfl) Tryz.func105 rfl (by kernel_rfl) rfl rfl (by kernel_rfl) ?_
 simp only [FS, ↓RE, okR, argEnv, Nat.reduceAdd, Nat.reduceSub, Nat.reduceLT, Nat.reduceLeDiff, Nat.reduceEqDiff, reduceIte, List.length_map]
 refine loopV (ι := Nat) o5_ok [(10, [(24, false, false, [])])] (fun i => [(1, .ptr 0 0), (10, .sl (rs.map Rd.d)), (11, .int .i64 (rs.length : Int)), (12, .int .i64 (i : Int))])
  (fun i => [(0, .box [.int .i64 a, .int .i64 b, .int .i64 c, .sl (rs.map Rd.d)])]) 1
  (fun i => i ≤ rs.length ∧ clashG ⟨a, b, c, rs⟩ = outer ⟨a, b, c, rs⟩ (rs.drop i) i) (fun i => rs.length - i) 0 (by kernel_rfl) (by kernel_rfl) ⟨Nat.zero_le _, rfl⟩ ?_ ?_
 ·simp [headW, heapW, envW, blkLt, D.ltL, D.lt, look, hget]
 rintro i ⟨hil, hcl⟩
 rcases Nat.lt_or_ge i rs.length with hlt | hge
 rotate_left
 ·have hc : ((i : Int) < (rs.length : Int)) = False := by simp; omega
  have : i = rs.length := by omega
  subst this
  rw [List.drop_length] at hcl
  simp only [FS, ↓RE, okR, argEnv, Nat.reduceAdd, Nat.reduceSub, Nat.reduceLT, Nat.reduceLeDiff, Nat.reduceEqDiff, reduceIte, hc, decide_false, hcl, outer]
  rfl
 have hc : ((i : Int) < (rs.length : Int)) = True := by simp [hlt]
 obtain ⟨r, hr⟩ : ∃ r, rs[i]? = some r := ⟨rs[i], by simp [hlt]⟩
 obtain ⟨hmin, hv, _⟩ := hrs r (List.mem_of_getElem? hr)
 have hix := fun h => ix_rd Fz.und_25 Fz.size_75 hr h
 rw [drop_at hr] at hcl
 simp only [outer] at hcl
 have w4 := wrap_i64 (z := (i : Int) + 1) (by omega) (by omega)
 have wi := fun z hz => @wrap_i64 z hz
 cases h1 : decide (c < r.lo)
 rotate_left
 ·simp only [FS, ↓RE, okR, argEnv, Nat.reduceAdd, Nat.reduceSub, Nat.reduceLT, Nat.reduceLeDiff, Nat.reduceEqDiff, reduceIte, hix, hc, decide_true, h1]
  rw [hcl, show single ⟨a, b, c, rs⟩ r = true by simp [single, of_decide_eq_true h1]]
  rfl
 cases h2 : decide (r.hi < b)
 rotate_left
 ·simp only [FS, ↓RE, okR, argEnv, Nat.reduceAdd, Nat.reduceSub, Nat.reduceLT, Nat.reduceLeDiff, Nat.reduceEqDiff, reduceIte, hix, hc, decide_true, h1, h2]
  rw [hcl, show single ⟨a, b, c, rs⟩ r = true by simp [single, of_decide_eq_true h2]]
  rfl
 have hs : single ⟨a, b, c, rs⟩ r = false := by simp [single, of_decide_eq_false h1, of_decide_eq_false h2]
 rw [hs] at hcl
 simp only [FS, ↓RE, okR, argEnv, Nat.reduceAdd, Nat.reduceSub, Nat.reduceLT, Nat.reduceLeDiff, Nat.reduceEqDiff, reduceIte, hix, hc, decide_true, h1, h2, w4]
 refine loopV (ι := Nat) o5_ok [(10, [(24, false, false, [])])] (fun j => [(1, .ptr 0 0), (10, .sl (rs.map Rd.d)), (11, .int .i64 (rs.length : Int)), (12, .int .i64 (i : Int)), (5, .int .i64 (i : Int)), (6, .ptr 1 0), (7, .int .i64 (j : Int))])
  (fun j => [(1, .box [.int .i64 r.minute, .int .i64 r.lo, .int .i64 r.hi, .int .i64 r.src]), (0, .box [.int .i64 a, .int .i64 b, .int .i64 c, .sl (rs.map Rd.d)])]) 2
  (fun j => j ≤ rs.length ∧ inner ⟨a, b, c, rs⟩ r (rs.drop (i + 1)) (i + 1) = inner ⟨a, b, c, rs⟩ r (rs.drop j) j) (fun j => rs.length - j) (i + 1) (by kernel_rfl) (by kernel_rfl) ⟨by omega, rfl⟩ ?_ ?_
 ·simp [headW, heapW, envW, blkLt, D.ltL, D.lt, look, hget]
 rintro j ⟨hjl, hin⟩
 rcases Nat.lt_or_ge j rs.length with hjt | hjge
 rotate_left
 ·have hc2 : ((j : Int) < (rs.length : Int)) = False := by simp; omega
  have : j = rs.length := by omega
  subst this
  rw [List.drop_length] at hin
  rw [hin] at hcl
  simp only [FS, ↓RE, okR, argEnv, Nat.reduceAdd, Nat.reduceSub, Nat.reduceLT, Nat.reduceLeDiff, Nat.reduceEqDiff, reduceIte, hc2, decide_false, List.length_map, w4]
  exact ⟨i + 1, ⟨by omega, by simpa [inner] using hcl⟩, by omega, by simp [headW, heapW, envW, blkLt, D.ltL, D.lt, look, hget]⟩
 have hc2 : ((j : Int) < (rs.length : Int)) = True := by simp [hjt]
 obtain ⟨q, hq⟩ : ∃ q, rs[j]? = some q := ⟨rs[j], by simp [hjt]⟩
 obtain ⟨hmin2, hv2, _⟩ := hrs q (List.mem_of_getElem? hq)
 have hix2 := fun h => ix_rd Fz.und_25 Fz.size_75 hq h
 have hfar := gFar_eq (x := r.minute) (y := q.minute) (by omega)
 have hb : 0 ≤ bFar r.minute q.minute ∧ bFar r.minute q.minute ≤ 1440 := by simp only [bFar]; omega
 have hp : 0 ≤ a * bFar r.minute q.minute ∧ a * bFar r.minute q.minute ≤ 1000 * 1440 :=
  ⟨Int.mul_nonneg hrate.1 hb.1, Int.mul_le_mul hrate.2 hb.2 hb.1 (by omega)⟩
 have w1 := wrap_i64 (z := a * bFar r.minute q.minute) (by omega) (by omega)
 have w2 := wrap_i64 (z := r.lo - q.hi) (by omega) (by omega)
 have w3 := wrap_i64 (z := q.lo - r.hi) (by omega) (by omega)
 have w5 := wrap_i64 (z := (j : Int) + 1) (by omega) (by omega)
 rw [drop_at hq] at hin
 simp only [inner] at hin
 cases hpr : pairB ⟨a, b, c, rs⟩ r q
 ·rw [hpr] at hin
  have h5 : decide (a * bFar r.minute q.minute < max (r.lo - q.hi) (q.lo - r.hi)) = false := hpr
  simp only [FS, ↓RE, okR, argEnv, Nat.reduceAdd, Nat.reduceSub, Nat.reduceLT, Nat.reduceLeDiff, Nat.reduceEqDiff, reduceIte, hc2, decide_true, List.length_map, hix2, hfar, w1, w2, w3, w5, h5]
  exact ⟨j + 1, ⟨by omega, by simpa using hin⟩, by omega, by simp [headW, heapW, envW, blkLt, D.ltL, D.lt, look, hget]⟩
 ·rw [hpr] at hin
  have h5 : decide (a * bFar r.minute q.minute < max (r.lo - q.hi) (q.lo - r.hi)) = true := hpr
  simp only [FS, ↓RE, okR, argEnv, Nat.reduceAdd, Nat.reduceSub, Nat.reduceLT, Nat.reduceLeDiff, Nat.reduceEqDiff, reduceIte, hc2, decide_true, List.length_map, hix2, hfar, w1, w2, w3, w5, h5]
  rw [hcl, hin]; rfl

theorem rClash_t (g : Ga) (hga : gaOk g = true) : Pure Tryz.prog 25 [.agg g.c] (clD (clashG g)) := by
 obtain ⟨hrs, hrate, hspan, hl⟩ := gaOk_inv hga
 obtain ⟨a, b, c, rs⟩ := g
 dsimp only at hrs hrate hspan hl
 simp only [Ga.c]
 refine pure_of_wc (rs := [.tmp 2, .tmp 3, .tmp 4]) (m := 82) [(11, [(9, false, false, [])])] o5_ok (by kernel_rfl) Tryz.func25 rfl (by kernel_rfl) rfl rfl (by kernel_rfl) ?_
 simp only [FS, ↓RE, okR, argEnv, Nat.reduceAdd, Nat.reduceSub, Nat.reduceLT, Nat.reduceLeDiff, Nat.reduceEqDiff, reduceIte, List.length_map]
 refine loopV (ι := Nat) o5_ok [(11, [(9, false, false, [])])] (fun i => [(1, .ptr 0 0), (5, .int .i64 (i : Int))])
  (fun i => [(0, .box [.int .i64 a, .int .i64 b, .int .i64 c, .sl (rs.map Rd.d)])]) 1
  (fun i => i ≤ rs.length ∧ clashG ⟨a, b, c, rs⟩ = outer ⟨a, b, c, rs⟩ (rs.drop i) i) (fun i => rs.length - i) 0 (by kernel_rfl) (by kernel_rfl) ⟨Nat.zero_le _, rfl⟩ ?_ ?_
 ·simp [headW, heapW, envW, blkLt, D.ltL, D.lt, look, hget]
 rintro i ⟨hil, hcl⟩
 rcases Nat.lt_or_ge i rs.length with hlt | hge
 rotate_left
 ·have hc : ((i : Int) < (rs.length : Int)) = False := by simp; omega
  have : i = rs.length := by omega
  subst this
  rw [List.drop_length] at hcl
  simp only [FS, ↓RE, okR, argEnv, Nat.reduceAdd, Nat.reduceSub, Nat.reduceLT, Nat.reduceLeDiff, Nat.reduceEqDiff, reduceIte, hc, decide_false, hcl, outer, List.length_map]
  rfl
 have hc : ((i : Int) < (rs.length : Int)) = True := by simp [hlt]
 obtain ⟨r, hr⟩ : ∃ r, rs[i]? = some r := ⟨rs[i], by simp [hlt]⟩
 obtain ⟨hmin, hv, _⟩ := hrs r (List.mem_of_getElem? hr)
 have hix := fun h => ix_rd Fz.und_25 Fz.size_75 hr h
 rw [drop_at hr] at hcl
 simp only [outer] at hcl
 have w4 := wrap_i64 (z := (i : Int) + 1) (by omega) (by omega)
 cases h1 : decide (c < r.lo)
 rotate_left
 ·simp only [FS, ↓RE, okR, argEnv, Nat.reduceAdd, Nat.reduceSub, Nat.reduceLT, Nat.reduceLeDiff, Nat.reduceEqDiff, reduceIte, hix, hc, decide_true, h1, List.length_map]
  rw [hcl, show single ⟨a, b, c, rs⟩ r = true by simp [single, of_decide_eq_true h1]]
  rfl
 cases h2 : decide (r.hi < b)
 rotate_left
 ·simp only [FS, ↓RE, okR, argEnv, Nat.reduceAdd, Nat.reduceSub, Nat.reduceLT, Nat.reduceLeDiff, Nat.reduceEqDiff, reduceIte, hix, hc, decide_true, h1, h2, List.length_map]
  rw [hcl, show single ⟨a, b, c, rs⟩ r = true by simp [single, of_decide_eq_true h2]]
  rfl
 have hs : single ⟨a, b, c, rs⟩ r = false := by simp [single, of_decide_eq_false h1, of_decide_eq_false h2]
 rw [hs] at hcl
 simp only [FS, ↓RE, okR, argEnv, Nat.reduceAdd, Nat.reduceSub, Nat.reduceLT, Nat.reduceLeDiff, Nat.reduceEqDiff, reduceIte, hix, hc, decide_true, h1, h2, w4, List.length_map]
 refine loopV (ι := Nat) o5_ok [(11, [(9, false, false, [])])] (fun j => [(1, .ptr 0 0), (5, .int .i64 (i : Int)), (6, .ptr 1 0), (7, .int .i64 (j : Int))])
  (fun j => [(1, .box [.int .i64 r.minute, .int .i64 r.lo, .int .i64 r.hi, .int .i64 r.src]), (0, .box [.int .i64 a, .int .i64 b, .int .i64 c, .sl (rs.map Rd.d)])]) 2
  (fun j => j ≤ rs.length ∧ inner ⟨a, b, c, rs⟩ r (rs.drop (i + 1)) (i + 1) = inner ⟨a, b, c, rs⟩ r (rs.drop j) j) (fun j => rs.length - j) (i + 1) (by kernel_rfl) (by kernel_rfl) ⟨by omega, rfl⟩ ?_ ?_
 ·simp [headW, heapW, envW, blkLt, D.ltL, D.lt, look, hget]
 rintro j ⟨hjl, hin⟩
 rcases Nat.lt_or_ge j rs.length with hjt | hjge
 rotate_left
 ·have hc2 : ((j : Int) < (rs.length : Int)) = False := by simp; omega
  have : j = rs.length := by omega
  subst this
  rw [List.drop_length] at hin
  rw [hin] at hcl
  simp only [FS, ↓RE, okR, argEnv, Nat.reduceAdd, Nat.reduceSub, Nat.reduceLT, Nat.reduceLeDiff, Nat.reduceEqDiff, reduceIte, hc2, decide_false, List.length_map, w4]
  exact ⟨i + 1, ⟨by omega, by simpa [inner] using hcl⟩, by omega, by simp [headW, heapW, envW, blkLt, D.ltL, D.lt, look, hget]⟩
 have hc2 : ((j : Int) < (rs.length : Int)) = True := by simp [hjt]
 obtain ⟨q, hq⟩ : ∃ q, rs[j]? = some q := ⟨rs[j], by simp [hjt]⟩
 obtain ⟨hmin2, hv2, _⟩ := hrs q (List.mem_of_getElem? hq)
 have hix2 := fun h => ix_rd Fz.und_25 Fz.size_75 hq h
 have hfar := gFar_eq (x := r.minute) (y := q.minute) (by omega)
 have hb : 0 ≤ bFar r.minute q.minute ∧ bFar r.minute q.minute ≤ 1440 := by simp only [bFar]; omega
 have hp : 0 ≤ a * bFar r.minute q.minute ∧ a * bFar r.minute q.minute ≤ 1000 * 1440 :=
  ⟨Int.mul_nonneg hrate.1 hb.1, Int.mul_le_mul hrate.2 hb.2 hb.1 (by omega)⟩
 have w1 := wrap_i64 (z := a * bFar r.minute q.minute) (by omega) (by omega)
 have w2 := wrap_i64 (z := r.lo - q.hi) (by omega) (by omega)
 have w3 := wrap_i64 (z := q.lo - r.hi) (by omega) (by omega)
 have w5 := wrap_i64 (z := (j : Int) + 1) (by omega) (by omega)
 rw [drop_at hq] at hin
 simp only [inner] at hin
 cases h5 : decide (a * bFar r.minute q.minute < r.lo - q.hi)
 rotate_left
 ·have hpr : pairB ⟨a, b, c, rs⟩ r q = true := by have := of_decide_eq_true h5; simp only [pairB, decide_eq_true_eq]; omega
  rw [hpr] at hin
  simp only [FS, ↓RE, okR, argEnv, Nat.reduceAdd, Nat.reduceSub, Nat.reduceLT, Nat.reduceLeDiff, Nat.reduceEqDiff, reduceIte, hc2, decide_true, List.length_map, hix2, hfar, w1, w2, w3, w5, h5]
  rw [hcl, hin]; rfl
 cases h6 : decide (a * bFar r.minute q.minute < q.lo - r.hi)
 ·have hpr : pairB ⟨a, b, c, rs⟩ r q = false := by have := of_decide_eq_false h5; have := of_decide_eq_false h6; simp only [pairB, decide_eq_false_iff_not]; omega
  rw [hpr] at hin
  simp only [FS, ↓RE, okR, argEnv, Nat.reduceAdd, Nat.reduceSub, Nat.reduceLT, Nat.reduceLeDiff, Nat.reduceEqDiff, reduceIte, hc2, decide_true, List.length_map, hix2, hfar, w1, w2, w3, w5, h5, h6]
  exact ⟨j + 1, ⟨by omega, by simpa using hin⟩, by omega, by simp [headW, heapW, envW, blkLt, D.ltL, D.lt, look, hget]⟩
 ·have hpr : pairB ⟨a, b, c, rs⟩ r q = true := by have := of_decide_eq_true h6; simp only [pairB, decide_eq_true_eq]; omega
  rw [hpr] at hin
  simp only [FS, ↓RE, okR, argEnv, Nat.reduceAdd, Nat.reduceSub, Nat.reduceLT, Nat.reduceLeDiff, Nat.reduceEqDiff, reduceIte, hc2, decide_true, List.length_map, hix2, hfar, w1, w2, w3, w5, h5, h6]
  rw [hcl, hin]; rfl
end Go.Sx
