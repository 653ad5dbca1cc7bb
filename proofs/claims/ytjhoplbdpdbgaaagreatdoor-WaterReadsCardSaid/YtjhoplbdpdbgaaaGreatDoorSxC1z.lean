/- Own work: contracts of functions, used in the proof of a law. -/
import Derived.Test.YtjhoplbdpdbgaaaGreatDoorSxFtz
import Derived.Test.YtjhoplbdpdbgaaaGreatDoorSxFz
set_option linter.unusedVariables false
set_option linter.unusedSimpArgs false
namespace Go.Sx
open Go.Proofs
set_option maxRecDepth 10000

def bIn (x lo hi : Int) : Bool := decide (lo ≤ x) && decide (x ≤ hi)
def bSpan (a b lo hi : Int) : Bool := decide (lo ≤ a) && (decide (a ≤ b) && decide (b ≤ hi))

def gIn : List D → Option D
 | [.int .i64 x, .int .i64 lo, .int .i64 hi] => some (.bool (bIn x lo hi))
 | _ => none
theorem gIn_eq (x lo hi : Int) : gIn [.int .i64 x, .int .i64 lo, .int .i64 hi] = some (.bool (bIn x lo hi)) := (rfl)
theorem gIn_inv {ds : List D} {r : D} (h : gIn ds = some r) : ∃ x lo hi, ds = [.int .i64 x, .int .i64 lo, .int .i64 hi] ∧ r = .bool (bIn x lo hi) := by
 unfold gIn at h
 split at h
 ·cases h; exact ⟨_, _, _, rfl, rfl⟩
 ·cases h
def gSpan : List D → Option D
 | [.agg [.int .i64 a, .int .i64 b], .int .i64 lo, .int .i64 hi] => some (.bool (bSpan a b lo hi))
 | _ => none
theorem gSpan_eq (a b lo hi : Int) : gSpan [.agg [.int .i64 a, .int .i64 b], .int .i64 lo, .int .i64 hi] = some (.bool (bSpan a b lo hi)) := (rfl)
theorem gSpan_inv {ds : List D} {r : D} (h : gSpan ds = some r) : ∃ a b lo hi, ds = [.agg [.int .i64 a, .int .i64 b], .int .i64 lo, .int .i64 hi] ∧ r = .bool (bSpan a b lo hi) := by
 unfold gSpan at h
 split at h
 ·cases h; exact ⟨_, _, _, _, rfl, rfl⟩
 ·cases h

theorem in_t (x lo hi : Int) : Pure Tryz.prog 70 [.int .i64 x, .int .i64 lo, .int .i64 hi] (.bool (bIn x lo hi)) := by
 refine pure_of_wc (rs := [.tmp 6]) (m := 15) [] oNone_ok (by kernel_rfl) Tryz.func70 rfl (by kernel_rfl) rfl rfl (by kernel_rfl) ?_
 simp only [FS, ↓RE, okR, argEnv, Nat.reduceAdd, Nat.reduceSub, Nat.reduceLT, Nat.reduceLeDiff, Nat.reduceEqDiff, reduceIte]
 cases h1 : decide (lo ≤ x) <;> cases h2 : decide (x ≤ hi) <;> simp [BR, bIn, h1, h2]
theorem rin_t (x lo hi : Int) : Pure Tryz.prog 48 [.int .i64 x, .int .i64 lo, .int .i64 hi] (.bool (bIn x lo hi)) := by
 refine pure_of_wc (rs := [.tmp 6]) (m := 15) [] oNone_ok (by kernel_rfl) Tryz.func48 rfl (by kernel_rfl) rfl rfl (by kernel_rfl) ?_
 simp only [FS, ↓RE, okR, argEnv, Nat.reduceAdd, Nat.reduceSub, Nat.reduceLT, Nat.reduceLeDiff, Nat.reduceEqDiff, reduceIte]
 cases h1 : decide (lo ≤ x) <;> cases h2 : decide (x ≤ hi) <;> simp [BR, bIn, h1, h2]
theorem span_t (a b lo hi : Int) : Pure Tryz.prog 108 [.agg [.int .i64 a, .int .i64 b], .int .i64 lo, .int .i64 hi] (.bool (bSpan a b lo hi)) := by
 refine pure_of_wc (rs := [.tmp 6]) (m := 24) [] oNone_ok (by kernel_rfl) Tryz.func108 rfl (by kernel_rfl) rfl rfl (by kernel_rfl) ?_
 simp only [FS, ↓RE, okR, argEnv, Nat.reduceAdd, Nat.reduceSub, Nat.reduceLT, Nat.reduceLeDiff, Nat.reduceEqDiff, reduceIte]
 cases h1 : decide (lo ≤ a) <;> cases h2 : decide (a ≤ b) <;> cases h3 : decide (b ≤ hi) <;> simp [BR, bSpan, h1, h2, h3]
theorem rspan_t (a b lo hi : Int) : Pure Tryz.prog 49 [.agg [.int .i64 a, .int .i64 b], .int .i64 lo, .int .i64 hi] (.bool (bSpan a b lo hi)) := by
 refine pure_of_wc (rs := [.tmp 6]) (m := 24) [] oNone_ok (by kernel_rfl) Tryz.func49 rfl (by kernel_rfl) rfl rfl (by kernel_rfl) ?_
 simp only [FS, ↓RE, okR, argEnv, Nat.reduceAdd, Nat.reduceSub, Nat.reduceLT, Nat.reduceLeDiff, Nat.reduceEqDiff, reduceIte]
 cases h1 : decide (lo ≤ a) <;> cases h2 : decide (a ≤ b) <;> cases h3 : decide (b ≤ hi) <;> simp [BR, bSpan, h1, h2, h3]
def bFar (x y : Int) : Int := max (x - y) (y - x)
def gFar : List D → Option D
 | [.int .i64 x, .int .i64 y] => if -4000000000 ≤ x ∧ x ≤ 4000000000 ∧ -4000000000 ≤ y ∧ y ≤ 4000000000 then some (.int .i64 (bFar x y)) else none
 | _ => none
theorem gFar_eq {x y : Int} (h : -4000000000 ≤ x ∧ x ≤ 4000000000 ∧ -4000000000 ≤ y ∧ y ≤ 4000000000) : gFar [.int .i64 x, .int .i64 y] = some (.int .i64 (bFar x y)) := by simp [gFar, h]
theorem gFar_inv {ds : List D} {r : D} (h : gFar ds = some r) : ∃ x y, (-4000000000 ≤ x ∧ x ≤ 4000000000 ∧ -4000000000 ≤ y ∧ y ≤ 4000000000) ∧ ds = [.int .i64 x, .int .i64 y] ∧ r = .int .i64 (bFar x y) := by
 unfold gFar at h
 split at h
 ·split at h
  ·rename_i hc; cases h; exact ⟨_, _, hc, rfl, rfl⟩
  ·cases h
 ·cases h
theorem far_t (x y : Int) (h : -4000000000 ≤ x ∧ x ≤ 4000000000 ∧ -4000000000 ≤ y ∧ y ≤ 4000000000) : Pure Tryz.prog 124 [.int .i64 x, .int .i64 y] (.int .i64 (bFar x y)) := by
 have h1 := wrap_i64 (z := x - y) (by omega) (by omega)
 have h2 := wrap_i64 (z := y - x) (by omega) (by omega)
 refine pure_of_wc (rs := [.tmp 4]) (m := 12) [] oNone_ok (by kernel_rfl) Tryz.func124 rfl (by kernel_rfl) rfl rfl (by kernel_rfl) ?_
 simp only [FS, ↓RE, okR, argEnv, Nat.reduceAdd, Nat.reduceSub, Nat.reduceLT, Nat.reduceLeDiff, Nat.reduceEqDiff, reduceIte, h1, h2, bFar]
theorem gap_t (x y : Int) (h : -4000000000 ≤ x ∧ x ≤ 4000000000 ∧ -4000000000 ≤ y ∧ y ≤ 4000000000) : Pure Tryz.prog 76 [.int .i64 x, .int .i64 y] (.int .i64 (bFar x y)) := by
 have h1 := wrap_i64 (z := x - y) (by omega) (by omega)
 have h2 := wrap_i64 (z := y - x) (by omega) (by omega)
 refine pure_of_wc (rs := [.tmp 4]) (m := 12) [] oNone_ok (by kernel_rfl) Tryz.func76 rfl (by kernel_rfl) rfl rfl (by kernel_rfl) ?_
 simp only [FS, ↓RE, okR, argEnv, Nat.reduceAdd, Nat.reduceSub, Nat.reduceLT, Nat.reduceLeDiff, Nat.reduceEqDiff, reduceIte, h1, h2, bFar]

abbrev o1 : List (FuncId × (List D → Option D)) := [(70, gIn), (48, gIn), (108, gSpan), (49, gSpan), (124, gFar), (76, gFar)]
theorem o1_ok : OkO Tryz.prog (mkO o1) :=
 mkO_ok (fun ds r h => by obtain ⟨x, lo, hi, rfl, rfl⟩ := gIn_inv h; exact in_t x lo hi) <|
 mkO_ok (fun ds r h => by obtain ⟨x, lo, hi, rfl, rfl⟩ := gIn_inv h; exact rin_t x lo hi) <|
 mkO_ok (fun ds r h => by obtain ⟨a, b, lo, hi, rfl, rfl⟩ := gSpan_inv h; exact span_t a b lo hi) <|
 mkO_ok (fun ds r h => by obtain ⟨a, b, lo, hi, rfl, rfl⟩ := gSpan_inv h; exact rspan_t a b lo hi) <|
 mkO_ok (fun ds r h => by obtain ⟨x, y, hc, rfl, rfl⟩ := gFar_inv h; exact far_t x y hc) <|
 mkO_ok (fun ds r h => by obtain ⟨x, y, hc, rfl, rfl⟩ := gFar_inv h; exact gap_t x y hc) mkO_ok_nil
end Go.Sx
