/- Own work: a calculus of contracts for the programs of this kit: parts SxE1r, SxE2r, SxE3r, SxE4r, SxE5r, SxE6r, SxE7r, SxE8r, SxE0r, SxE9r. -/
import Derived.Test.YthljonnokmkagaaSxFtr
import Derived.Test.YthljonnokmkagaaSxMg
set_option linter.unusedVariables false
set_option linter.unusedSimpArgs false
namespace Go.Sx
open Go.Proofs
set_option maxRecDepth 10000

/-! Ranges, spans, rows -/
def rI (x lo hi : Int) : Bool := decide (lo ≤ x) && decide (x ≤ hi)
def rS (a b lo hi : Int) : Bool := decide (lo ≤ a) && (decide (a ≤ b) && decide (b ≤ hi))
def gI3 : List D → Option D
  | [.int .i64 x, .int .i64 lo, .int .i64 hi] => some (.bool (rI x lo hi))
  | _ => none
theorem gI3_eq (x lo hi : Int) : gI3 [.int .i64 x, .int .i64 lo, .int .i64 hi] = some (.bool (rI x lo hi)) := (rfl)
theorem gI3_inv {ds : List D} {r : D} (h : gI3 ds = some r) : ∃ x lo hi, ds = [.int .i64 x, .int .i64 lo, .int .i64 hi] ∧ r = .bool (rI x lo hi) := by
  unfold gI3 at h
  split at h
  · cases h; exact ⟨_, _, _, rfl, rfl⟩
  · cases h
def gS3 : List D → Option D
  | [.agg [.int .i64 a, .int .i64 b], .int .i64 lo, .int .i64 hi] => some (.bool (rS a b lo hi))
  | _ => none
theorem gS3_eq (a b lo hi : Int) : gS3 [.agg [.int .i64 a, .int .i64 b], .int .i64 lo, .int .i64 hi] = some (.bool (rS a b lo hi)) := (rfl)
theorem gS3_inv {ds : List D} {r : D} (h : gS3 ds = some r) : ∃ a b lo hi, ds = [.agg [.int .i64 a, .int .i64 b], .int .i64 lo, .int .i64 hi] ∧ r = .bool (rS a b lo hi) := by
  unfold gS3 at h
  split at h
  · cases h; exact ⟨_, _, _, _, rfl, rfl⟩
  · cases h

theorem run_in_t (x lo hi : Int) : Pure Try.prog 71 [.int .i64 x, .int .i64 lo, .int .i64 hi] (.bool (rI x lo hi)) := by
  refine pure_of_wc (rs := [.tmp 6]) (m := 15) [] oNone_ok (by kernel_rfl) Try.func71 rfl (by kernel_rfl) rfl rfl (by kernel_rfl) ?_
  simp only [FS, ↓RE, okR, argEnv, Nat.reduceAdd, Nat.reduceSub, Nat.reduceLT, Nat.reduceLeDiff, Nat.reduceEqDiff, reduceIte]
  cases h1 : decide (lo ≤ x) <;> cases h2 : decide (x ≤ hi) <;> simp [BR, rI, h1, h2]
theorem ref3_in_t (x lo hi : Int) : Pure Try.prog 77 [.int .i64 x, .int .i64 lo, .int .i64 hi] (.bool (rI x lo hi)) := by
  refine pure_of_wc (rs := [.tmp 6]) (m := 15) [] oNone_ok (by kernel_rfl) Try.func77 rfl (by kernel_rfl) rfl rfl (by kernel_rfl) ?_
  simp only [FS, ↓RE, okR, argEnv, Nat.reduceAdd, Nat.reduceSub, Nat.reduceLT, Nat.reduceLeDiff, Nat.reduceEqDiff, reduceIte]
  cases h1 : decide (lo ≤ x) <;> cases h2 : decide (x ≤ hi) <;> simp [BR, rI, h1, h2]
theorem run_span_t (a b lo hi : Int) : Pure Try.prog 95 [.agg [.int .i64 a, .int .i64 b], .int .i64 lo, .int .i64 hi] (.bool (rS a b lo hi)) := by
  refine pure_of_wc (rs := [.tmp 6]) (m := 24) [] oNone_ok (by kernel_rfl) Try.func95 rfl (by kernel_rfl) rfl rfl (by kernel_rfl) ?_
  simp only [FS, ↓RE, okR, argEnv, Nat.reduceAdd, Nat.reduceSub, Nat.reduceLT, Nat.reduceLeDiff, Nat.reduceEqDiff, reduceIte]
  cases h1 : decide (lo ≤ a) <;> cases h2 : decide (a ≤ b) <;> cases h3 : decide (b ≤ hi) <;> simp [BR, rS, h1, h2, h3]
theorem ref_Span_t (a b lo hi : Int) : Pure Try.prog 64 [.agg [.int .i64 a, .int .i64 b], .int .i64 lo, .int .i64 hi] (.bool (rS a b lo hi)) := by
  refine pure_of_wc (rs := [.tmp 6]) (m := 24) [] oNone_ok (by kernel_rfl) Try.func64 rfl (by kernel_rfl) rfl rfl (by kernel_rfl) ?_
  simp only [FS, ↓RE, okR, argEnv, Nat.reduceAdd, Nat.reduceSub, Nat.reduceLT, Nat.reduceLeDiff, Nat.reduceEqDiff, reduceIte]
  cases h1 : decide (lo ≤ a) <;> cases h2 : decide (a ≤ b) <;> cases h3 : decide (b ≤ hi) <;> simp [BR, rS, h1, h2, h3]

abbrev e1 : List (FuncId × (List D → Option D)) := [(71, gI3), (77, gI3), (95, gS3), (64, gS3)]
theorem e1_ok : OkO Try.prog (mkO e1) :=
  mkO_ok (fun ds r h => by obtain ⟨x, lo, hi, rfl, rfl⟩ := gI3_inv h; exact run_in_t x lo hi) <|
  mkO_ok (fun ds r h => by obtain ⟨x, lo, hi, rfl, rfl⟩ := gI3_inv h; exact ref3_in_t x lo hi) <|
  mkO_ok (fun ds r h => by obtain ⟨a, b, lo, hi, rfl, rfl⟩ := gS3_inv h; exact run_span_t a b lo hi) <|
  mkO_ok (fun ds r h => by obtain ⟨a, b, lo, hi, rfl, rfl⟩ := gS3_inv h; exact ref_Span_t a b lo hi) mkO_ok_nil

structure RRow where
  w : Int
  m : Int
  deriving DecidableEq
def RRow.d (r : RRow) : List D := [.int .i64 r.w, .int .i64 r.m]
def decRow : List D → Option RRow
  | [.int .i64 a, .int .i64 b] => some ⟨a, b⟩
  | _ => none
def enR : En RRow where
  d := RRow.d
  dec := decRow
  h1 _ := rfl
  h2 c a h := by
    unfold decRow at h
    split at h
    · cases h; rfl
    · cases h
  sz := 2
  hsz _ := rfl

/-- Whether a row may follow another one, in a table of a sign. -/
def rowStep (sg : Int) : Option RRow → RRow → Bool
  | none, _ => true
  | some p, r => decide (p.w < r.w) && decide (0 ≤ sg * (r.m - p.m))
def rowsOk (sg : Int) : Option RRow → List RRow → Bool
  | _, [] => true
  | p, r :: l => rI r.w 0 100000 && (rI r.m 0 20000 && (rowStep sg p r && rowsOk sg (some r) l))
def tabB (sg : Int) (l : List RRow) : Bool := rowsOk sg none l && rI l.length 1 12
/-- The row ahead of a place. -/
def rowAt (l : List RRow) : Nat → Option RRow
  | 0 => none
  | i + 1 => l[i]?
theorem rowsOk_at {sg : Int} {l : List RRow} {i : Nat} {r : RRow} (hr : l[i]? = some r) : rowsOk sg (rowAt l i) (l.drop i) = (rI r.w 0 100000 && (rI r.m 0 20000 && (rowStep sg (rowAt l i) r && rowsOk sg (rowAt l (i + 1)) (l.drop (i + 1))))) := by
  have hi : i < l.length := lt_of_getElem? hr
  rw [List.drop_eq_getElem_cons hi]
  have : l[i] = r := by rw [List.getElem?_eq_getElem hi] at hr; exact Option.some.inj hr
  rw [this]
  simp only [rowsOk, rowAt, hr]
end Go.Sx

namespace Go.Sx
open Go.Proofs
set_option maxRecDepth 10000

theorem run_table_t (sg : Int) (hs : sg = 1 ∨ sg = -1) (l : List RRow) (hl : l.length ≤ 9223372036854775807) : Pure Try.prog 123 [.sl (l.map RRow.d), .int .i64 sg] (.bool (tabB sg l)) := by
  refine pure_of_wc (rs := [.tmp 4]) (m := 55) [(6, [(27, false, false, [])])] e1_ok (by kernel_rfl) Try.func123 rfl (by kernel_rfl) rfl rfl (by kernel_rfl) ?_
  simp only [FS, ↓RE, okR, argEnv, Nat.reduceAdd, Nat.reduceSub, Nat.reduceLT, Nat.reduceLeDiff, Nat.reduceEqDiff, reduceIte]
  rw [List.length_map]
  refine loopV (ι := Nat) e1_ok [(6, [(27, false, false, [])])] (fun i => [(0, .sl (l.map RRow.d)), (1, .int .i64 sg), (7, .sl (l.map RRow.d)), (8, .int .i64 (l.length : Int)), (9, .int .i64 (i : Int))])
    (fun i => []) 0 (fun i => i ≤ l.length ∧ rowsOk sg none l = rowsOk sg (rowAt l i) (l.drop i) ∧ ∀ p, rowAt l i = some p → 0 ≤ p.m ∧ p.m ≤ 20000) (fun i => l.length - i) 0 (by kernel_rfl) (by kernel_rfl)
    ⟨Nat.zero_le _, by simp [rowAt], fun p hp => by simp [rowAt] at hp⟩ ?_ ?_
  · simp [headW, heapW, envW, blkLt, D.ltL, D.lt, look, hget]
  rintro i ⟨hil, hok, hpv⟩
  rcases Nat.lt_or_ge i l.length with hlt | hge
  rotate_left
  · have hc : ((i : Int) < (l.length : Int)) = False := by simp; omega
    have : i = l.length := by omega
    subst this
    simp only [FS, ↓RE, okR, argEnv, Nat.reduceAdd, Nat.reduceSub, Nat.reduceLT, Nat.reduceLeDiff, Nat.reduceEqDiff, reduceIte, hc, decide_false, gI3_eq, List.length_map]
    simp [tabB, hok, rowsOk]
  have hc : ((i : Int) < (l.length : Int)) = True := by simp [hlt]
  obtain ⟨r, hr⟩ : ∃ r, l[i]? = some r := ⟨l[i], by simp [hlt]⟩
  have hix := fun hp => En.ix (P := Try.prog) Fz.und_22 Fz.size_146 (E := enR) (En.sl_map (E := enR) l) hr hp .i64
  simp only [enR, RRow.d] at hix
  have hw := wrap_i64 (z := (i : Int) + 1) (by omega) (by omega)
  rw [rowsOk_at hr] at hok
  simp only [FS, ↓RE, okR, argEnv, Nat.reduceAdd, Nat.reduceSub, Nat.reduceLT, Nat.reduceLeDiff, Nat.reduceEqDiff, reduceIte, hix, hc, decide_true, gI3_eq, hw]
  cases h1 : rI r.w 0 100000
  · simp [BR, tabB, hok, h1]
  cases h2 : rI r.m 0 20000
  · simp [BR, tabB, hok, h1, h2]
  simp only [Bool.not_true, BR_false]
  have hm : 0 ≤ r.m ∧ r.m ≤ 20000 := by simpa [rI] using h2
  cases i with
  | zero =>
    have hz : (0 < ((0 : Nat) : Int)) = False := by simp
    simp only [FS, ↓RE, okR, argEnv, Nat.reduceAdd, Nat.reduceSub, Nat.reduceLT, Nat.reduceLeDiff, Nat.reduceEqDiff, reduceIte, hz, decide_false, hix, gI3_eq, hw]
    exact ⟨1, ⟨by omega, by simpa [h1, h2, rowStep, rowAt] using hok, fun p hp => by
      simp only [rowAt] at hp; rw [hr] at hp; cases hp; exact hm⟩, by omega, by simp [headW, heapW, envW, blkLt, D.ltL, D.lt, look, hget]⟩
  | succ j =>
    have hz : (0 < ((j + 1 : Nat) : Int)) = True := by simp
    obtain ⟨p, hp⟩ : ∃ p, l[j]? = some p := ⟨l[j]'(by omega), by simp⟩
    have hpm := hpv p hp
    have hw1 : IntKind.i64.wrap (((j + 1 : Nat) : Int) - 1) = (j : Int) := by rw [wrap_i64 (by omega) (by omega)]; omega
    have hw2 := wrap_i64 (z := r.m - p.m) (by omega) (by omega)
    have hw3 : IntKind.i64.wrap (sg * (r.m - p.m)) = sg * (r.m - p.m) := by
      rcases hs with rfl | rfl
      · exact wrap_i64 (by omega) (by omega)
      · exact wrap_i64 (by omega) (by omega)
    have hix2 := fun hq => En.ix (P := Try.prog) Fz.und_22 Fz.size_146 (E := enR) (En.sl_map (E := enR) l) hp hq .i64
    simp only [enR, RRow.d] at hix2
    have hstep : rowStep sg (rowAt l (j + 1)) r = (!decide (r.w ≤ p.w) && !decide (sg * (r.m - p.m) < 0)) := by
      simp only [rowAt, hp, rowStep]
      congr 1
      · by_cases h : r.w ≤ p.w <;> simp [h] <;> omega
      · by_cases h : sg * (r.m - p.m) < 0 <;> simp [h] <;> omega
    rw [hstep] at hok
    simp only [FS, ↓RE, okR, argEnv, Nat.reduceAdd, Nat.reduceSub, Nat.reduceLT, Nat.reduceLeDiff, Nat.reduceEqDiff, reduceIte, hz, decide_true, hix, hix2, gI3_eq, hw, hw1, hw2, hw3]
    cases h3 : decide (r.w ≤ p.w)
    rotate_left
    · simp [BR, tabB, hok, h1, h2, h3]
    cases h4 : decide (sg * (r.m - p.m) < 0)
    rotate_left
    · simp [BR, tabB, hok, h1, h2, h3, h4]
    simp only [BR_false]
    exact ⟨j + 1 + 1, ⟨by omega, by simpa [h1, h2, h3, h4] using hok, fun p hp => by
      simp only [rowAt] at hp; rw [hr] at hp; cases hp; exact hm⟩, by omega, by simp [headW, heapW, envW, blkLt, D.ltL, D.lt, look, hget]⟩

theorem ref3_table_t (sg : Int) (hs : sg = 1 ∨ sg = -1) (l : List RRow) (hl : l.length ≤ 9223372036854775807) : Pure Try.prog 93 [.sl (l.map RRow.d), .int .i64 sg] (.bool (tabB sg l)) := by
  refine pure_of_wc (rs := [.tmp 4]) (m := 67) [(4, [(52, false, false, [])])] e1_ok (by kernel_rfl) Try.func93 rfl (by kernel_rfl) rfl rfl (by kernel_rfl) ?_
  simp only [FS, ↓RE, okR, argEnv, Nat.reduceAdd, Nat.reduceSub, Nat.reduceLT, Nat.reduceLeDiff, Nat.reduceEqDiff, reduceIte]
  refine loopV (ι := Nat) e1_ok [(4, [(52, false, false, [])])] (fun i => [(0, .sl (l.map RRow.d)), (1, .int .i64 sg), (5, .int .i64 (i : Int))])
    (fun i => []) 0 (fun i => i ≤ l.length ∧ rowsOk sg none l = rowsOk sg (rowAt l i) (l.drop i) ∧ ∀ p, rowAt l i = some p → 0 ≤ p.m ∧ p.m ≤ 20000) (fun i => l.length - i) 0 (by kernel_rfl) (by kernel_rfl)
    ⟨Nat.zero_le _, by simp [rowAt], fun p hp => by simp [rowAt] at hp⟩ ?_ ?_
  · simp [headW, heapW, envW, blkLt, D.ltL, D.lt, look, hget]
  rintro i ⟨hil, hok, hpv⟩
  rcases Nat.lt_or_ge i l.length with hlt | hge
  rotate_left
  · have hc : ((i : Int) < (l.length : Int)) = False := by simp; omega
    have : i = l.length := by omega
    subst this
    simp only [FS, ↓RE, okR, argEnv, Nat.reduceAdd, Nat.reduceSub, Nat.reduceLT, Nat.reduceLeDiff, Nat.reduceEqDiff, reduceIte, hc, decide_false, gI3_eq, List.length_map]
    simp [tabB, hok, rowsOk]
  have hc : ((i : Int) < (l.length : Int)) = True := by simp [hlt]
  obtain ⟨r, hr⟩ : ∃ r, l[i]? = some r := ⟨l[i], by simp [hlt]⟩
  have hix := fun hp => En.ix (P := Try.prog) Fz.und_22 Fz.size_146 (E := enR) (En.sl_map (E := enR) l) hr hp .i64
  simp only [enR, RRow.d] at hix
  have hw := wrap_i64 (z := (i : Int) + 1) (by omega) (by omega)
  rw [rowsOk_at hr] at hok
  cases h1 : rI r.w 0 100000
  · simp only [FS, ↓RE, okR, argEnv, Nat.reduceAdd, Nat.reduceSub, Nat.reduceLT, Nat.reduceLeDiff, Nat.reduceEqDiff, reduceIte, hix, hc, decide_true, gI3_eq, hw, List.length_map, h1, Bool.not_false, Bool.not_true]
    simp [tabB, hok, h1]
  cases h2 : rI r.m 0 20000
  · simp only [FS, ↓RE, okR, argEnv, Nat.reduceAdd, Nat.reduceSub, Nat.reduceLT, Nat.reduceLeDiff, Nat.reduceEqDiff, reduceIte, hix, hc, decide_true, gI3_eq, hw, List.length_map, h1, h2, Bool.not_false, Bool.not_true]
    simp [tabB, hok, h1, h2]
  have hm : 0 ≤ r.m ∧ r.m ≤ 20000 := by simpa [rI] using h2
  cases i with
  | zero =>
    have hz : (0 < ((0 : Nat) : Int)) = False := by simp
    simp only [FS, ↓RE, okR, argEnv, Nat.reduceAdd, Nat.reduceSub, Nat.reduceLT, Nat.reduceLeDiff, Nat.reduceEqDiff, reduceIte, hz, decide_false, hix, hc, decide_true, gI3_eq, hw, List.length_map, h1, h2, Bool.not_false, Bool.not_true]
    exact ⟨1, ⟨by omega, by simpa [h1, h2, rowStep, rowAt] using hok, fun p hp => by
      simp only [rowAt] at hp; rw [hr] at hp; cases hp; exact hm⟩, by omega, by simp [headW, heapW, envW, blkLt, D.ltL, D.lt, look, hget]⟩
  | succ j =>
    have hz : (0 < ((j + 1 : Nat) : Int)) = True := by simp
    obtain ⟨p, hp⟩ : ∃ p, l[j]? = some p := ⟨l[j]'(by omega), by simp⟩
    have hpm := hpv p hp
    have hw1 : IntKind.i64.wrap (((j + 1 : Nat) : Int) - 1) = (j : Int) := by rw [wrap_i64 (by omega) (by omega)]; omega
    have hw2 : ∀ z : Int, 0 ≤ z → z ≤ 20000 → IntKind.i64.wrap (sg * z) = sg * z := fun z a b => by
      rcases hs with rfl | rfl
      · exact wrap_i64 (by omega) (by omega)
      · exact wrap_i64 (by omega) (by omega)
    have hw3 := hw2 r.m hm.1 hm.2
    have hw4 := hw2 p.m hpm.1 hpm.2
    have hix2 := fun hq => En.ix (P := Try.prog) Fz.und_22 Fz.size_146 (E := enR) (En.sl_map (E := enR) l) hp hq .i64
    simp only [enR, RRow.d] at hix2
    have hstep : rowStep sg (rowAt l (j + 1)) r = (!decide (r.w ≤ p.w) && !decide (sg * r.m < sg * p.m)) := by
      have : sg * (r.m - p.m) = sg * r.m - sg * p.m := Int.mul_sub _ _ _
      simp only [rowAt, hp, rowStep, this]
      congr 1
      · by_cases h : r.w ≤ p.w <;> simp [h] <;> omega
      · by_cases h : sg * r.m < sg * p.m <;> simp [h] <;> omega
    rw [hstep] at hok
    cases h3 : decide (r.w ≤ p.w)
    rotate_left
    · simp only [FS, ↓RE, okR, argEnv, Nat.reduceAdd, Nat.reduceSub, Nat.reduceLT, Nat.reduceLeDiff, Nat.reduceEqDiff, reduceIte, hz, decide_true, hix, hix2, hc, gI3_eq, hw, hw1, hw3, hw4, List.length_map, h1, h2, h3, Bool.not_false, Bool.not_true]
      simp [tabB, hok, h1, h2, h3]
    simp only [FS, ↓RE, okR, argEnv, Nat.reduceAdd, Nat.reduceSub, Nat.reduceLT, Nat.reduceLeDiff, Nat.reduceEqDiff, reduceIte, hz, decide_true, hix, hix2, hc, gI3_eq, hw, hw1, hw3, hw4, List.length_map, h1, h2, h3, Bool.not_false, Bool.not_true]
    cases h4 : decide (sg * r.m < sg * p.m)
    rotate_left
    · simp [BR, tabB, hok, h1, h2, h3, h4]
    simp only [BR_false]
    exact ⟨j + 1 + 1, ⟨by omega, by simpa [h1, h2, h3, h4] using hok, fun p hp => by
      simp only [rowAt] at hp; rw [hr] at hp; cases hp; exact hm⟩, by omega, by simp [headW, heapW, envW, blkLt, D.ltL, D.lt, look, hget]⟩

def gTb : List D → Option D
  | [.sl es, .int .i64 sg] => match enR.decL es with
    | some l => if (sg = 1 ∨ sg = -1) ∧ l.length ≤ 9223372036854775807 then some (.bool (tabB sg l)) else none
    | none => none
  | _ => none
theorem gTb_eq {sg : Int} (hs : sg = 1 ∨ sg = -1) {l : List RRow} (hl : l.length ≤ 9223372036854775807) : gTb [.sl (l.map RRow.d), .int .i64 sg] = some (.bool (tabB sg l)) := by
  have := En.decL_map (E := enR) l
  simp only [gTb, show enR.decL (l.map RRow.d) = some l from this, if_pos (And.intro hs hl)]
theorem gTb_inv {ds : List D} {r : D} (h : gTb ds = some r) : ∃ (l : List RRow) (sg : Int), (sg = 1 ∨ sg = -1) ∧ l.length ≤ 9223372036854775807 ∧ ds = [.sl (l.map RRow.d), .int .i64 sg] ∧ r = .bool (tabB sg l) := by
  unfold gTb at h
  split at h
  · split at h
    · rename_i l hl
      split at h
      · rename_i hc
        cases h
        exact ⟨l, _, hc.1, hc.2, by rw [En.decL_inv (E := enR) hl]; rfl, rfl⟩
      · cases h
    · cases h
  · cases h
abbrev e2 : List (FuncId × (List D → Option D)) := (123, gTb) :: (93, gTb) :: e1
theorem e2_ok : OkO Try.prog (mkO e2) :=
  mkO_ok (fun ds r h => by obtain ⟨l, sg, hs, hl, rfl, rfl⟩ := gTb_inv h; exact run_table_t sg hs l hl) <|
  mkO_ok (fun ds r h => by obtain ⟨l, sg, hs, hl, rfl, rfl⟩ := gTb_inv h; exact ref3_table_t sg hs l hl) e1_ok
end Go.Sx

namespace Go.Sx
open Go.Proofs
set_option maxRecDepth 10000

structure Craft where
  off : List RRow
  on : List RRow
  glass : Int
  rough : Int
  gby : Int
  rby : Int
  head : Int
  tail : Int
  eng : Int
  fall : Int
  drag : Int
  ceil : List RRow
  sink : Int
def Craft.c (c : Craft) : List D := [.sl (c.off.map RRow.d), .sl (c.on.map RRow.d), .int .i64 c.glass, .int .i64 c.rough, .int .i64 c.gby, .int .i64 c.rby, .int .i64 c.head, .int .i64 c.tail, .int .i64 c.eng, .int .i64 c.fall, .int .i64 c.drag, .sl (c.ceil.map RRow.d), .int .i64 c.sink]
def craftB (c : Craft) : Bool :=
  tabB 1 c.off && (tabB 1 c.on && (rI c.glass 0 c.rough && (decide (c.rough ≤ 2000) && (rI c.gby 1000 5000 && (rI c.rby 1000 5000 && (rI c.head 0 50 && (rI c.tail 0 50 && (rI c.eng 1 2 && (rI c.fall 1 20000 && (rI c.drag 0 50 && (tabB (-1) c.ceil && rI c.sink 0 20000)))))))))))
structure CraftL (c : Craft) : Prop where
  off : c.off.length ≤ 9223372036854775807
  on : c.on.length ≤ 9223372036854775807
  ceil : c.ceil.length ≤ 9223372036854775807

theorem run_craft_t (c : Craft) (h : CraftL c) : Pure Try.prog 90 [.agg c.c] (.bool (craftB c)) := by
  have o1 := gTb_eq (sg := 1) (.inl rfl) h.off
  have o2 := gTb_eq (sg := 1) (.inl rfl) h.on
  have o3 := gTb_eq (sg := -1) (.inr rfl) h.ceil
  obtain ⟨off, on, glass, rough, gby, rby, hd, tl, eng, fall, drag, ceil, sink⟩ := c
  dsimp only at o1 o2 o3
  simp only [Craft.c, craftB]
  refine pure_of_wc (rs := [.tmp 2]) (m := 68) [] e2_ok (by kernel_rfl) Try.func90 rfl (by kernel_rfl) rfl rfl (by kernel_rfl) ?_
  simp only [List.append_eq, List.cons_append, List.nil_append]
  simp only [FS, ↓RE, okR, argEnv, Nat.reduceAdd, Nat.reduceSub, Nat.reduceLT, Nat.reduceLeDiff, Nat.reduceEqDiff, reduceIte, o1, o2, o3, gI3_eq]
  cases tabB 1 off
  · simp [BR]
  cases tabB 1 on
  · simp [BR]
  cases rI glass 0 rough
  · simp [BR]
  cases decide (rough ≤ 2000)
  · simp [BR]
  cases rI gby 1000 5000
  · simp [BR]
  cases rI rby 1000 5000
  · simp [BR]
  cases rI hd 0 50
  · simp [BR]
  cases rI tl 0 50
  · simp [BR]
  cases rI eng 1 2
  · simp [BR]
  cases rI fall 1 20000
  · simp [BR]
  cases rI drag 0 50
  · simp [BR]
  cases tabB (-1) ceil <;> simp [BR]
theorem ref3_Craft_t (c : Craft) (h : CraftL c) : Pure Try.prog 39 [.agg c.c] (.bool (craftB c)) := by
  have o1 := gTb_eq (sg := 1) (.inl rfl) h.off
  have o2 := gTb_eq (sg := 1) (.inl rfl) h.on
  have o3 := gTb_eq (sg := -1) (.inr rfl) h.ceil
  obtain ⟨off, on, glass, rough, gby, rby, hd, tl, eng, fall, drag, ceil, sink⟩ := c
  dsimp only at o1 o2 o3
  simp only [Craft.c, craftB]
  have hs : rS glass rough 0 2000 = (rI glass 0 rough && decide (rough ≤ 2000)) := by
    simp only [rS, rI, Bool.and_assoc]
  refine pure_of_wc (rs := [.tmp 2]) (m := 64) [] e2_ok (by kernel_rfl) Try.func39 rfl (by kernel_rfl) rfl rfl (by kernel_rfl) ?_
  simp only [FS, ↓RE, okR, argEnv, Nat.reduceAdd, Nat.reduceSub, Nat.reduceLT, Nat.reduceLeDiff, Nat.reduceEqDiff, reduceIte, o1, o2, o3, gI3_eq, gS3_eq, hs]
  cases tabB 1 off
  · simp [BR]
  cases tabB 1 on
  · simp [BR]
  cases tabB (-1) ceil
  · simp [BR]
  cases rI glass 0 rough
  · simp [BR]
  cases decide (rough ≤ 2000)
  · simp [BR]
  cases rI gby 1000 5000
  · simp [BR]
  cases rI rby 1000 5000
  · simp [BR]
  cases rI hd 0 50
  · simp [BR]
  cases rI tl 0 50
  · simp [BR]
  cases rI eng 1 2
  · simp [BR]
  cases rI fall 1 20000
  · simp [BR]
  cases rI drag 0 50 <;> simp [BR]

structure SpI where
  lo : Int
  hi : Int
  deriving DecidableEq
def SpI.c (s : SpI) : List D := [.int .i64 s.lo, .int .i64 s.hi]
structure AirW where
  e : SpI
  n : SpI
def AirW.c (a : AirW) : List D := [.int .i64 a.e.lo, .int .i64 a.e.hi, .int .i64 a.n.lo, .int .i64 a.n.hi]
def airB (a : AirW) : Bool := rS a.e.lo a.e.hi (-300) 300 && rS a.n.lo a.n.hi (-300) 300
theorem run_air_t (a : AirW) : Pure Try.prog 91 [.agg a.c] (.bool (airB a)) := by
  obtain ⟨⟨a, b⟩, ⟨c, d⟩⟩ := a
  simp only [AirW.c, airB]
  refine pure_of_wc (rs := [.tmp 2]) (m := 11) [] e2_ok (by kernel_rfl) Try.func91 rfl (by kernel_rfl) rfl rfl (by kernel_rfl) ?_
  simp only [FS, ↓RE, okR, argEnv, Nat.reduceAdd, Nat.reduceSub, Nat.reduceLT, Nat.reduceLeDiff, Nat.reduceEqDiff, reduceIte, gS3_eq]
  cases rS a b (-300) 300 <;> simp [BR]
theorem ref3_Air_t (a : AirW) : Pure Try.prog 40 [.agg a.c] (.bool (airB a)) := by
  obtain ⟨⟨a, b⟩, ⟨c, d⟩⟩ := a
  simp only [AirW.c, airB]
  refine pure_of_wc (rs := [.tmp 2]) (m := 11) [] e2_ok (by kernel_rfl) Try.func40 rfl (by kernel_rfl) rfl rfl (by kernel_rfl) ?_
  simp only [FS, ↓RE, okR, argEnv, Nat.reduceAdd, Nat.reduceSub, Nat.reduceLT, Nat.reduceLeDiff, Nat.reduceEqDiff, reduceIte, gS3_eq]
  cases rS a b (-300) 300 <;> simp [BR]

structure LandM where
  wide : Int
  deep : Int
  ground : List Int
  water : List Bool
  clear : Int
def grD (l : List Int) : D := .sl (l.map enI.d)
def waD (l : List Bool) : D := .sl (l.map enB.d)
def LandM.c (l : LandM) : List D := [.int .i64 l.wide, .int .i64 l.deep, grD l.ground, waD l.water, .int .i64 l.clear]
def landB (l : LandM) : Bool :=
  l.ground.all (fun n => rI n 0 20000) && (rI l.wide 1 12 && (rI l.deep 1 12 && (decide ((l.ground.length : Int) = l.wide * l.deep) && (decide (l.water.length = l.ground.length) && rI l.clear 0 20000))))
structure LandL (l : LandM) : Prop where
  ground : l.ground.length ≤ 9223372036854775807
  water : l.water.length ≤ 9223372036854775807
end Go.Sx

namespace Go.Sx
open Go.Proofs
set_option maxRecDepth 10000

theorem all_cut {α : Type} {p : α → Bool} {l : List α} {i : Nat} {x : α} (hx : l[i]? = some x) (h : (l.take i).all p = true) (hp : p x = true) : (l.take (i + 1)).all p = true := by
  rw [List.take_add_one, hx]; simp [h, hp]
theorem all_out {α : Type} {p : α → Bool} {l : List α} {i : Nat} {x : α} (hx : l[i]? = some x) (hp : p x = false) : l.all p = false := by
  rw [List.all_eq_false]; exact ⟨x, List.mem_of_getElem? hx, by simp [hp]⟩
theorem rI_le {x lo hi : Int} (h : rI x lo hi = true) : lo ≤ x ∧ x ≤ hi := by simpa [rI] using h
theorem mul_le {a b m : Int} (ha : 1 ≤ a ∧ a ≤ m) (hb : 1 ≤ b ∧ b ≤ m) : 1 ≤ a * b ∧ a * b ≤ m * m := by
  constructor
  · have := Int.mul_le_mul ha.1 hb.1 (by omega) (by omega); simpa using this
  · exact Int.mul_le_mul ha.2 hb.2 (by omega) (by omega)

theorem run_land_t (l : LandM) (h : LandL l) : Pure Try.prog 88 [.agg l.c] (.bool (landB l)) := by
  have hg := h.ground
  have hw := h.water
  obtain ⟨wide, deep, ground, water, clear⟩ := l
  dsimp only at hg hw
  simp only [LandM.c, grD, waD]
  refine pure_of_wc (rs := [.tmp 2]) (m := 49) [] e2_ok (by kernel_rfl) Try.func88 rfl (by kernel_rfl) rfl rfl (by kernel_rfl) ?_
  simp only [FS, ↓RE, okR, argEnv, Nat.reduceAdd, Nat.reduceSub, Nat.reduceLT, Nat.reduceLeDiff, Nat.reduceEqDiff, reduceIte]
  rw [List.length_map]
  refine loopV (ι := Nat) e2_ok [] (fun i => [(1, .ptr 0 0), (6, .sl (ground.map enI.d)), (7, .int .i64 (ground.length : Int)), (8, .int .i64 (i : Int))])
    (fun i => [(0, .box [.int .i64 wide, .int .i64 deep, .sl (ground.map enI.d), .sl (water.map enB.d), .int .i64 clear])]) 1 (fun i => i ≤ ground.length ∧ (ground.take i).all (fun n => rI n 0 20000) = true) (fun i => ground.length - i) 0 (by kernel_rfl) (by kernel_rfl)
    ⟨Nat.zero_le _, by simp⟩ ?_ ?_
  · simp [headW, heapW, envW, blkLt, D.ltL, D.lt, look, hget]
  rintro i ⟨hil, hok⟩
  rcases Nat.lt_or_ge i ground.length with hlt | hge
  · have hc : ((i : Int) < (ground.length : Int)) = True := by simp [hlt]
    obtain ⟨r, hr⟩ : ∃ r, ground[i]? = some r := ⟨ground[i], by simp [hlt]⟩
    have hix := fun hp => En.ix (P := Try.prog) Fz.und_25 Fz.size_3 (E := enI) (En.sl_map (E := enI) ground) hr hp .i64
    simp only [enI] at hix ⊢
    have hw1 := wrap_i64 (z := (i : Int) + 1) (by omega) (by omega)
    simp only [FS, ↓RE, okR, argEnv, Nat.reduceAdd, Nat.reduceSub, Nat.reduceLT, Nat.reduceLeDiff, Nat.reduceEqDiff, reduceIte, hix, hc, decide_true, gI3_eq, hw1]
    cases h1 : rI r 0 20000
    · simp [BR, landB, all_out (p := fun n => rI n 0 20000) hr h1]
    simp only [Bool.not_true, BR_false]
    exact ⟨i + 1, ⟨by omega, all_cut hr hok h1⟩, by omega, by simp [headW, heapW, envW, blkLt, D.ltL, D.lt, look, hget]⟩
  · have hc : ((i : Int) < (ground.length : Int)) = False := by simp; omega
    have : i = ground.length := by omega
    subst this
    rw [List.take_length] at hok
    simp only [landB, hok, Bool.true_and]
    cases h1 : rI wide 1 12
    · simp only [FS, ↓RE, okR, argEnv, Nat.reduceAdd, Nat.reduceSub, Nat.reduceLT, Nat.reduceLeDiff, Nat.reduceEqDiff, reduceIte, hc, decide_false, gI3_eq, h1, List.length_map, Bool.false_and]
    cases h2 : rI deep 1 12
    · simp only [FS, ↓RE, okR, argEnv, Nat.reduceAdd, Nat.reduceSub, Nat.reduceLT, Nat.reduceLeDiff, Nat.reduceEqDiff, reduceIte, hc, decide_false, gI3_eq, h1, h2, List.length_map, Bool.false_and, Bool.true_and]
    have hm := mul_le (rI_le h1) (rI_le h2)
    have hw2 := wrap_i64 (z := wide * deep) (by omega) (by omega)
    cases h3 : decide ((ground.length : Int) = wide * deep)
    · simp only [FS, ↓RE, okR, argEnv, Nat.reduceAdd, Nat.reduceSub, Nat.reduceLT, Nat.reduceLeDiff, Nat.reduceEqDiff, reduceIte, hc, decide_false, gI3_eq, h1, h2, h3, hw2, beq_dec, List.length_map, Bool.false_and, Bool.true_and]
    cases h4 : decide ((water.length : Int) = (ground.length : Int))
    · have h4' : decide (water.length = ground.length) = false := by simp at h4 ⊢; omega
      simp only [FS, ↓RE, okR, argEnv, Nat.reduceAdd, Nat.reduceSub, Nat.reduceLT, Nat.reduceLeDiff, Nat.reduceEqDiff, reduceIte, hc, decide_false, gI3_eq, h1, h2, h3, h4, h4', hw2, beq_dec, List.length_map, Bool.false_and, Bool.true_and]
    have h4' : decide (water.length = ground.length) = true := by simp at h4 ⊢; omega
    simp only [FS, ↓RE, okR, argEnv, Nat.reduceAdd, Nat.reduceSub, Nat.reduceLT, Nat.reduceLeDiff, Nat.reduceEqDiff, reduceIte, hc, decide_false, gI3_eq, h1, h2, h3, h4, h4', hw2, beq_dec, List.length_map, Bool.false_and, Bool.true_and]

theorem ref3_Land_t (l : LandM) (h : LandL l) : Pure Try.prog 33 [.agg l.c] (.bool (landB l)) := by
  have hg := h.ground
  have hw := h.water
  obtain ⟨wide, deep, ground, water, clear⟩ := l
  dsimp only at hg hw
  simp only [LandM.c, grD, waD]
  refine pure_of_wc (rs := [.tmp 2]) (m := 54) [] e2_ok (by kernel_rfl) Try.func33 rfl (by kernel_rfl) rfl rfl (by kernel_rfl) ?_
  cases h1 : rI wide 1 12
  · simp only [FS, ↓RE, okR, argEnv, Nat.reduceAdd, Nat.reduceSub, Nat.reduceLT, Nat.reduceLeDiff, Nat.reduceEqDiff, reduceIte, gI3_eq, h1, Bool.not_false, Bool.not_true]
    simp [landB, h1]
  cases h2 : rI deep 1 12
  · simp only [FS, ↓RE, okR, argEnv, Nat.reduceAdd, Nat.reduceSub, Nat.reduceLT, Nat.reduceLeDiff, Nat.reduceEqDiff, reduceIte, gI3_eq, h1, h2, Bool.not_false, Bool.not_true]
    simp [landB, h1, h2]
  have hm := mul_le (rI_le h1) (rI_le h2)
  have hw2 := wrap_i64 (z := wide * deep) (by omega) (by omega)
  cases h3 : decide ((ground.length : Int) = wide * deep)
  · simp only [FS, ↓RE, okR, argEnv, Nat.reduceAdd, Nat.reduceSub, Nat.reduceLT, Nat.reduceLeDiff, Nat.reduceEqDiff, reduceIte, gI3_eq, h1, h2, h3, hw2, bne_dec, List.length_map, Bool.not_false, Bool.not_true]
    simp [landB, h1, h2, h3]
  cases h4 : decide ((water.length : Int) = (ground.length : Int))
  · have h4' : decide (water.length = ground.length) = false := by simp at h4 ⊢; omega
    simp only [FS, ↓RE, okR, argEnv, Nat.reduceAdd, Nat.reduceSub, Nat.reduceLT, Nat.reduceLeDiff, Nat.reduceEqDiff, reduceIte, gI3_eq, h1, h2, h3, h4, hw2, bne_dec, List.length_map, Bool.not_false, Bool.not_true]
    simp [landB, h1, h2, h3, h4']
  have h4' : decide (water.length = ground.length) = true := by simp at h4 ⊢; omega
  cases h5 : rI clear 0 20000
  · simp only [FS, ↓RE, okR, argEnv, Nat.reduceAdd, Nat.reduceSub, Nat.reduceLT, Nat.reduceLeDiff, Nat.reduceEqDiff, reduceIte, gI3_eq, h1, h2, h3, h4, h5, hw2, bne_dec, List.length_map, Bool.not_false, Bool.not_true]
    simp [landB, h1, h2, h3, h4', h5]
  simp only [FS, ↓RE, okR, argEnv, Nat.reduceAdd, Nat.reduceSub, Nat.reduceLT, Nat.reduceLeDiff, Nat.reduceEqDiff, reduceIte, gI3_eq, h1, h2, h3, h4, h5, hw2, bne_dec, List.length_map, Bool.not_false, Bool.not_true]
  refine loopV (ι := Nat) e2_ok [] (fun i => [(1, .ptr 0 0), (3, .int .i64 (i : Int))])
    (fun i => [(0, .box [.int .i64 wide, .int .i64 deep, .sl (ground.map enI.d), .sl (water.map enB.d), .int .i64 clear])]) 1 (fun i => i ≤ ground.length ∧ (ground.take i).all (fun n => rI n 0 20000) = true) (fun i => ground.length - i) 0 (by kernel_rfl) (by kernel_rfl)
    ⟨Nat.zero_le _, by simp⟩ ?_ ?_
  · simp [headW, heapW, envW, blkLt, D.ltL, D.lt, look, hget]
  rintro i ⟨hil, hok⟩
  rcases Nat.lt_or_ge i ground.length with hlt | hge
  · have hc : ((i : Int) < (ground.length : Int)) = True := by simp [hlt]
    obtain ⟨r, hr⟩ : ∃ r, ground[i]? = some r := ⟨ground[i], by simp [hlt]⟩
    have hix := fun hp => En.ix (P := Try.prog) Fz.und_25 Fz.size_3 (E := enI) (En.sl_map (E := enI) ground) hr hp .i64
    simp only [enI] at hix ⊢
    have hw1 := wrap_i64 (z := (i : Int) + 1) (by omega) (by omega)
    simp only [FS, ↓RE, okR, argEnv, Nat.reduceAdd, Nat.reduceSub, Nat.reduceLT, Nat.reduceLeDiff, Nat.reduceEqDiff, reduceIte, hix, hc, decide_true, gI3_eq, hw1, List.length_map]
    cases h6 : rI r 0 20000
    · simp [BR, landB, all_out (p := fun n => rI n 0 20000) hr h6]
    simp only [Bool.not_true, BR_false]
    exact ⟨i + 1, ⟨by omega, all_cut hr hok h6⟩, by omega, by simp [headW, heapW, envW, blkLt, D.ltL, D.lt, look, hget]⟩
  · have hc : ((i : Int) < (ground.length : Int)) = False := by simp; omega
    have : i = ground.length := by omega
    subst this
    rw [List.take_length] at hok
    simp only [FS, ↓RE, okR, argEnv, Nat.reduceAdd, Nat.reduceSub, Nat.reduceLT, Nat.reduceLeDiff, Nat.reduceEqDiff, reduceIte, hc, decide_false, List.length_map]
    simp [landB, hok, h1, h2, h3, h4', h5]

theorem run_Check_t (c : Craft) (h : CraftL c) : Pure Try.prog 53 [.agg c.c] (.int .i64 (if craftB c then 0 else 2)) := by
  refine pure_of_wc (rs := [.tmp 2]) (m := 6) [] oNone_ok (by kernel_rfl) Try.func53 rfl (by kernel_rfl) rfl rfl (by kernel_rfl) ?_
  simp only [Craft.c]
  simp only [FS, ↓RE, okR, argEnv, Nat.reduceAdd, Nat.reduceSub, Nat.reduceLT, Nat.reduceLeDiff, Nat.reduceEqDiff, reduceIte]
  refine call_of_pure (run_craft_t c h) rfl ?_
  cases craftB c
  · simp only [FS, ↓RE, okR, argEnv, Nat.reduceAdd, Nat.reduceSub, Nat.reduceLT, Nat.reduceLeDiff, Nat.reduceEqDiff, reduceIte]
    simp
  · simp only [FS, ↓RE, okR, argEnv, Nat.reduceAdd, Nat.reduceSub, Nat.reduceLT, Nat.reduceLeDiff, Nat.reduceEqDiff, reduceIte]
theorem run_Map_t (l : LandM) (h : LandL l) : Pure Try.prog 34 [.agg l.c] (.int .i64 (if landB l then 0 else 2)) := by
  refine pure_of_wc (rs := [.tmp 2]) (m := 6) [] oNone_ok (by kernel_rfl) Try.func34 rfl (by kernel_rfl) rfl rfl (by kernel_rfl) ?_
  simp only [LandM.c, grD, waD]
  simp only [FS, ↓RE, okR, argEnv, Nat.reduceAdd, Nat.reduceSub, Nat.reduceLT, Nat.reduceLeDiff, Nat.reduceEqDiff, reduceIte]
  refine call_of_pure (run_land_t l h) rfl ?_
  cases landB l
  · simp only [FS, ↓RE, okR, argEnv, Nat.reduceAdd, Nat.reduceSub, Nat.reduceLT, Nat.reduceLeDiff, Nat.reduceEqDiff, reduceIte]
    simp
  · simp only [FS, ↓RE, okR, argEnv, Nat.reduceAdd, Nat.reduceSub, Nat.reduceLT, Nat.reduceLeDiff, Nat.reduceEqDiff, reduceIte]
end Go.Sx

namespace Go.Sx
open Go.Proofs
set_option maxRecDepth 10000

/-- Where something begins to hold: the search by halves finds it. -/
theorem rfirst_t (lo hi r : Int) (hb : -1000000 ≤ lo ∧ hi ≤ 1000000) (hr : lo ≤ r ∧ r ≤ hi) (f : FuncId) (fst caps : List D) (p : Int → Bool) (hfl : ∀ m, D.ltL m fst = true) (hcl : ∀ m, D.ltL m caps = true)
    (hva : ∀ h i, viewL h (fst ++ [D.int .i64 i] ++ caps) = fst ++ [D.int .i64 i] ++ caps) (hf : ∀ i, lo ≤ i → i < r → p i = false) (ht : ∀ i, r ≤ i → i < hi → p i = true)
    (hq : ∀ i, lo ≤ i → i < hi → Pure Try.prog f (fst ++ [.int .i64 i] ++ caps) (.bool (p i))) :
    Pure Try.prog 73 [.int .i64 lo, .int .i64 hi, .fn (.func f) fst caps] (.int .i64 r) := by
  refine pure_of_wc (rs := [.tmp 6]) (m := 24) [] oNone_ok (by kernel_rfl) Try.func73 rfl (by kernel_rfl) rfl rfl (by kernel_rfl) ?_
  simp only [FS, ↓RE, okR, argEnv, Nat.reduceAdd, Nat.reduceSub, Nat.reduceLT, Nat.reduceLeDiff, Nat.reduceEqDiff, reduceIte]
  refine loopV (ι := Int × Int) oNone_ok [] (fun i => [(0, .int .i64 i.1), (1, .int .i64 i.2), (2, .fn (.func f) fst caps)])
    (fun i => []) 0 (fun i => lo ≤ i.1 ∧ i.1 ≤ r ∧ r ≤ i.2 ∧ i.2 ≤ hi) (fun i => (i.2 - i.1).toNat) (lo, hi) (by kernel_rfl) (by kernel_rfl) ⟨Int.le_refl _, hr.1, hr.2, Int.le_refl _⟩ ?_ ?_
  · simp [headW, heapW, envW, blkLt, D.ltL, D.lt, look, hget, hfl, hcl]
  rintro ⟨a, b⟩ ⟨h1, h2, h3, h4⟩
  dsimp only at h1 h2 h3 h4 ⊢
  by_cases hab : a < b
  rotate_left
  · simp only [FS, ↓RE, okR, argEnv, Nat.reduceAdd, Nat.reduceSub, Nat.reduceLT, Nat.reduceLeDiff, Nat.reduceEqDiff, reduceIte, hab, decide_false]
    have : a = r := by omega
    rw [this]
  have w1 := wrap_i64 (z := b - a) (by omega) (by omega)
  have hd := a_quo' (k := .i64) (x := b - a) (y := 2) (by omega)
  have he : (b - a).tdiv 2 = (b - a) / 2 := Int.tdiv_eq_ediv_of_nonneg (by omega)
  have w2 := wrap_i64 (z := (b - a) / 2) (by omega) (by omega)
  have w3 := wrap_i64 (z := a + (b - a) / 2) (by omega) (by omega)
  have w4 := wrap_i64 (z := a + (b - a) / 2 + 1) (by omega) (by omega)
  simp only [FS, ↓RE, okR, argEnv, Nat.reduceAdd, Nat.reduceSub, Nat.reduceLT, Nat.reduceLeDiff, Nat.reduceEqDiff, reduceIte, hab, decide_true, w1, hd, he, w2, w3]
  refine call_of_pure (by rw [hva]; exact hq (a + (b - a) / 2) (by omega) (by omega)) rfl ?_
  cases q : p (a + (b - a) / 2)
  · have : a + (b - a) / 2 < r := by
      by_cases h : a + (b - a) / 2 < r
      · exact h
      · rw [ht _ (by omega) (by omega)] at q; cases q
    simp only [FS, ↓RE, okR, argEnv, Nat.reduceAdd, Nat.reduceSub, Nat.reduceLT, Nat.reduceLeDiff, Nat.reduceEqDiff, reduceIte, w4]
    exact ⟨(a + (b - a) / 2 + 1, b), ⟨by simp only; omega, by simp only; omega, h3, h4⟩, by simp only; omega, by simp [headW, heapW, envW, blkLt, D.ltL, D.lt, look, hget, hfl, hcl]⟩
  · have : r ≤ a + (b - a) / 2 := by
      by_cases h : a + (b - a) / 2 < r
      · rw [hf _ (by omega) h] at q; cases q
      · omega
    simp only [FS, ↓RE, okR, argEnv, Nat.reduceAdd, Nat.reduceSub, Nat.reduceLT, Nat.reduceLeDiff, Nat.reduceEqDiff, reduceIte]
    exact ⟨(a, a + (b - a) / 2), ⟨h1, h2, this, by simp only; omega⟩, by simp only; omega, by simp [headW, heapW, envW, blkLt, D.ltL, D.lt, look, hget, hfl, hcl]⟩


/-! What a table says -/
def sayO : List RRow → Int → Option Int
  | [], _ => none
  | r :: l, w => if w ≤ r.w then some r.m else sayO l w
def sayD : Option Int → D
  | some m => .tup [.int .i64 m, .bool true]
  | none => .tup [.int .i64 0, .bool false]
def cutR : List RRow → Int → Nat
  | [], _ => 0
  | r :: l, w => if w ≤ r.w then 0 else cutR l w + 1
theorem cutR_le : ∀ (l : List RRow) (w : Int), cutR l w ≤ l.length
  | [], _ => Nat.le_refl _
  | r :: l, w => by
    simp only [cutR]; split
    · simp
    · have := cutR_le l w; simp; omega
theorem cutR_lt : ∀ {l : List RRow} {w : Int} {i : Nat} {r : RRow}, i < cutR l w → l[i]? = some r → r.w < w
  | [], w, i, r, h, hr => by simp at hr
  | a :: l, w, i, r, h, hr => by
    simp only [cutR] at h; split at h
    · omega
    · cases i with
      | zero => simp at hr; subst hr; omega
      | succ i => exact cutR_lt (l := l) (w := w) (i := i) (by omega) (by simpa using hr)
theorem sayO_cut : ∀ (l : List RRow) (w : Int), sayO l w = (l[cutR l w]?).map (·.m)
  | [], _ => rfl
  | r :: l, w => by
    simp only [sayO, cutR]; split
    · simp
    · simpa using sayO_cut l w
theorem cutR_at : ∀ {l : List RRow} {w : Int} {r : RRow}, l[cutR l w]? = some r → w ≤ r.w
  | [], w, r, hr => by simp at hr
  | a :: l, w, r, hr => by
    simp only [cutR] at hr; split at hr
    · simp at hr; subst hr; assumption
    · exact cutR_at (l := l) (by simpa using hr)
theorem rows_gt {sg : Int} : ∀ {l : List RRow} {p : RRow}, rowsOk sg (some p) l = true → ∀ s ∈ l, p.w < s.w
  | [], _, _, s, hs => by simp at hs
  | r :: l, p, h, s, hs => by
    simp only [rowsOk, rowStep, Bool.and_eq_true, decide_eq_true_eq] at h
    have h1 : p.w < r.w := h.2.2.1.1
    rcases List.mem_cons.1 hs with rfl | hs
    · exact h1
    · have := rows_gt h.2.2.2 s hs; omega
theorem rows_mono {sg : Int} : ∀ {l : List RRow} {o : Option RRow}, rowsOk sg o l = true → ∀ {i j : Nat} {r s : RRow}, i ≤ j → l[i]? = some r → l[j]? = some s → r.w ≤ s.w
  | [], _, _, i, j, r, s, _, hr, _ => by simp at hr
  | a :: l, o, h, i, j, r, s, hij, hr, hs => by
    simp only [rowsOk, Bool.and_eq_true] at h
    cases i with
    | zero =>
      simp at hr; subst hr
      cases j with
      | zero => simp at hs; subst hs; exact Int.le_refl _
      | succ j => have := rows_gt h.2.2.2 s (List.mem_of_getElem? (by simpa using hs)); omega
    | succ i =>
      cases j with
      | zero => omega
      | succ j => exact rows_mono h.2.2.2 (i := i) (j := j) (by omega) (by simpa using hr) (by simpa using hs)

theorem says1_t (l : List RRow) (w : Int) (i : Nat) (r : RRow) (hr : l[i]? = some r) : Pure Try.prog 126 [.int .i64 (i : Int), .ref [.sl (l.map RRow.d)] 0, .ref [.int .i64 w] 0] (.bool (decide (w ≤ r.w))) := by
  have hix := fun hp => En.ix (P := Try.prog) Fz.und_22 Fz.size_146 (E := enR) (En.sl_map (E := enR) l) hr hp .i64
  simp only [enR, RRow.d] at hix
  refine pure_of_wc (rs := [.tmp 4]) (m := 12) [(1, [(8, false, false, [])])] oNone_ok (by kernel_rfl) Try.func126 rfl (by kernel_rfl) rfl rfl (by kernel_rfl) ?_
  simp only [FS, ↓RE, okR, argEnv, Nat.reduceAdd, Nat.reduceSub, Nat.reduceLT, Nat.reduceLeDiff, Nat.reduceEqDiff, reduceIte, hix]

theorem run_says_t {sg : Int} (l : List RRow) (w : Int) (h : rowsOk sg none l = true) (hl : l.length ≤ 12) : Pure Try.prog 97 [.sl (l.map RRow.d), .int .i64 w] (sayD (sayO l w)) := by
  have hf := rfirst_t 0 (l.length : Int) (cutR l w : Int) (by omega) (by have := cutR_le l w; omega) 126 [] [.ref [.sl (l.map RRow.d)] 0, .ref [.int .i64 w] 0]
    (fun i => match l[i.toNat]? with | some r => decide (w ≤ r.w) | none => false) (fun m => rfl) (fun m => rfl) (fun h i => rfl)
    (fun i h0 h1 => by
      obtain ⟨r, hr⟩ : ∃ r, l[i.toNat]? = some r := ⟨l[i.toNat]'(by have := cutR_le l w; omega), by simp⟩
      have := cutR_lt (l := l) (w := w) (i := i.toNat) (by omega) hr
      simp only [hr]; simp; omega)
    (fun i h0 h1 => by
      obtain ⟨r, hr⟩ : ∃ r, l[i.toNat]? = some r := ⟨l[i.toNat]'(by omega), by simp⟩
      obtain ⟨q, hq⟩ : ∃ q, l[cutR l w]? = some q := ⟨l[cutR l w]'(by omega), by simp⟩
      have h2 := cutR_at hq
      have h3 := rows_mono h (i := cutR l w) (j := i.toNat) (by omega) hq hr
      simp only [hr]; simp; omega)
    (fun i h0 h1 => by
      obtain ⟨r, hr⟩ : ∃ r, l[i.toNat]? = some r := ⟨l[i.toNat]'(by omega), by simp⟩
      have := says1_t l w i.toNat r hr
      simp only [hr]
      rwa [show ((i.toNat : Nat) : Int) = i by omega] at this)
  refine pure_of_wc (rs := [.tmp 4, .tmp 5]) (m := 20) [] oNone_ok (by kernel_rfl) Try.func97 rfl (by kernel_rfl) rfl rfl (by kernel_rfl) ?_
  simp only [FS, ↓RE, okR, argEnv, Nat.reduceAdd, Nat.reduceSub, Nat.reduceLT, Nat.reduceLeDiff, Nat.reduceEqDiff, reduceIte, List.length_map]
  refine call_of_pure hf rfl ?_
  have hcl := cutR_le l w
  rcases Nat.lt_or_ge (cutR l w) l.length with hlt | hge
  · have hc : decide ((cutR l w : Int) = (l.length : Int)) = false := by simp; omega
    obtain ⟨r, hr⟩ : ∃ r, l[cutR l w]? = some r := ⟨l[cutR l w], by simp [hlt]⟩
    have hix := fun hp => En.ix (P := Try.prog) Fz.und_22 Fz.size_146 (E := enR) (En.sl_map (E := enR) l) hr hp .i64
    simp only [enR, RRow.d] at hix
    simp only [FS, ↓RE, okR, argEnv, Nat.reduceAdd, Nat.reduceSub, Nat.reduceLT, Nat.reduceLeDiff, Nat.reduceEqDiff, reduceIte, List.length_map, beq_dec, hc, hix]
    rw [sayO_cut, hr]; rfl
  · have hc : decide ((cutR l w : Int) = (l.length : Int)) = true := by simp; omega
    simp only [FS, ↓RE, okR, argEnv, Nat.reduceAdd, Nat.reduceSub, Nat.reduceLT, Nat.reduceLeDiff, Nat.reduceEqDiff, reduceIte, List.length_map, beq_dec, hc]
    rw [sayO_cut, List.getElem?_eq_none hge]; rfl

theorem sayO_drop {l : List RRow} {w : Int} {i : Nat} {r : RRow} (hr : l[i]? = some r) : sayO (l.drop i) w = if w ≤ r.w then some r.m else sayO (l.drop (i + 1)) w := by
  have hi : i < l.length := lt_of_getElem? hr
  rw [List.drop_eq_getElem_cons hi]
  have : l[i] = r := by rw [List.getElem?_eq_getElem hi] at hr; exact Option.some.inj hr
  rw [this]; rfl
theorem ref3_Says_t (l : List RRow) (w : Int) (hl : l.length ≤ 9223372036854775807) : Pure Try.prog 50 [.sl (l.map RRow.d), .int .i64 w] (sayD (sayO l w)) := by
  refine pure_of_wc (rs := [.tmp 4, .tmp 5]) (m := 25) [] oNone_ok (by kernel_rfl) Try.func50 rfl (by kernel_rfl) rfl rfl (by kernel_rfl) ?_
  simp only [FS, ↓RE, okR, argEnv, Nat.reduceAdd, Nat.reduceSub, Nat.reduceLT, Nat.reduceLeDiff, Nat.reduceEqDiff, reduceIte]
  refine loopV (ι := Nat) oNone_ok [] (fun i => [(0, .sl (l.map RRow.d)), (1, .int .i64 w), (6, .int .i64 (i : Int))])
    (fun i => []) 0 (fun i => i ≤ l.length ∧ sayO l w = sayO (l.drop i) w) (fun i => l.length - i) 0 (by kernel_rfl) (by kernel_rfl) ⟨Nat.zero_le _, by simp⟩ ?_ ?_
  · simp [headW, heapW, envW, blkLt, D.ltL, D.lt, look, hget]
  rintro i ⟨hil, hok⟩
  rcases Nat.lt_or_ge i l.length with hlt | hge
  · have hc : ((i : Int) < (l.length : Int)) = True := by simp [hlt]
    obtain ⟨r, hr⟩ : ∃ r, l[i]? = some r := ⟨l[i], by simp [hlt]⟩
    have hix := fun hp => En.ix (P := Try.prog) Fz.und_22 Fz.size_146 (E := enR) (En.sl_map (E := enR) l) hr hp .i64
    simp only [enR, RRow.d] at hix
    have hw := wrap_i64 (z := (i : Int) + 1) (by omega) (by omega)
    rw [sayO_drop hr] at hok
    by_cases h1 : w ≤ r.w
    · rw [if_pos h1] at hok
      simp only [FS, ↓RE, okR, argEnv, Nat.reduceAdd, Nat.reduceSub, Nat.reduceLT, Nat.reduceLeDiff, Nat.reduceEqDiff, reduceIte, List.length_map, hc, decide_true, hix, hw, h1]
      rw [hok]; rfl
    · rw [if_neg h1] at hok
      simp only [FS, ↓RE, okR, argEnv, Nat.reduceAdd, Nat.reduceSub, Nat.reduceLT, Nat.reduceLeDiff, Nat.reduceEqDiff, reduceIte, List.length_map, hc, decide_true, decide_false, hix, hw, h1]
      exact ⟨i + 1, ⟨by omega, hok⟩, by omega, by simp [headW, heapW, envW, blkLt, D.ltL, D.lt, look, hget]⟩
  · have hc : ((i : Int) < (l.length : Int)) = False := by simp; omega
    have : i = l.length := by omega
    subst this
    simp only [FS, ↓RE, okR, argEnv, Nat.reduceAdd, Nat.reduceSub, Nat.reduceLT, Nat.reduceLeDiff, Nat.reduceEqDiff, reduceIte, List.length_map, hc, decide_false]
    rw [hok, List.drop_length]; rfl
end Go.Sx

namespace Go.Sx
open Go.Proofs
set_option maxRecDepth 10000

/-- Metres times a factor in per mille, rounded up. -/
def upI (m f : Int) : Int := (m * f + 999) / 1000
theorem upI_le {m f : Int} (h : 0 ≤ m ∧ m ≤ 20000 ∧ 0 ≤ f ∧ f ≤ 5000) : 0 ≤ upI m f ∧ upI m f ≤ 100001 := by
  have h1 : 0 ≤ m * f := Int.mul_nonneg h.1 h.2.2.1
  have h2 : m * f ≤ 20000 * 5000 := Int.mul_le_mul h.2.1 h.2.2.2 h.2.2.1 (by omega)
  unfold upI; omega
theorem run_up_t (m f : Int) (h : 0 ≤ m ∧ m ≤ 20000 ∧ 0 ≤ f ∧ f ≤ 5000) : Pure Try.prog 129 [.int .i64 m, .int .i64 f] (.int .i64 (upI m f)) := by
  have h1 : 0 ≤ m * f := Int.mul_nonneg h.1 h.2.2.1
  have h2 : m * f ≤ 20000 * 5000 := Int.mul_le_mul h.2.1 h.2.2.2 h.2.2.1 (by omega)
  have w1 := wrap_i64 (z := m * f) (by omega) (by omega)
  have w2 := wrap_i64 (z := m * f + 999) (by omega) (by omega)
  have hd := a_quo' (k := .i64) (x := m * f + 999) (y := 1000) (by omega)
  have he : (m * f + 999).tdiv 1000 = (m * f + 999) / 1000 := Int.tdiv_eq_ediv_of_nonneg (by omega)
  have w3 := wrap_i64 (z := (m * f + 999) / 1000) (by omega) (by omega)
  refine pure_of_wc (rs := [.tmp 4]) (m := 10) [] oNone_ok (by kernel_rfl) Try.func129 rfl (by kernel_rfl) rfl rfl (by kernel_rfl) ?_
  simp only [FS, ↓RE, okR, argEnv, Nat.reduceAdd, Nat.reduceSub, Nat.reduceLT, Nat.reduceLeDiff, Nat.reduceEqDiff, reduceIte, w1, w2, hd, he, w3]
  rfl
theorem ref3_up_t (n : Int) (h : 0 ≤ n ∧ n ≤ 1000000000) : Pure Try.prog 80 [.int .i64 n, .int .i64 1000] (.int .i64 ((n + 999) / 1000)) := by
  have w1 := wrap_i64 (z := n + 1000) (by omega) (by omega)
  have w2 := wrap_i64 (z := n + 1000 - 1) (by omega) (by omega)
  have hd := a_quo' (k := .i64) (x := n + 1000 - 1) (y := 1000) (by omega)
  have he : (n + 1000 - 1).tdiv 1000 = (n + 999) / 1000 := by rw [Int.tdiv_eq_ediv_of_nonneg (by omega)]; congr 1; omega
  have w3 := wrap_i64 (z := (n + 999) / 1000) (by omega) (by omega)
  refine pure_of_wc (rs := [.tmp 4]) (m := 11) [] oNone_ok (by kernel_rfl) Try.func80 rfl (by kernel_rfl) rfl rfl (by kernel_rfl) ?_
  simp only [FS, ↓RE, okR, argEnv, Nat.reduceAdd, Nat.reduceSub, Nat.reduceLT, Nat.reduceLeDiff, Nat.reduceEqDiff, reduceIte, w1, w2, hd, he, w3]

def tabOf (c : Craft) (k : Int) : List RRow := if k = 1 then c.off else c.on
theorem ref3_Table_t (c : Craft) (k : Int) : Pure Try.prog 51 [.agg c.c, .int .i64 k] (.sl ((tabOf c k).map RRow.d)) := by
  refine pure_of_wc (rs := [.tmp 4]) (m := 11) [] oNone_ok (by kernel_rfl) Try.func51 rfl (by kernel_rfl) rfl rfl (by kernel_rfl) ?_
  simp only [Craft.c]
  by_cases h : k = 1
  · have h1 : (k == 1) = true := by simpa using h
    simp only [FS, ↓RE, okR, argEnv, Nat.reduceAdd, Nat.reduceSub, Nat.reduceLT, Nat.reduceLeDiff, Nat.reduceEqDiff, reduceIte, h1]
    simp [tabOf, h]
  · have h1 : (k == 1) = false := by simpa using h
    simp only [FS, ↓RE, okR, argEnv, Nat.reduceAdd, Nat.reduceSub, Nat.reduceLT, Nat.reduceLeDiff, Nat.reduceEqDiff, reduceIte, h1]
    simp [tabOf, h]
end Go.Sx

namespace Go.Sx
open Go.Proofs
set_option maxRecDepth 10000

def kindB (k : Int) : Bool := (k == 1) || (k == 2)
theorem run_kind_t (k : Int) : Pure Try.prog 94 [.int .i64 k] (.bool (kindB k)) := by
  refine pure_of_wc (rs := [.tmp 2]) (m := 9) [] oNone_ok (by kernel_rfl) Try.func94 rfl (by kernel_rfl) rfl rfl (by kernel_rfl) ?_
  simp only [FS, ↓RE, okR, argEnv, Nat.reduceAdd, Nat.reduceSub, Nat.reduceLT, Nat.reduceLeDiff, Nat.reduceEqDiff, reduceIte]
  cases h1 : (k == 1) <;> simp [BR, kindB, h1]
theorem ref3_Kind_t (k : Int) : Pure Try.prog 45 [.int .i64 k] (.bool (kindB k)) := by
  refine pure_of_wc (rs := [.tmp 2]) (m := 9) [] oNone_ok (by kernel_rfl) Try.func45 rfl (by kernel_rfl) rfl rfl (by kernel_rfl) ?_
  simp only [FS, ↓RE, okR, argEnv, Nat.reduceAdd, Nat.reduceSub, Nat.reduceLT, Nat.reduceLeDiff, Nat.reduceEqDiff, reduceIte]
  cases h1 : (k == 1) <;> simp [BR, kindB, h1]
def condB (a w : SpI) : Bool := rS a.lo a.hi (-600) 600 && rS w.lo w.hi 0 2000
theorem run_conditions_t (a w : SpI) : Pure Try.prog 96 [.agg a.c, .agg w.c] (.bool (condB a w)) := by
  obtain ⟨a, b⟩ := a
  obtain ⟨c, d⟩ := w
  refine pure_of_wc (rs := [.tmp 4]) (m := 11) [] e2_ok (by kernel_rfl) Try.func96 rfl (by kernel_rfl) rfl rfl (by kernel_rfl) ?_
  simp only [SpI.c, condB]
  simp only [FS, ↓RE, okR, argEnv, Nat.reduceAdd, Nat.reduceSub, Nat.reduceLT, Nat.reduceLeDiff, Nat.reduceEqDiff, reduceIte, gS3_eq]
  cases rS a b (-600) 600 <;> simp [BR]

/-- A run of so many metres in waves and in wind. -/
def updI (c : Craft) (m wave : Int) : Int := if wave < c.glass then upI m c.gby else if c.rough < wave then upI m c.rby else m
def lenI (c : Craft) (m along wave : Int) : Int := max 1 (updI c m wave + (if along < 0 then c.head else c.tail) * along)
structure CraftN (c : Craft) : Prop where
  gby : 0 ≤ c.gby ∧ c.gby ≤ 5000
  rby : 0 ≤ c.rby ∧ c.rby ≤ 5000
  head : 0 ≤ c.head ∧ c.head ≤ 50
  tail : 0 ≤ c.tail ∧ c.tail ≤ 50
  gr : c.glass ≤ c.rough
theorem drag_le {d a : Int} (hd : 0 ≤ d ∧ d ≤ 50) (ha : -600 ≤ a ∧ a ≤ 600) : -30000 ≤ d * a ∧ d * a ≤ 30000 := by
  have h1 : d * a ≤ d * 600 := Int.mul_le_mul_of_nonneg_left ha.2 hd.1
  have h2 : d * -600 ≤ d * a := Int.mul_le_mul_of_nonneg_left ha.1 hd.1
  omega
theorem run_length_t (c : Craft) (hn : CraftN c) (m along wave : Int) (hm : 0 ≤ m ∧ m ≤ 20000) (ha : -600 ≤ along ∧ along ≤ 600) :
    Pure Try.prog 127 [.agg c.c, .int .i64 m, .int .i64 along, .int .i64 wave] (.int .i64 (lenI c m along wave)) := by
  have hu1 := upI_le (m := m) (f := c.gby) ⟨hm.1, hm.2, hn.gby⟩
  have hu2 := upI_le (m := m) (f := c.rby) ⟨hm.1, hm.2, hn.rby⟩
  have p1 := run_up_t m c.gby ⟨hm.1, hm.2, hn.gby⟩
  have p2 := run_up_t m c.rby ⟨hm.1, hm.2, hn.rby⟩
  have d1 := drag_le hn.head ha
  have d2 := drag_le hn.tail ha
  have key : ∀ u d : Int, 0 ≤ u → u ≤ 100001 → -30000 ≤ d → d ≤ 30000 → IntKind.i64.wrap (u + d) = u + d := fun u d a b c e => wrap_i64 (by omega) (by omega)
  have w1 := wrap_i64 (z := c.head * along) (by omega) (by omega)
  have w2 := wrap_i64 (z := c.tail * along) (by omega) (by omega)
  refine pure_of_wc (rs := [.tmp 8]) (m := 43) [] oNone_ok (by kernel_rfl) Try.func127 rfl (by kernel_rfl) rfl rfl (by kernel_rfl) ?_
  simp only [Craft.c]
  have hmax : ∀ x : Int, max 1 x = if 1 < x then x else 1 := fun x => by omega
  have fin : ∀ u : Int, 0 ≤ u → u ≤ 100001 → updI c m wave = u → ∀ b : Bool, decide (along < 0) = b → lenI c m along wave = (match b with | true => max 1 (u + c.head * along) | false => max 1 (u + c.tail * along)) := fun u _ _ hu b hb => by
    cases b
    · have : ¬ along < 0 := by simpa using hb
      simp [lenI, hu, this]
    · have : along < 0 := by simpa using hb
      simp [lenI, hu, this]
  by_cases h1 : wave < c.glass
  · have hu : updI c m wave = upI m c.gby := by simp [updI, h1]
    simp only [FS, ↓RE, okR, argEnv, Nat.reduceAdd, Nat.reduceSub, Nat.reduceLT, Nat.reduceLeDiff, Nat.reduceEqDiff, reduceIte, h1, decide_true, decide_false]
    refine call_of_pure p1 rfl ?_
    have k1 := key (upI m c.gby) (c.head * along) (by omega) (by omega) (by omega) (by omega)
    have k2 := key (upI m c.gby) (c.tail * along) (by omega) (by omega) (by omega) (by omega)
    cases h3 : decide (along < 0)
    · simp only [FS, ↓RE, okR, argEnv, Nat.reduceAdd, Nat.reduceSub, Nat.reduceLT, Nat.reduceLeDiff, Nat.reduceEqDiff, reduceIte, h3, w2, k2]
      rw [fin _ (by omega) (by omega) hu _ h3]
    · simp only [FS, ↓RE, okR, argEnv, Nat.reduceAdd, Nat.reduceSub, Nat.reduceLT, Nat.reduceLeDiff, Nat.reduceEqDiff, reduceIte, h3, w1, k1]
      rw [fin _ (by omega) (by omega) hu _ h3]
  by_cases h2 : c.rough < wave
  · have hu : updI c m wave = upI m c.rby := by simp [updI, h1, h2]
    simp only [FS, ↓RE, okR, argEnv, Nat.reduceAdd, Nat.reduceSub, Nat.reduceLT, Nat.reduceLeDiff, Nat.reduceEqDiff, reduceIte, h1, h2, decide_true, decide_false]
    refine call_of_pure p2 rfl ?_
    have k1 := key (upI m c.rby) (c.head * along) (by omega) (by omega) (by omega) (by omega)
    have k2 := key (upI m c.rby) (c.tail * along) (by omega) (by omega) (by omega) (by omega)
    cases h3 : decide (along < 0)
    · simp only [FS, ↓RE, okR, argEnv, Nat.reduceAdd, Nat.reduceSub, Nat.reduceLT, Nat.reduceLeDiff, Nat.reduceEqDiff, reduceIte, h3, w2, k2]
      rw [fin _ (by omega) (by omega) hu _ h3]
    · simp only [FS, ↓RE, okR, argEnv, Nat.reduceAdd, Nat.reduceSub, Nat.reduceLT, Nat.reduceLeDiff, Nat.reduceEqDiff, reduceIte, h3, w1, k1]
      rw [fin _ (by omega) (by omega) hu _ h3]
  · have hu : updI c m wave = m := by simp [updI, h1, h2]
    have k1 := key m (c.head * along) (by omega) (by omega) (by omega) (by omega)
    have k2 := key m (c.tail * along) (by omega) (by omega) (by omega) (by omega)
    cases h3 : decide (along < 0)
    · simp only [FS, ↓RE, okR, argEnv, Nat.reduceAdd, Nat.reduceSub, Nat.reduceLT, Nat.reduceLeDiff, Nat.reduceEqDiff, reduceIte, h1, h2, decide_true, decide_false, h3, w2, k2]
      rw [fin _ (by omega) (by omega) hu _ h3]
    · simp only [FS, ↓RE, okR, argEnv, Nat.reduceAdd, Nat.reduceSub, Nat.reduceLT, Nat.reduceLeDiff, Nat.reduceEqDiff, reduceIte, h1, h2, decide_true, decide_false, h3, w1, k1]
      rw [fin _ (by omega) (by omega) hu _ h3]

theorem run_rows_t (c : Craft) (k : Int) (h : kindB k = true) : Pure Try.prog 98 [.agg c.c, .int .i64 k] (.sl ((tabOf c k).map RRow.d)) := by
  refine pure_of_wc (rs := [.tmp 4]) (m := 13) [] oNone_ok (by kernel_rfl) Try.func98 rfl (by kernel_rfl) rfl rfl (by kernel_rfl) ?_
  simp only [Craft.c]
  have hk : k = 1 ∨ k = 2 := by simpa [kindB] using h
  have i0 : ∀ cs, indexD Try.prog 166 (.agg cs) (.int .i64 0) = partD Try.prog 22 cs 0 := fun cs => by simpa using ix_arr (P := Try.prog) Fz.und_166 Fz.size_22 (i := 0) (by decide) cs .i64
  have i1 : ∀ cs, indexD Try.prog 166 (.agg cs) (.int .i64 1) = partD Try.prog 22 cs 1 := fun cs => by simpa using ix_arr (P := Try.prog) Fz.und_166 Fz.size_22 (i := 1) (by decide) cs .i64
  rcases hk with rfl | rfl
  · have w1 : IntKind.i64.wrap (1 - 1) = 0 := by decide
    simp only [FS, ↓RE, okR, argEnv, Nat.reduceAdd, Nat.reduceSub, Nat.reduceLT, Nat.reduceLeDiff, Nat.reduceEqDiff, reduceIte, w1, i0]
    rfl
  · have w1 : IntKind.i64.wrap (2 - 1) = 1 := by decide
    simp only [FS, ↓RE, okR, argEnv, Nat.reduceAdd, Nat.reduceSub, Nat.reduceLT, Nat.reduceLeDiff, Nat.reduceEqDiff, reduceIte, w1, i1]
    rfl
end Go.Sx

namespace Go.Sx
open Go.Proofs
set_option maxRecDepth 10000

/-- The span of some numbers. -/
def wideI (a : Int) (l : List Int) : SpI := ⟨l.foldl min a, l.foldl max a⟩
theorem foldl_take {f : Int → Int → Int} {l : List Int} {i : Nat} {x a : Int} (h : l[i]? = some x) : (l.take (i + 1)).foldl f a = f ((l.take i).foldl f a) x := by
  rw [List.take_add_one, h]; simp
theorem run_wide_t (a : Int) (l : List Int) (hl : l.length < 9223372036854775807) : Pure Try.prog 101 [.sl ((a :: l).map enI.d)] (.agg (wideI a l).c) := by
  have hix0 : ∀ hp, indexAddrD Try.prog hp 25 (.sl ((a :: l).map enI.d)) (.int .i64 0) = some (.ref [.int .i64 a] 0) := fun hp => by
    simpa [enI] using En.ix (P := Try.prog) Fz.und_25 Fz.size_3 (E := enI) (En.sl_map (E := enI) (a :: l)) (i := 0) (a := a) rfl hp .i64
  have hmin : ∀ x y : Int, min x y = if y < x then y else x := fun x y => by omega
  have hmax : ∀ x y : Int, max x y = if x < y then y else x := fun x y => by omega
  generalize hL : (a :: l).map enI.d = L at hix0 ⊢
  have hlen : L.length = l.length + 1 := by rw [← hL]; simp
  refine pure_of_wc (rs := [.cell 2 30]) (m := 30) [(1, [(8, true, false, []), (1, false, false, [])])] oNone_ok (by kernel_rfl) Try.func101 rfl (by kernel_rfl) rfl rfl (by kernel_rfl) ?_
  simp only [FS, ↓RE, okR, argEnv, Nat.reduceAdd, Nat.reduceSub, Nat.reduceLT, Nat.reduceLeDiff, Nat.reduceEqDiff, reduceIte, hix0]
  refine loopV (ι := Nat) oNone_ok [(1, [(8, true, false, []), (1, false, false, [])])] (fun i => [(2, .ptr 0 0), (3, .ptr 1 0), (13, .sl L), (14, .int .i64 (L.length : Int)), (15, .int .i64 (i : Int))])
    (fun i => [(1, .box [.int .i64 (((a :: l).take i).foldl min a), .int .i64 (((a :: l).take i).foldl max a)]), (0, .box [.int .i64 0, .int .i64 0])]) 2 (fun i => i ≤ l.length + 1) (fun i => l.length + 1 - i) 0 (by kernel_rfl) (by kernel_rfl) (Nat.zero_le _) ?_ ?_
  · simp [headW, heapW, envW, blkLt, D.ltL, D.lt, look, hget, hset]
  rintro i hil
  rcases Nat.lt_or_ge i (l.length + 1) with hlt | hge
  · have hc : ((i : Int) < (L.length : Int)) = True := by simp; omega
    obtain ⟨x, hx⟩ : ∃ x, (a :: l)[i]? = some x := ⟨(a :: l)[i]'(by simpa using hlt), by simp⟩
    have hix : ∀ hp, indexAddrD Try.prog hp 25 (.sl L) (.int .i64 (i : Int)) = some (.ref [.int .i64 x] 0) := fun hp => by
      rw [← hL]; simpa [enI] using En.ix (P := Try.prog) Fz.und_25 Fz.size_3 (E := enI) (En.sl_map (E := enI) (a :: l)) hx hp .i64
    have hw := wrap_i64 (z := (i : Int) + 1) (by omega) (by omega)
    simp only [FS, ↓RE, okR, argEnv, Nat.reduceAdd, Nat.reduceSub, Nat.reduceLT, Nat.reduceLeDiff, Nat.reduceEqDiff, reduceIte, hix, hc, decide_true, hw]
    refine ⟨i + 1, by omega, by omega, ?_⟩
    rw [foldl_take hx, foldl_take hx]
    simp [headW, heapW, envW, blkLt, D.ltL, D.lt, look, hget, hset, hmin, hmax]
  · have hc : ((i : Int) < (L.length : Int)) = False := by simp; omega
    have : i = l.length + 1 := by omega
    subst this
    simp only [FS, ↓RE, okR, argEnv, Nat.reduceAdd, Nat.reduceSub, Nat.reduceLT, Nat.reduceLeDiff, Nat.reduceEqDiff, reduceIte, hc, decide_false]
    simp [wideI, SpI.c]
end Go.Sx

namespace Go.Sx
open Go.Proofs
/-! Own arrays of numbers. -/
def intL (l : List Int) : List (List D) := l.map enI.d
def boolL (l : List Bool) : List (List D) := l.map enB.d
theorem intL_len (l : List Int) : (intL l).length = l.length := by simp [intL]
theorem intL_app (a b : List Int) : intL (a ++ b) = intL a ++ intL b := by simp [intL]
theorem intL_get {l : List Int} {i : Nat} {x : Int} (h : l[i]? = some x) : (intL l)[i]? = some [.int .i64 x] := by simp [intL, h, enI]
theorem intL_ok (l : List Int) : okSrc 1 (intL l) = true := by
  unfold okSrc intL
  rw [List.all_eq_true]
  intro e he
  obtain ⟨x, _, rfl⟩ := List.mem_map.1 he
  rfl
theorem oI_len {h : H} {b n : Nat} {l : List Int} (hb : hget h b = some (.arr 3 1 (intL l))) (hn : l.length = n) : lenOpD Try.prog h 25 (.osl b n) = some (.int .i64 n) :=
  own_len Fz.und_25 hb (by rw [intL_len, hn])
theorem oI_ix {h : H} {b n : Nat} {l : List Int} (hb : hget h b = some (.arr 3 1 (intL l))) (hn : l.length = n) {i : Nat} (hi : i < n) : indexAddrD Try.prog h 25 (.osl b n) (.int .i64 (i : Int)) = some (.eptr b n 1 i 0) :=
  own_ix Fz.und_25 Fz.size_3 hb (by rw [intL_len, hn]) hi .i64
theorem oI_load {h : H} {b n : Nat} {l : List Int} (hb : hget h b = some (.arr 3 1 (intL l))) (hn : l.length = n) {i : Nat} {x : Int} (hx : l[i]? = some x) : loadAtD Try.prog h 3 (.eptr b n 1 i 0) = some (.int .i64 x) := by
  rw [own_load hb (by rw [intL_len, hn]) (intL_get hx) 0]
  exact loadD_one Fz.agg_3 Fz.size_3 _ _ |>.trans rfl
theorem oI_store {h : H} {b n : Nat} {l : List Int} (hb : hget h b = some (.arr 3 1 (intL l))) (hn : l.length = n) {i : Nat} {x : Int} (hx : l[i]? = some x) (nid : Nat) (y : Int) :
    storeD Try.prog h nid 3 (.eptr b n 1 i 0) (.int .i64 y) = some (.any, hset h b (.arr 3 1 (intL (l.set i y))), nid) := by
  rw [own_store (ds := [.int .i64 y]) hb (by rw [intL_len, hn]) (intL_get hx) 0 nid Fz.size_3 rfl rfl (by omega) rfl rfl]
  simp [intL, List.map_set, enI, putL]
theorem oI_app {h : H} {b n b2 n2 : Nat} {l r : List Int} (hb : hget h b = some (.arr 3 1 (intL l))) (hn : l.length = n) (hb2 : hget h b2 = some (.arr 3 1 (intL r))) (hn2 : r.length = n2) (nid : Nat) (hc : l.length + r.length ≤ 1000000000000) :
    appE Try.prog h nid 25 25 (.osl b n) (.osl b2 n2) = some (.osl b (n + n2), hset h b (.arr 3 1 (intL (l ++ r))), nid) := by
  rw [app_osl Fz.und_25 Fz.size_3 Fz.zero_3 rfl (by omega) Fz.bytes_3_25 h nid b n b2 n2 hb (by rw [intL_len, hn]) hb2 (by rw [intL_len, hn2]) (intL_ok r) (by rw [intL_len, intL_len]; omega) (by rw [intL_len, intL_len]; omega), intL_app, intL_len, intL_len, hn, hn2]
theorem oI_appD {h : H} {b n : Nat} {l r : List Int} (hb : hget h b = some (.arr 3 1 (intL l))) (hn : l.length = n) (nid : Nat) (hc : l.length + r.length ≤ 1000000000000) :
    appE Try.prog h nid 25 25 (.osl b n) (.sl (intL r)) = some (.osl b (n + r.length), hset h b (.arr 3 1 (intL (l ++ r))), nid) := by
  rw [app_sl Fz.und_25 Fz.size_3 Fz.zero_3 rfl (by omega) Fz.bytes_3_25 h nid b n hb (by rw [intL_len, hn]) (intL_ok r) (by rw [intL_len, intL_len]; omega) (by rw [intL_len, intL_len]; omega), intL_app, intL_len, intL_len, hn]
theorem lit_2 (h : H) (nid : Nat) (a b : Int) : litOpD Try.prog h nid 25 2 [(0, .int .i64 a), (1, .int .i64 b)] = some (.osl nid 2, (nid, .arr 3 1 (intL [a, b])) :: h, nid + 1) := by kernel_rfl
theorem lit_1 (h : H) (nid : Nat) (a : Int) : litOpD Try.prog h nid 25 1 [(0, .int .i64 a)] = some (.osl nid 1, (nid, .arr 3 1 (intL [a])) :: h, nid + 1) := by kernel_rfl
theorem litD_1 (h : H) (a : Int) : litD Try.prog h 25 1 [(0, .int .i64 a)] = some (.sl (intL [a])) := by kernel_rfl
theorem litD_2 (h : H) (a b : Int) : litD Try.prog h 25 2 [(0, .int .i64 a), (1, .int .i64 b)] = some (.sl (intL [a, b])) := by kernel_rfl
theorem litD_4 (h : H) (a b c d : Int) : litD Try.prog h 25 4 [(0, .int .i64 a), (1, .int .i64 b), (2, .int .i64 c), (3, .int .i64 d)] = some (.sl (intL [a, b, c, d])) := by kernel_rfl
/-- An element of data. -/
theorem sI_ix {l : List Int} {i : Nat} {x : Int} (hx : l[i]? = some x) (h : H) : indexAddrD Try.prog h 25 (.sl (intL l)) (.int .i64 (i : Int)) = some (.ref [.int .i64 x] 0) := by
  simpa [enI, intL] using En.ix (P := Try.prog) Fz.und_25 Fz.size_3 (E := enI) (En.sl_map (E := enI) l) hx h .i64
theorem sB_ix {l : List Bool} {i : Nat} {x : Bool} (hx : l[i]? = some x) (h : H) : indexAddrD Try.prog h 26 (.sl (boolL l)) (.int .i64 (i : Int)) = some (.ref [.bool x] 0) := by
  simpa [enB, boolL] using En.ix (P := Try.prog) Fz.und_26 Fz.size_4 (E := enB) (En.sl_map (E := enB) l) hx h .i64
end Go.Sx

namespace Go.Sx
open Go.Proofs
set_option maxRecDepth 10000

/-- The waves that stand for a span. -/
def wavesI (c : Craft) (w : SpI) : List Int := [w.lo, w.hi] ++ (if max w.lo c.glass ≤ min w.hi c.rough then [max w.lo c.glass] else [])
def lensI (c : Craft) (m al : SpI) (l : List Int) : List Int := l.flatMap fun w => [lenI c m.lo al.lo w, lenI c m.hi al.hi w]
def boundsI (c : Craft) (m al w : SpI) : SpI := match lensI c m al (wavesI c w) with
  | a :: l => wideI a l
  | [] => ⟨0, 0⟩
theorem lensI_cut (c : Craft) (m al : SpI) {l : List Int} {i : Nat} {x : Int} (h : l[i]? = some x) : lensI c m al (l.take (i + 1)) = lensI c m al (l.take i) ++ [lenI c m.lo al.lo x, lenI c m.hi al.hi x] := by
  rw [List.take_add_one, h]; simp [lensI]
theorem lensI_len (c : Craft) (m al : SpI) (l : List Int) : (lensI c m al l).length = 2 * l.length := by
  induction l with
  | nil => rfl
  | cons x l ih => simp [lensI] at ih ⊢; omega
theorem wavesI_len (c : Craft) (w : SpI) : 2 ≤ (wavesI c w).length ∧ (wavesI c w).length ≤ 3 := by
  unfold wavesI; split <;> simp
theorem run_bounds_t (c : Craft) (hn : CraftN c) (m al w : SpI) (hm : 0 ≤ m.lo ∧ m.lo ≤ 20000 ∧ 0 ≤ m.hi ∧ m.hi ≤ 20000) (ha : -600 ≤ al.lo ∧ al.lo ≤ 600 ∧ -600 ≤ al.hi ∧ al.hi ≤ 600) :
    Pure Try.prog 99 [.agg c.c, .agg m.c, .agg al.c, .agg w.c] (.agg (boundsI c m al w).c) := by
  have hmin : ∀ x y : Int, min x y = if y < x then y else x := fun x y => by omega
  have hmax : ∀ x y : Int, max x y = if x < y then y else x := fun x y => by omega
  have p1 := fun wv => run_length_t c hn m.lo al.lo wv ⟨hm.1, hm.2.1⟩ ⟨ha.1, ha.2.1⟩
  have p2 := fun wv => run_length_t c hn m.hi al.hi wv hm.2.2 ha.2.2
  refine pure_of_pieces (rs := [.cell 8 30]) (m := 61) [(9, [(18, false, false, [])])] oNone_ok (by kernel_rfl) Try.func99 rfl (by kernel_rfl) rfl rfl (by kernel_rfl) ?_
  simp only [Craft.c, SpI.c]
  refine awp_peel (T := [(9, [(18, false, false, [])])]) oNone_ok (by kernel_rfl) (by kernel_rfl) ?_
  simp only [FS, ↓RE, okR, argEnv, Nat.reduceAdd, Nat.reduceSub, Nat.reduceLT, Nat.reduceLeDiff, Nat.reduceEqDiff, reduceIte, lit_2]
  refine awp_peel (T := [(9, [(18, false, false, [])])]) oNone_ok (by kernel_rfl) (by kernel_rfl) ?_
  simp only [FS, ↓RE, okR, argEnv, Nat.reduceAdd, Nat.reduceSub, Nat.reduceLT, Nat.reduceLeDiff, Nat.reduceEqDiff, reduceIte, lit_2]
  have hwl := wavesI_len c w
  generalize hW : wavesI c w = W at hwl
  refine awp_cut oNone_ok (by kernel_rfl) [(4, .ptr 0 0), (5, .ptr 1 0), (6, .ptr 2 0), (8, .ptr 4 0), (9, .osl 5 W.length)]
    [(5, .arr 3 1 (intL W)), (4, .box [.int .i64 0, .int .i64 0]), (2, .box [.int .i64 al.lo, .int .i64 al.hi]), (1, .box [.int .i64 m.lo, .int .i64 m.hi]), (0, .box c.c)] 6 61 (T := [(9, [(18, false, false, [])])]) (by kernel_rfl) ?_ ?_
  · have aw := fun h nid (hb : hget h 5 = some (.arr 3 1 (intL [w.lo, w.hi]))) (hb2 : hget h 6 = some (.arr 3 1 [[.int .i64 (max w.lo c.glass)]])) => oI_app (n := 2) (n2 := 1) (r := [max w.lo c.glass]) hb rfl hb2 rfl nid (by simp)
    simp only [FS, ↓RE, okR, argEnv, Nat.reduceAdd, Nat.reduceSub, Nat.reduceLT, Nat.reduceLeDiff, Nat.reduceEqDiff, reduceIte, lit_2, lit_1, aw, List.cons_append, List.nil_append]
    refine BR_i (fun hc => ?_) fun hc => ?_
    · have hw : W = [w.lo, w.hi, max w.lo c.glass] := by
        rw [← hW, wavesI, if_pos (by simpa using hc)]; rfl
      subst hw
      simp [headW, heapW, envW, blkLt, D.ltL, D.lt, look, hget, hset, Craft.c, intL, enI, hmax]
    · have hw : W = [w.lo, w.hi] := by
        rw [← hW, wavesI, if_neg (by simpa using hc)]; rfl
      subst hw
      simp [headW, heapW, envW, blkLt, D.ltL, D.lt, look, hget, hset, Craft.c, intL, enI, hmax]
  refine awp_peel (T := [(9, [(18, false, false, [])])]) oNone_ok (by kernel_rfl) (by kernel_rfl) ?_
  simp only [FS, ↓RE, okR, argEnv, Nat.reduceAdd, Nat.reduceSub, Nat.reduceLT, Nat.reduceLeDiff, Nat.reduceEqDiff, reduceIte]
  refine awp_cut oNone_ok (by kernel_rfl) [(8, .ptr 4 0), (11, .osl 6 (2 * W.length))] [(6, .arr 3 1 (intL (lensI c m al W))), (4, .box [.int .i64 0, .int .i64 0])] 7 61 (T := [(9, [(18, false, false, [])])]) (by kernel_rfl) ?_ ?_
  · have o5 := fun h (hb : hget h 5 = some (.arr 3 1 (intL W))) => oI_len (n := W.length) hb rfl
    simp only [FS, ↓RE, okR, argEnv, Nat.reduceAdd, Nat.reduceSub, Nat.reduceLT, Nat.reduceLeDiff, Nat.reduceEqDiff, reduceIte, o5]
    refine loopNil 11 3 1 rfl ?_
    refine loopV (ι := Nat) oNone_ok [(9, [(18, false, false, [])])] (fun i => [(4, .ptr 0 0), (5, .ptr 1 0), (6, .ptr 2 0), (8, .ptr 4 0), (11, .osl 6 (2 * i)), (35, .osl 5 W.length), (36, .int .i64 (W.length : Int)), (37, .int .i64 (i : Int))])
      (fun i => [(6, .arr 3 1 (intL (lensI c m al (W.take i)))), (5, .arr 3 1 (intL W)), (4, .box [.int .i64 0, .int .i64 0]), (2, .box [.int .i64 al.lo, .int .i64 al.hi]), (1, .box [.int .i64 m.lo, .int .i64 m.hi]), (0, .box c.c)]) 7
      (fun i => i ≤ W.length) (fun i => W.length - i) 0 (by kernel_rfl) (by kernel_rfl) (Nat.zero_le _) ?_ ?_
    · simp [headW, heapW, envW, blkLt, D.ltL, D.lt, look, hget, eset_nil, eset_cons, lensI, intL, Craft.c]
    intro i hi
    rcases Nat.lt_or_ge i W.length with hlt | hge
    rotate_left
    · have hc : ((i : Int) < (W.length : Int)) = False := by simp; omega
      have : i = W.length := by omega
      subst this
      simp only [FS, ↓RE, okR, argEnv, Nat.reduceAdd, Nat.reduceSub, Nat.reduceLT, Nat.reduceLeDiff, Nat.reduceEqDiff, reduceIte, hc, decide_false]
      simp [headW, heapW, envW, blkLt, D.ltL, D.lt, look, hget]
    have hc : ((i : Int) < (W.length : Int)) = True := by simp [hlt]
    obtain ⟨x, hx⟩ : ∃ x, W[i]? = some x := ⟨W[i], by simp [hlt]⟩
    have hwi := wrap_i64 (z := (i : Int) + 1) (by omega) (by omega)
    have x5 := fun h (hb : hget h 5 = some (.arr 3 1 (intL W))) => oI_ix (n := W.length) hb rfl hlt
    have l5 := fun h (hb : hget h 5 = some (.arr 3 1 (intL W))) => oI_load (n := W.length) hb rfl hx
    have hLl : (lensI c m al (W.take i)).length = 2 * i := by rw [lensI_len, List.length_take]; omega
    have a6 := fun h nid a b (hb : hget h 6 = some (.arr 3 1 (intL (lensI c m al (W.take i))))) => oI_appD (n := 2 * i) (r := [a, b]) hb hLl nid (by rw [hLl]; simp; omega)
    simp only [FS, ↓RE, okR, argEnv, Nat.reduceAdd, Nat.reduceSub, Nat.reduceLT, Nat.reduceLeDiff, Nat.reduceEqDiff, reduceIte, hc, decide_true, hwi, x5, l5, a6, litD_2]
    simp only [Craft.c] at p1 p2
    simp only [FS, ↓RE, okR, argEnv, Nat.reduceAdd, Nat.reduceSub, Nat.reduceLT, Nat.reduceLeDiff, Nat.reduceEqDiff, reduceIte, hc, decide_true, hwi, x5, l5, a6, litD_2, Craft.c]
    refine call_of_pure (p1 x) rfl ?_
    simp only [FS, ↓RE, okR, argEnv, Nat.reduceAdd, Nat.reduceSub, Nat.reduceLT, Nat.reduceLeDiff, Nat.reduceEqDiff, reduceIte, hc, decide_true, hwi, x5, l5, a6, litD_2, Craft.c]
    refine call_of_pure (p2 x) rfl ?_
    simp only [FS, ↓RE, okR, argEnv, Nat.reduceAdd, Nat.reduceSub, Nat.reduceLT, Nat.reduceLeDiff, Nat.reduceEqDiff, reduceIte, hc, decide_true, hwi, x5, l5, a6, litD_2, Craft.c]
    exact ⟨i + 1, by omega, by omega, by simp [headW, heapW, envW, blkLt, D.ltL, D.lt, look, hget, hset, lensI_cut c m al hx, Nat.mul_add]⟩
  have pw : Pure Try.prog 101 [.sl (intL (lensI c m al W))] (.agg (boundsI c m al w).c) := by
    have hll := lensI_len c m al W
    unfold boundsI
    rw [hW]
    cases hL : lensI c m al W with
    | nil => rw [hL] at hll; simp at hll; omega
    | cons a l => rw [hL] at hll; exact run_wide_t a l (by simp at hll; omega)
  have hv : view [(6, .arr 3 1 (intL (lensI c m al W))), (4, .box [.int .i64 0, .int .i64 0])] (.osl 6 (2 * W.length)) = .sl (intL (lensI c m al W)) := by
    simp [view, hget, intL_len, lensI_len]
  refine awp_rest (T := [(9, [(18, false, false, [])])]) oNone_ok (by kernel_rfl) (by kernel_rfl) ?_
  simp only [FS, ↓RE, okR, argEnv, Nat.reduceAdd, Nat.reduceSub, Nat.reduceLT, Nat.reduceLeDiff, Nat.reduceEqDiff, reduceIte, hv]
  refine call_of_pure pw rfl ?_
  simp only [FS, ↓RE, okR, argEnv, Nat.reduceAdd, Nat.reduceSub, Nat.reduceLT, Nat.reduceLeDiff, Nat.reduceEqDiff, reduceIte, SpI.c]
end Go.Sx
