/- Own work: contracts of functions, used in the proof of a law. -/
import Derived.Test.YtjhoplbdpdbgaaaGreatDoorSxC42z
set_option linter.unusedVariables false
set_option linter.unusedSimpArgs false
namespace Go.Sx
open Go.Proofs
set_option maxRecDepth 10000

/-- Where something begins to hold: the search by halves finds it. -/
theorem first_t (lo hi r : Int) (hb : -1000000 ≤ lo ∧ hi ≤ 1000000) (hr : lo ≤ r ∧ r ≤ hi) (f : FuncId) (fst caps : List D) (p : Int → Bool) (hfl : ∀ m, D.ltL m fst = true) (hcl : ∀ m, D.ltL m caps = true)
    (hva : ∀ h i, viewL h (fst ++ [D.int .i64 i] ++ caps) = fst ++ [D.int .i64 i] ++ caps) (hf : ∀ i, lo ≤ i → i < r → p i = false) (ht : ∀ i, r ≤ i → i < hi → p i = true)
    (hq : ∀ i, lo ≤ i → i < hi → Pure Tryz.prog f (fst ++ [.int .i64 i] ++ caps) (.bool (p i))) :
    Pure Tryz.prog 149 [.int .i64 lo, .int .i64 hi, .fn (.func f) fst caps] (.int .i64 r) := by
  refine pure_of_wc (rs := [.tmp 6]) (m := 24) [] oNone_ok (by kernel_rfl) Tryz.func149 rfl (by kernel_rfl) rfl rfl (by kernel_rfl) ?_
  simp only [FS, ↓RE, okR, argEnv, Nat.reduceAdd, Nat.reduceSub, Nat.reduceLT, Nat.reduceLeDiff, Nat.reduceEqDiff, reduceIte]
  refine loopV (ι := Int × Int) oNone_ok [] (fun i => [(0, .int .i64 i.1), (1, .int .i64 i.2), (2, .fn (.func f) fst caps)])
    (fun i => []) 0 (fun i => lo ≤ i.1 ∧ i.1 ≤ r ∧ r ≤ i.2 ∧ i.2 ≤ hi) (fun i => (i.2 - i.1).toNat) (lo, hi) (by kernel_rfl) (by kernel_rfl) ⟨Int.le_refl _, hr.1, hr.2, Int.le_refl _⟩ ?_ ?_
  · simp [headW, heapW, envW, blkLt, D.ltL, D.lt, look, hget, hfl, hcl]
  rintro ⟨a, b⟩ ⟨h1, h2, h3, h4⟩
  dsimp only at h1 h2 h3 h4 ⊢
  by_cases hab : a < b
  rotate_left
  · simp only [FS, ↓RE, okR, argEnv, Nat.reduceAdd, Nat.reduceSub, Nat.reduceLT, Nat.reduceLeDiff, Nat.reduceEqDiff, reduceIte, hab, decide_false]
    have : a = r := by omega
    rw [this]
  have w1 := wrap_i64 (z := b - a) (by omega) (by omega)
  have hd := a_quo' (k := .i64) (x := b - a) (y := 2) (by omega)
  have he : (b - a).tdiv 2 = (b - a) / 2 := Int.tdiv_eq_ediv_of_nonneg (by omega)
  have w2 := wrap_i64 (z := (b - a) / 2) (by omega) (by omega)
  have w3 := wrap_i64 (z := a + (b - a) / 2) (by omega) (by omega)
  have w4 := wrap_i64 (z := a + (b - a) / 2 + 1) (by omega) (by omega)
  simp only [FS, ↓RE, okR, argEnv, Nat.reduceAdd, Nat.reduceSub, Nat.reduceLT, Nat.reduceLeDiff, Nat.reduceEqDiff, reduceIte, hab, decide_true, w1, hd, he, w2, w3]
  refine call_of_pure (by rw [hva]; exact hq (a + (b - a) / 2) (by omega) (by omega)) rfl ?_
  cases q : p (a + (b - a) / 2)
  · have : a + (b - a) / 2 < r := by
      by_cases h : a + (b - a) / 2 < r
      · exact h
      · rw [ht _ (by omega) (by omega)] at q; cases q
    simp only [FS, ↓RE, okR, argEnv, Nat.reduceAdd, Nat.reduceSub, Nat.reduceLT, Nat.reduceLeDiff, Nat.reduceEqDiff, reduceIte, w4]
    exact ⟨(a + (b - a) / 2 + 1, b), ⟨by simp only; omega, by simp only; omega, h3, h4⟩, by simp only; omega, by simp [headW, heapW, envW, blkLt, D.ltL, D.lt, look, hget, hfl, hcl]⟩
  · have : r ≤ a + (b - a) / 2 := by
      by_cases h : a + (b - a) / 2 < r
      · rw [hf _ (by omega) h] at q; cases q
      · omega
    simp only [FS, ↓RE, okR, argEnv, Nat.reduceAdd, Nat.reduceSub, Nat.reduceLT, Nat.reduceLeDiff, Nat.reduceEqDiff, reduceIte]
    exact ⟨(a, a + (b - a) / 2), ⟨h1, h2, this, by simp only; omega⟩, by simp only; omega, by simp [headW, heapW, envW, blkLt, D.ltL, D.lt, look, hget, hfl, hcl]⟩

theorem thr (p : Int → Bool) (lo : Int) : ∀ m : Nat, (∀ i j, lo ≤ i → i ≤ j → j < lo + m → p i = true → p j = true) → ∃ r, lo ≤ r ∧ r ≤ lo + m ∧ (∀ i, lo ≤ i → i < r → p i = false) ∧ ∀ i, r ≤ i → i < lo + m → p i = true
  | 0, _ => ⟨lo, Int.le_refl _, by omega, fun i a b => by omega, fun i a b => by omega⟩
  | m + 1, hm => by
    obtain ⟨r, h1, h2, h3, h4⟩ := thr p lo m fun i j a b c d => hm i j a b (by omega) d
    by_cases hr : r < lo + m
    · refine ⟨r, h1, by omega, h3, fun i a b => ?_⟩
      exact hm r i h1 a (by omega) (h4 r (Int.le_refl _) hr)
    · cases hp : p (lo + m)
      · refine ⟨r + 1, by omega, by omega, fun i a b => ?_, fun i a b => by omega⟩
        by_cases hi : i < r
        · exact h3 i a hi
        · rw [show i = lo + m by omega]; exact hp
      · refine ⟨r, h1, by omega, h3, fun i a b => ?_⟩
        rw [show i = lo + m by omega]; exact hp

theorem sq_le {x y : Int} (h0 : 0 ≤ x) (h : x ≤ y) : x * x ≤ y * y := Int.mul_le_mul h h h0 (by omega)
theorem sq_le' {x y : Int} (h0 : y ≤ 0) (h : x ≤ y) : y * y ≤ x * x := by
  have := sq_le (x := -y) (y := -x) (by omega) (by omega)
  rwa [Int.neg_mul_neg, Int.neg_mul_neg] at this
theorem side_mono {w : Int} {n : Nd} {e i j : Int} (hw : okWay w = true) (hij : i ≤ j) : (0 ≤ sideW w n e i → 0 ≤ sideW w n e j) ∧ (0 < sideW w n e i → 0 < sideW w n e j) := by
  obtain ⟨d1, _, _⟩ := dx_cases w hw
  rcases d1 with hd | hd | hd
  · have : sideW w n e i = sideW w n e j := by simp [sideW, acrW, hd]
    rw [this]; exact ⟨id, id⟩
  · have ea : acrW w e j ≤ acrW w e i := by simp only [acrW, hd]; omega
    have hS : ∀ k, sideW w n e k = if acrW w e k * acrW w e k ≤ lenW w * n.cross * n.cross then 0 else if acrW w e k < 0 then 1 else -1 := by
      intro k
      simp only [sideW, hd]
      by_cases hx0 : acrW w e k < 0 <;> simp [hx0]
    rw [hS i, hS j]
    generalize acrW w e i = a at *
    generalize acrW w e j = b at *
    generalize lenW w * n.cross * n.cross = C at *
    have h1 : 0 ≤ b → b * b ≤ a * a := fun hb => sq_le hb ea
    have h2 : a ≤ 0 → a * a ≤ b * b := fun ha => sq_le' ha ea
    generalize a * a = A at *
    generalize b * b = B at *
    constructor <;> intro h <;> split <;> (try split) <;> (try split at h) <;> (try split at h) <;> omega
  · have ea : acrW w e i ≤ acrW w e j := by simp only [acrW, hd]; omega
    have hS : ∀ k, sideW w n e k = if acrW w e k * acrW w e k ≤ lenW w * n.cross * n.cross then 0 else if acrW w e k < 0 then -1 else 1 := by
      intro k
      simp only [sideW, hd]
      by_cases hx0 : acrW w e k < 0 <;> simp [hx0]
    rw [hS i, hS j]
    generalize acrW w e i = a at *
    generalize acrW w e j = b at *
    generalize lenW w * n.cross * n.cross = C at *
    have h1 : 0 ≤ a → a * a ≤ b * b := fun ha => sq_le ha ea
    have h2 : b ≤ 0 → b * b ≤ a * a := fun hb => sq_le' hb ea
    generalize a * a = A at *
    generalize b * b = B at *
    constructor <;> intro h <;> split <;> (try split) <;> (try split at h) <;> (try split at h) <;> omega

/-- All numbers of a range. -/
def anyI (lo hi : Int) (p : Int → Bool) : Bool := (List.range (hi + 1 - lo).toNat).any fun i => p (lo + i)
theorem anyI_iff {lo hi : Int} {p : Int → Bool} : anyI lo hi p = true ↔ ∃ i, lo ≤ i ∧ i ≤ hi ∧ p i = true := by
  simp only [anyI, List.any_eq_true, List.mem_range]
  constructor
  · rintro ⟨i, h1, h2⟩; exact ⟨lo + i, by omega, by omega, h2⟩
  · rintro ⟨i, h1, h2, h3⟩
    refine ⟨(i - lo).toNat, by omega, ?_⟩
    rw [show lo + ((i - lo).toNat : Int) = i by omega]; exact h3
theorem anyI_step {lo hi : Int} {p : Int → Bool} (h : lo ≤ hi) : anyI lo hi p = (p lo || anyI (lo + 1) hi p) := by
  rw [Bool.eq_iff_iff, Bool.or_eq_true, anyI_iff, anyI_iff]
  constructor
  · rintro ⟨i, h1, h2, h3⟩
    by_cases hi0 : i = lo
    · left; rw [← hi0]; exact h3
    · right; exact ⟨i, by omega, h2, h3⟩
  · rintro (h1 | ⟨i, h1, h2, h3⟩)
    · exact ⟨lo, Int.le_refl _, h, h1⟩
    · exact ⟨i, by omega, h2, h3⟩
theorem anyI_none {lo hi : Int} {p : Int → Bool} (h : hi < lo) : anyI lo hi p = false := by
  rw [Bool.eq_false_iff]
  intro h1
  obtain ⟨i, a, b, _⟩ := anyI_iff.1 h1
  omega

/-- What the ends of the winds that are not too strong across tell of all winds. -/
theorem calm_ends {w : Int} {n : Nd} {e lo hi r1 r2 : Int} (hw : okWay w = true) (hl : 0 ≤ lenW w * n.tail * n.tail) (h1 : lo ≤ r1 ∧ r1 ≤ hi + 1) (h2 : lo ≤ r2 ∧ r2 ≤ hi + 1)
    (f1 : ∀ k, lo ≤ k → k < r1 → decide (0 ≤ sideW w n e k) = false) (t1 : ∀ k, r1 ≤ k → k < hi + 1 → decide (0 ≤ sideW w n e k) = true) (f2 : ∀ k, lo ≤ k → k < r2 → decide (0 < sideW w n e k) = false) (t2 : ∀ k, r2 ≤ k → k < hi + 1 → decide (0 < sideW w n e k) = true) :
    (decide (r1 ≤ r2 - 1) && (calmB w n e r1 || calmB w n e (r2 - 1))) = anyI lo hi (calmB w n e) := by
  rw [Bool.eq_iff_iff, anyI_iff]
  simp only [Bool.and_eq_true, Bool.or_eq_true, decide_eq_true_eq]
  have hside : ∀ k, sideW w n e k = 0 ↔ acrW w e k * acrW w e k ≤ lenW w * n.cross * n.cross := by
    intro k
    simp only [sideW]
    split
    · simp [*]
    · split <;> simp [*]
  have hcalm : ∀ k, calmB w n e k = true ↔ sideW w n e k = 0 ∧ (aloW w e k ≤ 0 ∨ aloW w e k * aloW w e k ≤ lenW w * n.tail * n.tail) := by
    intro k
    simp only [calmB, Bool.and_eq_true, Bool.or_eq_true, decide_eq_true_eq, hside]
  constructor
  · rintro ⟨h3, h4 | h4⟩
    · exact ⟨r1, h1.1, by omega, h4⟩
    · exact ⟨r2 - 1, by omega, by omega, h4⟩
  · rintro ⟨k, hk1, hk2, hk⟩
    obtain ⟨hs, ha⟩ := (hcalm k).1 hk
    have g1 : r1 ≤ k := by
      by_cases h : r1 ≤ k
      · exact h
      · have := f1 k hk1 (by omega)
        simp [hs] at this
    have g2 : k ≤ r2 - 1 := by
      by_cases h : r2 ≤ k
      · have := t2 k h (by omega)
        simp [hs] at this
      · omega
    refine ⟨by omega, ?_⟩
    have mid : ∀ j, r1 ≤ j → j ≤ r2 - 1 → sideW w n e j = 0 := by
      intro j a b
      have c := of_decide_eq_true (t1 j a (by omega))
      have d := of_decide_eq_false (f2 j (by omega) (by omega))
      omega
    rw [hcalm, hcalm]
    have mono : ∀ x, aloW w e x ≤ aloW w e k → (aloW w e x ≤ 0 ∨ aloW w e x * aloW w e x ≤ lenW w * n.tail * n.tail) := by
      intro x hx
      by_cases h0 : aloW w e x ≤ 0
      · exact .inl h0
      · rcases ha with ha | ha
        · omega
        · right
          have := sq_le (x := aloW w e x) (y := aloW w e k) (by omega) hx
          omega
    obtain ⟨_, d2, _⟩ := dx_cases w hw
    rcases d2 with hd | hd | hd
    · exact .inl ⟨mid r1 (Int.le_refl _) (by omega), mono r1 (by simp only [aloW, hd]; omega)⟩
    · exact .inl ⟨mid r1 (Int.le_refl _) (by omega), mono r1 (by simp only [aloW, hd]; omega)⟩
    · exact .inr ⟨mid (r2 - 1) (by omega) (Int.le_refl _), mono (r2 - 1) (by simp only [aloW, hd]; omega)⟩
end Go.Sx
