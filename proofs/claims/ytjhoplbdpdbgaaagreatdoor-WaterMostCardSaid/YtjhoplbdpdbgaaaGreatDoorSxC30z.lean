/- Own work: contracts of functions, used in the proof of a law. -/
import Derived.Test.YtjhoplbdpdbgaaaGreatDoorSxC29z
set_option linter.unusedVariables false
set_option linter.unusedSimpArgs false
namespace Go.Sx
open Go.Proofs
set_option maxRecDepth 10000

/-- The first run of 'c' good ones, as the program looks for it: 'k' is next, 'j' good ones are behind it. -/
def runP (good : Nat → Bool) (c : Int) : Nat → Nat → Int → Int
  | 0, _, _ => -1
  | m + 1, k, j => let j' := if good k then j + 1 else 0
    if j' = c then (k : Int) - c + 1 else runP good c m (k + 1) j'

theorem run_t (l : Lk) (hg : enGl.sl l.gd = some l.s.glares) (c : Int) (hc0 : 1 ≤ c ∧ c ≤ 12) (hce : 1 ≤ l.p.cells ∧ l.p.cells ≤ 12) (f : FuncId) (fst caps : List D) (good : Nat → Bool) (hfl : ∀ m, D.ltL m fst = true) (hcl : ∀ m, D.ltL m caps = true)
    (hva : ∀ h i, viewL h (fst ++ [D.int .i64 i] ++ caps) = fst ++ [D.int .i64 i] ++ caps)
    (hq : ∀ i : Nat, (i : Int) < l.p.cells → Pure Tryz.prog f (fst ++ [.int .i64 (i : Int)] ++ caps) (.bool (good i))) :
    Pure Tryz.prog 83 [.agg l.c, .int .i64 c, .fn (.func f) fst caps] (.int .i64 (runP good c l.p.cells.toNat 0 0)) := by
  have vg := fun hp => En.view hg hp
  have lg := En.lt hg
  refine pure_of_wc (rs := [.tmp 6]) (m := 29) [] oNone_ok (by kernel_rfl) Tryz.func83 rfl (by kernel_rfl) rfl rfl (by kernel_rfl) ?_
  simp only [FS, ↓RE, okR, argEnv, Nat.reduceAdd, Nat.reduceSub, Nat.reduceLT, Nat.reduceLeDiff, Nat.reduceEqDiff, reduceIte]
  refine loopV (ι := Nat × Int) oNone_ok [] (fun i => [(1, .int .i64 c), (2, .fn (.func f) fst caps), (7, .int .i64 i.2), (11, .int .i64 l.p.cells), (12, .int .i64 (i.1 : Int))])
    (fun i => []) 1 (fun i => i.1 ≤ l.p.cells.toNat ∧ (0 ≤ i.2 ∧ i.2 ≤ i.1) ∧ runP good c l.p.cells.toNat 0 0 = runP good c (l.p.cells.toNat - i.1) i.1 i.2) (fun i => l.p.cells.toNat - i.1) (0, 0) (by kernel_rfl) (by kernel_rfl) ⟨Nat.zero_le _, by simp, rfl⟩ ?_ ?_
  · simp [headW, heapW, envW, blkLt, D.ltL, D.lt, look, hget, hfl, hcl]
  rintro ⟨i, j⟩ ⟨hi, hj, hok⟩
  dsimp only at hi hj hok ⊢
  rcases Nat.lt_or_ge i l.p.cells.toNat with hlt | hge
  rotate_left
  · have hc : ((i : Int) < l.p.cells) = False := by simp; omega
    rw [show l.p.cells.toNat - i = 0 by omega] at hok
    simp only [FS, ↓RE, okR, argEnv, Nat.reduceAdd, Nat.reduceSub, Nat.reduceLT, Nat.reduceLeDiff, Nat.reduceEqDiff, reduceIte, hc, decide_false]
    rw [hok]; rfl
  have hc : ((i : Int) < l.p.cells) = True := by simp; omega
  have hwi := wrap_i64 (z := (i : Int) + 1) (by omega) (by omega)
  have hwj := wrap_i64 (z := j + 1) (by omega) (by omega)
  have hw1 := wrap_i64 (z := (i : Int) - c) (by omega) (by omega)
  have hw2 := wrap_i64 (z := (i : Int) - c + 1) (by omega) (by omega)
  rw [show l.p.cells.toNat - i = (l.p.cells.toNat - (i + 1)) + 1 by omega] at hok
  simp only [runP] at hok
  simp only [FS, ↓RE, okR, argEnv, Nat.reduceAdd, Nat.reduceSub, Nat.reduceLT, Nat.reduceLeDiff, Nat.reduceEqDiff, reduceIte, hc, decide_true, hwj]
  refine call_of_pure (by rw [hva]; exact hq i (by omega)) rfl ?_
  cases hgd : good i
  · rw [hgd] at hok
    have h0 : ((0 : Int) == c) = false := by simp; omega
    rw [if_neg Bool.false_ne_true, if_neg (by omega)] at hok
    simp only [FS, ↓RE, okR, argEnv, Nat.reduceAdd, Nat.reduceSub, Nat.reduceLT, Nat.reduceLeDiff, Nat.reduceEqDiff, reduceIte, h0, hwi]
    exact ⟨(i + 1, 0), ⟨by simp only; omega, by simp only; omega, hok⟩, by simp only; omega, by simp [headW, heapW, envW, blkLt, D.ltL, D.lt, look, hget, hfl, hcl]⟩
  · rw [hgd, if_pos rfl] at hok
    by_cases hjc : j + 1 = c
    · have h0 : (j + 1 == c) = true := by simpa using hjc
      rw [if_pos hjc] at hok
      simp only [FS, ↓RE, okR, argEnv, Nat.reduceAdd, Nat.reduceSub, Nat.reduceLT, Nat.reduceLeDiff, Nat.reduceEqDiff, reduceIte, h0, hw1, hw2]
      rw [hok]
    · have h0 : (j + 1 == c) = false := by simpa using hjc
      rw [if_neg hjc] at hok
      simp only [FS, ↓RE, okR, argEnv, Nat.reduceAdd, Nat.reduceSub, Nat.reduceLT, Nat.reduceLeDiff, Nat.reduceEqDiff, reduceIte, h0, hwi]
      exact ⟨(i + 1, j + 1), ⟨by simp only; omega, by simp only; omega, hok⟩, by simp only; omega, by simp [headW, heapW, envW, blkLt, D.ltL, D.lt, look, hget, hfl, hcl]⟩

/-! The plain law: the first place from which on 'c' are good -/
def allG (good : Nat → Bool) (o c : Nat) : Bool := (List.range c).all fun j => good (o + j)
def runS (good : Nat → Bool) (n c : Nat) : Int := match (List.range (n + 1 - c)).find? fun o => allG good o c with
  | some o => o
  | none => -1
theorem allG_iff {good : Nat → Bool} {o c : Nat} : allG good o c = true ↔ ∀ j, j < c → good (o + j) = true := by
  simp [allG, List.all_eq_true]
theorem find_first {p : Nat → Bool} {n o : Nat} (ho : o < n) (hp : p o = true) (hb : ∀ i, i < o → p i = false) : (List.range n).find? p = some o := by
  induction n with
  | zero => omega
  | succ n ih =>
    rw [List.range_succ, List.find?_append]
    rcases Nat.lt_or_ge o n with h | h
    · rw [ih h]; rfl
    · have : o = n := by omega
      subst this
      have : (List.range o).find? p = none := by
        rw [List.find?_eq_none]
        intro i hi
        rw [hb i (List.mem_range.1 hi)]; simp
      rw [this]
      simp [hp]
theorem runP_eq (good : Nat → Bool) (n c : Nat) (hc : 1 ≤ c) : ∀ m k j : Nat, k + m = n → j < c → j ≤ k → (∀ i, k - j ≤ i → i < k → good i = true) → (k - j = 0 ∨ good (k - j - 1) = false) → (∀ o, o + c ≤ k → allG good o c = false) →
    runP good (c : Int) m k (j : Int) = runS good n c
  | 0, k, j, hn, hj, hjk, h1, h2, h3 => by
    simp only [runP, runS]
    have : (List.range (n + 1 - c)).find? (fun o => allG good o c) = none := by
      rw [List.find?_eq_none]
      intro o ho
      have := List.mem_range.1 ho
      rw [h3 o (by omega)]; simp
    rw [this]
  | m + 1, k, j, hn, hj, hjk, h1, h2, h3 => by
    simp only [runP]
    cases hg : good k
    · rw [if_neg Bool.false_ne_true, if_neg (by omega)]
      have h4 : ∀ o, o + c ≤ k + 1 → allG good o c = false := fun o ho => by
        rcases Nat.lt_or_ge (o + c) (k + 1) with h | h
        · exact h3 o (by omega)
        · cases ha : allG good o c
          · rfl
          · have := allG_iff.1 ha (c - 1) (by omega)
            rw [show o + (c - 1) = k by omega, hg] at this; cases this
      exact runP_eq good n c hc m (k + 1) 0 (by omega) (by omega) (by omega) (fun i a b => by omega) (.inr (by simpa using hg)) h4
    · rw [if_pos rfl]
      by_cases hjc : j + 1 = c
      · rw [if_pos (by omega)]
        have hfirst : (List.range (n + 1 - c)).find? (fun o => allG good o c) = some (k - j) := by
          refine find_first (by omega) (allG_iff.2 fun i hi => ?_) fun i hi => ?_
          · rcases Nat.lt_or_ge (k - j + i) k with h | h
            · exact h1 _ (by omega) h
            · rw [show k - j + i = k by omega]; exact hg
          · rcases h2 with h | h
            · omega
            · cases ha : allG good i c
              · rfl
              · rcases Nat.lt_or_ge (i + c) (k + 1) with h5 | h5
                · rw [h3 i (by omega)] at ha; cases ha
                · have := allG_iff.1 ha (k - j - 1 - i) (by omega)
                  rw [show i + (k - j - 1 - i) = k - j - 1 by omega, h] at this; cases this
        simp only [runS, hfirst]; omega
      · rw [if_neg (by omega)]
        have h4 : ∀ o, o + c ≤ k + 1 → allG good o c = false := fun o ho => by
          rcases Nat.lt_or_ge (o + c) (k + 1) with h | h
          · exact h3 o (by omega)
          · cases ha : allG good o c
            · rfl
            · rcases h2 with h5 | h5
              · omega
              · have := allG_iff.1 ha (k - j - 1 - o) (by omega)
                rw [show o + (k - j - 1 - o) = k - j - 1 by omega, h5] at this; cases this
        have := runP_eq good n c hc m (k + 1) (j + 1) (by omega) (by omega) (by omega) (fun i a b => by
          rcases Nat.lt_or_ge i k with h | h
          · exact h1 i (by omega) h
          · rw [show i = k by omega]; exact hg) (by rw [show k + 1 - (j + 1) = k - j by omega]; exact h2) h4
        rw [show ((j + 1 : Nat) : Int) = (j : Int) + 1 by omega] at this
        exact this
end Go.Sx
