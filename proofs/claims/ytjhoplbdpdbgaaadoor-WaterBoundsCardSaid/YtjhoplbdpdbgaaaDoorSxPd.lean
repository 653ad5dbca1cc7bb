/- The enumeration of the sets of sources, checked against the order. Own work. -/
import Derived.Test.YtjhoplbdpdbgaaaDoorSxPc
import Derived.Test.YtjhoplbdpdbgaaaDoorSxS1d
set_option linter.unusedVariables false
set_option linter.unusedSimpArgs false
namespace Go.Sx
def nOf (l : List Nat) : Nat := l.foldl (fun a x => a + 2 ^ x) 0
def allSets : List (List Nat) := (List.range 8).flatMap setsL ++ [[0, 1, 2, 3, 4, 5, 6, 7]]
def EL : List Nat := allSets.map nOf
theorem EL_bits : allSets = EL.map fun n => bitsTo n 8 := by decide +kernel
theorem EL_all : ((List.range 256).all fun n => EL.contains n) = true := by decide +kernel
def incr : List Nat → Bool
  | a :: b :: r => Nat.blt (key a) (key b) && incr (b :: r)
  | _ => true
theorem EL_incr : incr EL = true := by decide +kernel
theorem EL_lt : (EL.all fun n => Nat.blt n 256) = true := by decide +kernel
end Go.Sx
namespace Go.Sx
theorem incr_lt : ∀ (l : List Nat), incr l = true → l.Pairwise fun a b => key a < key b
  | [], _ => .nil
  | [a], _ => by simp
  | a :: b :: r, h => by
    simp only [incr, Bool.and_eq_true] at h
    have h2 := incr_lt (b :: r) h.2
    have hab : key a < key b := Nat.blt_eq.mp h.1
    refine List.pairwise_cons.2 ⟨fun x hx => ?_, h2⟩
    rcases List.mem_cons.1 hx with rfl | hx
    · exact hab
    · exact Nat.lt_trans hab ((List.pairwise_cons.1 h2).1 x hx)

/-- The first of a sorted list that passes has the least key. -/
theorem find_least (q : Nat → Bool) : ∀ (l : List Nat), (l.Pairwise fun a b => key a < key b) → ∀ n, l.find? q = some n → n ∈ l ∧ q n = true ∧ ∀ j ∈ l, q j = true → j = n ∨ key n < key j
  | [], _, n, h => by simp at h
  | a :: r, hp, n, h => by
    obtain ⟨h1, h2⟩ := List.pairwise_cons.1 hp
    rw [List.find?_cons] at h
    cases ha : q a
    · rw [ha] at h
      obtain ⟨a1, a2, a3⟩ := find_least q r h2 n h
      refine ⟨by simp [a1], a2, fun j hj hq => ?_⟩
      rcases List.mem_cons.1 hj with rfl | hj
      · rw [ha] at hq; cases hq
      · exact a3 j hj hq
    · rw [ha] at h
      cases h
      refine ⟨by simp, ha, fun j hj hq => ?_⟩
      rcases List.mem_cons.1 hj with rfl | hj
      · exact .inl rfl
      · exact .inr (h1 j hj)

/-- Blame's fold finds what the enumeration finds first. -/
theorem blame_least (p : Nat → Bool) (h255 : p 255 = true) : ∃ n, blSt p 256 = some n ∧ n < 256 ∧ EL.find? p = some n := by
  have hall : ∀ n, n < 256 → n ∈ EL := fun n hn => by
    have := List.all_eq_true.1 EL_all n (List.mem_range.2 hn)
    simpa using this
  rcases blSt_min key_ok p 256 (Nat.le_refl _) with ⟨_, h2⟩ | ⟨b, h1, h2, h3, h4⟩
  · rw [h2 255 (by omega)] at h255; cases h255
  · cases hf : EL.find? p with
    | none =>
      have := List.find?_eq_none.1 hf b (hall b h2)
      exact absurd h3 this
    | some n =>
      obtain ⟨a1, a2, a3⟩ := find_least p EL (incr_lt EL EL_incr) n hf
      have hn : n < 256 := by
        exact Nat.blt_eq.mp (List.all_eq_true.1 EL_lt n a1)
      have hk := h4 n hn a2
      rcases a3 b (hall b h2) h3 with rfl | hlt
      · exact ⟨b, h1, h2, rfl⟩
      · omega
end Go.Sx
