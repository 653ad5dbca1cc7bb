/- Plain laws of blame. Own work. -/
import Derived.Test.YtjhoplbdpdbgaaaDoorSxC12d
set_option linter.unusedVariables false
set_option linter.unusedSimpArgs false
namespace Go.Sx

theorem bits_mem (n k : Nat) (hk : k < 8) : ((bI n).contains (k : Int)) = (n / 2 ^ k % 2 == 1) := by
  rw [Bool.eq_iff_iff, List.contains_iff_mem]
  simp only [bI, List.mem_map, bitsTo, List.mem_filter, List.mem_range]
  constructor
  · rintro ⟨j, ⟨_, h2⟩, h3⟩
    have : j = k := by omega
    subst this; exact h2
  · intro h; exact ⟨k, ⟨hk, h⟩, rfl⟩

theorem keep_ig {n : Nat} {r : Rd} (h : 0 ≤ r.src ∧ r.src ≤ 7) : keepB n r = igB (bI n) r := by
  obtain ⟨k, hk⟩ : ∃ k : Nat, r.src = (k : Int) := Int.eq_ofNat_of_zero_le h.1
  have h2 : r.src.toNat = k := by omega
  simp only [keepB, igB, h2]
  rw [hk, bits_mem n k (by omega)]
  have := Nat.mod_two_eq_zero_or_one (n / 2 ^ k)
  rcases this with h | h <;> simp [h]

theorem rest_ig {g : Ga} (hga : gaOk g = true) (n : Nat) : restG g n = igG g (bI n) := by
  obtain ⟨hrs, _⟩ := gaOk_inv hga
  simp only [restG, igG]
  congr 1
  exact List.filter_congr fun r hr => keep_ig (hrs r hr).2.2

theorem okB_eq {g : Ga} (hga : gaOk g = true) (n : Nat) : okB g n = !(clashG (igG g (bI n))).2.2 := by
  rw [okB, rest_ig hga]

/-- Without any readings nothing clashes. -/
theorem okB_255 {g : Ga} (hga : gaOk g = true) : okB g 255 = true := by
  obtain ⟨hrs, _⟩ := gaOk_inv hga
  have : restG g 255 = { g with rs := [] } := by
    simp only [restG]
    congr 1
    rw [List.filter_eq_nil_iff]
    intro r hr
    obtain ⟨k, hk⟩ : ∃ k : Nat, r.src = (k : Int) := Int.eq_ofNat_of_zero_le (hrs r hr).2.2.1
    have h2 : r.src.toNat = k := by omega
    have h3 : k < 8 := by have := (hrs r hr).2.2.2; omega
    have h4 : ∀ k : Fin 8, 255 / 2 ^ k.val % 2 = 1 := by decide
    have := h4 ⟨k, h3⟩
    simp only [keepB, h2]
    simp at this
    simp [this]
  rw [okB, this]; rfl

/-! The least under an order of keys -/
def key (n : Nat) : Nat := (bI n).foldl (fun a x => a * 9 + (x.toNat + 1)) 0 * 9 ^ (8 - (bI n).length) + (bI n).length * 9 ^ 8

theorem blSt_min {K : Nat → Nat} {N : Nat} (hK : ∀ n b, n < N → b < N → worse n b = decide (K b < K n)) (p : Nat → Bool) : ∀ n : Nat, n ≤ N →
    (blSt p n = none ∧ ∀ j, j < n → p j = false) ∨ ∃ b, blSt p n = some b ∧ b < n ∧ p b = true ∧ ∀ j, j < n → p j = true → K b ≤ K j
  | 0, _ => .inl ⟨rfl, fun j hj => absurd hj (Nat.not_lt_zero j)⟩
  | n + 1, hn => by
    rcases blSt_min hK p n (by omega) with ⟨h1, h2⟩ | ⟨b, h1, h2, h3, h4⟩
    · cases hp : p n
      · refine .inl ⟨by simp [blSt, h1, hp], fun j hj => ?_⟩
        rcases Nat.lt_or_eq_of_le (Nat.le_of_lt_succ hj) with h | rfl
        · exact h2 j h
        · exact hp
      · refine .inr ⟨n, by simp [blSt, h1, hp], by omega, hp, fun j hj hpj => ?_⟩
        rcases Nat.lt_or_eq_of_le (Nat.le_of_lt_succ hj) with h | rfl
        · rw [h2 j h] at hpj; cases hpj
        · exact Nat.le_refl _
    · have hw := hK n b (by omega) (by omega)
      cases hwo : worse n b
      · have hle : K n ≤ K b := by rw [hwo] at hw; have := of_decide_eq_false hw.symm; omega
        cases hp : p n
        · refine .inr ⟨b, by simp [blSt, h1, hwo, hp], by omega, h3, fun j hj hpj => ?_⟩
          rcases Nat.lt_or_eq_of_le (Nat.le_of_lt_succ hj) with h | rfl
          · exact h4 j h hpj
          · rw [hp] at hpj; cases hpj
        · refine .inr ⟨n, by simp [blSt, h1, hwo, hp], by omega, hp, fun j hj hpj => ?_⟩
          rcases Nat.lt_or_eq_of_le (Nat.le_of_lt_succ hj) with h | rfl
          · exact Nat.le_trans hle (h4 j h hpj)
          · exact Nat.le_refl _
      · have hlt : K b < K n := by rw [hwo] at hw; exact of_decide_eq_true hw.symm
        refine .inr ⟨b, by simp [blSt, h1, hwo], by omega, h3, fun j hj hpj => ?_⟩
        rcases Nat.lt_or_eq_of_le (Nat.le_of_lt_succ hj) with h | rfl
        · exact h4 j h hpj
        · omega
end Go.Sx
