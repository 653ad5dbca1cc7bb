/- Own work: contracts of functions, used in the proof of a law. -/
import Derived.Test.YtljkgnicmlhipaaSxW62w
set_option linter.unusedVariables false
set_option linter.unusedSimpArgs false
namespace Go.Sx
set_option maxRecDepth 10000

def lst (x : List Int) : Int := nAt x (x.length - 1)
def extL (K : Nat) (x : List Int) (k : Nat) : List (List Int) := ((List.range k).filter fun j : Nat => !(decide ((j : Int) ∈ x))).map fun j : Nat => x ++ [(j : Int)]
def expL (K : Nat) (x : List Int) : List (List Int) := if lst x = 0 then [] else extL K x K
def layL (K : Nat) (H : Nat → Bool) : Nat → List (List Int)
  | 0 => ((List.range K).filter H).map fun i : Nat => [(i : Int)]
  | n + 1 => (layL K H n).flatMap (expL K)
theorem extL_succ (K : Nat) (x : List Int) (k : Nat) : extL K x (k + 1) = extL K x k ++ if (k : Int) ∈ x then [] else [x ++ [(k : Int)]] := by
  unfold extL
  rw [List.range_succ, List.filter_append, List.map_append]
  congr 1
  by_cases h : (k : Int) ∈ x
  · simp [h]
  · simp [h]
theorem extL_len (K : Nat) (x : List Int) (k : Nat) : (extL K x k).length ≤ k := by
  unfold extL
  rw [List.length_map]
  exact Nat.le_trans (List.length_filter_le _ _) (by simp)
theorem expL_len (K : Nat) (x : List Int) : (expL K x).length ≤ K := by
  unfold expL
  split
  · simp
  · exact extL_len K x K
theorem expL_mem {K : Nat} {x y : List Int} (h : y ∈ expL K x) : ∃ k : Nat, k < K ∧ (k : Int) ∉ x ∧ y = x ++ [(k : Int)] := by
  unfold expL at h
  split at h
  · cases h
  · unfold extL at h
    simp only [List.mem_map, List.mem_filter, List.mem_range, Bool.not_eq_true', decide_eq_false_iff_not] at h
    obtain ⟨k, ⟨h1, h2⟩, rfl⟩ := h
    exact ⟨k, h1, h2, rfl⟩
theorem lay_ok {K : Nat} {H : Nat → Bool} : ∀ (n : Nat) (x : List Int), x ∈ layL K H n → x.length = n + 1 ∧ x.Nodup ∧ ∀ y ∈ x, 0 ≤ y ∧ y < (K : Int)
  | 0, x, h => by
    simp only [layL, List.mem_map, List.mem_filter, List.mem_range] at h
    obtain ⟨i, ⟨h1, _⟩, rfl⟩ := h
    refine ⟨rfl, by simp, fun y hy => ?_⟩
    simp at hy; subst hy; omega
  | n + 1, x, h => by
    simp only [layL, List.mem_flatMap] at h
    obtain ⟨y, hy, hx⟩ := h
    obtain ⟨k, h1, h2, rfl⟩ := expL_mem hx
    obtain ⟨i1, i2, i3⟩ := lay_ok n y hy
    refine ⟨by simp [i1], ?_, fun z hz => ?_⟩
    · rw [List.nodup_append]
      exact ⟨i2, by simp, fun a ha b hb => by simp at hb; subst hb; exact fun e => h2 (e ▸ ha)⟩
    · rcases List.mem_append.1 hz with hz | hz
      · exact i3 z hz
      · simp at hz; subst hz; omega
theorem lay_nil {K : Nat} {H : Nat → Bool} {n : Nat} (hn : K ≤ n) : layL K H n = [] := by
  cases h : layL K H n with
  | nil => rfl
  | cons x r =>
    obtain ⟨i1, i2, i3⟩ := lay_ok (K := K) (H := H) n x (by rw [h]; simp)
    have := nodup_len K x i2 i3
    omega
theorem flat_len {α β : Type} {f : α → List β} {K : Nat} (hf : ∀ x, (f x).length ≤ K) : ∀ l : List α, (l.flatMap f).length ≤ l.length * K
  | [] => by simp
  | x :: l => by
    have := flat_len hf l
    have := hf x
    rw [List.flatMap_cons, List.length_append, List.length_cons, Nat.add_mul, Nat.one_mul]
    omega
theorem lay_len {K : Nat} (hK : K ≤ 8) {H : Nat → Bool} : ∀ n, n ≤ 8 → (layL K H n).length ≤ 8 ^ (n + 1)
  | 0, _ => by
    simp only [layL, List.length_map]
    exact Nat.le_trans (List.length_filter_le _ _) (by simpa using hK)
  | n + 1, hn => by
    have ih := lay_len hK (H := H) n (by omega)
    have := flat_len (expL_len K) (layL K H n)
    simp only [layL]
    have h2 : (layL K H n).length * K ≤ 8 ^ (n + 1) * 8 := Nat.mul_le_mul ih hK
    rw [Nat.pow_succ 8 (n + 1)]
    omega
theorem lay_len2 {K : Nat} (hK : K ≤ 8) {H : Nat → Bool} (n : Nat) : (layL K H n).length ≤ 134217728 := by
  rcases Nat.lt_or_ge n 9 with h | h
  · have h1 := lay_len hK (H := H) n (by omega)
    have h2 : 8 ^ (n + 1) ≤ 8 ^ 9 := Nat.pow_le_pow_right (by omega) (by omega)
    have h3 : 8 ^ 9 = 134217728 := by decide
    omega
  · rw [lay_nil (by omega)]; simp
def bst (T : List Int → Int) (s : Int × Option (List Int)) (x : List Int) : Int × Option (List Int) :=
  if lst x = 0 then (if 0 ≤ T x ∧ (s.1 < 0 ∨ (T x < s.1 ∨ (T x = s.1 ∧ lessB x (s.2.getD []) = true))) then (T x, some x) else s) else s
def bstN (T : List Int → Int) (K : Nat) (H : Nat → Bool) : Nat → Int × Option (List Int)
  | 0 => (-1, none)
  | n + 1 => (layL K H n).foldl (bst T) (bstN T K H n)
def BstOk (T : List Int → Int) (S : List Int → Prop) (s : Int × Option (List Int)) : Prop :=
  (s = (-1, none) ∧ ∀ x, S x → T x < 0) ∨ ∃ r, s = (T r, some r) ∧ 0 ≤ T r ∧ S r ∧ ∀ x, S x → 0 ≤ T x → T r ≤ T x ∧ (T x = T r → lessB x r = false)
theorem bst_ok {T : List Int → Int} {S : List Int → Prop} {s : Int × Option (List Int)} (h : BstOk T S s) (x : List Int) : BstOk T (fun y => S y ∨ (y = x ∧ lst x = 0)) (bst T s x) := by
  unfold bst
  by_cases hl : lst x = 0
  · rw [if_pos hl]
    by_cases hc : 0 ≤ T x ∧ (s.1 < 0 ∨ (T x < s.1 ∨ (T x = s.1 ∧ lessB x (s.2.getD []) = true)))
    · rw [if_pos hc]
      right
      refine ⟨x, rfl, hc.1, .inr ⟨rfl, hl⟩, fun y hy hy0 => ?_⟩
      rcases hy with hy | ⟨rfl, _⟩
      · rcases h with ⟨e, hn⟩ | ⟨r, e, h1, h2, h3⟩
        · have := hn y hy; omega
        · obtain ⟨h4, h5⟩ := h3 y hy hy0
          rw [e] at hc
          simp only [Option.getD_some] at hc
          rcases hc.2 with h6 | h6 | ⟨h6, h7⟩
          · omega
          · exact ⟨by omega, fun h => by omega⟩
          · refine ⟨by omega, fun h => ?_⟩
            have h8 := h5 (by omega)
            cases hh : lessB y x with
            | false => rfl
            | true => have := lessB_trans hh h7; rw [h8] at this; cases this
      · exact ⟨Int.le_refl _, fun _ => lessB_irr _⟩
    · rw [if_neg hc]
      rcases h with ⟨e, hn⟩ | ⟨r, e, h1, h2, h3⟩
      · left
        refine ⟨e, fun y hy => ?_⟩
        rcases hy with hy | ⟨rfl, _⟩
        · exact hn y hy
        · rw [e] at hc
          simp only [not_and, not_or] at hc
          refine Classical.byContradiction fun hh => ?_
          have := (hc (by omega)).1
          omega
      · right
        refine ⟨r, e, h1, .inl h2, fun y hy hy0 => ?_⟩
        rcases hy with hy | ⟨rfl, _⟩
        · exact h3 y hy hy0
        · rw [e] at hc
          simp only [Option.getD_some, not_and, not_or] at hc
          obtain ⟨c1, c2, c3⟩ := hc hy0
          refine ⟨by omega, fun h => ?_⟩
          have := c3 h
          simpa using this
  · rw [if_neg hl]
    rcases h with ⟨e, hn⟩ | ⟨r, e, h1, h2, h3⟩
    · exact .inl ⟨e, fun y hy => hy.elim (hn y) fun h => absurd h.2 hl⟩
    · exact .inr ⟨r, e, h1, .inl h2, fun y hy hy0 => hy.elim (fun h => h3 y h hy0) fun h => absurd h.2 hl⟩
theorem BstOk.congr {T : List Int → Int} {S S' : List Int → Prop} {s : Int × Option (List Int)} (h : BstOk T S s) (hs : ∀ y, S y ↔ S' y) : BstOk T S' s := by
  have : S = S' := funext fun y => propext (hs y)
  rw [← this]; exact h
theorem bst_all {T : List Int → Int} : ∀ (l : List (List Int)) {S : List Int → Prop} {s : Int × Option (List Int)}, BstOk T S s → BstOk T (fun y => S y ∨ (y ∈ l ∧ lst y = 0)) (l.foldl (bst T) s)
  | [], S, s, h => h.congr fun y => by simp
  | x :: l, S, s, h => by
    refine (bst_all l (bst_ok h x)).congr fun y => ?_
    simp only [List.mem_cons]
    constructor
    · rintro ((h | ⟨rfl, h⟩) | h)
      · exact .inl h
      · exact .inr ⟨.inl rfl, h⟩
      · exact .inr ⟨.inr h.1, h.2⟩
    · rintro (h | ⟨rfl | h1, h2⟩)
      · exact .inl (.inl h)
      · exact .inl (.inr ⟨rfl, h2⟩)
      · exact .inr ⟨h1, h2⟩
theorem bstN_ok (T : List Int → Int) (K : Nat) (H : Nat → Bool) : ∀ n, BstOk T (fun y => ∃ j, j < n ∧ y ∈ layL K H j ∧ lst y = 0) (bstN T K H n)
  | 0 => .inl ⟨rfl, fun x ⟨j, h, _⟩ => by omega⟩
  | n + 1 => (bst_all (layL K H n) (bstN_ok T K H n)).congr fun y => by
    constructor
    · rintro (⟨j, h1, h2, h3⟩ | ⟨h1, h2⟩)
      · exact ⟨j, by omega, h2, h3⟩
      · exact ⟨n, by omega, h1, h2⟩
    · rintro ⟨j, h1, h2, h3⟩
      by_cases e : j = n
      · subst e; exact .inr ⟨h2, h3⟩
      · exact .inl ⟨j, by omega, h2, h3⟩
theorem bstN_end {T : List Int → Int} {K : Nat} {H : Nat → Bool} {n : Nat} (h : layL K H n = []) : ∀ m, n ≤ m → bstN T K H m = bstN T K H n ∧ layL K H m = [] := by
  intro m
  induction m with
  | zero => intro hm; rw [show n = 0 by omega] at h ⊢; exact ⟨rfl, h⟩
  | succ m ih =>
    intro hm
    by_cases e : n = m + 1
    · rw [← e]; exact ⟨rfl, h⟩
    · obtain ⟨i1, i2⟩ := ih (by omega)
      refine ⟨?_, ?_⟩
      · simp only [bstN]; rw [i2]; exact i1
      · simp only [layL]; rw [i2]; rfl
theorem take_nAt {p : List Int} {i : Nat} (h : i < p.length) : p.take (i + 1) = p.take i ++ [nAt p i] := by
  rw [List.take_add_one, nAt_get h]; rfl
theorem Rw.mid {A : Int → Int → Int → Int} {K : Nat} {s m : Int} {p : List Int} {e a : Int} (h : Rw A K s m p e a) : ∀ i, i + 1 < p.length → nAt p i ≠ 0 := by
  induction h with
  | one s m => intro i hi; simp at hi
  | cons s m t p e a g0 _ _ _ h ih =>
    intro i hi
    cases i with
    | zero => exact g0
    | succ i => exact ih i (by simpa using hi)
theorem lay_mem {A : Int → Int → Int → Int} {K : Nat} {H : Nat → Bool} {s : Nat} {m : Int} {p : List Int} {a : Int} (h : Rw A K s m p 0 a) (hs : s < K) (hH : H s = true) (hd : p.Nodup) : ∀ i, i < p.length → p.take (i + 1) ∈ layL K H i
  | 0, hi => by
    obtain ⟨r, hr⟩ := h.hd
    rw [hr]
    simp only [List.take_succ_cons, List.take_zero, layL, List.mem_map, List.mem_filter, List.mem_range]
    exact ⟨s, ⟨hs, hH⟩, rfl⟩
  | i + 1, hi => by
    have ih := lay_mem h hs hH hd i (by omega)
    have hr := h.rng ⟨by omega, by omega⟩ (nAt p (i + 1)) (List.mem_of_getElem? (nAt_get hi))
    obtain ⟨k, hk⟩ : ∃ k : Nat, nAt p (i + 1) = (k : Int) := ⟨(nAt p (i + 1)).toNat, by omega⟩
    have hl : lst (p.take (i + 1)) = nAt p i := by
      unfold lst
      have e : (p.take (i + 1)).length = i + 1 := by rw [List.length_take]; omega
      rw [e, Nat.add_sub_cancel, take_nAt (by omega)]
      have := nAt_last (p.take i) (nAt p i)
      rwa [show (p.take i).length = i by rw [List.length_take]; omega] at this
    rw [take_nAt hi]
    simp only [layL, List.mem_flatMap]
    refine ⟨_, ih, ?_⟩
    unfold expL
    rw [hl, if_neg (h.mid i hi)]
    unfold extL
    simp only [List.mem_map, List.mem_filter, List.mem_range, Bool.not_eq_true', decide_eq_false_iff_not]
    refine ⟨k, ⟨by omega, fun hc => ?_⟩, by rw [hk]⟩
    rw [← hk] at hc
    obtain ⟨j, hj, he⟩ := List.getElem_of_mem hc
    rw [List.length_take] at hj
    rw [List.getElem_take] at he
    have h2 : p[j]'(by omega) = p[i + 1] := by rw [he, nAt, gd_el hi]
    exact (List.pairwise_iff_getElem.1 hd) j (i + 1) (by omega) hi (by omega) h2
end Go.Sx
