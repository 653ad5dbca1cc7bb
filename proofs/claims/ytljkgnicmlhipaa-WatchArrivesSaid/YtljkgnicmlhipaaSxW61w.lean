/- Own work: contracts of functions, used in the proof of a law. -/
import Derived.Test.YtljkgnicmlhipaaSxW60w
set_option linter.unusedVariables false
set_option linter.unusedSimpArgs false
namespace Go.Sx
open Go.Proofs
set_option maxRecDepth 10000

def rgo (A : Int → Int → Int → Int) (K : Nat) : Int → Int → List Int → Int
  | _, m, [] => m
  | s, m, t :: r => if (!(rI t 0 ((K : Int) - 1)) || (decide (t = 0) && !(r.isEmpty))) = true then -1 else if A s t m < 0 then -1 else rgo A K t (A s t m) r
def rArrI (w : WatchW) (p : List Int) (c m : Int) : Int := match p with
  | [] => -1
  | s :: r => if nAt (s :: r) r.length ≠ 0 then -1 else if (!(rI s 0 ((w.n.r.length : Int) - 1)) || (decide (s = 0) && !(r.isEmpty))) = true then -1 else
      if hAt w.s w.n.r c m s.toNat = false then -1 else rgo (alongI w.n.l) w.n.r.length s m r
theorem rgo_rw {A : Int → Int → Int → Int} {K : Nat} : ∀ (r : List Int) {s m : Int}, nAt (s :: r) r.length = 0 → (s = 0 → r = []) → 0 ≤ m →
    (0 ≤ rgo A K s m r → Rw A K s m (s :: r) 0 (rgo A K s m r)) ∧ ∀ a, Rw A K s m (s :: r) 0 a → rgo A K s m r = a ∧ 0 ≤ a
  | [], s, m, hl, hs, hm => by
    have h0 : s = 0 := hl
    subst h0
    refine ⟨fun _ => .one 0 m, fun a h => ?_⟩
    cases h with
    | one => exact ⟨rfl, hm⟩
    | cons _ _ t p e a g0 _ _ _ _ => exact absurd rfl g0
  | t :: r, s, m, hl, hs, hm => by
    have hs0 : s ≠ 0 := fun e => by have := hs e; cases this
    have hl2 : nAt (t :: r) r.length = 0 := hl
    simp only [rgo]
    by_cases hc : (!(rI t 0 ((K : Int) - 1)) || (decide (t = 0) && !(r.isEmpty))) = true
    · rw [if_pos hc]
      refine ⟨fun h => by omega, fun a h => ?_⟩
      exfalso
      cases h with
      | cons _ _ u p e a g0 g1 g2 g3 g4 =>
        obtain ⟨x, hx⟩ := g4.hd
        simp only [List.cons.injEq] at hx
        obtain ⟨rfl, rfl⟩ := hx
        simp only [Bool.or_eq_true, Bool.not_eq_true', Bool.and_eq_true, decide_eq_true_eq] at hc
        rcases hc with hc | ⟨h1, h2⟩
        · simp [rI] at hc; omega
        · subst h1
          cases g4 with
          | one => simp at h2
          | cons _ _ _ _ _ _ g0' => exact absurd rfl g0'
    · rw [if_neg hc]
      simp only [Bool.or_eq_true, Bool.not_eq_true', Bool.and_eq_true, decide_eq_true_eq, not_or, not_and, Bool.not_eq_false] at hc
      have hr := rI_le hc.1
      have ht0 : t = 0 → r = [] := fun e => by have := hc.2 e; simpa using this
      by_cases hA : A s t m < 0
      · rw [if_pos hA]
        refine ⟨fun h => by omega, fun a h => ?_⟩
        exfalso
        cases h with
        | cons _ _ u p e a g0 g1 g2 g3 g4 =>
          obtain ⟨x, hx⟩ := g4.hd
          simp only [List.cons.injEq] at hx
          obtain ⟨rfl, rfl⟩ := hx
          omega
      · rw [if_neg hA]
        obtain ⟨i1, i2⟩ := rgo_rw r (A := A) (K := K) (s := t) (m := A s t m) hl2 ht0 (by omega)
        refine ⟨fun h => .cons s m t _ 0 _ hs0 (by omega) (by omega) (by omega) (i1 h), fun a h => ?_⟩
        cases h with
        | cons _ _ u p e a g0 g1 g2 g3 g4 =>
          obtain ⟨x, hx⟩ := g4.hd
          simp only [List.cons.injEq] at hx
          obtain ⟨rfl, rfl⟩ := hx
          exact i2 a g4
theorem Rw.last {A : Int → Int → Int → Int} {K : Nat} {s m : Int} {p : List Int} {e a : Int} (h : Rw A K s m p e a) : nAt p (p.length - 1) = e := by
  induction h with
  | one s m => rfl
  | cons s m t p e a _ _ _ _ h ih =>
    obtain ⟨r, rfl⟩ := h.hd
    exact ih
theorem route_arr {w : WatchW} {c m : Int} (hm : 0 ≤ m) {p : List Int} : (0 ≤ rArrI w p c m → RouteP w c m p (rArrI w p c m)) ∧ ∀ a, RouteP w c m p a → rArrI w p c m = a ∧ 0 ≤ a := by
  cases p with
  | nil =>
    refine ⟨fun h => by simp [rArrI] at h, fun a h => ?_⟩
    obtain ⟨s, _, _, h3⟩ := h
    obtain ⟨r, hr⟩ := h3.hd
    cases hr
  | cons s r =>
    simp only [rArrI]
    by_cases hl : nAt (s :: r) r.length ≠ 0
    · rw [if_pos hl]
      refine ⟨fun h => by omega, fun a h => ?_⟩
      obtain ⟨s', _, _, h3⟩ := h
      have := h3.last
      simp only [List.length_cons, Nat.add_sub_cancel] at this
      exact absurd this hl
    rw [if_neg hl]
    have hl : nAt (s :: r) r.length = 0 := by omega
    by_cases hc : (!(rI s 0 ((w.n.r.length : Int) - 1)) || (decide (s = 0) && !(r.isEmpty))) = true
    · rw [if_pos hc]
      refine ⟨fun h => by omega, fun a h => ?_⟩
      exfalso
      obtain ⟨s', h1, _, h3⟩ := h
      obtain ⟨x, hx⟩ := h3.hd
      simp only [List.cons.injEq] at hx
      obtain ⟨rfl, rfl⟩ := hx
      simp only [Bool.or_eq_true, Bool.not_eq_true', Bool.and_eq_true, decide_eq_true_eq] at hc
      rcases hc with hc | ⟨e, h2⟩
      · simp [rI] at hc; omega
      · rw [e] at h3
        cases h3 with
        | one => simp at h2
        | cons _ _ _ _ _ _ g0' => exact absurd rfl g0'
    rw [if_neg hc]
    simp only [Bool.or_eq_true, Bool.not_eq_true', Bool.and_eq_true, decide_eq_true_eq, not_or, not_and, Bool.not_eq_false] at hc
    have hr := rI_le hc.1
    have hs0 : s = 0 → r = [] := fun e => by have := hc.2 e; simpa using this
    have e1 : ((s.toNat : Nat) : Int) = s := by omega
    by_cases hh : hAt w.s w.n.r c m s.toNat = false
    · rw [if_pos hh]
      refine ⟨fun h => by omega, fun a h => ?_⟩
      exfalso
      obtain ⟨s', h1, h2, h3⟩ := h
      obtain ⟨x, hx⟩ := h3.hd
      simp only [List.cons.injEq] at hx
      obtain ⟨rfl, rfl⟩ := hx
      rw [Int.toNat_natCast] at hh
      rw [hh] at h2; cases h2
    rw [if_neg hh]
    obtain ⟨i1, i2⟩ := rgo_rw (A := alongI w.n.l) (K := w.n.r.length) r hl hs0 hm
    refine ⟨fun h => ⟨s.toNat, by omega, by simpa using hh, by rw [e1]; exact i1 h⟩, fun a h => ?_⟩
    obtain ⟨s', h1, h2, h3⟩ := h
    obtain ⟨x, hx⟩ := h3.hd
    simp only [List.cons.injEq] at hx
    obtain ⟨rfl, rfl⟩ := hx
    exact i2 a h3
end Go.Sx
