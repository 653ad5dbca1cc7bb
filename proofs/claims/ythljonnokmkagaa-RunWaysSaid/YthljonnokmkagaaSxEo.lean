/- Own work: a calculus of contracts for the programs of this kit: parts SxE85r, SxE86r. -/
import Derived.Test.YthljonnokmkagaaSxE84r
set_option linter.unusedVariables false
set_option linter.unusedSimpArgs false
namespace Go.Sx
open Go.Proofs
set_option maxRecDepth 10000

/-! Best walks from a cell -/
theorem lexB_app : ∀ {a b : List Int} (c : List Int), a.length = b.length → lexB a b = true → lexB (a ++ c) (b ++ c) = true
  | [], [], c, _, h => by simp [lexB] at h
  | x :: a, y :: b, c, hl, h => by
    simp only [List.cons_append, lexB] at h ⊢
    by_cases e : x = y
    · rw [if_pos e] at h ⊢; exact lexB_app c (by simpa using hl) h
    · rw [if_neg e] at h ⊢; exact h
theorem lexB_app2 : ∀ {a b : List Int} (c d : List Int), a.length = b.length → lexB a b = true → lexB (a ++ c) (b ++ d) = true
  | [], [], c, d, _, h => by simp [lexB] at h
  | x :: a, y :: b, c, d, hl, h => by
    simp only [List.cons_append, lexB] at h ⊢
    by_cases e : x = y
    · rw [if_pos e] at h ⊢; exact lexB_app2 c d (by simpa using hl) h
    · rw [if_neg e] at h ⊢; exact h
theorem lexB_pre : ∀ (a c d : List Int), lexB (a ++ c) (a ++ d) = lexB c d
  | [], c, d => rfl
  | x :: a, c, d => by simp [lexB, lexB_pre a c d]
theorem lessL_total {m n : Int} {a b : List Int} (h1 : lessL m a n b = false) (h2 : lessL n b m a = false) : m = n ∧ a = b := by
  unfold lessL at h1 h2
  by_cases e : m = n
  · subst e
    rw [if_pos rfl] at h1 h2
    by_cases el : a.length = b.length
    · rw [if_pos el] at h1
      rw [if_pos el.symm] at h2
      exact ⟨rfl, lexB_total el h1 h2⟩
    · rw [if_neg el] at h1
      rw [if_neg fun h => el h.symm] at h2
      simp only [decide_eq_false_iff_not] at h1 h2
      omega
  · rw [if_neg e] at h1
    rw [if_neg fun h => e h.symm] at h2
    simp only [decide_eq_false_iff_not] at h1 h2
    omega
theorem lessL_snoc {m n s k : Int} {a b : List Int} (h : lessL m a n b = true) : lessL (m + s) (a ++ [k]) (n + s) (b ++ [k]) = true := by
  unfold lessL at h ⊢
  by_cases e : m = n
  · subst e
    rw [if_pos rfl] at h ⊢
    by_cases el : a.length = b.length
    · rw [if_pos el] at h
      rw [if_pos (by simp [el])]
      exact lexB_app [k] el h
    · rw [if_neg el] at h
      rw [if_neg (by simpa using el)]
      simpa using h
  · rw [if_neg e] at h
    rw [if_neg (by omega)]
    simp only [decide_eq_true_eq] at h ⊢; omega
theorem addC_comm (u : Cst) (s t : Stp) : addC (addC u s) t = addC (addC u t) s := by
  simp only [addC]
  rw [Int.add_assoc, Int.add_comm (lenS s.dx s.dy), ← Int.add_assoc]
section
variable {al : Int → Bool} {L : Int → List Stp}
theorem path_snoc {j : Int} {s : Stp} (hs : s ∈ L j) (ha : al s.cell = true) : ∀ {x : Int} {r : List Int} {v : Cst}, PathC al L (x :: r) v → (x :: r).getLast? = some j → PathC al L (x :: (r ++ [s.cell])) (addC v s)
  | x, [], v, h, hl => by
    simp only [List.getLast?_singleton, Option.some.injEq] at hl
    subst hl
    exact ⟨h.1, s, hs, rfl, ⟨0, 1⟩, ⟨ha, rfl⟩, by rw [h.2]⟩
  | x, y :: r, v, h, hl => by
    obtain ⟨hx, t, ht, hty, u, hu, rfl⟩ := h
    rw [List.getLast?_cons_cons] at hl
    exact ⟨hx, t, ht, hty, addC u s, path_snoc hs ha hu hl, addC_comm u t s⟩
theorem path_unsnoc : ∀ {x k : Int} {r : List Int} {v : Cst}, PathC al L (x :: (r ++ [k])) v → ∃ j s u, PathC al L (x :: r) u ∧ (x :: r).getLast? = some j ∧ s ∈ L j ∧ s.cell = k ∧ al k = true ∧ v = addC u s
  | x, k, [], v, h => by
    obtain ⟨hx, s, hs, hk, u, hu, rfl⟩ := h
    exact ⟨x, s, ⟨0, 1⟩, ⟨hx, rfl⟩, rfl, hs, hk, hu.1, by rw [hu.2]⟩
  | x, k, y :: r, v, h => by
    obtain ⟨hx, t, ht, hty, u, hu, rfl⟩ := h
    obtain ⟨j, s, w, h1, h2, h3, h4, h5, rfl⟩ := path_unsnoc hu
    exact ⟨j, s, addC w t, ⟨hx, t, ht, hty, w, h1, rfl⟩, by rw [List.getLast?_cons_cons]; exact h2, h3, h4, h5, addC_comm w s t⟩
/-- A walk from a cell to a cell, and its length. -/
def Wk (al : Int → Bool) (L : Int → List Stp) (frm : Int) (p : List Int) (m k : Int) : Prop := ∃ r, p = frm :: r ∧ PathC al L p ⟨m, p.length⟩ ∧ p.getLast? = some k
def Oq (al : Int → Bool) (L : Int → List Stp) (frm : Int) (p : List Int) (m k : Int) : Prop := Wk al L frm p m k ∧ ∀ q m', Wk al L frm q m' k → lessL m' q m p = false
variable {frm : Int}
theorem Oq.uniq {p q : List Int} {m n k : Int} (h : Oq al L frm p m k) (h' : Oq al L frm q n k) : m = n ∧ p = q := lessL_total (h'.2 _ _ h.1) (h.2 _ _ h'.1)
theorem Wk.one (ha : al frm = true) : Wk al L frm [frm] 0 frm := ⟨[], rfl, ⟨ha, rfl⟩, rfl⟩
theorem Wk.snoc {p : List Int} {m j : Int} (h : Wk al L frm p m j) {s : Stp} (hs : s ∈ L j) (ha : al s.cell = true) : Wk al L frm (p ++ [s.cell]) (m + lenS s.dx s.dy) s.cell := by
  obtain ⟨r, rfl, h1, h2⟩ := h
  refine ⟨r ++ [s.cell], rfl, ?_, List.getLast?_concat (l := frm :: r)⟩
  have := path_snoc hs ha h1 h2
  simpa [addC] using this
theorem Wk.unsnoc {p : List Int} {m k : Int} (h : Wk al L frm p m k) : (p = [frm] ∧ k = frm ∧ m = 0) ∨ ∃ p' m' j s, p = p' ++ [k] ∧ Wk al L frm p' m' j ∧ s ∈ L j ∧ s.cell = k ∧ al k = true ∧ m = m' + lenS s.dx s.dy := by
  obtain ⟨r, rfl, h1, h2⟩ := h
  rcases List.eq_nil_or_concat r with rfl | ⟨r', k', rfl⟩
  · simp only [List.getLast?_singleton, Option.some.injEq] at h2
    have h3 : (⟨m, (([frm] : List Int).length : Int)⟩ : Cst) = ⟨0, 1⟩ := h1.2
    simp only [Cst.mk.injEq] at h3
    exact .inl ⟨rfl, h2.symm, h3.1⟩
  · have hk : k' = k := by
      rw [List.getLast?_cons] at h2
      simpa using h2
    subst hk
    rw [List.concat_eq_append] at h1 ⊢
    obtain ⟨j, s, u, g1, g2, g3, g4, g5, g6⟩ := path_unsnoc h1
    have hp := path_pos g1
    refine .inr ⟨frm :: r', u.len, j, s, rfl, ⟨r', rfl, ?_, g2⟩, g3, g4, g5, ?_⟩
    · have : (⟨u.len, ((frm :: r').length : Int)⟩ : Cst) = u := by
        obtain ⟨a, b⟩ := u
        simp only [Cst.mk.injEq, true_and, List.length_cons]
        dsimp only at hp
        omega
      rw [this]; exact g1
    · simp only [addC, Cst.mk.injEq] at g6
      exact g6.1
theorem Oq.pre {p' : List Int} {m k : Int} (h : Oq al L frm (p' ++ [k]) m k) (hne : p' ≠ []) : ∃ j m' s, Oq al L frm p' m' j ∧ s ∈ L j ∧ s.cell = k ∧ al k = true ∧ m = m' + lenS s.dx s.dy := by
  rcases h.1.unsnoc with ⟨h1, _, _⟩ | ⟨q, m', j, s, h1, h2, h3, h4, h5, h6⟩
  · have := congrArg List.length h1
    simp only [List.length_append, List.length_cons, List.length_nil] at this
    exact absurd (List.length_eq_zero_iff.1 (by omega)) hne
  · have hq : q = p' := by
      have := List.append_inj' h1 rfl
      exact this.1.symm
    subst hq
    refine ⟨j, m', s, ⟨h2, fun q' n hq' => ?_⟩, h3, h4, h5, h6⟩
    have hw := hq'.snoc h3 (by rw [h4]; exact h5)
    rw [h4] at hw
    have h7 := h.2 _ _ hw
    cases hc : lessL n q' m' q
    · rfl
    · have := lessL_snoc (s := lenS s.dx s.dy) (k := k) hc
      rw [← h6, h7] at this
      cases this
theorem Wk.fine {p : List Int} {m k : Int} (h : Wk al L frm p m k) : al k = true := by
  rcases h.unsnoc with ⟨_, rfl, _⟩ | ⟨_, _, _, _, _, _, _, _, h5, _⟩
  · obtain ⟨r, rfl, h1, _⟩ := h
    exact path_al h1 _ (by simp)
  · exact h5
theorem Wk.ne {p : List Int} {m k : Int} (h : Wk al L frm p m k) : p ≠ [] := by obtain ⟨r, rfl, _⟩ := h; simp
end
section
variable {N : Nat} {al : Int → Bool} {L : Int → List Stp} (hn : Net N L) {frm : Int} (hf : 0 ≤ frm ∧ frm < (N : Int))
include hn hf
theorem Wk.range {p : List Int} {m k : Int} (h : Wk al L frm p m k) : 0 ≤ k ∧ k < (N : Int) := by
  obtain ⟨r, rfl, h1, h2⟩ := h
  exact path_range hn hf h1 k (List.mem_of_getLast? h2)
theorem oq_none {k : Int} (hk : 0 ≤ k ∧ k < (N : Int)) (h : mget (farA al L k) frm = none) {p : List Int} {m : Int} : ¬Wk al L frm p m k := fun ⟨r, e, h1, h2⟩ => by
  subst e
  have hw := path_walk hn hf h1 h2
  obtain ⟨v, hv, _⟩ := (far_spec (al := al) hn.n hn.ok hk).2.1 _ _ hw
  rw [h] at hv; cases hv
theorem oq_some {k : Int} (hk : 0 ≤ k ∧ k < (N : Int)) {v : Cst} (h : mget (farA al L k) frm = some v) : Oq al L frm (alongA (farA al L k) L frm k) v.len k ∧ (alongA (farA al L k) L frm k).length ≤ 203 := by
  have hmo := farA_ok hn.n al _ hn.ok hk
  have hvb := hmo.b _ _ h
  have hc : v.cells ≤ ((cellsN (farA al L k) frm + 1 : Nat) : Int) := by
    simp only [cellsN, h, Option.getD_some]; omega
  obtain ⟨r, e1, e2, e3, e4, e5, e6⟩ := along_spec (al := al) hn hk _ frm v hf h hc
  have ea : alongA (farA al L k) L frm k = frm :: r := e1
  have hpos := path_pos e2
  rw [ea]
  have hv : (⟨v.len, ((frm :: r).length : Int)⟩ : Cst) = v := by
    obtain ⟨a, b⟩ := v
    simp only [Cst.mk.injEq, true_and, List.length_cons]
    dsimp only at hpos
    omega
  refine ⟨⟨⟨r, rfl, by rw [hv]; exact e2, e3⟩, ?_⟩, by simp; omega⟩
  rintro q m' ⟨q', rfl, h1, h2⟩
  have hw := path_walk hn hf h1 h2
  obtain ⟨v', hv', hle⟩ := (far_spec (al := al) hn.n hn.ok hk).2.1 _ _ hw
  rw [h] at hv'; cases hv'
  unfold leC at hle
  dsimp only at hle
  simp only [List.length_cons] at hle hpos h1
  unfold lessL
  split
  · rename_i hm
    split
    · rename_i hlen
      refine e6 q' ?_ h2
      simp only [List.length_cons] at hlen
      have : v = ⟨m', ((q'.length + 1 : Nat) : Int)⟩ := by
        obtain ⟨a, b⟩ := v
        simp only [Cst.mk.injEq]
        dsimp only at hpos hm
        omega
      rw [this]; exact h1
    · rename_i hlen
      simp only [List.length_cons] at hlen ⊢
      simp only [decide_eq_false_iff_not]; omega
  · simp only [decide_eq_false_iff_not]; omega
theorem oq_of {q : List Int} {m k : Int} (h : Wk al L frm q m k) : ∃ p m', Oq al L frm p m' k ∧ p.length ≤ 203 := by
  have hk := h.range hn hf
  cases hm : mget (farA al L k) frm with
  | none => exact absurd h (oq_none hn hf hk hm)
  | some v => exact ⟨_, _, oq_some hn hf hk hm⟩
end
end Go.Sx

namespace Go.Sx
open Go.Proofs
set_option maxRecDepth 10000

/-! The improving of the best ways -/
structure BSt where
  ws : List (Option (List Int))
  ls : List Int
def BSt.w (S : BSt) (k : Nat) : Option (List Int) := (S.ws[k]?).getD none
def BSt.put (S : BSt) (k : Nat) (p : List Int) (m : Int) : BSt := ⟨S.ws.set k (some p), S.ls.set k m⟩
theorem BSt.w_put {S : BSt} {k : Nat} (hk : k < S.ws.length) (p : List Int) (m : Int) (j : Nat) : (S.put k p m).w j = if j = k then some p else S.w j := by
  simp only [BSt.w, BSt.put, List.getElem?_set]
  by_cases h : j = k
  · subst h; simp [hk]
  · have : ¬k = j := fun e => h e.symm
    simp [h, this]
theorem nAt_set {l : List Int} {k : Nat} (hk : k < l.length) (m : Int) (j : Nat) : nAt (l.set k m) j = if j = k then m else nAt l j := by
  simp only [nAt, List.getElem?_set]
  by_cases h : j = k
  · subst h; simp [hk]
  · have : ¬k = j := fun e => h e.symm
    simp [h, this]
/-- A way would become better. -/
def impB (S : BSt) (m : Int) (x : List Int) (k : Nat) : Bool := match S.w k with
  | none => true
  | some y => lessL m x (nAt S.ls k) y
section
variable (N : Nat) (al : Int → Bool) (L : Int → List Stp) (frm : Nat) (stp : Nat → Nat → Option Stp)
structure BInv (S : BSt) : Prop where
  n1 : S.ws.length = N
  n2 : S.ls.length = N
  walk : ∀ (k : Nat) p, S.w k = some p → Wk al L frm p (nAt S.ls k) k
  start : S.w frm = some [(frm : Int)] ∧ nAt S.ls frm = 0
  zero : ∀ (k : Nat), S.w k = none → nAt S.ls k = 0
def OptB (S : BSt) (k : Nat) : Prop := ∃ p, S.w k = some p ∧ Oq al L frm p (nAt S.ls k) k
def noImp (S : BSt) (j : Nat) (s : Stp) : Prop := ∀ p, S.w j = some p → impB S (nAt S.ls j + lenS s.dx s.dy) (p ++ [s.cell]) s.cell.toNat = false
def donB (i w j v : Nat) : Prop := j < i ∨ (j = i ∧ v < w)
structure SwInv (B0 : Nat) (S0 : BSt) (i w : Nat) (S : BSt) (ch : Bool) : Prop where
  b : BInv N al L frm S
  len : ∀ (k : Nat) p, S.w k = some p → p.length ≤ B0 + (8 * i + w)
  keep : ∀ k, OptB al L frm S0 k → OptB al L frm S k
  gain : ∀ j v s, donB i w j v → j < N → v < 8 → stp j v = some s → al s.cell = true → OptB al L frm S0 j → (∀ p m, Oq al L frm p m j → Oq al L frm (p ++ [s.cell]) (m + lenS s.dx s.dy) s.cell) → OptB al L frm S s.cell.toNat
  fix : ch = false → S = S0 ∧ ∀ j v s, donB i w j v → j < N → v < 8 → stp j v = some s → al s.cell = true → noImp S0 j s
  top : (∀ k, k < N → (∃ q m, Wk al L frm q m (k : Int)) → OptB al L frm S0 k) → ch = false
end
section
variable {N : Nat} {al : Int → Bool} {L : Int → List Stp} {frm : Nat} {stp : Nat → Nat → Option Stp} (hn : Net N L) (hf : frm < N) (hst : ∀ j, j < N → ∀ s, s ∈ L j ↔ ∃ v, v < 8 ∧ stp j v = some s) {B0 : Nat}
include hn hf
theorem stp_in {j : Nat} (hj : j < N) {s : Stp} (hs : s ∈ L j) : 0 ≤ s.cell ∧ s.cell.toNat < N ∧ ((s.cell.toNat : Nat) : Int) = s.cell := by
  have := hn.ok j (by omega) (by omega) s hs
  omega
/-- An improving keeps what holds. -/
theorem binv_put {S : BSt} (h : BInv N al L frm S) {i : Nat} (hi : i < N) {p : List Int} (hp : S.w i = some p) {s : Stp} (hs : s ∈ L i) (hal : al s.cell = true) (hb : impB S (nAt S.ls i + lenS s.dx s.dy) (p ++ [s.cell]) s.cell.toNat = true) :
    BInv N al L frm (S.put s.cell.toNat (p ++ [s.cell]) (nAt S.ls i + lenS s.dx s.dy)) ∧ ∀ k, OptB al L frm S k → k ≠ s.cell.toNat ∧ OptB al L frm (S.put s.cell.toNat (p ++ [s.cell]) (nAt S.ls i + lenS s.dx s.dy)) k := by
  obtain ⟨c0, c1, c2⟩ := stp_in hn hf hi hs
  have hw1 : s.cell.toNat < S.ws.length := by rw [h.n1]; exact c1
  have hl1 : s.cell.toNat < S.ls.length := by rw [h.n2]; exact c1
  have hwk := (h.walk i p hp).snoc hs hal
  have hfr : ¬frm = s.cell.toNat := fun e => by
    have h1 := h.start
    rw [e] at h1
    simp only [impB, h1.1, h1.2] at hb
    have hpos : 0 ≤ nAt S.ls i := by
      obtain ⟨r, rfl, g1, g2⟩ := h.walk i p hp
      exact (path_pos g1).1
    have := lenS_b s.dx s.dy
    unfold lessL at hb
    rw [if_neg (by omega)] at hb
    simp only [decide_eq_true_eq] at hb
    omega
  have hopt : ∀ k, OptB al L frm S k → k ≠ s.cell.toNat := fun k ⟨q, h1, h2⟩ e => by
    subst e
    simp only [impB, h1] at hb
    rw [c2] at h2
    rw [h2.2 _ _ hwk] at hb
    cases hb
  refine ⟨⟨by simp [BSt.put, h.n1], by simp [BSt.put, h.n2], fun k q hq => ?_, ?_, fun k hk => ?_⟩, fun k hk => ⟨hopt k hk, ?_⟩⟩
  · rw [BSt.w_put hw1] at hq
    show Wk al L frm q (nAt (S.ls.set _ _) k) k
    rw [nAt_set hl1]
    split at hq
    · rename_i e
      cases hq
      subst e
      rw [if_pos rfl, c2]
      exact hwk
    · rename_i e
      rw [if_neg e]
      exact h.walk k q hq
  · rw [BSt.w_put hw1, if_neg hfr]
    show _ ∧ nAt (S.ls.set _ _) frm = 0
    rw [nAt_set hl1, if_neg hfr]
    exact h.start
  · rw [BSt.w_put hw1] at hk
    show nAt (S.ls.set _ _) k = 0
    rw [nAt_set hl1]
    split at hk
    · cases hk
    · rename_i e
      rw [if_neg e]
      exact h.zero k hk
  · obtain ⟨q, h1, h2⟩ := hk
    have hne := hopt k ⟨q, h1, h2⟩
    refine ⟨q, by rw [BSt.w_put hw1, if_neg hne]; exact h1, ?_⟩
    show Oq al L frm q (nAt (S.ls.set _ _) k) k
    rw [nAt_set hl1, if_neg hne]
    exact h2
theorem opt_all {S : BSt} (h : BInv N al L frm S) (hfx : ∀ j s, j < N → s ∈ L j → al s.cell = true → noImp S j s) : ∀ (n : Nat) (k : Nat) p m, p.length ≤ n → Oq al L frm p m (k : Int) → S.w k = some p ∧ nAt S.ls k = m := by
  intro n
  induction n with
  | zero => intro k p m hl ho; exact absurd (List.length_eq_zero_iff.1 (by omega)) ho.1.ne
  | succ n ih =>
    intro k p m hl ho
    rcases ho.1.unsnoc with ⟨rfl, hk, rfl⟩ | ⟨p', m', j, s, rfl, hw, hs, hsk, hal, rfl⟩
    · have : k = frm := by omega
      subst this
      exact h.start
    · obtain ⟨j', m2, s2, h1, h2, h3, h4, h5⟩ := ho.pre hw.ne
      have hjr := h1.1.range hn ⟨by omega, by omega⟩
      obtain ⟨jn, rfl⟩ : ∃ jn : Nat, j' = (jn : Int) := ⟨j'.toNat, by omega⟩
      have hjn : jn < N := by omega
      obtain ⟨g1, g2⟩ := ih jn p' m2 (by simp at hl; omega) h1
      have hni := hfx jn s2 hjn h2 (by rw [h3]; exact h4) p' g1
      rw [h3, g2, ← h5] at hni
      simp only [Int.toNat_natCast, impB] at hni
      cases hy : S.w k with
      | none => rw [hy] at hni; cases hni
      | some y =>
        rw [hy] at hni
        dsimp only at hni
        have h6 := ho.2 _ _ (h.walk k y hy)
        have := lessL_total hni h6
        exact ⟨by rw [this.2], this.1.symm⟩
omit hn hf in
theorem sw_start {S : BSt} (h : BInv N al L frm S) (hl : ∀ (k : Nat) p, S.w k = some p → p.length ≤ B0) : SwInv N al L frm stp B0 S 0 0 S false :=
  ⟨h, fun k p hp => hl k p hp, fun k hk => hk, fun j v s hd => by rcases hd with h | ⟨_, h⟩ <;> omega, fun _ => ⟨rfl, fun j v s hd => by rcases hd with h | ⟨_, h⟩ <;> omega⟩, fun _ => rfl⟩
omit hf hn in
theorem sw_next {S0 S : BSt} {i : Nat} {ch : Bool} (h : SwInv N al L frm stp B0 S0 i 8 S ch) : SwInv N al L frm stp B0 S0 (i + 1) 0 S ch := by
  have key : ∀ j v, donB (i + 1) 0 j v → v < 8 → donB i 8 j v := fun j v hd hv => by
    rcases hd with h | ⟨_, h⟩
    · rcases Nat.lt_or_ge j i with h1 | h1
      · exact .inl h1
      · exact .inr ⟨by omega, hv⟩
    · omega
  exact ⟨h.b, fun k p hp => by have := h.len k p hp; omega, h.keep, fun j v s hd hj hv => h.gain j v s (key j v hd hv) hj hv, fun hc => ⟨(h.fix hc).1, fun j v s hd hj hv => (h.fix hc).2 j v s (key j v hd hv) hj hv⟩, h.top⟩
omit hf hn in
theorem don_succ {i w j v : Nat} (h : donB i (w + 1) j v) : donB i w j v ∨ (j = i ∧ v = w) := by
  rcases h with h | ⟨h1, h2⟩
  · exact .inl (.inl h)
  · rcases Nat.lt_or_ge v w with h3 | h3
    · exact .inl (.inr ⟨h1, h3⟩)
    · exact .inr ⟨h1, by omega⟩
omit hf hn in
/-- Nothing to do. -/
theorem sw_skip {S0 S : BSt} {i w : Nat} {ch : Bool} (h : SwInv N al L frm stp B0 S0 i w S ch) (hno : ∀ s, stp i w = some s → al s.cell = true → S.w i = none) : SwInv N al L frm stp B0 S0 i (w + 1) S ch := by
  refine ⟨h.b, fun k p hp => by have := h.len k p hp; omega, h.keep, fun j v s hd hj hv hs hal ho hp => ?_, fun hc => ⟨(h.fix hc).1, fun j v s hd hj hv hs hal => ?_⟩, h.top⟩
  · rcases don_succ hd with hd | ⟨rfl, rfl⟩
    · exact h.gain j v s hd hj hv hs hal ho hp
    · obtain ⟨p, h1, _⟩ := h.keep _ ho
      rw [hno s hs hal] at h1; cases h1
  · rcases don_succ hd with hd | ⟨rfl, rfl⟩
    · exact (h.fix hc).2 j v s hd hj hv hs hal
    · intro p hp
      have := hno s hs hal
      rw [(h.fix hc).1] at this
      rw [this] at hp; cases hp
include hst
/-- Not better. -/
theorem sw_same {S0 S : BSt} {i w : Nat} {ch : Bool} (h : SwInv N al L frm stp B0 S0 i w S ch) (hi : i < N) (hw : w < 8) {s : Stp} (hs : stp i w = some s) {p : List Int} (hp : S.w i = some p)
    (hb : impB S (nAt S.ls i + lenS s.dx s.dy) (p ++ [s.cell]) s.cell.toNat = false) : SwInv N al L frm stp B0 S0 i (w + 1) S ch := by
  have hsl : s ∈ L i := (hst i hi s).2 ⟨w, hw, hs⟩
  obtain ⟨c0, c1, c2⟩ := stp_in hn hf hi hsl
  refine ⟨h.b, fun k p hp => by have := h.len k p hp; omega, h.keep, fun j v s' hd hj hv hs' hal ho hq => ?_, fun hc => ⟨(h.fix hc).1, fun j v s' hd hj hv hs' hal => ?_⟩, h.top⟩
  · rcases don_succ hd with hd | ⟨rfl, rfl⟩
    · exact h.gain j v s' hd hj hv hs' hal ho hq
    · rw [hs] at hs'; cases hs'
      obtain ⟨q, h1, h2⟩ := h.keep _ ho
      rw [hp] at h1; cases h1
      have h3 := hq _ _ h2
      unfold impB at hb
      cases hy : S.w s.cell.toNat with
      | none => rw [hy] at hb; cases hb
      | some y =>
        rw [hy] at hb
        dsimp only at hb
        have hwy := h.b.walk _ y hy
        rw [c2] at hwy
        have := lessL_total hb (h3.2 _ _ hwy)
        refine ⟨y, hy, ?_⟩
        rw [← this.1, ← this.2, c2]
        exact h3
  · rcases don_succ hd with hd | ⟨rfl, rfl⟩
    · exact (h.fix hc).2 j v s' hd hj hv hs' hal
    · rw [hs] at hs'; cases hs'
      intro q hq
      rw [← (h.fix hc).1] at hq ⊢
      rw [hp] at hq; cases hq
      exact hb
/-- Better. -/
theorem sw_put {S0 S : BSt} {i w : Nat} {ch : Bool} (h : SwInv N al L frm stp B0 S0 i w S ch) (hi : i < N) (hw : w < 8) {s : Stp} (hs : stp i w = some s) (hal : al s.cell = true) {p : List Int} (hp : S.w i = some p)
    (hb : impB S (nAt S.ls i + lenS s.dx s.dy) (p ++ [s.cell]) s.cell.toNat = true) : SwInv N al L frm stp B0 S0 i (w + 1) (S.put s.cell.toNat (p ++ [s.cell]) (nAt S.ls i + lenS s.dx s.dy)) true := by
  have hsl : s ∈ L i := (hst i hi s).2 ⟨w, hw, hs⟩
  obtain ⟨c0, c1, c2⟩ := stp_in hn hf hi hsl
  obtain ⟨b1, b2⟩ := binv_put hn hf h.b hi hp hsl hal hb
  have hwk := (h.b.walk i p hp).snoc hsl hal
  refine ⟨b1, fun k q hq => ?_, fun k hk => (b2 k (h.keep k hk)).2, fun j v s' hd hj hv hs' hal' ho hq => ?_, fun hc => (by cases hc), fun ht => ?_⟩
  · rw [BSt.w_put (by rw [h.b.n1]; exact c1)] at hq
    split at hq
    · cases hq
      have := h.len i p hp
      simp; omega
    · have := h.len k q hq
      omega
  · rcases don_succ hd with hd | ⟨rfl, rfl⟩
    · exact (b2 _ (h.gain j v s' hd hj hv hs' hal' ho hq)).2
    · rw [hs] at hs'; cases hs'
      obtain ⟨q, h1, h2⟩ := h.keep _ ho
      rw [hp] at h1; cases h1
      have h3 := hq _ _ h2
      refine ⟨_, by rw [BSt.w_put (by rw [h.b.n1]; exact c1), if_pos rfl], ?_⟩
      show Oq al L frm _ (nAt (S.ls.set _ _) _) _
      rw [nAt_set (by rw [h.b.n2]; exact c1), if_pos rfl, c2]
      exact h3
  · have h1 := ht s.cell.toNat c1 ⟨_, _, by rw [c2]; exact hwk⟩
    exact absurd rfl (b2 _ (h.keep _ h1)).1
/-- A whole round. -/
theorem sw_end {S0 S : BSt} {ch : Bool} (h : SwInv N al L frm stp B0 S0 N 0 S ch) : (ch = false → ∀ (k : Nat) p m, Oq al L frm p m (k : Int) → S.w k = some p ∧ nAt S.ls k = m) ∧
    (ch = true → (∃ k : Nat, k < N ∧ (∃ q m, Wk al L frm q m (k : Int)) ∧ ¬OptB al L frm S0 k ∧ OptB al L frm S k)) := by
  have hfr : (0 : Int) ≤ (frm : Int) ∧ (frm : Int) < (N : Int) := by omega
  refine ⟨fun hc k p m ho => ?_, fun hc => ?_⟩
  · obtain ⟨e, hfx⟩ := h.fix hc
    refine opt_all hn hf h.b (fun j s hj hs hal => ?_) p.length k p m (Nat.le_refl _) ho
    obtain ⟨v, hv, hsv⟩ := (hst j hj s).1 hs
    rw [e]
    exact hfx j v s (.inl hj) hj hv hsv hal
  · -- the best way with the fewest cells that is not known yet
    have hne : ¬∀ k, k < N → (∃ q m, Wk al L frm q m (k : Int)) → OptB al L frm S0 k := fun ht => by rw [h.top ht] at hc; cases hc
    have key : ∀ (n : Nat) (k : Nat) p m, p.length ≤ n → k < N → Oq al L frm p m (k : Int) → ¬OptB al L frm S0 k → ∃ k : Nat, k < N ∧ (∃ q m, Wk al L frm q m (k : Int)) ∧ ¬OptB al L frm S0 k ∧ OptB al L frm S k := by
      intro n
      induction n with
      | zero => intro k p m hl hk ho _; exact absurd (List.length_eq_zero_iff.1 (by omega)) ho.1.ne
      | succ n ih =>
        intro k p m hl hk ho hno
        rcases ho.1.unsnoc with ⟨rfl, hk2, rfl⟩ | ⟨p', m', j, s, rfl, hw, hs, hsk, hal, rfl⟩
        · have : k = frm := by omega
          subst this
          refine ⟨k, hk, ⟨_, _, ho.1⟩, hno, ?_⟩
          have h1 := h.b.start
          exact ⟨_, h1.1, by rw [h1.2]; exact ho⟩
        · obtain ⟨j', m2, s2, h1, h2, h3, h4, h5⟩ := ho.pre hw.ne
          have hjr := h1.1.range hn hfr
          obtain ⟨jn, rfl⟩ : ∃ jn : Nat, j' = (jn : Int) := ⟨j'.toNat, by omega⟩
          have hjn : jn < N := by omega
          by_cases hoj : OptB al L frm S0 jn
          · obtain ⟨v, hv, hsv⟩ := (hst jn hjn s2).1 h2
            have := h.gain jn v s2 (.inl hjn) hjn hv hsv (by rw [h3]; exact h4) hoj fun q n hq => by
              obtain ⟨e1, e2⟩ := hq.uniq h1
              rw [e1, e2, h3, ← h5]
              exact ho
            rw [h3, Int.toNat_natCast] at this
            exact ⟨k, hk, ⟨_, _, ho.1⟩, hno, this⟩
          · exact ih jn p' m2 (by simp at hl; omega) hjn h1 hoj
    by_cases hex : ∃ k : Nat, k < N ∧ (∃ q m, Wk al L frm q m (k : Int)) ∧ ¬OptB al L frm S0 k
    · obtain ⟨k, hk, ⟨q, m, hq⟩, hno⟩ := hex
      obtain ⟨p, m', ho, _⟩ := oq_of hn hfr hq
      exact key p.length k p m' (Nat.le_refl _) hk ho hno
    · exact absurd (fun k hk hq => Classical.byContradiction fun h => hex ⟨k, hk, hq, h⟩) hne
end
/-- How many best ways are not known. -/
noncomputable def unB (N : Nat) (al : Int → Bool) (L : Int → List Stp) (frm : Nat) (S : BSt) : Nat := ((List.range N).filter fun (k : Nat) => (open Classical in decide ((∃ q m, Wk al L frm q m (k : Int)) ∧ ¬OptB al L frm S k))).length
theorem filter_lt {α : Type} {p q : α → Bool} : ∀ {l : List α}, (∀ x ∈ l, q x = true → p x = true) → (∃ x ∈ l, p x = true ∧ q x = false) → (l.filter q).length < (l.filter p).length
  | [], _, ⟨x, hx, _⟩ => by cases hx
  | a :: l, h, ⟨x, hx, h1, h2⟩ => by
    have hle : ∀ l : List α, (∀ x ∈ l, q x = true → p x = true) → (l.filter q).length ≤ (l.filter p).length := fun l => by
      induction l with
      | nil => intro _; simp
      | cons b l ih =>
        intro hb
        have := ih fun x hx => hb x (List.mem_cons_of_mem _ hx)
        have h0 := hb b (by simp)
        simp only [List.filter_cons]
        cases hq : q b
        · cases hp : p b <;> simp <;> omega
        · rw [h0 hq]; simpa using this
    simp only [List.filter_cons]
    rcases List.mem_cons.1 hx with rfl | hx
    · rw [h1, h2]
      have := hle l fun x hx => h x (List.mem_cons_of_mem _ hx)
      simp; omega
    · have ih := filter_lt (l := l) (fun x hx => h x (List.mem_cons_of_mem _ hx)) ⟨x, hx, h1, h2⟩
      have h0 := h a (by simp)
      cases hq : q a
      · cases hp : p a <;> simp <;> omega
      · rw [h0 hq]; simpa using ih
theorem un_lt {N : Nat} {al : Int → Bool} {L : Int → List Stp} {frm : Nat} {S0 S : BSt} (hk : ∀ k : Nat, OptB al L frm S0 k → OptB al L frm S k) (hx : ∃ k : Nat, k < N ∧ (∃ q m, Wk al L frm q m (k : Int)) ∧ ¬OptB al L frm S0 k ∧ OptB al L frm S k) : unB N al L frm S < unB N al L frm S0 := by
  unfold unB
  refine filter_lt (fun k _ h => ?_) ?_
  · simp only [decide_eq_true_eq] at h ⊢
    exact ⟨h.1, fun h' => h.2 (hk k h')⟩
  · obtain ⟨k, h1, h2, h3, h4⟩ := hx
    refine ⟨k, by simpa using h1, ?_, ?_⟩
    · simp only [decide_eq_true_eq]; exact ⟨h2, h3⟩
    · simp only [decide_eq_false_iff_not]; exact fun h => h.2 h4
end Go.Sx
