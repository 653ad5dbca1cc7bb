/- Own work: a calculus of contracts for the programs of this kit: parts SxE60r, SxE61r, SxE62r, SxE63r, SxE64r, SxE65r. -/
import Derived.Test.YthljonnokmkagaaSxEh
import Derived.Test.YthljonnokmkagaaSxEi
set_option linter.unusedVariables false
set_option linter.unusedSimpArgs false
namespace Go.Sx
set_option maxRecDepth 10000

/-! The theory of the least costs -/
def addC (v : Cst) (s : Stp) : Cst := ⟨v.len + lenS s.dx s.dy, v.cells + 1⟩
def leC (a b : Cst) : Prop := a.len < b.len ∨ (a.len = b.len ∧ a.cells ≤ b.cells)
theorem lessC_iff (a b : Cst) : lessC a b = true ↔ (a.len < b.len ∨ (a.len = b.len ∧ a.cells < b.cells)) := by simp [lessC]
theorem lessC_no (a b : Cst) (h : lessC a b = false) : leC b a := by
  have : ¬lessC a b = true := by rw [h]; simp
  rw [lessC_iff] at this
  unfold leC; omega
theorem leC_refl (a : Cst) : leC a a := .inr ⟨rfl, Int.le_refl _⟩
theorem leC_trans {a b c : Cst} (h1 : leC a b) (h2 : leC b c) : leC a c := by unfold leC at *; omega
theorem leC_add {a b : Cst} (h : leC a b) {s t : Stp} (hl : lenS s.dx s.dy = lenS t.dx t.dy) : leC (addC a s) (addC b t) := by
  unfold leC addC at *; dsimp only; omega
theorem leC_anti {a b : Cst} (h1 : leC a b) (h2 : leC b a) : a = b := by
  obtain ⟨x, y⟩ := a; obtain ⟨z, w⟩ := b
  unfold leC at *
  dsimp only at h1 h2
  have e1 : x = z := by omega
  have e2 : y = w := by omega
  rw [e1, e2]
theorem addC_inj {a b : Cst} {s t : Stp} (hl : lenS s.dx s.dy = lenS t.dx t.dy) (h : addC a s = addC b t) : a = b := by
  obtain ⟨x, y⟩ := a; obtain ⟨z, w⟩ := b
  simp only [addC, Cst.mk.injEq] at h
  have e1 : x = z := by omega
  have e2 : y = w := by omega
  rw [e1, e2]
inductive WalkTo (al : Int → Bool) (L : Int → List Stp) (to : Int) : Int → Cst → Prop
  | base : al to = true → WalkTo al L to to ⟨0, 1⟩
  | step {c : Int} {v : Cst} {s : Stp} : WalkTo al L to c v → s ∈ L c → al s.cell = true → WalkTo al L to s.cell (addC v s)
theorem WalkTo.al_to {al : Int → Bool} {L : Int → List Stp} {to k : Int} {v : Cst} (h : WalkTo al L to k v) : al to = true := by
  induction h with
  | base h => exact h
  | step _ _ _ ih => exact ih
theorem WalkTo.al_k {al : Int → Bool} {L : Int → List Stp} {to k : Int} {v : Cst} (h : WalkTo al L to k v) : al k = true := by
  cases h with
  | base h => exact h
  | step _ _ h => exact h
theorem WalkTo.mono {al al' : Int → Bool} {L : Int → List Stp} (hal : ∀ x, al x = true → al' x = true) {to k : Int} {v : Cst} (h : WalkTo al L to k v) : WalkTo al' L to k v := by
  induction h with
  | base h => exact .base (hal _ h)
  | step _ h1 h2 ih => exact .step ih h1 (hal _ h2)
theorem WalkTo.pos {al : Int → Bool} {L : Int → List Stp} {to k : Int} {v : Cst} (h : WalkTo al L to k v) : 0 ≤ v.len ∧ 1 ≤ v.cells := by
  induction h with
  | base _ => exact ⟨Int.le_refl _, Int.le_refl _⟩
  | @step c v s _ _ _ ih => have := lenS_b s.dx s.dy; simp only [addC]; omega
/-! The search -/
section
variable {al : Int → Bool} {L : Int → List Stp} {to : Int}
structure FarInv (al : Int → Bool) (L : Int → List Stp) (to : Int) (st : Mp × List Int) : Prop where
  snd : ∀ k v, mget st.1 k = some v → WalkTo al L to k v
  start : ∃ v, mget st.1 to = some v ∧ leC v ⟨0, 1⟩
  rel : ∀ c v, mget st.1 c = some v → c ∉ st.2 → ∀ s ∈ L c, al s.cell = true → ∃ u, mget st.1 s.cell = some u ∧ leC u (addC v s)
/-- One step of the relaxing: what changes. -/
theorem relax_cases (c : Int) (st : Mp × List Int) (s : Stp) {o : Cst} (ho : mget st.1 c = some o) :
    (relaxF al c st s = st ∧ (al s.cell = true → ∃ u, mget st.1 s.cell = some u ∧ leC u (addC o s))) ∨
    (al s.cell = true ∧ relaxF al c st s = (mput st.1 s.cell (addC o s), st.2 ++ [s.cell]) ∧ ∀ u, mget st.1 s.cell = some u → leC (addC o s) u) := by
  unfold relaxF
  rw [ho]
  simp only [Option.getD_some]
  cases ha : al s.cell
  · exact .inl ⟨by simp, fun h => by cases h⟩
  · simp only [if_true]
    cases hm : mget st.1 s.cell with
    | none => exact .inr ⟨trivial, rfl, fun u h => by cases h⟩
    | some old =>
      simp only
      cases hl : lessC ⟨o.len + lenS s.dx s.dy, o.cells + 1⟩ old
      · exact .inl ⟨by simp, fun _ => ⟨old, rfl, lessC_no _ _ hl⟩⟩
      · refine .inr ⟨trivial, by simp [addC], fun u h => ?_⟩
        cases h
        rw [lessC_iff] at hl
        unfold leC addC
        dsimp only at *
        omega
theorem relax_down (c : Int) (st : Mp × List Int) (s : Stp) {o : Cst} (ho : mget st.1 c = some o) {k : Int} {v : Cst} (hk : mget st.1 k = some v) : ∃ v', mget (relaxF al c st s).1 k = some v' ∧ leC v' v := by
  rcases relax_cases (al := al) c st s ho with ⟨e, _⟩ | ⟨_, e, hu⟩
  · rw [e]; exact ⟨v, hk, leC_refl v⟩
  · rw [e]
    simp only [mget_put]
    split
    · rename_i h; subst h; exact ⟨_, rfl, hu v hk⟩
    · exact ⟨v, hk, leC_refl v⟩
theorem relax_keep (c : Int) (st : Mp × List Int) (s : Stp) {o : Cst} (ho : mget st.1 c = some o) : mget (relaxF al c st s).1 c = some o := by
  rcases relax_cases (al := al) c st s ho with ⟨e, _⟩ | ⟨_, e, hu⟩
  · rw [e]; exact ho
  · rw [e]
    simp only [mget_put]
    split
    · rename_i h
      rw [← h] at hu
      have := hu o ho
      have := lenS_b s.dx s.dy
      unfold leC addC at *
      dsimp only at *
      omega
    · exact ho
/-- What holds while the steps from a cell are looked at. -/
structure MidInv (al : Int → Bool) (L : Int → List Stp) (to c : Int) (o : Cst) (dn : List Stp) (st : Mp × List Int) : Prop where
  own : mget st.1 c = some o
  snd : ∀ k v, mget st.1 k = some v → WalkTo al L to k v
  start : ∃ v, mget st.1 to = some v ∧ leC v ⟨0, 1⟩
  rel : ∀ d v, mget st.1 d = some v → d ∉ st.2 → d ≠ c → ∀ s ∈ L d, al s.cell = true → ∃ u, mget st.1 s.cell = some u ∧ leC u (addC v s)
  dn : ∀ s ∈ dn, al s.cell = true → ∃ u, mget st.1 s.cell = some u ∧ leC u (addC o s)
theorem mid_step {c : Int} {o : Cst} {dn : List Stp} {st : Mp × List Int} (h : MidInv al L to c o dn st) {s : Stp} (hs : s ∈ L c) : MidInv al L to c o (dn ++ [s]) (relaxF al c st s) := by
  have hdown := fun k v hk => relax_down (al := al) c st s h.own (k := k) (v := v) hk
  have lift : ∀ (k : Int) (b : Cst), (∃ u, mget st.1 k = some u ∧ leC u b) → ∃ u, mget (relaxF al c st s).1 k = some u ∧ leC u b := fun k b ⟨u, h1, h2⟩ => by
    obtain ⟨v', h3, h4⟩ := hdown k u h1
    exact ⟨v', h3, leC_trans h4 h2⟩
  refine ⟨relax_keep c st s h.own, fun k v hk => ?_, lift _ _ h.start, fun d v hd hq hne t ht hat => ?_, fun t ht hat => ?_⟩
  · rcases relax_cases (al := al) c st s h.own with ⟨e, _⟩ | ⟨ha, e, _⟩
    · rw [e] at hk; exact h.snd k v hk
    · rw [e] at hk
      simp only [mget_put] at hk
      split at hk
      · rename_i e2; subst e2; cases hk
        exact .step (h.snd c o h.own) hs ha
      · exact h.snd k v hk
  · refine lift _ _ ?_
    rcases relax_cases (al := al) c st s h.own with ⟨e, _⟩ | ⟨ha, e, _⟩
    · rw [e] at hd hq; exact h.rel d v hd hq hne t ht hat
    · rw [e] at hd hq
      simp only [List.mem_append, List.mem_singleton, not_or] at hq
      simp only [mget_put, if_neg hq.2] at hd
      exact h.rel d v hd hq.1 hne t ht hat
  · rcases List.mem_append.1 ht with h1 | h1
    · exact lift _ _ (h.dn t h1 hat)
    · simp only [List.mem_singleton] at h1
      subst h1
      rcases relax_cases (al := al) c st t h.own with ⟨e, hu⟩ | ⟨ha, e, _⟩
      · rw [e]; exact hu hat
      · rw [e]; simp only [mget_put, if_true]; exact ⟨_, rfl, leC_refl _⟩
theorem mid_all {c : Int} {o : Cst} : ∀ (l dn : List Stp) (st : Mp × List Int), MidInv al L to c o dn st → (∀ s ∈ l, s ∈ L c) → MidInv al L to c o (dn ++ l) (l.foldl (relaxF al c) st)
  | [], dn, st, h, _ => by simpa using h
  | s :: l, dn, st, h, hs => by
    have := mid_all l (dn ++ [s]) _ (mid_step h (hs s (by simp))) fun t ht => hs t (by simp [ht])
    simpa using this
theorem far_pop {c : Int} {q : List Int} {m : Mp} {o : Cst} (h : FarInv al L to (m, c :: q)) (ho : mget m c = some o) : FarInv al L to ((L c).foldl (relaxF al c) (m, q)) := by
  have h0 : MidInv al L to c o [] (m, q) := ⟨ho, h.snd, h.start, fun d v hd hq hne s hs ha => h.rel d v hd (by simp only [List.mem_cons, not_or]; exact ⟨hne, hq⟩) s hs ha, fun s hs => by cases hs⟩
  have h1 := mid_all (L c) [] (m, q) h0 fun s hs => hs
  rw [List.nil_append] at h1
  refine ⟨h1.snd, h1.start, fun d v hd hq s hs ha => ?_⟩
  by_cases e : d = c
  · subst e
    have : v = o := by rw [h1.own] at hd; cases hd; rfl
    subst this
    exact h1.dn s hs ha
  · exact h1.rel d v hd hq e s hs ha
theorem farF_inv {N : Nat} (hN : N ≤ 144) (hL : ∀ c : Int, 0 ≤ c → c < (N : Int) → ∀ s ∈ L c, 0 ≤ s.cell ∧ s.cell < (N : Int)) : ∀ (n : Nat) {st : Mp × List Int}, FarOk N st → FarInv al L to st → 2 * phiM N st.1 + st.2.length < n →
    FarInv al L to (farF al L n st) ∧ (farF al L n st).2 = []
  | 0, st, _, _, h => by omega
  | n + 1, (m, []), _, hi, _ => by simpa [farF] using hi
  | n + 1, (m, c :: q), h, hi, hlt => by
    simp only [farF]
    obtain ⟨o, ho⟩ := h.q c (by simp)
    have hc := (h.key c o ho).1
    have hra := relax_all hN al (L c) h.tail ho fun s hs => hL c hc.1 hc.2 s hs
    refine farF_inv hN hL n hra.1 (far_pop hi ho) ?_
    have := hra.2.2
    simp only [List.length_cons] at hlt
    dsimp only at this hlt
    omega
theorem far_start (hto : al to = true) : FarInv al L to ([(to, ⟨0, 1⟩)], [to]) := by
  refine ⟨fun k v hk => ?_, ⟨⟨0, 1⟩, by simp [mget], leC_refl _⟩, fun c v hc hq => ?_⟩
  · simp only [mget] at hk
    split at hk
    · rename_i e; subst e; cases hk; exact .base hto
    · cases hk
  · simp only [mget] at hc
    split at hc
    · rename_i e; subst e; simp at hq
    · cases hc
/-- The search finds the least costs of all walks. -/
theorem far_spec {N : Nat} (hN : N ≤ 144) (hL : ∀ c : Int, 0 ≤ c → c < (N : Int) → ∀ s ∈ L c, 0 ≤ s.cell ∧ s.cell < (N : Int)) (hto : 0 ≤ to ∧ to < (N : Int)) :
    (∀ k v, mget (farA al L to) k = some v → WalkTo al L to k v) ∧ (∀ k u, WalkTo al L to k u → ∃ v, mget (farA al L to) k = some v ∧ leC v u) ∧
    (∀ c v, mget (farA al L to) c = some v → ∀ s ∈ L c, al s.cell = true → ∃ u, mget (farA al L to) s.cell = some u ∧ leC u (addC v s)) := by
  unfold farA
  cases ha : al to
  · simp only [Bool.false_eq_true, if_false]
    refine ⟨fun k v h => by simp [mget] at h, fun k u h => ?_, fun c v h => by simp [mget] at h⟩
    rw [h.al_to] at ha; cases ha
  · simp only [if_true]
    have hS0 := farOk_start (N := N) hto
    have hph0 := phi_start hN [(to, (⟨0, 1⟩ : Cst))] fun k v hv => hS0.b hN hv
    have hi := farF_inv (al := al) hN hL FUEL hS0 (far_start ha) (by simp only [FUEL, List.length_singleton]; omega)
    generalize farF al L FUEL ([(to, ⟨0, 1⟩)], [to]) = R at *
    obtain ⟨h1, h2⟩ := hi
    have hrel : ∀ c v, mget R.1 c = some v → ∀ s ∈ L c, al s.cell = true → ∃ u, mget R.1 s.cell = some u ∧ leC u (addC v s) := fun c v hc s hs ha => h1.rel c v hc (by rw [h2]; simp) s hs ha
    refine ⟨h1.snd, fun k u h => ?_, hrel⟩
    induction h with
    | base _ => exact h1.start
    | step _ hs ha ih =>
      obtain ⟨v, hv, hle⟩ := ih
      obtain ⟨u', hu, hle2⟩ := hrel _ v hv _ hs ha
      exact ⟨u', hu, leC_trans hle2 (leC_add hle rfl)⟩
end
end Go.Sx

namespace Go.Sx
set_option maxRecDepth 10000

/-! Paths -/
def PathC (al : Int → Bool) (L : Int → List Stp) : List Int → Cst → Prop
  | [], _ => False
  | [x], v => al x = true ∧ v = ⟨0, 1⟩
  | x :: y :: r, v => al x = true ∧ ∃ s ∈ L x, s.cell = y ∧ ∃ u, PathC al L (y :: r) u ∧ v = addC u s
def lexB : List Int → List Int → Bool
  | a :: x, b :: y => if a = b then lexB x y else decide (a < b)
  | _, _ => false
theorem lexB_self : ∀ x : List Int, lexB x x = false
  | [] => rfl
  | a :: x => by simp [lexB, lexB_self x]
theorem lexB_total : ∀ {x y : List Int}, x.length = y.length → lexB x y = false → lexB y x = false → x = y
  | [], [], _, _, _ => rfl
  | a :: x, b :: y, hl, h1, h2 => by
    simp only [lexB] at h1 h2
    by_cases e : a = b
    · subst e
      simp only [if_true] at h1 h2
      rw [lexB_total (by simpa using hl) h1 h2]
    · rw [if_neg e] at h1
      rw [if_neg fun h => e h.symm] at h2
      have := of_decide_eq_false h1
      have := of_decide_eq_false h2
      omega
/-- A net of cells: steps stay within, go back, and are sorted. -/
structure Net (N : Nat) (L : Int → List Stp) : Prop where
  n : N ≤ 144
  ok : ∀ c : Int, 0 ≤ c → c < (N : Int) → ∀ s ∈ L c, 0 ≤ s.cell ∧ s.cell < (N : Int)
  sym : ∀ c : Int, 0 ≤ c → c < (N : Int) → ∀ s ∈ L c, ∃ t ∈ L s.cell, t.cell = c ∧ lenS t.dx t.dy = lenS s.dx s.dy
  sorted : ∀ c : Int, 0 ≤ c → c < (N : Int) → (L c).Pairwise fun s t => s.cell < t.cell
section
variable {al : Int → Bool} {L : Int → List Stp}
theorem path_pos : ∀ {x : Int} {r : List Int} {v : Cst}, PathC al L (x :: r) v → 0 ≤ v.len ∧ v.cells = (r.length : Int) + 1
  | x, [], v, h => by rw [h.2]; simp
  | x, y :: r, v, h => by
    obtain ⟨_, s, _, _, u, hu, rfl⟩ := h
    have := path_pos hu
    have := lenS_b s.dx s.dy
    simp only [addC, List.length_cons]
    omega
theorem path_walk {N : Nat} (hn : Net N L) {to : Int} : ∀ {x : Int} {r : List Int} {v : Cst}, (0 ≤ x ∧ x < (N : Int)) → PathC al L (x :: r) v → (x :: r).getLast? = some to → WalkTo al L to x v
  | x, [], v, _, h, hl => by
    simp only [List.getLast?_singleton, Option.some.injEq] at hl
    subst hl
    rw [h.2]
    exact .base h.1
  | x, y :: r, v, hx, h, hl => by
    obtain ⟨ha, s, hs, rfl, u, hu, rfl⟩ := h
    have hy := hn.ok x hx.1 hx.2 s hs
    rw [List.getLast?_cons_cons] at hl
    have ih := path_walk hn hy hu hl
    obtain ⟨t, ht, htx, htl⟩ := hn.sym x hx.1 hx.2 s hs
    have := WalkTo.step ih ht (by rw [htx]; exact ha)
    rw [htx] at this
    rwa [show addC u s = addC u t by simp [addC, htl]]
theorem path_al : ∀ {p : List Int} {v : Cst}, PathC al L p v → ∀ x ∈ p, al x = true
  | [x], v, h, y, hy => by simp at hy; subst hy; exact h.1
  | x :: z :: r, v, h, y, hy => by
    obtain ⟨ha, s, _, _, u, hu, _⟩ := h
    rcases List.mem_cons.1 hy with rfl | hy
    · exact ha
    · exact path_al hu y hy
theorem path_range {N : Nat} (hn : Net N L) : ∀ {x : Int} {r : List Int} {v : Cst}, (0 ≤ x ∧ x < (N : Int)) → PathC al L (x :: r) v → ∀ y ∈ x :: r, 0 ≤ y ∧ y < (N : Int)
  | x, [], v, hx, h, y, hy => by simp at hy; subst hy; exact hx
  | x, z :: r, v, hx, h, y, hy => by
    obtain ⟨ha, s, hs, rfl, u, hu, _⟩ := h
    rcases List.mem_cons.1 hy with rfl | hy
    · exact hx
    · exact path_range hn (hn.ok x hx.1 hx.2 s hs) hu y hy

/-! The way along the costs is the first of the best ones -/
theorem find_first {p : Stp → Bool} {l : List Stp} (hl : l.Pairwise fun s t => s.cell < t.cell) {s t : Stp} (h : l.find? p = some s) (ht : t ∈ l) (hp : p t = true) : t = s ∨ s.cell < t.cell := find_least hl h ht hp
theorem along_spec {N : Nat} (hn : Net N L) {to : Int} (hto : 0 ≤ to ∧ to < (N : Int)) : ∀ (n : Nat) (x : Int) (v : Cst), (0 ≤ x ∧ x < (N : Int)) → mget (farA al L to) x = some v → v.cells ≤ n →
    ∃ r, alongF (farA al L to) L to n x = x :: r ∧ PathC al L (x :: r) v ∧ (x :: r).getLast? = some to ∧ (x :: r).Nodup ∧ (∀ y ∈ r, ∃ u, mget (farA al L to) y = some u ∧ u.cells < v.cells) ∧
      ∀ q, PathC al L (x :: q) v → (x :: q).getLast? = some to → lexB (x :: q) (x :: r) = false := by
  obtain ⟨f1, f2, f3⟩ := far_spec (al := al) hn.n hn.ok hto
  generalize farA al L to = m at *
  intro n
  induction n with
  | zero => intro x v _ hv hc; have := (f1 x v hv).pos; omega
  | succ n ih =>
    intro x v hx hv hc
    have hw := f1 x v hv
    by_cases hxt : x = to
    · subst hxt
      obtain ⟨v', hv', hle⟩ := f2 x ⟨0, 1⟩ (.base hw.al_k)
      rw [hv] at hv'; cases hv'
      have hp := hw.pos
      have hv1 : v = ⟨0, 1⟩ := leC_anti hle (by unfold leC; dsimp only; omega)
      subst hv1
      refine ⟨[], by simp [alongF], ⟨hw.al_k, rfl⟩, rfl, by simp, fun y hy => (nomatch hy), fun q hq hl => ?_⟩
      cases q with
      | nil => exact lexB_self _
      | cons y q => have := path_pos hq; simp at this; omega
    · -- there is a next step
      have hex : ∃ t ∈ L x, fits m x t = true := by
        cases hw with
        | base _ => exact absurd rfl hxt
        | @step d v' s hd hs hal =>
          obtain ⟨u, hu, hle⟩ := f2 d v' hd
          have hdr : 0 ≤ d ∧ d < (N : Int) := by
            have key : ∀ {k : Int} {w : Cst}, WalkTo al L to k w → 0 ≤ k ∧ k < (N : Int) := fun h => by
              induction h with
              | base _ => exact hto
              | step _ h1 _ ih => exact hn.ok _ ih.1 ih.2 _ h1
            exact key hd
          obtain ⟨w, hw2, hle2⟩ := f3 d u hu s hs hal
          rw [hv] at hw2; cases hw2
          have hu2 : addC u s = addC v' s := leC_anti (leC_add hle rfl) hle2
          have hu3 := addC_inj rfl hu2
          obtain ⟨t, ht, htx, htl⟩ := hn.sym d hdr.1 hdr.2 s hs
          refine ⟨t, ht, ?_⟩
          simp only [fits, htx, hu, hv, Option.getD_some, htl, hu3]
          simp [addC]
      obtain ⟨t0, ht0, hf0⟩ := hex
      cases hfd : (L x).find? (fits m x) with
      | none => rw [List.find?_eq_none] at hfd; exact absurd hf0 (hfd t0 ht0)
      | some t =>
        have htm := List.mem_of_find?_eq_some hfd
        have htf := List.find?_some hfd
        have htr := hn.ok x hx.1 hx.2 t htm
        have hnx : nextW m L x = some t.cell := by simp [nextW, hfd]
        obtain ⟨u, hu, hvu⟩ : ∃ u, mget m t.cell = some u ∧ v = addC u t := by
          simp only [fits] at htf
          split at htf
          · rename_i u hu
            rw [hv] at htf
            simp only [Option.getD_some, Bool.and_eq_true, beq_iff_eq] at htf
            refine ⟨u, hu, ?_⟩
            obtain ⟨a, b⟩ := v
            simp only [addC, Cst.mk.injEq]
            exact ⟨htf.1.symm, htf.2.symm⟩
          · cases htf
        have huc : u.cells + 1 = v.cells := by rw [hvu]; rfl
        obtain ⟨r, e1, e2, e3, e4, e5, e6⟩ := ih t.cell u htr hu (by omega)
        refine ⟨t.cell :: r, ?_, ⟨hw.al_k, t, htm, rfl, u, e2, hvu⟩, by rw [List.getLast?_cons_cons]; exact e3, ?_, ?_, ?_⟩
        · simp only [alongF]
          rw [if_neg hxt, hnx]
          simp only [e1]
        · refine List.nodup_cons.2 ⟨fun hmem => ?_, e4⟩
          have hlt : ∃ w, mget m x = some w ∧ w.cells < v.cells := by
            rcases List.mem_cons.1 hmem with h | h
            · rw [h]; exact ⟨u, hu, by omega⟩
            · obtain ⟨w, h1, h2⟩ := e5 x h; exact ⟨w, h1, by omega⟩
          obtain ⟨w, h1, h2⟩ := hlt
          rw [hv] at h1; cases h1; omega
        · intro y hy
          rcases List.mem_cons.1 hy with h | h
          · rw [h]; exact ⟨u, hu, by omega⟩
          · obtain ⟨w, h1, h2⟩ := e5 y h; exact ⟨w, h1, by omega⟩
        · intro q hq hl
          cases q with
          | nil =>
            simp only [List.getLast?_singleton, Option.some.injEq] at hl
            exact absurd hl hxt
          | cons y q =>
            obtain ⟨ha, s, hs, hsy, u', hu', hvu'⟩ := hq
            rw [List.getLast?_cons_cons] at hl
            subst hsy
            have hsr := hn.ok x hx.1 hx.2 s hs
            have hwy := path_walk hn hsr hu' hl
            obtain ⟨b, hb, hbl⟩ := f2 s.cell u' hwy
            obtain ⟨t', ht', htx', htl'⟩ := hn.sym x hx.1 hx.2 s hs
            obtain ⟨w, hw2, hle2⟩ := f3 s.cell b hb t' ht' (by rw [htx']; exact ha)
            rw [htx', hv] at hw2; cases hw2
            have h1 : leC (addC b t') (addC u' s) := leC_add hbl htl'
            rw [← hvu'] at h1
            have h2 := leC_anti h1 hle2
            have hb2 : b = u' := addC_inj htl' (h2.trans hvu')
            have hfs : fits m x s = true := by
              simp only [fits, hb, hv, Option.getD_some, hb2, hvu']
              simp [addC]
            simp only [lexB, if_true]
            rcases find_first (hn.sorted x hx.1 hx.2) hfd hs hfs with e | e
            · subst e
              simp only [if_true]
              have : u' = u := addC_inj rfl (hvu'.symm.trans hvu)
              subst this
              have := e6 q hu' hl
              simpa [lexB] using this
            · rw [if_neg (by omega)]
              simp only [decide_eq_false_iff_not]; omega
end
end Go.Sx

namespace Go.Sx
open Go.Proofs
set_option maxRecDepth 10000

/-! The net of a map -/
theorem stepAt_back {w d c : Int} (hw : 1 ≤ w) (hc : 0 ≤ c ∧ c < w * d) {j : Nat} (hj : j < 9) {s : Stp} (h : stepAt w d c j = some s) : stepAt w d s.cell (8 - j) = some ⟨c, -s.dx, -s.dy⟩ := by
  have h1 : 0 ≤ c / w := Int.ediv_nonneg hc.1 (by omega)
  have h2 : c / w < d := Int.ediv_lt_of_lt_mul (by omega) (by rw [Int.mul_comm]; exact hc.2)
  have h3 := Int.emod_nonneg c (show w ≠ 0 by omega)
  have h4 := Int.emod_lt_of_pos c (show 0 < w by omega)
  have h5 := Int.emod_add_mul_ediv c w
  unfold stepAt at h
  split at h
  · cases h
  rename_i hb
  cases h
  dsimp only
  simp only [Bool.or_eq_true, Bool.and_eq_true, not_or] at hb
  obtain ⟨b1, b2, b3⟩ := hb
  have r1 : rI (c % w + (((j % 3 : Nat) : Int) - 1)) 0 (w - 1) = true := by simpa using b2
  have r2 : rI (c / w + (((j / 3 : Nat) : Int) - 1)) 0 (d - 1) = true := by simpa using b3
  have k1 := rI_le r1
  have k2 := rI_le r2
  have m1 : (8 - j) % 3 = 2 - j % 3 := by omega
  have m2 : (8 - j) / 3 = 2 - j / 3 := by omega
  have j1 : j % 3 ≤ 2 := by omega
  have j2 : j / 3 ≤ 2 := by omega
  generalize hX : ((j % 3 : Nat) : Int) - 1 = dx at *
  generalize hY : ((j / 3 : Nat) : Int) - 1 = dy at *
  have e1 : (((8 - j) % 3 : Nat) : Int) - 1 = -dx := by rw [m1]; omega
  have e2 : (((8 - j) / 3 : Nat) : Int) - 1 = -dy := by rw [m2]; omega
  have key : c + dy * w + dx = (c % w + dx) + w * (c / w + dy) := by rw [Int.mul_add, Int.mul_comm w dy]; omega
  have q1 : (c + dy * w + dx) % w = c % w + dx := by
    rw [key, Int.add_mul_emod_self_left, Int.emod_eq_of_lt (by omega) (by omega)]
  have q2 : (c + dy * w + dx) / w = c / w + dy := by
    rw [key, Int.add_mul_ediv_left _ _ (by omega), Int.ediv_eq_zero_of_lt (by omega) (by omega)]; omega
  unfold stepAt
  rw [e1, e2, q1, q2]
  have b4 : ((-dx == 0) && (-dy == 0)) = false := by
    cases hq : ((-dx == 0) && (-dy == 0))
    · rfl
    · simp only [Bool.and_eq_true, beq_iff_eq] at hq
      exact absurd ⟨by simp; omega, by simp; omega⟩ b1
  have r3 : rI (c % w + dx + -dx) 0 (w - 1) = true := by simp [rI]; omega
  have r4 : rI (c / w + dy + -dy) 0 (d - 1) = true := by simp [rI]; omega
  rw [b4, r3, r4]
  have : c + dy * w + dx + -dy * w + -dx = c := by rw [Int.neg_mul]; omega
  simp [this]
theorem net_steps {l : LandM} (hl : LandOk l) : Net l.ground.length (stepsL l.wide l.deep) := by
  have hsz := hl.size
  have hsm := hl.small
  refine ⟨hsm.2, fun c h0 h1 s hs => ?_, fun c h0 h1 s hs => ?_, fun c _ _ => steps_sorted hl.wide.1⟩
  · obtain ⟨i, rfl⟩ : ∃ i : Nat, c = i := ⟨c.toNat, by omega⟩
    have := steps_in hl (by omega) hs
    omega
  · obtain ⟨j, hj, he⟩ := mem_steps hs
    have hb := stepAt_back hl.wide.1 ⟨h0, by omega⟩ hj he
    refine ⟨⟨c, -s.dx, -s.dy⟩, ?_, rfl, ?_⟩
    · simp only [stepsL, stepsN, List.mem_filterMap, List.mem_range]
      exact ⟨8 - j, by omega, hb⟩
    · unfold lenS
      have : (-s.dx ≠ 0 ∧ -s.dy ≠ 0) ↔ (s.dx ≠ 0 ∧ s.dy ≠ 0) := by omega
      simp only [this]

/-! Lists that are proposed as ways -/
def lenF (l : LandM) (x y : Int) : Int := lenS (dxW (wayF l x y)) (dyW (wayF l x y))
section
variable (l : LandM) (al : Int → Bool) (x : List Int)
def okP (i : Nat) : Bool := rI (nAt x i) 0 ((l.ground.length : Int) - 1) && al (nAt x i) && (List.range i).all (fun k => !(nAt x k == nAt x i)) && (decide (i = 0) || !(wayF l (nAt x (i - 1)) (nAt x i) == 0))
def lenP : Nat → Int
  | 0 => 0
  | i + 1 => lenP i + lenF l (nAt x i) (nAt x (i + 1))
def passB (frm to : Int) : Bool := decide (0 < x.length) && (nAt x 0 == frm) && (nAt x (x.length - 1) == to) && (List.range x.length).all (okP l al x)
end
theorem lenP_b (l : LandM) (x : List Int) : ∀ i, 0 ≤ lenP l x i ∧ lenP l x i ≤ 14 * i
  | 0 => by simp [lenP]
  | i + 1 => by
    have := lenP_b l x i
    have := lenS_b (dxW (wayF l (nAt x i) (nAt x (i + 1)))) (dyW (wayF l (nAt x i) (nAt x (i + 1))))
    simp only [lenP, lenF]; omega
theorem passB_no {l : LandM} {al : Int → Bool} {x : List Int} {frm to : Int} {i : Nat} (hi : i < x.length) (h : okP l al x i = false) : passB l al x frm to = false := by
  unfold passB
  rw [Bool.and_eq_false_iff]
  right
  rw [List.all_eq_false]
  exact ⟨i, by simpa using hi, by simp [h]⟩
theorem passB_yes {l : LandM} {al : Int → Bool} {x : List Int} {frm to : Int} (h0 : 0 < x.length) (hf : nAt x 0 = frm) (ht : nAt x (x.length - 1) = to) (h : ∀ i, i < x.length → okP l al x i = true) : passB l al x frm to = true := by
  unfold passB
  simp only [Bool.and_eq_true, decide_eq_true_eq, List.all_eq_true, beq_iff_eq]
  exact ⟨⟨⟨h0, hf⟩, ht⟩, fun i hi => h i (by simpa using hi)⟩
theorem ref3_Free_t (l : LandM) (hl : LandOk l) (nd : List Int) (hn : nd.length = l.ground.length) (x h : Int) (hx : cellI l x) : Pure Try.prog 86 [.agg l.c, .sl (intL nd), .int .i64 x, .int .i64 h] (.bool (allowB l nd h x)) := by
  obtain ⟨k, rfl⟩ : ∃ k : Nat, x = (k : Int) := ⟨x.toNat, by unfold cellI at hx; omega⟩
  have hk : k < l.ground.length := by unfold cellI at hx; omega
  have oA := gAbove_eq hl hk h
  have ix := sI_ix (nAt_get (x := nd) (i := k) (by omega))
  have hlc : l.c = [.int .i64 l.wide, .int .i64 l.deep, .sl (intL l.ground), .sl (boolL l.water), .int .i64 l.clear] := rfl
  rw [hlc] at oA ⊢
  simp only [allowB, Int.toNat_natCast]
  cases q : decide (gAt l k + l.clear ≤ h)
  · rw [q] at oA
    refine pure_of_wc (rs := [.tmp 8]) (m := 21) [] nD_ok (by kernel_rfl) Try.func86 rfl (by kernel_rfl) rfl rfl (by kernel_rfl) ?_
    simp only [RT, FS, ↓RE, okR, argEnv, Nat.reduceAdd, Nat.reduceSub, Nat.reduceLT, Nat.reduceLeDiff, Nat.reduceEqDiff, reduceIte, oA]
    simp
  · rw [q] at oA
    refine pure_of_wc (rs := [.tmp 8]) (m := 21) [] nD_ok (by kernel_rfl) Try.func86 rfl (by kernel_rfl) rfl rfl (by kernel_rfl) ?_
    simp only [RT, FS, ↓RE, okR, argEnv, Nat.reduceAdd, Nat.reduceSub, Nat.reduceLT, Nat.reduceLeDiff, Nat.reduceEqDiff, reduceIte, oA, ix]
    simp
noncomputable def gFree : List D → Option D := orcF (fun p : LandM × List Int × Int × Int => LandOk p.1 ∧ p.2.1.length = p.1.ground.length ∧ cellI p.1 p.2.2.1) (fun p => [.agg p.1.c, .sl (intL p.2.1), .int .i64 p.2.2.1, .int .i64 p.2.2.2]) (fun p => .bool (allowB p.1 p.2.1 p.2.2.2 p.2.2.1))
theorem gFree_eq {l : LandM} (hl : LandOk l) {nd : List Int} (hn : nd.length = l.ground.length) {x : Int} (hx : cellI l x) (h : Int) : gFree [.agg l.c, .sl (intL nd), .int .i64 x, .int .i64 h] = some (.bool (allowB l nd h x)) :=
  orcF_eq (ok := fun p : LandM × List Int × Int × Int => LandOk p.1 ∧ p.2.1.length = p.1.ground.length ∧ cellI p.1 p.2.2.1) (dsf := fun p => [.agg p.1.c, .sl (intL p.2.1), .int .i64 p.2.2.1, .int .i64 p.2.2.2]) (rf := fun p => .bool (allowB p.1 p.2.1 p.2.2.2 p.2.2.1)) (l, nd, x, h) ⟨hl, hn, hx⟩ fun b hb => by
    simp only [List.cons.injEq, D.agg.injEq, D.int.injEq, D.sl.injEq, true_and, and_true] at hb
    rw [LandM.c_inj hb.1, intL_inj hb.2.1, hb.2.2.1, hb.2.2.2]
noncomputable def gSteps : List D → Option D := orcF (fun w : Int => rI w 1 8 = true) (fun w => [.int .i64 w]) (fun w => .int .i64 (lenS (dxW w) (dyW w)))
theorem gSteps_eq {w : Int} (h : rI w 1 8 = true) : gSteps [.int .i64 w] = some (.int .i64 (lenS (dxW w) (dyW w))) :=
  orcF_eq (ok := fun w : Int => rI w 1 8 = true) (dsf := fun w => [.int .i64 w]) (rf := fun w => .int .i64 (lenS (dxW w) (dyW w))) w h fun b hb => by
    simp only [List.cons.injEq, D.int.injEq, true_and, and_true] at hb
    rw [hb]
noncomputable abbrev nG : List (FuncId × (List D → Option D)) := (86, gFree) :: (81, gSteps) :: nD
theorem nG_ok : OkO Try.prog (mkO nG) := mkO_ok (orcF_ok fun p h => ref3_Free_t p.1 h.1 p.2.1 h.2.1 p.2.2.1 p.2.2.2 h.2.2) <| mkO_ok (orcF_ok fun w h => ref3_Steps_t w h) <| nD_ok
end Go.Sx

namespace Go.Sx
open Go.Proofs
set_option maxRecDepth 10000

/-! Passes -/
def PassD (l : LandM) (nd x : List Int) (frm to h : Int) : D := if passB l (allowB l nd h) x frm to = true then .tup [.int .i64 (lenP l x (x.length - 1)), .bool true] else .tup [.int .i64 0, .bool false]
set_option maxHeartbeats 4000000 in
theorem ref3_Passes_t (l : LandM) (hl : LandOk l) (nd : List Int) (hnd : nd.length = l.ground.length) (x : List Int) (hx : x.length ≤ 1000) (frm to h : Int) :
    Pure Try.prog 30 [.agg l.c, .sl (intL nd), .sl (intL x), .int .i64 frm, .int .i64 to, .int .i64 h] (PassD l nd x frm to h) := by
  have oW := fun (f t : Int) (hf : cellI l f) (ht : 0 ≤ t) => gWayR_eq hl hf ht
  have oF := fun (x : Int) (hx : cellI l x) => gFree_eq hl hnd hx h
  have hno := fun i hi (h1 : okP l (allowB l nd h) x i = false) => passB_no (l := l) (al := allowB l nd h) (x := x) (frm := frm) (to := to) (i := i) hi h1
  have hdef : ∀ i, okP l (allowB l nd h) x i = (rI (nAt x i) 0 ((l.ground.length : Int) - 1) && allowB l nd h (nAt x i) && (List.range i).all (fun k => !(nAt x k == nAt x i)) && (decide (i = 0) || !(wayF l (nAt x (i - 1)) (nAt x i) == 0))) := fun i => rfl
  have hlp := lenP_b l x
  have hsm := hl.small
  have hlc : l.c = [.int .i64 l.wide, .int .i64 l.deep, .sl (intL l.ground), .sl (boolL l.water), .int .i64 l.clear] := rfl
  rw [hlc] at oW oF ⊢
  unfold PassD
  by_cases hx0 : x.length = 0
  · have hz : ((x.length : Int) == 0) = true := by simp; exact List.length_eq_zero_iff.1 hx0
    have he : passB l (allowB l nd h) x frm to = false := by simp [passB, hx0]
    rw [he]
    refine pure_of_wc (rs := [.tmp 12, .tmp 13]) (m := 99) [(7, [(21, false, false, [])]), (12, [(9, false, false, [])]), (15, [(12, false, false, [])])] nG_ok (by kernel_rfl) Try.func30 rfl (by kernel_rfl) rfl rfl (by kernel_rfl) ?_
    simp only [RT, FS, ↓RE, okR, argEnv, Nat.reduceAdd, Nat.reduceSub, Nat.reduceLT, Nat.reduceLeDiff, Nat.reduceEqDiff, reduceIte, intL_len, hz]
    simp
  have hz : ((x.length : Int) == 0) = false := beq_eq_false_iff_ne.2 (by omega)
  have i0 : ∀ h, indexAddrD Try.prog h 25 (.sl (intL x)) (.int .i64 0) = some (.ref [.int .i64 (nAt x 0)] 0) := fun h => sI_ix (i := 0) (nAt_get (by omega)) h
  cases hf : (nAt x 0 != frm)
  rotate_left
  · have he : passB l (allowB l nd h) x frm to = false := by
      have : (nAt x 0 == frm) = false := by simpa using hf
      simp [passB, this]
    rw [he]
    refine pure_of_wc (rs := [.tmp 12, .tmp 13]) (m := 99) [(7, [(21, false, false, [])]), (12, [(9, false, false, [])]), (15, [(12, false, false, [])])] nG_ok (by kernel_rfl) Try.func30 rfl (by kernel_rfl) rfl rfl (by kernel_rfl) ?_
    simp only [RT, FS, ↓RE, okR, argEnv, Nat.reduceAdd, Nat.reduceSub, Nat.reduceLT, Nat.reduceLeDiff, Nat.reduceEqDiff, reduceIte, intL_len, hz, i0, hf]
    simp
  have wl : IntKind.i64.wrap ((x.length : Int) - 1) = ((x.length - 1 : Nat) : Int) := by rw [wrap_i64 (by omega) (by omega)]; omega
  have il := sI_ix (nAt_get (x := x) (i := x.length - 1) (by omega))
  cases ht : (nAt x (x.length - 1) != to)
  rotate_left
  · have he : passB l (allowB l nd h) x frm to = false := by
      have : (nAt x (x.length - 1) == to) = false := by simpa using ht
      simp [passB, this]
    rw [he]
    refine pure_of_wc (rs := [.tmp 12, .tmp 13]) (m := 99) [(7, [(21, false, false, [])]), (12, [(9, false, false, [])]), (15, [(12, false, false, [])])] nG_ok (by kernel_rfl) Try.func30 rfl (by kernel_rfl) rfl rfl (by kernel_rfl) ?_
    simp only [RT, FS, ↓RE, okR, argEnv, Nat.reduceAdd, Nat.reduceSub, Nat.reduceLT, Nat.reduceLeDiff, Nat.reduceEqDiff, reduceIte, intL_len, hz, i0, hf, wl, il, ht]
    simp
  have hyes := fun h1 => passB_yes (l := l) (al := allowB l nd h) (x := x) (frm := frm) (to := to) (by omega) (by simpa using hf) (by simpa using ht) h1
  generalize passB l (allowB l nd h) x frm to = PB at *
  generalize hOK : okP l (allowB l nd h) x = OK at *
  generalize hLP : lenP l x = LP at *
  have hL0 : LP 0 = 0 := by rw [← hLP]; rfl
  have hLs : ∀ i, LP (i + 1) = LP i + lenF l (nAt x i) (nAt x (i + 1)) := fun i => by rw [← hLP]; rfl
  generalize hAL : allowB l nd h = AL at *
  refine pure_of_wc (rs := [.tmp 12, .tmp 13]) (m := 99) [(7, [(21, false, false, [])]), (12, [(9, false, false, [])]), (15, [(12, false, false, [])])] nG_ok (by kernel_rfl) Try.func30 rfl (by kernel_rfl) rfl rfl (by kernel_rfl) ?_
  simp only [RT, FS, ↓RE, okR, argEnv, Nat.reduceAdd, Nat.reduceSub, Nat.reduceLT, Nat.reduceLeDiff, Nat.reduceEqDiff, reduceIte, intL_len, hz, i0, hf, wl, il, ht]
  refine loopV (ι := Nat) nG_ok [(7, [(21, false, false, [])]), (12, [(9, false, false, [])]), (15, [(12, false, false, [])])] (fun i => [(1, .sl (intL nd)), (2, .sl (intL x)), (5, .int .i64 h), (6, .ptr 0 0), (14, .int .i64 (LP (i - 1))), (15, .int .i64 (i : Int))])
    (fun i => [(0, .box l.c)]) 1 (fun i => i ≤ x.length ∧ ∀ j, j < i → OK j = true) (fun i => x.length - i) 0 (by kernel_rfl) (by kernel_rfl) ⟨Nat.zero_le _, fun j hj => by omega⟩ ?_ ?_
  · simp [headW, heapW, envW, blkLt, D.ltL, D.lt, look, hget, hlc, hL0]
  rintro i ⟨hi, hp⟩
  rcases Nat.lt_or_ge i x.length with hlt | hge
  rotate_left
  · have hq : ((i : Int) < (x.length : Int)) = False := by simp; omega
    have hie : i = x.length := by omega
    simp only [RT, FS, ↓RE, okR, argEnv, Nat.reduceAdd, Nat.reduceSub, Nat.reduceLT, Nat.reduceLeDiff, Nat.reduceEqDiff, reduceIte, intL_len, hq, decide_false]
    rw [hyes fun j hj => hp j (by omega), hie]
    simp
  have hq : ((i : Int) < (x.length : Int)) = True := by simp [hlt]
  have wi := wrap_i64 (z := (i : Int) + 1) (by omega) (by omega)
  have ixi := sI_ix (nAt_get hlt)
  have wn := wrap_i64 (z := (l.ground.length : Int) - 1) (by omega) (by omega)
  have hd := hdef i
  have hnoi := hno i hlt
  cases hr : rI (nAt x i) 0 ((l.ground.length : Int) - 1)
  · rw [hr] at hd
    simp only [Bool.false_and] at hd
    simp only [RT, FS, ↓RE, okR, argEnv, Nat.reduceAdd, Nat.reduceSub, Nat.reduceLT, Nat.reduceLeDiff, Nat.reduceEqDiff, reduceIte, intL_len, hq, decide_true, ixi, wn, hlc, gI3_eq, hr]
    rw [hnoi hd]
    simp
  rw [hr] at hd
  have hrb := rI_le hr
  have hci : cellI l (nAt x i) := by unfold cellI; omega
  have oF' := oF (nAt x i) hci
  cases ha : AL (nAt x i)
  · rw [ha] at hd oF'
    have hd : OK i = false := by rw [hd]; simp
    simp only [RT, FS, ↓RE, okR, argEnv, Nat.reduceAdd, Nat.reduceSub, Nat.reduceLT, Nat.reduceLeDiff, Nat.reduceEqDiff, reduceIte, intL_len, hq, decide_true, ixi, wn, hlc, gI3_eq, hr, oF']
    rw [hnoi hd]
    simp
  rw [ha] at hd oF'
  simp only [RT, FS, ↓RE, okR, argEnv, Nat.reduceAdd, Nat.reduceSub, Nat.reduceLT, Nat.reduceLeDiff, Nat.reduceEqDiff, reduceIte, intL_len, hq, decide_true, ixi, wn, hlc, gI3_eq, hr, oF']
  refine loopV (ι := Nat) nG_ok [(7, [(21, false, false, [])]), (12, [(9, false, false, [])]), (15, [(12, false, false, [])])] (fun k => [(1, .sl (intL nd)), (2, .sl (intL x)), (5, .int .i64 h), (6, .ptr 0 0), (14, .int .i64 (LP (i - 1))), (15, .int .i64 (i : Int)), (16, .int .i64 (k : Int))])
    (fun k => [(0, .box l.c)]) 1 (fun k => k ≤ i ∧ ∀ j, j < k → nAt x j ≠ nAt x i) (fun k => i - k) 0 (by kernel_rfl) (by kernel_rfl) ⟨Nat.zero_le _, fun j hj => by omega⟩ ?_ ?_
  · simp [headW, heapW, envW, blkLt, D.ltL, D.lt, look, hget, hlc]
  rintro k ⟨hk, hkn⟩
  rcases Nat.lt_or_ge k i with hkl | hkg
  · have hq2 : ((k : Int) < (i : Int)) = True := by simp [hkl]
    have wk := wrap_i64 (z := (k : Int) + 1) (by omega) (by omega)
    have ixk := sI_ix (nAt_get (show k < x.length by omega))
    by_cases he : nAt x k = nAt x i
    · have hb : (nAt x k == nAt x i) = true := by simpa using he
      have hd : OK i = false := by
        rw [hd]
        have : (List.range i).all (fun k => !(nAt x k == nAt x i)) = false := by
          rw [List.all_eq_false]
          exact ⟨k, by simpa using hkl, by simp [he]⟩
        simp [this]
      simp only [RT, FS, ↓RE, okR, argEnv, Nat.reduceAdd, Nat.reduceSub, Nat.reduceLT, Nat.reduceLeDiff, Nat.reduceEqDiff, reduceIte, hq2, decide_true, ixi, ixk, hb]
      rw [hnoi hd]
      simp
    · have hb : (nAt x k == nAt x i) = false := by simpa using he
      simp only [RT, FS, ↓RE, okR, argEnv, Nat.reduceAdd, Nat.reduceSub, Nat.reduceLT, Nat.reduceLeDiff, Nat.reduceEqDiff, reduceIte, hq2, decide_true, ixi, ixk, hb, wk]
      refine ⟨k + 1, ⟨by omega, fun j hj => ?_⟩, by omega, ?_⟩
      · rcases Nat.lt_or_ge j k with h1 | h1
        · exact hkn j h1
        · rw [show j = k by omega]; exact he
      · simp [headW, heapW, envW, blkLt, D.ltL, D.lt, look, hget, hlc]
  have hq2 : ((k : Int) < (i : Int)) = False := by simp; omega
  have hall : (List.range i).all (fun k => !(nAt x k == nAt x i)) = true := by
    rw [List.all_eq_true]
    intro j hj
    have := hkn j (by simp at hj; omega)
    simpa using this
  rw [hall] at hd
  have fin : OK i = true → ∀ j, j < i + 1 → OK j = true := fun h1 j hj => by
    rcases Nat.lt_or_ge j i with h2 | h2
    · exact hp j h2
    · rw [show j = i by omega]; exact h1
  cases i with
  | zero =>
    have hpos : decide ((0 : Int) < ((0 : Nat) : Int)) = false := rfl
    have hd : OK 0 = true := by rw [hd]; simp
    simp only [RT, FS, ↓RE, okR, argEnv, Nat.reduceAdd, Nat.reduceSub, Nat.reduceLT, Nat.reduceLeDiff, Nat.reduceEqDiff, reduceIte, hq2, decide_false, hpos, wi]
    refine ⟨0 + 1, ⟨by omega, fin hd⟩, by omega, ?_⟩
    simp [headW, heapW, envW, blkLt, D.ltL, D.lt, look, hget, hlc]
  | succ i =>
    have hpos : decide ((0 : Int) < ((i + 1 : Nat) : Int)) = true := by simp
    have hcast : ((i + 1 : Nat) : Int) - 1 = (i : Int) := by omega
    have wp := wrap_i64 (z := (i : Int)) (by omega) (by omega)
    have ixp := sI_ix (nAt_get (show i < x.length by omega))
    have hpi := hp i (by omega)
    have hcp : cellI l (nAt x i) := by
      rw [hdef i] at hpi
      simp only [Bool.and_eq_true] at hpi
      have := rI_le hpi.1.1.1
      unfold cellI; omega
    have oW' := oW (nAt x i) (nAt x (i + 1)) hcp hrb.1
    have hi1 : (i + 1) - 1 = i := rfl
    simp only [hi1] at hd ⊢
    have hne : decide (i + 1 = 0) = false := by simp
    rw [hne] at hd
    cases hwy : (wayF l (nAt x i) (nAt x (i + 1)) == 0)
    rotate_left
    · rw [hwy] at hd
      have hd : OK (i + 1) = false := by rw [hd]; simp
      simp only [RT, FS, ↓RE, okR, argEnv, Nat.reduceAdd, Nat.reduceSub, Nat.reduceLT, Nat.reduceLeDiff, Nat.reduceEqDiff, reduceIte, hq2, decide_false, hpos, hcast, wp, ixp, ixi, hlc, oW', hwy]
      rw [hnoi hd]
      simp
    rw [hwy] at hd
    have hd : OK (i + 1) = true := by rw [hd]; simp
    have hwn : wayF l (nAt x i) (nAt x (i + 1)) ≠ 0 := by simpa using hwy
    have oS' := gSteps_eq (wayF_rI hwn)
    have hL1 := hLs i
    have hlb := lenS_b (dxW (wayF l (nAt x i) (nAt x (i + 1)))) (dyW (wayF l (nAt x i) (nAt x (i + 1))))
    have hl2 := hlp i
    have ws := wrap_i64 (z := LP i + lenS (dxW (wayF l (nAt x i) (nAt x (i + 1)))) (dyW (wayF l (nAt x i) (nAt x (i + 1))))) (by omega) (by omega)
    have ws := ws.trans hL1.symm
    simp only [RT, FS, ↓RE, okR, argEnv, Nat.reduceAdd, Nat.reduceSub, Nat.reduceLT, Nat.reduceLeDiff, Nat.reduceEqDiff, reduceIte, hq2, decide_false, hpos, hcast, wp, ixp, ixi, hlc, oW', hwy, oS', ws, wi]
    refine ⟨i + 1 + 1, ⟨by omega, fin hd⟩, by omega, ?_⟩
    simp [headW, heapW, envW, blkLt, D.ltL, D.lt, look, hget, hlc]

/-! Less -/
def lessL (m : Int) (a : List Int) (n : Int) (b : List Int) : Bool := if m = n then (if a.length = b.length then lexB a b else decide (a.length < b.length)) else decide (m < n)
theorem lexB_drop : ∀ (a b : List Int) (i : Nat), i < a.length → i < b.length → lexB (a.drop i) (b.drop i) = if nAt a i = nAt b i then lexB (a.drop (i + 1)) (b.drop (i + 1)) else decide (nAt a i < nAt b i) := fun a b i h1 h2 => by
  rw [List.drop_eq_getElem_cons h1, List.drop_eq_getElem_cons h2]
  simp [lexB, nAt, h1, h2]
theorem ref3_Less_t (m n : Int) (a b : List Int) (ha : a.length ≤ 9223372036854775807) (hb : b.length ≤ 9223372036854775807) : Pure Try.prog 31 [.int .i64 m, .sl (intL a), .int .i64 n, .sl (intL b)] (.bool (lessL m a n b)) := by
  unfold lessL
  by_cases hmn : m = n
  rotate_left
  · have q : (m != n) = true := by simpa using hmn
    rw [if_neg hmn]
    refine pure_of_wc (rs := [.tmp 8]) (m := 50) [(8, [(9, false, false, [])]), (9, [(10, false, false, [])])] oNone_ok (by kernel_rfl) Try.func31 rfl (by kernel_rfl) rfl rfl (by kernel_rfl) ?_
    simp only [RT, FS, ↓RE, okR, argEnv, Nat.reduceAdd, Nat.reduceSub, Nat.reduceLT, Nat.reduceLeDiff, Nat.reduceEqDiff, reduceIte, q]
  have q : (m != n) = false := by simpa using hmn
  rw [if_pos hmn]
  by_cases hlen : a.length = b.length
  rotate_left
  · have q2 : ((a.length : Int) != (b.length : Int)) = true := by simp; omega
    rw [if_neg hlen]
    refine pure_of_wc (rs := [.tmp 8]) (m := 50) [(8, [(9, false, false, [])]), (9, [(10, false, false, [])])] oNone_ok (by kernel_rfl) Try.func31 rfl (by kernel_rfl) rfl rfl (by kernel_rfl) ?_
    simp only [RT, FS, ↓RE, okR, argEnv, Nat.reduceAdd, Nat.reduceSub, Nat.reduceLT, Nat.reduceLeDiff, Nat.reduceEqDiff, reduceIte, q, q2, intL_len]
    congr 1
    simp
  have q2 : ((a.length : Int) != (b.length : Int)) = false := by simp; omega
  rw [if_pos hlen]
  refine pure_of_wc (rs := [.tmp 8]) (m := 50) [(8, [(9, false, false, [])]), (9, [(10, false, false, [])])] oNone_ok (by kernel_rfl) Try.func31 rfl (by kernel_rfl) rfl rfl (by kernel_rfl) ?_
  simp only [RT, FS, ↓RE, okR, argEnv, Nat.reduceAdd, Nat.reduceSub, Nat.reduceLT, Nat.reduceLeDiff, Nat.reduceEqDiff, reduceIte, q, q2, intL_len]
  refine loopV (ι := Nat) oNone_ok [(8, [(9, false, false, [])]), (9, [(10, false, false, [])])] (fun i => [(1, .sl (intL a)), (3, .sl (intL b)), (9, .int .i64 (i : Int))])
    (fun i => []) 0 (fun i => i ≤ a.length ∧ lexB a b = lexB (a.drop i) (b.drop i)) (fun i => a.length - i) 0 (by kernel_rfl) (by kernel_rfl) ⟨Nat.zero_le _, by simp⟩ ?_ ?_
  · simp [headW, heapW, envW, blkLt, D.ltL, D.lt, look, hget]
  rintro i ⟨hi, he⟩
  rcases Nat.lt_or_ge i a.length with hlt | hge
  rotate_left
  · have hq : ((i : Int) < (a.length : Int)) = False := by simp; omega
    have hn : a.drop i = [] := List.drop_of_length_le hge
    simp only [RT, FS, ↓RE, okR, argEnv, Nat.reduceAdd, Nat.reduceSub, Nat.reduceLT, Nat.reduceLeDiff, Nat.reduceEqDiff, reduceIte, intL_len, hq, decide_false]
    rw [he, hn]
    simp [lexB]
  have hq : ((i : Int) < (a.length : Int)) = True := by simp [hlt]
  have wi := wrap_i64 (z := (i : Int) + 1) (by omega) (by omega)
  have ixa := sI_ix (nAt_get hlt)
  have ixb := sI_ix (nAt_get (show i < b.length by omega))
  have hld := lexB_drop a b i hlt (by omega)
  by_cases heq : nAt a i = nAt b i
  · have qe : (nAt a i != nAt b i) = false := by simpa using heq
    rw [if_pos heq] at hld
    simp only [RT, FS, ↓RE, okR, argEnv, Nat.reduceAdd, Nat.reduceSub, Nat.reduceLT, Nat.reduceLeDiff, Nat.reduceEqDiff, reduceIte, intL_len, hq, decide_true, ixa, ixb, qe, wi]
    exact ⟨i + 1, ⟨by omega, by rw [he, hld]⟩, by omega, by simp [headW, heapW, envW, blkLt, D.ltL, D.lt, look, hget]⟩
  · have qe : (nAt a i != nAt b i) = true := by simpa using heq
    rw [if_neg heq] at hld
    simp only [RT, FS, ↓RE, okR, argEnv, Nat.reduceAdd, Nat.reduceSub, Nat.reduceLT, Nat.reduceLeDiff, Nat.reduceEqDiff, reduceIte, intL_len, hq, decide_true, ixa, ixb, qe, wi]
    rw [he, hld]
end Go.Sx

namespace Go.Sx
open Go.Proofs
set_option maxRecDepth 10000

/-! What is proposed is a path, and a path passes -/
section
variable {l : LandM} (hl : LandOk l) {al : Int → Bool}
include hl
end
section
variable {l : LandM} (hl : LandOk l) (al : Int → Bool) {frm to : Int} (hf : cellI l frm) (ht : cellI l to)
include hl hf ht
omit hf in
theorem way_mono {al' : Int → Bool} (hal : ∀ x, al x = true → al' x = true) (h : (mget (farA al (stepsL l.wide l.deep) to) frm).isSome = true) : (mget (farA al' (stepsL l.wide l.deep) to) frm).isSome = true := by
  have hnet := net_steps hl
  obtain ⟨v, hv⟩ := Option.isSome_iff_exists.1 h
  have hw := (far_spec (al := al) hnet.n hnet.ok ht).1 _ _ hv
  obtain ⟨u, hu, _⟩ := (far_spec (al := al') hnet.n hnet.ok ht).2.1 _ _ (hw.mono hal)
  rw [hu]; rfl
end
theorem allow_mono {l : LandM} {nd : List Int} {h h' : Int} (hh : h ≤ h') (x : Int) (ha : allowB l nd h x = true) : allowB l nd h' x = true := by
  simp only [allowB, Bool.and_eq_true, decide_eq_true_eq] at ha ⊢; omega
end Go.Sx

namespace Go.Sx
open Go.Proofs
set_option maxRecDepth 10000

/-! Oracles of ways -/
noncomputable abbrev qWay := gCLA (β := Int × Int × Int × Int) (fun c l a _ => okL c l a) rs4 (fun c l a p => WayD c l a p.1 p.2.1 p.2.2.1 p.2.2.2)
noncomputable abbrev qLow := gCLA (β := Int × Int × Int) (fun c l a _ => okL c l a) rs3 (fun c l a p => .tup [.int .i64 (LowestR c l a p.1 p.2.1 p.2.2).1, .int .i64 (LowestR c l a p.1 p.2.1 p.2.2).2])
noncomputable def gPass : List D → Option D := orcF (fun p : LandM × List Int × List Int × Int × Int × Int => LandOk p.1 ∧ p.2.1.length = p.1.ground.length ∧ p.2.2.1.length ≤ 1000) (fun p => [.agg p.1.c, .sl (intL p.2.1), .sl (intL p.2.2.1), .int .i64 p.2.2.2.1, .int .i64 p.2.2.2.2.1, .int .i64 p.2.2.2.2.2]) (fun p => PassD p.1 p.2.1 p.2.2.1 p.2.2.2.1 p.2.2.2.2.1 p.2.2.2.2.2)
noncomputable def gLess : List D → Option D := orcF (fun p : Int × List Int × Int × List Int => p.2.1.length ≤ 9223372036854775807 ∧ p.2.2.2.length ≤ 9223372036854775807) (fun p => [.int .i64 p.1, .sl (intL p.2.1), .int .i64 p.2.2.1, .sl (intL p.2.2.2)]) (fun p => .bool (lessL p.1 p.2.1 p.2.2.1 p.2.2.2))
theorem gLess_eq (m n : Int) {a b : List Int} (ha : a.length ≤ 9223372036854775807) (hb : b.length ≤ 9223372036854775807) : gLess [.int .i64 m, .sl (intL a), .int .i64 n, .sl (intL b)] = some (.bool (lessL m a n b)) :=
  orcF_eq (ok := fun p : Int × List Int × Int × List Int => p.2.1.length ≤ 9223372036854775807 ∧ p.2.2.2.length ≤ 9223372036854775807) (dsf := fun p => [.int .i64 p.1, .sl (intL p.2.1), .int .i64 p.2.2.1, .sl (intL p.2.2.2)]) (rf := fun p => .bool (lessL p.1 p.2.1 p.2.2.1 p.2.2.2)) (m, a, n, b) ⟨ha, hb⟩ fun b hb => by
    simp only [List.cons.injEq, D.int.injEq, D.sl.injEq, true_and, and_true] at hb
    rw [hb.1, intL_inj hb.2.1, hb.2.2.1, intL_inj hb.2.2.2]
noncomputable abbrev nI : List (FuncId × (List D → Option D)) := (29, qWay) :: (32, qLow) :: (30, gPass) :: (31, gLess) :: nG
theorem nI_ok : OkO Try.prog (mkO nI) :=
  mkO_ok (gCLA_ok _ _ _ fun c l a p h => run_Way_t c h.1 l h.2 a p.1 p.2.1 p.2.2.1 p.2.2.2) <| mkO_ok (gCLA_ok _ _ _ fun c l a p h => run_Lowest_t c h.1 l h.2 a p.1 p.2.1 p.2.2) <|
  mkO_ok (orcF_ok fun p h => ref3_Passes_t p.1 h.1 p.2.1 h.2.1 p.2.2.1 h.2.2 p.2.2.2.1 p.2.2.2.2.1 p.2.2.2.2.2) <| mkO_ok (orcF_ok fun p h => ref3_Less_t p.1 p.2.2.1 p.2.1 p.2.2.2 h.1 h.2) <| nG_ok
theorem cellB_of {l : LandM} (hb : landB l = true) {x : Int} (h : cellI l x) : cellB l x = true := by
  unfold cellI at h
  simp [cellB, hb, rI]; omega
theorem land_of {c : Craft} {l : LandM} {a : AirW} {w : Int} {b : Bool} (h : startE c l a w b = 0) : landB l = true := by
  cases hb : landB l
  · rw [startE_land hb] at h; cases h
  · rfl
theorem WayD_none {c : Craft} {l : LandM} {a : AirW} {w frm to h : Int} (hs : startE c l a w true = 0) (hf : cellI l frm) (ht : cellI l to) (hh : 0 ≤ h ∧ h ≤ 20000) (hm : mget (costsF c a (ceilI c w) l to h) frm = none) : WayD c l a w frm to h = .tup [.nils, .int .i64 0, .int .i64 5] := by
  have hq : wayFine l frm to h = true := by simp [wayFine, cellB_of (land_of hs) hf, cellB_of (land_of hs) ht, rI, hh]
  rw [WayD, hq, if_pos hs, hm]
theorem WayD_some {c : Craft} {l : LandM} {a : AirW} {w frm to h : Int} (hs : startE c l a w true = 0) (hf : cellI l frm) (ht : cellI l to) (hh : 0 ≤ h ∧ h ≤ 20000) {v : Cst} (hm : mget (costsF c a (ceilI c w) l to h) frm = some v) : WayD c l a w frm to h = .tup [.sl (intL (alongA (costsF c a (ceilI c w) l to h) (stepsL l.wide l.deep) frm to)), .int .i64 v.len, .int .i64 0] := by
  have hq : wayFine l frm to h = true := by simp [wayFine, cellB_of (land_of hs) hf, cellB_of (land_of hs) ht, rI, hh]
  rw [WayD, hq, if_pos hs, hm]
theorem LowR_none {c : Craft} {l : LandM} {a : AirW} {w frm to : Int} (hs : startE c l a w true = 0) (hf : cellI l frm) (ht : cellI l to) (hm : 20000 < lowF c a (ceilI c w) l frm to) : LowestR c l a w frm to = (0, 5) := by
  have hq : (cellB l frm && cellB l to) = true := by simp [cellB_of (land_of hs) hf, cellB_of (land_of hs) ht]
  rw [LowestR, hq, if_pos hs, if_pos hm]
theorem LowR_some {c : Craft} {l : LandM} {a : AirW} {w frm to : Int} (hs : startE c l a w true = 0) (hf : cellI l frm) (ht : cellI l to) (hm : ¬20000 < lowF c a (ceilI c w) l frm to) : LowestR c l a w frm to = (lowF c a (ceilI c w) l frm to, 0) := by
  have hq : (cellB l frm && cellB l to) = true := by simp [cellB_of (land_of hs) hf, cellB_of (land_of hs) ht]
  rw [LowestR, hq, if_pos hs, if_neg hm]
theorem cellL_of {l : LandM} {x : Int} (h : cellL l x = true) : cellI l x := by
  simp only [cellL, Bool.and_eq_true, decide_eq_true_eq] at h
  exact h
end Go.Sx
