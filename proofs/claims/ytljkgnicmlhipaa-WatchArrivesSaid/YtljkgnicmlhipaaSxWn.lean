/- Own work: a calculus of contracts for the programs of this kit: parts SxW46w, SxW47w, SxW48w, SxW49w. -/
import Derived.Test.YtljkgnicmlhipaaSxW43w
set_option linter.unusedVariables false
set_option linter.unusedSimpArgs false
namespace Go.Sx
set_option maxRecDepth 10000

theorem gd_el {l : List Int} {i : Nat} (h : i < l.length) : l.getD i 0 = l[i] := by simp [List.getD_eq_getElem?_getD, h]
end Go.Sx

namespace Go.Sx
set_option maxRecDepth 10000

theorem free_ins {s : SkyW} {c : Int} (h : freeB s.sh c = true) : InS s c := free_in h
theorem nb_split {s : SkyW} {c t : Int} {j : Nat} (h : nbAt s.w s.d s.sh c j = some t) : nbOk s.w s.d s.sh c (j / 3) (j % 3) = true ∧ t = nbTo s.w c (j / 3) (j % 3) := by
  unfold nbAt at h
  split at h
  · rename_i h1; exact ⟨h1, by simpa using h.symm⟩
  · cases h
theorem nb_mem {s : SkyW} (hs : SkyOk s) {c : Int} (hc : InS s c) {t : Int} : t ∈ nbL s.w s.d s.sh c ↔ freeB s.sh t = true ∧ distI s.w t c = 1 := by
  have hw := hs.w
  constructor
  · intro ht
    refine ⟨nbL_in hs hc t ht, ?_⟩
    unfold nbL nbN at ht
    obtain ⟨j, hj, h⟩ := List.mem_filterMap.1 ht
    have hj := List.mem_range.1 hj
    obtain ⟨h1, h2⟩ := nb_split h
    unfold nbOk at h1
    simp only [Bool.and_eq_true] at h1
    obtain ⟨h3, h4, h5, _⟩ := h1
    obtain ⟨_, e1, e2⟩ := nb_in hs hc (i := j / 3) (k := j % 3) (by omega) (by omega) h4 h5
    rw [← h2] at e1 e2 h3
    unfold distI
    rw [e1, e2]
    have hne : ¬ (j / 3 = 1 ∧ j % 3 = 1) := by
      rintro ⟨a, b⟩
      rw [a, b] at h2
      simp only [nbTo] at h2
      simp at h3
      exact h3 (by rw [h2]; omega)
    omega
  · rintro ⟨hf, hd⟩
    have ht := free_ins hf
    have b1 := cell_b hs hc
    have b2 := cell_b hs ht
    have h1 := Int.emod_add_mul_ediv c s.w
    have h2 := Int.emod_add_mul_ediv t s.w
    unfold distI at hd
    obtain ⟨i, hi⟩ : ∃ i : Nat, (i : Int) = t / s.w - c / s.w + 1 := ⟨(t / s.w - c / s.w + 1).toNat, by omega⟩
    obtain ⟨k, hk⟩ : ∃ k : Nat, (k : Int) = t % s.w - c % s.w + 1 := ⟨(t % s.w - c % s.w + 1).toNat, by omega⟩
    have hto : nbTo s.w c i k = t := by
      unfold nbTo
      have e : ((i : Int) - 1) * s.w = s.w * (t / s.w) - s.w * (c / s.w) := by
        rw [hi, ← Int.mul_sub, Int.mul_comm]; congr 1; omega
      rw [e]; omega
    unfold nbL nbN
    refine List.mem_filterMap.2 ⟨3 * i + k, List.mem_range.2 (by omega), ?_⟩
    unfold nbAt
    rw [show (3 * i + k) / 3 = i by omega, show (3 * i + k) % 3 = k by omega, hto]
    rw [if_pos]
    unfold nbOk
    rw [hto]
    have hne : decide (t = c) = false := by
      simp; intro e; subst e; omega
    have hsh : isShut s.sh t = false := by
      unfold freeB at hf; simp at hf; simpa using hf.2
    rw [hne, hsh]
    simp [rI]
    omega
def FreeP (s : SkyW) (p : Int → Bool) : Prop := ∀ c, p c = true → freeB s.sh c = true
theorem aF_iff {s : SkyW} (hs : SkyOk s) {p : Int → Bool} {c : Int} : aF s p c = true ↔ p c = true ∨ (freeB s.sh c = true ∧ ∃ k, InS s k ∧ p k = true ∧ distI s.w c k = 1) := by
  unfold aF
  rw [Bool.or_eq_true, List.any_eq_true]
  refine or_congr Iff.rfl ⟨?_, ?_⟩
  · rintro ⟨k, hk, h⟩
    obtain ⟨t, ht, e⟩ := List.any_eq_true.1 h
    have e : t = c := by simpa using e
    subst e
    have hk := cellsF_mem.1 hk
    have := (nb_mem hs hk.1).1 ht
    exact ⟨this.1, k, hk.1, hk.2, this.2⟩
  · rintro ⟨hf, k, hk, hp, hd⟩
    exact ⟨k, cellsF_mem.2 ⟨hk, hp⟩, List.any_eq_true.2 ⟨c, (nb_mem hs hk).2 ⟨hf, hd⟩, by simp⟩⟩
theorem FreeP.aF {s : SkyW} (hs : SkyOk s) {p : Int → Bool} (hp : FreeP s p) : FreeP s (aF s p) := fun c hc => by
  rcases (aF_iff hs).1 hc with h | h
  · exact hp c h
  · exact h.1
end Go.Sx

namespace Go.Sx
set_option maxRecDepth 10000

inductive Wy (s : SkyW) (frm : Int) : List Int → Int → Prop
  | one : freeB s.sh frm = true → Wy s frm [frm] frm
  | snoc (p : List Int) (y z : Int) : Wy s frm p y → freeB s.sh z = true → distI s.w y z = 1 → Wy s frm (p ++ [z]) z
def okB (s : SkyW) (p : List Int) (i : Nat) : Bool := freeB s.sh (nAt p i) && (decide (i = 0) || decide (distI s.w (nAt p (i - 1)) (nAt p i) = 1))
theorem nAt_app {p : List Int} {i : Nat} (h : i < p.length) (q : List Int) : nAt (p ++ q) i = nAt p i := by
  unfold nAt
  rw [gd_el (by simp; omega), gd_el h, List.getElem_append_left h]
theorem nAt_last (p : List Int) (z : Int) : nAt (p ++ [z]) p.length = z := by
  unfold nAt
  rw [gd_el (by simp)]
  simp
theorem Wy.at {s : SkyW} {frm : Int} {p : List Int} {y : Int} (h : Wy s frm p y) : 1 ≤ p.length ∧ nAt p 0 = frm ∧ nAt p (p.length - 1) = y ∧ ∀ i, i < p.length → okB s p i = true := by
  induction h with
  | one hf =>
    refine ⟨by simp, rfl, rfl, fun i hi => ?_⟩
    have : i = 0 := by simpa using hi
    subst this
    simp [okB, nAt, hf]
  | snoc p y z h1 h2 h3 ih =>
    obtain ⟨a, b, c, d⟩ := ih
    refine ⟨by simp, by rw [nAt_app (by omega)]; exact b, by rw [List.length_append, List.length_singleton, Nat.add_sub_cancel]; exact nAt_last p z, fun i hi => ?_⟩
    rw [List.length_append, List.length_singleton] at hi
    by_cases e : i < p.length
    · have := d i e
      unfold okB at this ⊢
      rw [nAt_app e, nAt_app (by omega)]; exact this
    · have : i = p.length := by omega
      subst this
      unfold okB
      rw [nAt_last, nAt_app (by omega), c]
      simp [h2, h3]
end Go.Sx

namespace Go.Sx
set_option maxRecDepth 10000

inductive Rw (A : Int → Int → Int → Int) (K : Nat) : Int → Int → List Int → Int → Int → Prop
  | one (s m : Int) : Rw A K s m [s] s m
  | cons (s m t : Int) (p : List Int) (e a : Int) : s ≠ 0 → 0 ≤ t → t < (K : Int) → 0 ≤ A s t m → Rw A K t (A s t m) p e a → Rw A K s m (s :: p) e a
section
variable {A : Int → Int → Int → Int} {K : Nat}
theorem Rw.hd {s m : Int} {p : List Int} {e a : Int} (h : Rw A K s m p e a) : ∃ r, p = s :: r := by
  cases h with
  | one => exact ⟨[], rfl⟩
  | cons s m t p e a _ _ _ _ _ => exact ⟨p, rfl⟩
theorem Rw.snoc {s m : Int} {p : List Int} {e a : Int} (h : Rw A K s m p e a) {t : Int} (he : e ≠ 0) (h0 : 0 ≤ t) (h1 : t < (K : Int)) (h2 : 0 ≤ A e t a) : Rw A K s m (p ++ [t]) t (A e t a) := by
  induction h with
  | one s m => exact .cons s m t [t] t _ he h0 h1 h2 (.one t _)
  | cons s m u p e a g0 g1 g2 g3 _ ih => exact .cons s m u _ _ _ g0 g1 g2 g3 (ih he h2)
theorem Rw.rng {s m : Int} {p : List Int} {e a : Int} (h : Rw A K s m p e a) (h0 : 0 ≤ s ∧ s < (K : Int)) : ∀ x ∈ p, 0 ≤ x ∧ x < (K : Int) := by
  induction h with
  | one s m => intro x hx; simp at hx; subst hx; exact h0
  | cons s m t p e a _ g1 g2 _ _ ih =>
    intro x hx
    rcases List.mem_cons.1 hx with rfl | hx
    · exact h0
    · exact ih ⟨g1, g2⟩ x hx
theorem Rw.rt {at0 : MpI} {s m : Int} {p : List Int} {e a : Int} (h : Rw A K s m p e a) (hr : Rt A K at0 s m) : Rt A K at0 e a := by
  induction h with
  | one s m => exact hr
  | cons s m t p e a g0 g1 g2 g3 _ ih => exact ih (.step s m t hr g0 g1 g2 g3)
theorem rt_rw {at0 : MpI} {e a : Int} (h : Rt A K at0 e a) : ∃ s m p, (0 ≤ s ∧ s < (K : Int)) ∧ gget at0 s = some m ∧ Rw A K s m p e a := by
  induction h with
  | start s t h1 h2 h3 => exact ⟨s, t, [s], ⟨h1, h2⟩, h3, .one s t⟩
  | step s t to _ h0 h1 h2 h3 ih =>
    obtain ⟨s', m, p, g0, g1, g2⟩ := ih
    exact ⟨s', m, p ++ [to], g0, g1, g2.snoc h0 h1 h2 h3⟩
theorem Rw.mono (hA : AOk A) {s m' : Int} {p : List Int} {e a' : Int} (h : Rw A K s m' p e a') : ∀ {m : Int}, m ≤ m' → ∃ a, a ≤ a' ∧ Rw A K s m p e a := by
  induction h with
  | one s m' => intro m hm; exact ⟨m, hm, .one s m⟩
  | cons s m' t p e a g0 g1 g2 g3 _ ih =>
    intro m hm
    obtain ⟨q1, q2⟩ := hA.mono s t m m' hm g3
    obtain ⟨a1, h1, h2⟩ := ih q2
    exact ⟨a1, h1, .cons s m t p e a1 g0 g1 g2 q1 h2⟩
theorem Rw.suf (hge : ∀ s t m, 0 ≤ A s t m → m ≤ A s t m) {s m : Int} {p : List Int} {e a : Int} (h : Rw A K s m p e a) : ∀ x ∈ p, ∃ m' p', m ≤ m' ∧ Rw A K x m' p' e a ∧ p'.length ≤ p.length := by
  induction h with
  | one s m => intro x hx; simp at hx; subst hx; exact ⟨m, [x], Int.le_refl _, .one x m, by simp⟩
  | cons s m t p e a g0 g1 g2 g3 hp ih =>
    intro x hx
    rcases List.mem_cons.1 hx with rfl | hx
    · exact ⟨m, _, Int.le_refl _, .cons x m t p e a g0 g1 g2 g3 hp, Nat.le_refl _⟩
    · obtain ⟨m', p', h1, h2, h3⟩ := ih x hx
      have := hge s t m g3
      exact ⟨m', p', by omega, h2, by simp only [List.length_cons]; omega⟩
theorem Rw.cut (hA : AOk A) (hge : ∀ s t m, 0 ≤ A s t m → m ≤ A s t m) {s m : Int} {p : List Int} {e a : Int} (h : Rw A K s m p e a) : ¬ p.Nodup → ∃ p' a', Rw A K s m p' e a' ∧ a' ≤ a ∧ p'.length < p.length := by
  induction h with
  | one s m => intro hn; exact absurd (by simp) hn
  | cons s m t p e a g0 g1 g2 g3 hp ih =>
    intro hn
    by_cases hs : s ∈ p
    · obtain ⟨m', p', h1, h2, h3⟩ := hp.suf hge s hs
      have := hge s t m g3
      obtain ⟨a1, h4, h5⟩ := h2.mono hA (m := m) (by omega)
      exact ⟨p', a1, h5, h4, by simp only [List.length_cons]; omega⟩
    · obtain ⟨p', a', h1, h2, h3⟩ := ih fun hd => hn (List.nodup_cons.2 ⟨hs, hd⟩)
      exact ⟨s :: p', a', .cons s m t p' e a' g0 g1 g2 g3 h1, h2, by simp only [List.length_cons]; omega⟩
theorem Rw.simple (hA : AOk A) (hge : ∀ s t m, 0 ≤ A s t m → m ≤ A s t m) : ∀ (n : Nat) {s m : Int} {p : List Int} {e a : Int}, p.length ≤ n → Rw A K s m p e a → ∃ p' a', Rw A K s m p' e a' ∧ a' ≤ a ∧ p'.Nodup
  | 0, s, m, p, e, a, hn, h => by
    obtain ⟨r, rfl⟩ := h.hd
    simp at hn
  | n + 1, s, m, p, e, a, hn, h => by
    by_cases hd : p.Nodup
    · exact ⟨p, a, h, Int.le_refl _, hd⟩
    · obtain ⟨p1, a1, h1, h2, h3⟩ := h.cut hA hge hd
      obtain ⟨p2, a2, h4, h5, h6⟩ := Rw.simple hA hge n (by omega) h1
      exact ⟨p2, a2, h4, by omega, h6⟩
theorem fsome_ex {α : Type} {f : Nat → Option α} {x : α} : ∀ {r i : Nat}, fsome f r i = some x → ∃ j, i ≤ j ∧ j < i + r ∧ f j = some x ∧ ∀ j', i ≤ j' → j' < j → f j' = none
  | 0, i, h => by simp [fsome] at h
  | r + 1, i, h => by
    simp only [fsome] at h
    split at h
    · rename_i y hy
      cases h
      exact ⟨i, Nat.le_refl _, by omega, hy, fun j' h1 h2 => by omega⟩
    · rename_i hn
      obtain ⟨j, h1, h2, h3, h4⟩ := fsome_ex h
      refine ⟨j, by omega, by omega, h3, fun j' g1 g2 => ?_⟩
      by_cases e : j' = i
      · rw [e]; exact hn
      · exact h4 j' (by omega) g2
theorem fsome_no {α : Type} {f : Nat → Option α} : ∀ {r i : Nat}, fsome f r i = none → ∀ j, i ≤ j → j < i + r → f j = none
  | 0, i, _, j, h1, h2 => by omega
  | r + 1, i, h, j, h1, h2 => by
    simp only [fsome] at h
    split at h
    · cases h
    · rename_i hn
      by_cases e : j = i
      · rw [e]; exact hn
      · exact fsome_no h j (by omega) (by omega)
theorem at_one {st m : Int} (h : 0 ≤ m ∧ m ≤ 1440) : AtOk (gput [] st m) := fun k v hg => by
  rw [gget_put] at hg
  split at hg
  · simp at hg; omega
  · simp [gget] at hg
theorem rt_one {st m : Int} (h : 0 ≤ st ∧ st < (K : Int)) : Rt A K (gput [] st m) st m := .start st m h.1 h.2 (by rw [gget_put, if_pos rfl])
theorem route_spec (hA : AOk A) (hK : K ≤ 8) {last : Int} : ∀ (k : Nat) {st m : Int}, (0 ≤ st ∧ st < (K : Int)) → (0 ≤ m ∧ m ≤ 1440) →
    (∀ p, routeR A K last k st m = some p → (∃ a, Rw A K st m p 0 a ∧ a ≤ last) ∧ p.length = k ∧ ∀ p' a', Rw A K st m p' 0 a' → p'.length = k → a' ≤ last → lexB p' p = false) ∧
    (routeR A K last k st m = none → ∀ p' a', Rw A K st m p' 0 a' → p'.length = k → last < a')
  | 0, st, m, hst, hm => by
    refine ⟨fun p h => by simp [routeR] at h, fun _ p' a' h hl => ?_⟩
    obtain ⟨r, rfl⟩ := h.hd
    simp at hl
  | k + 1, st, m, hst, hm => by
    have hrt : ∀ p' a', Rw A K st m p' 0 a' → Rt A K (gput [] st m) 0 a' := fun p' a' h => h.rt (rt_one hst)
    have hsp := spread_spec hA hK (at_one (st := st) hm)
    simp only [routeR]
    by_cases hc : spreadI A K (gput [] st m) < 0 ∨ last < spreadI A K (gput [] st m)
    · rw [if_pos hc]
      refine ⟨fun p h => (by cases h), fun _ p' a' h hl => ?_⟩
      have := hrt p' a' h
      rcases hsp with ⟨_, hn⟩ | ⟨h0, _, _, hle⟩
      · exact absurd this (hn a')
      · have := hle a' this
        omega
    rw [if_neg hc]
    by_cases h0 : st = 0
    · subst h0
      rw [if_pos rfl]
      have hone : ∀ p' a', Rw A K 0 m p' 0 a' → p' = [0] ∧ a' = m := fun p' a' h => by
        cases h with
        | one => exact ⟨rfl, rfl⟩
        | cons _ _ t p e a g0 _ _ _ _ => exact absurd rfl g0
      by_cases hk : k = 0
      · rw [if_pos hk]
        subst hk
        refine ⟨fun p h => ?_, fun h => by cases h⟩
        have h : p = [0] := by simpa using h.symm
        subst h
        refine ⟨⟨m, .one 0 m, ?_⟩, rfl, fun p' a' h _ _ => by rw [(hone p' a' h).1]; rfl⟩
        rcases hsp with ⟨e, _⟩ | ⟨_, _, hr, hle⟩
        · omega
        · have := hle m (rt_one hst)
          obtain ⟨s', m', p', g0, g1, g2⟩ := rt_rw hr
          rw [gget_put] at g1
          split at g1
          · rename_i e
            subst e
            have e2 : m = m' := by simpa using g1
            subst e2
            have := (hone _ _ g2).2
            omega
          · simp [gget] at g1
      · rw [if_neg hk]
        refine ⟨fun p h => by (cases h), fun _ p' a' h hl => ?_⟩
        rw [(hone p' a' h).1] at hl
        simp at hl; omega
    rw [if_neg h0]
    have hstep : ∀ p' a', Rw A K st m p' 0 a' → ∃ (t : Nat) (p1 : List Int), t < K ∧ p' = st :: p1 ∧ 0 ≤ A st t m ∧ Rw A K t (A st t m) p1 0 a' := fun p' a' h => by
      cases h with
      | one => exact absurd rfl h0
      | cons _ _ t p e a g0 g1 g2 g3 g4 =>
        have e1 : ((t.toNat : Nat) : Int) = t := by omega
        exact ⟨t.toNat, p, by omega, rfl, by rw [e1]; exact g3, by rw [e1]; exact g4⟩
    have ih : ∀ t : Nat, t < K → 0 ≤ A st t m → _ := fun t ht h => route_spec hA hK (last := last) k (st := (t : Int)) (m := A st t m) ⟨by omega, by omega⟩ ⟨h, hA.le _ _ _⟩
    refine ⟨fun p h => ?_, fun h p' a' hp hl => ?_⟩
    · obtain ⟨j, _, hj, hf, hbe⟩ := fsome_ex h
      split at hf
      · cases hf
      · rename_i hge
        obtain ⟨p1, h1, h2⟩ := Option.map_eq_some_iff.1 hf
        subst h2
        have hjK : j < K := by omega
        obtain ⟨⟨a, r1, r2⟩, r3, r4⟩ := (ih j hjK (by omega)).1 p1 h1
        refine ⟨⟨a, .cons st m j p1 0 a h0 (by omega) (by omega) (by omega) r1, r2⟩, by simp [r3], fun p' a' hp hl hle => ?_⟩
        obtain ⟨t, p2, ht, rfl, g1, g2⟩ := hstep p' a' hp
        obtain ⟨x1, e1⟩ := r1.hd
        obtain ⟨x2, e2⟩ := g2.hd
        have hl : p2.length = k := by simpa using hl
        rcases Nat.lt_trichotomy t j with hlt | rfl | hgt
        · have := hbe t (by omega) hlt
          rw [if_neg (show ¬ A st t m < 0 by omega)] at this
          have this := Option.map_eq_none_iff.1 this
          have := (ih t ht g1).2 this p2 a' g2 hl
          omega
        · have := r4 p2 a' g2 hl hle
          simp [lexB, this]
        · subst e1 e2
          have : ¬ ((t : Int) = (j : Int)) := by omega
          have h3 : ¬ ((t : Int) < (j : Int)) := by omega
          simp [lexB, this, h3]
    · obtain ⟨t, p2, ht, rfl, g1, g2⟩ := hstep p' a' hp
      have := fsome_no h t (by omega) (by omega)
      rw [if_neg (show ¬ A st t m < 0 by omega)] at this
      have this := Option.map_eq_none_iff.1 this
      exact (ih t ht g1).2 this p2 a' g2 (by simpa using hl)
end

def RouteP (w : WatchW) (c m : Int) (p : List Int) (a : Int) : Prop := ∃ s : Nat, s < w.n.r.length ∧ hAt w.s w.n.r c m s = true ∧ Rw (alongI w.n.l) w.n.r.length s m p 0 a
theorem heard_some {w : WatchW} {c m : Int} {s : Nat} (hs : s < w.n.r.length) : (gget (heardM w.s w.n.r c m) (s : Int)).isSome = hAt w.s w.n.r c m s := by
  rw [heard_get, Int.toNat_natCast]
  cases h : hAt w.s w.n.r c m s
  · simp
  · simp [hs]
theorem route_rt {w : WatchW} {c m : Int} {p : List Int} {a : Int} (h : RouteP w c m p a) : Rt (alongI w.n.l) w.n.r.length (heardM w.s w.n.r c m) 0 a := by
  obtain ⟨s, h1, h2, h3⟩ := h
  refine h3.rt (.start (s : Int) m (by omega) (by omega) ?_)
  rw [heard_get, Int.toNat_natCast, if_pos ⟨⟨by omega, by omega⟩, h2⟩]
theorem rt_route {w : WatchW} {c m : Int} {a : Int} (h : Rt (alongI w.n.l) w.n.r.length (heardM w.s w.n.r c m) 0 a) : ∃ p, RouteP w c m p a := by
  obtain ⟨s, m', p, h0, h1, h2⟩ := rt_rw h
  have e1 : ((s.toNat : Nat) : Int) = s := by omega
  rw [heard_get] at h1
  split at h1
  · rename_i hc
    have : m' = m := by simpa using h1.symm
    subst this
    exact ⟨p, s.toNat, by omega, hc.2, by rw [e1]; exact h2⟩
  · cases h1
theorem arrives_spec {w : WatchW} (hw : WatchOk w) {c m : Int} (hm : 0 ≤ m ∧ m ≤ 1440) :
    (arrivesI w c m = -1 ∧ ∀ p a, ¬ RouteP w c m p a) ∨ (0 ≤ arrivesI w c m ∧ arrivesI w c m ≤ 1440 ∧ (∃ p, RouteP w c m p (arrivesI w c m)) ∧ ∀ p a, RouteP w c m p a → arrivesI w c m ≤ a) := by
  rcases spread_spec (K := w.n.r.length) (along_ok hw.n) (by have := hw.n.rn; omega) (heard_at w.s w.n.r c hm) with ⟨h1, h2⟩ | ⟨h1, h2, h3, h4⟩
  · exact .inl ⟨h1, fun p a h => h2 a (route_rt h)⟩
  · exact .inr ⟨h1, h2, rt_route h3, fun p a h => h4 a (route_rt h)⟩
theorem along_ge {w : WatchW} (hw : WatchOk w) (s t m : Int) : 0 ≤ alongI w.n.l s t m → m ≤ alongI w.n.l s t m := (alongI_b (fun k hk => (hw.n.l k hk).1) s t m).2.2
theorem arrive_spec {w : WatchW} (hw : WatchOk w) {c m : Int} (hm : 0 ≤ m ∧ m ≤ 1440) (h0 : 0 ≤ arrivesI w c m) :
    ∃ p, arriveR w c m = some p ∧ RouteP w c m p (arrivesI w c m) ∧ ∀ p', RouteP w c m p' (arrivesI w c m) → lessB p' p = false := by
  have hA := along_ok hw.n
  have hK : w.n.r.length ≤ 8 := by have := hw.n.rn; omega
  have hge := along_ge hw
  rcases arrives_spec hw hm (c := c) with ⟨e, _⟩ | ⟨_, _, ⟨p0, s0, i1, i2, i3⟩, hle⟩
  · omega
  obtain ⟨p1, a1, j1, j2, j3⟩ := i3.simple hA hge p0.length (Nat.le_refl _)
  have ha1 : a1 = arrivesI w c m := by
    have := hle p1 a1 ⟨s0, i1, i2, j1⟩
    omega
  subst ha1
  have hlen := nodup_len w.n.r.length p1 j3 (j1.rng ⟨by omega, by omega⟩)
  obtain ⟨x, hx⟩ := j1.hd
  have hpos : 1 ≤ p1.length := by rw [hx]; simp
  have hno : ∀ (q s : Nat), s < w.n.r.length → arrF w c m q s = none → ∀ p' , hAt w.s w.n.r c m s = true → Rw (alongI w.n.l) w.n.r.length s m p' 0 (arrivesI w c m) → p'.length ≠ q + 1 := fun q s hs hn p' hh hp hl => by
    unfold arrF at hn
    rw [heard_some hs, hh, if_pos rfl] at hn
    have := (route_spec hA hK (last := arrivesI w c m) (q + 1) (st := (s : Int)) (m := m) ⟨by omega, by omega⟩ hm).2 hn p' _ hp hl
    omega
  cases har : arriveR w c m with
  | none =>
    exfalso
    unfold arriveR at har
    have h1 := fsome_no har (p1.length - 1) (by omega) (by omega)
    have h2 := fsome_no h1 s0 (by omega) (by omega)
    exact hno _ s0 i1 h2 p1 i2 j1 (by omega)
  | some p =>
    refine ⟨p, rfl, ?_⟩
    unfold arriveR at har
    obtain ⟨q, _, hq, hf, hbq⟩ := fsome_ex har
    obtain ⟨s, _, hs, hf2, hbs⟩ := fsome_ex hf
    have hf3 := hf2
    unfold arrF at hf3
    split at hf3
    · rename_i hh
      rw [heard_some (by omega)] at hh
      obtain ⟨⟨a, r1, r2⟩, r3, r4⟩ := (route_spec hA hK (last := arrivesI w c m) (q + 1) (st := (s : Int)) (m := m) ⟨by omega, by omega⟩ hm).1 p hf3
      have hR : RouteP w c m p a := ⟨s, by omega, hh, r1⟩
      have ha : a = arrivesI w c m := by
        have := hle p a hR
        omega
      subst ha
      refine ⟨hR, ?_⟩
      rintro p' ⟨s', k1, k2, k3⟩
      obtain ⟨x', hx'⟩ := k3.hd
      obtain ⟨y, hy⟩ := r1.hd
      unfold lessB
      by_cases hl : p'.length = p.length
      · rw [if_pos hl]
        rcases Nat.lt_trichotomy s' s with hlt | rfl | hgt
        · exact absurd (by omega) (hno q s' k1 (hbs s' (by omega) hlt) p' k2 k3)
        · exact r4 p' _ k3 (by omega) (Int.le_refl _)
        · subst hx' hy
          have e1 : ¬ ((s' : Int) = (s : Int)) := by omega
          have e2 : ¬ ((s' : Int) < (s : Int)) := by omega
          simp [lexB, e1, e2]
      · rw [if_neg hl]
        simp only [decide_eq_false_iff_not, Nat.not_lt]
        refine Classical.byContradiction fun hc => ?_
        have hp' : 1 ≤ p'.length := by rw [hx']; simp
        have h1 := hbq (p'.length - 1) (by omega) (by omega)
        have h2 := fsome_no h1 s' (by omega) (by omega)
        exact hno _ s' k1 h2 p' k2 k3 (by omega)
    · cases hf3
end Go.Sx
