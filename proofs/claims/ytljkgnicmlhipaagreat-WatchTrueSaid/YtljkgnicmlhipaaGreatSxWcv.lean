/- Own work: a calculus of contracts for the programs of this kit: parts SxW9v, SxW10v, SxW11v, SxW12v. -/
import Derived.Test.YtljkgnicmlhipaaGreatSxWbv
import Derived.Test.YtljkgnicmlhipaaGreatSxMi
set_option linter.unusedVariables false
set_option linter.unusedSimpArgs false
namespace Go.Sx
set_option maxRecDepth 10000

theorem mnL_mono {vs us : List Int} (hv : ∀ v ∈ vs, 0 ≤ v) (hu : ∀ u ∈ us, 0 ≤ u) (h : ∀ u ∈ us, ∃ v ∈ vs, v ≤ u) (h0 : 0 ≤ mnL us) : 0 ≤ mnL vs ∧ mnL vs ≤ mnL us := by
 rcases mnL_spec us hu with ⟨_, e⟩ | ⟨m2, _⟩
 ·omega
 ·obtain ⟨v, q1, q2⟩ := h _ m2
  rcases mnL_spec vs hv with ⟨e, _⟩ | ⟨m1, k1⟩
  ·rw [e] at q1; simp at q1
  ·exact ⟨hv _ m1, Int.le_trans (k1 v q1) q2⟩
theorem fstI_mono {l : List (Int × Int)} (h : SpOk l) {m m' : Int} (hm : m ≤ m') (h0 : 0 ≤ fstI l m') : 0 ≤ fstI l m ∧ fstI l m ≤ fstI l m' := by
 refine mnL_mono (fun v hv => (cand_b h m v hv).1) (fun v hv => (cand_b h m' v hv).1) (fun u hu => ?_) h0
 obtain ⟨s, hs, e⟩ := List.mem_filterMap.1 hu
 unfold cand at e
 split at e
 ·cases e
  exact ⟨max s.1 m, List.mem_filterMap.2 ⟨s, hs, by rw [cand, if_pos (by omega)]⟩, by omega⟩
 ·cases e
theorem alongI_mono {ls : List LinkW} (h : ∀ k ∈ ls, LnkOk k) (f t : Int) {m m' : Int} (hm : m ≤ m') (h0 : 0 ≤ alongI ls f t m') : 0 ≤ alongI ls f t m ∧ alongI ls f t m ≤ alongI ls f t m' := by
 refine mnL_mono (fun v hv => (acand_b h f t m v hv).1) (fun v hv => (acand_b h f t m' v hv).1) (fun u hu => ?_) h0
 obtain ⟨k, hk, e⟩ := List.mem_filterMap.1 hu
 unfold acand at e
 split at e
 ·rename_i hft
  split at e
  ·rename_i hc
   cases e
   have := fstI_mono (h k hk).o hm hc.1
   exact ⟨fstI k.l m + k.d, List.mem_filterMap.2 ⟨k, hk, by rw [acand, if_pos hft, if_pos (by omega)]⟩, by omega⟩
  ·cases e
 ·cases e
theorem alongI_b {ls : List LinkW} (h : ∀ k ∈ ls, LnkOk k) (f t m : Int) : -1 ≤ alongI ls f t m ∧ alongI ls f t m ≤ 1440 ∧ (0 ≤ alongI ls f t m → m ≤ alongI ls f t m) := by
 rcases mnL_spec (ls.filterMap (acand f t m)) (fun v hv => (acand_b h f t m v hv).1) with ⟨_, e⟩ | ⟨e, _⟩
 ·have : alongI ls f t m = -1 := e
  omega
 ·have := acand_b h f t m _ e
  have e2 : mnL (ls.filterMap (acand f t m)) = alongI ls f t m := rfl
  rw [e2] at this
  omega
theorem alongI_self {ls : List LinkW} (h : ∀ k ∈ ls, LnkOk k) (hne : ∀ k ∈ ls, k.f ≠ k.t) (f m : Int) : alongI ls f f m < 0 := by
 have e : ls.filterMap (acand f f m) = [] := List.filterMap_eq_nil_iff.2 fun k hk => by
  rw [acand, if_neg fun q => hne k hk (q.1.trans q.2.symm)]
 unfold alongI
 rw [e]; decide

abbrev MpI := MpG Int
structure AOk (A : Int → Int → Int → Int) : Prop where
 le : ∀ s t m, A s t m ≤ 1440
 self : ∀ s m, A s s m < 0
 mono : ∀ s t m m', m ≤ m' → 0 ≤ A s t m' → 0 ≤ A s t m ∧ A s t m ≤ A s t m'
def relS (A : Int → Int → Int → Int) (s : Int) (st : MpI × List Int) (to : Nat) : MpI × List Int :=
 if 0 ≤ A s to ((gget st.1 s).getD 0) ∧ (gget st.1 to = none ∨ A s to ((gget st.1 s).getD 0) < (gget st.1 to).getD 0) then (gput st.1 to (A s to ((gget st.1 s).getD 0)), st.2 ++ [(to : Int)]) else st
def sprF (A : Int → Int → Int → Int) (K : Nat) : Nat → MpI × List Int → MpI × List Int
 | 0, st => st
 | n + 1, st => match st.2 with
  | [] => st
  | s :: q => if s = 0 then sprF A K n (st.1, q) else sprF A K n ((List.range K).foldl (relS A s) (st.1, q))
def ini0 (at0 : MpI) (st : MpI × List Int) (s : Nat) : MpI × List Int := match gget at0 s with | some t => (gput st.1 s t, st.2 ++ [(s : Int)]) | none => st
def FUEL : Nat := 900000
def sprM (A : Int → Int → Int → Int) (K : Nat) (at0 : MpI) : MpI := (sprF A K FUEL ((List.range K).foldl (ini0 at0) ([], []))).1
def spreadI (A : Int → Int → Int → Int) (K : Nat) (at0 : MpI) : Int := (gget (sprM A K at0) 0).getD (-1)
inductive Rt (A : Int → Int → Int → Int) (K : Nat) (at0 : MpI) : Int → Int → Prop
 | start (s t : Int) : 0 ≤ s → s < (K : Int) → gget at0 s = some t → Rt A K at0 s t
 | step (s t to : Int) : Rt A K at0 s t → s ≠ 0 → 0 ≤ to → to < (K : Int) → 0 ≤ A s to t → Rt A K at0 to (A s to t)

def sumTo (f : Nat → Nat) : Nat → Nat
 | 0 => 0
 | n + 1 => sumTo f n + f n
theorem sumTo_congr {f g : Nat → Nat} : ∀ (n : Nat), (∀ j, j < n → g j = f j) → sumTo g n = sumTo f n
 | 0, _ => rfl
 | n + 1, h => by simp only [sumTo]; rw [sumTo_congr n fun j hj => h j (by omega), h n (by omega)]
theorem sumTo_upd {f g : Nat → Nat} {i : Nat} : ∀ (n : Nat), i < n → (∀ j, j ≠ i → g j = f j) → sumTo g n + f i = sumTo f n + g i
 | 0, h, _ => by omega
 | n + 1, h, hg => by
  simp only [sumTo]
  by_cases e : i = n
  ·subst e
   rw [sumTo_congr i fun j hj => hg j (by omega)]; omega
  ·have := sumTo_upd n (by omega) hg
   rw [hg n (by omega)]; omega
theorem sumTo_le {f : Nat → Nat} {b : Nat} (h : ∀ j, f j ≤ b) : ∀ n, sumTo f n ≤ n * b
 | 0 => by simp [sumTo]
 | n + 1 => by have := sumTo_le h n; have := h n; simp only [sumTo, Nat.add_mul]; omega
def wgt : Option Int → Nat
 | none => 3000
 | some v => v.toNat
def phiS (K : Nat) (m : MpI) : Nat := sumTo (fun k => wgt (gget m (k : Int))) K
theorem phiS_put {K : Nat} (m : MpI) {i : Nat} (hi : i < K) (v : Int) : phiS K (gput m i v) + wgt (gget m i) = phiS K m + v.toNat := by
 have := sumTo_upd (f := fun j => wgt (gget m (j : Int))) (g := fun j => wgt (gget (gput m i v) (j : Int))) (i := i) K hi fun j hj => by
  simp only [gget_put]; rw [if_neg (by omega)]
 simp only [gget_put, if_true] at this
 unfold phiS
 simp only [gget_put]
 exact this
def Cls (A : Int → Int → Int → Int) (K : Nat) (M : MpI) (s v : Int) : Prop := ∀ to : Nat, to < K → 0 ≤ A s to v → ∃ v', gget M to = some v' ∧ v' ≤ A s to v
structure SprOk (A : Int → Int → Int → Int) (K : Nat) (at0 : MpI) (ex : Option Int) (st : MpI × List Int) : Prop where
 key : ∀ k v, gget st.1 k = some v → (0 ≤ k ∧ k < (K : Int)) ∧ 0 ≤ v ∧ v ≤ 1440
 q : ∀ c ∈ st.2, ∃ v, gget st.1 c = some v
 rt : ∀ k v, gget st.1 k = some v → Rt A K at0 k v
 cl : ∀ s v, gget st.1 s = some v → s ≠ 0 → ex ≠ some s → s ∈ st.2 ∨ Cls A K st.1 s v
 ini : ∀ s : Nat, s < K → ∀ t, gget at0 s = some t → ∃ v, gget st.1 s = some v ∧ v ≤ t
theorem gput_le {M : MpI} {to : Nat} {t : Int} (h : ∀ v, gget M to = some v → t ≤ v) {k u : Int} (hk : ∃ v, gget M k = some v ∧ v ≤ u) : ∃ v, gget (gput M to t) k = some v ∧ v ≤ u := by
 obtain ⟨v, h1, h2⟩ := hk
 rw [gget_put]
 by_cases e : k = to
 ·subst e; rw [if_pos rfl]; exact ⟨t, rfl, Int.le_trans (h v h1) h2⟩
 ·rw [if_neg e]; exact ⟨v, h1, h2⟩
theorem rel_ok {A : Int → Int → Int → Int} (hA : AOk A) {K : Nat} {at0 : MpI} {s : Int} (hs0 : s ≠ 0) {st : MpI × List Int} (h : SprOk A K at0 (some s) st) {v : Int} (hv : gget st.1 s = some v) {to : Nat} (hto : to < K) :
  SprOk A K at0 (some s) (relS A s st to) ∧ gget (relS A s st to).1 s = some v ∧ (∀ k u, (∃ v, gget st.1 k = some v ∧ v ≤ u) → ∃ v, gget (relS A s st to).1 k = some v ∧ v ≤ u) ∧
  (0 ≤ A s to v → ∃ v', gget (relS A s st to).1 to = some v' ∧ v' ≤ A s to v) ∧ 2 * phiS K (relS A s st to).1 + (relS A s st to).2.length ≤ 2 * phiS K st.1 + st.2.length := by
 unfold relS
 rw [hv]
 simp only [Option.getD_some]
 split
 ·rename_i hc
  obtain ⟨c1, c2⟩ := hc
  have hne : s ≠ (to : Int) := fun e => by rw [← e] at c1; have := hA.self s v; omega
  have hold : ∀ u, gget st.1 to = some u → A s to v ≤ u := fun u hu => by
   rcases c2 with c2 | c2
   ·rw [c2] at hu; cases hu
   ·rw [hu] at c2; simp at c2; omega
  have hput : ∀ k u, (∃ v, gget st.1 k = some v ∧ v ≤ u) → ∃ v', gget (gput st.1 to (A s to v)) k = some v' ∧ v' ≤ u := fun k u hk => gput_le hold hk
  have hp := phiS_put st.1 hto (A s to v)
  refine ⟨⟨fun k u hu => ?_, fun c hc => ?_, fun k u hu => ?_, fun x u hu hx0 hxs => ?_, fun x hx t ht => hput _ _ (h.ini x hx t ht)⟩, ?_, hput, fun _ => ⟨A s to v, by rw [gget_put, if_pos rfl], Int.le_refl _⟩, ?_⟩
  ·simp only at hu
   rw [gget_put] at hu
   split at hu
   ·rename_i e; subst e; cases hu; exact ⟨⟨by omega, by omega⟩, c1, hA.le _ _ _⟩
   ·exact h.key k u hu
  ·simp only [gget_put]
   split
   ·exact ⟨_, rfl⟩
   ·rcases List.mem_append.1 hc with hc | hc
    ·exact h.q c hc
    ·simp at hc; contradiction
  ·simp only at hu
   rw [gget_put] at hu
   split at hu
   ·rename_i e; subst e; cases hu
    exact .step s v to (h.rt s v hv) hs0 (by omega) (by omega) c1
   ·exact h.rt k u hu
  ·simp only at hu ⊢
   rw [gget_put] at hu
   split at hu
   ·rename_i e; subst e; exact .inl (by simp)
   ·rcases h.cl x u hu hx0 hxs with hq | hcl
    ·exact .inl (by simp [hq])
    ·exact .inr fun t' ht' h0 => hput _ _ (hcl t' ht' h0)
  ·simp only; rw [gget_put, if_neg hne]; exact hv
  ·simp only [List.length_append, List.length_singleton]
   cases hg : gget st.1 to with
   | none =>
    have := hA.le s to v
    rw [hg] at hp; simp only [wgt] at hp
    omega
   | some u =>
    have hu := h.key _ _ hg
    rcases c2 with c2 | c2
    ·rw [hg] at c2; cases c2
    ·rw [hg] at hp c2; simp only [wgt, Option.getD_some] at hp c2
     omega
 ·rename_i hc
  refine ⟨h, hv, fun _ _ h => h, fun h0 => ?_, Nat.le_refl _⟩
  cases hg : gget st.1 to with
  | none => exact absurd ⟨h0, .inl hg⟩ hc
  | some u =>
   refine ⟨u, rfl, ?_⟩
   rcases Int.lt_or_le (A s to v) u with hlt | hge
   ·exact absurd ⟨h0, .inr (by rw [hg]; exact hlt)⟩ hc
   ·exact hge
theorem rel_all {A : Int → Int → Int → Int} (hA : AOk A) {K : Nat} {at0 : MpI} {s : Int} (hs0 : s ≠ 0) {v : Int} : ∀ (l : List Nat) {st : MpI × List Int}, SprOk A K at0 (some s) st → gget st.1 s = some v → (∀ to ∈ l, to < K) →
  SprOk A K at0 (some s) (l.foldl (relS A s) st) ∧ gget (l.foldl (relS A s) st).1 s = some v ∧ (∀ k u, (∃ v, gget st.1 k = some v ∧ v ≤ u) → ∃ v, gget (l.foldl (relS A s) st).1 k = some v ∧ v ≤ u) ∧
  (∀ to ∈ l, 0 ≤ A s to v → ∃ v', gget (l.foldl (relS A s) st).1 to = some v' ∧ v' ≤ A s to v) ∧ 2 * phiS K (l.foldl (relS A s) st).1 + (l.foldl (relS A s) st).2.length ≤ 2 * phiS K st.1 + st.2.length
 | [], st, h, hv, _ => ⟨h, hv, fun _ _ h => h, by simp, Nat.le_refl _⟩
 | to :: l, st, h, hv, hl => by
  obtain ⟨a1, a2, a3, a4, a5⟩ := rel_ok hA hs0 h hv (hl to (by simp))
  obtain ⟨b1, b2, b3, b4, b5⟩ := rel_all hA hs0 l a1 a2 fun t ht => hl t (by simp [ht])
  refine ⟨b1, b2, fun k u hk => b3 k u (a3 k u hk), fun t ht h0 => ?_, Nat.le_trans b5 a5⟩
  rcases List.mem_cons.1 ht with rfl | ht
  ·exact b3 _ _ (a4 h0)
  ·exact b4 t ht h0
theorem SprOk.pop {A : Int → Int → Int → Int} {K : Nat} {at0 : MpI} {M : MpI} {s : Int} {q : List Int} (h : SprOk A K at0 none (M, s :: q)) : SprOk A K at0 (some s) (M, q) :=
 ⟨h.key, fun c hc => h.q c (by simp [hc]), h.rt, fun x v hx h0 hne => by
  rcases h.cl x v hx h0 (by simp) with hq | hc
  ·rcases List.mem_cons.1 hq with rfl | hq
   ·exact absurd rfl hne
   ·exact .inl hq
  ·exact .inr hc, h.ini⟩
theorem SprOk.seald {A : Int → Int → Int → Int} {K : Nat} {at0 : MpI} {st : MpI × List Int} {s : Int} (h : SprOk A K at0 (some s) st) (hc : s = 0 ∨ ∃ v, gget st.1 s = some v ∧ Cls A K st.1 s v) : SprOk A K at0 none st :=
 ⟨h.key, h.q, h.rt, fun x v hx h0 _ => by
  by_cases e : x = s
  ·subst e
   rcases hc with hc | ⟨v', h1, h2⟩
   ·exact absurd hc h0
   ·rw [h1] at hx; cases hx; exact .inr h2
  ·exact h.cl x v hx h0 fun q => e (Option.some.inj q).symm, h.ini⟩
theorem spr_step {A : Int → Int → Int → Int} (hA : AOk A) {K : Nat} {at0 : MpI} {M : MpI} {s : Int} {q : List Int} (h : SprOk A K at0 none (M, s :: q)) (hs0 : s ≠ 0) :
  SprOk A K at0 none ((List.range K).foldl (relS A s) (M, q)) ∧ 2 * phiS K ((List.range K).foldl (relS A s) (M, q)).1 + ((List.range K).foldl (relS A s) (M, q)).2.length ≤ 2 * phiS K M + q.length := by
 obtain ⟨v, hv⟩ := h.q s (by simp)
 obtain ⟨a1, a2, _, a4, a5⟩ := rel_all hA hs0 (v := v) (List.range K) h.pop hv fun t ht => List.mem_range.1 ht
 exact ⟨a1.seald (.inr ⟨v, a2, fun t ht => a4 t (List.mem_range.2 ht)⟩), a5⟩
theorem spr_run {A : Int → Int → Int → Int} (hA : AOk A) {K : Nat} {at0 : MpI} : ∀ (n : Nat) (st : MpI × List Int), SprOk A K at0 none st → 2 * phiS K st.1 + st.2.length < n → SprOk A K at0 none (sprF A K n st) ∧ (sprF A K n st).2 = []
 | 0, st, _, h => by omega
 | n + 1, (M, []), h, _ => ⟨h, rfl⟩
 | n + 1, (M, s :: q), h, hn => by
  simp only [sprF]
  simp only [List.length_cons] at hn
  by_cases e : s = 0
  ·rw [if_pos e]
   exact spr_run hA n _ (h.pop.seald (.inl e)) (by simp only; omega)
  ·rw [if_neg e]
   obtain ⟨a, b⟩ := spr_step hA h e
   exact spr_run hA n _ a (by omega)
end Go.Sx

namespace Go.Sx
set_option maxRecDepth 10000

def AtOk (at0 : MpI) : Prop := ∀ k v, gget at0 k = some v → 0 ≤ v ∧ v ≤ 1440
structure InO (at0 : MpI) (i : Nat) (st : MpI × List Int) : Prop where
 key : ∀ k v, gget st.1 k = some v → (0 ≤ k ∧ k < (i : Int)) ∧ gget at0 k = some v
 all : ∀ s : Nat, s < i → ∀ t, gget at0 s = some t → gget st.1 s = some t
 q : ∀ c ∈ st.2, ∃ v, gget st.1 c = some v
 inq : ∀ k v, gget st.1 k = some v → k ∈ st.2
 len : st.2.length ≤ i
theorem inO_step {at0 : MpI} {i : Nat} {st : MpI × List Int} (h : InO at0 i st) : InO at0 (i + 1) (ini0 at0 st i) := by
 unfold ini0
 cases hg : gget at0 i with
 | none =>
  refine ⟨fun k v hk => ⟨⟨(h.key k v hk).1.1, by have := (h.key k v hk).1.2; omega⟩, (h.key k v hk).2⟩, fun s hs t ht => ?_, h.q, h.inq, by have := h.len; simp only; omega⟩
  by_cases e : s = i
  ·subst e; rw [hg] at ht; cases ht
  ·exact h.all s (by omega) t ht
 | some t0 =>
  refine ⟨fun k v hk => ?_, fun s hs t ht => ?_, fun c hc => ?_, fun k v hk => ?_, by have := h.len; simp only [List.length_append, List.length_singleton]; omega⟩
  ·simp only at hk
   rw [gget_put] at hk
   split at hk
   ·rename_i e; subst e; cases hk; exact ⟨⟨by omega, by omega⟩, hg⟩
   ·exact ⟨⟨(h.key k v hk).1.1, by have := (h.key k v hk).1.2; omega⟩, (h.key k v hk).2⟩
  ·simp only
   rw [gget_put]
   by_cases e : s = i
   ·subst e; rw [if_pos rfl, ← hg, ht]
   ·rw [if_neg (by omega)]; exact h.all s (by omega) t ht
  ·simp only
   rw [gget_put]
   split
   ·exact ⟨_, rfl⟩
   ·rcases List.mem_append.1 hc with hc | hc
    ·exact h.q c hc
    ·simp at hc; contradiction
  ·simp only at hk ⊢
   rw [gget_put] at hk
   split at hk
   ·rename_i e; subst e; simp
   ·exact List.mem_append_left _ (h.inq k v hk)
theorem inO_all (at0 : MpI) : ∀ i : Nat, InO at0 i ((List.range i).foldl (ini0 at0) ([], []))
 | 0 => ⟨fun k v h => by simp [gget] at h, fun s hs => by omega, by simp, fun k v h => by simp [gget] at h, by simp⟩
 | i + 1 => by
  rw [List.range_succ, List.foldl_append]
  exact inO_step (inO_all at0 i)
theorem InO.spr {A : Int → Int → Int → Int} {at0 : MpI} (ha : AtOk at0) {K : Nat} {st : MpI × List Int} (h : InO at0 K st) : SprOk A K at0 none st :=
 ⟨fun k v hk => ⟨(h.key k v hk).1, ha k v (h.key k v hk).2⟩, h.q, fun k v hk => .start k v (h.key k v hk).1.1 (h.key k v hk).1.2 (h.key k v hk).2, fun s v hs _ _ => .inl (h.inq s v hs), fun s hs t ht => ⟨t, h.all s hs t ht, Int.le_refl _⟩⟩
theorem phiS_le {K : Nat} (hK : K ≤ 8) {M : MpI} (h : ∀ k v, gget M k = some v → v ≤ 1440) : phiS K M ≤ 24000 := by
 have := sumTo_le (f := fun k => wgt (gget M (k : Int))) (b := 3000) (fun j => by
  cases hj : gget M (j : Int) with
  | none => simp [wgt]
  | some v => have := h _ _ hj; simp only [wgt]; omega) K
 unfold phiS; omega
theorem spr_end {A : Int → Int → Int → Int} (hA : AOk A) {K : Nat} (hK : K ≤ 8) {at0 : MpI} (ha : AtOk at0) : SprOk A K at0 none (sprM A K at0, []) := by
 have h0 : SprOk A K at0 none ((List.range K).foldl (ini0 at0) ([], [])) := (inO_all at0 K).spr ha
 have hp := phiS_le hK (M := ((List.range K).foldl (ini0 at0) ([], [])).1) fun k v hk => (h0.key k v hk).2.2
 have hl := (inO_all at0 K).len
 obtain ⟨a, b⟩ := spr_run hA FUEL _ h0 (by simp only [FUEL]; omega)
 unfold sprM
 generalize sprF A K FUEL ((List.range K).foldl (ini0 at0) ([], [])) = r at *
 obtain ⟨r1, r2⟩ := r
 simp only at b
 subst b
 exact a
theorem spr_least {A : Int → Int → Int → Int} (hA : AOk A) {K : Nat} {at0 M : MpI} (h : SprOk A K at0 none (M, [])) {k t : Int} (hr : Rt A K at0 k t) : ∃ v, gget M k = some v ∧ v ≤ t := by
 induction hr with
 | start s t h1 h2 h3 =>
  have := h.ini s.toNat (by omega) t (by rw [Int.toNat_of_nonneg h1]; exact h3)
  rwa [Int.toNat_of_nonneg h1] at this
 | step s t to _ h0 h1 h2 h3 ih =>
  obtain ⟨v, hv, hle⟩ := ih
  obtain ⟨m1, m2⟩ := hA.mono s to v t hle h3
  rcases h.cl s v hv h0 (by simp) with hq | hc
  ·simp at hq
  ·obtain ⟨v', e1, e2⟩ := hc to.toNat (by omega) (by rw [Int.toNat_of_nonneg h1]; exact m1)
   rw [Int.toNat_of_nonneg h1] at e1 e2
   exact ⟨v', e1, Int.le_trans e2 m2⟩
theorem spread_spec {A : Int → Int → Int → Int} (hA : AOk A) {K : Nat} (hK : K ≤ 8) {at0 : MpI} (ha : AtOk at0) :
  (spreadI A K at0 = -1 ∧ ∀ t, ¬ Rt A K at0 0 t) ∨ (0 ≤ spreadI A K at0 ∧ spreadI A K at0 ≤ 1440 ∧ Rt A K at0 0 (spreadI A K at0) ∧ ∀ t, Rt A K at0 0 t → spreadI A K at0 ≤ t) := by
 have h := spr_end hA hK ha
 unfold spreadI
 cases hg : gget (sprM A K at0) 0 with
 | none =>
  left
  refine ⟨rfl, fun t ht => ?_⟩
  obtain ⟨v, hv, _⟩ := spr_least hA h ht
  rw [hg] at hv; cases hv
 | some v =>
  right
  have := h.key 0 v hg
  refine ⟨this.2.1, this.2.2, h.rt 0 v hg, fun t ht => ?_⟩
  obtain ⟨v', hv, hle⟩ := spr_least hA h ht
  rw [hg] at hv; cases hv
  exact hle
theorem spread_eq {A : Int → Int → Int → Int} (hA : AOk A) {K : Nat} (hK : K ≤ 8) {at0 : MpI} (ha : AtOk at0) {u : Int} (h : (u < 0 → u = -1) ∧ (u < 0 → ∀ t, ¬ Rt A K at0 0 t) ∧ (0 ≤ u → Rt A K at0 0 u ∧ ∀ t, Rt A K at0 0 t → u ≤ t)) : spreadI A K at0 = u := by
 obtain ⟨h1, h2, h3⟩ := h
 rcases spread_spec hA hK ha with ⟨e, n⟩ | ⟨e0, _, r, l⟩
 ·rcases Int.lt_or_le u 0 with hu | hu
  ·rw [e, h1 hu]
  ·exact absurd (h3 hu).1 (n u)
 ·rcases Int.lt_or_le u 0 with hu | hu
  ·exact absurd r (h2 hu _)
  ·have := l u (h3 hu).1
   have := (h3 hu).2 _ r
   omega
theorem along_ok {s : SkyW} {n : NetW} (h : NetOk s n) : AOk (alongI n.l) :=
 have hl := fun k hk => (h.l k hk).1
 ⟨fun f t m => (alongI_b hl f t m).2.1, fun f m => alongI_self hl (fun k hk => (h.l k hk).2.2.2) f m, fun f t m m' hm h0 => alongI_mono hl f t hm h0⟩
end Go.Sx

namespace Go.Sx
open Go.Proofs
set_option maxRecDepth 10000
def intL (l : List Int) : List (List D) := l.map enI.d
theorem intL_len (l : List Int) : (intL l).length = l.length := by simp [intL]
theorem intL_app (a b : List Int) : intL (a ++ b) = intL a ++ intL b := by simp [intL]
theorem intL_get {l : List Int} {i : Nat} {x : Int} (h : l[i]? = some x) : (intL l)[i]? = some [.int .i64 x] := by simp [intL, h, enI]
theorem intL_ok (l : List Int) : okSrc 1 (intL l) = true := by
 unfold okSrc intL
 rw [List.all_eq_true]
 intro e he
 obtain ⟨x, _, rfl⟩ := List.mem_map.1 he
 rfl
theorem oI_len {h : H} {b n : Nat} {l : List Int} (hb : hget h b = some (.arr 3 1 (intL l))) (hn : l.length = n) : lenOpD Tryz.prog h 29 (.osl b n) = some (.int .i64 n) :=
 own_len Fz.und_29 hb (by rw [intL_len, hn])
theorem oI_ix {h : H} {b n : Nat} {l : List Int} (hb : hget h b = some (.arr 3 1 (intL l))) (hn : l.length = n) {i : Nat} (hi : i < n) : indexAddrD Tryz.prog h 29 (.osl b n) (.int .i64 (i : Int)) = some (.eptr b n 1 i 0) :=
 own_ix Fz.und_29 Fz.size_3 hb (by rw [intL_len, hn]) hi .i64
theorem oI_load {h : H} {b n : Nat} {l : List Int} (hb : hget h b = some (.arr 3 1 (intL l))) (hn : l.length = n) {i : Nat} {x : Int} (hx : l[i]? = some x) : loadAtD Tryz.prog h 3 (.eptr b n 1 i 0) = some (.int .i64 x) := by
 rw [own_load hb (by rw [intL_len, hn]) (intL_get hx) 0]
 exact loadD_one Fz.agg_3 Fz.size_3 _ _ |>.trans rfl
theorem oI_store {h : H} {b n : Nat} {l : List Int} (hb : hget h b = some (.arr 3 1 (intL l))) (hn : l.length = n) {i : Nat} {x : Int} (hx : l[i]? = some x) (nid : Nat) (y : Int) :
  storeD Tryz.prog h nid 3 (.eptr b n 1 i 0) (.int .i64 y) = some (.any, hset h b (.arr 3 1 (intL (l.set i y))), nid) := by
 rw [own_store (ds := [.int .i64 y]) hb (by rw [intL_len, hn]) (intL_get hx) 0 nid Fz.size_3 rfl rfl (by omega) rfl rfl]
 simp [intL, List.map_set, enI, putL]
theorem oI_app {h : H} {b n b2 n2 : Nat} {l r : List Int} (hb : hget h b = some (.arr 3 1 (intL l))) (hn : l.length = n) (hb2 : hget h b2 = some (.arr 3 1 (intL r))) (hn2 : r.length = n2) (nid : Nat) (hc : l.length + r.length ≤ 1000000000000) :
  appE Tryz.prog h nid 29 29 (.osl b n) (.osl b2 n2) = some (.osl b (n + n2), hset h b (.arr 3 1 (intL (l ++ r))), nid) := by
 rw [app_osl Fz.und_29 Fz.size_3 Fz.zero_3 rfl (by omega) Fz.bytes_3_29 h nid b n b2 n2 hb (by rw [intL_len, hn]) hb2 (by rw [intL_len, hn2]) (intL_ok r) (by rw [intL_len, intL_len]; omega) (by rw [intL_len, intL_len]; omega), intL_app, intL_len, intL_len, hn, hn2]
theorem oI_appD {h : H} {b n : Nat} {l r : List Int} (hb : hget h b = some (.arr 3 1 (intL l))) (hn : l.length = n) (nid : Nat) (hc : l.length + r.length ≤ 1000000000000) :
  appE Tryz.prog h nid 29 29 (.osl b n) (.sl (intL r)) = some (.osl b (n + r.length), hset h b (.arr 3 1 (intL (l ++ r))), nid) := by
 rw [app_sl Fz.und_29 Fz.size_3 Fz.zero_3 rfl (by omega) Fz.bytes_3_29 h nid b n hb (by rw [intL_len, hn]) (intL_ok r) (by rw [intL_len, intL_len]; omega) (by rw [intL_len, intL_len]; omega), intL_app, intL_len, intL_len, hn]
theorem lit_1 (h : H) (nid : Nat) (a : Int) : litOpD Tryz.prog h nid 29 1 [(0, .int .i64 a)] = some (.osl nid 1, (nid, .arr 3 1 (intL [a])) :: h, nid + 1) := by kernel_rfl
theorem oI_tail {h : H} {b n : Nat} {x : Int} {l : List Int} (hb : hget h b = some (.arr 3 1 (intL (x :: l)))) (hn : (x :: l).length = n) (nid : Nat) : sliceO Tryz.prog h nid 29 b n (some (.int .i64 1)) none = some (.osl nid (n - 1), (nid, .arr 3 1 (intL l)) :: herase h b, nid + 1) := by
 subst hn
 have h1 : (1 : Int) ≤ (l.length : Int) + 1 := by omega
 have h2 : (List.map enI.d l).take l.length = List.map enI.d l := List.take_of_length_le (by simp)
 simp [sliceO, Fz.und_29, hb, Fz.size_3, boundD, intL, h1, h2]
theorem oI_ix0 {h : H} {b n : Nat} {l : List Int} (hb : hget h b = some (.arr 3 1 (intL l))) (hn : l.length = n) (hi : 0 < n) : indexAddrD Tryz.prog h 29 (.osl b n) (.int .i64 0) = some (.eptr b n 1 0 0) := oI_ix (i := 0) hb hn hi
def vI (x : Int) : D := .int .i64 x
abbrev atD (m : MpI) : List (D × D) := gkv vI m
theorem vI_lt (k : Nat) (m : MpI) : D.ltL k ((atD m).map (·.2)) = true := gkv_lt (fun _ _ => rfl) k m
theorem valG_int (o : Option Int) : valG vI (.int .i64 0) o = .int .i64 (o.getD 0) := by cases o <;> rfl
theorem at_view (m : MpI) (h : H) (b : Nat) (hb : hget h b = some (.map (atD m))) : view h (.mp b) = .mpd (atD m) := by
 simp only [view, hb]
 rw [if_pos (vI_lt 0 m)]
theorem und_at : Program.underlying Tryz.prog 93 = some (.map 3 3) := by kernel_rfl
theorem atD_nil : atD [] = [] := rfl
theorem at_zero : zeroV Tryz.prog 3 = some (.int .i64 0) := by kernel_rfl
theorem am_look {h : H} {b : Nat} {m : MpI} (hb : hget h b = some (.map (atD m))) (k : Int) : lookupD Tryz.prog h 93 (.mp b) (.int .i64 k) true = some (.tup [.int .i64 ((gget m k).getD 0), .bool (gget m k).isSome]) := by
 rw [gm_look und_at w_und_i at_zero hb, valG_int]
theorem am_get {h : H} {b : Nat} {m : MpI} (hb : hget h b = some (.map (atD m))) (k : Int) : lookupD Tryz.prog h 93 (.mp b) (.int .i64 k) false = some (.int .i64 ((gget m k).getD 0)) := by
 rw [gm_get und_at w_und_i at_zero hb, valG_int]
theorem ad_look (h : H) (m : MpI) (k : Int) : lookupD Tryz.prog h 93 (.mpd (atD m)) (.int .i64 k) true = some (.tup [.int .i64 ((gget m k).getD 0), .bool (gget m k).isSome]) := by
 rw [gd_look und_at w_und_i h m at_zero, valG_int]
theorem am_put {h : H} {b : Nat} {m : MpI} (hb : hget h b = some (.map (atD m))) (nid : Nat) (k x : Int) : mapUpdD Tryz.prog h nid 93 (.mp b) (.int .i64 k) (.int .i64 x) = some (.any, hset h b (.map (atD (gput m k x))), nid) :=
 gm_put und_at w_und_i hb nid k x rfl rfl
def hrd (s : SkyW) (rl : List RelayW) (c m : Int) (M : MpI) (i : Nat) : MpI := match rl[i]? with | some r => if hearsB s r c m then gput M i m else M | none => M
def heardM (s : SkyW) (rl : List RelayW) (c m : Int) : MpI := (List.range rl.length).foldl (hrd s rl c m) []
noncomputable def gHears : List D → Option D := orcF (fun p : SkyW × RelayW × Int × Int => SkyOk p.1 ∧ RelOk p.1 p.2.1 ∧ InS p.1 p.2.2.1 ∧ 0 ≤ p.2.2.2) (fun p => [.agg p.1.c, .agg (enRl.d p.2.1), .int .i64 p.2.2.1, .int .i64 p.2.2.2]) (fun p => .bool (hearsB p.1 p.2.1 p.2.2.1 p.2.2.2))
theorem En.d_inj {α : Type} (E : En α) {a b : α} (h : E.d a = E.d b) : a = b := by
 have := E.h1 a
 rw [h, E.h1] at this
 exact (Option.some.inj this).symm
theorem gHears_eq {s : SkyW} (hs : SkyOk s) {r : RelayW} (hr : RelOk s r) {c m : Int} (hc : InS s c) (hm : 0 ≤ m) : gHears [.agg s.c, .agg (enRl.d r), .int .i64 c, .int .i64 m] = some (.bool (hearsB s r c m)) :=
 orcF_eq (ok := fun p : SkyW × RelayW × Int × Int => SkyOk p.1 ∧ RelOk p.1 p.2.1 ∧ InS p.1 p.2.2.1 ∧ 0 ≤ p.2.2.2) (dsf := fun p => [.agg p.1.c, .agg (enRl.d p.2.1), .int .i64 p.2.2.1, .int .i64 p.2.2.2]) (rf := fun p => .bool (hearsB p.1 p.2.1 p.2.2.1 p.2.2.2)) (s, r, c, m) ⟨hs, hr, hc, hm⟩ fun q hq => by
  simp only [List.cons.injEq, D.agg.injEq, D.int.injEq, true_and, and_true] at hq
  rw [SkyW.c_inj hq.1, En.d_inj enRl hq.2.1, hq.2.2.1, hq.2.2.2]
noncomputable def gAlong : List D → Option D := orcF (fun p : NetW × Int × Int × Int => (∀ k ∈ p.1.l, LnkOk k) ∧ p.1.l.length ≤ 20) (fun p => [.agg p.1.c, .int .i64 p.2.1, .int .i64 p.2.2.1, .int .i64 p.2.2.2]) (fun p => .int .i64 (alongI p.1.l p.2.1 p.2.2.1 p.2.2.2))
theorem gAlong_eq {n : NetW} (hn : ∀ k ∈ n.l, LnkOk k) (hl : n.l.length ≤ 20) (f t m : Int) : gAlong [.agg n.c, .int .i64 f, .int .i64 t, .int .i64 m] = some (.int .i64 (alongI n.l f t m)) :=
 orcF_eq (ok := fun p : NetW × Int × Int × Int => (∀ k ∈ p.1.l, LnkOk k) ∧ p.1.l.length ≤ 20) (dsf := fun p => [.agg p.1.c, .int .i64 p.2.1, .int .i64 p.2.2.1, .int .i64 p.2.2.2]) (rf := fun p => .int .i64 (alongI p.1.l p.2.1 p.2.2.1 p.2.2.2)) (n, f, t, m) ⟨hn, hl⟩ fun q hq => by
  simp only [List.cons.injEq, D.agg.injEq, D.int.injEq, true_and, and_true] at hq
  rw [NetW.c_inj hq.1, hq.2.1, hq.2.2.1, hq.2.2.2]
noncomputable abbrev e11 : List (FuncId × (List D → Option D)) :=
 (74, gHears) :: (84, gHears) :: (75, gAlong) :: (85, gAlong) :: e7
theorem e11_ok : OkO Tryz.prog (mkO e11) :=
 mkO_ok (orcF_ok fun p h => w_hears_t h.1 h.2.1 h.2.2.1 h.2.2.2) <| mkO_ok (orcF_ok fun p h => r_Hears_t h.1 h.2.1 h.2.2.1) <| mkO_ok (orcF_ok fun p h => w_along_t h.1 h.2 _ _ _) <| mkO_ok (orcF_ok fun p h => r_Along_t h.1 h.2 _ _ _) e7_ok
structure WatchOk (w : WatchW) : Prop where
 s : SkyOk w.s
 n : NetOk w.s w.n
 c : freeB w.s.sh w.cell = true
 m : 0 ≤ w.min ∧ w.min ≤ 1440
 e : 1 ≤ w.every ∧ w.every ≤ 1440
 u : 1 ≤ w.endu ∧ w.endu ≤ 1440
 a : w.aft.length ≤ 8
 f : aftB none w.aft = true
theorem watch_ok {w : WatchW} (h : watchB w = true) : WatchOk w := by
 simp only [watchB, Bool.and_eq_true, decide_eq_true_eq] at h
 obtain ⟨h1, h2, h3, h4, h5, h6, h7, h8⟩ := h
 exact ⟨sky_ok h1, net_ok h2, h3, rI_le h4, rI_le h5, rI_le h6, by omega, h8⟩
theorem heard_t {w : WatchW} (hw : WatchOk w) {c m : Int} (hc : InS w.s c) (hm : 0 ≤ m) : Pure Tryz.prog 50 [.agg w.c, .int .i64 c, .int .i64 m] (.mpd (atD (heardM w.s w.n.r c m))) := by
 have hs := hw.s
 have hrel := hw.n.r
 have hrn := hw.n.rn
 obtain ⟨⟨sw, sd, sh⟩, ⟨rl, lk⟩, cell, mi, ev, en, af⟩ := w
 dsimp only at hs hrel hc hrn ⊢
 have oH := fun r hr => gHears_eq hs (hrel r hr) hc hm
 simp only [WatchW.c, SkyW.c, NetW.c, List.cons_append, List.nil_append] at oH ⊢
 refine pure_of_wc (rs := [.tmp 6]) (m := 31) [] e11_ok (by kernel_rfl) Tryz.func50 rfl (by kernel_rfl) rfl rfl (by kernel_rfl) ?_
 simp only [RT, FS, ↓RE, okR, argEnv, Nat.reduceAdd, Nat.reduceSub, Nat.reduceLT, Nat.reduceLeDiff, Nat.reduceEqDiff, reduceIte, List.length_map]
 obtain ⟨F, hF⟩ : ∃ F : Nat → MpI, F = fun i => (List.range i).foldl (hrd ⟨sw, sd, sh⟩ rl c m) [] := ⟨_, rfl⟩
 have hF0 : F 0 = [] := by rw [hF]; rfl
 have hFS : ∀ i, F (i + 1) = hrd ⟨sw, sd, sh⟩ rl c m (F i) i := fun i => by rw [hF]; simp only [List.range_succ, List.foldl_append]; rfl
 have hFe : heardM ⟨sw, sd, sh⟩ rl c m = F rl.length := by rw [hF]; rfl
 rw [hFe]
 refine loopV (ι := Nat) e11_ok [] (fun i => [(1, .int .i64 c), (2, .int .i64 m), (3, .ptr 0 0), (7, .mp 1), (13, rlD rl), (14, .int .i64 (rl.length : Int)), (15, .int .i64 (i : Int))])
  (fun i => [(1, .map (atD (F i))), (0, .box [.int .i64 sw, .int .i64 sd, shD sh, rlD rl, lkD lk, .int .i64 cell, .int .i64 mi, .int .i64 ev, .int .i64 en, inD af])]) 2 (fun i => i ≤ rl.length) (fun i => rl.length - i) 0 (by kernel_rfl) (by kernel_rfl) (Nat.zero_le _) ?_ ?_
 ·rw [hF0]
  simp [headW, heapW, envW, blkLt, D.ltL, D.lt, look, hget, shD, atD_nil]
 intro i hil
 rcases Nat.lt_or_ge i rl.length with hlt | hge
 ·have hc2 := nat_lt_true hlt
  obtain ⟨r, hr⟩ : ∃ r, rl[i]? = some r := ⟨rl[i], by simp [hlt]⟩
  have hix := rlD_ix hr
  have oH1 := oH r (List.mem_of_getElem? hr)
  simp only [enRl] at oH1
  have hw1 := wrap_i64 (z := (i : Int) + 1) (by omega) (by omega)
  have hS := hFS i
  simp only [hrd, hr] at hS
  have hp := fun h nid (hb : hget h 1 = some (.map (atD (F i)))) => am_put hb nid (i : Int) m
  cases hq : hearsB ⟨sw, sd, sh⟩ r c m
  ·rw [hq] at hS
   simp only [Bool.false_eq_true, if_false] at hS
   simp only [RT, FS, ↓RE, okR, argEnv, Nat.reduceAdd, Nat.reduceSub, Nat.reduceLT, Nat.reduceLeDiff, Nat.reduceEqDiff, reduceIte, hix, hc2, decide_true, oH1, hq, hw1]
   exact ⟨i + 1, by omega, by omega, by rw [hS]; simp [headW, heapW, envW, blkLt, D.ltL, D.lt, look, hget, shD, vI_lt]⟩
  ·rw [hq] at hS
   simp only [if_true] at hS
   simp only [RT, FS, ↓RE, okR, argEnv, Nat.reduceAdd, Nat.reduceSub, Nat.reduceLT, Nat.reduceLeDiff, Nat.reduceEqDiff, reduceIte, hix, hc2, decide_true, oH1, hq, hp, hw1]
   exact ⟨i + 1, by omega, by omega, by rw [hS]; simp [headW, heapW, envW, blkLt, D.ltL, D.lt, look, hget, shD, vI_lt]⟩
 ·have hc2 := nat_lt_false hge
  have : i = rl.length := by omega
  subst this
  simp only [RT, FS, ↓RE, okR, argEnv, Nat.reduceAdd, Nat.reduceSub, Nat.reduceLT, Nat.reduceLeDiff, Nat.reduceEqDiff, reduceIte, hc2, decide_false]
  exact at_view _ _ _ (by simp [hget])
end Go.Sx

namespace Go.Sx
open Go.Proofs
set_option maxRecDepth 10000

theorem at_ltA (m : MpI) : ((atD m).all fun p => D.lt 0 p.2) = true := by simp [atD, gkv, vI, D.lt]
set_option maxHeartbeats 4000000 in
theorem spread_t {s : SkyW} {n : NetW} (hn : NetOk s n) {at0 : MpI} (ha : AtOk at0) : Pure Tryz.prog 73 [.agg n.c, .mpd (atD at0)] (.int .i64 (spreadI (alongI n.l) n.r.length at0)) := by
 have hA := along_ok hn
 have hln : ∀ k ∈ n.l, LnkOk k := fun k hk => (hn.l k hk).1
 have hrn := hn.rn
 have hll := hn.ln
 obtain ⟨rl, lk⟩ := n
 dsimp only at hA hln hrn hll ⊢
 have oA := fun f t m => gAlong_eq (n := ⟨rl, lk⟩) hln hll f t m
 simp only [NetW.c] at oA ⊢
 have hm1 : methD Tryz.prog 132 "windsock/watch.put" = some 132 := by kernel_rfl
 have hm2 : methD Tryz.prog 132 "windsock/watch.take" = some 133 := by kernel_rfl
 have i1 := fun h nid K d ds u => inv_ifc (P := Tryz.prog) (O := mkO e11) h nid K hm1 d ds u
 have i2 := fun h nid K d ds u => inv_ifc (P := Tryz.prog) (O := mkO e11) h nid K hm2 d ds u
 have hif : ∀ b o, ifaceD Tryz.prog 132 (.ptr b o) = some (.ifc 132 (.ptr b o)) := fun b o => by kernel_rfl
 obtain ⟨F, hF⟩ : ∃ F : Nat → MpI × List Int, F = fun i => (List.range i).foldl (ini0 at0) ([], []) := ⟨_, rfl⟩
 have hF0 : F 0 = ([], []) := by rw [hF]; rfl
 have hFS : ∀ i, F (i + 1) = ini0 at0 (F i) i := fun i => by rw [hF]; simp only [List.range_succ, List.foldl_append]; rfl
 have hFi : ∀ i, InO at0 i (F i) := fun i => by rw [hF]; exact inO_all at0 i
 have hM0 : (sprF (alongI lk) rl.length FUEL (F rl.length)).1 = sprM (alongI lk) rl.length at0 := by rw [hF]; rfl
 refine pure_of_pieces (rs := [.tmp 4]) (m := 99) [] e11_ok (by kernel_rfl) Tryz.func73 rfl (by kernel_rfl) rfl rfl (by kernel_rfl) ?_
 refine awp_peel (T := []) e11_ok (by kernel_rfl) (by kernel_rfl) ?_
 simp only [RT, FS, ↓RE, okR, argEnv, Nat.reduceAdd, Nat.reduceSub, Nat.reduceLT, Nat.reduceLeDiff, Nat.reduceEqDiff, reduceIte, RM, List.length_map, hif]
 refine awp_peel (T := []) e11_ok (by kernel_rfl) (by kernel_rfl) ?_
 simp only [RT, FS, ↓RE, okR, argEnv, Nat.reduceAdd, Nat.reduceSub, Nat.reduceLT, Nat.reduceLeDiff, Nat.reduceEqDiff, reduceIte, RM, List.length_map, hif]
 refine awp_peel (T := []) e11_ok (by kernel_rfl) (by kernel_rfl) ?_
 simp only [RT, FS, ↓RE, okR, argEnv, Nat.reduceAdd, Nat.reduceSub, Nat.reduceLT, Nat.reduceLeDiff, Nat.reduceEqDiff, reduceIte, RM, List.length_map, hif]
 refine awp_cutI e11_ok (by kernel_rfl) [(2, .ptr 0 0), (5, .mp 1), (6, .ifc 132 (.ptr 2 0))] [(3, .arr 3 1 (intL (F rl.length).2)), (2, .box [.osl 3 (F rl.length).2.length]), (1, .map (atD (F rl.length).1)), (0, .box [rlD rl, lkD lk])] 4 99 (T := []) (by kernel_rfl) ?_ ?_
 ·simp only [RT, FS, ↓RE, okR, argEnv, Nat.reduceAdd, Nat.reduceSub, Nat.reduceLT, Nat.reduceLeDiff, Nat.reduceEqDiff, reduceIte, RM, List.length_map, hif]
  refine loopNilB 2 0 [.nils] 3 1 rfl rfl ?_
  refine loopV (ι := Nat) e11_ok [] (fun i => [(1, .mpd (atD at0)), (2, .ptr 0 0), (5, .mp 1), (6, .ifc 132 (.ptr 2 0)), (24, .int .i64 (rl.length : Int)), (25, .int .i64 (i : Int))])
   (fun i => [(3, .arr 3 1 (intL (F i).2)), (2, .box [.osl 3 (F i).2.length]), (1, .map (atD (F i).1)), (0, .box [rlD rl, lkD lk])]) 4 (fun i => i ≤ rl.length) (fun i => rl.length - i) 0 (by kernel_rfl) (by kernel_rfl) (Nat.zero_le _) ?_ ?_
  ·rw [hF0]
   simp [headW, heapW, envW, blkLt, D.ltL, D.lt, look, hget, hset, atD_nil, intL]
  intro i hil
  rcases Nat.lt_or_ge i rl.length with hlt | hge
  ·have hc2 := nat_lt_true hlt
   have hw1 := wrap_i64 (z := (i : Int) + 1) (by omega) (by omega)
   have hS := hFS i
   have hq := (hFi i).len
   have hk := ad_look
   generalize F i = S at *
   obtain ⟨M, q⟩ := S
   simp only [ini0] at hS
   dsimp only at hq ⊢
   cases hg : gget at0 i with
   | none =>
    rw [hg] at hS
    simp only [RT, FS, ↓RE, okR, argEnv, Nat.reduceAdd, Nat.reduceSub, Nat.reduceLT, Nat.reduceLeDiff, Nat.reduceEqDiff, reduceIte, RM, hc2, decide_true, hk, hg, hw1, Option.isSome_none]
    exact ⟨i + 1, by omega, by omega, by rw [hS]; simp [headW, heapW, envW, blkLt, D.ltL, D.lt, look, hget, vI_lt]⟩
   | some t0 =>
    rw [hg] at hS
    have hp := fun h nid (hb : hget h 1 = some (.map (atD M))) => am_put hb nid (i : Int) t0
    simp only [RT, FS, ↓RE, okR, argEnv, Nat.reduceAdd, Nat.reduceSub, Nat.reduceLT, Nat.reduceLeDiff, Nat.reduceEqDiff, reduceIte, RM, hc2, decide_true, hk, hg, hp, hw1, i1, i2, Option.isSome_some, Option.getD_some]
    have a7 := fun h nid (hb : hget h 3 = some (.arr 3 1 (intL q))) (hb2 : hget h 4 = some (.arr 3 1 [[.int .i64 (i : Int)]])) => oI_app (n := q.length) (n2 := 1) (r := [(i : Int)]) hb rfl hb2 rfl nid (by simp; omega)
    refine call_of_acall ?_
    refine acall_of_wc (rs := []) (m := 14) [] oNone_ok (by kernel_rfl) Tryz.func132 rfl (by kernel_rfl) rfl rfl (by kernel_rfl) ?_
    simp only [RT, FS, ↓RE, okR, argEnv, Nat.reduceAdd, Nat.reduceSub, Nat.reduceLT, Nat.reduceLeDiff, Nat.reduceEqDiff, reduceIte, RM, a7, intL_len, List.length_append, List.length_singleton, decide_true]
    simp only [RT, FS, ↓RE, okR, argEnv, Nat.reduceAdd, Nat.reduceSub, Nat.reduceLT, Nat.reduceLeDiff, Nat.reduceEqDiff, reduceIte, RM, hw1]
    exact ⟨i + 1, by omega, by omega, by rw [hS]; simp [headW, heapW, envW, blkLt, D.ltL, D.lt, look, hget, vI_lt]⟩
  have hc2 := nat_lt_false hge
  have : i = rl.length := by omega
  subst this
  simp only [RT, FS, ↓RE, okR, argEnv, Nat.reduceAdd, Nat.reduceSub, Nat.reduceLT, Nat.reduceLeDiff, Nat.reduceEqDiff, reduceIte, RM, hc2, decide_false]
  refine .weak (weak_of ?_)
  simp [headW, heapW, envW, blkLt, D.ltL, D.lt, look, hget, vI_lt]
 have hok0 : SprOk (alongI lk) rl.length at0 none (F rl.length) := (hFi rl.length).spr ha
 have hph0 := phiS_le hrn.2 (M := (F rl.length).1) fun k v hk => (hok0.key k v hk).2.2
 have hl0 := (hFi rl.length).len
 generalize F rl.length = S0 at *
 clear hFi hFS hF hF0
 obtain ⟨M0, Q0⟩ := S0
 dsimp only at hM0 hok0 hph0 hl0 ⊢
 refine awp_seq ?_
 refine awp_cutI e11_ok (by kernel_rfl) [(2, .ptr 0 0), (5, .mp 1), (6, .ifc 132 (.ptr 2 0)), (10, .int .i64 (Q0.headD 0)), (11, .bool (!Q0.isEmpty))] [(3, .arr 3 1 (intL Q0.tail)), (2, .box [.osl 3 Q0.tail.length]), (1, .map (atD M0)), (0, .box [rlD rl, lkD lk])] 4 99 (T := []) (by kernel_rfl) ?_ ?_
 ·simp only [RT, FS, ↓RE, okR, argEnv, Nat.reduceAdd, Nat.reduceSub, Nat.reduceLT, Nat.reduceLeDiff, Nat.reduceEqDiff, reduceIte, RM, i1, i2]
  cases Q0 with
  | nil =>
   have q7 := fun h (hb : hget h 3 = some (.arr 3 1 (intL []))) => oI_len (n := 0) hb rfl
   have hb10 : (((0 : Nat) : Int) == 0) = true := rfl
   refine call_of_acall ?_
   refine acall_of_wc (rs := [.tmp 2, .tmp 3]) (m := 26) [] oNone_ok (by kernel_rfl) Tryz.func133 rfl (by kernel_rfl) rfl rfl (by kernel_rfl) ?_
   simp only [RT, FS, ↓RE, okR, argEnv, Nat.reduceAdd, Nat.reduceSub, Nat.reduceLT, Nat.reduceLeDiff, Nat.reduceEqDiff, reduceIte, RM, q7, hb10, List.length_nil]
   refine .weak (weak_of ?_)
   simp [headW, heapW, envW, blkLt, D.ltL, D.lt, look, hget, vI_lt]
  | cons c' q' =>
   have q7 := fun h (hb : hget h 3 = some (.arr 3 1 (intL (c' :: q')))) => oI_len (n := (c' :: q').length) hb rfl
   have hb10 : ((((c' :: q').length : Nat) : Int) == 0) = false := by simp; omega
   have x7 := fun h (hb : hget h 3 = some (.arr 3 1 (intL (c' :: q')))) => oI_ix0 (n := (c' :: q').length) hb rfl (by simp)
   have l7 := fun h (hb : hget h 3 = some (.arr 3 1 (intL (c' :: q')))) => oI_load (n := (c' :: q').length) (i := 0) hb rfl rfl
   have t7 := fun h nid (hb : hget h 3 = some (.arr 3 1 (intL (c' :: q')))) => oI_tail (n := (c' :: q').length) (l := q') hb rfl nid
   have hnd : ((c' :: q').length - 1 = q'.length) = True := by simp
   obtain ⟨n9, hn9⟩ : ∃ n9, (c' :: q').length = n9 := ⟨_, rfl⟩
   rw [hn9] at q7 hb10 x7 l7 t7 hnd ⊢
   refine call_of_acall ?_
   refine acall_of_wc (rs := [.tmp 2, .tmp 3]) (m := 26) [] oNone_ok (by kernel_rfl) Tryz.func133 rfl (by kernel_rfl) rfl rfl (by kernel_rfl) ?_
   simp only [RT, FS, ↓RE, okR, argEnv, Nat.reduceAdd, Nat.reduceSub, Nat.reduceLT, Nat.reduceLeDiff, Nat.reduceEqDiff, reduceIte, RM, q7, x7, l7, t7, hb10, intL_len, hnd, decide_true]
   have hn1 : n9 - 1 = q'.length := by simpa using hnd

   refine (Imp.weak (weak_of (e := [(2, .ptr 0 0), (5, .mp 1), (6, .ifc 132 (.ptr 2 0)), (10, .int .i64 c'), (11, .bool true)])
    (h := [(4, .arr 3 1 (intL q')), (2, .box [.osl 4 q'.length]), (1, .map (atD M0)), (0, .box [rlD rl, lkD lk])]) (nid := 5) (n := 99) ?_)).trans
     (imp_move 4 3 (bi := .arr 3 1 (intL q')) (by omega) rfl rfl (by omega) (by omega) ?_ ?_ (.weak (weak_of ?_)))
   ·rw [hn1]
    simp [headW, heapW, envW, blkLt, D.ltL, D.lt, look, hget, vI_lt]
   ·simp [okMB, okM, at_ltA, D.lt]
   ·simp [okM, D.lt]
   ·simp [headW, heapW, envW, blkLt, D.ltL, D.lt, look, hget, vI_lt, mvH, mvB, mvD]
 refine awp_rest (T := []) e11_ok (by kernel_rfl) (by kernel_rfl) ?_
 ·simp only [RT, FS, ↓RE, okR, argEnv, Nat.reduceAdd, Nat.reduceSub, Nat.reduceLT, Nat.reduceLeDiff, Nat.reduceEqDiff, reduceIte, RM]
  refine loopN (ι := Nat × MpI × List Int) e11_ok [] (fun s => [(2, .ptr 0 0), (5, .mp 1), (6, .ifc 132 (.ptr 2 0)), (10, .int .i64 (s.2.2.headD 0)), (11, .bool (!s.2.2.isEmpty))])
   (fun s => [(3, .arr 3 1 (intL s.2.2.tail)), (2, .box [.osl 3 s.2.2.tail.length]), (1, .map (atD s.2.1)), (0, .box [rlD rl, lkD lk])]) (fun _ => 4)
   (fun s => SprOk (alongI lk) rl.length at0 none s.2 ∧ 2 * phiS rl.length s.2.1 + s.2.2.length < s.1 ∧ 2 * phiS rl.length s.2.1 + s.2.2.length ≤ 100000 ∧ (sprF (alongI lk) rl.length s.1 s.2).1 = sprM (alongI lk) rl.length at0) (fun s => s.1)
   (FUEL, M0, Q0) (by kernel_rfl) (by kernel_rfl) ⟨hok0, by simp only [FUEL]; omega, by simp only; omega, hM0⟩ ?_ ?_
  ·refine .weak (weak_of ?_)
   simp [headW, heapW, envW, blkLt, D.ltL, D.lt, look, hget, vI_lt]
  rintro ⟨fu, M, Q⟩ ⟨hok, hlt, hle, hres⟩
  dsimp only at hok hlt hle hres ⊢
  cases Q with
  | nil =>
   have hM : M = sprM (alongI lk) rl.length at0 := by rw [← hres]; cases fu <;> rfl
   simp only [RT, FS, ↓RE, okR, argEnv, Nat.reduceAdd, Nat.reduceSub, Nat.reduceLT, Nat.reduceLeDiff, Nat.reduceEqDiff, reduceIte, RM, List.isEmpty_nil, Bool.not_true]
   rw [hM]
   refine awp_headW [(5, .mp 1)] [(1, .map (atD (sprM (alongI lk) rl.length at0)))] 4 99 (by simp [headW, heapW, envW, blkLt, D.ltL, D.lt, look, hget, vI_lt]) ?_
   refine awp_rest (T := []) e11_ok (by kernel_rfl) (by kernel_rfl) ?_
   have k2 := fun h (hb : hget h 1 = some (.map (atD (sprM (alongI lk) rl.length at0)))) => am_look hb 0
   unfold spreadI
   cases hg : gget (sprM (alongI lk) rl.length at0) 0 with
   | none =>
    rw [hg] at k2
    simp only [RT, FS, ↓RE, okR, argEnv, Nat.reduceAdd, Nat.reduceSub, Nat.reduceLT, Nat.reduceLeDiff, Nat.reduceEqDiff, reduceIte, RM, k2, Option.isSome_none]
    rfl
   | some t =>
    rw [hg] at k2
    simp only [RT, FS, ↓RE, okR, argEnv, Nat.reduceAdd, Nat.reduceSub, Nat.reduceLT, Nat.reduceLeDiff, Nat.reduceEqDiff, reduceIte, RM, k2, Option.isSome_some, Option.getD_some]
  | cons c q =>
  obtain ⟨fv, rfl⟩ : ∃ fv, fu = fv + 1 := ⟨fu - 1, by omega⟩
  obtain ⟨v, hv⟩ := hok.q c (by simp)
  have hcb := (hok.key c v hv).1
  simp only [sprF] at hres
  by_cases hc0 : c = 0
  ·rw [if_pos hc0] at hres
   have hok' := hok.pop.seald (.inl hc0)
   have hz : ((c == 0) : Bool) = true := by simp [hc0]
   clear hok
   simp only [RT, FS, ↓RE, okR, argEnv, Nat.reduceAdd, Nat.reduceSub, Nat.reduceLT, Nat.reduceLeDiff, Nat.reduceEqDiff, reduceIte, RM, List.isEmpty_cons, Bool.not_false, List.headD_cons, List.tail_cons, hz, i1, i2]
   cases q with
   | nil =>
    have q7 := fun h (hb : hget h 3 = some (.arr 3 1 (intL []))) => oI_len (n := 0) hb rfl
    have hb10 : (((0 : Nat) : Int) == 0) = true := rfl
    refine call_of_acall ?_
    refine acall_of_wc (rs := [.tmp 2, .tmp 3]) (m := 26) [] oNone_ok (by kernel_rfl) Tryz.func133 rfl (by kernel_rfl) rfl rfl (by kernel_rfl) ?_
    simp only [RT, FS, ↓RE, okR, argEnv, Nat.reduceAdd, Nat.reduceSub, Nat.reduceLT, Nat.reduceLeDiff, Nat.reduceEqDiff, reduceIte, RM, q7, hb10, List.length_nil]
    simp only [List.length_cons] at hlt hle
    refine ⟨(fv, M, []), ⟨hok', by simp only [List.length_nil] at *; omega, by simp only [List.length_nil] at *; omega, hres⟩, by simp only; omega, ?_⟩
    refine .weak (weak_of ?_)
    simp [headW, heapW, envW, blkLt, D.ltL, D.lt, look, hget, vI_lt]
   | cons c' q' =>
    have q7 := fun h (hb : hget h 3 = some (.arr 3 1 (intL (c' :: q')))) => oI_len (n := (c' :: q').length) hb rfl
    have hb10 : ((((c' :: q').length : Nat) : Int) == 0) = false := by simp; omega
    have x7 := fun h (hb : hget h 3 = some (.arr 3 1 (intL (c' :: q')))) => oI_ix0 (n := (c' :: q').length) hb rfl (by simp)
    have l7 := fun h (hb : hget h 3 = some (.arr 3 1 (intL (c' :: q')))) => oI_load (n := (c' :: q').length) (i := 0) hb rfl rfl
    have t7 := fun h nid (hb : hget h 3 = some (.arr 3 1 (intL (c' :: q')))) => oI_tail (n := (c' :: q').length) (l := q') hb rfl nid
    have hnd : ((c' :: q').length - 1 = q'.length) = True := by simp
    obtain ⟨n9, hn9⟩ : ∃ n9, (c' :: q').length = n9 := ⟨_, rfl⟩
    rw [hn9] at q7 hb10 x7 l7 t7 hnd ⊢
    refine call_of_acall ?_
    refine acall_of_wc (rs := [.tmp 2, .tmp 3]) (m := 26) [] oNone_ok (by kernel_rfl) Tryz.func133 rfl (by kernel_rfl) rfl rfl (by kernel_rfl) ?_
    simp only [RT, FS, ↓RE, okR, argEnv, Nat.reduceAdd, Nat.reduceSub, Nat.reduceLT, Nat.reduceLeDiff, Nat.reduceEqDiff, reduceIte, RM, q7, x7, l7, t7, hb10, intL_len, hnd, decide_true]
    have hn1 : n9 - 1 = q'.length := by simpa using hnd
    simp only [List.length_cons] at hlt hle hn9
    refine ⟨(fv, M, c' :: q'), ⟨hok', by simp only [List.length_cons]; omega, by simp only [List.length_cons]; omega, hres⟩, by simp only; omega, ?_⟩
    refine (Imp.weak (weak_of (e := [(2, .ptr 0 0), (5, .mp 1), (6, .ifc 132 (.ptr 2 0)), (10, .int .i64 c'), (11, .bool true)])
     (h := [(4, .arr 3 1 (intL q')), (2, .box [.osl 4 q'.length]), (1, .map (atD M)), (0, .box [rlD rl, lkD lk])]) (nid := 5) (n := 99) ?_)).trans
      (imp_move 4 3 (bi := .arr 3 1 (intL q')) (by omega) rfl rfl (by omega) (by omega) ?_ ?_ (.weak (weak_of ?_)))
    ·rw [hn1]
     simp [headW, heapW, envW, blkLt, D.ltL, D.lt, look, hget, vI_lt]
    ·simp [okMB, okM, at_ltA, D.lt]
    ·simp [okM, D.lt]
    ·simp [headW, heapW, envW, blkLt, D.ltL, D.lt, look, hget, vI_lt, mvH, mvB, mvD]
  rw [if_neg hc0] at hres
  obtain ⟨hok', hph'⟩ := spr_step hA hok hc0
  have hz : ((c == 0) : Bool) = false := by simp [hc0]
  simp only [RT, FS, ↓RE, okR, argEnv, Nat.reduceAdd, Nat.reduceSub, Nat.reduceLT, Nat.reduceLeDiff, Nat.reduceEqDiff, reduceIte, RM, List.isEmpty_cons, Bool.not_false, List.headD_cons, List.tail_cons, hz, List.length_map]
  obtain ⟨G, hG⟩ : ∃ G : Nat → MpI × List Int, G = fun i => (List.range i).foldl (relS (alongI lk) c) (M, q) := ⟨_, rfl⟩
  have hG0 : G 0 = (M, q) := by rw [hG]; rfl
  have hGS : ∀ i, G (i + 1) = relS (alongI lk) c (G i) i := fun i => by rw [hG]; simp only [List.range_succ, List.foldl_append]; rfl
  have hGl : ∀ i, i ≤ rl.length → 2 * phiS rl.length (G i).1 + (G i).2.length ≤ 2 * phiS rl.length M + q.length := fun i hi => by
   rw [hG]
   exact (rel_all hA hc0 (v := v) (List.range i) hok.pop hv fun t ht => by have := List.mem_range.1 ht; omega).2.2.2.2
  have hGe : (List.range rl.length).foldl (relS (alongI lk) c) (M, q) = G rl.length := by rw [hG]
  rw [hGe] at hok' hph' hres
  refine loopV (ι := Nat) e11_ok [] (fun i => [(2, .ptr 0 0), (5, .mp 1), (6, .ifc 132 (.ptr 2 0)), (10, .int .i64 c), (57, .int .i64 (rl.length : Int)), (58, .int .i64 (i : Int))])
   (fun i => [(3, .arr 3 1 (intL (G i).2)), (2, .box [.osl 3 (G i).2.length]), (1, .map (atD (G i).1)), (0, .box [rlD rl, lkD lk])]) 4 (fun i => i ≤ rl.length) (fun i => rl.length - i) 0 (by kernel_rfl) (by kernel_rfl) (Nat.zero_le _) ?_ ?_
  ·rw [hG0]
   simp [headW, heapW, envW, blkLt, D.ltL, D.lt, look, hget, vI_lt]
  intro i hil
  rcases Nat.lt_or_ge i rl.length with hlt2 | hge
  ·have hc2 := nat_lt_true hlt2
   have hw1 := wrap_i64 (z := (i : Int) + 1) (by omega) (by omega)
   have hS := hGS i
   have hgl := hGl i hil
   generalize G i = S at *
   obtain ⟨M', q'⟩ := S
   dsimp only at hgl ⊢
   simp only [relS] at hS
   simp only [List.length_cons] at hle
   have hql : q'.length ≤ 1000000 := by omega
   have k1 := fun h (hb : hget h 1 = some (.map (atD M'))) => am_get hb c
   have k2 := fun h (hb : hget h 1 = some (.map (atD M'))) => am_look hb (i : Int)
   have oA1 := oA c i ((gget M' c).getD 0)
   have a7 := fun h nid (hb : hget h 3 = some (.arr 3 1 (intL q'))) (hb2 : hget h 4 = some (.arr 3 1 [[.int .i64 (i : Int)]])) => oI_app (n := q'.length) (n2 := 1) (r := [(i : Int)]) hb rfl hb2 rfl nid (by simp; omega)
   generalize alongI lk c i ((gget M' c).getD 0) = t at *
   have hp := fun h nid (hb : hget h 1 = some (.map (atD M'))) => am_put hb nid (i : Int) t
   cases q1 : decide (0 ≤ t)
   ·rw [if_neg (by simp at q1; omega)] at hS
    simp only [RT, FS, ↓RE, okR, argEnv, Nat.reduceAdd, Nat.reduceSub, Nat.reduceLT, Nat.reduceLeDiff, Nat.reduceEqDiff, reduceIte, RM, hc2, decide_true, k1, k2, oA1, q1, hw1]
    exact ⟨i + 1, by omega, by omega, by rw [hS]; simp [headW, heapW, envW, blkLt, D.ltL, D.lt, look, hget, vI_lt]⟩
   have q1' : 0 ≤ t := by simpa using q1
   cases hg : gget M' i with
   | none =>
    rw [if_pos ⟨q1', .inl hg⟩] at hS
    rw [hg] at k2
    simp only [RT, FS, ↓RE, okR, argEnv, Nat.reduceAdd, Nat.reduceSub, Nat.reduceLT, Nat.reduceLeDiff, Nat.reduceEqDiff, reduceIte, RM, hc2, decide_true, k1, k2, oA1, q1, hp, i1, i2, hw1, Option.isSome_none, Bool.not_false]
    refine call_of_acall ?_
    refine acall_of_wc (rs := []) (m := 14) [] oNone_ok (by kernel_rfl) Tryz.func132 rfl (by kernel_rfl) rfl rfl (by kernel_rfl) ?_
    simp only [RT, FS, ↓RE, okR, argEnv, Nat.reduceAdd, Nat.reduceSub, Nat.reduceLT, Nat.reduceLeDiff, Nat.reduceEqDiff, reduceIte, RM, a7, intL_len, List.length_append, List.length_singleton, decide_true]
    simp only [RT, FS, ↓RE, okR, argEnv, Nat.reduceAdd, Nat.reduceSub, Nat.reduceLT, Nat.reduceLeDiff, Nat.reduceEqDiff, reduceIte, RM, hw1]
    exact ⟨i + 1, by omega, by omega, by rw [hS]; simp [headW, heapW, envW, blkLt, D.ltL, D.lt, look, hget, vI_lt]⟩
   | some old =>
    rw [hg] at hS k2
    simp only [Option.getD_some, reduceCtorEq, false_or] at hS k2
    cases q2 : decide (t < old)
    ·rw [if_neg (by simp at q2; omega)] at hS
     simp only [RT, FS, ↓RE, okR, argEnv, Nat.reduceAdd, Nat.reduceSub, Nat.reduceLT, Nat.reduceLeDiff, Nat.reduceEqDiff, reduceIte, RM, hc2, decide_true, k1, k2, oA1, q1, q2, hw1, Option.isSome_some, Bool.not_true]
     exact ⟨i + 1, by omega, by omega, by rw [hS]; simp [headW, heapW, envW, blkLt, D.ltL, D.lt, look, hget, vI_lt]⟩
    ·rw [if_pos ⟨q1', by simpa using q2⟩] at hS
     simp only [RT, FS, ↓RE, okR, argEnv, Nat.reduceAdd, Nat.reduceSub, Nat.reduceLT, Nat.reduceLeDiff, Nat.reduceEqDiff, reduceIte, RM, hc2, decide_true, k1, k2, oA1, q1, q2, hp, i1, i2, hw1, Option.isSome_some, Bool.not_true]
     refine call_of_acall ?_
     refine acall_of_wc (rs := []) (m := 14) [] oNone_ok (by kernel_rfl) Tryz.func132 rfl (by kernel_rfl) rfl rfl (by kernel_rfl) ?_
     simp only [RT, FS, ↓RE, okR, argEnv, Nat.reduceAdd, Nat.reduceSub, Nat.reduceLT, Nat.reduceLeDiff, Nat.reduceEqDiff, reduceIte, RM, a7, intL_len, List.length_append, List.length_singleton, decide_true]
     simp only [RT, FS, ↓RE, okR, argEnv, Nat.reduceAdd, Nat.reduceSub, Nat.reduceLT, Nat.reduceLeDiff, Nat.reduceEqDiff, reduceIte, RM, hw1]
     exact ⟨i + 1, by omega, by omega, by rw [hS]; simp [headW, heapW, envW, blkLt, D.ltL, D.lt, look, hget, vI_lt]⟩
  have hc2 := nat_lt_false hge
  have : i = rl.length := by omega
  subst this
  clear hGl hGS hGe hG0
  generalize G rl.length = S at *
  obtain ⟨M', Q'⟩ := S
  dsimp only at hph' hres ⊢
  simp only [List.length_cons] at hlt hle
  simp only [RT, FS, ↓RE, okR, argEnv, Nat.reduceAdd, Nat.reduceSub, Nat.reduceLT, Nat.reduceLeDiff, Nat.reduceEqDiff, reduceIte, RM, hc2, decide_false, i1, i2]
  cases Q' with
  | nil =>
   have q7 := fun h (hb : hget h 3 = some (.arr 3 1 (intL []))) => oI_len (n := 0) hb rfl
   have hb10 : (((0 : Nat) : Int) == 0) = true := rfl
   refine call_of_acall ?_
   refine acall_of_wc (rs := [.tmp 2, .tmp 3]) (m := 26) [] oNone_ok (by kernel_rfl) Tryz.func133 rfl (by kernel_rfl) rfl rfl (by kernel_rfl) ?_
   simp only [RT, FS, ↓RE, okR, argEnv, Nat.reduceAdd, Nat.reduceSub, Nat.reduceLT, Nat.reduceLeDiff, Nat.reduceEqDiff, reduceIte, RM, q7, hb10, List.length_nil]
   refine ⟨(fv, M', []), ⟨hok', by simp only [List.length_nil] at *; omega, by simp only [List.length_nil] at *; omega, hres⟩, by simp only; omega, ?_⟩
   refine .weak (weak_of ?_)
   simp [headW, heapW, envW, blkLt, D.ltL, D.lt, look, hget, vI_lt]
  | cons c' q' =>
   have q7 := fun h (hb : hget h 3 = some (.arr 3 1 (intL (c' :: q')))) => oI_len (n := (c' :: q').length) hb rfl
   have hb10 : ((((c' :: q').length : Nat) : Int) == 0) = false := by simp; omega
   have x7 := fun h (hb : hget h 3 = some (.arr 3 1 (intL (c' :: q')))) => oI_ix0 (n := (c' :: q').length) hb rfl (by simp)
   have l7 := fun h (hb : hget h 3 = some (.arr 3 1 (intL (c' :: q')))) => oI_load (n := (c' :: q').length) (i := 0) hb rfl rfl
   have t7 := fun h nid (hb : hget h 3 = some (.arr 3 1 (intL (c' :: q')))) => oI_tail (n := (c' :: q').length) (l := q') hb rfl nid
   have hnd : ((c' :: q').length - 1 = q'.length) = True := by simp
   obtain ⟨n9, hn9⟩ : ∃ n9, (c' :: q').length = n9 := ⟨_, rfl⟩
   rw [hn9] at q7 hb10 x7 l7 t7 hnd ⊢
   refine call_of_acall ?_
   refine acall_of_wc (rs := [.tmp 2, .tmp 3]) (m := 26) [] oNone_ok (by kernel_rfl) Tryz.func133 rfl (by kernel_rfl) rfl rfl (by kernel_rfl) ?_
   simp only [RT, FS, ↓RE, okR, argEnv, Nat.reduceAdd, Nat.reduceSub, Nat.reduceLT, Nat.reduceLeDiff, Nat.reduceEqDiff, reduceIte, RM, q7, x7, l7, t7, hb10, intL_len, hnd, decide_true]
   have hn1 : n9 - 1 = q'.length := by simpa using hnd
   refine ⟨(fv, M', c' :: q'), ⟨hok', by simp only; omega, by simp only; omega, hres⟩, by simp only; omega, ?_⟩
   refine (Imp.weak (weak_of (e := [(2, .ptr 0 0), (5, .mp 1), (6, .ifc 132 (.ptr 2 0)), (10, .int .i64 c'), (11, .bool true)])
    (h := [(4, .arr 3 1 (intL q')), (2, .box [.osl 4 q'.length]), (1, .map (atD M')), (0, .box [rlD rl, lkD lk])]) (nid := 5) (n := 99) ?_)).trans
     (imp_move 4 3 (bi := .arr 3 1 (intL q')) (by omega) rfl rfl (by omega) (by omega) ?_ ?_ (.weak (weak_of ?_)))
   ·rw [hn1]
    simp [headW, heapW, envW, blkLt, D.ltL, D.lt, look, hget, vI_lt]
   ·simp [okMB, okM, at_ltA, D.lt]
   ·simp [okM, D.lt]
   ·simp [headW, heapW, envW, blkLt, D.ltL, D.lt, look, hget, vI_lt, mvH, mvB, mvD]
end Go.Sx
