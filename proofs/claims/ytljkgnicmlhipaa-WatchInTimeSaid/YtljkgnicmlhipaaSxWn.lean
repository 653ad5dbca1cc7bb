/- Own work: a calculus of contracts for the programs of this kit: parts SxW46w, SxW47w, SxW48w, SxW49w. -/
import Derived.Test.YtljkgnicmlhipaaSxW43w
set_option linter.unusedVariables false
set_option linter.unusedSimpArgs false
namespace Go.Sx
set_option maxRecDepth 10000

/-! Plain theory of calls -/
theorem gd_el {l : List Int} {i : Nat} (h : i < l.length) : l.getD i 0 = l[i] := by simp [List.getD_eq_getElem?_getD, h]
theorem gd_mem {l : List Int} {i : Nat} (h : i < l.length) : l.getD i 0 ∈ l := by rw [gd_el h]; exact List.getElem_mem h
theorem cnt_le : ∀ {l : List Int}, l.Pairwise (· < ·) → ∀ (x : Int) (i : Nat), i < l.length → (i < (l.filter fun a => decide (a ≤ x)).length ↔ l.getD i 0 ≤ x)
  | [], _, x, i, hi => by simp at hi
  | y :: r, h, x, i, hi => by
    rw [List.pairwise_cons] at h
    by_cases hy : y ≤ x
    · rw [List.filter_cons_of_pos (by simpa using hy)]
      cases i with
      | zero => simp [hy]
      | succ i =>
        have := cnt_le h.2 x i (by simpa using hi)
        simp only [List.length_cons, Nat.add_lt_add_iff_right, List.getD_cons_succ]
        exact this
    · have hn : (r.filter fun a => decide (a ≤ x)) = [] := by
        rw [List.filter_eq_nil_iff]
        intro a ha
        have := h.1 a ha
        simp; omega
      rw [List.filter_cons_of_neg (by simpa using hy), hn]
      simp only [List.length_nil, Nat.not_lt_zero, false_iff]
      cases i with
      | zero => simpa using hy
      | succ i =>
        have hi' : i < r.length := by simpa using hi
        simp only [List.getD_cons_succ]
        have := h.1 (r.getD i 0) (gd_mem hi')
        omega
theorem aftB_sorted : ∀ {l : List Int} {o : Option Int}, aftB o l = true → l.Pairwise (· < ·) ∧ (∀ x ∈ l, 0 ≤ x ∧ x ≤ 1440 ∧ ∀ p, o = some p → p < x)
  | [], o, _ => ⟨List.Pairwise.nil, fun x hx => by cases hx⟩
  | y :: r, o, h => by
    have h2 : (rI y 0 1440 = true ∧ ∀ p, o = some p → p < y) ∧ aftB (some y) r = true := by
      cases o with
      | none =>
        simp only [aftB, Bool.and_eq_true] at h
        exact ⟨⟨h.1, fun p hp => by cases hp⟩, h.2⟩
      | some p =>
        simp only [aftB, Bool.and_eq_true, Bool.not_eq_true', decide_eq_false_iff_not] at h
        exact ⟨⟨h.1.1, fun q hq => by cases hq; omega⟩, h.2⟩
    have ih := aftB_sorted h2.2
    have hy := rI_le h2.1.1
    have hp := h2.1.2
    refine ⟨List.pairwise_cons.2 ⟨fun x hx => (ih.2 x hx).2.2 y rfl, ih.1⟩, fun x hx => ?_⟩
    rcases List.mem_cons.1 hx with rfl | hx
    · exact ⟨hy.1, hy.2, hp⟩
    · have := ih.2 x hx
      refine ⟨this.1, this.2.1, fun p e => ?_⟩
      have := hp p e
      have := (ih.2 x hx).2.2 y rfl
      omega
/-- A flight is in a stage, or a higher one. -/
def lateI (w : WatchW) (l : List MsgW) (t a : Int) : Bool := !((knownL l t).any (·.d)) && decide (contactI w.min (knownL l t) + w.every + a ≤ t)
theorem late_iff {w : WatchW} (ha : aftB none w.aft = true) (l : List MsgW) (t : Int) {i : Nat} (hi : i < w.aft.length) : lateI w l t (w.aft.getD i 0) = decide ((i : Int) + 1 ≤ stF w l t) := by
  unfold lateI stF stageI
  cases hd : (knownL l t).any (·.d)
  · have := cnt_le (aftB_sorted ha).1 (t - contactI w.min (knownL l t) - w.every) i hi
    have e : (w.aft.filter (lateB w (contactI w.min (knownL l t)) t)) = w.aft.filter fun a => decide (a ≤ t - contactI w.min (knownL l t) - w.every) := rfl
    rw [if_neg (by simp), e, Bool.eq_iff_iff]
    simp only [Bool.not_false, Bool.true_and, decide_eq_true_eq]
    constructor
    · intro h; have := this.2 (by omega); omega
    · intro h; have := this.1 (by omega); omega
  · rw [if_pos rfl, Bool.eq_iff_iff]
    simp only [Bool.not_true, Bool.false_and, Bool.false_eq_true, decide_eq_true_eq, false_iff]
    omega
/-! What calls are -/
theorem calls_mem {st : Int → Int} {mn : Int} {n : Nat} {x : Int × Int} : x ∈ callsF st mn n ↔ ∃ j : Nat, j < n ∧ x.1 = mn + (j : Int) ∧ lastF st mn j < x.2 ∧ x.2 ≤ st (mn + (j : Int)) := by
  unfold callsF blkF
  simp only [List.mem_flatMap, List.mem_range, List.mem_map]
  constructor
  · rintro ⟨j, hj, k, hk, rfl⟩
    exact ⟨j, hj, rfl, by simp only; omega, by simp only; omega⟩
  · rintro ⟨j, hj, h1, h2, h3⟩
    refine ⟨j, hj, (x.2 - lastF st mn j - 1).toNat, by omega, ?_⟩
    obtain ⟨a, b⟩ := x
    simp only at h1 h2 h3 ⊢
    rw [h1]
    congr 1
    omega
def cLt (a b : Int × Int) : Prop := a.1 < b.1 ∨ (a.1 = b.1 ∧ a.2 < b.2)
theorem calls_sorted (st : Int → Int) (mn : Int) : ∀ n, (callsF st mn n).Pairwise cLt
  | 0 => by simp [callsF]
  | n + 1 => by
    rw [callsF_succ, List.pairwise_append]
    refine ⟨calls_sorted st mn n, ?_, fun a ha b hb => ?_⟩
    · unfold blkF
      rw [List.pairwise_map]
      refine List.Pairwise.imp ?_ List.pairwise_lt_range
      intro a b hab
      exact .inr ⟨rfl, by simp only; omega⟩
    · obtain ⟨j, hj, h1, _⟩ := calls_mem.1 ha
      unfold blkF at hb
      simp only [List.mem_map, List.mem_range] at hb
      obtain ⟨k, _, rfl⟩ := hb
      exact .inl (by rw [h1]; simp only; omega)
theorem pw_adj {α : Type} {R : α → α → Prop} {l : List α} (h : l.Pairwise R) {i : Nat} {a b : α} (ha : l[i]? = some a) (hb : l[i + 1]? = some b) : R a b := by
  obtain ⟨h1, rfl⟩ := List.getElem?_eq_some_iff.1 ha
  obtain ⟨h2, rfl⟩ := List.getElem?_eq_some_iff.1 hb
  exact List.pairwise_iff_getElem.1 h i (i + 1) h1 h2 (by omega)
/-- How often a stage is newly reached. -/
def newB (st : Int → Int) (mn s : Int) (j : Nat) : Bool := decide (lastF st mn j < s) && decide (s ≤ st (mn + (j : Int)))
theorem blk_cnt (st : Int → Int) (mn la s : Int) (j : Nat) : (blkF st mn la j).countP (fun x => decide (x.2 = s)) = if la < s ∧ s ≤ st (mn + (j : Int)) then 1 else 0 := by
  unfold blkF
  rw [List.countP_map]
  have e : ((fun x : Int × Int => decide (x.2 = s)) ∘ fun k : Nat => (mn + (j : Int), la + 1 + (k : Int))) = fun k : Nat => decide (la + 1 + (k : Int) = s) := rfl
  rw [e]
  generalize st (mn + (j : Int)) = q
  obtain ⟨K, hK⟩ : ∃ K, (q - la).toNat = K := ⟨_, rfl⟩
  rw [hK]
  have key : ∀ K : Nat, (List.range K).countP (fun k : Nat => decide (la + 1 + (k : Int) = s)) = if la < s ∧ s ≤ la + (K : Int) then 1 else 0 := by
    intro K
    induction K with
    | zero =>
      rw [if_neg (by omega)]; rfl
    | succ K ih =>
      rw [List.range_succ, List.countP_append, ih]
      simp only [List.countP_singleton, decide_eq_true_eq]
      by_cases h1 : la < s ∧ s ≤ la + (K : Int)
      · rw [if_pos h1, if_neg (by omega), if_pos (by omega)]
      · rw [if_neg h1]
        by_cases h2 : la + 1 + (K : Int) = s
        · rw [if_pos h2, if_pos (by omega)]
        · rw [if_neg h2, if_neg (by omega)]
  rw [key]
  by_cases h : la < s ∧ s ≤ q
  · rw [if_pos h, if_pos (by omega)]
  · rw [if_neg h, if_neg (by omega)]
theorem calls_cnt (st : Int → Int) (mn s : Int) : ∀ n, (callsF st mn n).countP (fun x => decide (x.2 = s)) = (List.range n).countP (newB st mn s)
  | 0 => rfl
  | n + 1 => by
    rw [callsF_succ, List.countP_append, calls_cnt st mn s n, blk_cnt, List.range_succ, List.countP_append]
    congr 1
    simp only [List.countP_singleton, newB, Bool.and_eq_true, decide_eq_true_eq]
/-- Calls of a flight of which nothing is heard. -/
theorem calls_quiet {w : WatchW} (hw : WatchOk w) (ha : aftB none w.aft = true) : ∀ n, callsF (stF w []) w.min n = (List.range (lastF (stF w []) w.min n).toNat).map fun i : Nat => (w.min + w.every + w.aft.getD i 0, (i : Int) + 1)
  | 0 => rfl
  | n + 1 => by
    have hst : ∀ t, stF w [] t = ((w.aft.filter fun a => decide (a ≤ t - w.min - w.every)).length : Int) := fun t => rfl
    have hso := aftB_sorted ha
    rw [callsF_succ, calls_quiet hw ha n]
    have e1 : lastF (stF w []) w.min (n + 1) = stF w [] (w.min + n) := rfl
    rw [e1]
    have hcut : ∀ (t : Int) (i : Nat), (i : Int) < stF w [] t → i < w.aft.length ∧ w.aft.getD i 0 ≤ t - w.min - w.every := fun t i h => by
      rw [hst] at h
      have h1 := List.length_filter_le (fun a => decide (a ≤ t - w.min - w.every)) w.aft
      have h2 : i < w.aft.length := by omega
      exact ⟨h2, (cnt_le hso.1 _ i h2).1 (by omega)⟩
    have hcut2 : ∀ (t : Int) (i : Nat), i < w.aft.length → ¬ ((i : Int) < stF w [] t) → ¬ (w.aft.getD i 0 ≤ t - w.min - w.every) := fun t i h hn hle => by
      have := (cnt_le hso.1 _ i h).2 hle
      rw [hst] at hn
      omega
    have hla : 0 ≤ lastF (stF w []) w.min n ∧ lastF (stF w []) w.min n ≤ stF w [] (w.min + n) := by
      cases n with
      | zero => exact ⟨Int.le_refl _, by rw [hst]; exact Int.natCast_nonneg _⟩
      | succ n =>
        have e2 : lastF (stF w []) w.min (n + 1) = stF w [] (w.min + n) := rfl
        rw [e2]
        refine ⟨by rw [hst]; exact Int.natCast_nonneg _, ?_⟩
        refine Classical.byContradiction fun hc => ?_
        obtain ⟨i, hi⟩ : ∃ i : Nat, (i : Int) = stF w [] (w.min + ((n + 1 : Nat) : Int)) := ⟨(stF w [] (w.min + ((n + 1 : Nat) : Int))).toNat, by rw [hst]; rfl⟩
        obtain ⟨h1, h2⟩ := hcut (w.min + n) i (by omega)
        exact hcut2 (w.min + ((n + 1 : Nat) : Int)) i h1 (by omega) (by omega)
    obtain ⟨L, hL⟩ : ∃ L : Nat, lastF (stF w []) w.min n = (L : Int) := ⟨_, (Int.toNat_of_nonneg hla.1).symm⟩
    obtain ⟨S, hS⟩ : ∃ S : Nat, stF w [] (w.min + n) = (S : Int) := ⟨_, (Int.toNat_of_nonneg (by omega)).symm⟩
    have hLS : (L : Int) ≤ (S : Int) := by omega
    unfold blkF
    rw [hL, hS]
    have e3 : (List.range S) = List.range L ++ (List.range (S - L)).map (L + ·) := by
      rw [← List.range_add]; congr 1; omega
    rw [show ((S : Int) - (L : Int)).toNat = S - L by omega, Int.toNat_natCast, Int.toNat_natCast, e3, List.map_append, List.map_map]
    congr 1
    apply List.map_congr_left
    intro k hk
    have hk := List.mem_range.1 hk
    simp only [Function.comp, Prod.mk.injEq]
    obtain ⟨h1, h2⟩ := hcut (w.min + n) (L + k) (by rw [hS]; omega)
    have h3 : ¬ (w.aft.getD (L + k) 0 ≤ (n : Int) - 1 - w.every) := by
      cases n with
      | zero =>
        have := (hso.2 (w.aft.getD (L + k) 0) (gd_mem h1)).1
        have := hw.e
        simp only [Int.natCast_zero]
        omega
      | succ n =>
        have e2 : lastF (stF w []) w.min (n + 1) = stF w [] (w.min + n) := rfl
        rw [e2] at hL
        have := hcut2 (w.min + n) (L + k) h1 (by rw [hL]; omega)
        omega
    exact ⟨by omega, by omega⟩
end Go.Sx

namespace Go.Sx
set_option maxRecDepth 10000

/-! Neighbours, by distance -/
theorem free_ins {s : SkyW} {c : Int} (h : freeB s.sh c = true) : InS s c := free_in h
theorem nb_split {s : SkyW} {c t : Int} {j : Nat} (h : nbAt s.w s.d s.sh c j = some t) : nbOk s.w s.d s.sh c (j / 3) (j % 3) = true ∧ t = nbTo s.w c (j / 3) (j % 3) := by
  unfold nbAt at h
  split at h
  · rename_i h1; exact ⟨h1, by simpa using h.symm⟩
  · cases h
theorem nb_mem {s : SkyW} (hs : SkyOk s) {c : Int} (hc : InS s c) {t : Int} : t ∈ nbL s.w s.d s.sh c ↔ freeB s.sh t = true ∧ distI s.w t c = 1 := by
  have hw := hs.w
  constructor
  · intro ht
    refine ⟨nbL_in hs hc t ht, ?_⟩
    unfold nbL nbN at ht
    obtain ⟨j, hj, h⟩ := List.mem_filterMap.1 ht
    have hj := List.mem_range.1 hj
    obtain ⟨h1, h2⟩ := nb_split h
    unfold nbOk at h1
    simp only [Bool.and_eq_true] at h1
    obtain ⟨h3, h4, h5, _⟩ := h1
    obtain ⟨_, e1, e2⟩ := nb_in hs hc (i := j / 3) (k := j % 3) (by omega) (by omega) h4 h5
    rw [← h2] at e1 e2 h3
    unfold distI
    rw [e1, e2]
    have hne : ¬ (j / 3 = 1 ∧ j % 3 = 1) := by
      rintro ⟨a, b⟩
      rw [a, b] at h2
      simp only [nbTo] at h2
      simp at h3
      exact h3 (by rw [h2]; omega)
    omega
  · rintro ⟨hf, hd⟩
    have ht := free_ins hf
    have b1 := cell_b hs hc
    have b2 := cell_b hs ht
    have h1 := Int.emod_add_mul_ediv c s.w
    have h2 := Int.emod_add_mul_ediv t s.w
    unfold distI at hd
    obtain ⟨i, hi⟩ : ∃ i : Nat, (i : Int) = t / s.w - c / s.w + 1 := ⟨(t / s.w - c / s.w + 1).toNat, by omega⟩
    obtain ⟨k, hk⟩ : ∃ k : Nat, (k : Int) = t % s.w - c % s.w + 1 := ⟨(t % s.w - c % s.w + 1).toNat, by omega⟩
    have hto : nbTo s.w c i k = t := by
      unfold nbTo
      have e : ((i : Int) - 1) * s.w = s.w * (t / s.w) - s.w * (c / s.w) := by
        rw [hi, ← Int.mul_sub, Int.mul_comm]; congr 1; omega
      rw [e]; omega
    unfold nbL nbN
    refine List.mem_filterMap.2 ⟨3 * i + k, List.mem_range.2 (by omega), ?_⟩
    unfold nbAt
    rw [show (3 * i + k) / 3 = i by omega, show (3 * i + k) % 3 = k by omega, hto]
    rw [if_pos]
    unfold nbOk
    rw [hto]
    have hne : decide (t = c) = false := by
      simp; intro e; subst e; omega
    have hsh : isShut s.sh t = false := by
      unfold freeB at hf; simp at hf; simpa using hf.2
    rw [hne, hsh]
    simp [rI]
    omega
/-! What lies around -/
def FreeP (s : SkyW) (p : Int → Bool) : Prop := ∀ c, p c = true → freeB s.sh c = true
theorem aF_iff {s : SkyW} (hs : SkyOk s) {p : Int → Bool} {c : Int} : aF s p c = true ↔ p c = true ∨ (freeB s.sh c = true ∧ ∃ k, InS s k ∧ p k = true ∧ distI s.w c k = 1) := by
  unfold aF
  rw [Bool.or_eq_true, List.any_eq_true]
  refine or_congr Iff.rfl ⟨?_, ?_⟩
  · rintro ⟨k, hk, h⟩
    obtain ⟨t, ht, e⟩ := List.any_eq_true.1 h
    have e : t = c := by simpa using e
    subst e
    have hk := cellsF_mem.1 hk
    have := (nb_mem hs hk.1).1 ht
    exact ⟨this.1, k, hk.1, hk.2, this.2⟩
  · rintro ⟨hf, k, hk, hp, hd⟩
    exact ⟨k, cellsF_mem.2 ⟨hk, hp⟩, List.any_eq_true.2 ⟨c, (nb_mem hs hk).2 ⟨hf, hd⟩, by simp⟩⟩
theorem FreeP.aF {s : SkyW} (hs : SkyOk s) {p : Int → Bool} (hp : FreeP s p) : FreeP s (aF s p) := fun c hc => by
  rcases (aF_iff hs).1 hc with h | h
  · exact hp c h
  · exact h.1
/-! Sets as lists of truth values -/
end Go.Sx

namespace Go.Sx
set_option maxRecDepth 10000

/-! What a search is -/
/-- A way over free cells. -/
inductive Wy (s : SkyW) (frm : Int) : List Int → Int → Prop
  | one : freeB s.sh frm = true → Wy s frm [frm] frm
  | snoc (p : List Int) (y z : Int) : Wy s frm p y → freeB s.sh z = true → distI s.w y z = 1 → Wy s frm (p ++ [z]) z
/-- A list of cells is a search, computed. -/
def okB (s : SkyW) (p : List Int) (i : Nat) : Bool := freeB s.sh (nAt p i) && (decide (i = 0) || decide (distI s.w (nAt p (i - 1)) (nAt p i) = 1))
theorem nAt_app {p : List Int} {i : Nat} (h : i < p.length) (q : List Int) : nAt (p ++ q) i = nAt p i := by
  unfold nAt
  rw [gd_el (by simp; omega), gd_el h, List.getElem_append_left h]
theorem nAt_last (p : List Int) (z : Int) : nAt (p ++ [z]) p.length = z := by
  unfold nAt
  rw [gd_el (by simp)]
  simp
theorem Wy.at {s : SkyW} {frm : Int} {p : List Int} {y : Int} (h : Wy s frm p y) : 1 ≤ p.length ∧ nAt p 0 = frm ∧ nAt p (p.length - 1) = y ∧ ∀ i, i < p.length → okB s p i = true := by
  induction h with
  | one hf =>
    refine ⟨by simp, rfl, rfl, fun i hi => ?_⟩
    have : i = 0 := by simpa using hi
    subst this
    simp [okB, nAt, hf]
  | snoc p y z h1 h2 h3 ih =>
    obtain ⟨a, b, c, d⟩ := ih
    refine ⟨by simp, by rw [nAt_app (by omega)]; exact b, by rw [List.length_append, List.length_singleton, Nat.add_sub_cancel]; exact nAt_last p z, fun i hi => ?_⟩
    rw [List.length_append, List.length_singleton] at hi
    by_cases e : i < p.length
    · have := d i e
      unfold okB at this ⊢
      rw [nAt_app e, nAt_app (by omega)]; exact this
    · have : i = p.length := by omega
      subst this
      unfold okB
      rw [nAt_last, nAt_app (by omega), c]
      simp [h2, h3]
end Go.Sx

namespace Go.Sx
set_option maxRecDepth 10000

/-! Theory of routes -/
/-- What is at station s in minute m goes by the stations p, and is at e in minute a; 0 only at the end. -/
inductive Rw (A : Int → Int → Int → Int) (K : Nat) : Int → Int → List Int → Int → Int → Prop
  | one (s m : Int) : Rw A K s m [s] s m
  | cons (s m t : Int) (p : List Int) (e a : Int) : s ≠ 0 → 0 ≤ t → t < (K : Int) → 0 ≤ A s t m → Rw A K t (A s t m) p e a → Rw A K s m (s :: p) e a
section
variable {A : Int → Int → Int → Int} {K : Nat}
theorem Rw.hd {s m : Int} {p : List Int} {e a : Int} (h : Rw A K s m p e a) : ∃ r, p = s :: r := by
  cases h with
  | one => exact ⟨[], rfl⟩
  | cons s m t p e a _ _ _ _ _ => exact ⟨p, rfl⟩
theorem Rw.snoc {s m : Int} {p : List Int} {e a : Int} (h : Rw A K s m p e a) {t : Int} (he : e ≠ 0) (h0 : 0 ≤ t) (h1 : t < (K : Int)) (h2 : 0 ≤ A e t a) : Rw A K s m (p ++ [t]) t (A e t a) := by
  induction h with
  | one s m => exact .cons s m t [t] t _ he h0 h1 h2 (.one t _)
  | cons s m u p e a g0 g1 g2 g3 _ ih => exact .cons s m u _ _ _ g0 g1 g2 g3 (ih he h2)
theorem Rw.rt {at0 : MpI} {s m : Int} {p : List Int} {e a : Int} (h : Rw A K s m p e a) (hr : Rt A K at0 s m) : Rt A K at0 e a := by
  induction h with
  | one s m => exact hr
  | cons s m t p e a g0 g1 g2 g3 _ ih => exact ih (.step s m t hr g0 g1 g2 g3)
theorem Rw.mono (hA : AOk A) {s m' : Int} {p : List Int} {e a' : Int} (h : Rw A K s m' p e a') : ∀ {m : Int}, m ≤ m' → ∃ a, a ≤ a' ∧ Rw A K s m p e a := by
  induction h with
  | one s m' => intro m hm; exact ⟨m, hm, .one s m⟩
  | cons s m' t p e a g0 g1 g2 g3 _ ih =>
    intro m hm
    obtain ⟨q1, q2⟩ := hA.mono s t m m' hm g3
    obtain ⟨a1, h1, h2⟩ := ih q2
    exact ⟨a1, h1, .cons s m t p e a1 g0 g1 g2 q1 h2⟩
end

/-! What arrives -/
end Go.Sx
