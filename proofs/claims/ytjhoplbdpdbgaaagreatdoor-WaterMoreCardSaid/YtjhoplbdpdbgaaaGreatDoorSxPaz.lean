/- Plain laws of gauges: clashes, bounds, courses. Own work. -/
import Derived.Test.YtjhoplbdpdbgaaaGreatDoorSxC6z
set_option linter.unusedVariables false
set_option linter.unusedSimpArgs false
namespace Go.Sx

theorem atG_lo (c t v : Int) : ∀ (rs : List Rd) (lo hi : Int), (atG c lo hi rs t).1 ≤ v ↔ lo ≤ v ∧ ∀ r ∈ rs, r.lo - c * bFar r.minute t ≤ v
  | [], lo, hi => by simp [atG]
  | r :: rs, lo, hi => by
    have h := atG_lo c t v rs (max lo (r.lo - c * bFar r.minute t)) (min hi (r.hi + c * bFar r.minute t))
    have e : atG c lo hi (r :: rs) t = atG c (max lo (r.lo - c * bFar r.minute t)) (min hi (r.hi + c * bFar r.minute t)) rs t := rfl
    rw [e, h]
    simp only [List.mem_cons, forall_eq_or_imp]
    constructor
    · rintro ⟨h1, h2⟩; exact ⟨by omega, by omega, h2⟩
    · rintro ⟨h1, h2, h3⟩; exact ⟨by omega, h3⟩
theorem atG_hi (c t v : Int) : ∀ (rs : List Rd) (lo hi : Int), v ≤ (atG c lo hi rs t).2 ↔ v ≤ hi ∧ ∀ r ∈ rs, v ≤ r.hi + c * bFar r.minute t
  | [], lo, hi => by simp [atG]
  | r :: rs, lo, hi => by
    have h := atG_hi c t v rs (max lo (r.lo - c * bFar r.minute t)) (min hi (r.hi + c * bFar r.minute t))
    have e : atG c lo hi (r :: rs) t = atG c (max lo (r.lo - c * bFar r.minute t)) (min hi (r.hi + c * bFar r.minute t)) rs t := rfl
    rw [e, h]
    simp only [List.mem_cons, forall_eq_or_imp]
    constructor
    · rintro ⟨h1, h2⟩; exact ⟨by omega, by omega, h2⟩
    · rintro ⟨h1, h2, h3⟩; exact ⟨by omega, h3⟩

theorem inner_ge {g : Ga} {r : Rd} : ∀ {l : List Rd} {i j : Nat}, inner g r l i = some j → i ≤ j ∧ j < i + l.length
  | [], i, j, h => by simp [inner] at h
  | s :: l, i, j, h => by
    simp only [inner] at h
    split at h
    · cases h; simp
    · have := inner_ge h; simp; omega
theorem inner_mem {g : Ga} {r : Rd} : ∀ {l : List Rd} {i j : Nat}, inner g r l i = some j → ∃ s ∈ l, pairB g r s = true
  | [], i, j, h => by simp [inner] at h
  | s :: l, i, j, h => by
    simp only [inner] at h
    split at h
    · rename_i hp; exact ⟨s, by simp, hp⟩
    · obtain ⟨q, h1, h2⟩ := inner_mem h; exact ⟨q, by simp [h1], h2⟩
theorem inner_none {g : Ga} {r : Rd} : ∀ {l : List Rd} {i : Nat}, inner g r l i = none → ∀ s ∈ l, pairB g r s = false
  | [], i, h, s, hs => by cases hs
  | q :: l, i, h, s, hs => by
    simp only [inner] at h
    split at h
    · cases h
    · rename_i hp
      rcases List.mem_cons.1 hs with rfl | hs
      · simpa using hp
      · exact inner_none h s hs

theorem outer_yes {g : Ga} : ∀ {l : List Rd} {i : Nat}, (outer g l i).2.2 = true →
    (((i : Int) ≤ (outer g l i).1 ∧ (outer g l i).1 ≤ (outer g l i).2.1 ∧ (outer g l i).2.1 < (i : Int) + l.length) ∧ ((∃ r ∈ l, single g r = true) ∨ ∃ r ∈ l, ∃ s ∈ l, pairB g r s = true))
  | [], i, h => by simp [outer] at h
  | r :: l, i, h => by
    simp only [outer] at h ⊢
    by_cases hs : single g r = true
    · simp only [hs, if_true] at h ⊢
      exact ⟨by simp; omega, .inl ⟨r, by simp, hs⟩⟩
    · simp only [hs, if_false] at h ⊢
      cases hi : inner g r l (i + 1) with
      | some j =>
        have := inner_ge hi
        obtain ⟨s, h1, h2⟩ := inner_mem hi
        refine ⟨by simp; omega, .inr ⟨r, by simp, s, by simp [h1], h2⟩⟩
      | none =>
        rw [hi] at h
        obtain ⟨h1, h2⟩ := outer_yes h
        refine ⟨by simp at h1 ⊢; omega, ?_⟩
        rcases h2 with ⟨q, a, b⟩ | ⟨q, a, s, b, c⟩
        · exact .inl ⟨q, by simp [a], b⟩
        · exact .inr ⟨q, by simp [a], s, by simp [b], c⟩

theorem pairB_symm (g : Ga) (r s : Rd) : pairB g r s = pairB g s r := by
  simp only [pairB]
  have h1 : bFar r.minute s.minute = bFar s.minute r.minute := by simp only [bFar]; omega
  have h2 : max (r.lo - s.hi) (s.lo - r.hi) = max (s.lo - r.hi) (r.lo - s.hi) := by omega
  rw [h1, h2]

theorem outer_no {g : Ga} : ∀ {l : List Rd} {i : Nat}, (∀ r ∈ l, r.lo ≤ r.hi) → (outer g l i).2.2 = false → (∀ r ∈ l, single g r = false) ∧ ∀ r ∈ l, ∀ s ∈ l, pairB g r s = false
  | [], i, _, h => by simp
  | q :: l, i, hv, h => by
    simp only [outer] at h
    by_cases hs : single g q = true
    · simp [hs] at h
    · simp only [hs, if_false] at h
      cases hi : inner g q l (i + 1) with
      | some j => rw [hi] at h; simp at h
      | none =>
        rw [hi] at h
        obtain ⟨h1, h2⟩ := outer_no (fun r hr => hv r (by simp [hr])) h
        have h3 := inner_none hi
        refine ⟨fun r hr => ?_, fun r hr s hs' => ?_⟩
        · rcases List.mem_cons.1 hr with rfl | hr
          · simpa using hs
          · exact h1 r hr
        · rcases List.mem_cons.1 hr with hrq | hr <;> rcases List.mem_cons.1 hs' with hsq | hs'
          · rw [hrq, hsq]
            have := hv q (by simp)
            have h0 : bFar q.minute q.minute = 0 := by simp only [bFar]; omega
            simp only [pairB, h0, Int.mul_zero, decide_eq_false_iff_not]; omega
          · rw [hrq]; exact h3 s hs'
          · rw [hsq, pairB_symm]; exact h3 r hr
          · exact h2 r hr s hs'

/-! Courses -/
theorem fit_inv {g : Ga} {cs : List Int} (h : fitB g cs = true) : cs.length = 1441 ∧ (∀ i : Nat, i < 1441 → g.least ≤ iAt cs i ∧ iAt cs i ≤ g.most) ∧
    (∀ i : Nat, i + 1 < 1441 → iAt cs ((i + 1 : Nat) : Int) - iAt cs i ≤ g.rate ∧ iAt cs i - iAt cs ((i + 1 : Nat) : Int) ≤ g.rate) ∧ ∀ r ∈ g.rs, r.lo ≤ iAt cs r.minute ∧ iAt cs r.minute ≤ r.hi := by
  simp only [fitB, Bool.and_eq_true, decide_eq_true_eq, List.all_eq_true, List.mem_range] at h
  obtain ⟨h1, h2, h3⟩ := h
  refine ⟨h1, fun i hi => ?_, fun i hi => ?_, fun r hr => ?_⟩
  · have := h2 i hi
    simp only [stepB, Bool.and_eq_true, bIn, decide_eq_true_eq] at this
    exact this.1
  · have := h2 (i + 1) hi
    simp only [stepB, Bool.and_eq_true, Bool.or_eq_true, decide_eq_true_eq] at this
    have h4 := this.2
    rw [show ((i + 1 : Nat) : Int) - 1 = (i : Int) by omega] at h4
    simp only [bFar] at h4
    omega
  · have := h3 r hr
    simpa [meetR, bIn] using this

theorem fit_of {g : Ga} {cs : List Int} (h1 : cs.length = 1441) (h2 : ∀ i : Nat, i < 1441 → g.least ≤ iAt cs i ∧ iAt cs i ≤ g.most)
    (h3 : ∀ i : Nat, i + 1 < 1441 → iAt cs ((i + 1 : Nat) : Int) - iAt cs i ≤ g.rate ∧ iAt cs i - iAt cs ((i + 1 : Nat) : Int) ≤ g.rate) (h4 : ∀ r ∈ g.rs, r.lo ≤ iAt cs r.minute ∧ iAt cs r.minute ≤ r.hi) : fitB g cs = true := by
  simp only [fitB, Bool.and_eq_true, decide_eq_true_eq, List.all_eq_true, List.mem_range]
  refine ⟨h1, fun i hi => ?_, fun r hr => ?_⟩
  · simp only [stepB, Bool.and_eq_true, Bool.or_eq_true, bIn, decide_eq_true_eq]
    refine ⟨h2 i hi, ?_⟩
    cases i with
    | zero => exact .inl rfl
    | succ i =>
      right
      have := h3 i hi
      rw [show ((i + 1 : Nat) : Int) - 1 = (i : Int) by omega]
      simp only [bFar]
      omega
  · simpa [meetR, bIn] using h4 r hr

theorem lip {g : Ga} {f : Int → Int} (hr : 0 ≤ g.rate) (h3 : ∀ i : Nat, i + 1 < 1441 → f ((i + 1 : Nat) : Int) - f i ≤ g.rate ∧ f i - f ((i + 1 : Nat) : Int) ≤ g.rate) (i : Nat) : ∀ k : Nat, i + k < 1441 →
    f ((i + k : Nat) : Int) - f i ≤ g.rate * k ∧ f i - f ((i + k : Nat) : Int) ≤ g.rate * k
  | 0, _ => by simp
  | k + 1, h => by
    have h1 := lip hr h3 i k (by omega)
    have h2 := h3 (i + k) (by omega)
    rw [show i + (k + 1) = i + k + 1 by omega]
    have : g.rate * ((k + 1 : Nat) : Int) = g.rate * k + g.rate := by
      rw [show ((k + 1 : Nat) : Int) = (k : Int) + 1 by omega, Int.mul_add, Int.mul_one]
    rw [this]
    omega

theorem lip_far {g : Ga} {f : Int → Int} (hr : 0 ≤ g.rate) (h3 : ∀ i : Nat, i + 1 < 1441 → f ((i + 1 : Nat) : Int) - f i ≤ g.rate ∧ f i - f ((i + 1 : Nat) : Int) ≤ g.rate) {x y : Int} (hx : 0 ≤ x ∧ x ≤ 1440) (hy : 0 ≤ y ∧ y ≤ 1440) :
    f x - f y ≤ g.rate * bFar x y := by
  obtain ⟨a, rfl⟩ := Int.eq_ofNat_of_zero_le hx.1
  obtain ⟨b, rfl⟩ := Int.eq_ofNat_of_zero_le hy.1
  rcases Nat.le_total a b with h | h
  · obtain ⟨k, rfl⟩ := Nat.exists_eq_add_of_le h
    have := lip hr h3 a k (by omega)
    have he : bFar (a : Int) ((a + k : Nat) : Int) = k := by simp only [bFar]; omega
    rw [he]; exact this.2
  · obtain ⟨k, rfl⟩ := Nat.exists_eq_add_of_le h
    have := lip hr h3 b k (by omega)
    have he : bFar ((b + k : Nat) : Int) (b : Int) = k := by simp only [bFar]; omega
    rw [he]; exact this.1

/-- A course lies in the bounds of every minute. -/
theorem fit_bounds {g : Ga} {cs : List Int} (hga : gaOk g = true) (h : fitB g cs = true) {t : Int} (ht : 0 ≤ t ∧ t ≤ 1440) :
    (atG g.rate g.least g.most g.rs t).1 ≤ iAt cs t ∧ iAt cs t ≤ (atG g.rate g.least g.most g.rs t).2 := by
  obtain ⟨hrs, hrate, hspan, _⟩ := gaOk_inv hga
  obtain ⟨h1, h2, h3, h4⟩ := fit_inv h
  obtain ⟨n, rfl⟩ := Int.eq_ofNat_of_zero_le ht.1
  have h5 := h2 n (by omega)
  rw [atG_lo, atG_hi]
  refine ⟨⟨h5.1, fun r hr => ?_⟩, h5.2, fun r hr => ?_⟩
  · have := lip_far (g := g) (f := iAt cs) hrate.1 h3 (hrs r hr).1 ht
    have := h4 r hr
    omega
  · have := lip_far (g := g) (f := iAt cs) hrate.1 h3 ht (hrs r hr).1
    have hs : bFar (n : Int) r.minute = bFar r.minute (n : Int) := by simp only [bFar]; omega
    rw [hs] at this
    have := h4 r hr
    omega

/-- Readings that clash have no course. -/
theorem fit_clash {g : Ga} {cs : List Int} (hga : gaOk g = true) (h : fitB g cs = true) : (clashG g).2.2 = false := by
  obtain ⟨hrs, hrate, hspan, _⟩ := gaOk_inv hga
  obtain ⟨h1, h2, h3, h4⟩ := fit_inv h
  cases hc : (clashG g).2.2 with
  | false => rfl
  | true =>
    exfalso
    rcases (outer_yes hc).2 with ⟨r, hr, hs⟩ | ⟨r, hr, s, hs, hp⟩
    · obtain ⟨n, hn⟩ := Int.eq_ofNat_of_zero_le (hrs r hr).1.1
      have h5 := h2 n (by have := (hrs r hr).1.2; omega)
      rw [show (n : Int) = r.minute from hn.symm] at h5
      have := h4 r hr
      simp only [single, Bool.or_eq_true, decide_eq_true_eq] at hs
      omega
    · have l1 := lip_far (g := g) (f := iAt cs) hrate.1 h3 (hrs r hr).1 (hrs s hs).1
      have l2 := lip_far (g := g) (f := iAt cs) hrate.1 h3 (hrs s hs).1 (hrs r hr).1
      have he : bFar s.minute r.minute = bFar r.minute s.minute := by simp only [bFar]; omega
      rw [he] at l2
      have a1 := h4 r hr
      have a2 := h4 s hs
      simp only [pairB, decide_eq_true_eq] at hp
      omega

def lowL (g : Ga) (n : Nat) : List Int := (List.range n).map fun t : Nat => (atG g.rate g.least g.most g.rs t).1
def highL (g : Ga) (n : Nat) : List Int := (List.range n).map fun t : Nat => (atG g.rate g.least g.most g.rs t).2
theorem iAt_map {f : Nat → Int} {n : Nat} {t : Int} (h0 : 0 ≤ t) (h1 : t < n) : iAt ((List.range n).map f) t = f t.toNat := by
  simp only [iAt]
  rw [List.getD_eq_getElem?_getD, List.getElem?_map, List.getElem?_range (by omega)]
  rfl

theorem far_step (r : Rd) (c : Int) (hc : 0 ≤ c) (i : Nat) : c * bFar r.minute i ≤ c * bFar r.minute ((i + 1 : Nat) : Int) + c ∧ c * bFar r.minute ((i + 1 : Nat) : Int) ≤ c * bFar r.minute i + c := by
  have h1 : bFar r.minute i ≤ bFar r.minute ((i + 1 : Nat) : Int) + 1 := by simp only [bFar]; omega
  have h2 : bFar r.minute ((i + 1 : Nat) : Int) ≤ bFar r.minute i + 1 := by simp only [bFar]; omega
  have a1 := Int.mul_le_mul_of_nonneg_left h1 hc
  have a2 := Int.mul_le_mul_of_nonneg_left h2 hc
  rw [Int.mul_add, Int.mul_one] at a1 a2
  exact ⟨a1, a2⟩

theorem far_nonneg (c x y : Int) (hc : 0 ≤ c) : 0 ≤ c * bFar x y := Int.mul_nonneg hc (by simp only [bFar]; omega)

/-- The lower bounds of a gauge whose readings do not clash are a course, and so are the upper ones. -/
theorem low_fits {g : Ga} (hga : gaOk g = true) (hn : (clashG g).2.2 = false) : fitB g (lowL g 1441) = true := by
  obtain ⟨hrs, hrate, hspan, _⟩ := gaOk_inv hga
  obtain ⟨hs, hp⟩ := outer_no (fun r hr => (hrs r hr).2.1.2.1) hn
  have hself := fun t : Int => (atG_lo g.rate t _ g.rs g.least g.most).1 (Int.le_refl _)
  have hat : ∀ i : Nat, i < 1441 → iAt (lowL g 1441) i = (atG g.rate g.least g.most g.rs i).1 := fun i hi => by
    rw [lowL, iAt_map (by omega) (by omega)]; simp
  refine fit_of (by simp [lowL]) (fun i hi => ?_) (fun i hi => ?_) fun r hr => ?_
  · rw [hat i hi]
    refine ⟨(hself i).1, ?_⟩
    rw [atG_lo]
    refine ⟨hspan.2.1, fun r hr => ?_⟩
    have := hs r hr
    simp only [single, Bool.or_eq_false_iff, decide_eq_false_iff_not] at this
    have := far_nonneg g.rate r.minute i hrate.1
    omega
  · rw [hat i (by omega), hat (i + 1) hi]
    have k1 : (atG g.rate g.least g.most g.rs ((i + 1 : Nat) : Int)).1 ≤ (atG g.rate g.least g.most g.rs i).1 + g.rate := by
      rw [atG_lo]
      refine ⟨by have := (hself i).1; omega, fun r hr => ?_⟩
      have := (hself i).2 r hr
      have := (far_step r g.rate hrate.1 i).1
      omega
    have k2 : (atG g.rate g.least g.most g.rs i).1 ≤ (atG g.rate g.least g.most g.rs ((i + 1 : Nat) : Int)).1 + g.rate := by
      rw [atG_lo]
      refine ⟨by have := (hself ((i + 1 : Nat) : Int)).1; omega, fun r hr => ?_⟩
      have := (hself ((i + 1 : Nat) : Int)).2 r hr
      have := (far_step r g.rate hrate.1 i).2
      omega
    omega
  · obtain ⟨n, hm⟩ := Int.eq_ofNat_of_zero_le (hrs r hr).1.1
    have hm' : r.minute = (n : Int) := hm
    have hat' : iAt (lowL g 1441) r.minute = (atG g.rate g.least g.most g.rs r.minute).1 := by
      rw [hm']; exact hat n (by have := (hrs r hr).1.2; omega)
    rw [hat']
    refine ⟨?_, ?_⟩
    · have := (hself r.minute).2 r hr
      have h0 : bFar r.minute r.minute = 0 := by simp only [bFar]; omega
      rw [h0, Int.mul_zero] at this
      omega
    · rw [atG_lo]
      refine ⟨?_, fun s hs' => ?_⟩
      · have := hs r hr
        simp only [single, Bool.or_eq_false_iff, decide_eq_false_iff_not] at this
        omega
      · have := hp s hs' r hr
        simp only [pairB, decide_eq_false_iff_not] at this
        omega

theorem high_fits {g : Ga} (hga : gaOk g = true) (hn : (clashG g).2.2 = false) : fitB g (highL g 1441) = true := by
  obtain ⟨hrs, hrate, hspan, _⟩ := gaOk_inv hga
  obtain ⟨hs, hp⟩ := outer_no (fun r hr => (hrs r hr).2.1.2.1) hn
  have hself := fun t : Int => (atG_hi g.rate t _ g.rs g.least g.most).1 (Int.le_refl _)
  have hat : ∀ i : Nat, i < 1441 → iAt (highL g 1441) i = (atG g.rate g.least g.most g.rs i).2 := fun i hi => by
    rw [highL, iAt_map (by omega) (by omega)]; simp
  refine fit_of (by simp [highL]) (fun i hi => ?_) (fun i hi => ?_) fun r hr => ?_
  · rw [hat i hi]
    refine ⟨?_, (hself i).1⟩
    rw [atG_hi]
    refine ⟨hspan.2.1, fun r hr => ?_⟩
    have := hs r hr
    simp only [single, Bool.or_eq_false_iff, decide_eq_false_iff_not] at this
    have := far_nonneg g.rate r.minute i hrate.1
    omega
  · rw [hat i (by omega), hat (i + 1) hi]
    have k1 : (atG g.rate g.least g.most g.rs i).2 - g.rate ≤ (atG g.rate g.least g.most g.rs ((i + 1 : Nat) : Int)).2 := by
      rw [atG_hi]
      refine ⟨by have := (hself i).1; omega, fun r hr => ?_⟩
      have := (hself i).2 r hr
      have := (far_step r g.rate hrate.1 i).1
      omega
    have k2 : (atG g.rate g.least g.most g.rs ((i + 1 : Nat) : Int)).2 - g.rate ≤ (atG g.rate g.least g.most g.rs i).2 := by
      rw [atG_hi]
      refine ⟨by have := (hself ((i + 1 : Nat) : Int)).1; omega, fun r hr => ?_⟩
      have := (hself ((i + 1 : Nat) : Int)).2 r hr
      have := (far_step r g.rate hrate.1 i).2
      omega
    omega
  · obtain ⟨n, hm⟩ := Int.eq_ofNat_of_zero_le (hrs r hr).1.1
    have hm' : r.minute = (n : Int) := hm
    have hat' : iAt (highL g 1441) r.minute = (atG g.rate g.least g.most g.rs r.minute).2 := by
      rw [hm']; exact hat n (by have := (hrs r hr).1.2; omega)
    rw [hat']
    refine ⟨?_, ?_⟩
    · rw [atG_hi]
      refine ⟨?_, fun s hs' => ?_⟩
      · have := hs r hr
        simp only [single, Bool.or_eq_false_iff, decide_eq_false_iff_not] at this
        omega
      · have := hp s hs' r hr
        simp only [pairB, decide_eq_false_iff_not] at this
        omega
    · have := (hself r.minute).2 r hr
      have h0 : bFar r.minute r.minute = 0 := by simp only [bFar]; omega
      rw [h0, Int.mul_zero] at this
      omega
end Go.Sx
