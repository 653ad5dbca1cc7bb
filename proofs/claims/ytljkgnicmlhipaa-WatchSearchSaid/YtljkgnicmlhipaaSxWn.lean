/- Own work: a calculus of contracts for the programs of this kit: parts SxW46w, SxW47w, SxW48w, SxW49w. -/
import Derived.Test.YtljkgnicmlhipaaSxW43w
set_option linter.unusedVariables false
set_option linter.unusedSimpArgs false
namespace Go.Sx
set_option maxRecDepth 10000

/-! Plain theory of calls -/
theorem gd_el {l : List Int} {i : Nat} (h : i < l.length) : l.getD i 0 = l[i] := by simp [List.getD_eq_getElem?_getD, h]
/-! What calls are -/
end Go.Sx

namespace Go.Sx
set_option maxRecDepth 10000

/-! Neighbours, by distance -/
theorem free_ins {s : SkyW} {c : Int} (h : freeB s.sh c = true) : InS s c := free_in h
theorem nb_split {s : SkyW} {c t : Int} {j : Nat} (h : nbAt s.w s.d s.sh c j = some t) : nbOk s.w s.d s.sh c (j / 3) (j % 3) = true ∧ t = nbTo s.w c (j / 3) (j % 3) := by
  unfold nbAt at h
  split at h
  · rename_i h1; exact ⟨h1, by simpa using h.symm⟩
  · cases h
theorem dist_comm (w a b : Int) : distI w a b = distI w b a := by unfold distI; omega
theorem nb_mem {s : SkyW} (hs : SkyOk s) {c : Int} (hc : InS s c) {t : Int} : t ∈ nbL s.w s.d s.sh c ↔ freeB s.sh t = true ∧ distI s.w t c = 1 := by
  have hw := hs.w
  constructor
  · intro ht
    refine ⟨nbL_in hs hc t ht, ?_⟩
    unfold nbL nbN at ht
    obtain ⟨j, hj, h⟩ := List.mem_filterMap.1 ht
    have hj := List.mem_range.1 hj
    obtain ⟨h1, h2⟩ := nb_split h
    unfold nbOk at h1
    simp only [Bool.and_eq_true] at h1
    obtain ⟨h3, h4, h5, _⟩ := h1
    obtain ⟨_, e1, e2⟩ := nb_in hs hc (i := j / 3) (k := j % 3) (by omega) (by omega) h4 h5
    rw [← h2] at e1 e2 h3
    unfold distI
    rw [e1, e2]
    have hne : ¬ (j / 3 = 1 ∧ j % 3 = 1) := by
      rintro ⟨a, b⟩
      rw [a, b] at h2
      simp only [nbTo] at h2
      simp at h3
      exact h3 (by rw [h2]; omega)
    omega
  · rintro ⟨hf, hd⟩
    have ht := free_ins hf
    have b1 := cell_b hs hc
    have b2 := cell_b hs ht
    have h1 := Int.emod_add_mul_ediv c s.w
    have h2 := Int.emod_add_mul_ediv t s.w
    unfold distI at hd
    obtain ⟨i, hi⟩ : ∃ i : Nat, (i : Int) = t / s.w - c / s.w + 1 := ⟨(t / s.w - c / s.w + 1).toNat, by omega⟩
    obtain ⟨k, hk⟩ : ∃ k : Nat, (k : Int) = t % s.w - c % s.w + 1 := ⟨(t % s.w - c % s.w + 1).toNat, by omega⟩
    have hto : nbTo s.w c i k = t := by
      unfold nbTo
      have e : ((i : Int) - 1) * s.w = s.w * (t / s.w) - s.w * (c / s.w) := by
        rw [hi, ← Int.mul_sub, Int.mul_comm]; congr 1; omega
      rw [e]; omega
    unfold nbL nbN
    refine List.mem_filterMap.2 ⟨3 * i + k, List.mem_range.2 (by omega), ?_⟩
    unfold nbAt
    rw [show (3 * i + k) / 3 = i by omega, show (3 * i + k) % 3 = k by omega, hto]
    rw [if_pos]
    unfold nbOk
    rw [hto]
    have hne : decide (t = c) = false := by
      simp; intro e; subst e; omega
    have hsh : isShut s.sh t = false := by
      unfold freeB at hf; simp at hf; simpa using hf.2
    rw [hne, hsh]
    simp [rI]
    omega
/-! What lies around -/
def FreeP (s : SkyW) (p : Int → Bool) : Prop := ∀ c, p c = true → freeB s.sh c = true
theorem aF_iff {s : SkyW} (hs : SkyOk s) {p : Int → Bool} {c : Int} : aF s p c = true ↔ p c = true ∨ (freeB s.sh c = true ∧ ∃ k, InS s k ∧ p k = true ∧ distI s.w c k = 1) := by
  unfold aF
  rw [Bool.or_eq_true, List.any_eq_true]
  refine or_congr Iff.rfl ⟨?_, ?_⟩
  · rintro ⟨k, hk, h⟩
    obtain ⟨t, ht, e⟩ := List.any_eq_true.1 h
    have e : t = c := by simpa using e
    subst e
    have hk := cellsF_mem.1 hk
    have := (nb_mem hs hk.1).1 ht
    exact ⟨this.1, k, hk.1, hk.2, this.2⟩
  · rintro ⟨hf, k, hk, hp, hd⟩
    exact ⟨k, cellsF_mem.2 ⟨hk, hp⟩, List.any_eq_true.2 ⟨c, (nb_mem hs hk).2 ⟨hf, hd⟩, by simp⟩⟩
theorem FreeP.aF {s : SkyW} (hs : SkyOk s) {p : Int → Bool} (hp : FreeP s p) : FreeP s (aF s p) := fun c hc => by
  rcases (aF_iff hs).1 hc with h | h
  · exact hp c h
  · exact h.1
/-! Sets as lists of truth values -/
end Go.Sx

namespace Go.Sx
set_option maxRecDepth 10000

/-! What a search is -/
theorem nb_in' {s : SkyW} (hs : SkyOk s) {c : Int} {i k : Nat} (h1 : rI (c % s.w + ((k : Int) - 1)) 0 (s.w - 1) = true) (h2 : rI (c / s.w + ((i : Int) - 1)) 0 (s.d - 1) = true) :
    InS s (nbTo s.w c i k) ∧ nbTo s.w c i k % s.w = c % s.w + ((k : Int) - 1) ∧ nbTo s.w c i k / s.w = c / s.w + ((i : Int) - 1) := by
  have hw := hs.w
  have h1 := rI_le h1
  have h2 := rI_le h2
  have e : nbTo s.w c i k = (c % s.w + ((k : Int) - 1)) + s.w * (c / s.w + ((i : Int) - 1)) := by
    have := Int.emod_add_mul_ediv c s.w
    unfold nbTo
    rw [Int.mul_add, Int.mul_comm s.w ((i : Int) - 1)]
    omega
  rw [e]
  generalize c % s.w + ((k : Int) - 1) = p at *
  generalize c / s.w + ((i : Int) - 1) = q at *
  refine ⟨⟨?_, ?_⟩, ?_, ?_⟩
  · have := Int.mul_nonneg (show 0 ≤ s.w by omega) h2.1; omega
  · rw [hs.n]
    have : s.w * q ≤ s.w * (s.d - 1) := Int.mul_le_mul_of_nonneg_left h2.2 (by omega)
    rw [Int.mul_sub] at this
    omega
  · rw [Int.add_mul_emod_self_left]; exact Int.emod_eq_of_lt h1.1 (by omega)
  · rw [Int.add_mul_ediv_left _ _ (by omega), Int.ediv_eq_zero_of_lt h1.1 (by omega)]; omega
theorem nb_sorted' {s : SkyW} (hs : SkyOk s) (c : Int) : (nbL s.w s.d s.sh c).Pairwise (· < ·) := by
  have hw := hs.w
  unfold nbL nbN
  rw [List.pairwise_filterMap]
  refine List.Pairwise.imp_of_mem ?_ List.pairwise_lt_range
  intro j j' hj hj' hlt t ht t' ht'
  have hj := List.mem_range.1 hj
  have hj' := List.mem_range.1 hj'
  obtain ⟨h1, h2⟩ := nb_split ht
  obtain ⟨h1', h2'⟩ := nb_split ht'
  unfold nbOk at h1 h1'
  simp only [Bool.and_eq_true] at h1 h1'
  obtain ⟨i1, e1, e2⟩ := nb_in' hs (i := j / 3) (k := j % 3) h1.2.1 h1.2.2.1
  obtain ⟨i2, e1', e2'⟩ := nb_in' hs (i := j' / 3) (k := j' % 3) h1'.2.1 h1'.2.2.1
  rw [← h2] at e1 e2 i1
  rw [← h2'] at e1' e2' i2
  have b1 := cell_b hs i1
  have b2 := cell_b hs i2
  have g1 := Int.emod_add_mul_ediv t s.w
  have g2 := Int.emod_add_mul_ediv t' s.w
  by_cases e : j / 3 = j' / 3
  · have : t / s.w = t' / s.w := by omega
    rw [this] at g1
    omega
  · have hq : t / s.w + 1 ≤ t' / s.w := by omega
    have := Int.mul_le_mul_of_nonneg_left hq (show 0 ≤ s.w by omega)
    rw [Int.mul_add, Int.mul_one] at this
    omega
theorem suc_sorted {s : SkyW} (hs : SkyOk s) (l : List Int) (y : Pr) : (sucP s l y).Pairwise fun a b => a.1 < b.1 := by
  unfold sucP
  rw [List.pairwise_map]
  exact nb_sorted' hs y.1
theorem search_some {s : SkyW} (hs : SkyOk s) {frm : Int} {l p : List Int} (h : searchO s frm l = some p) :
    ∃ y, Lw (sucP s l) (begP l frm) p y ∧ y.2 = allI l ∧ ∀ w z, Lw (sucP s l) (begP l frm) w z → z.2 = allI l → lessB w p = false :=
  bfs_spec (suc_sorted hs l) SFUEL bok_start p h
theorem search_none {s : SkyW} (hs : SkyOk s) {frm : Int} (hf : freeB s.sh frm = true) {l : List Int} (hl : l.length ≤ 8) (h : searchO s frm l = none) :
    ∀ w z, Lw (sucP s l) (begP l frm) w z → z.2 ≠ allI l := by
  have hb := beg_in (s := s) (l := l) hf
  have hN := hs.le
  have h8 := pow_lt8 hl
  refine bfs_none (N := s.sh.length) (K := 2 ^ l.length) (suc_sorted hs l) (fun y hy z hz => sucP_in hs hy z hz) SFUEL bok_start ⟨by simp, fun y hy => by simp at hy; subst hy; exact hb⟩ ?_ h
  have : s.sh.length * 2 ^ l.length ≤ 144 * 256 := Nat.mul_le_mul (by omega) h8
  simp only [SFUEL, List.length_cons, List.length_nil]
  omega
theorem withAt_bit (l : List Int) (b : Nat) (c : Int) : ∀ n i : Nat, (withAt l b c n).testBit i = (b.testBit i || (decide (i < n) && decide (l.getD i 0 = c)))
  | 0, i => by simp [withAt]
  | n + 1, i => by
    rw [withAt_succ]
    unfold bitS
    by_cases h : l.getD n 0 = c
    · rw [if_pos h, Nat.testBit_or, withAt_bit l b c n i, Nat.testBit_two_pow]
      by_cases e : n = i
      · subst e
        have h' : decide (l.getD n 0 = c) = true := decide_eq_true h
        rw [h']
        simp
      · by_cases e2 : i < n
        · have e3 : i < n + 1 := by omega
          simp [e, e2, e3]
        · have e3 : ¬ i < n + 1 := by omega
          simp [e, e2, e3]
    · rw [if_neg h, withAt_bit l b c n i]
      by_cases e : n = i
      · subst e
        have h' : decide (l.getD n 0 = c) = false := decide_eq_false h
        rw [h']
        simp
      · by_cases e2 : i < n
        · have e3 : i < n + 1 := by omega
          simp [e2, e3]
        · have e3 : ¬ i < n + 1 := by omega
          simp [e2, e3]
theorem withN_bit (l : List Int) (b : Nat) (c : Int) (i : Nat) : (withN l b c).testBit i = (b.testBit i || (decide (i < l.length) && decide (l.getD i 0 = c))) := withAt_bit l b c _ i
def bitsOf (l p : List Int) : Nat := p.foldl (withN l) 0
theorem bitsOf_snoc (l p : List Int) (c : Int) : bitsOf l (p ++ [c]) = withN l (bitsOf l p) c := by simp [bitsOf]
theorem bits_go (l : List Int) : ∀ (p : List Int) (b i : Nat), (p.foldl (withN l) b).testBit i = (b.testBit i || (decide (i < l.length) && decide (l.getD i 0 ∈ p)))
  | [], b, i => by simp
  | c :: p, b, i => by
    rw [List.foldl_cons, bits_go l p, withN_bit, Bool.or_assoc]
    congr 1
    cases decide (i < l.length)
    · rfl
    · simp only [Bool.true_and, List.mem_cons]
      rw [Bool.eq_iff_iff]; simp
theorem bitsOf_lt (l p : List Int) : bitsOf l p < 2 ^ l.length := by
  unfold bitsOf
  have : ∀ (p : List Int) (b : Nat), b < 2 ^ l.length → p.foldl (withN l) b < 2 ^ l.length := by
    intro p
    induction p with
    | nil => intro b h; exact h
    | cons c p ih => intro b h; exact ih _ (withN_lt h c)
  exact this p 0 (Nat.two_pow_pos _)
theorem bits_all {l p : List Int} : ((bitsOf l p : Nat) : Int) = allI l ↔ ∀ c ∈ l, c ∈ p := by
  have hlt := bitsOf_lt l p
  have hp := Nat.two_pow_pos l.length
  have e : ((bitsOf l p : Nat) : Int) = allI l ↔ bitsOf l p = 2 ^ l.length - 1 := by unfold allI; omega
  rw [e]
  have hb : ∀ i, (bitsOf l p).testBit i = (decide (i < l.length) && decide (l.getD i 0 ∈ p)) := fun i => by
    unfold bitsOf; rw [bits_go]; simp
  constructor
  · intro h c hc
    obtain ⟨i, hi, rfl⟩ := List.getElem_of_mem hc
    have := hb i
    rw [h, Nat.testBit_two_pow_sub_one, decide_eq_true hi, Bool.true_and] at this
    have := of_decide_eq_true this.symm
    rwa [gd_el hi] at this
  · intro h
    apply Nat.eq_of_testBit_eq
    intro i
    rw [hb, Nat.testBit_two_pow_sub_one]
    by_cases hi : i < l.length
    · have := h (l.getD i 0) (by rw [gd_el hi]; exact List.getElem_mem hi)
      rw [decide_eq_true this, Bool.and_true]
    · simp [hi]
/-- A way over free cells. -/
inductive Wy (s : SkyW) (frm : Int) : List Int → Int → Prop
  | one : freeB s.sh frm = true → Wy s frm [frm] frm
  | snoc (p : List Int) (y z : Int) : Wy s frm p y → freeB s.sh z = true → distI s.w y z = 1 → Wy s frm (p ++ [z]) z
theorem Wy.free {s : SkyW} {frm : Int} {p : List Int} {y : Int} (h : Wy s frm p y) : freeB s.sh y = true := by
  cases h with
  | one h => exact h
  | snoc p y z h1 h2 h3 => exact h2
theorem wy_lw {s : SkyW} (hs : SkyOk s) {frm : Int} {l p : List Int} {y : Int} (h : Wy s frm p y) : Lw (sucP s l) (begP l frm) p (y, (bitsOf l p : Int)) := by
  induction h with
  | one hf => exact .one
  | snoc p y z h1 h2 h3 ih =>
    have := Lw.snoc p _ (z, (bitsOf l (p ++ [z]) : Int)) ih (by
      unfold sucP
      refine List.mem_map.2 ⟨z, (nb_mem hs (free_ins h1.free)).2 ⟨h2, by rw [dist_comm]; exact h3⟩, ?_⟩
      rw [bitsOf_snoc]; rfl)
    exact this
theorem lw_wy {s : SkyW} (hs : SkyOk s) {frm : Int} (hf : freeB s.sh frm = true) {l p : List Int} {z : Pr} (h : Lw (sucP s l) (begP l frm) p z) : Wy s frm p z.1 ∧ z.2 = (bitsOf l p : Int) := by
  induction h with
  | one => exact ⟨.one hf, rfl⟩
  | snoc p y z h1 h2 ih =>
    unfold sucP at h2
    obtain ⟨t, ht, rfl⟩ := List.mem_map.1 h2
    have := (nb_mem hs (free_ins ih.1.free)).1 ht
    refine ⟨.snoc p y.1 t ih.1 this.1 (by rw [dist_comm]; exact this.2), ?_⟩
    rw [bitsOf_snoc, ih.2]; rfl
/-- A list of cells is a search. -/
def SrchP (s : SkyW) (frm : Int) (l p : List Int) : Prop := (∃ y, Wy s frm p y) ∧ ∀ c ∈ l, c ∈ p
theorem srch_lw {s : SkyW} (hs : SkyOk s) {frm : Int} (hf : freeB s.sh frm = true) {l p : List Int} : SrchP s frm l p ↔ ∃ z, Lw (sucP s l) (begP l frm) p z ∧ z.2 = allI l := by
  constructor
  · rintro ⟨⟨y, hy⟩, ha⟩
    exact ⟨_, wy_lw hs hy, bits_all.2 ha⟩
  · rintro ⟨z, hz, ha⟩
    obtain ⟨h1, h2⟩ := lw_wy hs hf hz
    exact ⟨⟨_, h1⟩, bits_all.1 (by rw [← h2]; exact ha)⟩
theorem search_best {s : SkyW} (hs : SkyOk s) {frm : Int} (hf : freeB s.sh frm = true) {l p : List Int} (h : searchO s frm l = some p) : SrchP s frm l p ∧ ∀ w, SrchP s frm l w → lessB w p = false := by
  obtain ⟨y, h1, h2, h3⟩ := search_some hs h
  refine ⟨(srch_lw hs hf).2 ⟨y, h1, h2⟩, fun w hw => ?_⟩
  obtain ⟨z, hz, ha⟩ := (srch_lw hs hf).1 hw
  exact h3 w z hz ha
theorem search_no {s : SkyW} (hs : SkyOk s) {frm : Int} (hf : freeB s.sh frm = true) {l : List Int} (hl : l.length ≤ 8) (h : searchO s frm l = none) (w : List Int) : ¬ SrchP s frm l w := fun hw => by
  obtain ⟨z, hz, ha⟩ := (srch_lw hs hf).1 hw
  exact search_none hs hf hl h w z hz ha
/-- A list of cells is a search, computed. -/
def okB (s : SkyW) (p : List Int) (i : Nat) : Bool := freeB s.sh (nAt p i) && (decide (i = 0) || decide (distI s.w (nAt p (i - 1)) (nAt p i) = 1))
def searchesB (s : SkyW) (frm : Int) (l p : List Int) : Bool := (!(decide (p = [])) && decide (nAt p 0 = frm)) && ((List.range p.length).all (okB s p) && l.all fun c => p.any fun x => decide (x = c))
theorem nAt_app {p : List Int} {i : Nat} (h : i < p.length) (q : List Int) : nAt (p ++ q) i = nAt p i := by
  unfold nAt
  rw [gd_el (by simp; omega), gd_el h, List.getElem_append_left h]
theorem nAt_last (p : List Int) (z : Int) : nAt (p ++ [z]) p.length = z := by
  unfold nAt
  rw [gd_el (by simp)]
  simp
theorem Wy.at {s : SkyW} {frm : Int} {p : List Int} {y : Int} (h : Wy s frm p y) : 1 ≤ p.length ∧ nAt p 0 = frm ∧ nAt p (p.length - 1) = y ∧ ∀ i, i < p.length → okB s p i = true := by
  induction h with
  | one hf =>
    refine ⟨by simp, rfl, rfl, fun i hi => ?_⟩
    have : i = 0 := by simpa using hi
    subst this
    simp [okB, nAt, hf]
  | snoc p y z h1 h2 h3 ih =>
    obtain ⟨a, b, c, d⟩ := ih
    refine ⟨by simp, by rw [nAt_app (by omega)]; exact b, by rw [List.length_append, List.length_singleton, Nat.add_sub_cancel]; exact nAt_last p z, fun i hi => ?_⟩
    rw [List.length_append, List.length_singleton] at hi
    by_cases e : i < p.length
    · have := d i e
      unfold okB at this ⊢
      rw [nAt_app e, nAt_app (by omega)]; exact this
    · have : i = p.length := by omega
      subst this
      unfold okB
      rw [nAt_last, nAt_app (by omega), c]
      simp [h2, h3]
theorem wy_of {s : SkyW} {p : List Int} (h : ∀ i, i < p.length → okB s p i = true) : ∀ n, n < p.length → Wy s (nAt p 0) (p.take (n + 1)) (nAt p n)
  | 0, hn => by
    have h0 := h 0 hn
    have e : p.take 1 = [nAt p 0] := by
      cases p with
      | nil => simp at hn
      | cons a r => rfl
    rw [e]
    refine .one ?_
    unfold okB at h0
    simpa using h0
  | n + 1, hn => by
    have ih := wy_of h n (by omega)
    have h1 := h (n + 1) hn
    have e : p.take (n + 1 + 1) = p.take (n + 1) ++ [nAt p (n + 1)] := by
      rw [List.take_add_one, nAt_get hn]; rfl
    rw [e]
    unfold okB at h1
    simp at h1
    exact .snoc _ _ _ ih h1.1 h1.2
theorem searches_iff {s : SkyW} {frm : Int} {l p : List Int} : searchesB s frm l p = true ↔ SrchP s frm l p := by
  unfold searchesB
  simp only [Bool.and_eq_true, Bool.not_eq_true', decide_eq_false_iff_not, decide_eq_true_eq, List.all_eq_true, List.mem_range, List.any_eq_true]
  constructor
  · rintro ⟨⟨hn, h0⟩, hs, hc⟩
    have hl : 0 < p.length := by
      cases p with
      | nil => exact absurd rfl hn
      | cons a r => simp
    have := wy_of hs (p.length - 1) (by omega)
    rw [h0, show p.length - 1 + 1 = p.length by omega, List.take_length] at this
    exact ⟨⟨_, this⟩, fun c h => by obtain ⟨x, hx, e⟩ := hc c h; rw [← e]; exact hx⟩
  · rintro ⟨⟨y, hy⟩, hc⟩
    obtain ⟨a, b, _, d⟩ := hy.at
    refine ⟨⟨fun e => by rw [e] at a; simp at a, b⟩, d, fun c h => ⟨c, hc c h, rfl⟩⟩
end Go.Sx

namespace Go.Sx
set_option maxRecDepth 10000

/-! Theory of routes -/
/-- What is at station s in minute m goes by the stations p, and is at e in minute a; 0 only at the end. -/
inductive Rw (A : Int → Int → Int → Int) (K : Nat) : Int → Int → List Int → Int → Int → Prop
  | one (s m : Int) : Rw A K s m [s] s m
  | cons (s m t : Int) (p : List Int) (e a : Int) : s ≠ 0 → 0 ≤ t → t < (K : Int) → 0 ≤ A s t m → Rw A K t (A s t m) p e a → Rw A K s m (s :: p) e a
section
variable {A : Int → Int → Int → Int} {K : Nat}
theorem Rw.hd {s m : Int} {p : List Int} {e a : Int} (h : Rw A K s m p e a) : ∃ r, p = s :: r := by
  cases h with
  | one => exact ⟨[], rfl⟩
  | cons s m t p e a _ _ _ _ _ => exact ⟨p, rfl⟩
theorem Rw.snoc {s m : Int} {p : List Int} {e a : Int} (h : Rw A K s m p e a) {t : Int} (he : e ≠ 0) (h0 : 0 ≤ t) (h1 : t < (K : Int)) (h2 : 0 ≤ A e t a) : Rw A K s m (p ++ [t]) t (A e t a) := by
  induction h with
  | one s m => exact .cons s m t [t] t _ he h0 h1 h2 (.one t _)
  | cons s m u p e a g0 g1 g2 g3 _ ih => exact .cons s m u _ _ _ g0 g1 g2 g3 (ih he h2)
theorem Rw.rt {at0 : MpI} {s m : Int} {p : List Int} {e a : Int} (h : Rw A K s m p e a) (hr : Rt A K at0 s m) : Rt A K at0 e a := by
  induction h with
  | one s m => exact hr
  | cons s m t p e a g0 g1 g2 g3 _ ih => exact ih (.step s m t hr g0 g1 g2 g3)
theorem Rw.mono (hA : AOk A) {s m' : Int} {p : List Int} {e a' : Int} (h : Rw A K s m' p e a') : ∀ {m : Int}, m ≤ m' → ∃ a, a ≤ a' ∧ Rw A K s m p e a := by
  induction h with
  | one s m' => intro m hm; exact ⟨m, hm, .one s m⟩
  | cons s m' t p e a g0 g1 g2 g3 _ ih =>
    intro m hm
    obtain ⟨q1, q2⟩ := hA.mono s t m m' hm g3
    obtain ⟨a1, h1, h2⟩ := ih q2
    exact ⟨a1, h1, .cons s m t p e a1 g0 g1 g2 q1 h2⟩
end

/-! What arrives -/
end Go.Sx
