/- Own work: contracts of functions, used in the proof of a law. -/
import Derived.Test.YthljonnokmkagaaSxE36r
set_option linter.unusedVariables false
set_option linter.unusedSimpArgs false
namespace Go.Sx
open Go.Proofs
set_option maxRecDepth 10000

/-! The bounds of the specification -/
noncomputable def gTabO : List D → Option D := orcF (fun _ : Craft × Int => True) (fun p => [.agg p.1.c, .int .i64 p.2]) (fun p => .sl ((tabOf p.1 p.2).map RRow.d))
theorem gTabO_eq (c : Craft) (k : Int) : gTabO [.agg c.c, .int .i64 k] = some (.sl ((tabOf c k).map RRow.d)) :=
  orcF_eq (ok := fun _ : Craft × Int => True) (dsf := fun p => [.agg p.1.c, .int .i64 p.2]) (rf := fun p => .sl ((tabOf p.1 p.2).map RRow.d)) (c, k) trivial fun b hb => by
    simp only [List.cons.injEq, D.agg.injEq, D.int.injEq, true_and, and_true] at hb
    rw [Craft.c_inj hb.1, hb.2]
noncomputable def gWavO : List D → Option D := orcF (fun p : Craft × SpI => CraftOk p.1) (fun p => [.agg p.1.c, .agg p.2.c]) (fun p => .sl (intL (wavesR p.1 p.2)))
theorem gWavO_eq {c : Craft} (hc : CraftOk c) (s : SpI) : gWavO [.agg c.c, .agg s.c] = some (.sl (intL (wavesR c s))) :=
  orcF_eq (ok := fun p : Craft × SpI => CraftOk p.1) (dsf := fun p => [.agg p.1.c, .agg p.2.c]) (rf := fun p => .sl (intL (wavesR p.1 p.2))) (c, s) hc fun b hb => by
    simp only [List.cons.injEq, D.agg.injEq, and_true] at hb
    rw [Craft.c_inj hb.1, SpI.c_inj hb.2]
noncomputable abbrev e9 : List (FuncId × (List D → Option D)) := (51, gTabO) :: (102, gWavO) :: e8
theorem e9_ok : OkO Try.prog (mkO e9) := mkO_ok (orcF_ok fun p _ => ref3_Table_t p.1 p.2) <| mkO_ok (orcF_ok fun p h => ref3_waves_t p.1 h p.2) <| e8_ok
def rlenD (c : Craft) (k w al wv : Int) : Int := (rlenO c k w al wv).getD 0
def outI (A B : Int → Int) (ws : List Int) (i : Nat) : SpI := match ws with
  | [] => ⟨0, 0⟩
  | x :: _ => if i = 0 then ⟨0, 0⟩ else ⟨((ws.take i).map A).foldl min (A x), ((ws.take i).map B).foldl max (B x)⟩
def rbI (A B : Int → Int) (ws : List Int) : SpI := outI A B ws ws.length
def RBoundsO (c : Craft) (k : Int) (w al wv : SpI) : Option SpI := (sayO (tabOf c k) w.hi).map fun _ => rbI (fun x => rlenD c k w.lo al.lo x) (fun x => rlenD c k w.hi al.hi x) (wavesR c wv)

/-! Folds -/
theorem fmin_le : ∀ (l : List Int) (a : Int), l.foldl min a ≤ a ∧ ∀ x ∈ l, l.foldl min a ≤ x
  | [], a => ⟨Int.le_refl _, fun x hx => by simp at hx⟩
  | y :: l, a => by
    have h := fmin_le l (min a y)
    simp only [List.foldl_cons]
    refine ⟨by omega, fun x hx => ?_⟩
    rcases List.mem_cons.1 hx with rfl | hx
    · omega
    · exact h.2 x hx
theorem fmin_mem : ∀ (l : List Int) (a : Int), l.foldl min a ∈ a :: l
  | [], a => by simp
  | y :: l, a => by
    have h := fmin_mem l (min a y)
    simp only [List.foldl_cons]
    rcases List.mem_cons.1 h with h | h
    · rw [h]; rcases Int.le_total a y with k | k
      · rw [show min a y = a by omega]; simp
      · rw [show min a y = y by omega]; simp
    · simp [h]
theorem fmin_eq {a b : Int} {l r : List Int} (h1 : ∀ x ∈ a :: l, ∃ y ∈ b :: r, y ≤ x) (h2 : ∀ y ∈ b :: r, ∃ x ∈ a :: l, x ≤ y) : l.foldl min a = r.foldl min b := by
  have k1 := fmin_le l a
  have k2 := fmin_le r b
  obtain ⟨y, hy, hyx⟩ := h1 _ (fmin_mem l a)
  obtain ⟨x, hx, hxy⟩ := h2 _ (fmin_mem r b)
  have e1 : l.foldl min a ≤ x := (List.mem_cons.1 hx).elim (fun e => e ▸ k1.1) fun q => k1.2 x q
  have e2 : r.foldl min b ≤ y := (List.mem_cons.1 hy).elim (fun e => e ▸ k2.1) fun q => k2.2 y q
  omega
theorem fmax_le : ∀ (l : List Int) (a : Int), a ≤ l.foldl max a ∧ ∀ x ∈ l, x ≤ l.foldl max a
  | [], a => ⟨Int.le_refl _, fun x hx => by simp at hx⟩
  | y :: l, a => by
    have h := fmax_le l (max a y)
    simp only [List.foldl_cons]
    refine ⟨by omega, fun x hx => ?_⟩
    rcases List.mem_cons.1 hx with rfl | hx
    · omega
    · exact h.2 x hx
theorem fmax_mem : ∀ (l : List Int) (a : Int), l.foldl max a ∈ a :: l
  | [], a => by simp
  | y :: l, a => by
    have h := fmax_mem l (max a y)
    simp only [List.foldl_cons]
    rcases List.mem_cons.1 h with h | h
    · rw [h]; rcases Int.le_total a y with k | k
      · rw [show max a y = y by omega]; simp
      · rw [show max a y = a by omega]; simp
    · simp [h]
theorem fmax_eq {a b : Int} {l r : List Int} (h1 : ∀ x ∈ a :: l, ∃ y ∈ b :: r, x ≤ y) (h2 : ∀ y ∈ b :: r, ∃ x ∈ a :: l, y ≤ x) : l.foldl max a = r.foldl max b := by
  have k1 := fmax_le l a
  have k2 := fmax_le r b
  obtain ⟨y, hy, hyx⟩ := h1 _ (fmax_mem l a)
  obtain ⟨x, hx, hxy⟩ := h2 _ (fmax_mem r b)
  have e1 : x ≤ l.foldl max a := (List.mem_cons.1 hx).elim (fun e => e ▸ k1.1) fun q => k1.2 x q
  have e2 : y ≤ r.foldl max b := (List.mem_cons.1 hy).elim (fun e => e ▸ k2.1) fun q => k2.2 y q
  omega

/-! The plain law of bounds -/
theorem updI_cls (c : Craft) {x y : Int} (h1 : x < c.glass ↔ y < c.glass) (h2 : c.rough < x ↔ c.rough < y) (m al : Int) : lenI c m al x = lenI c m al y := by
  simp only [lenI, updI, h1, h2]
theorem wavesR_in {c : Craft} {s : SpI} (hs : s.lo ≤ s.hi) {x : Int} (h : x ∈ wavesR c s) : s.lo ≤ x ∧ x ≤ s.hi := by
  simp only [wavesR, List.mem_append, List.mem_cons, List.not_mem_nil, or_false, List.mem_filter] at h
  rcases h with (rfl | rfl) | ⟨_, h⟩
  · omega
  · omega
  · exact rI_le h
theorem waves_ri {c : Craft} (hg : c.glass ≤ c.rough) {s : SpI} (hs : s.lo ≤ s.hi) {x : Int} (h : x ∈ wavesR c s) : ∃ y ∈ wavesI c s, ∀ m al, lenI c m al x = lenI c m al y := by
  have hx := wavesR_in hs h
  by_cases h1 : x < c.glass
  · exact ⟨s.lo, by simp [wavesI], updI_cls c (by omega) (by omega)⟩
  · by_cases h2 : c.rough < x
    · exact ⟨s.hi, by simp [wavesI], updI_cls c (by omega) (by omega)⟩
    · exact ⟨max s.lo c.glass, by simp only [wavesI]; rw [if_pos (by omega)]; simp, updI_cls c (by omega) (by omega)⟩
theorem waves_ir {c : Craft} {s : SpI} {y : Int} (h : y ∈ wavesI c s) : y ∈ wavesR c s := by
  simp only [wavesI, List.mem_append, List.mem_cons, List.not_mem_nil, or_false] at h
  rcases h with (rfl | rfl) | h
  · simp [wavesR]
  · simp [wavesR]
  · split at h
    · rename_i hc
      simp only [List.mem_cons, List.not_mem_nil, or_false] at h
      rcases Int.le_total c.glass s.lo with k | k
      · rw [show max s.lo c.glass = s.lo by omega] at h; subst h; simp [wavesR]
      · rw [show max s.lo c.glass = c.glass by omega] at h hc; subst h
        simp only [wavesR, List.mem_append, List.mem_filter]
        exact .inr ⟨by simp [cornL], by simp [rI]; omega⟩
    · simp at h
theorem rb_eq {c : Craft} (hn : CraftN c) {ml mh : Int} (hm : ml ≤ mh) {al : SpI} (hal : al.lo ≤ al.hi) {s : SpI} (hs : s.lo ≤ s.hi) :
    rbI (fun x => lenI c ml al.lo x) (fun x => lenI c mh al.hi x) (wavesR c s) = boundsI c ⟨ml, mh⟩ al s := by
  have hAB : ∀ x, lenI c ml al.lo x ≤ lenI c mh al.hi x := fun x => Int.le_trans (lenI_mono_m c hn hm al.lo x) (lenI_mono_al c hn hal mh x)
  have hmem : ∀ v, v ∈ lensI c ⟨ml, mh⟩ al (wavesI c s) ↔ ∃ w ∈ wavesI c s, v = lenI c ml al.lo w ∨ v = lenI c mh al.hi w := fun v => by simp [lensI]
  have hr0 : wavesR c s = s.lo :: (s.hi :: (cornL c).filter fun x => rI x s.lo s.hi) := rfl
  have hmr : ∀ (A : Int → Int) v, v ∈ A s.lo :: ((wavesR c s).map A) ↔ ∃ x ∈ wavesR c s, v = A x := fun A v => by
    simp only [List.mem_cons, List.mem_map]
    constructor
    · rintro (rfl | ⟨x, hx, rfl⟩)
      · exact ⟨s.lo, by simp [wavesR], rfl⟩
      · exact ⟨x, hx, rfl⟩
    · rintro ⟨x, hx, rfl⟩
      exact .inr ⟨x, hx, rfl⟩
  have hl : rbI (fun x => lenI c ml al.lo x) (fun x => lenI c mh al.hi x) (wavesR c s) = ⟨((wavesR c s).map fun x => lenI c ml al.lo x).foldl min (lenI c ml al.lo s.lo), ((wavesR c s).map fun x => lenI c mh al.hi x).foldl max (lenI c mh al.hi s.lo)⟩ := by
    rw [rbI, hr0]
    simp only [outI]
    rw [if_neg (by simp), List.take_of_length_le (by simp)]
  have hne : ∃ a l, lensI c ⟨ml, mh⟩ al (wavesI c s) = a :: l := by
    cases h : lensI c ⟨ml, mh⟩ al (wavesI c s) with
    | nil => have := lensI_len c ⟨ml, mh⟩ al (wavesI c s); rw [h] at this; have := (wavesI_len c s).1; simp at *; omega
    | cons a l => exact ⟨a, l, rfl⟩
  obtain ⟨a, l, hal2⟩ := hne
  rw [hl, boundsI, hal2]
  simp only [wideI]
  rw [hal2] at hmem
  congr 1
  · refine fmin_eq (fun v hv => ?_) fun v hv => ?_
    · obtain ⟨x, hx, rfl⟩ := (hmr _ v).1 hv
      obtain ⟨y, hy, he⟩ := waves_ri hn.gr hs hx
      exact ⟨lenI c ml al.lo y, (hmem _).2 ⟨y, hy, .inl rfl⟩, by rw [he]; omega⟩
    · obtain ⟨y, hy, hv⟩ := (hmem v).1 hv
      refine ⟨lenI c ml al.lo y, (hmr _ _).2 ⟨y, waves_ir hy, rfl⟩, ?_⟩
      have := hAB y
      rcases hv with rfl | rfl <;> omega
  · refine fmax_eq (fun v hv => ?_) fun v hv => ?_
    · obtain ⟨x, hx, rfl⟩ := (hmr _ v).1 hv
      obtain ⟨y, hy, he⟩ := waves_ri hn.gr hs hx
      exact ⟨lenI c mh al.hi y, (hmem _).2 ⟨y, hy, .inr rfl⟩, by rw [he]; omega⟩
    · obtain ⟨y, hy, hv⟩ := (hmem v).1 hv
      refine ⟨lenI c mh al.hi y, (hmr _ _).2 ⟨y, waves_ir hy, rfl⟩, ?_⟩
      have := hAB y
      rcases hv with rfl | rfl <;> omega
end Go.Sx
