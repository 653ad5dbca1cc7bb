/- Own work: contracts of functions, used in the proof of a law. -/
import Derived.Test.YtjhoplbdpdbgaaaGreatDoorSxCx
set_option linter.unusedVariables false
set_option linter.unusedSimpArgs false
namespace Go.Sx
open Go.Proofs
set_option maxRecDepth 10000

/-! With less asked -/
abbrev lessN (n : Nd) : Nd := ⟨n.draught / 2, (n.run + 1) / 2, n.cross, n.tail, n.calm / 2, n.wave, n.swell⟩
theorem okNd_less {n : Nd} (h : okNd n = true) : okNd (lessN n) = true := by
  have := okNd_all h
  simp only [okNd, Bool.and_eq_true, bIn, decide_eq_true_eq]
  omega
section
variable {s : Se} {gd : D} {p : Sp} {n : Nd} {t : Int}
theorem surelyB_iff {l : Lk} : surelyB l = true ↔ 0 ≤ offL l ∧ calmS l = true ∧ flatS l = true ∧ (!blindL l) = true := by
  simp only [surelyB, Bool.and_eq_true, decide_eq_true_eq]
theorem possB_iff {l : Lk} : possB l = true ↔ 0 ≤ offP l ∧ calmP l = true ∧ flatP l = true ∧ (!blindL l) = true := by
  simp only [possB, Bool.and_eq_true, decide_eq_true_eq]
theorem less_surely (h : LkOk ⟨s, gd, p, n, t⟩) (hb : surelyB ⟨s, gd, p, n, t⟩ = true) : surelyB ⟨s, gd, p, lessN n, t⟩ = true := by
  have hn : okNd n = true := h.n
  have h' : LkOk ⟨s, gd, p, lessN n, t⟩ := ⟨h.se, h.s, h.p, okNd_less hn, h.t⟩
  have ha := okNd_all hn
  obtain ⟨h1, h2, h3, h4⟩ := surelyB_iff.1 hb
  refine surelyB_iff.2 ⟨?_, h2, ?_, h4⟩
  · rw [offL_eq _ h] at h1
    rw [offL_eq _ h']
    refine runS_mono (by dsimp only; omega) (.inr (by dsimp only; omega)) (fun k hk hg => ?_) h1
    simp only [goodK, Bool.and_eq_true, decide_eq_true_eq] at hg ⊢
    exact ⟨by omega, hg.2⟩
  · simp only [flatS, Bool.and_eq_true, decide_eq_true_eq] at h3 ⊢
    omega

/-! With a boat less -/
abbrev fewS (s : Se) (k : Nat) : Se := ⟨s.wide, s.deep, s.depths, s.w, s.boats.take k ++ s.boats.drop (k + 1), s.glares⟩
theorem few_mem {s : Se} {k : Nat} {b : Bt} (h : b ∈ (fewS s k).boats) : b ∈ s.boats := by
  rcases List.mem_append.1 h with h | h
  · exact List.mem_of_mem_take h
  · exact List.mem_of_mem_drop h
theorem few_len (s : Se) (k : Nat) : (fewS s k).boats.length ≤ s.boats.length := by
  simp only [List.length_append, List.length_take, List.length_drop]; omega
theorem okSe_few {s : Se} (h : okSe s = true) (k : Nat) : okSe (fewS s k) = true := by
  simp only [okSe, Bool.and_eq_true, okSz, decide_eq_true_eq, List.all_eq_true] at h ⊢
  obtain ⟨h1, h2, h3, h4, h5, h6, h7⟩ := h
  exact ⟨h1, Nat.le_trans (few_len s k) h2, h3, h4, h5, fun b hb => h6 b (few_mem hb), h7⟩
theorem seL_few {s : Se} {gd : D} (h : SeL s gd) (k : Nat) : SeL (fewS s k) gd := ⟨h.w, h.depths, Nat.le_trans (few_len s k) h.boats, h.glares, h.gd⟩
theorem pass_iff (l : Lk) (x y : Int) : freeB (passB l) x y l.s.boats 0 = true ↔ ∀ b ∈ l.s.boats, bIn l.t b.t.1 b.t.2 = true → inW b x y = false := by
  rw [freeB_iff]
  constructor
  · intro h b hb ht
    obtain ⟨j, hj⟩ := List.getElem?_of_mem hb
    exact h j b hj (by rw [Nat.zero_add]; simp only [passB, hj]; exact ht)
  · intro h j b hj ht
    rw [Nat.zero_add] at ht
    simp only [passB, hj] at ht
    exact h b (List.mem_of_getElem? hj) ht
theorem few_surely (h : LkOk ⟨s, gd, p, n, t⟩) (k : Nat) (hb : surelyB ⟨s, gd, p, n, t⟩ = true) : surelyB ⟨fewS s k, gd, p, n, t⟩ = true := by
  have hn : okNd n = true := h.n
  have h' : LkOk ⟨fewS s k, gd, p, n, t⟩ := ⟨seL_few h.se k, okSe_few h.s k, h.p, hn, h.t⟩
  have ha := okNd_all hn
  obtain ⟨h1, h2, h3, h4⟩ := surelyB_iff.1 hb
  refine surelyB_iff.2 ⟨?_, h2, h3, h4⟩
  rw [offL_eq _ h] at h1
  rw [offL_eq _ h']
  refine runS_mono (Nat.le_refl _) (.inr (by dsimp only; omega)) (fun k hk hg => ?_) h1
  simp only [goodK, Bool.and_eq_true] at hg ⊢
  refine ⟨hg.1, ?_⟩
  have hg2 := (pass_iff _ _ _).1 hg.2
  exact (pass_iff ⟨fewS s _, gd, p, n, t⟩ _ _).2 fun b hb => hg2 b (few_mem hb)

/-! With a reading more -/
abbrev moreG (g : Ga) (r : Rd) : Ga := ⟨g.rate, g.least, g.most, g.rs ++ [r]⟩
abbrev moreS (s : Se) (r : Rd) : Se := ⟨s.wide, s.deep, s.depths, ⟨moreG s.w.tide r, s.w.east, s.w.north, s.w.wave, s.w.swell⟩, s.boats, s.glares⟩
theorem more_at (g : Ga) (r : Rd) (t : Int) : (atL g t).1 ≤ (atL (moreG g r) t).1 ∧ (atL (moreG g r) t).2 ≤ (atL g t).2 := by
  have : atL (moreG g r) t = atStep g.rate t (atL g t) r := by simp only [atL, atG, moreG, List.foldl_append, List.foldl_cons, List.foldl_nil]
  rw [this]
  simp only [atStep]
  omega
theorem seL_more {s : Se} {gd : D} (h : SeL s gd) (r : Rd) (hl : s.w.tide.rs.length ≤ 1000) : SeL (moreS s r) gd :=
  ⟨⟨by simp only [List.length_append, List.length_singleton]; omega, h.w.east, h.w.north, h.w.wave, h.w.swell⟩, h.depths, h.boats, h.glares, h.gd⟩
theorem more_surely (h : LkOk ⟨s, gd, p, n, t⟩) {r : Rd} (h' : LkOk ⟨moreS s r, gd, p, n, t⟩) (hb : surelyB ⟨s, gd, p, n, t⟩ = true) : surelyB ⟨moreS s r, gd, p, n, t⟩ = true := by
  have ha := okNd_all (n := n) h.n
  have hm := more_at s.w.tide r t
  obtain ⟨h1, h2, h3, h4⟩ := surelyB_iff.1 hb
  refine surelyB_iff.2 ⟨?_, h2, h3, h4⟩
  rw [offL_eq _ h] at h1
  rw [offL_eq _ h']
  refine runS_mono (Nat.le_refl _) (.inr (by dsimp only; omega)) (fun k hk hg => ?_) h1
  simp only [goodK, Bool.and_eq_true, decide_eq_true_eq] at hg ⊢
  exact ⟨Int.le_trans hg.1 (Int.add_le_add_left hm.1 _), hg.2⟩
theorem more_poss (h : LkOk ⟨s, gd, p, n, t⟩) {r : Rd} (h' : LkOk ⟨moreS s r, gd, p, n, t⟩) (hb : possB ⟨moreS s r, gd, p, n, t⟩ = true) : possB ⟨s, gd, p, n, t⟩ = true := by
  have ha := okNd_all (n := n) h.n
  have hm := more_at s.w.tide r t
  obtain ⟨h1, h2, h3, h4⟩ := possB_iff.1 hb
  refine possB_iff.2 ⟨?_, h2, h3, h4⟩
  rw [offP_eq _ h'] at h1
  rw [offP_eq _ h]
  refine runS_mono (Nat.le_refl _) (.inr (by dsimp only; omega)) (fun k hk hg => ?_) h1
  simp only [goodK, Bool.and_eq_true, decide_eq_true_eq] at hg ⊢
  exact ⟨Int.le_trans hg.1 (Int.add_le_add_left hm.2 _), hg.2⟩
end
end Go.Sx
