/- Own work: a calculus of contracts for the programs of this kit: parts SxC59z, SxC60z. -/
import Derived.Test.YtjhoplbdpdbgaaaGreatDoorSxCw
set_option linter.unusedVariables false
set_option linter.unusedSimpArgs false
namespace Go.Sx
open Go.Proofs
set_option maxRecDepth 10000

/-! Laws of runs and of boats -/
theorem runS_ge {g : Nat → Bool} {n c : Nat} : 0 ≤ runS g n c ↔ ∃ o, o < n + 1 - c ∧ allG g o c = true := by
  simp only [runS]
  constructor
  · intro h
    split at h
    · rename_i o ho
      exact ⟨o, List.mem_range.1 (List.mem_of_find?_eq_some ho), List.find?_some (p := fun o => allG g o c) ho⟩
    · omega
  · rintro ⟨o, a, b⟩
    split
    · omega
    · rename_i hno
      have := List.find?_eq_none.1 hno o (List.mem_range.2 a)
      rw [b] at this
      exact absurd rfl this
/-- A run that is found is one. -/
theorem runS_at {g : Nat → Bool} {n c : Nat} (h : 0 ≤ runS g n c) : ∃ o : Nat, runS g n c = (o : Int) ∧ o < n + 1 - c ∧ allG g o c = true := by
  simp only [runS] at h ⊢
  split at h
  · rename_i o ho
    exact ⟨o, by simp, List.mem_range.1 (List.mem_of_find?_eq_some ho), List.find?_some (p := fun o => allG g o c) ho⟩
  · omega
theorem allG_mono {g h : Nat → Bool} {o c c' : Nat} (hc : c' ≤ c) (hgh : ∀ k, k < o + c → g k = true → h k = true) (ha : allG g o c = true) : allG h o c' = true :=
  allG_iff.2 fun j hj => hgh _ (by omega) (allG_iff.1 ha j (by omega))
theorem runS_mono {g h : Nat → Bool} {n c c' : Nat} (hc : c' ≤ c) (hc1 : c ≤ n ∨ 0 < c') (hgh : ∀ k, k < n → g k = true → h k = true) (hr : 0 ≤ runS g n c) : 0 ≤ runS h n c' := by
  obtain ⟨o, h1, h2⟩ := runS_ge.1 hr
  exact runS_ge.2 ⟨o, by omega, allG_mono hc (fun k hk => hgh k (by omega)) h2⟩
theorem freeB_iff {th : Nat → Bool} {x y : Int} : ∀ {bs : List Bt} {i : Nat}, freeB th x y bs i = true ↔ ∀ (j : Nat) (b : Bt), bs[j]? = some b → th (i + j) = true → inW b x y = false
  | [], i => by simp [freeB]
  | b :: r, i => by
    have ih := @freeB_iff th x y r (i + 1)
    simp only [freeB, Bool.and_eq_true, ih]
    constructor
    · rintro ⟨h1, h2⟩ j c hj ht
      cases j with
      | zero =>
        simp only [List.getElem?_cons_zero, Option.some.injEq] at hj
        subst hj
        rw [Nat.add_zero] at ht
        simpa [ht] using h1
      | succ j =>
        rw [List.getElem?_cons_succ] at hj
        exact h2 j c hj (by rw [show i + 1 + j = i + (j + 1) by omega]; exact ht)
    · intro h
      refine ⟨?_, fun j c hj ht => h (j + 1) c (by simpa using hj) (by rw [show i + (j + 1) = i + 1 + j by omega]; exact ht)⟩
      cases ht : th i
      · rfl
      · rw [h 0 b rfl (by rw [Nat.add_zero]; exact ht)]; rfl
theorem freeB_mono {th th' : Nat → Bool} {x y : Int} {bs : List Bt} {i : Nat} (ht : ∀ i, th' i = true → th i = true) (h : freeB th x y bs i = true) : freeB th' x y bs i = true :=
  freeB_iff.2 fun j b hj hb => freeB_iff.1 h j b hj (ht _ hb)

/-! What is surely so is possibly so -/
theorem okNd_all {n : Nd} (h : okNd n = true) : (0 ≤ n.draught ∧ n.draught ≤ 5000) ∧ (1 ≤ n.run ∧ n.run ≤ 12) ∧ (0 ≤ n.cross ∧ n.cross ≤ 300) ∧ (0 ≤ n.tail ∧ n.tail ≤ 300) ∧ (0 ≤ n.calm ∧ n.calm ≤ n.wave) ∧ n.wave ≤ 2000 ∧ (0 ≤ n.swell ∧ n.swell ≤ 2000) := by
  simpa only [okNd, Bool.and_eq_true, bIn, decide_eq_true_eq] using h
theorem cell_dp {l : Lk} (hs : okSe l.s = true) (hp : okSp l.s l.p = true) {k : Nat} (hk : k < l.p.cells.toNat) : (dpAt l.s (cellI l.s l.p k)).1 ≤ (dpAt l.s (cellI l.s l.p k)).2 := by
  have hcl := cell_lt (okSe_sz hs).1.1 hp (k := (k : Int)) (by omega)
  exact (dp_ok hs hcl.1 hcl.2).2.2.1
theorem sure_pass (l : Lk) (i : Nat) (h : sureB l i = true) : passB l i = true := by
  simp only [sureB, Bool.and_eq_true] at h; exact h.2
theorem surely_poss (l : Lk) (h : LkOk l) (hso : soundW l.s.w = true) (hb : surelyB l = true) : possB l = true := by
  simp only [surelyB, Bool.and_eq_true, decide_eq_true_eq] at hb
  obtain ⟨h1, h2, h3, h4⟩ := hb
  have hwx := okWx_gaOk (okSe_wx h.s)
  have hsn := sound_north hso
  have ha1 := at_le hwx.tide hsn.1 h.t
  have ha2 := at_le hwx.east hsn.2.1 h.t
  have ha3 := at_le hwx.north hsn.2.2.1 h.t
  have ha4 := at_le hwx.wave hsn.2.2.2.1 h.t
  have ha5 := at_le hwx.swell hsn.2.2.2.2 h.t
  have hn := okNd_all h.n
  simp only [possB, Bool.and_eq_true, decide_eq_true_eq]
  refine ⟨?_, ?_, ?_, h4⟩
  · rw [offL_eq l h] at h1
    rw [offP_eq l h]
    refine runS_mono (Nat.le_refl _) (.inr (by omega)) (fun k hk hg => ?_) h1
    have hd := cell_dp h.s h.p hk
    simp only [goodK, Bool.and_eq_true, decide_eq_true_eq] at hg ⊢
    exact ⟨by omega, freeB_mono (sure_pass l) hg.2⟩
  · simp only [calmS, Bool.and_eq_true] at h2
    exact anyI_iff.2 ⟨_, Int.le_refl _, ha2, anyI_iff.2 ⟨_, Int.le_refl _, ha3, h2.1.1⟩⟩
  · simp only [flatS, Bool.and_eq_true, decide_eq_true_eq] at h3
    simp only [flatP, Bool.and_eq_true, decide_eq_true_eq]
    omega

/-! A minute lies in some window -/
theorem holds_t (l : List (Int × Int)) (t : Int) (hl : l.length ≤ 10000) : Pure Tryz.prog 38 [.sl (spL l), .int .i64 t] (.bool (inS l t)) := by
  have hln := fun hp => En.len (P := Tryz.prog) Fz.und_22 (En.sl_map (E := enS) l) hp
  refine pure_of_wc (rs := [.tmp 4]) (m := 28) [] oNone_ok (by kernel_rfl) Tryz.func38 rfl (by kernel_rfl) rfl rfl (by kernel_rfl) ?_
  simp only [FS, ↓RE, okR, argEnv, Nat.reduceAdd, Nat.reduceSub, Nat.reduceLT, Nat.reduceLeDiff, Nat.reduceEqDiff, reduceIte]
  refine loopV (ι := Nat) oNone_ok [] (fun i => [(0, .sl (spL l)), (1, .int .i64 t), (5, .int .i64 (i : Int))])
    (fun i => []) 0 (fun i => i ≤ l.length ∧ (l.take i).all (fun a => !(decide (a.1 ≤ t) && decide (t ≤ a.2))) = true) (fun i => l.length - i) 0 (by kernel_rfl) (by kernel_rfl) ⟨Nat.zero_le _, by simp⟩ ?_ ?_
  · simp [headW, heapW, envW, blkLt, D.ltL, D.lt, look, hget]
  rintro i ⟨hi, hok⟩
  have hany : inS l t = !(l.all fun a => !(decide (a.1 ≤ t) && decide (t ≤ a.2))) := by rw [inS, List.any_eq_not_all_not]
  rcases Nat.lt_or_ge i l.length with hlt | hge
  rotate_left
  · have hc : ((i : Int) < (l.length : Int)) = False := by simp; omega
    rw [List.take_of_length_le hge] at hok
    simp only [FS, ↓RE, okR, argEnv, Nat.reduceAdd, Nat.reduceSub, Nat.reduceLT, Nat.reduceLeDiff, Nat.reduceEqDiff, reduceIte, hln, hc, decide_false]
    rw [hany, hok]; rfl
  have hc : ((i : Int) < (l.length : Int)) = True := by simp [hlt]
  obtain ⟨⟨a, b⟩, ha⟩ : ∃ a, l[i]? = some a := ⟨l[i], by simp [hlt]⟩
  have hix : ∀ hp, indexAddrD Tryz.prog hp 22 (.sl (spL l)) (.int .i64 (i : Int)) = some (.ref [.int .i64 a, .int .i64 b] 0) := fun hp => En.ix (P := Tryz.prog) Fz.und_22 Fz.size_70 (En.sl_map (E := enS) l) ha hp .i64
  have hw := wrap_i64 (z := (i : Int) + 1) (by omega) (by omega)
  by_cases q1 : a ≤ t
  · by_cases q2 : t ≤ b
    · simp only [FS, ↓RE, okR, argEnv, Nat.reduceAdd, Nat.reduceSub, Nat.reduceLT, Nat.reduceLeDiff, Nat.reduceEqDiff, reduceIte, hln, hc, decide_true, hix, q1, q2]
      rw [hany, all_not ha (by simp [q1, q2])]; rfl
    · simp only [FS, ↓RE, okR, argEnv, Nat.reduceAdd, Nat.reduceSub, Nat.reduceLT, Nat.reduceLeDiff, Nat.reduceEqDiff, reduceIte, hln, hc, decide_true, decide_false, hix, q1, q2, hw]
      exact ⟨i + 1, ⟨by omega, all_take ha hok (by simp [q2])⟩, by omega, by simp [headW, heapW, envW, blkLt, D.ltL, D.lt, look, hget]⟩
  · simp only [FS, ↓RE, okR, argEnv, Nat.reduceAdd, Nat.reduceSub, Nat.reduceLT, Nat.reduceLeDiff, Nat.reduceEqDiff, reduceIte, hln, hc, decide_true, decide_false, hix, q1, hw]
    exact ⟨i + 1, ⟨by omega, all_take ha hok (by simp [q1])⟩, by omega, by simp [headW, heapW, envW, blkLt, D.ltL, D.lt, look, hget]⟩
end Go.Sx

namespace Go.Sx
open Go.Proofs
set_option maxRecDepth 10000

/-! A sea without glares, and a need that only asks for depth -/
abbrev bareS (s : Se) : Se := ⟨s.wide, s.deep, s.depths, s.w, s.boats, []⟩
abbrev freeN (r d : Int) : Nd := ⟨d, r, 300, 300, 0, 2000, 2000⟩
theorem okSe_bare {s : Se} (h : okSe s = true) : okSe (bareS s) = true := by
  simp only [okSe, Bool.and_eq_true, List.all_nil, okSz] at h ⊢
  exact ⟨h.1, h.2.1, by simp, h.2.2.2.1, h.2.2.2.2.1, h.2.2.2.2.2.1, trivial⟩
theorem seL_bare {s : Se} {gd : D} (h : SeL s gd) : SeL (bareS s) .nils := ⟨h.w, h.depths, h.boats, by simp, rfl⟩
theorem okNd_free {r d : Int} (hr : 1 ≤ r ∧ r ≤ 12) (hd : 0 ≤ d ∧ d ≤ 5000) : okNd (freeN r d) = true := by
  simp [okNd, bIn]; omega
theorem off_deep (l : Lk) (h : LkOk l) : 0 ≤ offL l ↔ l.n.draught ≤ deepB l l.n.run := by
  have hn := okNd_all h.n
  rw [offL_eq l h]
  exact run_best (fr := frL l) (dp := dpL l) (n := l.p.cells.toNat) (c := l.n.run.toNat) (x := l.n.draught) (by omega) (by omega)
theorem calm_mild {w e k : Int} {n : Nd} (hw : okWay w = true) (hc : n.cross = 300) (ht : n.tail = 300) (he : -200 ≤ e ∧ e ≤ 200) (hk : -200 ≤ k ∧ k ≤ 200) : calmB w n e k = true := by
  have hM : (-(200 * lenW w) ≤ acrW w e k ∧ acrW w e k ≤ 200 * lenW w) ∧ (-(200 * lenW w) ≤ aloW w e k ∧ aloW w e k ≤ 200 * lenW w) := by
    rcases way_cases hw with rfl | rfl | rfl | rfl | rfl | rfl | rfl | rfl <;> simp [acrW, aloW, lenW, dxW, dyW] <;> omega
  have hL := len_cases w hw
  have h1 := sqb hM.1 (by omega)
  have h2 := sqb hM.2 (by omega)
  simp only [calmB, hc, ht, Bool.and_eq_true, Bool.or_eq_true, decide_eq_true_eq]
  rcases hL with hL | hL <;> rw [hL] at h1 h2 ⊢ <;> omega
/-- The bounds of a gauge with a course lie within its own. -/
theorem at_in {g : Ga} (hga : gaOk g = true) (hr : runG g = true) {t : Int} (ht : 0 ≤ t ∧ t ≤ 1440) : g.least ≤ (atL g t).1 ∧ (atL g t).1 ≤ (atL g t).2 ∧ (atL g t).2 ≤ g.most := by
  have h1 := (atG_lo g.rate t _ g.rs g.least g.most).1 (Int.le_refl _)
  have h2 := (atG_hi g.rate t _ g.rs g.least g.most).1 (Int.le_refl _)
  exact ⟨h1.1, at_le hga hr ht, h2.1⟩
theorem okWx_lm {w : Wx} (h : okWx w = true) : 0 ≤ w.wave.least ∧ w.wave.most ≤ 2000 ∧ 0 ≤ w.swell.least ∧ w.swell.most ≤ 2000 := by
  simp only [okWx, okB2, Bool.and_eq_true, decide_eq_true_eq] at h
  omega
def mildB (s : Se) : Bool := decide (-200 ≤ s.w.east.least) && (decide (s.w.east.most ≤ 200) && (decide (-200 ≤ s.w.north.least) && decide (s.w.north.most ≤ 200)))

section
variable {s : Se} {gd : D} {p : Sp} {n : Nd} {t : Int}
abbrev bareL (s : Se) (p : Sp) (r d t : Int) : Lk := ⟨bareS s, .nils, p, freeN r d, t⟩
theorem bare_ok (h : LkOk ⟨s, gd, p, n, t⟩) {d : Int} (hd : 0 ≤ d ∧ d ≤ 5000) : LkOk (bareL s p n.run d t) :=
  ⟨seL_bare h.se, okSe_bare h.s, h.p, okNd_free (okNd_run h.n) hd, h.t⟩
theorem bare_ask (h : LkOk ⟨s, gd, p, n, t⟩) (hso : soundW s.w = true) {d : Int} (hd : 0 ≤ d ∧ d ≤ 5000) : askE (bareL s p n.run d t) = 0 := by
  have hb := bare_ok h hd
  have h1 := hb.s
  have h2 := hb.p
  have h3 := hb.n
  have h4 : bIn t 0 1440 = true := by have := h.t; simpa [bIn] using this
  simp only [askE, h1, h2, h3, h4, Bool.and_self, if_true]
  simp only [bareL, bareS, hso, if_true]
theorem bare_no (h : LkOk ⟨s, gd, p, n, t⟩) (hso : soundW s.w = true) {d : Int} (hd : 0 ≤ d ∧ d ≤ 5000) (hx : deepB ⟨s, gd, p, n, t⟩ n.run < d) : SureA (bareL s p n.run d t) = (0, 7) := by
  have h1 : surelyB (bareL s p n.run d t) = false := by
    have h2 := off_deep _ (bare_ok h hd)
    have h3 : deepB (bareL s p n.run d t) n.run = deepB ⟨s, gd, p, n, t⟩ n.run := rfl
    have h4 : ¬ 0 ≤ offL (bareL s p n.run d t) := fun h5 => by
      have := h2.1 h5
      dsimp only at this
      rw [h3] at this
      omega
    simp only [surelyB, h4, decide_false, Bool.false_and]
  simp only [SureA, bare_ask h hso hd, if_true, h1, Bool.false_eq_true, if_false]
theorem bare_yes (h : LkOk ⟨s, gd, p, n, t⟩) (hso : soundW s.w = true) {d : Int} (hd : 0 ≤ d ∧ d ≤ 5000) (hx : d ≤ deepB ⟨s, gd, p, n, t⟩ n.run) (hm : mildB s = true) : ∃ o, SureA (bareL s p n.run d t) = (o, 0) := by
  have hwx := okWx_gaOk (okSe_wx h.s)
  have hsn := sound_north hso
  have h1 := at_in hwx.east hsn.2.1 h.t
  have h2 := at_in hwx.north hsn.2.2.1 h.t
  have h3 := at_in hwx.wave hsn.2.2.2.1 h.t
  have h4 := at_in hwx.swell hsn.2.2.2.2 h.t
  have h5 := okWx_lm (okSe_wx h.s)
  have hwy := (okSp_ce h.p).1
  simp only [mildB, Bool.and_eq_true, decide_eq_true_eq] at hm
  dsimp only at h1 h2 h3 h4 h5 hwy
  have q : surelyB (bareL s p n.run d t) = true := by
    simp only [surelyB, Bool.and_eq_true, decide_eq_true_eq]
    refine ⟨(off_deep _ (bare_ok h hd)).2 hx, ?_, ?_, rfl⟩
    · simp only [calmS, Bool.and_eq_true]
      exact ⟨⟨calm_mild hwy rfl rfl (by omega) (by omega), calm_mild hwy rfl rfl (by omega) (by omega)⟩, calm_mild hwy rfl rfl (by omega) (by omega), calm_mild hwy rfl rfl (by omega) (by omega)⟩
    · simp only [flatS, Bool.and_eq_true, decide_eq_true_eq]
      omega
  exact ⟨offL (bareL s p n.run d t), by simp only [SureA, bare_ask h hso hd, if_true, q]⟩
theorem bare_any (h : LkOk ⟨s, gd, p, n, t⟩) (hso : soundW s.w = true) {d : Int} (hd : 0 ≤ d ∧ d ≤ 5000) : (∃ o, SureA (bareL s p n.run d t) = (o, 0)) ∨ SureA (bareL s p n.run d t) = (0, 7) := by
  simp only [SureA, bare_ask h hso hd, if_true]
  split
  · exact .inl ⟨_, rfl⟩
  · exact .inr rfl
end
end Go.Sx
