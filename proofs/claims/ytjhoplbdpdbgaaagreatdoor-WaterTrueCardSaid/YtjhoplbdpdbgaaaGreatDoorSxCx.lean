/- Own work: a calculus of contracts for the programs of this kit: parts SxC59z, SxC60z, SxC61z, SxC63z, SxC64z. -/
import Derived.Test.YtjhoplbdpdbgaaaGreatDoorSxCw
set_option linter.unusedVariables false
set_option linter.unusedSimpArgs false
namespace Go.Sx
open Go.Proofs
set_option maxRecDepth 10000

/-! Laws of runs and of boats -/
theorem runS_ge {g : Nat → Bool} {n c : Nat} : 0 ≤ runS g n c ↔ ∃ o, o < n + 1 - c ∧ allG g o c = true := by
  simp only [runS]
  constructor
  · intro h
    split at h
    · rename_i o ho
      exact ⟨o, List.mem_range.1 (List.mem_of_find?_eq_some ho), List.find?_some (p := fun o => allG g o c) ho⟩
    · omega
  · rintro ⟨o, a, b⟩
    split
    · omega
    · rename_i hno
      have := List.find?_eq_none.1 hno o (List.mem_range.2 a)
      rw [b] at this
      exact absurd rfl this
/-- A run that is found is one. -/
theorem runS_at {g : Nat → Bool} {n c : Nat} (h : 0 ≤ runS g n c) : ∃ o : Nat, runS g n c = (o : Int) ∧ o < n + 1 - c ∧ allG g o c = true := by
  simp only [runS] at h ⊢
  split at h
  · rename_i o ho
    exact ⟨o, by simp, List.mem_range.1 (List.mem_of_find?_eq_some ho), List.find?_some (p := fun o => allG g o c) ho⟩
  · omega
theorem allG_mono {g h : Nat → Bool} {o c c' : Nat} (hc : c' ≤ c) (hgh : ∀ k, k < o + c → g k = true → h k = true) (ha : allG g o c = true) : allG h o c' = true :=
  allG_iff.2 fun j hj => hgh _ (by omega) (allG_iff.1 ha j (by omega))
theorem runS_mono {g h : Nat → Bool} {n c c' : Nat} (hc : c' ≤ c) (hc1 : c ≤ n ∨ 0 < c') (hgh : ∀ k, k < n → g k = true → h k = true) (hr : 0 ≤ runS g n c) : 0 ≤ runS h n c' := by
  obtain ⟨o, h1, h2⟩ := runS_ge.1 hr
  exact runS_ge.2 ⟨o, by omega, allG_mono hc (fun k hk => hgh k (by omega)) h2⟩
theorem freeB_iff {th : Nat → Bool} {x y : Int} : ∀ {bs : List Bt} {i : Nat}, freeB th x y bs i = true ↔ ∀ (j : Nat) (b : Bt), bs[j]? = some b → th (i + j) = true → inW b x y = false
  | [], i => by simp [freeB]
  | b :: r, i => by
    have ih := @freeB_iff th x y r (i + 1)
    simp only [freeB, Bool.and_eq_true, ih]
    constructor
    · rintro ⟨h1, h2⟩ j c hj ht
      cases j with
      | zero =>
        simp only [List.getElem?_cons_zero, Option.some.injEq] at hj
        subst hj
        rw [Nat.add_zero] at ht
        simpa [ht] using h1
      | succ j =>
        rw [List.getElem?_cons_succ] at hj
        exact h2 j c hj (by rw [show i + 1 + j = i + (j + 1) by omega]; exact ht)
    · intro h
      refine ⟨?_, fun j c hj ht => h (j + 1) c (by simpa using hj) (by rw [show i + (j + 1) = i + 1 + j by omega]; exact ht)⟩
      cases ht : th i
      · rfl
      · rw [h 0 b rfl (by rw [Nat.add_zero]; exact ht)]; rfl
theorem freeB_mono {th th' : Nat → Bool} {x y : Int} {bs : List Bt} {i : Nat} (ht : ∀ i, th' i = true → th i = true) (h : freeB th x y bs i = true) : freeB th' x y bs i = true :=
  freeB_iff.2 fun j b hj hb => freeB_iff.1 h j b hj (ht _ hb)

/-! What is surely so is possibly so -/
theorem okNd_all {n : Nd} (h : okNd n = true) : (0 ≤ n.draught ∧ n.draught ≤ 5000) ∧ (1 ≤ n.run ∧ n.run ≤ 12) ∧ (0 ≤ n.cross ∧ n.cross ≤ 300) ∧ (0 ≤ n.tail ∧ n.tail ≤ 300) ∧ (0 ≤ n.calm ∧ n.calm ≤ n.wave) ∧ n.wave ≤ 2000 ∧ (0 ≤ n.swell ∧ n.swell ≤ 2000) := by
  simpa only [okNd, Bool.and_eq_true, bIn, decide_eq_true_eq] using h
theorem cell_dp {l : Lk} (hs : okSe l.s = true) (hp : okSp l.s l.p = true) {k : Nat} (hk : k < l.p.cells.toNat) : (dpAt l.s (cellI l.s l.p k)).1 ≤ (dpAt l.s (cellI l.s l.p k)).2 := by
  have hcl := cell_lt (okSe_sz hs).1.1 hp (k := (k : Int)) (by omega)
  exact (dp_ok hs hcl.1 hcl.2).2.2.1
theorem sure_pass (l : Lk) (i : Nat) (h : sureB l i = true) : passB l i = true := by
  simp only [sureB, Bool.and_eq_true] at h; exact h.2
theorem surely_poss (l : Lk) (h : LkOk l) (hso : soundW l.s.w = true) (hb : surelyB l = true) : possB l = true := by
  simp only [surelyB, Bool.and_eq_true, decide_eq_true_eq] at hb
  obtain ⟨h1, h2, h3, h4⟩ := hb
  have hwx := okWx_gaOk (okSe_wx h.s)
  have hsn := sound_north hso
  have ha1 := at_le hwx.tide hsn.1 h.t
  have ha2 := at_le hwx.east hsn.2.1 h.t
  have ha3 := at_le hwx.north hsn.2.2.1 h.t
  have ha4 := at_le hwx.wave hsn.2.2.2.1 h.t
  have ha5 := at_le hwx.swell hsn.2.2.2.2 h.t
  have hn := okNd_all h.n
  simp only [possB, Bool.and_eq_true, decide_eq_true_eq]
  refine ⟨?_, ?_, ?_, h4⟩
  · rw [offL_eq l h] at h1
    rw [offP_eq l h]
    refine runS_mono (Nat.le_refl _) (.inr (by omega)) (fun k hk hg => ?_) h1
    have hd := cell_dp h.s h.p hk
    simp only [goodK, Bool.and_eq_true, decide_eq_true_eq] at hg ⊢
    exact ⟨by omega, freeB_mono (sure_pass l) hg.2⟩
  · simp only [calmS, Bool.and_eq_true] at h2
    exact anyI_iff.2 ⟨_, Int.le_refl _, ha2, anyI_iff.2 ⟨_, Int.le_refl _, ha3, h2.1.1⟩⟩
  · simp only [flatS, Bool.and_eq_true, decide_eq_true_eq] at h3
    simp only [flatP, Bool.and_eq_true, decide_eq_true_eq]
    omega

/-! A minute lies in some window -/
theorem holds_t (l : List (Int × Int)) (t : Int) (hl : l.length ≤ 10000) : Pure Tryz.prog 38 [.sl (spL l), .int .i64 t] (.bool (inS l t)) := by
  have hln := fun hp => En.len (P := Tryz.prog) Fz.und_22 (En.sl_map (E := enS) l) hp
  refine pure_of_wc (rs := [.tmp 4]) (m := 28) [] oNone_ok (by kernel_rfl) Tryz.func38 rfl (by kernel_rfl) rfl rfl (by kernel_rfl) ?_
  simp only [FS, ↓RE, okR, argEnv, Nat.reduceAdd, Nat.reduceSub, Nat.reduceLT, Nat.reduceLeDiff, Nat.reduceEqDiff, reduceIte]
  refine loopV (ι := Nat) oNone_ok [] (fun i => [(0, .sl (spL l)), (1, .int .i64 t), (5, .int .i64 (i : Int))])
    (fun i => []) 0 (fun i => i ≤ l.length ∧ (l.take i).all (fun a => !(decide (a.1 ≤ t) && decide (t ≤ a.2))) = true) (fun i => l.length - i) 0 (by kernel_rfl) (by kernel_rfl) ⟨Nat.zero_le _, by simp⟩ ?_ ?_
  · simp [headW, heapW, envW, blkLt, D.ltL, D.lt, look, hget]
  rintro i ⟨hi, hok⟩
  have hany : inS l t = !(l.all fun a => !(decide (a.1 ≤ t) && decide (t ≤ a.2))) := by rw [inS, List.any_eq_not_all_not]
  rcases Nat.lt_or_ge i l.length with hlt | hge
  rotate_left
  · have hc : ((i : Int) < (l.length : Int)) = False := by simp; omega
    rw [List.take_of_length_le hge] at hok
    simp only [FS, ↓RE, okR, argEnv, Nat.reduceAdd, Nat.reduceSub, Nat.reduceLT, Nat.reduceLeDiff, Nat.reduceEqDiff, reduceIte, hln, hc, decide_false]
    rw [hany, hok]; rfl
  have hc : ((i : Int) < (l.length : Int)) = True := by simp [hlt]
  obtain ⟨⟨a, b⟩, ha⟩ : ∃ a, l[i]? = some a := ⟨l[i], by simp [hlt]⟩
  have hix : ∀ hp, indexAddrD Tryz.prog hp 22 (.sl (spL l)) (.int .i64 (i : Int)) = some (.ref [.int .i64 a, .int .i64 b] 0) := fun hp => En.ix (P := Tryz.prog) Fz.und_22 Fz.size_70 (En.sl_map (E := enS) l) ha hp .i64
  have hw := wrap_i64 (z := (i : Int) + 1) (by omega) (by omega)
  by_cases q1 : a ≤ t
  · by_cases q2 : t ≤ b
    · simp only [FS, ↓RE, okR, argEnv, Nat.reduceAdd, Nat.reduceSub, Nat.reduceLT, Nat.reduceLeDiff, Nat.reduceEqDiff, reduceIte, hln, hc, decide_true, hix, q1, q2]
      rw [hany, all_not ha (by simp [q1, q2])]; rfl
    · simp only [FS, ↓RE, okR, argEnv, Nat.reduceAdd, Nat.reduceSub, Nat.reduceLT, Nat.reduceLeDiff, Nat.reduceEqDiff, reduceIte, hln, hc, decide_true, decide_false, hix, q1, q2, hw]
      exact ⟨i + 1, ⟨by omega, all_take ha hok (by simp [q2])⟩, by omega, by simp [headW, heapW, envW, blkLt, D.ltL, D.lt, look, hget]⟩
  · simp only [FS, ↓RE, okR, argEnv, Nat.reduceAdd, Nat.reduceSub, Nat.reduceLT, Nat.reduceLeDiff, Nat.reduceEqDiff, reduceIte, hln, hc, decide_true, decide_false, hix, q1, hw]
    exact ⟨i + 1, ⟨by omega, all_take ha hok (by simp [q1])⟩, by omega, by simp [headW, heapW, envW, blkLt, D.ltL, D.lt, look, hget]⟩
end Go.Sx

namespace Go.Sx
open Go.Proofs
set_option maxRecDepth 10000

/-! A sea without glares, and a need that only asks for depth -/
abbrev bareS (s : Se) : Se := ⟨s.wide, s.deep, s.depths, s.w, s.boats, []⟩
abbrev freeN (r d : Int) : Nd := ⟨d, r, 300, 300, 0, 2000, 2000⟩
theorem okSe_bare {s : Se} (h : okSe s = true) : okSe (bareS s) = true := by
  simp only [okSe, Bool.and_eq_true, List.all_nil, okSz] at h ⊢
  exact ⟨h.1, h.2.1, by simp, h.2.2.2.1, h.2.2.2.2.1, h.2.2.2.2.2.1, trivial⟩
theorem seL_bare {s : Se} {gd : D} (h : SeL s gd) : SeL (bareS s) .nils := ⟨h.w, h.depths, h.boats, by simp, rfl⟩
theorem okNd_free {r d : Int} (hr : 1 ≤ r ∧ r ≤ 12) (hd : 0 ≤ d ∧ d ≤ 5000) : okNd (freeN r d) = true := by
  simp [okNd, bIn]; omega
theorem off_deep (l : Lk) (h : LkOk l) : 0 ≤ offL l ↔ l.n.draught ≤ deepB l l.n.run := by
  have hn := okNd_all h.n
  rw [offL_eq l h]
  exact run_best (fr := frL l) (dp := dpL l) (n := l.p.cells.toNat) (c := l.n.run.toNat) (x := l.n.draught) (by omega) (by omega)
theorem calm_mild {w e k : Int} {n : Nd} (hw : okWay w = true) (hc : n.cross = 300) (ht : n.tail = 300) (he : -200 ≤ e ∧ e ≤ 200) (hk : -200 ≤ k ∧ k ≤ 200) : calmB w n e k = true := by
  have hM : (-(200 * lenW w) ≤ acrW w e k ∧ acrW w e k ≤ 200 * lenW w) ∧ (-(200 * lenW w) ≤ aloW w e k ∧ aloW w e k ≤ 200 * lenW w) := by
    rcases way_cases hw with rfl | rfl | rfl | rfl | rfl | rfl | rfl | rfl <;> simp [acrW, aloW, lenW, dxW, dyW] <;> omega
  have hL := len_cases w hw
  have h1 := sqb hM.1 (by omega)
  have h2 := sqb hM.2 (by omega)
  simp only [calmB, hc, ht, Bool.and_eq_true, Bool.or_eq_true, decide_eq_true_eq]
  rcases hL with hL | hL <;> rw [hL] at h1 h2 ⊢ <;> omega
/-- The bounds of a gauge with a course lie within its own. -/
theorem at_in {g : Ga} (hga : gaOk g = true) (hr : runG g = true) {t : Int} (ht : 0 ≤ t ∧ t ≤ 1440) : g.least ≤ (atL g t).1 ∧ (atL g t).1 ≤ (atL g t).2 ∧ (atL g t).2 ≤ g.most := by
  have h1 := (atG_lo g.rate t _ g.rs g.least g.most).1 (Int.le_refl _)
  have h2 := (atG_hi g.rate t _ g.rs g.least g.most).1 (Int.le_refl _)
  exact ⟨h1.1, at_le hga hr ht, h2.1⟩
theorem okWx_lm {w : Wx} (h : okWx w = true) : 0 ≤ w.wave.least ∧ w.wave.most ≤ 2000 ∧ 0 ≤ w.swell.least ∧ w.swell.most ≤ 2000 := by
  simp only [okWx, okB2, Bool.and_eq_true, decide_eq_true_eq] at h
  omega
def mildB (s : Se) : Bool := decide (-200 ≤ s.w.east.least) && (decide (s.w.east.most ≤ 200) && (decide (-200 ≤ s.w.north.least) && decide (s.w.north.most ≤ 200)))

section
variable {s : Se} {gd : D} {p : Sp} {n : Nd} {t : Int}
abbrev bareL (s : Se) (p : Sp) (r d t : Int) : Lk := ⟨bareS s, .nils, p, freeN r d, t⟩
theorem bare_ok (h : LkOk ⟨s, gd, p, n, t⟩) {d : Int} (hd : 0 ≤ d ∧ d ≤ 5000) : LkOk (bareL s p n.run d t) :=
  ⟨seL_bare h.se, okSe_bare h.s, h.p, okNd_free (okNd_run h.n) hd, h.t⟩
theorem bare_ask (h : LkOk ⟨s, gd, p, n, t⟩) (hso : soundW s.w = true) {d : Int} (hd : 0 ≤ d ∧ d ≤ 5000) : askE (bareL s p n.run d t) = 0 := by
  have hb := bare_ok h hd
  have h1 := hb.s
  have h2 := hb.p
  have h3 := hb.n
  have h4 : bIn t 0 1440 = true := by have := h.t; simpa [bIn] using this
  simp only [askE, h1, h2, h3, h4, Bool.and_self, if_true]
  simp only [bareL, bareS, hso, if_true]
theorem bare_no (h : LkOk ⟨s, gd, p, n, t⟩) (hso : soundW s.w = true) {d : Int} (hd : 0 ≤ d ∧ d ≤ 5000) (hx : deepB ⟨s, gd, p, n, t⟩ n.run < d) : SureA (bareL s p n.run d t) = (0, 7) := by
  have h1 : surelyB (bareL s p n.run d t) = false := by
    have h2 := off_deep _ (bare_ok h hd)
    have h3 : deepB (bareL s p n.run d t) n.run = deepB ⟨s, gd, p, n, t⟩ n.run := rfl
    have h4 : ¬ 0 ≤ offL (bareL s p n.run d t) := fun h5 => by
      have := h2.1 h5
      dsimp only at this
      rw [h3] at this
      omega
    simp only [surelyB, h4, decide_false, Bool.false_and]
  simp only [SureA, bare_ask h hso hd, if_true, h1, Bool.false_eq_true, if_false]
theorem bare_yes (h : LkOk ⟨s, gd, p, n, t⟩) (hso : soundW s.w = true) {d : Int} (hd : 0 ≤ d ∧ d ≤ 5000) (hx : d ≤ deepB ⟨s, gd, p, n, t⟩ n.run) (hm : mildB s = true) : ∃ o, SureA (bareL s p n.run d t) = (o, 0) := by
  have hwx := okWx_gaOk (okSe_wx h.s)
  have hsn := sound_north hso
  have h1 := at_in hwx.east hsn.2.1 h.t
  have h2 := at_in hwx.north hsn.2.2.1 h.t
  have h3 := at_in hwx.wave hsn.2.2.2.1 h.t
  have h4 := at_in hwx.swell hsn.2.2.2.2 h.t
  have h5 := okWx_lm (okSe_wx h.s)
  have hwy := (okSp_ce h.p).1
  simp only [mildB, Bool.and_eq_true, decide_eq_true_eq] at hm
  dsimp only at h1 h2 h3 h4 h5 hwy
  have q : surelyB (bareL s p n.run d t) = true := by
    simp only [surelyB, Bool.and_eq_true, decide_eq_true_eq]
    refine ⟨(off_deep _ (bare_ok h hd)).2 hx, ?_, ?_, rfl⟩
    · simp only [calmS, Bool.and_eq_true]
      exact ⟨⟨calm_mild hwy rfl rfl (by omega) (by omega), calm_mild hwy rfl rfl (by omega) (by omega)⟩, calm_mild hwy rfl rfl (by omega) (by omega), calm_mild hwy rfl rfl (by omega) (by omega)⟩
    · simp only [flatS, Bool.and_eq_true, decide_eq_true_eq]
      omega
  exact ⟨offL (bareL s p n.run d t), by simp only [SureA, bare_ask h hso hd, if_true, q]⟩
theorem bare_any (h : LkOk ⟨s, gd, p, n, t⟩) (hso : soundW s.w = true) {d : Int} (hd : 0 ≤ d ∧ d ≤ 5000) : (∃ o, SureA (bareL s p n.run d t) = (o, 0)) ∨ SureA (bareL s p n.run d t) = (0, 7) := by
  simp only [SureA, bare_ask h hso hd, if_true]
  split
  · exact .inl ⟨_, rfl⟩
  · exact .inr rfl
end
end Go.Sx

namespace Go.Sx
open Go.Proofs
set_option maxRecDepth 10000

/-! Truths -/
structure Tr where
  minute : Int
  tide : Int
  east : Int
  north : Int
  wave : Int
  swell : Int
  depths : List Int
  boats : List Bool
abbrev Tr.c (t : Tr) : List D := [.int .i64 t.minute, .int .i64 t.tide, .int .i64 t.east, .int .i64 t.north, .int .i64 t.wave, .int .i64 t.swell, .sl (t.depths.map enI.d), .sl (t.boats.map enB.d)]
def okVal (x : Int) : Bool := bIn x (-100000) 100000
def okTr (s : Se) (t : Tr) : Bool := bIn t.minute 0 1440 && (okVal t.tide && (okVal t.east && (okVal t.north && (okVal t.wave && (okVal t.swell && (((t.depths.length : Int) == (s.depths.length : Int)) && (((t.boats.length : Int) == (s.boats.length : Int)) && t.depths.all okVal)))))))
abbrev trL (s : Se) (gd : D) (p : Sp) (n : Nd) (t : Tr) : Lk := ⟨s, gd, p, n, t.minute⟩
def goodTr (l : Lk) (t : Tr) : Nat → Bool := goodK l (iAt t.depths) t.tide (bAt t.boats)
def usB (l : Lk) (t : Tr) : Bool := decide (0 ≤ runP (goodTr l t) l.n.run l.p.cells.toNat 0 0) && (calmB l.p.way l.n t.east t.north && (bIn t.wave l.n.calm l.n.wave && (decide (t.swell ≤ l.n.swell) && !blindL l)))
def inAt (g : Ga) (t x : Int) : Bool := bIn x (atL g t).1 (atL g t).2
def agBt (t : Int) (b : Bt) (th : Bool) : Bool := if th then bIn t b.t.1 b.t.2 else !(bIn t b.t.1 b.t.2 && b.sure)
def agB (s : Se) (t : Tr) : Bool := (inAt s.w.tide t.minute t.tide && (inAt s.w.east t.minute t.east && (inAt s.w.north t.minute t.north && (inAt s.w.wave t.minute t.wave && inAt s.w.swell t.minute t.swell)))) && ((s.depths.zip t.depths).all (fun q => bIn q.2 q.1.1 q.1.2) && (s.boats.zip t.boats).all fun q => agBt t.minute q.1 q.2)

/-! The laws of truths -/
theorem sq_mid {x a y C : Int} (h1 : x ≤ a) (h2 : a ≤ y) (h3 : x * x ≤ C) (h4 : y * y ≤ C) : a * a ≤ C := by
  rcases Int.le_total 0 a with h | h
  · exact Int.le_trans (sq_le h h2) h4
  · exact Int.le_trans (sq_le' h h1) h3
theorem acr_corner {w e n e1 e2 n1 n2 : Int} (hw : okWay w = true) (he : e1 ≤ e ∧ e ≤ e2) (hn : n1 ≤ n ∧ n ≤ n2) :
    (acrW w e1 n1 ≤ acrW w e n ∨ acrW w e1 n2 ≤ acrW w e n ∨ acrW w e2 n1 ≤ acrW w e n ∨ acrW w e2 n2 ≤ acrW w e n) ∧
    (acrW w e n ≤ acrW w e1 n1 ∨ acrW w e n ≤ acrW w e1 n2 ∨ acrW w e n ≤ acrW w e2 n1 ∨ acrW w e n ≤ acrW w e2 n2) := by
  rcases way_cases hw with rfl | rfl | rfl | rfl | rfl | rfl | rfl | rfl <;> simp [acrW, dxW, dyW] <;> omega
theorem alo_corner {w e n e1 e2 n1 n2 : Int} (hw : okWay w = true) (he : e1 ≤ e ∧ e ≤ e2) (hn : n1 ≤ n ∧ n ≤ n2) :
    (aloW w e n ≤ aloW w e1 n1 ∨ aloW w e n ≤ aloW w e1 n2 ∨ aloW w e n ≤ aloW w e2 n1 ∨ aloW w e n ≤ aloW w e2 n2) := by
  rcases way_cases hw with rfl | rfl | rfl | rfl | rfl | rfl | rfl | rfl <;> simp [aloW, dxW, dyW] <;> omega
theorem calmB_iff {w : Int} {n : Nd} {e k : Int} : calmB w n e k = true ↔ acrW w e k * acrW w e k ≤ lenW w * n.cross * n.cross ∧ (aloW w e k ≤ 0 ∨ aloW w e k * aloW w e k ≤ lenW w * n.tail * n.tail) := by
  simp only [calmB, Bool.and_eq_true, Bool.or_eq_true, decide_eq_true_eq]
/-- What holds of the corners holds of all winds. -/
theorem calm_in {w e k e1 e2 n1 n2 : Int} {n : Nd} (hw : okWay w = true) (he : e1 ≤ e ∧ e ≤ e2) (hn : n1 ≤ k ∧ k ≤ n2)
    (h1 : calmB w n e1 n1 = true) (h2 : calmB w n e1 n2 = true) (h3 : calmB w n e2 n1 = true) (h4 : calmB w n e2 n2 = true) : calmB w n e k = true := by
  rw [calmB_iff] at *
  obtain ⟨a1, b1⟩ := h1
  obtain ⟨a2, b2⟩ := h2
  obtain ⟨a3, b3⟩ := h3
  obtain ⟨a4, b4⟩ := h4
  constructor
  · obtain ⟨c1, c2⟩ := acr_corner hw he hn
    rcases c1 with c1 | c1 | c1 | c1 <;> rcases c2 with c2 | c2 | c2 | c2 <;> exact sq_mid c1 c2 (by assumption) (by assumption)
  · rcases Int.le_total (aloW w e k) 0 with h | h
    · exact .inl h
    · have key : ∀ y, aloW w e k ≤ y → (y ≤ 0 ∨ y * y ≤ lenW w * n.tail * n.tail) → aloW w e k ≤ 0 ∨ aloW w e k * aloW w e k ≤ lenW w * n.tail * n.tail := fun y hy hb => by
        rcases hb with hb | hb
        · exact .inl (Int.le_trans hy hb)
        · exact .inr (Int.le_trans (sq_le h hy) hb)
      rcases alo_corner hw he hn with c | c | c | c
      · exact key _ c b1
      · exact key _ c b2
      · exact key _ c b3
      · exact key _ c b4

structure TrOk (s : Se) (t : Tr) : Prop where
  minute : 0 ≤ t.minute ∧ t.minute ≤ 1440
  east : -100000 ≤ t.east ∧ t.east ≤ 100000
  north : -100000 ≤ t.north ∧ t.north ≤ 100000
  tide : -100000 ≤ t.tide ∧ t.tide ≤ 100000
  dl : t.depths.length = s.depths.length
  bl : t.boats.length = s.boats.length
  dv : ∀ x ∈ t.depths, -100000 ≤ x ∧ x ≤ 100000
theorem trOk {s : Se} {t : Tr} (h : okTr s t = true) : TrOk s t := by
  simp only [okTr, okVal, Bool.and_eq_true, beq_iff_eq, bIn, decide_eq_true_eq, List.all_eq_true] at h
  obtain ⟨h1, h2, h3, h4, h5, h6, h7, h8, h9⟩ := h
  exact ⟨h1, h3, h4, h2, by omega, by omega, h9⟩
structure AgOk (s : Se) (t : Tr) : Prop where
  tide : (atL s.w.tide t.minute).1 ≤ t.tide ∧ t.tide ≤ (atL s.w.tide t.minute).2
  east : (atL s.w.east t.minute).1 ≤ t.east ∧ t.east ≤ (atL s.w.east t.minute).2
  north : (atL s.w.north t.minute).1 ≤ t.north ∧ t.north ≤ (atL s.w.north t.minute).2
  wave : (atL s.w.wave t.minute).1 ≤ t.wave ∧ t.wave ≤ (atL s.w.wave t.minute).2
  swell : (atL s.w.swell t.minute).1 ≤ t.swell ∧ t.swell ≤ (atL s.w.swell t.minute).2
  depth : ∀ (i : Nat) (d : Int × Int) (x : Int), s.depths[i]? = some d → t.depths[i]? = some x → d.1 ≤ x ∧ x ≤ d.2
  boat : ∀ (i : Nat) (b : Bt) (x : Bool), s.boats[i]? = some b → t.boats[i]? = some x → agBt t.minute b x = true
theorem agOk {s : Se} {t : Tr} (h : agB s t = true) : AgOk s t := by
  simp only [agB, inAt, Bool.and_eq_true, bIn, decide_eq_true_eq, List.all_eq_true] at h
  obtain ⟨⟨h1, h2, h3, h4, h5⟩, h6, h7⟩ := h
  refine ⟨h1, h2, h3, h4, h5, fun i d x hd hx => ?_, fun i b x hb hx => ?_⟩
  · exact h6 (d, x) (List.mem_of_getElem? (i := i) (by rw [List.getElem?_zip_eq_some]; exact ⟨hd, hx⟩))
  · exact h7 (b, x) (List.mem_of_getElem? (i := i) (by rw [List.getElem?_zip_eq_some]; exact ⟨hb, hx⟩))

section
variable {s : Se} {gd : D} {p : Sp} {n : Nd} {t : Tr}
theorem tr_cell (h : LkOk (trL s gd p n t)) (ht : TrOk s t) (ha : AgOk s t) {k : Nat} (hk : k < p.cells.toNat) :
    (dpAt s (cellI s p k)).1 ≤ iAt t.depths (cellI s p k) ∧ iAt t.depths (cellI s p k) ≤ (dpAt s (cellI s p k)).2 := by
  have hp : okSp s p = true := h.p
  have hcl := cell_lt (okSe_sz h.s).1.1 hp (k := (k : Int)) (by omega)
  obtain ⟨hd, _⟩ := dp_ok h.s hcl.1 hcl.2
  have hlt : (cellI s p k).toNat < t.depths.length := by
    rw [ht.dl]; exact (List.getElem?_eq_some_iff.1 hd).1
  have hx : t.depths[(cellI s p k).toNat]? = some (iAt t.depths (cellI s p k)) := by
    simp [iAt, hlt, List.getD]
  exact ha.depth _ _ _ hd hx
theorem tr_boat (ht : TrOk s t) (ha : AgOk s t) (i : Nat) : (bAt t.boats i = true → passB (trL s gd p n t) i = true) ∧ (sureB (trL s gd p n t) i = true → bAt t.boats i = true) := by
  simp only [bAt, sureB, passB, List.getD_eq_getElem?_getD]
  cases hb : s.boats[i]? with
  | none =>
    have : t.boats[i]? = none := by
      rw [List.getElem?_eq_none_iff] at hb ⊢
      rw [ht.bl]; exact hb
    simp [this]
  | some b =>
    have hlt : i < t.boats.length := by rw [ht.bl]; exact (List.getElem?_eq_some_iff.1 hb).1
    have hx : t.boats[i]? = some t.boats[i] := by simp [hlt]
    have := ha.boat i b _ hb hx
    rw [hx]
    generalize t.boats[i] = x at this
    cases x <;> simp_all [agBt]
    intro hh
    rcases this with q | q
    · exact q
    · rw [hh] at q; cases q
theorem usP (h : LkOk (trL s gd p n t)) : runP (goodTr (trL s gd p n t) t) n.run p.cells.toNat 0 0 = runS (goodTr (trL s gd p n t) t) p.cells.toNat n.run.toNat := by
  have hr := okNd_run (n := n) h.n
  have := runP_eq (goodTr (trL s gd p n t) t) p.cells.toNat n.run.toNat (by omega) p.cells.toNat 0 0 (by omega) (by omega) (by omega) (fun i a b => by omega) (.inl rfl) (fun o ho => by omega)
  rw [Int.toNat_of_nonneg (by omega)] at this
  exact this
theorem tr_good (h : LkOk (trL s gd p n t)) (ht : TrOk s t) (ha : AgOk s t) {k : Nat} (hk : k < p.cells.toNat)
    (hg : goodK (trL s gd p n t) (fun i => (dpAt s i).1) (atL s.w.tide t.minute).1 (passB (trL s gd p n t)) k = true) : goodTr (trL s gd p n t) t k = true := by
  have hd := (tr_cell h ht ha hk).1
  have := ha.tide
  simp only [goodTr, goodK, Bool.and_eq_true, decide_eq_true_eq] at hg ⊢
  exact ⟨by omega, freeB_mono (fun i => (tr_boat ht ha i).1) hg.2⟩
/-- What is surely usable is usable in a truth that agrees. -/
theorem surely_us (h : LkOk (trL s gd p n t)) (ht : TrOk s t) (ha : AgOk s t) (hb : surelyB (trL s gd p n t) = true) : usB (trL s gd p n t) t = true := by
  simp only [surelyB, Bool.and_eq_true, decide_eq_true_eq] at hb
  obtain ⟨h1, h2, h3, h4⟩ := hb
  have hn := okNd_all (n := n) h.n
  simp only [usB, Bool.and_eq_true, decide_eq_true_eq]
  refine ⟨?_, ?_, ?_, ?_, h4⟩
  · rw [offL_eq _ h] at h1
    rw [usP h]
    exact runS_mono (Nat.le_refl _) (.inr (show 0 < n.run.toNat by omega)) (fun k hk hg => tr_good h ht ha hk hg) h1
  · simp only [calmS, Bool.and_eq_true] at h2
    exact calm_in (okSp_ce (s := s) (p := p) h.p).1 ha.east ha.north h2.1.1 h2.1.2 h2.2.1 h2.2.2
  · simp only [flatS, Bool.and_eq_true, decide_eq_true_eq] at h3
    have := ha.wave
    simp only [bIn, Bool.and_eq_true, decide_eq_true_eq]; omega
  · simp only [flatS, Bool.and_eq_true, decide_eq_true_eq] at h3
    have := ha.swell
    omega
/-- What is usable in a truth that agrees is possibly usable. -/
theorem us_poss (h : LkOk (trL s gd p n t)) (ht : TrOk s t) (ha : AgOk s t) (hb : usB (trL s gd p n t) t = true) : possB (trL s gd p n t) = true := by
  simp only [usB, Bool.and_eq_true, decide_eq_true_eq] at hb
  obtain ⟨h1, h2, h3, h4, h5⟩ := hb
  have hn := okNd_all (n := n) h.n
  simp only [possB, Bool.and_eq_true, decide_eq_true_eq]
  refine ⟨?_, ?_, ?_, h5⟩
  · rw [usP h] at h1
    rw [offP_eq _ h]
    refine runS_mono (Nat.le_refl _) (.inr (show 0 < n.run.toNat by omega)) (fun k hk hg => ?_) h1
    have hd := (tr_cell h ht ha hk).2
    have := ha.tide
    simp only [goodTr, goodK, Bool.and_eq_true, decide_eq_true_eq] at hg ⊢
    exact ⟨by omega, freeB_mono (fun i => (tr_boat ht ha i).2) hg.2⟩
  · exact anyI_iff.2 ⟨_, ha.east.1, ha.east.2, anyI_iff.2 ⟨_, ha.north.1, ha.north.2, h2⟩⟩
  · simp only [bIn, Bool.and_eq_true, decide_eq_true_eq] at h3
    have := ha.wave
    have := ha.swell
    simp only [flatP, Bool.and_eq_true, decide_eq_true_eq]
    omega
/-- The run that is told is good in a truth that agrees. -/
theorem surely_run (h : LkOk (trL s gd p n t)) (ht : TrOk s t) (ha : AgOk s t) (hb : surelyB (trL s gd p n t) = true) :
    ∃ o : Nat, offL (trL s gd p n t) = (o : Int) ∧ (o : Int) ≤ p.cells - n.run ∧ ∀ k : Nat, o ≤ k → (k : Int) < o + n.run → goodTr (trL s gd p n t) t k = true := by
  simp only [surelyB, Bool.and_eq_true, decide_eq_true_eq] at hb
  have h1 := hb.1
  have hn := okNd_all (n := n) h.n
  have hce := okSp_ce (s := s) (p := p) h.p
  rw [offL_eq _ h] at h1 ⊢
  obtain ⟨o, a, b, c⟩ := runS_at h1
  have b : o < p.cells.toNat + 1 - n.run.toNat := b
  have c : ∀ j, j < n.run.toNat → _ := allG_iff.1 c
  refine ⟨o, a, by omega, fun k hk hk2 => ?_⟩
  refine tr_good h ht ha (by omega) ?_
  have := c (k - o) (by omega)
  rw [show o + (k - o) = k by omega] at this
  exact this
end
end Go.Sx

namespace Go.Sx
open Go.Proofs
set_option maxRecDepth 10000

theorem val_t (x : Int) : Pure Tryz.prog 126 [.int .i64 x] (.bool (okVal x)) := by
  refine pure_of_wc (rs := [.tmp 2]) (m := 5) [] o54_ok (by kernel_rfl) Tryz.func126 rfl (by kernel_rfl) rfl rfl (by kernel_rfl) ?_
  simp only [FS, ↓RE, okR, argEnv, Nat.reduceAdd, Nat.reduceSub, Nat.reduceLT, Nat.reduceLeDiff, Nat.reduceEqDiff, reduceIte, gIn_eq, okVal]
def gVal : List D → Option D
  | [.int .i64 x] => some (.bool (okVal x))
  | _ => none
theorem gVal_eq (x : Int) : gVal [.int .i64 x] = some (.bool (okVal x)) := (rfl)
theorem gVal_ok (ds : List D) (r : D) (h : gVal ds = some r) : Pure Tryz.prog 126 ds r := by
  unfold gVal at h
  split at h
  · cases h; exact val_t _
  · cases h
abbrev o63 : List (FuncId × (List D → Option D)) := (126, gVal) :: o54
theorem o63_ok : OkO Tryz.prog (mkO o63) := mkO_ok gVal_ok o54_ok
theorem val2_t (x : Int) : Pure Tryz.prog 128 [.int .i64 x, .ref [.fn (.func 126) [] []] 0] (.bool (!okVal x)) := by
  refine pure_of_wc (rs := [.tmp 3]) (m := 8) [] o63_ok (by kernel_rfl) Tryz.func128 rfl (by kernel_rfl) rfl rfl (by kernel_rfl) ?_
  simp only [FS, ↓RE, okR, argEnv, Nat.reduceAdd, Nat.reduceSub, Nat.reduceLT, Nat.reduceLeDiff, Nat.reduceEqDiff, reduceIte, gVal_eq, calleeZ_fn, List.nil_append, List.append_nil, List.cons_append]
theorem vint_ix (l : List _) (x : D) (hx : En.sl enI x = some l) (g : FuncId) (caps : List D) (q : _ → Bool) (hl : l.length ≤ 9223372036854775807) (hcl : ∀ m, D.ltL m caps = true) (hcv : ∀ h, viewL h caps = caps)
    (hq : ∀ a ∈ l, Pure Tryz.prog g (.int .i64 a :: caps) (.bool (q a))) : Pure Tryz.prog 153 [x, .fn (.func g) [] caps] (.int .i64 (firstI q l 0)) := by
  have lx := fun hp => En.len (P := Tryz.prog) Fz.und_62 hx hp
  have vx := En.lt hx
  refine pure_of_wc (rs := [.tmp 4]) (m := 19) [] oNone_ok (by kernel_rfl) Tryz.func153 rfl (by kernel_rfl) rfl rfl (by kernel_rfl) ?_
  simp only [FS, ↓RE, okR, argEnv, Nat.reduceAdd, Nat.reduceSub, Nat.reduceLT, Nat.reduceLeDiff, Nat.reduceEqDiff, reduceIte, lx]
  refine loopV (ι := Nat) oNone_ok [] (fun i => [(0, x), (1, .fn (.func g) [] caps), (7, .int .i64 (l.length : Int)), (8, .int .i64 (i : Int))])
    (fun i => []) 0 (fun i => i ≤ l.length ∧ (l.take i).all (fun r => !(q r)) = true) (fun i => l.length - i) 0 (by kernel_rfl) (by kernel_rfl) ⟨Nat.zero_le _, by simp⟩ ?_ ?_
  · simp [headW, heapW, envW, blkLt, D.ltL, D.lt, look, hget, vx, hcl]
  rintro i ⟨hil, hok⟩
  rcases Nat.lt_or_ge i l.length with hlt | hge
  · have hc : ((i : Int) < (l.length : Int)) = True := by simp [hlt]
    obtain ⟨r, hr⟩ : ∃ r, l[i]? = some r := ⟨l[i], by simp [hlt]⟩
    have hix := fun hp => En.ix (P := Tryz.prog) Fz.und_62 Fz.size_3 hx hr hp .i64
    have hw := wrap_i64 (z := (i : Int) + 1) (by omega) (by omega)
    have hqr := hq r (List.mem_of_getElem? hr)
    simp only [enI] at hix hqr
    simp only [FS, ↓RE, okR, argEnv, Nat.reduceAdd, Nat.reduceSub, Nat.reduceLT, Nat.reduceLeDiff, Nat.reduceEqDiff, reduceIte, hix, hc, decide_true, List.nil_append, List.cons_append, hcv]
    refine call_of_pure hqr rfl ?_
    cases hm : q r
    · simp only [FS, ↓RE, okR, argEnv, Nat.reduceAdd, Nat.reduceSub, Nat.reduceLT, Nat.reduceLeDiff, Nat.reduceEqDiff, reduceIte, hw]
      exact ⟨i + 1, ⟨by omega, all_take hr hok (by simp [hm])⟩, by omega, by simp [headW, heapW, envW, blkLt, D.ltL, D.lt, look, hget, vx, hcl]⟩
    · simp only [FS, ↓RE, okR, argEnv, Nat.reduceAdd, Nat.reduceSub, Nat.reduceLT, Nat.reduceLeDiff, Nat.reduceEqDiff, reduceIte, hw]
      rw [firstI_at hok hr (by simp [hm])]; simp
  · have hc : ((i : Int) < (l.length : Int)) = False := by simp; omega
    have : i = l.length := by omega
    subst this
    rw [List.take_length] at hok
    simp only [FS, ↓RE, okR, argEnv, Nat.reduceAdd, Nat.reduceSub, Nat.reduceLT, Nat.reduceLeDiff, Nat.reduceEqDiff, reduceIte, hc, decide_false]
    rw [firstI_none hok]
theorem vint_has (l : List _) (x : D) (hx : En.sl enI x = some l) (g : FuncId) (caps : List D) (q : _ → Bool) (hl : l.length ≤ 9223372036854775807) (hcl : ∀ m, D.ltL m caps = true) (hcv : ∀ h, viewL h caps = caps)
    (hq : ∀ a ∈ l, Pure Tryz.prog g (.int .i64 a :: caps) (.bool (q a))) : Pure Tryz.prog 127 [x, .fn (.func g) [] caps] (.bool (l.any q)) := by
  have vx := fun h => En.view hx h
  refine pure_of_wc (rs := [.tmp 4]) (m := 9) [] oNone_ok (by kernel_rfl) Tryz.func127 rfl (by kernel_rfl) rfl rfl (by kernel_rfl) ?_
  simp only [FS, ↓RE, okR, argEnv, Nat.reduceAdd, Nat.reduceSub, Nat.reduceLT, Nat.reduceLeDiff, Nat.reduceEqDiff, reduceIte, vx, view_fn, hcv]
  refine call_of_pure (vint_ix l x hx g caps q hl hcl hcv hq) rfl ?_
  simp only [FS, ↓RE, okR, argEnv, Nat.reduceAdd, Nat.reduceSub, Nat.reduceLT, Nat.reduceLeDiff, Nat.reduceEqDiff, reduceIte, firstI_ge]

theorem tr_lt (t : Tr) (m : Nat) : D.ltL m t.c = true := by simp [D.ltL, D.lt]
theorem truth_t (s : Se) (gd : D) (h : SeL s gd) (t : Tr) (hd : t.depths.length ≤ 9223372036854775807) : Pure Tryz.prog 82 [.agg (s.c gd), .agg t.c] (.bool (okTr s t)) := by
  have vg := fun hp => En.view h.gd hp
  have lg := En.lt h.gd
  have cg := fun hp => En.cur h.gd hp
  have l1 := fun hp => En.len (P := Tryz.prog) Fz.und_62 (En.sl_map (E := enI) t.depths) hp
  have l2 := fun hp => En.len (P := Tryz.prog) Fz.und_22 (En.sl_map (E := enS) s.depths) hp
  have l3 := fun hp => En.len (P := Tryz.prog) Fz.und_63 (En.sl_map (E := enB) t.boats) hp
  have l4 := fun hp => En.len (P := Tryz.prog) Fz.und_30 (En.sl_map (E := enBt) s.boats) hp
  refine pure_of_wc (rs := [.tmp 4]) (m := 65) [] o63_ok (by kernel_rfl) Tryz.func82 rfl (by kernel_rfl) rfl rfl (by kernel_rfl) ?_
  cases q1 : bIn t.minute 0 1440
  · simp only [FS, ↓RE, okR, argEnv, Nat.reduceAdd, Nat.reduceSub, Nat.reduceLT, Nat.reduceLeDiff, Nat.reduceEqDiff, reduceIte, gIn_eq, q1]
    simp [okTr, q1]
  cases q2 : okVal t.tide
  · simp only [FS, ↓RE, okR, argEnv, Nat.reduceAdd, Nat.reduceSub, Nat.reduceLT, Nat.reduceLeDiff, Nat.reduceEqDiff, reduceIte, gIn_eq, q1, gVal_eq, calleeZ_fn, List.nil_append, List.append_nil, List.cons_append, q2]
    simp [okTr, q2]
  cases q3 : okVal t.east
  · simp only [FS, ↓RE, okR, argEnv, Nat.reduceAdd, Nat.reduceSub, Nat.reduceLT, Nat.reduceLeDiff, Nat.reduceEqDiff, reduceIte, gIn_eq, q1, gVal_eq, calleeZ_fn, List.nil_append, List.append_nil, List.cons_append, q2, q3]
    simp [okTr, q3]
  cases q4 : okVal t.north
  · simp only [FS, ↓RE, okR, argEnv, Nat.reduceAdd, Nat.reduceSub, Nat.reduceLT, Nat.reduceLeDiff, Nat.reduceEqDiff, reduceIte, gIn_eq, q1, gVal_eq, calleeZ_fn, List.nil_append, List.append_nil, List.cons_append, q2, q3, q4]
    simp [okTr, q4]
  cases q5 : okVal t.wave
  · simp only [FS, ↓RE, okR, argEnv, Nat.reduceAdd, Nat.reduceSub, Nat.reduceLT, Nat.reduceLeDiff, Nat.reduceEqDiff, reduceIte, gIn_eq, q1, gVal_eq, calleeZ_fn, List.nil_append, List.append_nil, List.cons_append, q2, q3, q4, q5]
    simp [okTr, q5]
  cases q6 : okVal t.swell
  · simp only [FS, ↓RE, okR, argEnv, Nat.reduceAdd, Nat.reduceSub, Nat.reduceLT, Nat.reduceLeDiff, Nat.reduceEqDiff, reduceIte, gIn_eq, q1, gVal_eq, calleeZ_fn, List.nil_append, List.append_nil, List.cons_append, q2, q3, q4, q5, q6]
    simp [okTr, q6]
  cases q7 : ((t.depths.length : Int) == (s.depths.length : Int))
  · simp only [FS, ↓RE, okR, argEnv, Nat.reduceAdd, Nat.reduceSub, Nat.reduceLT, Nat.reduceLeDiff, Nat.reduceEqDiff, reduceIte, gIn_eq, q1, gVal_eq, calleeZ_fn, List.nil_append, List.append_nil, List.cons_append, q2, q3, q4, q5, q6, l1, l2, q7]
    simp only [okTr, q7, Bool.and_false, Bool.false_and]
  cases q8 : ((t.boats.length : Int) == (s.boats.length : Int))
  · simp only [FS, ↓RE, okR, argEnv, Nat.reduceAdd, Nat.reduceSub, Nat.reduceLT, Nat.reduceLeDiff, Nat.reduceEqDiff, reduceIte, gIn_eq, q1, gVal_eq, calleeZ_fn, List.nil_append, List.append_nil, List.cons_append, q2, q3, q4, q5, q6, l1, l2, q7, l3, l4, q8]
    simp only [okTr, q8, Bool.and_false, Bool.false_and]
  simp only [FS, ↓RE, okR, argEnv, Nat.reduceAdd, Nat.reduceSub, Nat.reduceLT, Nat.reduceLeDiff, Nat.reduceEqDiff, reduceIte, gIn_eq, q1, gVal_eq, calleeZ_fn, List.nil_append, List.append_nil, List.cons_append, q2, q3, q4, q5, q6, l1, l2, q7, l3, l4, q8]
  refine call_of_pure (vint_has t.depths (.sl (t.depths.map enI.d)) (En.sl_map (E := enI) t.depths) 128 [.ref [.fn (.func 126) [] []] 0] (fun x => !okVal x) hd (fun _ => rfl) (fun _ => rfl) fun a _ => val2_t a) rfl ?_
  simp only [FS, ↓RE, okR, argEnv, Nat.reduceAdd, Nat.reduceSub, Nat.reduceLT, Nat.reduceLeDiff, Nat.reduceEqDiff, reduceIte]
  simp only [okTr, q1, q2, q3, q4, q5, q6, q7, q8, Bool.true_and]
  rw [List.any_eq_not_all_not]
  simp

/-- A boat is there. -/
theorem there_t (t : Tr) (i : Nat) (hi : i < t.boats.length) : Pure Tryz.prog 85 [.int .i64 (i : Int), .ref t.c 0] (.bool (bAt t.boats i)) := by
  have hx : t.boats[i]? = some (bAt t.boats i) := by simp [bAt, hi, List.getD]
  have hix : ∀ hp, indexAddrD Tryz.prog hp 63 (.sl (t.boats.map enB.d)) (.int .i64 (i : Int)) = some (.ref [.bool (bAt t.boats i)] 0) := fun hp => En.ix (P := Tryz.prog) Fz.und_63 Fz.size_4 (En.sl_map (E := enB) t.boats) hx hp .i64
  refine pure_of_wc (rs := [.tmp 3]) (m := 9) [] o54_ok (by kernel_rfl) Tryz.func85 rfl (by kernel_rfl) rfl rfl (by kernel_rfl) ?_
  simp only [FS, ↓RE, okR, argEnv, Nat.reduceAdd, Nat.reduceSub, Nat.reduceLT, Nat.reduceLeDiff, Nat.reduceEqDiff, reduceIte, hix]
theorem us1_t (l : Lk) (hg : enGl.sl l.gd = some l.s.glares) (hs : okSe l.s = true) (hp : okSp l.s l.p = true) (hbl : l.s.boats.length ≤ 9223372036854775807) (t : Tr) (ht : TrOk l.s t) (k : Nat) (hk : (k : Int) < l.p.cells) :
    Pure Tryz.prog 84 [.int .i64 (k : Int), .ref l.c 0, .ref t.c 0, .ref l.n.c 0] (.bool (goodTr l t k)) := by
  have vg := fun hp => En.view hg hp
  have lg := En.lt hg
  obtain ⟨hw, hd, hlen⟩ := okSe_sz hs
  have hk' : 0 ≤ (k : Int) ∧ (k : Int) ≤ l.p.cells - 1 := by omega
  have hcl := cell_lt hw.1 hp hk'
  have hlt : (cellI l.s l.p k).toNat < t.depths.length := by rw [ht.dl]; omega
  have hx : t.depths[(cellI l.s l.p k).toNat]? = some (iAt t.depths (cellI l.s l.p k)) := by simp [iAt, hlt, List.getD]
  have hdv := ht.dv _ (List.mem_of_getElem? hx)
  have hce := gL1_eq okCl (fun q => .tup [.int .i64 (cellI q.1.s q.1.p q.2), .int .i64 (pxK q.1.p q.2), .int .i64 (pyK q.1.p q.2)]) l hg (i := (k : Int)) (by simp [okCl, bIn, hp]; omega)
  have hix := fun hh => En.ix (P := Tryz.prog) Fz.und_62 Fz.size_3 (En.sl_map (E := enI) t.depths) hx hh .i64
  rw [Int.toNat_of_nonneg hcl.1] at hix
  have hix2 : ∀ hh, indexAddrD Tryz.prog hh 62 (.sl (t.depths.map enI.d)) (.int .i64 (cellI l.s l.p k)) = some (.ref [.int .i64 (iAt t.depths (cellI l.s l.p k))] 0) := hix
  have htd := ht.tide
  have hwr := wrap_i64 (z := iAt t.depths (cellI l.s l.p k) + t.tide) (by omega) (by omega)
  simp only [Lk.c, Se.cr, Wx.c, gaC] at hce
  refine pure_of_wc (rs := [.tmp 5]) (m := 34) [(2, [(19, false, false, [])])] o54_ok (by kernel_rfl) Tryz.func84 rfl (by kernel_rfl) rfl rfl (by kernel_rfl) ?_
  cases hq : decide (l.n.draught ≤ iAt t.depths (cellI l.s l.p k) + t.tide)
  · simp only [FS, ↓RE, okR, argEnv, Nat.reduceAdd, Nat.reduceSub, Nat.reduceLT, Nat.reduceLeDiff, Nat.reduceEqDiff, reduceIte, vg, lg, hce, ex_tup, hix2, hwr, hq]
    simp [goodTr, goodK, hq]
  simp only [FS, ↓RE, okR, argEnv, Nat.reduceAdd, Nat.reduceSub, Nat.reduceLT, Nat.reduceLeDiff, Nat.reduceEqDiff, reduceIte, vg, lg, hce, ex_tup, hix2, hwr, hq]
  refine call_of_pure (free_t l hg hbl (pxK l.p k) (pyK l.p k) 85 [] [.ref t.c 0] (bAt t.boats) (fun _ => rfl) (fun _ => rfl) (fun _ => rfl) (fun _ => rfl) (fun _ _ => rfl) fun i hi => there_t t i (by rw [ht.bl]; exact hi)) rfl ?_
  simp only [FS, ↓RE, okR, argEnv, Nat.reduceAdd, Nat.reduceSub, Nat.reduceLT, Nat.reduceLeDiff, Nat.reduceEqDiff, reduceIte, vg, lg]
  simp [goodTr, goodK, hq]

/-- What is said of a strip in a truth. -/
def UsA (s : Se) (gd : D) (p : Sp) (n : Nd) (t : Tr) : Bool × Int := if okSe s && (okTr s t && (okSp s p && okNd n)) then (usB (trL s gd p n t) t, 0) else (false, 2)
theorem Usable_t (s : Se) (gd : D) (h : SeL s gd) (p : Sp) (n : Nd) (t : Tr) (hd : t.depths.length ≤ 9223372036854775807) :
    Pure Tryz.prog 31 [.agg (s.c gd), .agg t.c, .agg p.c, .agg n.c] (.tup [.bool (UsA s gd p n t).1, .int .i64 (UsA s gd p n t).2]) := by
  have vg := fun hp => En.view h.gd hp
  have lg := En.lt h.gd
  have cg := fun hp => En.cur h.gd hp
  have h1 := gSe_eq h
  have h3 := gNd_eq n
  simp only [Se.c, Se.cr, Wx.c, gaC] at h1
  have hT := truth_t s gd h t hd
  refine pure_of_wc (rs := [.tmp 8, .tmp 9]) (m := 74) [] o54_ok (by kernel_rfl) Tryz.func31 rfl (by kernel_rfl) rfl rfl (by kernel_rfl) ?_
  cases hs : okSe s
  · simp only [FS, ↓RE, okR, argEnv, Nat.reduceAdd, Nat.reduceSub, Nat.reduceLT, Nat.reduceLeDiff, Nat.reduceEqDiff, reduceIte, vg, lg, cg, h1, hs]
    simp [UsA, hs]
  simp only [FS, ↓RE, okR, argEnv, Nat.reduceAdd, Nat.reduceSub, Nat.reduceLT, Nat.reduceLeDiff, Nat.reduceEqDiff, reduceIte, vg, lg, cg, h1, hs]
  refine call_of_pure hT rfl ?_
  cases htr : okTr s t
  · simp only [FS, ↓RE, okR, argEnv, Nat.reduceAdd, Nat.reduceSub, Nat.reduceLT, Nat.reduceLeDiff, Nat.reduceEqDiff, reduceIte, vg, lg, cg]
    simp [UsA, htr]
  have h2 := gSp_eq h hs p
  simp only [Se.c, Se.cr, Wx.c, gaC] at h2
  cases hp : okSp s p
  · simp only [FS, ↓RE, okR, argEnv, Nat.reduceAdd, Nat.reduceSub, Nat.reduceLT, Nat.reduceLeDiff, Nat.reduceEqDiff, reduceIte, vg, lg, cg, h2, hp]
    simp [UsA, hp]
  cases hn : okNd n
  · simp only [FS, ↓RE, okR, argEnv, Nat.reduceAdd, Nat.reduceSub, Nat.reduceLT, Nat.reduceLeDiff, Nat.reduceEqDiff, reduceIte, vg, lg, cg, h2, hp, h3, hn]
    simp [UsA, hn]
  have ht := trOk htr
  have hA : UsA s gd p n t = (usB (trL s gd p n t) t, 0) := by simp [UsA, hs, htr, hp, hn]
  rw [hA]
  have hcm := gL2_eq (fun q => okWd q && okNd q.1.n) (fun q => .bool (calmB q.1.p.way q.1.n q.2.1 q.2.2)) (trL s gd p n t) h.gd (i := t.east) (j := t.north) (by
    have := ht.east
    have := ht.north
    simp only [okWd, Bool.and_eq_true]
    exact ⟨⟨(okSp_ce hp).1, okWind_mid (by omega), okWind_mid (by omega)⟩, hn⟩)
  simp only [Lk.c, Se.cr, Wx.c, gaC] at hcm
  simp only [FS, ↓RE, okR, argEnv, Nat.reduceAdd, Nat.reduceSub, Nat.reduceLT, Nat.reduceLeDiff, Nat.reduceEqDiff, reduceIte, vg, lg, cg, h2, hp, h3, hn]
  refine call_of_pure (run_t (trL s gd p n t) h.gd n.run (okNd_run hn) (okSp_ce hp).2 84 [] [.ref (trL s gd p n t).c 0, .ref t.c 0, .ref n.c 0] (goodTr (trL s gd p n t) t) (fun _ => rfl) (fun _ => rfl) (fun _ _ => rfl) fun i hi => us1_t (trL s gd p n t) h.gd hs hp h.boats t ht i hi) rfl ?_
  cases q1 : decide (0 ≤ runP (goodTr (trL s gd p n t) t) n.run p.cells.toNat 0 0)
  · simp only [FS, ↓RE, okR, argEnv, Nat.reduceAdd, Nat.reduceSub, Nat.reduceLT, Nat.reduceLeDiff, Nat.reduceEqDiff, reduceIte, vg, lg, cg, q1]
    simp [usB, q1]
  cases q2 : calmB p.way n t.east t.north
  · simp only [FS, ↓RE, okR, argEnv, Nat.reduceAdd, Nat.reduceSub, Nat.reduceLT, Nat.reduceLeDiff, Nat.reduceEqDiff, reduceIte, vg, lg, cg, q1, hcm, q2]
    simp [usB, q2]
  cases q3 : bIn t.wave n.calm n.wave
  · simp only [FS, ↓RE, okR, argEnv, Nat.reduceAdd, Nat.reduceSub, Nat.reduceLT, Nat.reduceLeDiff, Nat.reduceEqDiff, reduceIte, vg, lg, cg, q1, hcm, q2, gIn_eq, q3]
    simp [usB, q3]
  cases q4 : decide (t.swell ≤ n.swell)
  · simp only [FS, ↓RE, okR, argEnv, Nat.reduceAdd, Nat.reduceSub, Nat.reduceLT, Nat.reduceLeDiff, Nat.reduceEqDiff, reduceIte, vg, lg, cg, q1, hcm, q2, gIn_eq, q3, q4]
    simp [usB, q4]
  simp only [FS, ↓RE, okR, argEnv, Nat.reduceAdd, Nat.reduceSub, Nat.reduceLT, Nat.reduceLeDiff, Nat.reduceEqDiff, reduceIte, vg, lg, cg, q1, hcm, q2, gIn_eq, q3, q4]
  refine call_of_pure (blind_t (trL s gd p n t) ⟨h, hs, hp, hn, ht.minute⟩) rfl ?_
  simp only [FS, ↓RE, okR, argEnv, Nat.reduceAdd, Nat.reduceSub, Nat.reduceLT, Nat.reduceLeDiff, Nat.reduceEqDiff, reduceIte, vg, lg, cg]
  simp [usB, q1, q2, q3, q4]
end Go.Sx

namespace Go.Sx
open Go.Proofs
set_option maxRecDepth 10000

/-! The reference's truths -/
def allT (t : Tr) : List Int := t.tide :: t.east :: t.north :: t.wave :: t.swell :: t.depths
theorem okTr_all (s : Se) (t : Tr) : okTr s t = ((allT t).all okVal && (bIn t.minute 0 1440 && (((t.depths.length : Int) == (s.depths.length : Int)) && ((t.boats.length : Int) == (s.boats.length : Int))))) := by
  have key : ∀ a b c d e f g h i : Bool, (a && (b && (c && (d && (e && (f && (g && (h && i)))))))) = ((b && (c && (d && (e && (f && i))))) && (a && (g && h))) := by decide
  simp only [okTr, allT, List.all_cons]
  exact key _ _ _ _ _ _ _ _ _
theorem okSrc_int (l : List Int) : okSrc 1 (l.map enI.d) = true := by simp [okSrc, enI, D.ltL, D.lt, oneD]
theorem rTruth_t (s : Se) (gd : D) (h : SeL s gd) (t : Tr) (hd : t.depths.length ≤ 200) : Pure Tryz.prog 29 [.agg (s.c gd), .agg t.c] (.bool (okTr s t)) := by
  have vg := fun hp => En.view h.gd hp
  have lg := En.lt h.gd
  have cg := fun hp => En.cur h.gd hp
  have l1 := fun hp => En.len (P := Tryz.prog) Fz.und_62 (En.sl_map (E := enI) t.depths) hp
  have l2 := fun hp => En.len (P := Tryz.prog) Fz.und_22 (En.sl_map (E := enS) s.depths) hp
  have l3 := fun hp => En.len (P := Tryz.prog) Fz.und_63 (En.sl_map (E := enB) t.boats) hp
  have l4 := fun hp => En.len (P := Tryz.prog) Fz.und_30 (En.sl_map (E := enBt) s.boats) hp
  have l5 := fun hp => En.len (P := Tryz.prog) Fz.und_62 (En.sl_map (E := enI) (allT t)) hp
  refine pure_of_wc (rs := [.tmp 4]) (m := 55) [] o54_ok (by kernel_rfl) Tryz.func29 rfl (by kernel_rfl) rfl rfl (by kernel_rfl) ?_
  have hlit : ∀ (h : H) (nid : Nat), litOpD Tryz.prog h nid 62 5 [(0, .int .i64 t.tide), (1, .int .i64 t.east), (2, .int .i64 t.north), (3, .int .i64 t.wave), (4, .int .i64 t.swell)] = some (.osl nid 5, (nid, .arr 3 1 [[.int .i64 t.tide], [.int .i64 t.east], [.int .i64 t.north], [.int .i64 t.wave], [.int .i64 t.swell]]) :: h, nid + 1) := by
    intro h nid
    kernel_rfl
  have ha := fun h nid (hb : hget h 2 = some (.arr 3 1 [[.int .i64 t.tide], [.int .i64 t.east], [.int .i64 t.north], [.int .i64 t.wave], [.int .i64 t.swell]])) => app_sl (P := Tryz.prog) (h := h) (nid := nid) Fz.und_62 Fz.size_3 Fz.zero_3 rfl (by omega) Fz.bytes_3_62 (b := 2) (n := 5) (xs := t.depths.map enI.d) hb rfl (okSrc_int _) (by simp; omega) (by simp; omega)
  simp only [FS, ↓RE, okR, argEnv, Nat.reduceAdd, Nat.reduceSub, Nat.reduceLT, Nat.reduceLeDiff, Nat.reduceEqDiff, reduceIte, hlit, ha]
  refine loopW (ι := Nat) o54_ok [] (fun i => [(2, .ref (s.c gd) 0), (3, .ref t.c 0), (5, .sl ((allT t).map enI.d)), (6, .int .i64 (i : Int))])
    (fun i => []) 3 (fun i => i ≤ (allT t).length ∧ ((allT t).take i).all okVal = true) (fun i => (allT t).length - i) 0 (by kernel_rfl) (by kernel_rfl) ⟨Nat.zero_le _, rfl⟩ ?_ ?_
  · refine imp_view ?_
    simp [headW, heapW, envW, blkLt, D.ltL, D.lt, look, hget, hset, view, viewL, lg, vg, allT, enI]
    omega
  rintro i ⟨hi, hok⟩
  have hal : (allT t).length = t.depths.length + 5 := rfl
  rcases Nat.lt_or_ge i (allT t).length with hlt | hge
  · have hc : ((i : Int) < ((allT t).length : Int)) = True := by simp [hlt]
    obtain ⟨x, hx⟩ : ∃ x, (allT t)[i]? = some x := ⟨(allT t)[i], by simp [hlt]⟩
    have hix : ∀ hp, indexAddrD Tryz.prog hp 62 (.sl ((allT t).map enI.d)) (.int .i64 (i : Int)) = some (.ref [.int .i64 x] 0) := fun hp => En.ix (P := Tryz.prog) Fz.und_62 Fz.size_3 (En.sl_map (E := enI) (allT t)) hx hp .i64
    have hw := wrap_i64 (z := (i : Int) + 1) (by omega) (by omega)
    have hv : okVal x = bIn x (-100000) 100000 := rfl
    cases q : bIn x (-100000) 100000
    · simp only [FS, ↓RE, okR, argEnv, Nat.reduceAdd, Nat.reduceSub, Nat.reduceLT, Nat.reduceLeDiff, Nat.reduceEqDiff, reduceIte, l5, hc, decide_true, hix, gIn_eq, q]
      rw [okTr_all, all_not hx (by rw [hv, q])]; rfl
    · simp only [FS, ↓RE, okR, argEnv, Nat.reduceAdd, Nat.reduceSub, Nat.reduceLT, Nat.reduceLeDiff, Nat.reduceEqDiff, reduceIte, l5, hc, decide_true, hix, gIn_eq, q, hw]
      exact ⟨i + 1, ⟨by omega, all_take hx hok (by rw [hv, q])⟩, by omega, imp_head (by simp [headW, heapW, envW, blkLt, D.ltL, D.lt, look, hget, lg])⟩
  have hc : ((i : Int) < ((allT t).length : Int)) = False := by simp; omega
  rw [List.take_of_length_le hge] at hok
  rw [okTr_all, hok]
  cases q1 : bIn t.minute 0 1440
  · simp only [FS, ↓RE, okR, argEnv, Nat.reduceAdd, Nat.reduceSub, Nat.reduceLT, Nat.reduceLeDiff, Nat.reduceEqDiff, reduceIte, l5, hc, decide_false, gIn_eq, q1]
    rfl
  cases q2 : ((t.depths.length : Int) == (s.depths.length : Int))
  · simp only [FS, ↓RE, okR, argEnv, Nat.reduceAdd, Nat.reduceSub, Nat.reduceLT, Nat.reduceLeDiff, Nat.reduceEqDiff, reduceIte, l5, hc, decide_false, gIn_eq, q1, l1, l2, q2]
    rfl
  simp only [FS, ↓RE, okR, argEnv, Nat.reduceAdd, Nat.reduceSub, Nat.reduceLT, Nat.reduceLeDiff, Nat.reduceEqDiff, reduceIte, l5, hc, decide_false, gIn_eq, q1, l1, l2, q2, l3, l4]
  simp

/-! What agrees, for the reference -/
def valsT (t : Tr) : List Int := [t.tide, t.east, t.north, t.wave, t.swell]
def agG (s : Se) (t : Tr) (i : Nat) : Bool := match (wxL s.w)[i]?, (valsT t)[i]? with
  | some g, some x => inAt g t.minute x
  | _, _ => true
theorem agB_all (s : Se) (t : Tr) : agB s t = ((List.range 5).all (agG s t) && ((s.depths.zip t.depths).all (fun q => bIn q.2 q.1.1 q.1.2) && (s.boats.zip t.boats).all fun q => agBt t.minute q.1 q.2)) := by
  have : (List.range 5).all (agG s t) = (inAt s.w.tide t.minute t.tide && (inAt s.w.east t.minute t.east && (inAt s.w.north t.minute t.north && (inAt s.w.wave t.minute t.wave && inAt s.w.swell t.minute t.swell)))) := by
    simp [List.range_succ, agG, wxL, valsT, List.all_append, Bool.and_assoc]
  rw [this]; rfl
theorem zip_at {α β : Type} {l : List α} {r : List β} {i : Nat} {a : α} {b : β} (ha : l[i]? = some a) (hb : r[i]? = some b) : (l.zip r)[i]? = some (a, b) := by
  rw [List.getElem?_zip_eq_some]; exact ⟨ha, hb⟩
theorem rAgrees_t (s : Se) (gd : D) (h : SeL s gd) (hs : okSe s = true) (t : Tr) (ht : TrOk s t) : Pure Tryz.prog 30 [.agg (s.c gd), .agg t.c] (.bool (agB s t)) := by
  have vg := fun hp => En.view h.gd hp
  have lg := En.lt h.gd
  have cg := fun hp => En.cur h.gd hp
  have hw := okWx_gaOk (okSe_wx hs)
  have hdl : t.depths.length ≤ 144 := by
    rw [ht.dl]
    obtain ⟨h1, h2, h3⟩ := okSe_sz hs
    have : s.wide * s.deep ≤ 12 * 12 := Int.mul_le_mul h1.2 h2.2 (by omega) (by omega)
    omega
  have hbl : t.boats.length ≤ 12 := by
    rw [ht.bl]
    simp only [okSe, Bool.and_eq_true, decide_eq_true_eq] at hs
    exact hs.2.1
  have l1 := fun hp => En.len (P := Tryz.prog) Fz.und_62 (En.sl_map (E := enI) t.depths) hp
  have l3 := fun hp => En.len (P := Tryz.prog) Fz.und_63 (En.sl_map (E := enB) t.boats) hp
  have l6 : ∀ hp, lenOpD Tryz.prog hp 120 (.sl ((wxL s.w).map enGa.d)) = some (.int .i64 5) := fun hp => En.len (P := Tryz.prog) Fz.und_120 (En.sl_map (E := enGa) (wxL s.w)) hp
  refine pure_of_wc (rs := [.tmp 4]) (m := 142) [(6, [(8, true, false, []), (1, false, false, [])]), (7, [(10, false, false, [])]), (12, [(21, false, false, [])]), (17, [(18, false, false, [])])] o54_ok (by kernel_rfl) Tryz.func30 rfl (by kernel_rfl) rfl rfl (by kernel_rfl) ?_
  have hlit : ∀ (h : H) (nid : Nat), litOpD Tryz.prog h nid 120 5 [(0, .agg s.w.tide.d), (1, .agg s.w.east.d), (2, .agg s.w.north.d), (3, .agg s.w.wave.d), (4, .agg s.w.swell.d)] = some (.osl nid 5, (nid, .arr 27 4 ((wxL s.w).map Ga.d)) :: h, nid + 1) := by
    intro h nid
    kernel_rfl
  have hlit2 : ∀ (h : H) (nid : Nat), litOpD Tryz.prog h nid 62 5 [(0, .int .i64 t.tide), (1, .int .i64 t.east), (2, .int .i64 t.north), (3, .int .i64 t.wave), (4, .int .i64 t.swell)] = some (.osl nid 5, (nid, .arr 3 1 [[.int .i64 t.tide], [.int .i64 t.east], [.int .i64 t.north], [.int .i64 t.wave], [.int .i64 t.swell]]) :: h, nid + 1) := by
    intro h nid
    kernel_rfl
  simp only [Ga.d, gaC] at hlit
  simp only [FS, ↓RE, okR, argEnv, Nat.reduceAdd, Nat.reduceSub, Nat.reduceLT, Nat.reduceLeDiff, Nat.reduceEqDiff, reduceIte, hlit, hlit2]
  refine loopW (ι := Nat) o54_ok [(6, [(8, true, false, []), (1, false, false, [])]), (7, [(10, false, false, [])]), (12, [(21, false, false, [])]), (17, [(18, false, false, [])])] (fun i => [(2, .ref (s.c gd) 0), (3, .ref t.c 0), (5, .sl ((wxL s.w).map enGa.d)), (6, .sl ((valsT t).map enI.d)), (7, .int .i64 (i : Int))])
    (fun i => []) 4 (fun i => i ≤ 5 ∧ ((List.range i).all (agG s t)) = true) (fun i => 5 - i) 0 (by kernel_rfl) (by kernel_rfl) ⟨Nat.zero_le _, rfl⟩ ?_ ?_
  · refine imp_view ?_
    simp [headW, heapW, envW, blkLt, D.ltL, D.lt, look, hget, hset, view, viewL, lg, vg, wxL, valsT, enGa, enI, Ga.d]
  rintro i ⟨hi, hok⟩
  rcases Nat.lt_or_ge i 5 with hlt | hge
  · obtain ⟨g, hga, hgj⟩ : ∃ g : Ga, gaOk g = true ∧ (wxL s.w)[i]? = some g := by
      have h5 : i = 0 ∨ i = 1 ∨ i = 2 ∨ i = 3 ∨ i = 4 := by omega
      rcases h5 with rfl | rfl | rfl | rfl | rfl
      · exact ⟨s.w.tide, hw.tide, rfl⟩
      · exact ⟨s.w.east, hw.east, rfl⟩
      · exact ⟨s.w.north, hw.north, rfl⟩
      · exact ⟨s.w.wave, hw.wave, rfl⟩
      · exact ⟨s.w.swell, hw.swell, rfl⟩
    obtain ⟨x, hx⟩ : ∃ x, (valsT t)[i]? = some x := ⟨(valsT t)[i]'(by simp [valsT]; omega), by simp⟩
    have hag : agG s t i = bIn x (atL g t.minute).1 (atL g t.minute).2 := by simp only [agG, hgj, hx, inAt]
    have hix := fun hp => En.ix (P := Tryz.prog) Fz.und_120 Fz.size_27 (En.sl_map (E := enGa) (wxL s.w)) hgj hp .i64
    have hix1 : ∀ hp, indexAddrD Tryz.prog hp 62 (.sl ((valsT t).map enI.d)) (.int .i64 (i : Int)) = some (.ref [.int .i64 x] 0) := fun hp => En.ix (P := Tryz.prog) Fz.und_62 Fz.size_3 (En.sl_map (E := enI) (valsT t)) hx hp .i64
    have hat := gAtL g t.minute ⟨hga, ht.minute⟩
    have hc : ((i : Int) < 5) = True := by simp; omega
    have hwi := wrap_i64 (z := (i : Int) + 1) (by omega) (by omega)
    obtain ⟨a, b, c, rs⟩ := g
    have hix2 : ∀ hp, indexAddrD Tryz.prog hp 120 (.sl ((wxL s.w).map enGa.d)) (.int .i64 (i : Int)) = some (.ref [.int .i64 a, .int .i64 b, .int .i64 c, .sl (rs.map Rd.d)] 0) := hix
    cases q : bIn x (atL ⟨a, b, c, rs⟩ t.minute).1 (atL ⟨a, b, c, rs⟩ t.minute).2
    · simp only [FS, ↓RE, okR, argEnv, Nat.reduceAdd, Nat.reduceSub, Nat.reduceLT, Nat.reduceLeDiff, Nat.reduceEqDiff, reduceIte, l6, hc, decide_true, hix2, hix1, hat, gIn_eq, q]
      rw [agB_all, range_all_not hlt (by rw [hag, q])]; rfl
    · simp only [FS, ↓RE, okR, argEnv, Nat.reduceAdd, Nat.reduceSub, Nat.reduceLT, Nat.reduceLeDiff, Nat.reduceEqDiff, reduceIte, l6, hc, decide_true, hix2, hix1, hat, gIn_eq, q, hwi]
      exact ⟨i + 1, ⟨by omega, range_all_succ hok (by rw [hag, q])⟩, by omega, imp_head (by simp [headW, heapW, envW, blkLt, D.ltL, D.lt, look, hget, lg])⟩
  have : i = 5 := by omega
  subst this
  have hrest : agB s t = ((s.depths.zip t.depths).all (fun q => bIn q.2 q.1.1 q.1.2) && (s.boats.zip t.boats).all fun q => agBt t.minute q.1 q.2) := by rw [agB_all, hok]; rfl
  rw [hrest]
  simp only [FS, ↓RE, okR, argEnv, Nat.reduceAdd, Nat.reduceSub, Nat.reduceLT, Nat.reduceLeDiff, Nat.reduceEqDiff, reduceIte, l6, Int.cast_ofNat_Int, Int.lt_irrefl, decide_false]
  refine loopV (ι := Nat) o54_ok [(6, [(8, true, false, []), (1, false, false, [])]), (7, [(10, false, false, [])]), (12, [(21, false, false, [])]), (17, [(18, false, false, [])])] (fun i => [(2, .ref (s.c gd) 0), (3, .ref t.c 0), (9, .int .i64 (i : Int))])
    (fun i => []) 4 (fun i => i ≤ t.depths.length ∧ ((s.depths.zip t.depths).take i).all (fun q => bIn q.2 q.1.1 q.1.2) = true) (fun i => t.depths.length - i) 0 (by kernel_rfl) (by kernel_rfl) ⟨Nat.zero_le _, rfl⟩ ?_ ?_
  · simp [headW, heapW, envW, blkLt, D.ltL, D.lt, look, hget, lg]
  rintro i ⟨hi, hok1⟩
  rcases Nat.lt_or_ge i t.depths.length with hlt | hge
  · have hc : ((i : Int) < (t.depths.length : Int)) = True := by simp [hlt]
    obtain ⟨x, hx⟩ : ∃ x, t.depths[i]? = some x := ⟨t.depths[i], by simp [hlt]⟩
    obtain ⟨⟨d1, d2⟩, hd⟩ : ∃ d, s.depths[i]? = some d := ⟨s.depths[i]'(by rw [← ht.dl]; exact hlt), by rw [List.getElem?_eq_getElem]⟩
    have hz := zip_at hd hx
    have hix1 : ∀ hp, indexAddrD Tryz.prog hp 62 (.sl (t.depths.map enI.d)) (.int .i64 (i : Int)) = some (.ref [.int .i64 x] 0) := fun hp => En.ix (P := Tryz.prog) Fz.und_62 Fz.size_3 (En.sl_map (E := enI) t.depths) hx hp .i64
    have hix2 : ∀ hp, indexAddrD Tryz.prog hp 22 (.sl (s.depths.map enS.d)) (.int .i64 (i : Int)) = some (.ref [.int .i64 d1, .int .i64 d2] 0) := fun hp => En.ix (P := Tryz.prog) Fz.und_22 Fz.size_70 (En.sl_map (E := enS) s.depths) hd hp .i64
    have hwi := wrap_i64 (z := (i : Int) + 1) (by omega) (by omega)
    cases q : bIn x d1 d2
    · simp only [FS, ↓RE, okR, argEnv, Nat.reduceAdd, Nat.reduceSub, Nat.reduceLT, Nat.reduceLeDiff, Nat.reduceEqDiff, reduceIte, l1, hc, decide_true, hix2, hix1, gIn_eq, q]
      rw [all_not hz q]; rfl
    · simp only [FS, ↓RE, okR, argEnv, Nat.reduceAdd, Nat.reduceSub, Nat.reduceLT, Nat.reduceLeDiff, Nat.reduceEqDiff, reduceIte, l1, hc, decide_true, hix2, hix1, gIn_eq, q, hwi]
      exact ⟨i + 1, ⟨by omega, all_take hz hok1 q⟩, by omega, by simp [headW, heapW, envW, blkLt, D.ltL, D.lt, look, hget, lg]⟩
  have : i = t.depths.length := by omega
  subst this
  rw [List.take_of_length_le (by rw [List.length_zip]; omega)] at hok1
  rw [hok1, Bool.true_and]
  simp only [FS, ↓RE, okR, argEnv, Nat.reduceAdd, Nat.reduceSub, Nat.reduceLT, Nat.reduceLeDiff, Nat.reduceEqDiff, reduceIte, l1, Int.lt_irrefl, decide_false]
  refine loopV (ι := Nat) o54_ok [(6, [(8, true, false, []), (1, false, false, [])]), (7, [(10, false, false, [])]), (12, [(21, false, false, [])]), (17, [(18, false, false, [])])] (fun i => [(2, .ref (s.c gd) 0), (3, .ref t.c 0), (10, .int .i64 (i : Int))])
    (fun i => []) 4 (fun i => i ≤ t.boats.length ∧ ((s.boats.zip t.boats).take i).all (fun q => agBt t.minute q.1 q.2) = true) (fun i => t.boats.length - i) 0 (by kernel_rfl) (by kernel_rfl) ⟨Nat.zero_le _, rfl⟩ ?_ ?_
  · simp [headW, heapW, envW, blkLt, D.ltL, D.lt, look, hget, lg]
  rintro i ⟨hi, hok2⟩
  rcases Nat.lt_or_ge i t.boats.length with hlt | hge
  · have hc : ((i : Int) < (t.boats.length : Int)) = True := by simp [hlt]
    obtain ⟨x, hx⟩ : ∃ x, t.boats[i]? = some x := ⟨t.boats[i], by simp [hlt]⟩
    obtain ⟨⟨⟨bx1, bx2⟩, ⟨by1, by2⟩, ⟨bt1, bt2⟩, su⟩, hb⟩ : ∃ d, s.boats[i]? = some d := ⟨s.boats[i]'(by rw [← ht.bl]; exact hlt), by rw [List.getElem?_eq_getElem]⟩
    have hz := zip_at hb hx
    have hix1 : ∀ hp, indexAddrD Tryz.prog hp 63 (.sl (t.boats.map enB.d)) (.int .i64 (i : Int)) = some (.ref [.bool x] 0) := fun hp => En.ix (P := Tryz.prog) Fz.und_63 Fz.size_4 (En.sl_map (E := enB) t.boats) hx hp .i64
    have hix2 : ∀ hp, indexAddrD Tryz.prog hp 30 (.sl (s.boats.map enBt.d)) (.int .i64 (i : Int)) = some (.ref [.int .i64 bx1, .int .i64 bx2, .int .i64 by1, .int .i64 by2, .int .i64 bt1, .int .i64 bt2, .bool su] 0) := fun hp => En.ix (P := Tryz.prog) Fz.und_30 Fz.size_72 (En.sl_map (E := enBt) s.boats) hb hp .i64
    have hwi := wrap_i64 (z := (i : Int) + 1) (by omega) (by omega)
    have hgo : agBt t.minute ⟨(bx1, bx2), (by1, by2), (bt1, bt2), su⟩ x = (if x then bIn t.minute bt1 bt2 else !(bIn t.minute bt1 bt2 && su)) := rfl
    cases q : bIn t.minute bt1 bt2 <;> cases x <;> cases su <;>
    · rw [q] at hgo
      simp only [FS, ↓RE, okR, argEnv, Nat.reduceAdd, Nat.reduceSub, Nat.reduceLT, Nat.reduceLeDiff, Nat.reduceEqDiff, reduceIte, l3, hc, decide_true, hix2, hix1, gIn_eq, q, hwi]
      first
        | exact ⟨i + 1, ⟨by omega, all_take hz hok2 (by rw [hgo]; rfl)⟩, by omega, by simp [headW, heapW, envW, blkLt, D.ltL, D.lt, look, hget, lg]⟩
        | (rw [all_not hz (by rw [hgo]; rfl)])
  have : i = t.boats.length := by omega
  subst this
  rw [List.take_of_length_le (by rw [List.length_zip]; omega)] at hok2
  simp only [FS, ↓RE, okR, argEnv, Nat.reduceAdd, Nat.reduceSub, Nat.reduceLT, Nat.reduceLeDiff, Nat.reduceEqDiff, reduceIte, l3, Int.lt_irrefl, decide_false]
  rw [hok2]
end Go.Sx
