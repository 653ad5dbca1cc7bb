/- Own work: a calculus of contracts for the programs of this kit: parts SxC30z, SxC31z, SxC32z, SxC33z, SxC34z. -/
import Derived.Test.YtjhoplbdpdbgaaaGreatDoorSxCc
set_option linter.unusedVariables false
set_option linter.unusedSimpArgs false
namespace Go.Sx
open Go.Proofs
set_option maxRecDepth 10000

/-- The first run of 'c' good ones, as the program looks for it: 'k' is next, 'j' good ones are behind it. -/
def runP (good : Nat → Bool) (c : Int) : Nat → Nat → Int → Int
  | 0, _, _ => -1
  | m + 1, k, j => let j' := if good k then j + 1 else 0
    if j' = c then (k : Int) - c + 1 else runP good c m (k + 1) j'

theorem run_t (l : Lk) (hg : enGl.sl l.gd = some l.s.glares) (c : Int) (hc0 : 1 ≤ c ∧ c ≤ 12) (hce : 1 ≤ l.p.cells ∧ l.p.cells ≤ 12) (f : FuncId) (fst caps : List D) (good : Nat → Bool) (hfl : ∀ m, D.ltL m fst = true) (hcl : ∀ m, D.ltL m caps = true)
    (hva : ∀ h i, viewL h (fst ++ [D.int .i64 i] ++ caps) = fst ++ [D.int .i64 i] ++ caps)
    (hq : ∀ i : Nat, (i : Int) < l.p.cells → Pure Tryz.prog f (fst ++ [.int .i64 (i : Int)] ++ caps) (.bool (good i))) :
    Pure Tryz.prog 83 [.agg l.c, .int .i64 c, .fn (.func f) fst caps] (.int .i64 (runP good c l.p.cells.toNat 0 0)) := by
  have vg := fun hp => En.view hg hp
  have lg := En.lt hg
  refine pure_of_wc (rs := [.tmp 6]) (m := 29) [] oNone_ok (by kernel_rfl) Tryz.func83 rfl (by kernel_rfl) rfl rfl (by kernel_rfl) ?_
  simp only [FS, ↓RE, okR, argEnv, Nat.reduceAdd, Nat.reduceSub, Nat.reduceLT, Nat.reduceLeDiff, Nat.reduceEqDiff, reduceIte]
  refine loopV (ι := Nat × Int) oNone_ok [] (fun i => [(1, .int .i64 c), (2, .fn (.func f) fst caps), (7, .int .i64 i.2), (11, .int .i64 l.p.cells), (12, .int .i64 (i.1 : Int))])
    (fun i => []) 1 (fun i => i.1 ≤ l.p.cells.toNat ∧ (0 ≤ i.2 ∧ i.2 ≤ i.1) ∧ runP good c l.p.cells.toNat 0 0 = runP good c (l.p.cells.toNat - i.1) i.1 i.2) (fun i => l.p.cells.toNat - i.1) (0, 0) (by kernel_rfl) (by kernel_rfl) ⟨Nat.zero_le _, by simp, rfl⟩ ?_ ?_
  · simp [headW, heapW, envW, blkLt, D.ltL, D.lt, look, hget, hfl, hcl]
  rintro ⟨i, j⟩ ⟨hi, hj, hok⟩
  dsimp only at hi hj hok ⊢
  rcases Nat.lt_or_ge i l.p.cells.toNat with hlt | hge
  rotate_left
  · have hc : ((i : Int) < l.p.cells) = False := by simp; omega
    rw [show l.p.cells.toNat - i = 0 by omega] at hok
    simp only [FS, ↓RE, okR, argEnv, Nat.reduceAdd, Nat.reduceSub, Nat.reduceLT, Nat.reduceLeDiff, Nat.reduceEqDiff, reduceIte, hc, decide_false]
    rw [hok]; rfl
  have hc : ((i : Int) < l.p.cells) = True := by simp; omega
  have hwi := wrap_i64 (z := (i : Int) + 1) (by omega) (by omega)
  have hwj := wrap_i64 (z := j + 1) (by omega) (by omega)
  have hw1 := wrap_i64 (z := (i : Int) - c) (by omega) (by omega)
  have hw2 := wrap_i64 (z := (i : Int) - c + 1) (by omega) (by omega)
  rw [show l.p.cells.toNat - i = (l.p.cells.toNat - (i + 1)) + 1 by omega] at hok
  simp only [runP] at hok
  simp only [FS, ↓RE, okR, argEnv, Nat.reduceAdd, Nat.reduceSub, Nat.reduceLT, Nat.reduceLeDiff, Nat.reduceEqDiff, reduceIte, hc, decide_true, hwj]
  refine call_of_pure (by rw [hva]; exact hq i (by omega)) rfl ?_
  cases hgd : good i
  · rw [hgd] at hok
    have h0 : ((0 : Int) == c) = false := by simp; omega
    rw [if_neg Bool.false_ne_true, if_neg (by omega)] at hok
    simp only [FS, ↓RE, okR, argEnv, Nat.reduceAdd, Nat.reduceSub, Nat.reduceLT, Nat.reduceLeDiff, Nat.reduceEqDiff, reduceIte, h0, hwi]
    exact ⟨(i + 1, 0), ⟨by simp only; omega, by simp only; omega, hok⟩, by simp only; omega, by simp [headW, heapW, envW, blkLt, D.ltL, D.lt, look, hget, hfl, hcl]⟩
  · rw [hgd, if_pos rfl] at hok
    by_cases hjc : j + 1 = c
    · have h0 : (j + 1 == c) = true := by simpa using hjc
      rw [if_pos hjc] at hok
      simp only [FS, ↓RE, okR, argEnv, Nat.reduceAdd, Nat.reduceSub, Nat.reduceLT, Nat.reduceLeDiff, Nat.reduceEqDiff, reduceIte, h0, hw1, hw2]
      rw [hok]
    · have h0 : (j + 1 == c) = false := by simpa using hjc
      rw [if_neg hjc] at hok
      simp only [FS, ↓RE, okR, argEnv, Nat.reduceAdd, Nat.reduceSub, Nat.reduceLT, Nat.reduceLeDiff, Nat.reduceEqDiff, reduceIte, h0, hwi]
      exact ⟨(i + 1, j + 1), ⟨by simp only; omega, by simp only; omega, hok⟩, by simp only; omega, by simp [headW, heapW, envW, blkLt, D.ltL, D.lt, look, hget, hfl, hcl]⟩

/-! The plain law: the first place from which on 'c' are good -/
def allG (good : Nat → Bool) (o c : Nat) : Bool := (List.range c).all fun j => good (o + j)
def runS (good : Nat → Bool) (n c : Nat) : Int := match (List.range (n + 1 - c)).find? fun o => allG good o c with
  | some o => o
  | none => -1
theorem allG_iff {good : Nat → Bool} {o c : Nat} : allG good o c = true ↔ ∀ j, j < c → good (o + j) = true := by
  simp [allG, List.all_eq_true]
theorem find_first {p : Nat → Bool} {n o : Nat} (ho : o < n) (hp : p o = true) (hb : ∀ i, i < o → p i = false) : (List.range n).find? p = some o := by
  induction n with
  | zero => omega
  | succ n ih =>
    rw [List.range_succ, List.find?_append]
    rcases Nat.lt_or_ge o n with h | h
    · rw [ih h]; rfl
    · have : o = n := by omega
      subst this
      have : (List.range o).find? p = none := by
        rw [List.find?_eq_none]
        intro i hi
        rw [hb i (List.mem_range.1 hi)]; simp
      rw [this]
      simp [hp]
theorem runP_eq (good : Nat → Bool) (n c : Nat) (hc : 1 ≤ c) : ∀ m k j : Nat, k + m = n → j < c → j ≤ k → (∀ i, k - j ≤ i → i < k → good i = true) → (k - j = 0 ∨ good (k - j - 1) = false) → (∀ o, o + c ≤ k → allG good o c = false) →
    runP good (c : Int) m k (j : Int) = runS good n c
  | 0, k, j, hn, hj, hjk, h1, h2, h3 => by
    simp only [runP, runS]
    have : (List.range (n + 1 - c)).find? (fun o => allG good o c) = none := by
      rw [List.find?_eq_none]
      intro o ho
      have := List.mem_range.1 ho
      rw [h3 o (by omega)]; simp
    rw [this]
  | m + 1, k, j, hn, hj, hjk, h1, h2, h3 => by
    simp only [runP]
    cases hg : good k
    · rw [if_neg Bool.false_ne_true, if_neg (by omega)]
      have h4 : ∀ o, o + c ≤ k + 1 → allG good o c = false := fun o ho => by
        rcases Nat.lt_or_ge (o + c) (k + 1) with h | h
        · exact h3 o (by omega)
        · cases ha : allG good o c
          · rfl
          · have := allG_iff.1 ha (c - 1) (by omega)
            rw [show o + (c - 1) = k by omega, hg] at this; cases this
      exact runP_eq good n c hc m (k + 1) 0 (by omega) (by omega) (by omega) (fun i a b => by omega) (.inr (by simpa using hg)) h4
    · rw [if_pos rfl]
      by_cases hjc : j + 1 = c
      · rw [if_pos (by omega)]
        have hfirst : (List.range (n + 1 - c)).find? (fun o => allG good o c) = some (k - j) := by
          refine find_first (by omega) (allG_iff.2 fun i hi => ?_) fun i hi => ?_
          · rcases Nat.lt_or_ge (k - j + i) k with h | h
            · exact h1 _ (by omega) h
            · rw [show k - j + i = k by omega]; exact hg
          · rcases h2 with h | h
            · omega
            · cases ha : allG good i c
              · rfl
              · rcases Nat.lt_or_ge (i + c) (k + 1) with h5 | h5
                · rw [h3 i (by omega)] at ha; cases ha
                · have := allG_iff.1 ha (k - j - 1 - i) (by omega)
                  rw [show i + (k - j - 1 - i) = k - j - 1 by omega, h] at this; cases this
        simp only [runS, hfirst]; omega
      · rw [if_neg (by omega)]
        have h4 : ∀ o, o + c ≤ k + 1 → allG good o c = false := fun o ho => by
          rcases Nat.lt_or_ge (o + c) (k + 1) with h | h
          · exact h3 o (by omega)
          · cases ha : allG good o c
            · rfl
            · rcases h2 with h5 | h5
              · omega
              · have := allG_iff.1 ha (k - j - 1 - o) (by omega)
                rw [show o + (k - j - 1 - o) = k - j - 1 by omega, h5] at this; cases this
        have := runP_eq good n c hc m (k + 1) (j + 1) (by omega) (by omega) (by omega) (fun i a b => by
          rcases Nat.lt_or_ge i k with h | h
          · exact h1 i (by omega) h
          · rw [show i = k by omega]; exact hg) (by rw [show k + 1 - (j + 1) = k - j by omega]; exact h2) h4
        rw [show ((j + 1 : Nat) : Int) = (j : Int) + 1 by omega] at this
        exact this
end Go.Sx

namespace Go.Sx
open Go.Proofs
set_option maxRecDepth 10000

theorem lk_lt (l : Lk) (hg : enGl.sl l.gd = some l.s.glares) (m : Nat) : D.ltL m l.c = true := by
  have lg := En.lt hg
  simp [D.ltL, D.lt, lg]
theorem lk_view (l : Lk) (hg : enGl.sl l.gd = some l.s.glares) (h : H) : viewL h l.c = l.c := by
  have vg := fun hp => En.view hg hp
  simp [viewL, view, vg]

theorem at_bounds {g : Ga} (hga : gaOk g = true) (t : Int) : (-100000 ≤ (atG g.rate g.least g.most g.rs t).1 ∧ (atG g.rate g.least g.most g.rs t).1 ≤ 100000) ∧ (-100000 ≤ (atG g.rate g.least g.most g.rs t).2 ∧ (atG g.rate g.least g.most g.rs t).2 ≤ 100000) := by
  obtain ⟨hrs, hrate, hspan, _⟩ := gaOk_inv hga
  have h1 := (atG_lo g.rate t _ g.rs g.least g.most).1 (Int.le_refl _)
  have h2 := (atG_hi g.rate t _ g.rs g.least g.most).1 (Int.le_refl _)
  refine ⟨⟨by omega, ?_⟩, ?_, by omega⟩
  · rw [atG_lo]
    refine ⟨by omega, fun r hr => ?_⟩
    have := hrs r hr
    have := far_nonneg g.rate r.minute t hrate.1
    omega
  · rw [atG_hi]
    refine ⟨by omega, fun r hr => ?_⟩
    have := hrs r hr
    have := far_nonneg g.rate r.minute t hrate.1
    omega

def dpAt (s : Se) (i : Int) : Int × Int := s.depths.getD i.toNat (0, 0)
def atL (g : Ga) (t : Int) : Int × Int := atG g.rate g.least g.most g.rs t
theorem dp_ok {s : Se} (h : okSe s = true) {i : Int} (h0 : 0 ≤ i) (hi : i < s.wide * s.deep) : s.depths[i.toNat]? = some (dpAt s i) ∧ (-5000 ≤ (dpAt s i).1 ∧ (dpAt s i).1 ≤ (dpAt s i).2 ∧ (dpAt s i).2 ≤ 5000) := by
  have hlen := (okSe_sz h).2.2
  have hlt : i.toNat < s.depths.length := by omega
  have hg : s.depths[i.toNat]? = some (dpAt s i) := by simp [dpAt, hlt, List.getD]
  refine ⟨hg, ?_⟩
  simp only [okSe, Bool.and_eq_true, List.all_eq_true] at h
  have := h.2.2.2.2.1 _ (List.mem_of_getElem? hg)
  simpa [okDp, bSpan] using this
/-- A cell is good: deep enough, and none of those that are there in the way. -/
def goodK (l : Lk) (dp : Int → Int) (tide : Int) (th : Nat → Bool) (k : Nat) : Bool := decide (l.n.draught ≤ dp (cellI l.s l.p k) + tide) && freeB th (pxK l.p k) (pyK l.p k) l.s.boats 0

theorem off1_t (l : Lk) (hg : enGl.sl l.gd = some l.s.glares) (hs : okSe l.s = true) (hp : okSp l.s l.p = true) (hbl : l.s.boats.length ≤ 9223372036854775807) (tide : Int) (ht : -100000 ≤ tide ∧ tide ≤ 100000) (k : Nat) (hk : (k : Int) < l.p.cells) :
    Pure Tryz.prog 120 [.int .i64 (k : Int), .ref l.c 0, .ref [.int .i64 tide] 0] (.bool (goodK l (fun i => (dpAt l.s i).1) tide (passB l) k)) := by
  have vg := fun hp => En.view hg hp
  have lg := En.lt hg
  obtain ⟨hw, hd, hlen⟩ := okSe_sz hs
  have hk' : 0 ≤ (k : Int) ∧ (k : Int) ≤ l.p.cells - 1 := by omega
  have hcl := cell_lt hw.1 hp hk'
  obtain ⟨hdp, hdb⟩ := dp_ok hs hcl.1 hcl.2
  have hce := gL1_eq okCl (fun q => .tup [.int .i64 (cellI q.1.s q.1.p q.2), .int .i64 (pxK q.1.p q.2), .int .i64 (pyK q.1.p q.2)]) l hg (i := (k : Int)) (by simp [okCl, bIn, hp]; omega)
  have hix := fun hh => En.ix (P := Tryz.prog) Fz.und_22 Fz.size_70 (En.sl_map (E := enS) l.s.depths) hdp hh .i64
  rw [Int.toNat_of_nonneg hcl.1] at hix
  have hix2 : ∀ hh, indexAddrD Tryz.prog hh 22 (.sl (l.s.depths.map enS.d)) (.int .i64 (cellI l.s l.p k)) = some (.ref [.int .i64 (dpAt l.s (cellI l.s l.p k)).1, .int .i64 (dpAt l.s (cellI l.s l.p k)).2] 0) := hix
  have hwr := wrap_i64 (z := (dpAt l.s (cellI l.s l.p k)).1 + tide) (by omega) (by omega)
  simp only [Lk.c, Se.cr, Wx.c, gaC] at hce
  refine pure_of_wc (rs := [.tmp 4]) (m := 37) [(2, [(23, false, false, [])])] o29_ok (by kernel_rfl) Tryz.func120 rfl (by kernel_rfl) rfl rfl (by kernel_rfl) ?_
  cases hq : decide (l.n.draught ≤ (dpAt l.s (cellI l.s l.p k)).1 + tide)
  · simp only [FS, ↓RE, okR, argEnv, Nat.reduceAdd, Nat.reduceSub, Nat.reduceLT, Nat.reduceLeDiff, Nat.reduceEqDiff, reduceIte, vg, lg, hce, ex_tup, hix2, hwr, hq]
    simp [goodK, hq]
  simp only [FS, ↓RE, okR, argEnv, Nat.reduceAdd, Nat.reduceSub, Nat.reduceLT, Nat.reduceLeDiff, Nat.reduceEqDiff, reduceIte, vg, lg, hce, ex_tup, hix2, hwr, hq]
  refine call_of_pure (free_t l hg hbl (pxK l.p k) (pyK l.p k) 74 [.agg l.c] [] (passB l) (fun m => by simp [D.ltL, D.lt, lg]) (fun h => by simp [viewL, view, vg]) (fun _ => rfl) (fun _ => rfl) (fun h i => by simp [viewL, view, vg]) fun i hi => passes_t l hg i hi) rfl ?_
  simp only [FS, ↓RE, okR, argEnv, Nat.reduceAdd, Nat.reduceSub, Nat.reduceLT, Nat.reduceLeDiff, Nat.reduceEqDiff, reduceIte, vg, lg]
  simp [goodK, hq]
end Go.Sx

namespace Go.Sx
open Go.Proofs
set_option maxRecDepth 10000

/-- A look that is as defined. -/
structure LkOk (l : Lk) : Prop where
  se : SeL l.s l.gd
  s : okSe l.s = true
  p : okSp l.s l.p = true
  n : okNd l.n = true
  t : 0 ≤ l.t ∧ l.t ≤ 1440
theorem okNd_run {n : Nd} (h : okNd n = true) : 1 ≤ n.run ∧ n.run ≤ 12 := by
  simp only [okNd, Bool.and_eq_true, bIn, decide_eq_true_eq] at h
  exact h.2.1
theorem gAtL (g : Ga) (t : Int) (h : gaOk g = true ∧ 0 ≤ t ∧ t ≤ 1440) : gAt [.agg [.int .i64 g.rate, .int .i64 g.least, .int .i64 g.most, .sl (g.rs.map Rd.d)], .int .i64 t] = some (.agg [.int .i64 (atL g t).1, .int .i64 (atL g t).2]) := gAt_eq (a := g.rate) (b := g.least) (c := g.most) (rs := g.rs) (t := t) h
def offL (l : Lk) : Int := runP (goodK l (fun i => (dpAt l.s i).1) (atL l.s.w.tide l.t).1 (passB l)) l.n.run l.p.cells.toNat 0 0

theorem offset_t (l : Lk) (h : LkOk l) : Pure Tryz.prog 68 [.agg l.c] (.int .i64 (offL l)) := by
  have hg := h.se.gd
  have vg := fun hp => En.view hg hp
  have lg := En.lt hg
  have hwx := okWx_gaOk (okSe_wx h.s)
  have hat := gAtL l.s.w.tide l.t ⟨hwx.tide, h.t⟩
  have htb := (at_bounds hwx.tide l.t).1
  refine pure_of_wc (rs := [.tmp 2]) (m := 18) [] o29_ok (by kernel_rfl) Tryz.func68 rfl (by kernel_rfl) rfl rfl (by kernel_rfl) ?_
  simp only [FS, ↓RE, okR, argEnv, Nat.reduceAdd, Nat.reduceSub, Nat.reduceLT, Nat.reduceLeDiff, Nat.reduceEqDiff, reduceIte, vg, lg, hat]
  refine call_of_pure (run_t l hg l.n.run (okNd_run h.n) (okSp_ce h.p).2 120 [] [.ref l.c 0, .ref [.int .i64 (atL l.s.w.tide l.t).1] 0] (goodK l (fun i => (dpAt l.s i).1) (atL l.s.w.tide l.t).1 (passB l)) (fun _ => rfl) (fun _ => rfl) (fun _ _ => rfl) fun i hi => off1_t l hg h.s h.p h.se.boats _ htb i hi) rfl ?_
  simp only [FS, ↓RE, okR, argEnv, Nat.reduceAdd, Nat.reduceSub, Nat.reduceLT, Nat.reduceLeDiff, Nat.reduceEqDiff, reduceIte]
  rfl

/-! Glares -/
def blindG (w t : Int) (g : Gl) : Bool := (decide ((g.way - w + 8).tmod 8 ≤ 1) || ((g.way - w + 8).tmod 8 == 7)) && bIn t g.t.1 g.t.2
theorem blind1_t (l : Lk) (hg : enGl.sl l.gd = some l.s.glares) (hw : okWay l.p.way = true) (g : Gl) (hgw : okWay g.way = true) : Pure Tryz.prog 132 [.agg (enGl.d g), .ref l.c 0] (.bool (blindG l.p.way l.t g)) := by
  have vg := fun hp => En.view hg hp
  have lg := En.lt hg
  obtain ⟨gw, ⟨t1, t2⟩⟩ := g
  simp only [okWay, Bool.and_eq_true, decide_eq_true_eq] at hw hgw
  have h1 := wrap_i64 (z := gw - l.p.way) (by omega) (by omega)
  have h2 := wrap_i64 (z := gw - l.p.way + 8) (by omega) (by omega)
  have hr := a_rem' (k := .i64) (x := gw - l.p.way + 8) (y := 8) (by omega)
  simp only [enGl]
  refine pure_of_wc (rs := [.tmp 3]) (m := 30) [] o29_ok (by kernel_rfl) Tryz.func132 rfl (by kernel_rfl) rfl rfl (by kernel_rfl) ?_
  cases q1 : decide ((gw - l.p.way + 8).tmod 8 ≤ 1) <;> cases q2 : ((gw - l.p.way + 8).tmod 8 == 7) <;>
  · simp only [FS, ↓RE, okR, argEnv, Nat.reduceAdd, Nat.reduceSub, Nat.reduceLT, Nat.reduceLeDiff, Nat.reduceEqDiff, reduceIte, h1, h2, hr, gIn_eq, q1, q2]
    simp [blindG, q1, q2]
def blindL (l : Lk) : Bool := l.s.glares.any (blindG l.p.way l.t)
theorem okSe_gl {s : Se} (h : okSe s = true) : ∀ g ∈ s.glares, okWay g.way = true ∧ okTimes g.t = true := by
  simp only [okSe, Bool.and_eq_true, List.all_eq_true] at h
  intro g hg
  have := h.2.2.2.2.2.2 g hg
  simpa [okGl] using this
theorem blind_t (l : Lk) (h : LkOk l) : Pure Tryz.prog 87 [.agg l.c] (.bool (blindL l)) := by
  have hg := h.se.gd
  have vg := fun hp => En.view hg hp
  have lg := En.lt hg
  refine pure_of_wc (rs := [.tmp 2]) (m := 8) [] o29_ok (by kernel_rfl) Tryz.func87 rfl (by kernel_rfl) rfl rfl (by kernel_rfl) ?_
  simp only [FS, ↓RE, okR, argEnv, Nat.reduceAdd, Nat.reduceSub, Nat.reduceLT, Nat.reduceLeDiff, Nat.reduceEqDiff, reduceIte, vg, lg]
  refine call_of_pure (gl_has l.s.glares l.gd hg 132 [.ref l.c 0] (blindG l.p.way l.t) h.se.glares (fun _ => rfl) (fun _ => rfl) fun g hgm => blind1_t l hg (okSp_ce h.p).1 g (okSe_gl h.s g hgm).1) rfl ?_
  simp only [FS, ↓RE, okR, argEnv, Nat.reduceAdd, Nat.reduceSub, Nat.reduceLT, Nat.reduceLeDiff, Nat.reduceEqDiff, reduceIte]
  rfl
theorem clear_t (l : Lk) (h : LkOk l) : Pure Tryz.prog 118 [.agg l.c] (.bool (!blindL l)) := by
  have hg := h.se.gd
  have vg := fun hp => En.view hg hp
  have lg := En.lt hg
  refine pure_of_wc (rs := [.tmp 2]) (m := 6) [] o29_ok (by kernel_rfl) Tryz.func118 rfl (by kernel_rfl) rfl rfl (by kernel_rfl) ?_
  simp only [FS, ↓RE, okR, argEnv, Nat.reduceAdd, Nat.reduceSub, Nat.reduceLT, Nat.reduceLeDiff, Nat.reduceEqDiff, reduceIte, vg, lg]
  refine call_of_pure (blind_t l h) rfl ?_
  simp only [FS, ↓RE, okR, argEnv, Nat.reduceAdd, Nat.reduceSub, Nat.reduceLT, Nat.reduceLeDiff, Nat.reduceEqDiff, reduceIte]
theorem surelyDeep_t (l : Lk) (h : LkOk l) : Pure Tryz.prog 115 [.agg l.c] (.bool (decide (0 ≤ offL l))) := by
  have hg := h.se.gd
  have vg := fun hp => En.view hg hp
  have lg := En.lt hg
  refine pure_of_wc (rs := [.tmp 2]) (m := 6) [] o29_ok (by kernel_rfl) Tryz.func115 rfl (by kernel_rfl) rfl rfl (by kernel_rfl) ?_
  simp only [FS, ↓RE, okR, argEnv, Nat.reduceAdd, Nat.reduceSub, Nat.reduceLT, Nat.reduceLeDiff, Nat.reduceEqDiff, reduceIte, vg, lg]
  refine call_of_pure (offset_t l h) rfl ?_
  simp only [FS, ↓RE, okR, argEnv, Nat.reduceAdd, Nat.reduceSub, Nat.reduceLT, Nat.reduceLeDiff, Nat.reduceEqDiff, reduceIte]
def flatS (l : Lk) : Bool := decide (l.n.calm ≤ (atL l.s.w.wave l.t).1) && (decide ((atL l.s.w.wave l.t).2 ≤ l.n.wave) && decide ((atL l.s.w.swell l.t).2 ≤ l.n.swell))
theorem surelyFlat_t (l : Lk) (h : LkOk l) : Pure Tryz.prog 117 [.agg l.c] (.bool (flatS l)) := by
  have hg := h.se.gd
  have vg := fun hp => En.view hg hp
  have lg := En.lt hg
  have hwx := okWx_gaOk (okSe_wx h.s)
  have h1 := gAtL l.s.w.wave l.t ⟨hwx.wave, h.t⟩
  have h2 := gAtL l.s.w.swell l.t ⟨hwx.swell, h.t⟩
  refine pure_of_wc (rs := [.tmp 2]) (m := 39) [(2, [(29, false, false, [])])] o29_ok (by kernel_rfl) Tryz.func117 rfl (by kernel_rfl) rfl rfl (by kernel_rfl) ?_
  cases q1 : decide (l.n.calm ≤ (atL l.s.w.wave l.t).1) <;> cases q2 : decide ((atL l.s.w.wave l.t).2 ≤ l.n.wave) <;>
  · simp only [FS, ↓RE, okR, argEnv, Nat.reduceAdd, Nat.reduceSub, Nat.reduceLT, Nat.reduceLeDiff, Nat.reduceEqDiff, reduceIte, vg, lg, h1, h2, q1, q2]
    simp [flatS, q1, q2]
def flatP (l : Lk) : Bool := decide (max (atL l.s.w.wave l.t).1 l.n.calm ≤ min (atL l.s.w.wave l.t).2 l.n.wave) && decide ((atL l.s.w.swell l.t).1 ≤ l.n.swell)
theorem possiblyFlat_t (l : Lk) (h : LkOk l) : Pure Tryz.prog 123 [.agg l.c] (.bool (flatP l)) := by
  have hg := h.se.gd
  have vg := fun hp => En.view hg hp
  have lg := En.lt hg
  have hwx := okWx_gaOk (okSe_wx h.s)
  have h1 := gAtL l.s.w.wave l.t ⟨hwx.wave, h.t⟩
  have h2 := gAtL l.s.w.swell l.t ⟨hwx.swell, h.t⟩
  refine pure_of_wc (rs := [.tmp 2]) (m := 38) [(2, [(28, false, false, [])])] o29_ok (by kernel_rfl) Tryz.func123 rfl (by kernel_rfl) rfl rfl (by kernel_rfl) ?_
  cases q1 : decide (max (atL l.s.w.wave l.t).1 l.n.calm ≤ min (atL l.s.w.wave l.t).2 l.n.wave) <;>
  · simp only [FS, ↓RE, okR, argEnv, Nat.reduceAdd, Nat.reduceSub, Nat.reduceLT, Nat.reduceLeDiff, Nat.reduceEqDiff, reduceIte, vg, lg, h1, h2, q1]
    simp [flatP, q1]
end Go.Sx

namespace Go.Sx
open Go.Proofs
set_option maxRecDepth 10000

theorem take_one {α : Type} (a : α) (l : List α) : (a :: l).take 1 = [a] := by cases l <;> rfl
def calmS (l : Lk) : Bool := (calmB l.p.way l.n (atL l.s.w.east l.t).1 (atL l.s.w.north l.t).1 && calmB l.p.way l.n (atL l.s.w.east l.t).1 (atL l.s.w.north l.t).2) && (calmB l.p.way l.n (atL l.s.w.east l.t).2 (atL l.s.w.north l.t).1 && calmB l.p.way l.n (atL l.s.w.east l.t).2 (atL l.s.w.north l.t).2)
theorem okWind_at {g : Ga} (h : gaOk g = true) (t : Int) : okWind (atL g t).1 = true ∧ okWind (atL g t).2 = true := by
  obtain ⟨⟨a1, a2⟩, a3, a4⟩ := at_bounds h t
  have b1 : -100000 ≤ (atL g t).1 := a1
  have b2 : (atL g t).1 ≤ 100000 := a2
  have b3 : -100000 ≤ (atL g t).2 := a3
  have b4 : (atL g t).2 ≤ 100000 := a4
  simp only [okWind, bIn, Bool.and_eq_true, decide_eq_true_eq]
  exact ⟨⟨by omega, by omega⟩, by omega, by omega⟩
theorem surelyCalm_t (l : Lk) (h : LkOk l) : Pure Tryz.prog 116 [.agg l.c] (.bool (calmS l)) := by
  have hg := h.se.gd
  have vg := fun hp => En.view hg hp
  have lg := En.lt hg
  have hwx := okWx_gaOk (okSe_wx h.s)
  have h1 := gAtL l.s.w.east l.t ⟨hwx.east, h.t⟩
  have h2 := gAtL l.s.w.north l.t ⟨hwx.north, h.t⟩
  obtain ⟨e1, e2⟩ := okWind_at hwx.east l.t
  obtain ⟨n1, n2⟩ := okWind_at hwx.north l.t
  refine pure_of_wc (rs := [.tmp 2]) (m := 44) [(1, [(16, true, false, []), (2, false, false, [])])] o29_ok (by kernel_rfl) Tryz.func116 rfl (by kernel_rfl) rfl rfl (by kernel_rfl) ?_
  simp only [FS, ↓RE, okR, argEnv, Nat.reduceAdd, Nat.reduceSub, Nat.reduceLT, Nat.reduceLeDiff, Nat.reduceEqDiff, reduceIte, vg, lg, h1, h2]
  refine loopV (ι := Nat) o29_ok [(1, [(16, true, false, []), (2, false, false, [])])] (fun i => [(1, .ptr 0 0), (4, .ptr 2 0), (25, .agg [.int .i64 (atL l.s.w.east l.t).1, .int .i64 (atL l.s.w.east l.t).2]), (26, .int .i64 (i : Int))])
    (fun i => [(2, .box [.int .i64 (atL l.s.w.north l.t).1, .int .i64 (atL l.s.w.north l.t).2]), (0, .box l.c)]) 3
    (fun i => i ≤ 2 ∧ (([(atL l.s.w.east l.t).1, (atL l.s.w.east l.t).2] : List Int).take i).all (fun x => calmB l.p.way l.n x (atL l.s.w.north l.t).1 && calmB l.p.way l.n x (atL l.s.w.north l.t).2) = true) (fun i => 2 - i) 0 (by kernel_rfl) (by kernel_rfl) ⟨Nat.zero_le _, rfl⟩ ?_ ?_
  · simp [headW, heapW, envW, blkLt, D.ltL, D.lt, look, hget, lg]
  rintro i ⟨hi, hok⟩
  have hS : calmS l = ([(atL l.s.w.east l.t).1, (atL l.s.w.east l.t).2] : List Int).all (fun x => calmB l.p.way l.n x (atL l.s.w.north l.t).1 && calmB l.p.way l.n x (atL l.s.w.north l.t).2) := by simp [calmS]
  rcases Nat.lt_or_ge i 2 with hlt | hge
  · obtain ⟨x, hx, hwx2, hd⟩ : ∃ x : Int, okWind x = true ∧ ([(atL l.s.w.east l.t).1, (atL l.s.w.east l.t).2] : List Int)[i]? = some x ∧ partD Tryz.prog 3 [.int .i64 (atL l.s.w.east l.t).1, .int .i64 (atL l.s.w.east l.t).2] (i * 1) = some (.int .i64 x) := by
      have h5 : i = 0 ∨ i = 1 := by omega
      rcases h5 with rfl | rfl
      · exact ⟨_, e1, rfl, rfl⟩
      · exact ⟨_, e2, rfl, rfl⟩
    have hix := ix_arr (P := Tryz.prog) Fz.und_181 Fz.size_3 hlt [.int .i64 (atL l.s.w.east l.t).1, .int .i64 (atL l.s.w.east l.t).2] .i64
    rw [hd] at hix
    have hc : ((i : Int) < 2) = True := by simp; omega
    have hwi := wrap_i64 (z := (i : Int) + 1) (by omega) (by omega)
    have c1 := gL2_eq (fun q => okWd q && okNd q.1.n) (fun q => .bool (calmB q.1.p.way q.1.n q.2.1 q.2.2)) l hg (i := x) (j := (atL l.s.w.north l.t).1) (by simp [okWd, (okSp_ce h.p).1, hx, n1, h.n])
    have c2 := gL2_eq (fun q => okWd q && okNd q.1.n) (fun q => .bool (calmB q.1.p.way q.1.n q.2.1 q.2.2)) l hg (i := x) (j := (atL l.s.w.north l.t).2) (by simp [okWd, (okSp_ce h.p).1, hx, n2, h.n])
    simp only [Lk.c, Se.cr, Wx.c, gaC] at c1 c2
    cases q1 : calmB l.p.way l.n x (atL l.s.w.north l.t).1
    · simp only [FS, ↓RE, okR, argEnv, Nat.reduceAdd, Nat.reduceSub, Nat.reduceLT, Nat.reduceLeDiff, Nat.reduceEqDiff, reduceIte, vg, lg, hc, decide_true, hix, c1, q1]
      rw [hS, all_not hwx2 (by rw [q1]; rfl)]
    cases q2 : calmB l.p.way l.n x (atL l.s.w.north l.t).2
    · simp only [FS, ↓RE, okR, argEnv, Nat.reduceAdd, Nat.reduceSub, Nat.reduceLT, Nat.reduceLeDiff, Nat.reduceEqDiff, reduceIte, vg, lg, hc, decide_true, hix, c1, q1, c2, q2]
      rw [hS, all_not hwx2 (by rw [q1, q2]; rfl)]
    · simp only [FS, ↓RE, okR, argEnv, Nat.reduceAdd, Nat.reduceSub, Nat.reduceLT, Nat.reduceLeDiff, Nat.reduceEqDiff, reduceIte, vg, lg, hc, decide_true, hix, c1, q1, c2, q2, hwi]
      exact ⟨i + 1, ⟨by omega, all_take hwx2 hok (by rw [q1, q2]; rfl)⟩, by omega, by simp [headW, heapW, envW, blkLt, D.ltL, D.lt, look, hget, lg]⟩
  have : i = 2 := by omega
  subst this
  simp only [FS, ↓RE, okR, argEnv, Nat.reduceAdd, Nat.reduceSub, Nat.reduceLT, Nat.reduceLeDiff, Nat.reduceEqDiff, reduceIte, Int.cast_ofNat_Int, Int.lt_irrefl, decide_false]
  rw [hS]
  rw [show (([(atL l.s.w.east l.t).1, (atL l.s.w.east l.t).2] : List Int).take 2) = [(atL l.s.w.east l.t).1, (atL l.s.w.east l.t).2] from rfl] at hok
  rw [hok]

/-! All of some conditions -/
theorem all_t (fs : List (FuncId × List D)) (bs : FuncId × List D → Bool) (hfl : ∀ f ∈ fs, ∀ m, D.ltL m f.2 = true) (hva : ∀ f ∈ fs, ∀ h, viewL h f.2 = f.2) (hn : fs.length ≤ 100) (hq : ∀ f ∈ fs, Pure Tryz.prog f.1 f.2 (.bool (bs f))) :
    Pure Tryz.prog 119 [.sl (fs.map fun f => [.fn (.func f.1) f.2 []])] (.bool (fs.all bs)) := by
  refine pure_of_wc (rs := [.tmp 2]) (m := 15) [] oNone_ok (by kernel_rfl) Tryz.func119 rfl (by kernel_rfl) rfl rfl (by kernel_rfl) ?_
  simp only [FS, ↓RE, okR, argEnv, Nat.reduceAdd, Nat.reduceSub, Nat.reduceLT, Nat.reduceLeDiff, Nat.reduceEqDiff, reduceIte, List.length_map]
  refine loopV (ι := Nat) oNone_ok [] (fun i => [(5, .sl (fs.map fun f => [.fn (.func f.1) f.2 []])), (6, .int .i64 (fs.length : Int)), (7, .int .i64 (i : Int))])
    (fun i => []) 0 (fun i => i ≤ fs.length ∧ (fs.take i).all bs = true) (fun i => fs.length - i) 0 (by kernel_rfl) (by kernel_rfl) ⟨Nat.zero_le _, by simp⟩ ?_ ?_
  · simp [headW, heapW, envW, blkLt, D.ltL, D.lt, look, hget]
  rintro i ⟨hi, hok⟩
  rcases Nat.lt_or_ge i fs.length with hlt | hge
  · have hc : ((i : Int) < (fs.length : Int)) = True := by simp [hlt]
    obtain ⟨f, hf⟩ : ∃ f, fs[i]? = some f := ⟨fs[i], by simp [hlt]⟩
    have hfm := List.mem_of_getElem? hf
    have hix : ∀ hp, indexAddrD Tryz.prog hp 165 (.sl (fs.map fun f => [.fn (.func f.1) f.2 []])) (.int .i64 (i : Int)) = some (.ref [.fn (.func f.1) f.2 []] 0) := fun hp => ix_sl Fz.und_165 Fz.size_38 (c := [.fn (.func f.1) f.2 []]) (by simp [hf]) rfl hp .i64
    have hwi := wrap_i64 (z := (i : Int) + 1) (by omega) (by omega)
    simp only [FS, ↓RE, okR, argEnv, Nat.reduceAdd, Nat.reduceSub, Nat.reduceLT, Nat.reduceLeDiff, Nat.reduceEqDiff, reduceIte, hc, decide_true, hix]
    refine call_of_pure (by rw [List.append_nil, List.append_nil, hva f hfm]; exact hq f hfm) rfl ?_
    cases hb : bs f
    · simp only [FS, ↓RE, okR, argEnv, Nat.reduceAdd, Nat.reduceSub, Nat.reduceLT, Nat.reduceLeDiff, Nat.reduceEqDiff, reduceIte]
      rw [all_not hf hb]
    · simp only [FS, ↓RE, okR, argEnv, Nat.reduceAdd, Nat.reduceSub, Nat.reduceLT, Nat.reduceLeDiff, Nat.reduceEqDiff, reduceIte, hwi]
      exact ⟨i + 1, ⟨by omega, all_take hf hok hb⟩, by omega, by simp [headW, heapW, envW, blkLt, D.ltL, D.lt, look, hget]⟩
  have : i = fs.length := by omega
  subst this
  rw [List.take_length] at hok
  simp only [FS, ↓RE, okR, argEnv, Nat.reduceAdd, Nat.reduceSub, Nat.reduceLT, Nat.reduceLeDiff, Nat.reduceEqDiff, reduceIte, Int.lt_irrefl, decide_false]
  rw [hok]
end Go.Sx

namespace Go.Sx
open Go.Proofs
set_option maxRecDepth 10000

theorem En.cur {α : Type} {E : En α} {x : D} {l : List α} (h : E.sl x = some l) (hp : H) : curD hp x = true := by
  rcases En.inv h with rfl | ⟨rfl, rfl⟩ <;> rfl
def surelyB (l : Lk) : Bool := decide (0 ≤ offL l) && (calmS l && (flatS l && !blindL l))
theorem surely_t (l : Lk) (h : LkOk l) : Pure Tryz.prog 66 [.agg l.c] (.bool (surelyB l)) := by
  have hg := h.se.gd
  have vg := fun hp => En.view hg hp
  have lg := En.lt hg
  have hv : ∀ a b c d : D, D.ltL 0 [a, b, c, d] = true → viewC 0 4 1 (some (.box [a, b, c, d])) = .sl [[a], [b], [c], [d]] := fun a b c d h => by
    rw [viewC_box _ _ _ _ h rfl]; rfl
  refine pure_of_wc (rs := [.tmp 2]) (m := 15) [] o29_ok (by kernel_rfl) Tryz.func66 rfl (by kernel_rfl) rfl rfl (by kernel_rfl) ?_
  simp only [FS, ↓RE, okR, argEnv, Nat.reduceAdd, Nat.reduceSub, Nat.reduceLT, Nat.reduceLeDiff, Nat.reduceEqDiff, reduceIte, vg, lg, hv]
  refine call_of_pure (all_t [(115, [.agg l.c]), (116, [.agg l.c]), (117, [.agg l.c]), (118, [.agg l.c])]
    (fun f => if f.1 = 115 then decide (0 ≤ offL l) else if f.1 = 116 then calmS l else if f.1 = 117 then flatS l else !blindL l) ?_ ?_ (by simp) ?_) rfl ?_
  · intro f hf m
    simp only [List.mem_cons, List.not_mem_nil, or_false] at hf
    rcases hf with rfl | rfl | rfl | rfl <;> simp [D.ltL, D.lt, lg]
  · intro f hf hh
    simp only [List.mem_cons, List.not_mem_nil, or_false] at hf
    rcases hf with rfl | rfl | rfl | rfl <;> simp [viewL, view, vg]
  · intro f hf
    simp only [List.mem_cons, List.not_mem_nil, or_false] at hf
    rcases hf with rfl | rfl | rfl | rfl
    · exact surelyDeep_t l h
    · exact surelyCalm_t l h
    · exact surelyFlat_t l h
    · exact clear_t l h
  simp only [FS, ↓RE, okR, argEnv, Nat.reduceAdd, Nat.reduceSub, Nat.reduceLT, Nat.reduceLeDiff, Nat.reduceEqDiff, reduceIte]
  simp [surelyB]

theorem lk_ok {l : Lk} (h : SeL l.s l.gd) (ha : askE l = 0) : LkOk l ∧ soundW l.s.w = true := by
  simp only [askE] at ha
  split at ha
  · rename_i hc
    simp only [Bool.and_eq_true, bIn, decide_eq_true_eq] at hc
    split at ha
    · exact ⟨⟨h, hc.1, hc.2.1, hc.2.2.1, hc.2.2.2⟩, ‹_›⟩
    · cases ha
  · cases ha
theorem askE_cases (l : Lk) : askE l = 0 ∨ askE l = 2 ∨ askE l = 5 := by
  simp only [askE]
  split
  · split <;> simp
  · simp
def SureA (l : Lk) : Int × Int := if askE l = 0 then (if surelyB l then (offL l, 0) else (0, 7)) else (0, askE l)
theorem Sure_t (l : Lk) (h : SeL l.s l.gd) : Pure Tryz.prog 22 [.agg (l.s.c l.gd), .agg l.p.c, .agg l.n.c, .int .i64 l.t] (.tup [.int .i64 (SureA l).1, .int .i64 (SureA l).2]) := by
  have vg := fun hp => En.view h.gd hp
  have lg := En.lt h.gd
  have cg := fun hp => En.cur h.gd hp
  refine pure_of_wc (rs := [.tmp 8, .tmp 9]) (m := 27) [] o29_ok (by kernel_rfl) Tryz.func22 rfl (by kernel_rfl) rfl rfl (by kernel_rfl) ?_
  simp only [FS, ↓RE, okR, argEnv, Nat.reduceAdd, Nat.reduceSub, Nat.reduceLT, Nat.reduceLeDiff, Nat.reduceEqDiff, reduceIte, vg, lg, cg]
  refine call_of_pure (asked_t l h) rfl ?_
  rcases askE_cases l with ha | ha | ha
  · obtain ⟨hok, _⟩ := lk_ok h ha
    simp only [FS, ↓RE, okR, argEnv, Nat.reduceAdd, Nat.reduceSub, Nat.reduceLT, Nat.reduceLeDiff, Nat.reduceEqDiff, reduceIte, ha, vg, lg, bne_self_eq_false]
    refine call_of_pure (surely_t l hok) rfl ?_
    cases hs : surelyB l
    · simp only [FS, ↓RE, okR, argEnv, Nat.reduceAdd, Nat.reduceSub, Nat.reduceLT, Nat.reduceLeDiff, Nat.reduceEqDiff, reduceIte]
      simp [SureA, ha, hs]
    · simp only [FS, ↓RE, okR, argEnv, Nat.reduceAdd, Nat.reduceSub, Nat.reduceLT, Nat.reduceLeDiff, Nat.reduceEqDiff, reduceIte, vg, lg]
      refine call_of_pure (offset_t l hok) rfl ?_
      simp only [FS, ↓RE, okR, argEnv, Nat.reduceAdd, Nat.reduceSub, Nat.reduceLT, Nat.reduceLeDiff, Nat.reduceEqDiff, reduceIte]
      simp [SureA, ha, hs]
  · simp only [FS, ↓RE, okR, argEnv, Nat.reduceAdd, Nat.reduceSub, Nat.reduceLT, Nat.reduceLeDiff, Nat.reduceEqDiff, reduceIte, ha, Int.reduceBNe]
    simp [SureA, ha]
  · simp only [FS, ↓RE, okR, argEnv, Nat.reduceAdd, Nat.reduceSub, Nat.reduceLT, Nat.reduceLeDiff, Nat.reduceEqDiff, reduceIte, ha, Int.reduceBNe]
    simp [SureA, ha]
end Go.Sx
