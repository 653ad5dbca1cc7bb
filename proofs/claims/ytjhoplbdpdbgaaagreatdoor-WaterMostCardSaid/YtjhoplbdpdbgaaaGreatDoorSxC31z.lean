/- Own work: contracts of functions, used in the proof of a law. -/
import Derived.Test.YtjhoplbdpdbgaaaGreatDoorSxC30z
set_option linter.unusedVariables false
set_option linter.unusedSimpArgs false
namespace Go.Sx
open Go.Proofs
set_option maxRecDepth 10000

theorem lk_lt (l : Lk) (hg : enGl.sl l.gd = some l.s.glares) (m : Nat) : D.ltL m l.c = true := by
  have lg := En.lt hg
  simp [D.ltL, D.lt, lg]
theorem lk_view (l : Lk) (hg : enGl.sl l.gd = some l.s.glares) (h : H) : viewL h l.c = l.c := by
  have vg := fun hp => En.view hg hp
  simp [viewL, view, vg]

theorem at_bounds {g : Ga} (hga : gaOk g = true) (t : Int) : (-100000 ≤ (atG g.rate g.least g.most g.rs t).1 ∧ (atG g.rate g.least g.most g.rs t).1 ≤ 100000) ∧ (-100000 ≤ (atG g.rate g.least g.most g.rs t).2 ∧ (atG g.rate g.least g.most g.rs t).2 ≤ 100000) := by
  obtain ⟨hrs, hrate, hspan, _⟩ := gaOk_inv hga
  have h1 := (atG_lo g.rate t _ g.rs g.least g.most).1 (Int.le_refl _)
  have h2 := (atG_hi g.rate t _ g.rs g.least g.most).1 (Int.le_refl _)
  refine ⟨⟨by omega, ?_⟩, ?_, by omega⟩
  · rw [atG_lo]
    refine ⟨by omega, fun r hr => ?_⟩
    have := hrs r hr
    have := far_nonneg g.rate r.minute t hrate.1
    omega
  · rw [atG_hi]
    refine ⟨by omega, fun r hr => ?_⟩
    have := hrs r hr
    have := far_nonneg g.rate r.minute t hrate.1
    omega

def dpAt (s : Se) (i : Int) : Int × Int := s.depths.getD i.toNat (0, 0)
def atL (g : Ga) (t : Int) : Int × Int := atG g.rate g.least g.most g.rs t
theorem dp_ok {s : Se} (h : okSe s = true) {i : Int} (h0 : 0 ≤ i) (hi : i < s.wide * s.deep) : s.depths[i.toNat]? = some (dpAt s i) ∧ (-5000 ≤ (dpAt s i).1 ∧ (dpAt s i).1 ≤ (dpAt s i).2 ∧ (dpAt s i).2 ≤ 5000) := by
  have hlen := (okSe_sz h).2.2
  have hlt : i.toNat < s.depths.length := by omega
  have hg : s.depths[i.toNat]? = some (dpAt s i) := by simp [dpAt, hlt, List.getD]
  refine ⟨hg, ?_⟩
  simp only [okSe, Bool.and_eq_true, List.all_eq_true] at h
  have := h.2.2.2.2.1 _ (List.mem_of_getElem? hg)
  simpa [okDp, bSpan] using this
/-- A cell is good: deep enough, and none of those that are there in the way. -/
def goodK (l : Lk) (dp : Int → Int) (tide : Int) (th : Nat → Bool) (k : Nat) : Bool := decide (l.n.draught ≤ dp (cellI l.s l.p k) + tide) && freeB th (pxK l.p k) (pyK l.p k) l.s.boats 0

theorem off1_t (l : Lk) (hg : enGl.sl l.gd = some l.s.glares) (hs : okSe l.s = true) (hp : okSp l.s l.p = true) (hbl : l.s.boats.length ≤ 9223372036854775807) (tide : Int) (ht : -100000 ≤ tide ∧ tide ≤ 100000) (k : Nat) (hk : (k : Int) < l.p.cells) :
    Pure Tryz.prog 120 [.int .i64 (k : Int), .ref l.c 0, .ref [.int .i64 tide] 0] (.bool (goodK l (fun i => (dpAt l.s i).1) tide (passB l) k)) := by
  have vg := fun hp => En.view hg hp
  have lg := En.lt hg
  obtain ⟨hw, hd, hlen⟩ := okSe_sz hs
  have hk' : 0 ≤ (k : Int) ∧ (k : Int) ≤ l.p.cells - 1 := by omega
  have hcl := cell_lt hw.1 hp hk'
  obtain ⟨hdp, hdb⟩ := dp_ok hs hcl.1 hcl.2
  have hce := gL1_eq okCl (fun q => .tup [.int .i64 (cellI q.1.s q.1.p q.2), .int .i64 (pxK q.1.p q.2), .int .i64 (pyK q.1.p q.2)]) l hg (i := (k : Int)) (by simp [okCl, bIn, hp]; omega)
  have hix := fun hh => En.ix (P := Tryz.prog) Fz.und_22 Fz.size_70 (En.sl_map (E := enS) l.s.depths) hdp hh .i64
  rw [Int.toNat_of_nonneg hcl.1] at hix
  have hix2 : ∀ hh, indexAddrD Tryz.prog hh 22 (.sl (l.s.depths.map enS.d)) (.int .i64 (cellI l.s l.p k)) = some (.ref [.int .i64 (dpAt l.s (cellI l.s l.p k)).1, .int .i64 (dpAt l.s (cellI l.s l.p k)).2] 0) := hix
  have hwr := wrap_i64 (z := (dpAt l.s (cellI l.s l.p k)).1 + tide) (by omega) (by omega)
  simp only [Lk.c, Se.cr, Wx.c, gaC] at hce
  refine pure_of_wc (rs := [.tmp 4]) (m := 37) [(2, [(23, false, false, [])])] o29_ok (by kernel_rfl) Tryz.func120 rfl (by kernel_rfl) rfl rfl (by kernel_rfl) ?_
  cases hq : decide (l.n.draught ≤ (dpAt l.s (cellI l.s l.p k)).1 + tide)
  · simp only [FS, ↓RE, okR, argEnv, Nat.reduceAdd, Nat.reduceSub, Nat.reduceLT, Nat.reduceLeDiff, Nat.reduceEqDiff, reduceIte, vg, lg, hce, ex_tup, hix2, hwr, hq]
    simp [goodK, hq]
  simp only [FS, ↓RE, okR, argEnv, Nat.reduceAdd, Nat.reduceSub, Nat.reduceLT, Nat.reduceLeDiff, Nat.reduceEqDiff, reduceIte, vg, lg, hce, ex_tup, hix2, hwr, hq]
  refine call_of_pure (free_t l hg hbl (pxK l.p k) (pyK l.p k) 74 [.agg l.c] [] (passB l) (fun m => by simp [D.ltL, D.lt, lg]) (fun h => by simp [viewL, view, vg]) (fun _ => rfl) (fun _ => rfl) (fun h i => by simp [viewL, view, vg]) fun i hi => passes_t l hg i hi) rfl ?_
  simp only [FS, ↓RE, okR, argEnv, Nat.reduceAdd, Nat.reduceSub, Nat.reduceLT, Nat.reduceLeDiff, Nat.reduceEqDiff, reduceIte, vg, lg]
  simp [goodK, hq]
end Go.Sx
