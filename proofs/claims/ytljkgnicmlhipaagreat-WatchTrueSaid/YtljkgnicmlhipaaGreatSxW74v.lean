/- Own work: contracts of functions, used in the proof of a law. -/
import Derived.Test.YtljkgnicmlhipaaGreatSxW72v
set_option linter.unusedVariables false
set_option linter.unusedSimpArgs false
namespace Go.Sx
open Go.Proofs
set_option maxRecDepth 10000

abbrev PlW := Int × Bool
def nP (x : List PlW) (i : Nat) : PlW := x[i]?.getD (0, false)
theorem nP_left {x y : List PlW} {i : Nat} (h : i < x.length) : nP (x ++ y) i = nP x i := by
 unfold nP; rw [List.getElem?_append_left h]
theorem nP_last (x : List PlW) (p : PlW) : nP (x ++ [p]) x.length = p := by
 unfold nP; simp
theorem nP_get {x : List PlW} {i : Nat} (h : i < x.length) : x[i]? = some (nP x i) := by
 unfold nP; simp [List.getElem?_eq_getElem h]
def stpB (s : SkyW) (b p : PlW) : Bool := !((((b.2 || p.2) && !(decide (p.1 = b.1))) || (b.2 && !p.2)) || decide (1 < distI s.w p.1 b.1))
def plcB (w : WatchW) (kn : List MsgW) (now : Int) (i : Nat) (p : PlW) : Bool := !(!(freeB w.s.sh p.1) || (!p.2 && decide (w.endu < (i : Int)))) && !((!p.2 && sendsB w (w.min + i)) && silX w kn now (w.min + i) p.1)
def agI (w : WatchW) (kn : List MsgW) (now : Int) (x : List PlW) (i : Nat) : Bool := plcB w kn now i (nP x i) && (decide (i = 0) || stpB w.s (nP x (i - 1)) (nP x i))
def knP (w : WatchW) (x : List PlW) (m : MsgW) : Bool := decide (nP x (m.t - w.min).toNat = (m.c, m.d))
def agB (w : WatchW) (kn : List MsgW) (now : Int) (x : List PlW) : Bool := (!(decide (x.length = 0) || decide (1440 < now)) && decide (nP x 0 = (w.cell, false))) && ((List.range x.length).all (agI w kn now x) && kn.all (knP w x))
structure PV (w : WatchW) (kn : List MsgW) (now : Int) (x : List PlW) : Prop where
 l : 1 ≤ x.length
 o : nP x 0 = (w.cell, false)
 a : ∀ i, i < x.length → agI w kn now x i = true
 k : ∀ m ∈ kn, (m.t - w.min).toNat < x.length → nP x (m.t - w.min).toNat = (m.c, m.d)
theorem pv_one {w : WatchW} (hw : WatchOk w) {kn : List MsgW} {now : Int} {p : PlW} : PV w kn now [p] ↔ p = (w.cell, false) ∧ ∀ m ∈ kn, (m.t - w.min).toNat = 0 → p = (m.c, m.d) := by
 constructor
 ·intro h
  exact ⟨h.o, fun m hm e => by have := h.k m hm (by rw [e]; simp); rw [e] at this; exact this⟩
 ·rintro ⟨rfl, h⟩
  have hu := hw.u
  have hs : sendsB w w.min = false := by simp [sendsB]
  refine ⟨by simp, rfl, fun i hi => ?_, fun m hm e => ?_⟩
  ·have : i = 0 := by simp at hi; exact hi
   subst this
   have hd : decide (w.endu < ((0 : Nat) : Int)) = false := by simp; omega
   have e : w.min + ((0 : Nat) : Int) = w.min := by simp
   have hn : nP [(w.cell, false)] 0 = (w.cell, false) := rfl
   simp only [agI, plcB, hn, hd, e, hs, hw.c]
   rfl
  ·have e : (m.t - w.min).toNat = 0 := by have e : (m.t - w.min).toNat < 1 := e; omega
   rw [e]
   exact h m hm e
theorem pv_snoc {w : WatchW} {kn : List MsgW} {now : Int} {y : List PlW} {p : PlW} (hy : 1 ≤ y.length) :
  PV w kn now (y ++ [p]) ↔ PV w kn now y ∧ plcB w kn now y.length p = true ∧ stpB w.s (nP y (y.length - 1)) p = true ∧ ∀ m ∈ kn, (m.t - w.min).toNat = y.length → p = (m.c, m.d) := by
 have hag : ∀ i, i < y.length → agI w kn now (y ++ [p]) i = agI w kn now y i := fun i hi => by
  unfold agI
  rw [nP_left hi, nP_left (by omega : i - 1 < y.length)]
 have hal : agI w kn now (y ++ [p]) y.length = (plcB w kn now y.length p && stpB w.s (nP y (y.length - 1)) p) := by
  unfold agI
  rw [nP_last, nP_left (by omega), decide_eq_false (by omega : ¬ y.length = 0), Bool.false_or]
 constructor
 ·intro h
  refine ⟨⟨hy, ?_, fun i hi => ?_, fun m hm e => ?_⟩, ?_⟩
  ·rw [← h.o, nP_left (by omega)]
  ·rw [← hag i hi]; exact h.a i (by simp; omega)
  ·rw [← h.k m hm (by simp; omega), nP_left e]
  ·have h1 := h.a y.length (by simp)
   rw [hal, Bool.and_eq_true] at h1
   refine ⟨h1.1, h1.2, fun m hm e => ?_⟩
   rw [← h.k m hm (by simp; omega), e, nP_last]
 ·rintro ⟨h, h1, h2, h3⟩
  refine ⟨by simp, ?_, fun i hi => ?_, fun m hm e => ?_⟩
  ·rw [nP_left (by omega), h.o]
  ·by_cases e : i < y.length
   ·rw [hag i e]; exact h.a i e
   ·have : i = y.length := by simp at hi; omega
    subst this
    rw [hal, h1, h2]; rfl
  ·by_cases e2 : (m.t - w.min).toNat < y.length
   ·rw [nP_left e2]; exact h.k m hm e2
   ·have e3 : (m.t - w.min).toNat = y.length := by simp at e; omega
    rw [e3, nP_last]; exact h3 m hm e3
theorem snoc_of {y : List PlW} (h : 1 ≤ y.length) : ∃ z p, y = z ++ [p] ∧ nP y (y.length - 1) = p := by
 have hlt : y.length - 1 < y.length := by omega
 refine ⟨y.take (y.length - 1), y[y.length - 1], ?_, ?_⟩
 ·have := List.take_append_getElem hlt
  rw [show y.length - 1 + 1 = y.length by omega, List.take_length] at this
  exact this.symm
 ·unfold nP
  simp [List.getElem?_eq_getElem hlt]
theorem pv_free {w : WatchW} {kn : List MsgW} {now : Int} {x : List PlW} (h : PV w kn now x) {i : Nat} (hi : i < x.length) : freeB w.s.sh (nP x i).1 = true := by
 have := h.a i hi
 simp only [agI, plcB, Bool.and_eq_true, Bool.not_eq_true', Bool.or_eq_false_iff, Bool.not_eq_false'] at this
 exact this.1.1.1
theorem said_iff {kn : List MsgW} {t c : Int} {d : Bool} : saidB kn t c d = true ↔ ∀ m ∈ kn, m.t = t → (c, d) = (m.c, m.d) := by
 rw [said_all, List.all_eq_true]
 refine ⟨fun h m hm e => ?_, fun h m hm => ?_⟩
 ·have := h m hm
  simp only [sayB, e, decide_true, Bool.true_and, Bool.not_eq_true', Bool.or_eq_false_iff, Bool.not_eq_false', decide_eq_true_eq, beq_iff_eq] at this
  rw [this.1, this.2]
 ·simp only [sayB, Bool.not_eq_true', Bool.and_eq_false_iff, decide_eq_false_iff_not]
  by_cases e : m.t = t
  ·right
   have := h m hm e
   simp only [Prod.mk.injEq] at this
   simp [this.1, this.2]
  ·exact .inl e
theorem dist_self (w c : Int) : distI w c c = 0 := by unfold distI; simp
theorem pl_courses {w : WatchW} (hw : WatchOk w) {kn : List MsgW} (hkn : ∀ m ∈ kn, w.min ≤ m.t) (now : Int) : ∀ (n : Nat) (c : Int),
  ((plF w kn now n).1 c = true ↔ ∃ x, x.length = n + 1 ∧ PV w kn now x ∧ nP x n = (c, false)) ∧ ((plF w kn now n).2 c = true ↔ ∃ x, x.length = n + 1 ∧ PV w kn now x ∧ nP x n = (c, true))
 | 0, c => by
  have one : ∀ x : List PlW, x.length = 0 + 1 → ∃ p, x = [p] := fun x h => List.length_eq_one_iff.1 (by omega)
  have ht : ∀ m ∈ kn, (m.t - w.min).toNat = 0 ↔ m.t = w.min := fun m hm => by have := hkn m hm; omega
  refine ⟨⟨fun h => ?_, ?_⟩, ⟨fun h => by simp [plF] at h, ?_⟩⟩
  ·simp only [plF, Bool.and_eq_true, decide_eq_true_eq] at h
   obtain ⟨rfl, h⟩ := h
   exact ⟨[(w.cell, false)], rfl, (pv_one hw).2 ⟨rfl, fun m hm e => said_iff.1 h m hm ((ht m hm).1 e)⟩, rfl⟩
  ·rintro ⟨x, h1, h2, h3⟩
   obtain ⟨p, rfl⟩ := one x h1
   have h3 : p = (c, false) := h3
   obtain ⟨h4, h5⟩ := (pv_one hw).1 h2
   rw [h3] at h4 h5
   simp only [Prod.mk.injEq, and_true] at h4
   simp only [plF, Bool.and_eq_true, decide_eq_true_eq]
   exact ⟨h4, said_iff.2 fun m hm e => h5 m hm ((ht m hm).2 e)⟩
  ·rintro ⟨x, h1, h2, h3⟩
   obtain ⟨p, rfl⟩ := one x h1
   have h3 : p = (c, true) := h3
   have h4 := ((pv_one hw).1 h2).1
   rw [h3] at h4; simp at h4
 | n + 1, c => by
  have ih := pl_courses hw hkn now n
  have hfree := pl_free hw kn now n
  have e1 : w.min + ((n + 1 : Nat) : Int) = w.min + ((n : Int) + 1) := by omega
  have e2 : ((n + 1 : Nat) : Int) = (n : Int) + 1 := by omega
  have ht : ∀ m ∈ kn, (m.t - w.min).toNat = n + 1 ↔ m.t = w.min + ((n : Int) + 1) := fun m hm => by have := hkn m hm; omega
  have split : ∀ p : PlW, (∃ x, x.length = n + 1 + 1 ∧ PV w kn now x ∧ nP x (n + 1) = p) ↔ ∃ b : PlW, (∃ y, y.length = n + 1 ∧ PV w kn now y ∧ nP y n = b) ∧ plcB w kn now (n + 1) p = true ∧ stpB w.s b p = true ∧ ∀ m ∈ kn, m.t = w.min + ((n : Int) + 1) → p = (m.c, m.d) := fun p => by
   constructor
   ·rintro ⟨x, h1, h2, h3⟩
    obtain ⟨y, q, rfl, hq⟩ := snoc_of (y := x) (by omega)
    have hyl : y.length = n + 1 := by simp at h1; omega
    have hqp : q = p := by rw [← h3, ← hyl, nP_last]
    subst hqp
    obtain ⟨g1, g2, g3, g4⟩ := (pv_snoc (by omega)).1 h2
    rw [hyl] at g2 g3 g4
    exact ⟨_, ⟨y, hyl, g1, rfl⟩, g2, g3, fun m hm e => g4 m hm ((ht m hm).2 e)⟩
   ·rintro ⟨b, ⟨y, h1, h2, h3⟩, h4, h5, h6⟩
    refine ⟨y ++ [p], by simp [h1], (pv_snoc (by omega)).2 ⟨h2, by rw [h1]; exact h4, by rw [h1]; exact h3 ▸ h5, fun m hm e => h6 m hm ((ht m hm).1 (by omega))⟩, ?_⟩
    rw [← h1, nP_last]
  rw [split, split]
  constructor
  ·simp only [plF, sil_eq, aF_arF hw.s hfree, Bool.and_eq_true]
   rw [said_iff, arF_iff]
   simp only [plcB, stpB, e1, e2]
   constructor
   ·rintro ⟨⟨⟨g1, g2, k, g3, g4, g5⟩, g6⟩, g7⟩
    refine ⟨(k, false), (ih k).1.1 g4, ?_, ?_, g6⟩
    ·simp only [Bool.not_eq_true', decide_eq_false_iff_not] at g1
     simp only [g2, Bool.not_true, Bool.false_or, Bool.not_false, Bool.true_and, decide_eq_false g1, Bool.true_and]
     exact g7
    ·have : ¬ 1 < distI w.s.w c k := by omega
     simp only [Bool.or_self, Bool.false_and, Bool.or_false, Bool.false_or, decide_eq_false this]
     rfl
   ·rintro ⟨⟨k, d⟩, g1, g2, g3, g4⟩
    cases d
    case true => simp at g3
    simp only [Bool.not_false, Bool.true_and, Bool.and_eq_true, Bool.not_eq_true', Bool.or_eq_false_iff, Bool.not_eq_false', decide_eq_false_iff_not] at g2
    simp only [Bool.or_self, Bool.false_and, Bool.or_false, Bool.false_or, Bool.not_eq_true', decide_eq_false_iff_not] at g3
    have gk := (ih k).1.2 g1
    refine ⟨⟨⟨by simp only [Bool.not_eq_true', decide_eq_false_iff_not]; exact g2.1.2, g2.1.1, k, free_ins (hfree k gk), gk, by first | (simp only [decide_eq_true_eq]; omega) | omega⟩, g4⟩, ?_⟩
    simp only [Bool.not_eq_true']
    exact g2.2
  ·simp only [plF, Bool.and_eq_true, Bool.or_eq_true]
   rw [said_iff, (ih c).1, (ih c).2]
   simp only [plcB, stpB, e1, e2]
   constructor
   ·rintro ⟨g1, g2⟩
    have hfr : freeB w.s.sh c = true ∧ ∃ d, ∃ y, y.length = n + 1 ∧ PV w kn now y ∧ nP y n = (c, d) := by
     rcases g1 with ⟨y, h1, h2, h3⟩ | ⟨y, h1, h2, h3⟩
     ·have := pv_free h2 (i := n) (by omega); rw [h3] at this; exact ⟨this, _, y, h1, h2, h3⟩
     ·have := pv_free h2 (i := n) (by omega); rw [h3] at this; exact ⟨this, _, y, h1, h2, h3⟩
    obtain ⟨hf, d, hy⟩ := hfr
    refine ⟨(c, d), hy, ?_, ?_, g2⟩
    ·simp only [hf]; rfl
    ·have : ¬ 1 < distI w.s.w c c := by rw [dist_self]; omega
     simp only [decide_eq_false this]
     cases d <;> simp
   ·rintro ⟨⟨k, d⟩, g1, g2, g3, g4⟩
    have hk : c = k := by
     simp only [Bool.or_true, Bool.true_and, Bool.not_true, Bool.and_false, Bool.or_false, Bool.not_eq_true', Bool.or_eq_false_iff, Bool.not_eq_false', decide_eq_true_eq] at g3
     exact g3.1
    subst hk
    refine ⟨?_, g4⟩
    cases d
    ·exact .inl g1
    ·exact .inr g1
theorem ag_iff {w : WatchW} {kn : List MsgW} {now : Int} (hn : now ≤ 1440) {x : List PlW} {n : Nat} (hx : x.length = n + 1) (hk : ∀ m ∈ kn, (m.t - w.min).toNat < n + 1) : agB w kn now x = true ↔ PV w kn now x := by
 simp only [agB, knP, Bool.and_eq_true, Bool.not_eq_true', Bool.or_eq_false_iff, decide_eq_false_iff_not, decide_eq_true_eq, List.all_eq_true, List.mem_range]
 constructor
 ·rintro ⟨⟨⟨h1, h2⟩, h3⟩, h4, h5⟩
  exact ⟨by omega, h3, h4, fun m hm _ => h5 m hm⟩
 ·intro h
  exact ⟨⟨⟨by omega, by omega⟩, h.o⟩, h.a, fun m hm => h.k m hm (by have := hk m hm; omega)⟩
end Go.Sx
