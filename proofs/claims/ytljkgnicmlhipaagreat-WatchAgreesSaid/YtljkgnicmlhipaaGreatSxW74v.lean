/- Own work: contracts of functions, used in the proof of a law. -/
import Derived.Test.YtljkgnicmlhipaaGreatSxW72v
set_option linter.unusedVariables false
set_option linter.unusedSimpArgs false
namespace Go.Sx
open Go.Proofs
set_option maxRecDepth 10000

abbrev PlW := Int × Bool
def nP (x : List PlW) (i : Nat) : PlW := x[i]?.getD (0, false)
theorem nP_get {x : List PlW} {i : Nat} (h : i < x.length) : x[i]? = some (nP x i) := by
 unfold nP; simp [List.getElem?_eq_getElem h]
def stpB (s : SkyW) (b p : PlW) : Bool := !((((b.2 || p.2) && !(decide (p.1 = b.1))) || (b.2 && !p.2)) || decide (1 < distI s.w p.1 b.1))
def plcB (w : WatchW) (kn : List MsgW) (now : Int) (i : Nat) (p : PlW) : Bool := !(!(freeB w.s.sh p.1) || (!p.2 && decide (w.endu < (i : Int)))) && !((!p.2 && sendsB w (w.min + i)) && silX w kn now (w.min + i) p.1)
def agI (w : WatchW) (kn : List MsgW) (now : Int) (x : List PlW) (i : Nat) : Bool := plcB w kn now i (nP x i) && (decide (i = 0) || stpB w.s (nP x (i - 1)) (nP x i))
def knP (w : WatchW) (x : List PlW) (m : MsgW) : Bool := decide (nP x (m.t - w.min).toNat = (m.c, m.d))
def agB (w : WatchW) (kn : List MsgW) (now : Int) (x : List PlW) : Bool := (!(decide (x.length = 0) || decide (1440 < now)) && decide (nP x 0 = (w.cell, false))) && ((List.range x.length).all (agI w kn now x) && kn.all (knP w x))
structure PV (w : WatchW) (kn : List MsgW) (now : Int) (x : List PlW) : Prop where
 l : 1 ≤ x.length
 o : nP x 0 = (w.cell, false)
 a : ∀ i, i < x.length → agI w kn now x i = true
 k : ∀ m ∈ kn, (m.t - w.min).toNat < x.length → nP x (m.t - w.min).toNat = (m.c, m.d)
theorem said_iff {kn : List MsgW} {t c : Int} {d : Bool} : saidB kn t c d = true ↔ ∀ m ∈ kn, m.t = t → (c, d) = (m.c, m.d) := by
 rw [said_all, List.all_eq_true]
 refine ⟨fun h m hm e => ?_, fun h m hm => ?_⟩
 ·have := h m hm
  simp only [sayB, e, decide_true, Bool.true_and, Bool.not_eq_true', Bool.or_eq_false_iff, Bool.not_eq_false', decide_eq_true_eq, beq_iff_eq] at this
  rw [this.1, this.2]
 ·simp only [sayB, Bool.not_eq_true', Bool.and_eq_false_iff, decide_eq_false_iff_not]
  by_cases e : m.t = t
  ·right
   have := h m hm e
   simp only [Prod.mk.injEq] at this
   simp [this.1, this.2]
  ·exact .inl e
theorem dist_self (w c : Int) : distI w c c = 0 := by unfold distI; simp
theorem ag_iff {w : WatchW} {kn : List MsgW} {now : Int} (hn : now ≤ 1440) {x : List PlW} {n : Nat} (hx : x.length = n + 1) (hk : ∀ m ∈ kn, (m.t - w.min).toNat < n + 1) : agB w kn now x = true ↔ PV w kn now x := by
 simp only [agB, knP, Bool.and_eq_true, Bool.not_eq_true', Bool.or_eq_false_iff, decide_eq_false_iff_not, decide_eq_true_eq, List.all_eq_true, List.mem_range]
 constructor
 ·rintro ⟨⟨⟨h1, h2⟩, h3⟩, h4, h5⟩
  exact ⟨by omega, h3, h4, fun m hm _ => h5 m hm⟩
 ·intro h
  exact ⟨⟨⟨by omega, by omega⟩, h.o⟩, h.a, fun m hm => h.k m hm (by have := hk m hm; omega)⟩
end Go.Sx
