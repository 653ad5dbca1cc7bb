/- Own work: a calculus of contracts for the programs of this kit: parts SxN21z, SxN22z, SxN23z. -/
import Derived.Test.YtjhoplbdpdbgaaaGreatDoorSxN20z
import Derived.Test.YtjhoplbdpdbgaaaGreatDoorSxC3z
import Derived.Test.YtjhoplbdpdbgaaaGreatDoorSxKkz
import Derived.Test.YtjhoplbdpdbgaaaGreatDoorSxN15z
set_option linter.unusedVariables false
set_option linter.unusedSimpArgs false
namespace Go.Sx
open Go.Proofs Go.Lib
set_option maxRecDepth 10000

instance decRdE : DecidableEq Rd := fun r s => decidable_of_iff (r.minute = s.minute ∧ r.lo = s.lo ∧ r.hi = s.hi ∧ r.src = s.src) ⟨fun h => by
 obtain ⟨a, b, c, d⟩ := r
 obtain ⟨a', b', c', d'⟩ := s
 simp only at h
 obtain ⟨rfl, rfl, rfl, rfl⟩ := h
 rfl, fun h => by subst h; exact ⟨rfl, rfl, rfl, rfl⟩⟩
instance decGaE : DecidableEq Ga := fun r s => decidable_of_iff (r.rate = s.rate ∧ r.least = s.least ∧ r.most = s.most ∧ r.rs = s.rs) ⟨fun h => by
 obtain ⟨a, b, c, d⟩ := r
 obtain ⟨a', b', c', d'⟩ := s
 simp only at h
 obtain ⟨rfl, rfl, rfl, rfl⟩ := h
 rfl, fun h => by subst h; exact ⟨rfl, rfl, rfl, rfl⟩⟩
theorem ga_ext {r s : Ga} : r = s ↔ (r.rate = s.rate ∧ r.least = s.least ∧ r.most = s.most ∧ r.rs = s.rs) := ⟨fun h => by subst h; exact ⟨rfl, rfl, rfl, rfl⟩, fun h => by
 obtain ⟨a, b, c, d⟩ := r
 obtain ⟨a', b', c', d'⟩ := s
 simp only at h
 obtain ⟨rfl, rfl, rfl, rfl⟩ := h
 rfl⟩
theorem rd_ne0 (a b c d a' b' c' d' : Int) : binD Tryz.prog .neq 75 (.agg [.int .i64 a, .int .i64 b, .int .i64 c, .int .i64 d]) (.agg [.int .i64 a', .int .i64 b', .int .i64 c', .int .i64 d']) = some (.bool (!(a == a' && (((b == b' && (c == c' && true))) && (d == d' && true))))) := by kernel_rfl
theorem rd_ne (r s : Rd) : binD Tryz.prog .neq 75 (.agg r.d) (.agg s.d) = some (.bool (!(decide (r = s)))) := by
 have h : decide (r = s) = decide (r.minute = s.minute ∧ r.lo = s.lo ∧ r.hi = s.hi ∧ r.src = s.src) := by
  congr 1
  exact propext ⟨fun h => by subst h; exact ⟨rfl, rfl, rfl, rfl⟩, fun h => by
   obtain ⟨a, b, c, d⟩ := r
   obtain ⟨a', b', c', d'⟩ := s
   simp only at h
   obtain ⟨rfl, rfl, rfl, rfl⟩ := h
   rfl⟩
 rw [h]
 refine (rd_ne0 _ _ _ _ _ _ _ _).trans ?_
 congr 3
 rw [Bool.eq_iff_iff]
 simp [and_assoc]
theorem take_eq_snoc {α : Type} {a b : List α} {i : Nat} {x y : α} (h : a.take i = b.take i) (hx : a[i]? = some x) (hy : b[i]? = some y) (e : x = y) : a.take (i + 1) = b.take (i + 1) := by
 rw [List.take_add_one, List.take_add_one, h, hx, hy, e]
theorem sameGauge_t (a b : Ga) (ha : a.rs.length ≤ 1000000) (hb : b.rs.length ≤ 1000000) : Pure Tryz.prog 102 [.agg a.c, .agg b.c] (.bool (decide (a = b))) := by
 have hext := ga_ext (r := a) (s := b)
 obtain ⟨a0, a1, a2, ra⟩ := a
 obtain ⟨b0, b1, b2, rb⟩ := b
 dsimp only at ha hb hext
 generalize hX : decide ((⟨a0, a1, a2, ra⟩ : Ga) = ⟨b0, b1, b2, rb⟩) = X
 have hX1 : (a0 = b0 ∧ a1 = b1 ∧ a2 = b2 ∧ ra = rb) → X = true := fun h => by rw [← hX]; exact decide_eq_true (hext.2 h)
 have hX0 : ¬ (a0 = b0 ∧ a1 = b1 ∧ a2 = b2 ∧ ra = rb) → X = false := fun h => by rw [← hX]; exact decide_eq_false (fun e => h (hext.1 e))
 clear hX hext
 simp only [Ga.c]
 refine pure_of_pieces (rs := [.tmp 4]) (m := 52) [(6, [(11, false, false, [])])] oNone_ok (by kernel_rfl) Tryz.func102 rfl (by kernel_rfl) rfl rfl (by kernel_rfl) ?_
 refine awp_peel (T := []) oNone_ok (by kernel_rfl) (by kernel_rfl) ?_
 simp only [FS, ↓RE, okR, argEnv, Nat.reduceAdd, Nat.reduceSub, Nat.reduceLT, Nat.reduceLeDiff, Nat.reduceEqDiff, reduceIte, RT, RM]
 refine awp_peel (T := []) oNone_ok (by kernel_rfl) (by kernel_rfl) ?_
 by_cases h0 : a0 = b0
 rotate_left
 ·have q : (a0 != b0) = true := by simp [h0]
  simp only [FS, ↓RE, okR, argEnv, Nat.reduceAdd, Nat.reduceSub, Nat.reduceLT, Nat.reduceLeDiff, Nat.reduceEqDiff, reduceIte, RT, RM, q]
  rw [hX0 (fun h => h0 h.1)]
 have q0 : (a0 != b0) = false := by simp [h0]
 by_cases h1 : a1 = b1
 rotate_left
 ·have q : (a1 != b1) = true := by simp [h1]
  simp only [FS, ↓RE, okR, argEnv, Nat.reduceAdd, Nat.reduceSub, Nat.reduceLT, Nat.reduceLeDiff, Nat.reduceEqDiff, reduceIte, RT, RM, q0, q]
  rw [hX0 (fun h => h1 h.2.1)]
 have q1 : (a1 != b1) = false := by simp [h1]
 by_cases h2 : a2 = b2
 rotate_left
 ·have q : (a2 != b2) = true := by simp [h2]
  simp only [FS, ↓RE, okR, argEnv, Nat.reduceAdd, Nat.reduceSub, Nat.reduceLT, Nat.reduceLeDiff, Nat.reduceEqDiff, reduceIte, RT, RM, q0, q1, q]
  rw [hX0 (fun h => h2 h.2.2.1)]
 have q2 : (a2 != b2) = false := by simp [h2]
 by_cases h3 : ra.length = rb.length
 rotate_left
 ·have q : ((ra.length : Int) != (rb.length : Int)) = true := by simp; omega
  simp only [FS, ↓RE, okR, argEnv, Nat.reduceAdd, Nat.reduceSub, Nat.reduceLT, Nat.reduceLeDiff, Nat.reduceEqDiff, reduceIte, RT, RM, q0, q1, q2, List.length_map, q]
  rw [hX0 (fun h => h3 (by rw [h.2.2.2]))]
 have q3 : ((ra.length : Int) != (rb.length : Int)) = false := by simp; omega
 simp only [FS, ↓RE, okR, argEnv, Nat.reduceAdd, Nat.reduceSub, Nat.reduceLT, Nat.reduceLeDiff, Nat.reduceEqDiff, reduceIte, RT, RM, q0, q1, q2, List.length_map, q3]
 refine awp_peel (T := []) oNone_ok (by kernel_rfl) (by kernel_rfl) ?_
 simp only [FS, ↓RE, okR, argEnv, Nat.reduceAdd, Nat.reduceSub, Nat.reduceLT, Nat.reduceLeDiff, Nat.reduceEqDiff, reduceIte, RT, RM]
 refine loopV (ι := Nat) oNone_ok [(6, [(11, false, false, [])])] (fun i => [(2, .ptr 0 0), (3, .ptr 1 0), (5, .int .i64 (i : Int))]) (fun _ => [(1, .box [.int .i64 b0, .int .i64 b1, .int .i64 b2, .sl (rb.map Rd.d)]), (0, .box [.int .i64 a0, .int .i64 a1, .int .i64 a2, .sl (ra.map Rd.d)])]) 2
  (fun i => i ≤ ra.length ∧ ra.take i = rb.take i) (fun i => ra.length - i) 0 (by kernel_rfl) (by kernel_rfl) ⟨Nat.zero_le _, rfl⟩ ?_ ?_
 ·simp [headW, heapW, envW, blkLt, D.ltL, D.lt, look, hget]
 rintro i ⟨hil, hti⟩
 rcases Nat.lt_or_ge i ra.length with hlt | hge
 ·have hc := natT hlt
  obtain ⟨x, hx⟩ : ∃ r, ra[i]? = some r := ⟨ra[i], by simp [hlt]⟩
  obtain ⟨y, hy⟩ : ∃ r, rb[i]? = some r := ⟨rb[i]'(by omega), by simp⟩
  have ix1 := fun h => ix_rd (t := 25) Fz.und_25 Fz.size_75 hx h
  have ix2 := fun h => ix_rd (t := 25) Fz.und_25 Fz.size_75 hy h
  have hn := rd_ne x y
  have hw1 := wrap_i64 (z := (i : Int) + 1) (by omega) (by omega)
  obtain ⟨x0, x1, x2, x3⟩ := x
  obtain ⟨y0, y1, y2, y3⟩ := y
  by_cases e : (⟨x0, x1, x2, x3⟩ : Rd) = ⟨y0, y1, y2, y3⟩
  ·rw [decide_eq_true e] at hn
   simp only [Rd.d] at hn ix1 ix2
   simp only [FS, ↓RE, okR, argEnv, Nat.reduceAdd, Nat.reduceSub, Nat.reduceLT, Nat.reduceLeDiff, Nat.reduceEqDiff, reduceIte, RT, RM, List.length_map, hc, decide_true, ix1, ix2, hn, hw1, Bool.not_true]
   exact ⟨i + 1, ⟨by omega, take_eq_snoc hti hx hy e⟩, by omega, by simp [headW, heapW, envW, blkLt, D.ltL, D.lt, look, hget]⟩
  ·rw [decide_eq_false e] at hn
   simp only [Rd.d] at hn ix1 ix2
   simp only [FS, ↓RE, okR, argEnv, Nat.reduceAdd, Nat.reduceSub, Nat.reduceLT, Nat.reduceLeDiff, Nat.reduceEqDiff, reduceIte, RT, RM, List.length_map, hc, decide_true, ix1, ix2, hn, hw1, Bool.not_false]
   rw [hX0 (fun h => e (by rw [h.2.2.2, hy] at hx; exact (Option.some.inj hx).symm))]
 have hc := natF hge
 have : i = ra.length := by omega
 subst this
 rw [List.take_length, h3, List.take_length] at hti
 simp only [FS, ↓RE, okR, argEnv, Nat.reduceAdd, Nat.reduceSub, Nat.reduceLT, Nat.reduceLeDiff, Nat.reduceEqDiff, reduceIte, RT, RM, List.length_map, hc, decide_false]
 refine awp_rest (T := []) oNone_ok (by kernel_rfl) (by kernel_rfl) ?_
 simp only [FS, ↓RE, okR, argEnv, Nat.reduceAdd, Nat.reduceSub, Nat.reduceLT, Nat.reduceLeDiff, Nat.reduceEqDiff, reduceIte, RT, RM]
 rw [hX1 ⟨h0, h1, h2, hti⟩]
def sameWx (a b : Wx) : Bool := decide (a.tide = b.tide) && (decide (a.east = b.east) && (decide (a.north = b.north) && (decide (a.wave = b.wave) && decide (a.swell = b.swell))))
structure WxS (w : Wx) : Prop where
 tide : w.tide.rs.length ≤ 1000000
 east : w.east.rs.length ≤ 1000000
 north : w.north.rs.length ≤ 1000000
 wave : w.wave.rs.length ≤ 1000000
 swell : w.swell.rs.length ≤ 1000000
theorem sameWx_iff (a b : Wx) : sameWx a b = true ↔ a = b := by
 unfold sameWx
 simp only [Bool.and_eq_true, decide_eq_true_eq]
 constructor
 ·rintro ⟨h1, h2, h3, h4, h5⟩
  obtain ⟨a1, a2, a3, a4, a5⟩ := a
  obtain ⟨b1, b2, b3, b4, b5⟩ := b
  simp only at h1 h2 h3 h4 h5
  subst h1 h2 h3 h4 h5
  rfl
 ·rintro rfl; exact ⟨rfl, rfl, rfl, rfl, rfl⟩
theorem SameWeather_t (a b : Wx) (ha : WxS a) (hb : WxS b) : Pure Tryz.prog 45 [.agg (a.c []), .agg (b.c [])] (.bool (sameWx a b)) := by
 have p1 := sameGauge_t a.tide b.tide ha.tide hb.tide
 have p2 := sameGauge_t a.east b.east ha.east hb.east
 have p3 := sameGauge_t a.north b.north ha.north hb.north
 have p4 := sameGauge_t a.wave b.wave ha.wave hb.wave
 have p5 := sameGauge_t a.swell b.swell ha.swell hb.swell
 have hR : sameWx a b = (decide (a.tide = b.tide) && (decide (a.east = b.east) && (decide (a.north = b.north) && (decide (a.wave = b.wave) && decide (a.swell = b.swell))))) := rfl
 generalize sameWx a b = RR at *
 generalize decide (a.tide = b.tide) = r1 at *
 generalize decide (a.east = b.east) = r2 at *
 generalize decide (a.north = b.north) = r3 at *
 generalize decide (a.wave = b.wave) = r4 at *
 generalize decide (a.swell = b.swell) = r5 at *
 simp only [Ga.c] at p1 p2 p3 p4 p5
 simp only [Wx.c, gaC]
 refine pure_of_pieces (rs := [.tmp 4]) (m := 38) [] oNone_ok (by kernel_rfl) Tryz.func45 rfl (by kernel_rfl) rfl rfl (by kernel_rfl) ?_
 refine awp_peel (T := []) oNone_ok (by kernel_rfl) (by kernel_rfl) ?_
 simp only [FS, ↓RE, okR, argEnv, Nat.reduceAdd, Nat.reduceSub, Nat.reduceLT, Nat.reduceLeDiff, Nat.reduceEqDiff, reduceIte, RT, RM]
 refine awp_rest (T := []) oNone_ok (by kernel_rfl) (by kernel_rfl) ?_
 simp only [FS, ↓RE, okR, argEnv, Nat.reduceAdd, Nat.reduceSub, Nat.reduceLT, Nat.reduceLeDiff, Nat.reduceEqDiff, reduceIte, RT, RM]
 refine call_of_pure p1 rfl ?_
 cases r1
 ·simp only [FS, ↓RE, okR, argEnv, Nat.reduceAdd, Nat.reduceSub, Nat.reduceLT, Nat.reduceLeDiff, Nat.reduceEqDiff, reduceIte, RT, RM]
  rw [hR]; rfl
 simp only [FS, ↓RE, okR, argEnv, Nat.reduceAdd, Nat.reduceSub, Nat.reduceLT, Nat.reduceLeDiff, Nat.reduceEqDiff, reduceIte, RT, RM]
 refine call_of_pure p2 rfl ?_
 cases r2
 ·simp only [FS, ↓RE, okR, argEnv, Nat.reduceAdd, Nat.reduceSub, Nat.reduceLT, Nat.reduceLeDiff, Nat.reduceEqDiff, reduceIte, RT, RM]
  rw [hR]; rfl
 simp only [FS, ↓RE, okR, argEnv, Nat.reduceAdd, Nat.reduceSub, Nat.reduceLT, Nat.reduceLeDiff, Nat.reduceEqDiff, reduceIte, RT, RM]
 refine call_of_pure p3 rfl ?_
 cases r3
 ·simp only [FS, ↓RE, okR, argEnv, Nat.reduceAdd, Nat.reduceSub, Nat.reduceLT, Nat.reduceLeDiff, Nat.reduceEqDiff, reduceIte, RT, RM]
  rw [hR]; rfl
 simp only [FS, ↓RE, okR, argEnv, Nat.reduceAdd, Nat.reduceSub, Nat.reduceLT, Nat.reduceLeDiff, Nat.reduceEqDiff, reduceIte, RT, RM]
 refine call_of_pure p4 rfl ?_
 cases r4
 ·simp only [FS, ↓RE, okR, argEnv, Nat.reduceAdd, Nat.reduceSub, Nat.reduceLT, Nat.reduceLeDiff, Nat.reduceEqDiff, reduceIte, RT, RM]
  rw [hR]; rfl
 simp only [FS, ↓RE, okR, argEnv, Nat.reduceAdd, Nat.reduceSub, Nat.reduceLT, Nat.reduceLeDiff, Nat.reduceEqDiff, reduceIte, RT, RM]
 refine call_of_pure p5 rfl ?_
 simp only [FS, ↓RE, okR, argEnv, Nat.reduceAdd, Nat.reduceSub, Nat.reduceLT, Nat.reduceLeDiff, Nat.reduceEqDiff, reduceIte, RT, RM]
 rw [hR]; rfl
end Go.Sx

namespace Go.Sx
open Go.Proofs Go.Lib
set_option maxRecDepth 10000
variable {w0 : World}

theorem ga_sm {g : Ga} (h : gaOk g = true) : smG g ∧ g.rs.length ≤ 30 := by
 simp only [gaOk, Bool.and_eq_true, List.all_eq_true, bIn, bSpan, decide_eq_true_eq] at h
 obtain ⟨h1, h2⟩ := h
 refine ⟨⟨by unfold smN; omega, by unfold smN; omega, by unfold smN; omega, fun r hr => ?_⟩, h2.2.2⟩
 have h3 := h1 r hr
 simp only [rdOk, Bool.and_eq_true, bIn, bSpan, decide_eq_true_eq] at h3
 exact ⟨by unfold smN; omega, by unfold smN; omega, by unfold smN; omega, by unfold smN; omega⟩
theorem ok_gs {w : Wx} (h : okWx w = true) : GsOk w.gs := by
 simp only [okWx, okB2, Bool.and_eq_true] at h
 refine ⟨rfl, fun g hg => ?_⟩
 simp only [Wx.gs, List.mem_cons, List.not_mem_nil, or_false] at hg
 rcases hg with rfl | rfl | rfl | rfl | rfl
 ·exact ga_sm h.1.1
 ·exact ga_sm h.2.1.1
 ·exact ga_sm h.2.2.1.1
 ·exact ga_sm h.2.2.2.1.1
 ·exact ga_sm h.2.2.2.2.1
end Go.Sx

namespace Go.Sx
open Go.Proofs Go.Lib
set_option maxRecDepth 10000
variable {w0 : World}

end Go.Sx
