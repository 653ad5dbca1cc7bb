/- Own work: contracts of functions, used in the proof of a law. -/
import Derived.Test.YtjhoplbdpdbgaaaGreatDoorSxCe
set_option linter.unusedVariables false
set_option linter.unusedSimpArgs false
namespace Go.Sx
open Go.Proofs
set_option maxRecDepth 10000

def shortB (g : Ga) : Bool := decide (g.rs.length ≤ 40)
def tinyB (s : Se) : Bool := decide (s.depths.length ≤ 200) && (decide (s.boats.length ≤ 20) && (decide (s.glares.length ≤ 10) && (shortB s.w.tide && (shortB s.w.east && (shortB s.w.north && (shortB s.w.wave && shortB s.w.swell))))))
theorem tiny_t (s : Se) (gd : D) (h : SeL s gd) : Pure Tryz.prog 13 [.agg (s.c gd)] (.bool (tinyB s)) := by
  have vg := fun hp => En.view h.gd hp
  have lg := En.lt h.gd
  have hdl := fun hp => En.len (P := Tryz.prog) Fz.und_22 (En.sl_map (E := enS) s.depths) hp
  have hbl := fun hp => En.len (P := Tryz.prog) Fz.und_30 (En.sl_map (E := enBt) s.boats) hp
  have hgl := fun hp => En.len (P := Tryz.prog) Fz.und_31 h.gd hp
  have e1 : ((s.depths.length : Int) ≤ 200) = (s.depths.length ≤ 200) := by simp only [eq_iff_iff]; omega
  have e2 : ((s.boats.length : Int) ≤ 20) = (s.boats.length ≤ 20) := by simp only [eq_iff_iff]; omega
  have e3 : ((s.glares.length : Int) ≤ 10) = (s.glares.length ≤ 10) := by simp only [eq_iff_iff]; omega
  have k1 := gGa_eq (fun g => .bool (decide (g.rs.length ≤ 40))) s.w.tide.rate s.w.tide.least s.w.tide.most h.w.tide
  have k2 := gGa_eq (fun g => .bool (decide (g.rs.length ≤ 40))) s.w.east.rate s.w.east.least s.w.east.most h.w.east
  have k3 := gGa_eq (fun g => .bool (decide (g.rs.length ≤ 40))) s.w.north.rate s.w.north.least s.w.north.most h.w.north
  have k4 := gGa_eq (fun g => .bool (decide (g.rs.length ≤ 40))) s.w.wave.rate s.w.wave.least s.w.wave.most h.w.wave
  have k5 := gGa_eq (fun g => .bool (decide (g.rs.length ≤ 40))) s.w.swell.rate s.w.swell.least s.w.swell.most h.w.swell
  refine pure_of_wc (rs := [.tmp 2]) (m := 50) [] o38_ok (by kernel_rfl) Tryz.func13 rfl (by kernel_rfl) rfl rfl (by kernel_rfl) ?_
  by_cases q1 : s.depths.length ≤ 200
  rotate_left
  · simp only [FS, ↓RE, okR, argEnv, Nat.reduceAdd, Nat.reduceSub, Nat.reduceLT, Nat.reduceLeDiff, Nat.reduceEqDiff, reduceIte, hdl, e1, q1, decide_false]
    simp [tinyB, q1]
  by_cases q2 : s.boats.length ≤ 20
  rotate_left
  · simp only [FS, ↓RE, okR, argEnv, Nat.reduceAdd, Nat.reduceSub, Nat.reduceLT, Nat.reduceLeDiff, Nat.reduceEqDiff, reduceIte, hdl, e1, q1, decide_true, decide_false, hbl, e2, q2]
    simp [tinyB, q2]
  by_cases q3 : s.glares.length ≤ 10
  rotate_left
  · simp only [FS, ↓RE, okR, argEnv, Nat.reduceAdd, Nat.reduceSub, Nat.reduceLT, Nat.reduceLeDiff, Nat.reduceEqDiff, reduceIte, hdl, e1, q1, decide_true, decide_false, hbl, e2, q2, hgl, e3, q3]
    simp [tinyB, q3]
  by_cases w1 : s.w.tide.rs.length ≤ 40
  rotate_left
  · simp only [FS, ↓RE, okR, argEnv, Nat.reduceAdd, Nat.reduceSub, Nat.reduceLT, Nat.reduceLeDiff, Nat.reduceEqDiff, reduceIte, hdl, e1, q1, decide_true, decide_false, hbl, e2, q2, hgl, e3, q3, k1, w1]
    simp [tinyB, shortB, w1]
  by_cases w2 : s.w.east.rs.length ≤ 40
  rotate_left
  · simp only [FS, ↓RE, okR, argEnv, Nat.reduceAdd, Nat.reduceSub, Nat.reduceLT, Nat.reduceLeDiff, Nat.reduceEqDiff, reduceIte, hdl, e1, q1, decide_true, decide_false, hbl, e2, q2, hgl, e3, q3, k1, w1, k2, w2]
    simp [tinyB, shortB, w2]
  by_cases w3 : s.w.north.rs.length ≤ 40
  rotate_left
  · simp only [FS, ↓RE, okR, argEnv, Nat.reduceAdd, Nat.reduceSub, Nat.reduceLT, Nat.reduceLeDiff, Nat.reduceEqDiff, reduceIte, hdl, e1, q1, decide_true, decide_false, hbl, e2, q2, hgl, e3, q3, k1, w1, k2, w2, k3, w3]
    simp [tinyB, shortB, w3]
  by_cases w4 : s.w.wave.rs.length ≤ 40
  rotate_left
  · simp only [FS, ↓RE, okR, argEnv, Nat.reduceAdd, Nat.reduceSub, Nat.reduceLT, Nat.reduceLeDiff, Nat.reduceEqDiff, reduceIte, hdl, e1, q1, decide_true, decide_false, hbl, e2, q2, hgl, e3, q3, k1, w1, k2, w2, k3, w3, k4, w4]
    simp [tinyB, shortB, w4]
  by_cases w5 : s.w.swell.rs.length ≤ 40
  · simp only [FS, ↓RE, okR, argEnv, Nat.reduceAdd, Nat.reduceSub, Nat.reduceLT, Nat.reduceLeDiff, Nat.reduceEqDiff, reduceIte, hdl, e1, q1, decide_true, decide_false, hbl, e2, q2, hgl, e3, q3, k1, w1, k2, w2, k3, w3, k4, w4, k5, w5]
    simp [tinyB, shortB, q1, q2, q3, w1, w2, w3, w4, w5]
  · simp only [FS, ↓RE, okR, argEnv, Nat.reduceAdd, Nat.reduceSub, Nat.reduceLT, Nat.reduceLeDiff, Nat.reduceEqDiff, reduceIte, hdl, e1, q1, decide_true, decide_false, hbl, e2, q2, hgl, e3, q3, k1, w1, k2, w2, k3, w3, k4, w4, k5, w5]
    simp [tinyB, shortB, w5]

/-! Types of arguments -/
theorem tyBt {n : Nat} {ds : List D} (h : TyD Tryz.prog n 72 ds) : ∃ b : Bt, ds = enBt.d b := by
  obtain ⟨hl, m, hf⟩ := tySt Tryz.underlying72 (by decide +kernel) h
  obtain ⟨a, b, c, d, e, f, g, rfl⟩ : ∃ a b c d e f g, ds = [a, b, c, d, e, f, g] := by
    match ds, hl.trans (by kernel_rfl : _ = 7) with
    | [a, b, c, d, e, f, g], _ => exact ⟨a, b, c, d, e, f, g, rfl⟩
  obtain ⟨x1, x2, hx⟩ := tySpan (hf 0 _ rfl)
  obtain ⟨y1, y2, hy⟩ := tySpan (hf 1 _ rfl)
  obtain ⟨z1, z2, hz⟩ := tySpan (hf 2 _ rfl)
  obtain ⟨s, hs⟩ := tyBool Fz.und_4 (hf 3 _ rfl)
  cases hx; cases hy; cases hz; cases hs
  exact ⟨⟨(x1, x2), (y1, y2), (z1, z2), s⟩, rfl⟩
theorem tyGl {n : Nat} {ds : List D} (h : TyD Tryz.prog n 106 ds) : ∃ b : Gl, ds = enGl.d b := by
  obtain ⟨hl, m, hf⟩ := tySt Tryz.underlying106 (by decide +kernel) h
  obtain ⟨a, b, c, rfl⟩ := list3 (hl.trans (by kernel_rfl))
  obtain ⟨x, hx, _⟩ := tyInt Fz.und_44 (hf 0 _ rfl)
  obtain ⟨z1, z2, hz⟩ := tySpan (hf 1 _ rfl)
  cases hx; cases hz
  exact ⟨⟨x, (z1, z2)⟩, rfl⟩
theorem tySp {n : Nat} {ds : List D} (h : TyD Tryz.prog n 46 ds) : ∃ p : Sp, ds = p.c := by
  obtain ⟨hl, m, hf⟩ := tySt Tryz.underlying46 (by decide +kernel) h
  obtain ⟨a, b, c, d, rfl⟩ := list4 (hl.trans (by kernel_rfl))
  obtain ⟨x, hx, _⟩ := tyInt Fz.und_3 (hf 0 _ rfl)
  obtain ⟨y, hy, _⟩ := tyInt Fz.und_3 (hf 1 _ rfl)
  obtain ⟨z, hz, _⟩ := tyInt Fz.und_44 (hf 2 _ rfl)
  obtain ⟨w, hw, _⟩ := tyInt Fz.und_3 (hf 3 _ rfl)
  cases hx; cases hy; cases hz; cases hw
  exact ⟨⟨x, y, z, w⟩, rfl⟩
theorem tyNd {n : Nat} {ds : List D} (h : TyD Tryz.prog n 36 ds) : ∃ p : Nd, ds = p.c := by
  obtain ⟨hl, m, hf⟩ := tySt Tryz.underlying36 (by decide +kernel) h
  obtain ⟨a, b, c, d, e, f, g, rfl⟩ : ∃ a b c d e f g, ds = [a, b, c, d, e, f, g] := by
    match ds, hl.trans (by kernel_rfl : _ = 7) with
    | [a, b, c, d, e, f, g], _ => exact ⟨a, b, c, d, e, f, g, rfl⟩
  obtain ⟨x0, h0, _⟩ := tyInt Fz.und_3 (hf 0 _ rfl)
  obtain ⟨x1, h1, _⟩ := tyInt Fz.und_3 (hf 1 _ rfl)
  obtain ⟨x2, h2, _⟩ := tyInt Fz.und_3 (hf 2 _ rfl)
  obtain ⟨x3, h3, _⟩ := tyInt Fz.und_3 (hf 3 _ rfl)
  obtain ⟨x4, h4, _⟩ := tyInt Fz.und_3 (hf 4 _ rfl)
  obtain ⟨x5, h5, _⟩ := tyInt Fz.und_3 (hf 5 _ rfl)
  obtain ⟨x6, h6, _⟩ := tyInt Fz.und_3 (hf 6 _ rfl)
  cases h0; cases h1; cases h2; cases h3; cases h4; cases h5; cases h6
  exact ⟨⟨x0, x1, x2, x3, x4, x5, x6⟩, rfl⟩
theorem tyEn {α : Type} {E : En α} {n : Nat} {t e : TypeId} {ds : List D} (hu : (Tryz.prog).underlying t = some (.slice e)) (hz : (Tryz.prog).cellsOf e ≠ 0) (he : ∀ m c, TyD Tryz.prog m e c → ∃ a, c = E.d a) (h : TyD Tryz.prog n t ds) : ∃ l : List α, ds = [.sl (l.map E.d)] ∧ l.length ≤ 9223372036854775807 := by
  obtain ⟨es, m, hs, hle, hc⟩ := tySl hu hz h
  obtain ⟨l, rfl⟩ := list_map (f := E.d) fun c hcm => he m c (hc c hcm).2
  have : maxLen ≤ 9223372036854775807 := by decide
  simp at hle
  exact ⟨l, hs, Nat.le_trans hle this⟩
theorem tySpan' {n : Nat} {ds : List D} (h : TyD Tryz.prog n 70 ds) : ∃ a, ds = enS.d a := by
  obtain ⟨a, b, h⟩ := tySpan h
  exact ⟨(a, b), h⟩
end Go.Sx
