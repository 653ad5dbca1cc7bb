/- Own work: a calculus of contracts for the programs of this kit: parts SxC26z, SxC27z, SxC28z, SxC29z. -/
import Derived.Test.YtjhoplbdpdbgaaaGreatDoorSxCb
set_option linter.unusedVariables false
set_option linter.unusedSimpArgs false
namespace Go.Sx
open Go.Proofs
set_option maxRecDepth 10000

def decLk (cs : List D) : Option Lk :=
  match decSeR cs with
  | some (s, gd, [.int .i64 x, .int .i64 y, .int .i64 w, .int .i64 c, .int .i64 a, .int .i64 b, .int .i64 d, .int .i64 e, .int .i64 f, .int .i64 g, .int .i64 h, .int .i64 t]) => some ⟨s, gd, ⟨x, y, w, c⟩, ⟨a, b, d, e, f, g, h⟩, t⟩
  | _ => none
theorem decLk_eq (l : Lk) (h : enGl.sl l.gd = some l.s.glares) : decLk l.c = some l := by
  simp only [decLk, Lk.c, decSeR_eq h]
theorem decLk_inv {cs : List D} {l : Lk} (h : decLk cs = some l) : cs = l.c ∧ enGl.sl l.gd = some l.s.glares := by
  unfold decLk at h
  split at h
  · rename_i h1
    cases h
    exact decSeR_inv h1
  · cases h
def decL0 : List D → Option Lk
  | [.agg cs] => decLk cs
  | _ => none
theorem decL0_eq (l : Lk) (h : enGl.sl l.gd = some l.s.glares) : decL0 [.agg l.c] = some l := decLk_eq l h
theorem decL0_inv {ds : List D} {l : Lk} (h : decL0 ds = some l) : ds = [.agg l.c] ∧ enGl.sl l.gd = some l.s.glares := by
  unfold decL0 at h
  split at h
  · obtain ⟨a, b⟩ := decLk_inv h
    exact ⟨by rw [a], b⟩
  · cases h
def decL1 : List D → Option (Lk × Int)
  | [.agg cs, .int .i64 i] => match decLk cs with
    | some l => some (l, i)
    | none => none
  | _ => none
theorem decL1_eq (l : Lk) (h : enGl.sl l.gd = some l.s.glares) (i : Int) : decL1 [.agg l.c, .int .i64 i] = some (l, i) := by
  have := decLk_eq l h
  simp only [decL1, this]
theorem decL1_inv {ds : List D} {q : Lk × Int} (h : decL1 ds = some q) : ds = [.agg q.1.c, .int .i64 q.2] ∧ enGl.sl q.1.gd = some q.1.s.glares := by
  unfold decL1 at h
  split at h
  · split at h
    · rename_i h1
      cases h
      obtain ⟨a, b⟩ := decLk_inv h1
      exact ⟨by rw [a], b⟩
    · cases h
  · cases h
def decL2 : List D → Option (Lk × Int × Int)
  | [.agg cs, .int .i64 i, .int .i64 j] => match decLk cs with
    | some l => some (l, i, j)
    | none => none
  | _ => none
theorem decL2_eq (l : Lk) (h : enGl.sl l.gd = some l.s.glares) (i j : Int) : decL2 [.agg l.c, .int .i64 i, .int .i64 j] = some (l, i, j) := by
  have := decLk_eq l h
  simp only [decL2, this]
theorem decL2_inv {ds : List D} {q : Lk × Int × Int} (h : decL2 ds = some q) : ds = [.agg q.1.c, .int .i64 q.2.1, .int .i64 q.2.2] ∧ enGl.sl q.1.gd = some q.1.s.glares := by
  unfold decL2 at h
  split at h
  · split at h
    · rename_i h1
      cases h
      obtain ⟨a, b⟩ := decLk_inv h1
      exact ⟨by rw [a], b⟩
    · cases h
  · cases h

/-! What a wind does -/
def acrW (w e n : Int) : Int := e * dyW w - n * dxW w
def aloW (w e n : Int) : Int := e * dxW w + n * dyW w
def lenW (w : Int) : Int := dxW w * dxW w + dyW w * dyW w
def okWind (e : Int) : Bool := bIn e (-200000) 200000
theorem len_cases (w : Int) (h : okWay w = true) : lenW w = 1 ∨ lenW w = 2 := by
  rcases way_cases h with rfl | rfl | rfl | rfl | rfl | rfl | rfl | rfl <;> decide
theorem mulw (w e : Int) (h : okWay w = true) (he : okWind e = true) : (-200000 ≤ e * dxW w ∧ e * dxW w ≤ 200000) ∧ (-200000 ≤ e * dyW w ∧ e * dyW w ≤ 200000) := by
  obtain ⟨h1, h2, _⟩ := dx_cases w h
  simp only [okWind, bIn, Bool.and_eq_true, decide_eq_true_eq] at he
  constructor
  · rcases h1 with h | h | h <;> rw [h] <;> omega
  · rcases h2 with h | h | h <;> rw [h] <;> omega
theorem sqb {a M : Int} (h : -M ≤ a ∧ a ≤ M) (hM : 0 ≤ M) : 0 ≤ a * a ∧ a * a ≤ M * M := by
  rcases Int.le_total 0 a with h0 | h0
  · exact ⟨Int.mul_nonneg h0 h0, Int.mul_le_mul h.2 h.2 h0 hM⟩
  · have e : a * a = -a * -a := by rw [Int.neg_mul_neg]
    rw [e]
    exact ⟨Int.mul_nonneg (by omega) (by omega), Int.mul_le_mul (by omega) (by omega) (by omega) hM⟩
theorem lenb {w c : Int} (h : okWay w = true) (hc : 0 ≤ c ∧ c ≤ 300) : (0 ≤ lenW w * c ∧ lenW w * c ≤ 600) ∧ (0 ≤ lenW w * c * c ∧ lenW w * c * c ≤ 180000) := by
  have hs := sqb (M := 300) (a := c) (by omega) (by omega)
  rcases len_cases w h with h | h <;> rw [h]
  · rw [Int.one_mul]; omega
  · rw [Int.mul_assoc]; omega
/-- A wind that is not too strong. -/
def calmB (w : Int) (n : Nd) (e k : Int) : Bool := decide (acrW w e k * acrW w e k ≤ lenW w * n.cross * n.cross) && (decide (aloW w e k ≤ 0) || decide (aloW w e k * aloW w e k ≤ lenW w * n.tail * n.tail))
def gL2 (ok : Lk × Int × Int → Bool) (k : Lk × Int × Int → D) : List D → Option D := orc decL2 ok k
theorem gL2_eq (ok : Lk × Int × Int → Bool) (k : Lk × Int × Int → D) (l : Lk) (h : enGl.sl l.gd = some l.s.glares) {i j : Int} (hok : ok (l, i, j) = true) : gL2 ok k [.agg l.c, .int .i64 i, .int .i64 j] = some (k (l, i, j)) :=
  orc_eq (decL2_eq l h i j) hok
def gL0 (ok : Lk → Bool) (k : Lk → D) : List D → Option D := orc decL0 ok k
theorem gL0_eq (ok : Lk → Bool) (k : Lk → D) (l : Lk) (h : enGl.sl l.gd = some l.s.glares) (hok : ok l = true) : gL0 ok k [.agg l.c] = some (k l) := orc_eq (decL0_eq l h) hok
def gL1 (ok : Lk × Int → Bool) (k : Lk × Int → D) : List D → Option D := orc decL1 ok k
theorem gL1_eq (ok : Lk × Int → Bool) (k : Lk × Int → D) (l : Lk) (h : enGl.sl l.gd = some l.s.glares) {i : Int} (hok : ok (l, i) = true) : gL1 ok k [.agg l.c, .int .i64 i] = some (k (l, i)) :=
  orc_eq (decL1_eq l h i) hok

theorem across_t (l : Lk) (hg : enGl.sl l.gd = some l.s.glares) (e n : Int) (hw : okWay l.p.way = true) (he : okWind e = true) (hn : okWind n = true) :
    Pure Tryz.prog 129 [.agg l.c, .int .i64 e, .int .i64 n] (.int .i64 (acrW l.p.way e n)) := by
  have vg := fun hp => En.view hg hp
  have lg := En.lt hg
  have m1 := mulw _ e hw he
  have m2 := mulw _ n hw hn
  have h1 := wrap_i64 (z := e * dyW l.p.way) (by omega) (by omega)
  have h2 := wrap_i64 (z := n * dxW l.p.way) (by omega) (by omega)
  have h3 := wrap_i64 (z := e * dyW l.p.way - n * dxW l.p.way) (by omega) (by omega)
  refine pure_of_wc (rs := [.tmp 6]) (m := 23) [] o25_ok (by kernel_rfl) Tryz.func129 rfl (by kernel_rfl) rfl rfl (by kernel_rfl) ?_
  simp only [FS, ↓RE, okR, argEnv, Nat.reduceAdd, Nat.reduceSub, Nat.reduceLT, Nat.reduceLeDiff, Nat.reduceEqDiff, reduceIte, gSt_eq hw, ex_tup, h1, h2, h3, acrW]
theorem along_t (l : Lk) (hg : enGl.sl l.gd = some l.s.glares) (e n : Int) (hw : okWay l.p.way = true) (he : okWind e = true) (hn : okWind n = true) :
    Pure Tryz.prog 130 [.agg l.c, .int .i64 e, .int .i64 n] (.int .i64 (aloW l.p.way e n)) := by
  have vg := fun hp => En.view hg hp
  have lg := En.lt hg
  have m1 := mulw _ e hw he
  have m2 := mulw _ n hw hn
  have h1 := wrap_i64 (z := e * dxW l.p.way) (by omega) (by omega)
  have h2 := wrap_i64 (z := n * dyW l.p.way) (by omega) (by omega)
  have h3 := wrap_i64 (z := e * dxW l.p.way + n * dyW l.p.way) (by omega) (by omega)
  refine pure_of_wc (rs := [.tmp 6]) (m := 23) [] o25_ok (by kernel_rfl) Tryz.func130 rfl (by kernel_rfl) rfl rfl (by kernel_rfl) ?_
  simp only [FS, ↓RE, okR, argEnv, Nat.reduceAdd, Nat.reduceSub, Nat.reduceLT, Nat.reduceLeDiff, Nat.reduceEqDiff, reduceIte, gSt_eq hw, ex_tup, h1, h2, h3, aloW]
theorem length_t (l : Lk) (hg : enGl.sl l.gd = some l.s.glares) (hw : okWay l.p.way = true) : Pure Tryz.prog 131 [.agg l.c] (.int .i64 (lenW l.p.way)) := by
  obtain ⟨d1, d2, _⟩ := dx_cases l.p.way hw
  have h1 := wrap_i64 (z := dxW l.p.way * dxW l.p.way) (by rcases d1 with h | h | h <;> rw [h] <;> omega) (by rcases d1 with h | h | h <;> rw [h] <;> omega)
  have h2 := wrap_i64 (z := dyW l.p.way * dyW l.p.way) (by rcases d2 with h | h | h <;> rw [h] <;> omega) (by rcases d2 with h | h | h <;> rw [h] <;> omega)
  have hl := len_cases l.p.way hw
  have h3 := wrap_i64 (z := dxW l.p.way * dxW l.p.way + dyW l.p.way * dyW l.p.way) (by simp only [lenW] at hl; omega) (by simp only [lenW] at hl; omega)
  refine pure_of_wc (rs := [.tmp 2]) (m := 19) [] o25_ok (by kernel_rfl) Tryz.func131 rfl (by kernel_rfl) rfl rfl (by kernel_rfl) ?_
  simp only [FS, ↓RE, okR, argEnv, Nat.reduceAdd, Nat.reduceSub, Nat.reduceLT, Nat.reduceLeDiff, Nat.reduceEqDiff, reduceIte, gSt_eq hw, ex_tup, h1, h2, h3, lenW]
def okWd (q : Lk × Int × Int) : Bool := okWay q.1.p.way && (okWind q.2.1 && okWind q.2.2)
abbrev o26 : List (FuncId × (List D → Option D)) := (129, gL2 okWd fun q => .int .i64 (acrW q.1.p.way q.2.1 q.2.2)) :: (130, gL2 okWd fun q => .int .i64 (aloW q.1.p.way q.2.1 q.2.2)) :: (131, gL0 (fun l => okWay l.p.way) fun l => .int .i64 (lenW l.p.way)) :: o25
theorem o26_ok : OkO Tryz.prog (mkO o26) :=
  mkO_ok (orc_ok fun ds q hd hk => by
    obtain ⟨rfl, hg⟩ := decL2_inv hd
    simp only [okWd, Bool.and_eq_true] at hk
    exact across_t _ hg _ _ hk.1 hk.2.1 hk.2.2) <|
  mkO_ok (orc_ok fun ds q hd hk => by
    obtain ⟨rfl, hg⟩ := decL2_inv hd
    simp only [okWd, Bool.and_eq_true] at hk
    exact along_t _ hg _ _ hk.1 hk.2.1 hk.2.2) <|
  mkO_ok (orc_ok fun ds l hd hk => by
    obtain ⟨rfl, hg⟩ := decL0_inv hd
    exact length_t _ hg hk) o25_ok

theorem calm_t (l : Lk) (hg : enGl.sl l.gd = some l.s.glares) (e n : Int) (hw : okWay l.p.way = true) (he : okWind e = true) (hn : okWind n = true) (hnd : okNd l.n = true) :
    Pure Tryz.prog 86 [.agg l.c, .int .i64 e, .int .i64 n] (.bool (calmB l.p.way l.n e n)) := by
  have vg := fun hp => En.view hg hp
  have lg := En.lt hg
  have m1 := mulw _ e hw he
  have m2 := mulw _ n hw hn
  have hok : okWd (l, e, n) = true := by simp [okWd, hw, he, hn]
  have c1 := gL2_eq okWd (fun q => .int .i64 (acrW q.1.p.way q.2.1 q.2.2)) l hg hok
  have c2 := gL2_eq okWd (fun q => .int .i64 (aloW q.1.p.way q.2.1 q.2.2)) l hg hok
  have c3 := gL0_eq (fun l => okWay l.p.way) (fun l => .int .i64 (lenW l.p.way)) l hg hw
  have hcr : (0 ≤ l.n.cross ∧ l.n.cross ≤ 300) ∧ (0 ≤ l.n.tail ∧ l.n.tail ≤ 300) := by
    simp only [okNd, Bool.and_eq_true, bIn, decide_eq_true_eq] at hnd
    exact ⟨hnd.2.2.1, hnd.2.2.2.1⟩
  have b1 := sqb (a := acrW l.p.way e n) (M := 400000) (by simp only [acrW]; omega) (by omega)
  have b2 := sqb (a := aloW l.p.way e n) (M := 400000) (by simp only [aloW]; omega) (by omega)
  have k1 := lenb hw hcr.1
  have k2 := lenb hw hcr.2
  have h1 := wrap_i64 (z := acrW l.p.way e n * acrW l.p.way e n) (by omega) (by omega)
  have h2 := wrap_i64 (z := aloW l.p.way e n * aloW l.p.way e n) (by omega) (by omega)
  have h3 := wrap_i64 (z := lenW l.p.way * l.n.cross) (by omega) (by omega)
  have h4 := wrap_i64 (z := lenW l.p.way * l.n.cross * l.n.cross) (by omega) (by omega)
  have h5 := wrap_i64 (z := lenW l.p.way * l.n.tail) (by omega) (by omega)
  have h6 := wrap_i64 (z := lenW l.p.way * l.n.tail * l.n.tail) (by omega) (by omega)
  simp only [Lk.c, Se.cr, Wx.c, gaC] at c1 c2 c3
  refine pure_of_wc (rs := [.tmp 6]) (m := 51) [(1, [(10, false, false, [])]), (2, [(35, false, false, [])])] o26_ok (by kernel_rfl) Tryz.func86 rfl (by kernel_rfl) rfl rfl (by kernel_rfl) ?_
  cases q1 : decide (acrW l.p.way e n * acrW l.p.way e n ≤ lenW l.p.way * l.n.cross * l.n.cross)
  · simp only [FS, ↓RE, okR, argEnv, Nat.reduceAdd, Nat.reduceSub, Nat.reduceLT, Nat.reduceLeDiff, Nat.reduceEqDiff, reduceIte, vg, lg, c1, c2, c3, h1, h2, h3, h4, q1]
    simp [calmB, q1]
  cases q2 : decide (aloW l.p.way e n ≤ 0)
  · simp only [FS, ↓RE, okR, argEnv, Nat.reduceAdd, Nat.reduceSub, Nat.reduceLT, Nat.reduceLeDiff, Nat.reduceEqDiff, reduceIte, vg, lg, c1, c2, c3, h1, h2, h3, h4, h5, h6, q1, q2]
    simp [calmB, q1, q2]
  · simp only [FS, ↓RE, okR, argEnv, Nat.reduceAdd, Nat.reduceSub, Nat.reduceLT, Nat.reduceLeDiff, Nat.reduceEqDiff, reduceIte, vg, lg, c1, c2, c3, h1, h2, h3, h4, h5, h6, q1, q2]
    simp [calmB, q1, q2]
end Go.Sx

namespace Go.Sx
open Go.Proofs
set_option maxRecDepth 10000

theorem okNd_ct {n : Nd} (hnd : okNd n = true) : (0 ≤ n.cross ∧ n.cross ≤ 300) ∧ (0 ≤ n.tail ∧ n.tail ≤ 300) := by
  simp only [okNd, Bool.and_eq_true, bIn, decide_eq_true_eq] at hnd
  exact ⟨hnd.2.2.1, hnd.2.2.2.1⟩
theorem rcalm_t (p : Sp) (n : Nd) (e k : Int) (hw : okWay p.way = true) (he : okWind e = true) (hk : okWind k = true) (hnd : okNd n = true) :
    Pure Tryz.prog 81 [.agg p.c, .agg n.c, .int .i64 e, .int .i64 k] (.bool (calmB p.way n e k)) := by
  have m1 := mulw _ e hw he
  have m2 := mulw _ k hw hk
  obtain ⟨d1, d2, _⟩ := dx_cases p.way hw
  have hl := len_cases p.way hw
  have hcr := okNd_ct hnd
  have b1 := sqb (a := acrW p.way e k) (M := 400000) (by simp only [acrW]; omega) (by omega)
  have b2 := sqb (a := aloW p.way e k) (M := 400000) (by simp only [aloW]; omega) (by omega)
  have k1 := lenb hw hcr.1
  have k2 := lenb hw hcr.2
  have w1 := wrap_i64 (z := dxW p.way * dxW p.way) (by rcases d1 with h | h | h <;> rw [h] <;> omega) (by rcases d1 with h | h | h <;> rw [h] <;> omega)
  have w2 := wrap_i64 (z := dyW p.way * dyW p.way) (by rcases d2 with h | h | h <;> rw [h] <;> omega) (by rcases d2 with h | h | h <;> rw [h] <;> omega)
  have w3 : IntKind.i64.wrap (dxW p.way * dxW p.way + dyW p.way * dyW p.way) = lenW p.way := wrap_i64 (z := lenW p.way) (by omega) (by omega)
  have w4 := wrap_i64 (z := e * dyW p.way) (by omega) (by omega)
  have w5 := wrap_i64 (z := k * dxW p.way) (by omega) (by omega)
  have w6 : IntKind.i64.wrap (e * dyW p.way - k * dxW p.way) = acrW p.way e k := wrap_i64 (z := acrW p.way e k) (by simp only [acrW]; omega) (by simp only [acrW]; omega)
  have w7 := wrap_i64 (z := e * dxW p.way) (by omega) (by omega)
  have w8 := wrap_i64 (z := k * dyW p.way) (by omega) (by omega)
  have w9 : IntKind.i64.wrap (e * dxW p.way + k * dyW p.way) = aloW p.way e k := wrap_i64 (z := aloW p.way e k) (by simp only [aloW]; omega) (by simp only [aloW]; omega)
  have h1 := wrap_i64 (z := acrW p.way e k * acrW p.way e k) (by omega) (by omega)
  have h2 := wrap_i64 (z := aloW p.way e k * aloW p.way e k) (by omega) (by omega)
  have h3 := wrap_i64 (z := lenW p.way * n.cross) (by omega) (by omega)
  have h4 := wrap_i64 (z := lenW p.way * n.cross * n.cross) (by omega) (by omega)
  have h5 := wrap_i64 (z := lenW p.way * n.tail) (by omega) (by omega)
  have h6 := wrap_i64 (z := lenW p.way * n.tail * n.tail) (by omega) (by omega)
  refine pure_of_wc (rs := [.tmp 8]) (m := 69) [] o26_ok (by kernel_rfl) Tryz.func81 rfl (by kernel_rfl) rfl rfl (by kernel_rfl) ?_
  cases q1 : decide (acrW p.way e k * acrW p.way e k ≤ lenW p.way * n.cross * n.cross)
  · simp only [FS, ↓RE, okR, argEnv, Nat.reduceAdd, Nat.reduceSub, Nat.reduceLT, Nat.reduceLeDiff, Nat.reduceEqDiff, reduceIte, gSt_eq hw, ex_tup, w1, w2, w3, w4, w5, w6, w7, w8, w9, h1, h2, h3, h4, h5, h6, q1]
    simp [calmB, q1]
  cases q2 : decide (aloW p.way e k ≤ 0)
  · simp only [FS, ↓RE, okR, argEnv, Nat.reduceAdd, Nat.reduceSub, Nat.reduceLT, Nat.reduceLeDiff, Nat.reduceEqDiff, reduceIte, gSt_eq hw, ex_tup, w1, w2, w3, w4, w5, w6, w7, w8, w9, h1, h2, h3, h4, h5, h6, q1, q2]
    simp [calmB, q1, q2]
  · simp only [FS, ↓RE, okR, argEnv, Nat.reduceAdd, Nat.reduceSub, Nat.reduceLT, Nat.reduceLeDiff, Nat.reduceEqDiff, reduceIte, gSt_eq hw, ex_tup, w1, w2, w3, w4, w5, w6, w7, w8, w9, h1, h2, h3, h4, h5, h6, q1, q2]
    simp [calmB, q1, q2]

/-! All gauges have a course -/
def wxL (w : Wx) : List Ga := [w.tide, w.east, w.north, w.wave, w.swell]
def Ga.d (g : Ga) : List D := gaC g []

theorem sound_t (l : Lk) (hg : enGl.sl l.gd = some l.s.glares) (hw : WxOk l.s.w) : Pure Tryz.prog 64 [.agg l.c] (.bool (soundW l.s.w)) := by
  have vg := fun hp => En.view hg hp
  have lg := En.lt hg
  refine pure_of_wc (rs := [.tmp 2]) (m := 33) [] o26_ok (by kernel_rfl) Tryz.func64 rfl (by kernel_rfl) rfl rfl (by kernel_rfl) ?_
  simp only [FS, ↓RE, okR, argEnv, Nat.reduceAdd, Nat.reduceSub, Nat.reduceLT, Nat.reduceLeDiff, Nat.reduceEqDiff, reduceIte]
  refine loopV (ι := Nat) o26_ok [] (fun i => [(25, .agg (l.s.w.c [])), (26, .int .i64 (i : Int))])
    (fun i => []) 1 (fun i => i ≤ 5 ∧ ((wxL l.s.w).take i).all runG = true) (fun i => 5 - i) 0 (by kernel_rfl) (by kernel_rfl) ⟨Nat.zero_le _, rfl⟩ ?_ ?_
  · simp [headW, heapW, envW, blkLt, D.ltL, D.lt, look, hget]
  rintro i ⟨hi, hok⟩
  have hix : ∀ j : Nat, j < 5 → indexD Tryz.prog 162 (.agg (l.s.w.c [])) (.int .i64 (j : Int)) = some (.agg (((l.s.w.c []).drop (j * 4)).take 4)) := by
    intro j hj
    simp only [indexD, Fz.und_162, Fz.size_27]
    rw [if_pos (by omega)]
    simp only [partD_agg Fz.agg_27 Fz.size_27, Int.toNat_natCast]
  have hsw : soundW l.s.w = (wxL l.s.w).all runG := by simp [soundW, wxL]
  rcases Nat.lt_or_ge i 5 with hlt | hge
  · obtain ⟨g, hga, hgj, hd⟩ : ∃ g : Ga, gaOk g = true ∧ (wxL l.s.w)[i]? = some g ∧ ((l.s.w.c []).drop (i * 4)).take 4 = g.d := by
      have h5 : i = 0 ∨ i = 1 ∨ i = 2 ∨ i = 3 ∨ i = 4 := by omega
      rcases h5 with rfl | rfl | rfl | rfl | rfl
      · exact ⟨l.s.w.tide, hw.tide, rfl, rfl⟩
      · exact ⟨l.s.w.east, hw.east, rfl, rfl⟩
      · exact ⟨l.s.w.north, hw.north, rfl, rfl⟩
      · exact ⟨l.s.w.wave, hw.wave, rfl, rfl⟩
      · exact ⟨l.s.w.swell, hw.swell, rfl, rfl⟩
    have h1 := hix i hlt
    rw [hd] at h1
    have hc : ((i : Int) < 5) = True := by simp; omega
    have hwi := wrap_i64 (z := (i : Int) + 1) (by omega) (by omega)
    obtain ⟨a, b, c, rs⟩ := g
    simp only [Ga.d, gaC] at h1
    cases hr : runG ⟨a, b, c, rs⟩
    · have hr' : (clashG ⟨a, b, c, rs⟩).2.2 = true := by simpa [runG] using hr
      simp only [FS, ↓RE, okR, argEnv, Nat.reduceAdd, Nat.reduceSub, Nat.reduceLT, Nat.reduceLeDiff, Nat.reduceEqDiff, reduceIte, hc, decide_true, h1, r_index, gGk_eq hga, hr']
      rw [hsw, all_not hgj hr]
    · have hr' : (clashG ⟨a, b, c, rs⟩).2.2 = false := by simpa [runG] using hr
      simp only [FS, ↓RE, okR, argEnv, Nat.reduceAdd, Nat.reduceSub, Nat.reduceLT, Nat.reduceLeDiff, Nat.reduceEqDiff, reduceIte, hc, decide_true, h1, r_index, gGk_eq hga, hr', hwi]
      exact ⟨i + 1, ⟨by omega, all_take hgj hok hr⟩, by omega, by simp [headW, heapW, envW, blkLt, D.ltL, D.lt, look, hget]⟩
  have : i = 5 := by omega
  subst this
  simp only [FS, ↓RE, okR, argEnv, Nat.reduceAdd, Nat.reduceSub, Nat.reduceLT, Nat.reduceLeDiff, Nat.reduceEqDiff, reduceIte, Int.cast_ofNat_Int, Int.lt_irrefl, decide_false]
  rw [hsw]
  rw [show (wxL l.s.w).take 5 = wxL l.s.w from rfl] at hok
  rw [hok]
end Go.Sx

namespace Go.Sx
open Go.Proofs
set_option maxRecDepth 10000

def enGa : En Ga where
  d := Ga.d
  dec cs := match decGa cs with
    | some (g, []) => some g
    | _ => none
  h1 g := by have := decGa_eq g []; simp only [Ga.d, this]
  h2 c g h := by
    split at h
    · rename_i h1; cases h; exact decGa_inv h1
    · cases h
  sz := 4
  hsz _ := rfl
theorem rsound_t (w : Wx) (hw : WxOk w) : Pure Tryz.prog 19 [.agg (w.c [])] (.bool (soundW w)) := by
  refine pure_of_wc (rs := [.tmp 2]) (m := 35) [] o26_ok (by kernel_rfl) Tryz.func19 rfl (by kernel_rfl) rfl rfl (by kernel_rfl) ?_
  have hlit : ∀ (h : H) (nid : Nat), litOpD Tryz.prog h nid 120 5 [(0, .agg w.tide.d), (1, .agg w.east.d), (2, .agg w.north.d), (3, .agg w.wave.d), (4, .agg w.swell.d)] = some (.osl nid 5, (nid, .arr 27 4 ((wxL w).map Ga.d)) :: h, nid + 1) := by
    intro h nid
    kernel_rfl
  simp only [Ga.d, gaC] at hlit
  simp only [FS, ↓RE, okR, argEnv, Nat.reduceAdd, Nat.reduceSub, Nat.reduceLT, Nat.reduceLeDiff, Nat.reduceEqDiff, reduceIte, hlit]
  refine loopW (ι := Nat) o26_ok [] (fun i => [(3, .sl ((wxL w).map enGa.d)), (4, .int .i64 (i : Int))])
    (fun i => []) 2 (fun i => i ≤ 5 ∧ ((wxL w).take i).all runG = true) (fun i => 5 - i) 0 (by kernel_rfl) (by kernel_rfl) ⟨Nat.zero_le _, rfl⟩ ?_ ?_
  · refine imp_frz 1 ?_
    simp [headW, heapW, envW, blkLt, D.ltL, D.lt, look, hget, frzD, herase, wxL, Ga.d, enGa]
  rintro i ⟨hi, hok⟩
  have hsw : soundW w = (wxL w).all runG := by simp [soundW, wxL]
  have hlen : ((wxL w).length : Int) = 5 := rfl
  rcases Nat.lt_or_ge i 5 with hlt | hge
  · obtain ⟨g, hga, hgj⟩ : ∃ g : Ga, gaOk g = true ∧ (wxL w)[i]? = some g := by
      have h5 : i = 0 ∨ i = 1 ∨ i = 2 ∨ i = 3 ∨ i = 4 := by omega
      rcases h5 with rfl | rfl | rfl | rfl | rfl
      · exact ⟨w.tide, hw.tide, rfl⟩
      · exact ⟨w.east, hw.east, rfl⟩
      · exact ⟨w.north, hw.north, rfl⟩
      · exact ⟨w.wave, hw.wave, rfl⟩
      · exact ⟨w.swell, hw.swell, rfl⟩
    have hix := fun hp => En.ix (P := Tryz.prog) Fz.und_120 Fz.size_27 (En.sl_map (E := enGa) (wxL w)) hgj hp .i64
    have hc : ((i : Int) < 5) = True := by simp; omega
    have hwi := wrap_i64 (z := (i : Int) + 1) (by omega) (by omega)
    obtain ⟨a, b, c, rs⟩ := g
    have hix2 : ∀ hp, indexAddrD Tryz.prog hp 120 (.sl ((wxL w).map enGa.d)) (.int .i64 (i : Int)) = some (.ref [.int .i64 a, .int .i64 b, .int .i64 c, .sl (rs.map Rd.d)] 0) := hix
    cases hr : runG ⟨a, b, c, rs⟩
    · have hr' : (clashG ⟨a, b, c, rs⟩).2.2 = true := by simpa [runG] using hr
      simp only [FS, ↓RE, okR, argEnv, Nat.reduceAdd, Nat.reduceSub, Nat.reduceLT, Nat.reduceLeDiff, Nat.reduceEqDiff, reduceIte, List.length_map, hlen, hc, decide_true, hix2, gGk_eq hga, clD, ex_tup, hr']
      rw [hsw, all_not hgj hr]
    · have hr' : (clashG ⟨a, b, c, rs⟩).2.2 = false := by simpa [runG] using hr
      simp only [FS, ↓RE, okR, argEnv, Nat.reduceAdd, Nat.reduceSub, Nat.reduceLT, Nat.reduceLeDiff, Nat.reduceEqDiff, reduceIte, List.length_map, hlen, hc, decide_true, hix2, gGk_eq hga, clD, ex_tup, hr', hwi]
      exact ⟨i + 1, ⟨by omega, all_take hgj hok hr⟩, by omega, imp_head (by simp [headW, heapW, envW, blkLt, D.ltL, D.lt, look, hget])⟩
  have : i = 5 := by omega
  subst this
  simp only [FS, ↓RE, okR, argEnv, Nat.reduceAdd, Nat.reduceSub, Nat.reduceLT, Nat.reduceLeDiff, Nat.reduceEqDiff, reduceIte, List.length_map, hlen, Int.cast_ofNat_Int, Int.lt_irrefl, decide_false]
  rw [hsw]
  rw [show (wxL w).take 5 = wxL w from rfl] at hok
  rw [hok]

abbrev o28 : List (FuncId × (List D → Option D)) := (64, gL0 (fun l => okWx l.s.w) fun l => .bool (soundW l.s.w)) :: (19, orc decWx okWx fun w => .bool (soundW w)) :: (86, gL2 (fun q => okWd q && okNd q.1.n) fun q => .bool (calmB q.1.p.way q.1.n q.2.1 q.2.2)) :: o26
theorem o28_ok : OkO Tryz.prog (mkO o28) :=
  mkO_ok (orc_ok fun ds l hd hk => by
    obtain ⟨rfl, hg⟩ := decL0_inv hd
    exact sound_t _ hg (okWx_gaOk hk)) <|
  mkO_ok (orc_ok fun ds w hd hk => by rw [decWx_inv hd]; exact rsound_t w (okWx_gaOk hk)) <|
  mkO_ok (orc_ok fun ds q hd hk => by
    obtain ⟨rfl, hg⟩ := decL2_inv hd
    simp only [okWd, Bool.and_eq_true] at hk
    exact calm_t _ hg _ _ hk.1.1 hk.1.2.1 hk.1.2.2 hk.2) o26_ok

/-- What is said of what is asked. -/
def askE (l : Lk) : Int := if okSe l.s && (okSp l.s l.p && (okNd l.n && bIn l.t 0 1440)) then (if soundW l.s.w then 0 else 5) else 2
theorem okSe_wx {s : Se} (h : okSe s = true) : okWx s.w = true := by
  simp only [okSe, Bool.and_eq_true] at h
  exact h.2.2.2.1
theorem asked_t (l : Lk) (h : SeL l.s l.gd) : Pure Tryz.prog 67 [.agg l.c] (.int .i64 (askE l)) := by
  have vg := fun hp => En.view h.gd hp
  have lg := En.lt h.gd
  have h1 := gSe_eq h
  have h3 := gNd_eq l.n
  simp only [Se.c, Se.cr, Wx.c, gaC] at h1
  refine pure_of_wc (rs := [.tmp 2]) (m := 30) [] o28_ok (by kernel_rfl) Tryz.func67 rfl (by kernel_rfl) rfl rfl (by kernel_rfl) ?_
  cases hs : okSe l.s
  · simp only [FS, ↓RE, okR, argEnv, Nat.reduceAdd, Nat.reduceSub, Nat.reduceLT, Nat.reduceLeDiff, Nat.reduceEqDiff, reduceIte, vg, lg, h1, hs]
    simp [askE, hs]
  have h2 := gSp_eq h hs l.p
  simp only [Se.c, Se.cr, Wx.c, gaC] at h2
  cases hp : okSp l.s l.p
  · simp only [FS, ↓RE, okR, argEnv, Nat.reduceAdd, Nat.reduceSub, Nat.reduceLT, Nat.reduceLeDiff, Nat.reduceEqDiff, reduceIte, vg, lg, h1, hs, h2, hp]
    simp [askE, hs, hp]
  cases hn : okNd l.n
  · simp only [FS, ↓RE, okR, argEnv, Nat.reduceAdd, Nat.reduceSub, Nat.reduceLT, Nat.reduceLeDiff, Nat.reduceEqDiff, reduceIte, vg, lg, h1, hs, h2, hp, h3, hn]
    simp [askE, hs, hp, hn]
  cases ht : bIn l.t 0 1440
  · simp only [FS, ↓RE, okR, argEnv, Nat.reduceAdd, Nat.reduceSub, Nat.reduceLT, Nat.reduceLeDiff, Nat.reduceEqDiff, reduceIte, vg, lg, h1, hs, h2, hp, h3, hn, gIn_eq, ht]
    simp [askE, hs, hp, hn, ht]
  have h4 := gL0_eq (fun l => okWx l.s.w) (fun l => .bool (soundW l.s.w)) l h.gd (okSe_wx hs)
  simp only [Lk.c, Se.cr, Wx.c, gaC] at h4
  cases hso : soundW l.s.w
  · simp only [FS, ↓RE, okR, argEnv, Nat.reduceAdd, Nat.reduceSub, Nat.reduceLT, Nat.reduceLeDiff, Nat.reduceEqDiff, reduceIte, vg, lg, h1, hs, h2, hp, h3, hn, gIn_eq, ht, h4, hso]
    simp [askE, hs, hp, hn, ht, hso]
  · simp only [FS, ↓RE, okR, argEnv, Nat.reduceAdd, Nat.reduceSub, Nat.reduceLT, Nat.reduceLeDiff, Nat.reduceEqDiff, reduceIte, vg, lg, h1, hs, h2, hp, h3, hn, gIn_eq, ht, h4, hso]
    simp [askE, hs, hp, hn, ht, hso]
end Go.Sx

namespace Go.Sx
open Go.Proofs
set_option maxRecDepth 10000

def pxK (p : Sp) (k : Int) : Int := p.x + k * dxW p.way
def pyK (p : Sp) (k : Int) : Int := p.y + k * dyW p.way
def cellI (s : Se) (p : Sp) (k : Int) : Int := pyK p k * s.wide + pxK p k
theorem cell_xy {s : Se} {p : Sp} (h : okSp s p = true) {k : Int} (hk : 0 ≤ k ∧ k ≤ p.cells - 1) : (0 ≤ pxK p k ∧ pxK p k ≤ s.wide - 1) ∧ (0 ≤ pyK p k ∧ pyK p k ≤ s.deep - 1) := by
  simp only [okSp, Bool.and_eq_true, bIn, decide_eq_true_eq] at h
  obtain ⟨hw, hc, hx, hy, hx2, hy2⟩ := h
  obtain ⟨d1, d2, _⟩ := dx_cases p.way hw
  simp only [pxK, pyK]
  constructor
  · rcases d1 with h | h | h <;> rw [h] at hx2 ⊢ <;> omega
  · rcases d2 with h | h | h <;> rw [h] at hy2 ⊢ <;> omega
theorem cell_lt {s : Se} {p : Sp} (hw : 1 ≤ s.wide) (h : okSp s p = true) {k : Int} (hk : 0 ≤ k ∧ k ≤ p.cells - 1) : 0 ≤ cellI s p k ∧ cellI s p k < s.wide * s.deep := by
  obtain ⟨hx, hy⟩ := cell_xy h hk
  have h1 : pyK p k * s.wide ≤ (s.deep - 1) * s.wide := Int.mul_le_mul_of_nonneg_right hy.2 (by omega)
  have h2 : 0 ≤ pyK p k * s.wide := Int.mul_nonneg hy.1 (by omega)
  have h3 : (s.deep - 1) * s.wide = s.wide * s.deep - s.wide := by rw [Int.sub_mul, Int.one_mul, Int.mul_comm]
  simp only [cellI]
  omega
theorem okSp_ce {s : Se} {p : Sp} (h : okSp s p = true) : okWay p.way = true ∧ (1 ≤ p.cells ∧ p.cells ≤ 12) := by
  simp only [okSp, Bool.and_eq_true, bIn, decide_eq_true_eq] at h
  exact ⟨h.1, h.2.1⟩
def okCl (q : Lk × Int) : Bool := bIn q.1.s.wide 1 12 && (bIn q.1.s.deep 1 12 && (okSp q.1.s q.1.p && bIn q.2 0 (q.1.p.cells - 1)))

theorem cell_t (l : Lk) (hg : enGl.sl l.gd = some l.s.glares) (k : Int) (hw : 1 ≤ l.s.wide ∧ l.s.wide ≤ 12) (hd : 1 ≤ l.s.deep ∧ l.s.deep ≤ 12) (hp : okSp l.s l.p = true) (hk : 0 ≤ k ∧ k ≤ l.p.cells - 1) :
    Pure Tryz.prog 72 [.agg l.c, .int .i64 k] (.tup [.int .i64 (cellI l.s l.p k), .int .i64 (pxK l.p k), .int .i64 (pyK l.p k)]) := by
  have vg := fun hp => En.view hg hp
  have lg := En.lt hg
  obtain ⟨hwy, hce⟩ := okSp_ce hp
  obtain ⟨hx, hy⟩ := cell_xy hp hk
  have hc := cell_lt hw.1 hp hk
  have hm : l.s.wide * l.s.deep ≤ 12 * 12 := Int.mul_le_mul hw.2 hd.2 (by omega) (by omega)
  obtain ⟨d1, d2, _⟩ := dx_cases l.p.way hwy
  have h1 := wrap_i64 (z := k * dxW l.p.way) (by rcases d1 with h | h | h <;> rw [h] <;> omega) (by rcases d1 with h | h | h <;> rw [h] <;> omega)
  have h2 := wrap_i64 (z := k * dyW l.p.way) (by rcases d2 with h | h | h <;> rw [h] <;> omega) (by rcases d2 with h | h | h <;> rw [h] <;> omega)
  have h3 : IntKind.i64.wrap (l.p.x + k * dxW l.p.way) = pxK l.p k := wrap_i64 (z := pxK l.p k) (by omega) (by omega)
  have h4 : IntKind.i64.wrap (l.p.y + k * dyW l.p.way) = pyK l.p k := wrap_i64 (z := pyK l.p k) (by omega) (by omega)
  have h5' : 0 ≤ pyK l.p k * l.s.wide := Int.mul_nonneg hy.1 (by omega)
  have h5 := wrap_i64 (z := pyK l.p k * l.s.wide) (by omega) (by simp only [cellI] at hc; omega)
  have h6 : IntKind.i64.wrap (pyK l.p k * l.s.wide + pxK l.p k) = cellI l.s l.p k := wrap_i64 (z := cellI l.s l.p k) (by omega) (by omega)
  refine pure_of_wc (rs := [.tmp 4, .tmp 5, .tmp 6]) (m := 42) [(2, [(16, false, false, [])])] o28_ok (by kernel_rfl) Tryz.func72 rfl (by kernel_rfl) rfl rfl (by kernel_rfl) ?_
  simp only [FS, ↓RE, okR, argEnv, Nat.reduceAdd, Nat.reduceSub, Nat.reduceLT, Nat.reduceLeDiff, Nat.reduceEqDiff, reduceIte, gSt_eq hwy, ex_tup, h1, h2, h3, h4, h5, h6]

def passB (l : Lk) (i : Nat) : Bool := match l.s.boats[i]? with
  | some b => bIn l.t b.t.1 b.t.2
  | none => false
def okPs (q : Lk × Int) : Bool := decide (0 ≤ q.2) && decide (q.2 < q.1.s.boats.length)
theorem passes_t (l : Lk) (hg : enGl.sl l.gd = some l.s.glares) (i : Nat) (hi : i < l.s.boats.length) : Pure Tryz.prog 74 [.agg l.c, .int .i64 (i : Int)] (.bool (passB l i)) := by
  have vg := fun hp => En.view hg hp
  have lg := En.lt hg
  obtain ⟨b, hb⟩ : ∃ b, l.s.boats[i]? = some b := ⟨l.s.boats[i], by simp [hi]⟩
  have hix := fun hp => En.ix (P := Tryz.prog) Fz.und_30 Fz.size_72 (En.sl_map (E := enBt) l.s.boats) hb hp .i64
  obtain ⟨⟨x1, x2⟩, ⟨y1, y2⟩, ⟨t1, t2⟩, su⟩ := b
  have hix2 : ∀ hp, indexAddrD Tryz.prog hp 30 (.sl (l.s.boats.map enBt.d)) (.int .i64 (i : Int)) = some (.ref [.int .i64 x1, .int .i64 x2, .int .i64 y1, .int .i64 y2, .int .i64 t1, .int .i64 t2, .bool su] 0) := hix
  refine pure_of_wc (rs := [.tmp 4]) (m := 24) [(1, [(20, false, false, [])])] o28_ok (by kernel_rfl) Tryz.func74 rfl (by kernel_rfl) rfl rfl (by kernel_rfl) ?_
  simp only [FS, ↓RE, okR, argEnv, Nat.reduceAdd, Nat.reduceSub, Nat.reduceLT, Nat.reduceLeDiff, Nat.reduceEqDiff, reduceIte, hix2, gIn_eq, passB, hb]

abbrev o29 : List (FuncId × (List D → Option D)) := (72, gL1 okCl fun q => .tup [.int .i64 (cellI q.1.s q.1.p q.2), .int .i64 (pxK q.1.p q.2), .int .i64 (pyK q.1.p q.2)]) :: (74, gL1 okPs fun q => .bool (passB q.1 q.2.toNat)) :: o28
theorem o29_ok : OkO Tryz.prog (mkO o29) :=
  mkO_ok (orc_ok fun ds q hd hk => by
    obtain ⟨rfl, hg⟩ := decL1_inv hd
    simp only [okCl, Bool.and_eq_true, bIn, decide_eq_true_eq] at hk
    exact cell_t _ hg _ hk.1 hk.2.1 hk.2.2.1 hk.2.2.2) <|
  mkO_ok (orc_ok fun ds q hd hk => by
    obtain ⟨rfl, hg⟩ := decL1_inv hd
    simp only [okPs, Bool.and_eq_true, decide_eq_true_eq] at hk
    have := passes_t q.1 hg q.2.toNat (by omega)
    rwa [Int.toNat_of_nonneg hk.1] at this) o28_ok

/-! No boat in the way -/
def inW (b : Bt) (x y : Int) : Bool := bIn x b.x.1 b.x.2 && bIn y b.y.1 b.y.2
def freeB (th : Nat → Bool) (x y : Int) : List Bt → Nat → Bool
  | [], _ => true
  | b :: r, i => !(th i && inW b x y) && freeB th x y r (i + 1)
theorem free_t (l : Lk) (hg : enGl.sl l.gd = some l.s.glares) (hl : l.s.boats.length ≤ 9223372036854775807) (x y : Int) (f : FuncId) (fst caps : List D) (th : Nat → Bool) (hfl : ∀ m, D.ltL m fst = true) (hfv : ∀ h, viewL h fst = fst) (hcl : ∀ m, D.ltL m caps = true) (hcv : ∀ h, viewL h caps = caps)
    (hva : ∀ h i, viewL h (fst ++ [D.int .i64 i] ++ caps) = fst ++ [D.int .i64 i] ++ caps)
    (hq : ∀ i : Nat, i < l.s.boats.length → Pure Tryz.prog f (fst ++ [.int .i64 (i : Int)] ++ caps) (.bool (th i))) :
    Pure Tryz.prog 73 [.agg l.c, .int .i64 x, .int .i64 y, .fn (.func f) fst caps] (.bool (freeB th x y l.s.boats 0)) := by
  have vg := fun hp => En.view hg hp
  have lg := En.lt hg
  have hbl := fun hp => En.len (P := Tryz.prog) Fz.und_30 (En.sl_map (E := enBt) l.s.boats) hp
  have hIn : ∀ a b c, Pure Tryz.prog 70 [.int .i64 a, .int .i64 b, .int .i64 c] (.bool (bIn a b c)) := in_t
  refine pure_of_wc (rs := [.tmp 8]) (m := 44) [] oNone_ok (by kernel_rfl) Tryz.func73 rfl (by kernel_rfl) rfl rfl (by kernel_rfl) ?_
  simp only [FS, ↓RE, okR, argEnv, Nat.reduceAdd, Nat.reduceSub, Nat.reduceLT, Nat.reduceLeDiff, Nat.reduceEqDiff, reduceIte, hbl]
  refine loopV (ι := Nat) oNone_ok [] (fun i => [(1, .int .i64 x), (2, .int .i64 y), (3, .fn (.func f) fst caps), (13, .sl (l.s.boats.map enBt.d)), (14, .int .i64 (l.s.boats.length : Int)), (15, .int .i64 (i : Int))])
    (fun i => []) 1 (fun i => i ≤ l.s.boats.length ∧ freeB th x y l.s.boats 0 = freeB th x y (l.s.boats.drop i) i) (fun i => l.s.boats.length - i) 0 (by kernel_rfl) (by kernel_rfl) ⟨Nat.zero_le _, rfl⟩ ?_ ?_
  · simp [headW, heapW, envW, blkLt, D.ltL, D.lt, look, hget, hfl, hcl]
  rintro i ⟨hi, hok⟩
  rcases Nat.lt_or_ge i l.s.boats.length with hlt | hge
  rotate_left
  · have : i = l.s.boats.length := by omega
    subst this
    rw [List.drop_length] at hok
    simp only [FS, ↓RE, okR, argEnv, Nat.reduceAdd, Nat.reduceSub, Nat.reduceLT, Nat.reduceLeDiff, Nat.reduceEqDiff, reduceIte, Int.lt_irrefl, decide_false]
    rw [hok]; rfl
  have hc : ((i : Int) < (l.s.boats.length : Int)) = True := by simp [hlt]
  obtain ⟨b, hb⟩ : ∃ b, l.s.boats[i]? = some b := ⟨l.s.boats[i], by simp [hlt]⟩
  have hix := fun hp => En.ix (P := Tryz.prog) Fz.und_30 Fz.size_72 (En.sl_map (E := enBt) l.s.boats) hb hp .i64
  obtain ⟨⟨x1, x2⟩, ⟨y1, y2⟩, ⟨t1, t2⟩, su⟩ := b
  have hix2 : ∀ hp, indexAddrD Tryz.prog hp 30 (.sl (l.s.boats.map enBt.d)) (.int .i64 (i : Int)) = some (.ref [.int .i64 x1, .int .i64 x2, .int .i64 y1, .int .i64 y2, .int .i64 t1, .int .i64 t2, .bool su] 0) := hix
  have hwi := wrap_i64 (z := (i : Int) + 1) (by omega) (by omega)
  rw [drop_at hb] at hok
  simp only [freeB, inW] at hok
  simp only [FS, ↓RE, okR, argEnv, Nat.reduceAdd, Nat.reduceSub, Nat.reduceLT, Nat.reduceLeDiff, Nat.reduceEqDiff, reduceIte, hix2, hc, decide_true]
  refine call_of_pure (by rw [hva]; exact hq i hlt) rfl ?_
  cases ht : th i
  · rw [ht] at hok
    simp only [FS, ↓RE, okR, argEnv, Nat.reduceAdd, Nat.reduceSub, Nat.reduceLT, Nat.reduceLeDiff, Nat.reduceEqDiff, reduceIte, hwi]
    simp only [Bool.false_and, Bool.not_false, Bool.true_and] at hok
    exact ⟨i + 1, ⟨by omega, hok⟩, by omega, by simp [headW, heapW, envW, blkLt, D.ltL, D.lt, look, hget, hfl, hcl]⟩
  rw [ht] at hok
  simp only [FS, ↓RE, okR, argEnv, Nat.reduceAdd, Nat.reduceSub, Nat.reduceLT, Nat.reduceLeDiff, Nat.reduceEqDiff, reduceIte]
  refine call_of_pure (hIn _ _ _) rfl ?_
  cases hx : bIn x x1 x2
  · rw [hx] at hok
    simp only [FS, ↓RE, okR, argEnv, Nat.reduceAdd, Nat.reduceSub, Nat.reduceLT, Nat.reduceLeDiff, Nat.reduceEqDiff, reduceIte, hwi]
    simp only [Bool.false_and, Bool.and_false, Bool.not_false, Bool.true_and] at hok
    exact ⟨i + 1, ⟨by omega, hok⟩, by omega, by simp [headW, heapW, envW, blkLt, D.ltL, D.lt, look, hget, hfl, hcl]⟩
  rw [hx] at hok
  simp only [FS, ↓RE, okR, argEnv, Nat.reduceAdd, Nat.reduceSub, Nat.reduceLT, Nat.reduceLeDiff, Nat.reduceEqDiff, reduceIte]
  refine call_of_pure (hIn _ _ _) rfl ?_
  cases hy : bIn y y1 y2
  · rw [hy] at hok
    simp only [FS, ↓RE, okR, argEnv, Nat.reduceAdd, Nat.reduceSub, Nat.reduceLT, Nat.reduceLeDiff, Nat.reduceEqDiff, reduceIte, hwi]
    simp only [Bool.and_false, Bool.not_false, Bool.true_and] at hok
    exact ⟨i + 1, ⟨by omega, hok⟩, by omega, by simp [headW, heapW, envW, blkLt, D.ltL, D.lt, look, hget, hfl, hcl]⟩
  · rw [hy] at hok
    simp only [FS, ↓RE, okR, argEnv, Nat.reduceAdd, Nat.reduceSub, Nat.reduceLT, Nat.reduceLeDiff, Nat.reduceEqDiff, reduceIte]
    rw [hok]; rfl
end Go.Sx
