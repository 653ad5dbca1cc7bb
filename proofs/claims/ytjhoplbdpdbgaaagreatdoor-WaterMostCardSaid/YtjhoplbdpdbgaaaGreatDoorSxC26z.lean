/- Own work: contracts of functions, used in the proof of a law. -/
import Derived.Test.YtjhoplbdpdbgaaaGreatDoorSxC25z
set_option linter.unusedVariables false
set_option linter.unusedSimpArgs false
namespace Go.Sx
open Go.Proofs
set_option maxRecDepth 10000

def decLk (cs : List D) : Option Lk :=
  match decSeR cs with
  | some (s, gd, [.int .i64 x, .int .i64 y, .int .i64 w, .int .i64 c, .int .i64 a, .int .i64 b, .int .i64 d, .int .i64 e, .int .i64 f, .int .i64 g, .int .i64 h, .int .i64 t]) => some ⟨s, gd, ⟨x, y, w, c⟩, ⟨a, b, d, e, f, g, h⟩, t⟩
  | _ => none
theorem decLk_eq (l : Lk) (h : enGl.sl l.gd = some l.s.glares) : decLk l.c = some l := by
  simp only [decLk, Lk.c, decSeR_eq h]
theorem decLk_inv {cs : List D} {l : Lk} (h : decLk cs = some l) : cs = l.c ∧ enGl.sl l.gd = some l.s.glares := by
  unfold decLk at h
  split at h
  · rename_i h1
    cases h
    exact decSeR_inv h1
  · cases h
def decL0 : List D → Option Lk
  | [.agg cs] => decLk cs
  | _ => none
theorem decL0_eq (l : Lk) (h : enGl.sl l.gd = some l.s.glares) : decL0 [.agg l.c] = some l := decLk_eq l h
theorem decL0_inv {ds : List D} {l : Lk} (h : decL0 ds = some l) : ds = [.agg l.c] ∧ enGl.sl l.gd = some l.s.glares := by
  unfold decL0 at h
  split at h
  · obtain ⟨a, b⟩ := decLk_inv h
    exact ⟨by rw [a], b⟩
  · cases h
def decL1 : List D → Option (Lk × Int)
  | [.agg cs, .int .i64 i] => match decLk cs with
    | some l => some (l, i)
    | none => none
  | _ => none
theorem decL1_eq (l : Lk) (h : enGl.sl l.gd = some l.s.glares) (i : Int) : decL1 [.agg l.c, .int .i64 i] = some (l, i) := by
  have := decLk_eq l h
  simp only [decL1, this]
theorem decL1_inv {ds : List D} {q : Lk × Int} (h : decL1 ds = some q) : ds = [.agg q.1.c, .int .i64 q.2] ∧ enGl.sl q.1.gd = some q.1.s.glares := by
  unfold decL1 at h
  split at h
  · split at h
    · rename_i h1
      cases h
      obtain ⟨a, b⟩ := decLk_inv h1
      exact ⟨by rw [a], b⟩
    · cases h
  · cases h
def decL2 : List D → Option (Lk × Int × Int)
  | [.agg cs, .int .i64 i, .int .i64 j] => match decLk cs with
    | some l => some (l, i, j)
    | none => none
  | _ => none
theorem decL2_eq (l : Lk) (h : enGl.sl l.gd = some l.s.glares) (i j : Int) : decL2 [.agg l.c, .int .i64 i, .int .i64 j] = some (l, i, j) := by
  have := decLk_eq l h
  simp only [decL2, this]
theorem decL2_inv {ds : List D} {q : Lk × Int × Int} (h : decL2 ds = some q) : ds = [.agg q.1.c, .int .i64 q.2.1, .int .i64 q.2.2] ∧ enGl.sl q.1.gd = some q.1.s.glares := by
  unfold decL2 at h
  split at h
  · split at h
    · rename_i h1
      cases h
      obtain ⟨a, b⟩ := decLk_inv h1
      exact ⟨by rw [a], b⟩
    · cases h
  · cases h

/-! What a wind does -/
def acrW (w e n : Int) : Int := e * dyW w - n * dxW w
def aloW (w e n : Int) : Int := e * dxW w + n * dyW w
def lenW (w : Int) : Int := dxW w * dxW w + dyW w * dyW w
def okWind (e : Int) : Bool := bIn e (-200000) 200000
theorem len_cases (w : Int) (h : okWay w = true) : lenW w = 1 ∨ lenW w = 2 := by
  rcases way_cases h with rfl | rfl | rfl | rfl | rfl | rfl | rfl | rfl <;> decide
theorem mulw (w e : Int) (h : okWay w = true) (he : okWind e = true) : (-200000 ≤ e * dxW w ∧ e * dxW w ≤ 200000) ∧ (-200000 ≤ e * dyW w ∧ e * dyW w ≤ 200000) := by
  obtain ⟨h1, h2, _⟩ := dx_cases w h
  simp only [okWind, bIn, Bool.and_eq_true, decide_eq_true_eq] at he
  constructor
  · rcases h1 with h | h | h <;> rw [h] <;> omega
  · rcases h2 with h | h | h <;> rw [h] <;> omega
theorem sqb {a M : Int} (h : -M ≤ a ∧ a ≤ M) (hM : 0 ≤ M) : 0 ≤ a * a ∧ a * a ≤ M * M := by
  rcases Int.le_total 0 a with h0 | h0
  · exact ⟨Int.mul_nonneg h0 h0, Int.mul_le_mul h.2 h.2 h0 hM⟩
  · have e : a * a = -a * -a := by rw [Int.neg_mul_neg]
    rw [e]
    exact ⟨Int.mul_nonneg (by omega) (by omega), Int.mul_le_mul (by omega) (by omega) (by omega) hM⟩
theorem lenb {w c : Int} (h : okWay w = true) (hc : 0 ≤ c ∧ c ≤ 300) : (0 ≤ lenW w * c ∧ lenW w * c ≤ 600) ∧ (0 ≤ lenW w * c * c ∧ lenW w * c * c ≤ 180000) := by
  have hs := sqb (M := 300) (a := c) (by omega) (by omega)
  rcases len_cases w h with h | h <;> rw [h]
  · rw [Int.one_mul]; omega
  · rw [Int.mul_assoc]; omega
/-- A wind that is not too strong. -/
def calmB (w : Int) (n : Nd) (e k : Int) : Bool := decide (acrW w e k * acrW w e k ≤ lenW w * n.cross * n.cross) && (decide (aloW w e k ≤ 0) || decide (aloW w e k * aloW w e k ≤ lenW w * n.tail * n.tail))
def gL2 (ok : Lk × Int × Int → Bool) (k : Lk × Int × Int → D) : List D → Option D := orc decL2 ok k
theorem gL2_eq (ok : Lk × Int × Int → Bool) (k : Lk × Int × Int → D) (l : Lk) (h : enGl.sl l.gd = some l.s.glares) {i j : Int} (hok : ok (l, i, j) = true) : gL2 ok k [.agg l.c, .int .i64 i, .int .i64 j] = some (k (l, i, j)) :=
  orc_eq (decL2_eq l h i j) hok
def gL0 (ok : Lk → Bool) (k : Lk → D) : List D → Option D := orc decL0 ok k
theorem gL0_eq (ok : Lk → Bool) (k : Lk → D) (l : Lk) (h : enGl.sl l.gd = some l.s.glares) (hok : ok l = true) : gL0 ok k [.agg l.c] = some (k l) := orc_eq (decL0_eq l h) hok
def gL1 (ok : Lk × Int → Bool) (k : Lk × Int → D) : List D → Option D := orc decL1 ok k
theorem gL1_eq (ok : Lk × Int → Bool) (k : Lk × Int → D) (l : Lk) (h : enGl.sl l.gd = some l.s.glares) {i : Int} (hok : ok (l, i) = true) : gL1 ok k [.agg l.c, .int .i64 i] = some (k (l, i)) :=
  orc_eq (decL1_eq l h i) hok

theorem across_t (l : Lk) (hg : enGl.sl l.gd = some l.s.glares) (e n : Int) (hw : okWay l.p.way = true) (he : okWind e = true) (hn : okWind n = true) :
    Pure Tryz.prog 129 [.agg l.c, .int .i64 e, .int .i64 n] (.int .i64 (acrW l.p.way e n)) := by
  have vg := fun hp => En.view hg hp
  have lg := En.lt hg
  have m1 := mulw _ e hw he
  have m2 := mulw _ n hw hn
  have h1 := wrap_i64 (z := e * dyW l.p.way) (by omega) (by omega)
  have h2 := wrap_i64 (z := n * dxW l.p.way) (by omega) (by omega)
  have h3 := wrap_i64 (z := e * dyW l.p.way - n * dxW l.p.way) (by omega) (by omega)
  refine pure_of_wc (rs := [.tmp 6]) (m := 23) [] o25_ok (by kernel_rfl) Tryz.func129 rfl (by kernel_rfl) rfl rfl (by kernel_rfl) ?_
  simp only [FS, ↓RE, okR, argEnv, Nat.reduceAdd, Nat.reduceSub, Nat.reduceLT, Nat.reduceLeDiff, Nat.reduceEqDiff, reduceIte, gSt_eq hw, ex_tup, h1, h2, h3, acrW]
theorem along_t (l : Lk) (hg : enGl.sl l.gd = some l.s.glares) (e n : Int) (hw : okWay l.p.way = true) (he : okWind e = true) (hn : okWind n = true) :
    Pure Tryz.prog 130 [.agg l.c, .int .i64 e, .int .i64 n] (.int .i64 (aloW l.p.way e n)) := by
  have vg := fun hp => En.view hg hp
  have lg := En.lt hg
  have m1 := mulw _ e hw he
  have m2 := mulw _ n hw hn
  have h1 := wrap_i64 (z := e * dxW l.p.way) (by omega) (by omega)
  have h2 := wrap_i64 (z := n * dyW l.p.way) (by omega) (by omega)
  have h3 := wrap_i64 (z := e * dxW l.p.way + n * dyW l.p.way) (by omega) (by omega)
  refine pure_of_wc (rs := [.tmp 6]) (m := 23) [] o25_ok (by kernel_rfl) Tryz.func130 rfl (by kernel_rfl) rfl rfl (by kernel_rfl) ?_
  simp only [FS, ↓RE, okR, argEnv, Nat.reduceAdd, Nat.reduceSub, Nat.reduceLT, Nat.reduceLeDiff, Nat.reduceEqDiff, reduceIte, gSt_eq hw, ex_tup, h1, h2, h3, aloW]
theorem length_t (l : Lk) (hg : enGl.sl l.gd = some l.s.glares) (hw : okWay l.p.way = true) : Pure Tryz.prog 131 [.agg l.c] (.int .i64 (lenW l.p.way)) := by
  obtain ⟨d1, d2, _⟩ := dx_cases l.p.way hw
  have h1 := wrap_i64 (z := dxW l.p.way * dxW l.p.way) (by rcases d1 with h | h | h <;> rw [h] <;> omega) (by rcases d1 with h | h | h <;> rw [h] <;> omega)
  have h2 := wrap_i64 (z := dyW l.p.way * dyW l.p.way) (by rcases d2 with h | h | h <;> rw [h] <;> omega) (by rcases d2 with h | h | h <;> rw [h] <;> omega)
  have hl := len_cases l.p.way hw
  have h3 := wrap_i64 (z := dxW l.p.way * dxW l.p.way + dyW l.p.way * dyW l.p.way) (by simp only [lenW] at hl; omega) (by simp only [lenW] at hl; omega)
  refine pure_of_wc (rs := [.tmp 2]) (m := 19) [] o25_ok (by kernel_rfl) Tryz.func131 rfl (by kernel_rfl) rfl rfl (by kernel_rfl) ?_
  simp only [FS, ↓RE, okR, argEnv, Nat.reduceAdd, Nat.reduceSub, Nat.reduceLT, Nat.reduceLeDiff, Nat.reduceEqDiff, reduceIte, gSt_eq hw, ex_tup, h1, h2, h3, lenW]
def okWd (q : Lk × Int × Int) : Bool := okWay q.1.p.way && (okWind q.2.1 && okWind q.2.2)
abbrev o26 : List (FuncId × (List D → Option D)) := (129, gL2 okWd fun q => .int .i64 (acrW q.1.p.way q.2.1 q.2.2)) :: (130, gL2 okWd fun q => .int .i64 (aloW q.1.p.way q.2.1 q.2.2)) :: (131, gL0 (fun l => okWay l.p.way) fun l => .int .i64 (lenW l.p.way)) :: o25
theorem o26_ok : OkO Tryz.prog (mkO o26) :=
  mkO_ok (orc_ok fun ds q hd hk => by
    obtain ⟨rfl, hg⟩ := decL2_inv hd
    simp only [okWd, Bool.and_eq_true] at hk
    exact across_t _ hg _ _ hk.1 hk.2.1 hk.2.2) <|
  mkO_ok (orc_ok fun ds q hd hk => by
    obtain ⟨rfl, hg⟩ := decL2_inv hd
    simp only [okWd, Bool.and_eq_true] at hk
    exact along_t _ hg _ _ hk.1 hk.2.1 hk.2.2) <|
  mkO_ok (orc_ok fun ds l hd hk => by
    obtain ⟨rfl, hg⟩ := decL0_inv hd
    exact length_t _ hg hk) o25_ok

theorem calm_t (l : Lk) (hg : enGl.sl l.gd = some l.s.glares) (e n : Int) (hw : okWay l.p.way = true) (he : okWind e = true) (hn : okWind n = true) (hnd : okNd l.n = true) :
    Pure Tryz.prog 86 [.agg l.c, .int .i64 e, .int .i64 n] (.bool (calmB l.p.way l.n e n)) := by
  have vg := fun hp => En.view hg hp
  have lg := En.lt hg
  have m1 := mulw _ e hw he
  have m2 := mulw _ n hw hn
  have hok : okWd (l, e, n) = true := by simp [okWd, hw, he, hn]
  have c1 := gL2_eq okWd (fun q => .int .i64 (acrW q.1.p.way q.2.1 q.2.2)) l hg hok
  have c2 := gL2_eq okWd (fun q => .int .i64 (aloW q.1.p.way q.2.1 q.2.2)) l hg hok
  have c3 := gL0_eq (fun l => okWay l.p.way) (fun l => .int .i64 (lenW l.p.way)) l hg hw
  have hcr : (0 ≤ l.n.cross ∧ l.n.cross ≤ 300) ∧ (0 ≤ l.n.tail ∧ l.n.tail ≤ 300) := by
    simp only [okNd, Bool.and_eq_true, bIn, decide_eq_true_eq] at hnd
    exact ⟨hnd.2.2.1, hnd.2.2.2.1⟩
  have b1 := sqb (a := acrW l.p.way e n) (M := 400000) (by simp only [acrW]; omega) (by omega)
  have b2 := sqb (a := aloW l.p.way e n) (M := 400000) (by simp only [aloW]; omega) (by omega)
  have k1 := lenb hw hcr.1
  have k2 := lenb hw hcr.2
  have h1 := wrap_i64 (z := acrW l.p.way e n * acrW l.p.way e n) (by omega) (by omega)
  have h2 := wrap_i64 (z := aloW l.p.way e n * aloW l.p.way e n) (by omega) (by omega)
  have h3 := wrap_i64 (z := lenW l.p.way * l.n.cross) (by omega) (by omega)
  have h4 := wrap_i64 (z := lenW l.p.way * l.n.cross * l.n.cross) (by omega) (by omega)
  have h5 := wrap_i64 (z := lenW l.p.way * l.n.tail) (by omega) (by omega)
  have h6 := wrap_i64 (z := lenW l.p.way * l.n.tail * l.n.tail) (by omega) (by omega)
  simp only [Lk.c, Se.cr, Wx.c, gaC] at c1 c2 c3
  refine pure_of_wc (rs := [.tmp 6]) (m := 51) [(1, [(10, false, false, [])]), (2, [(35, false, false, [])])] o26_ok (by kernel_rfl) Tryz.func86 rfl (by kernel_rfl) rfl rfl (by kernel_rfl) ?_
  cases q1 : decide (acrW l.p.way e n * acrW l.p.way e n ≤ lenW l.p.way * l.n.cross * l.n.cross)
  · simp only [FS, ↓RE, okR, argEnv, Nat.reduceAdd, Nat.reduceSub, Nat.reduceLT, Nat.reduceLeDiff, Nat.reduceEqDiff, reduceIte, vg, lg, c1, c2, c3, h1, h2, h3, h4, q1]
    simp [calmB, q1]
  cases q2 : decide (aloW l.p.way e n ≤ 0)
  · simp only [FS, ↓RE, okR, argEnv, Nat.reduceAdd, Nat.reduceSub, Nat.reduceLT, Nat.reduceLeDiff, Nat.reduceEqDiff, reduceIte, vg, lg, c1, c2, c3, h1, h2, h3, h4, h5, h6, q1, q2]
    simp [calmB, q1, q2]
  · simp only [FS, ↓RE, okR, argEnv, Nat.reduceAdd, Nat.reduceSub, Nat.reduceLT, Nat.reduceLeDiff, Nat.reduceEqDiff, reduceIte, vg, lg, c1, c2, c3, h1, h2, h3, h4, h5, h6, q1, q2]
    simp [calmB, q1, q2]
end Go.Sx
