/- Own work: contracts of functions, used in the proof of a law. -/
import Derived.Test.YtjhoplbdpdbgaaaGreatDoorSxC20z
set_option linter.unusedVariables false
set_option linter.unusedSimpArgs false
namespace Go.Sx
open Go.Proofs
set_option maxRecDepth 10000

def dxW (w : Int) : Int := [0, 1, 1, 1, 0, -1, -1, -1].getD (w - 1).toNat 0
def dyW (w : Int) : Int := [1, 1, 0, -1, -1, -1, 0, 1].getD (w - 1).toNat 0
theorem way_cases {w : Int} (h : okWay w = true) : w = 1 ∨ w = 2 ∨ w = 3 ∨ w = 4 ∨ w = 5 ∨ w = 6 ∨ w = 7 ∨ w = 8 := by
  simp only [okWay, Bool.and_eq_true, decide_eq_true_eq] at h; omega
theorem dx_cases (w : Int) (h : okWay w = true) : (dxW w = 0 ∨ dxW w = 1 ∨ dxW w = -1) ∧ (dyW w = 0 ∨ dyW w = 1 ∨ dyW w = -1) ∧ ¬(dxW w = 0 ∧ dyW w = 0) := by
  rcases way_cases h with rfl | rfl | rfl | rfl | rfl | rfl | rfl | rfl <;> decide
def tabS : List (Nat × List (Nat × List Ann)) := [(32, [(3, [(12, false, false, [])])])] ++ [(114, [(2, [(6, false, false, [])])])]
theorem tabS_ok : (tabS.all fun p => bodyOk Tryz.prog p.1 p.2) = true := by kernel_rfl
theorem steps_t (w : Int) (h : okWay w = true) : Pure Tryz.prog 114 [.int .i64 w] (.tup [.int .i64 (dxW w), .int .i64 (dyW w)]) := by
  rcases way_cases h with rfl | rfl | rfl | rfl | rfl | rfl | rfl | rfl <;> exact pure_of_ev (fuel := 1000) (n := 20) (by kernel_rfl) tabS_ok orC_ok orD_ok (by kernel_rfl)
theorem rsteps_t (w : Int) (h : okWay w = true) : Pure Tryz.prog 32 [.int .i64 w] (.tup [.int .i64 (dxW w), .int .i64 (dyW w)]) := by
  rcases way_cases h with rfl | rfl | rfl | rfl | rfl | rfl | rfl | rfl <;> exact pure_of_ev (fuel := 1000) (n := 20) (by kernel_rfl) tabS_ok orC_ok orD_ok (by kernel_rfl)
def gSt : List D → Option D
  | [.int .i64 w] => if okWay w then some (.tup [.int .i64 (dxW w), .int .i64 (dyW w)]) else none
  | _ => none
theorem gSt_eq {w : Int} (h : okWay w = true) : gSt [.int .i64 w] = some (.tup [.int .i64 (dxW w), .int .i64 (dyW w)]) := by simp [gSt, h]
theorem gSt_inv {ds : List D} {r : D} (h : gSt ds = some r) : ∃ w, okWay w = true ∧ ds = [.int .i64 w] ∧ r = .tup [.int .i64 (dxW w), .int .i64 (dyW w)] := by
  unfold gSt at h
  split at h
  · split at h
    · rename_i hw; cases h; exact ⟨_, hw, rfl, rfl⟩
    · cases h
  · cases h

/-! Oracles of weather and of needs -/
def decWx : List D → Option Wx
  | [.agg [.int .i64 a, .int .i64 b, .int .i64 c, .sl r1, .int .i64 d, .int .i64 e, .int .i64 f, .sl r2, .int .i64 g, .int .i64 h, .int .i64 i, .sl r3, .int .i64 j, .int .i64 k, .int .i64 l, .sl r4, .int .i64 m, .int .i64 n, .int .i64 o, .sl r5]] =>
    match decRds r1, decRds r2, decRds r3, decRds r4, decRds r5 with
    | some r1, some r2, some r3, some r4, some r5 => some ⟨⟨a, b, c, r1⟩, ⟨d, e, f, r2⟩, ⟨g, h, i, r3⟩, ⟨j, k, l, r4⟩, ⟨m, n, o, r5⟩⟩
    | _, _, _, _, _ => none
  | _ => none
theorem decWx_eq (w : Wx) : decWx [.agg (w.c [])] = some w := by
  simp [decWx, decRds_map]
theorem decWx_inv {ds : List D} {w : Wx} (h : decWx ds = some w) : ds = [.agg (w.c [])] := by
  unfold decWx at h
  split at h
  · split at h
    · rename_i h1 h2 h3 h4 h5
      cases h
      simp only [Wx.c, gaC]
      rw [decRds_inv h1, decRds_inv h2, decRds_inv h3, decRds_inv h4, decRds_inv h5]
    · cases h
  · cases h
def wxLen (w : Wx) : Bool := decide (w.tide.rs.length ≤ 9223372036854775807) && decide (w.east.rs.length ≤ 9223372036854775807) && decide (w.north.rs.length ≤ 9223372036854775807) && decide (w.wave.rs.length ≤ 9223372036854775807) && decide (w.swell.rs.length ≤ 9223372036854775807)
theorem wxLen_iff {w : Wx} : wxLen w = true ↔ WxL w := by
  simp only [wxLen, Bool.and_eq_true, decide_eq_true_eq]
  exact ⟨fun ⟨⟨⟨⟨a, b⟩, c⟩, d⟩, e⟩ => ⟨a, b, c, d, e⟩, fun ⟨a, b, c, d, e⟩ => ⟨⟨⟨⟨a, b⟩, c⟩, d⟩, e⟩⟩
def gWx : List D → Option D := orc decWx wxLen fun w => .bool (okWx w)
theorem gWx_eq {w : Wx} (h : WxL w) : gWx [.agg (w.c [])] = some (.bool (okWx w)) := orc_eq (decWx_eq w) (wxLen_iff.2 h)
def decNd : List D → Option Nd
  | [.agg [.int .i64 a, .int .i64 b, .int .i64 c, .int .i64 d, .int .i64 e, .int .i64 f, .int .i64 g]] => some ⟨a, b, c, d, e, f, g⟩
  | _ => none
theorem decNd_inv {ds : List D} {n : Nd} (h : decNd ds = some n) : ds = [.agg n.c] := by
  unfold decNd at h
  split at h
  · cases h; rfl
  · cases h
def gNd : List D → Option D := orc decNd (fun _ => true) fun n => .bool (okNd n)
theorem gNd_eq (n : Nd) : gNd [.agg n.c] = some (.bool (okNd n)) := orc_eq (a := n) rfl rfl
abbrev o21 : List (FuncId × (List D → Option D)) := (114, gSt) :: (32, gSt) :: (94, gWx) :: (42, gWx) :: (60, gNd) :: (17, gNd) :: o20
theorem o21_ok : OkO Tryz.prog (mkO o21) :=
  mkO_ok (fun ds r h => by obtain ⟨w, hw, rfl, rfl⟩ := gSt_inv h; exact steps_t w hw) <|
  mkO_ok (fun ds r h => by obtain ⟨w, hw, rfl, rfl⟩ := gSt_inv h; exact rsteps_t w hw) <|
  mkO_ok (orc_ok fun ds w hd hk => by rw [decWx_inv hd]; exact weather_t w (wxLen_iff.1 hk)) <|
  mkO_ok (orc_ok fun ds w hd hk => by rw [decWx_inv hd]; exact rweather_t w (wxLen_iff.1 hk)) <|
  mkO_ok (orc_ok fun ds n hd hk => by rw [decNd_inv hd]; exact need_t n) <|
  mkO_ok (orc_ok fun ds n hd hk => by rw [decNd_inv hd]; exact rneed_t n) o20_ok

/-- A strip that is as defined, of a sea of whatever size within the bounds. -/
def okSp (s : Se) (p : Sp) : Bool := okWay p.way && (bIn p.cells 1 12 && (bIn p.x 0 (s.wide - 1) && (bIn p.y 0 (s.deep - 1) && (bIn (p.x + dxW p.way * (p.cells - 1)) 0 (s.wide - 1) && bIn (p.y + dyW p.way * (p.cells - 1)) 0 (s.deep - 1)))))
theorem strip_t (s : Se) (p : Sp) (gd : D) (hg : ∀ m, D.lt m gd = true) (hv : ∀ h, view h gd = gd) (hw : 1 ≤ s.wide ∧ s.wide ≤ 12) (hd : 1 ≤ s.deep ∧ s.deep ≤ 12) : Pure Tryz.prog 63 [.agg (s.c gd), .agg p.c] (.bool (okSp s p)) := by
  refine pure_of_wc (rs := [.tmp 4]) (m := 71) [] o21_ok (by kernel_rfl) Tryz.func63 rfl (by kernel_rfl) rfl rfl (by kernel_rfl) ?_
  have h1 := wrap_i64 (z := s.wide - 1) (by omega) (by omega)
  have h2 := wrap_i64 (z := s.deep - 1) (by omega) (by omega)
  cases hy : okWay p.way
  · simp only [FS, ↓RE, okR, argEnv, Nat.reduceAdd, Nat.reduceSub, Nat.reduceLT, Nat.reduceLeDiff, Nat.reduceEqDiff, reduceIte, gWy_eq, hy]
    simp [okSp, hy]
  cases hc : bIn p.cells 1 12
  · simp only [FS, ↓RE, okR, argEnv, Nat.reduceAdd, Nat.reduceSub, Nat.reduceLT, Nat.reduceLeDiff, Nat.reduceEqDiff, reduceIte, gWy_eq, hy, gIn_eq, hc]
    simp [okSp, hy, hc]
  cases hx : bIn p.x 0 (s.wide - 1)
  · simp only [FS, ↓RE, okR, argEnv, Nat.reduceAdd, Nat.reduceSub, Nat.reduceLT, Nat.reduceLeDiff, Nat.reduceEqDiff, reduceIte, gWy_eq, hy, gIn_eq, hc, h1, hx]
    simp [okSp, hy, hc, hx]
  cases hyy : bIn p.y 0 (s.deep - 1)
  · simp only [FS, ↓RE, okR, argEnv, Nat.reduceAdd, Nat.reduceSub, Nat.reduceLT, Nat.reduceLeDiff, Nat.reduceEqDiff, reduceIte, gWy_eq, hy, gIn_eq, hc, h1, hx, h2, hyy]
    simp [okSp, hy, hc, hx, hyy]
  obtain ⟨hdx, hdy, _⟩ := dx_cases p.way hy
  have hc' : 1 ≤ p.cells ∧ p.cells ≤ 12 := by simpa [bIn] using hc
  have hx' : 0 ≤ p.x ∧ p.x ≤ s.wide - 1 := by simpa [bIn] using hx
  have hy' : 0 ≤ p.y ∧ p.y ≤ s.deep - 1 := by simpa [bIn] using hyy
  have h3 := wrap_i64 (z := p.cells - 1) (by omega) (by omega)
  have h4 := wrap_i64 (z := dxW p.way * (p.cells - 1)) (by rcases hdx with h | h | h <;> rw [h] <;> omega) (by rcases hdx with h | h | h <;> rw [h] <;> omega)
  have h5 := wrap_i64 (z := dyW p.way * (p.cells - 1)) (by rcases hdy with h | h | h <;> rw [h] <;> omega) (by rcases hdy with h | h | h <;> rw [h] <;> omega)
  have h6 := wrap_i64 (z := p.x + dxW p.way * (p.cells - 1)) (by rcases hdx with h | h | h <;> rw [h] <;> omega) (by rcases hdx with h | h | h <;> rw [h] <;> omega)
  have h7 := wrap_i64 (z := p.y + dyW p.way * (p.cells - 1)) (by rcases hdy with h | h | h <;> rw [h] <;> omega) (by rcases hdy with h | h | h <;> rw [h] <;> omega)
  simp only [FS, ↓RE, okR, argEnv, Nat.reduceAdd, Nat.reduceSub, Nat.reduceLT, Nat.reduceLeDiff, Nat.reduceEqDiff, reduceIte, gWy_eq, hy, gIn_eq, hc, h1, hx, h2, hyy, gSt_eq hy, ex_tup, h3, h4, h5, h6, h7]
  cases h8 : bIn (p.x + dxW p.way * (p.cells - 1)) 0 (s.wide - 1) <;> cases h9 : bIn (p.y + dyW p.way * (p.cells - 1)) 0 (s.deep - 1) <;> simp [BR, okSp, hy, hc, hx, hyy, h8, h9]
theorem rstrip_t (s : Se) (p : Sp) (gd : D) (hg : ∀ m, D.lt m gd = true) (hv : ∀ h, view h gd = gd) (hw : 1 ≤ s.wide ∧ s.wide ≤ 12) (hd : 1 ≤ s.deep ∧ s.deep ≤ 12) : Pure Tryz.prog 18 [.agg (s.c gd), .agg p.c] (.bool (okSp s p)) := by
  refine pure_of_wc (rs := [.tmp 4]) (m := 71) [] o21_ok (by kernel_rfl) Tryz.func18 rfl (by kernel_rfl) rfl rfl (by kernel_rfl) ?_
  have h1 := wrap_i64 (z := s.wide - 1) (by omega) (by omega)
  have h2 := wrap_i64 (z := s.deep - 1) (by omega) (by omega)
  cases hy : okWay p.way
  · simp only [FS, ↓RE, okR, argEnv, Nat.reduceAdd, Nat.reduceSub, Nat.reduceLT, Nat.reduceLeDiff, Nat.reduceEqDiff, reduceIte, gWy_eq, hy]
    simp [okSp, hy]
  cases hc : bIn p.cells 1 12
  · simp only [FS, ↓RE, okR, argEnv, Nat.reduceAdd, Nat.reduceSub, Nat.reduceLT, Nat.reduceLeDiff, Nat.reduceEqDiff, reduceIte, gWy_eq, hy, gIn_eq, hc]
    simp [okSp, hy, hc]
  cases hx : bIn p.x 0 (s.wide - 1)
  · simp only [FS, ↓RE, okR, argEnv, Nat.reduceAdd, Nat.reduceSub, Nat.reduceLT, Nat.reduceLeDiff, Nat.reduceEqDiff, reduceIte, gWy_eq, hy, gIn_eq, hc, h1, hx]
    simp [okSp, hy, hc, hx]
  cases hyy : bIn p.y 0 (s.deep - 1)
  · simp only [FS, ↓RE, okR, argEnv, Nat.reduceAdd, Nat.reduceSub, Nat.reduceLT, Nat.reduceLeDiff, Nat.reduceEqDiff, reduceIte, gWy_eq, hy, gIn_eq, hc, h1, hx, h2, hyy]
    simp [okSp, hy, hc, hx, hyy]
  obtain ⟨hdx, hdy, _⟩ := dx_cases p.way hy
  have hc' : 1 ≤ p.cells ∧ p.cells ≤ 12 := by simpa [bIn] using hc
  have hx' : 0 ≤ p.x ∧ p.x ≤ s.wide - 1 := by simpa [bIn] using hx
  have hy' : 0 ≤ p.y ∧ p.y ≤ s.deep - 1 := by simpa [bIn] using hyy
  have h3 := wrap_i64 (z := p.cells - 1) (by omega) (by omega)
  have h4 := wrap_i64 (z := dxW p.way * (p.cells - 1)) (by rcases hdx with h | h | h <;> rw [h] <;> omega) (by rcases hdx with h | h | h <;> rw [h] <;> omega)
  have h5 := wrap_i64 (z := dyW p.way * (p.cells - 1)) (by rcases hdy with h | h | h <;> rw [h] <;> omega) (by rcases hdy with h | h | h <;> rw [h] <;> omega)
  have h6 := wrap_i64 (z := p.x + dxW p.way * (p.cells - 1)) (by rcases hdx with h | h | h <;> rw [h] <;> omega) (by rcases hdx with h | h | h <;> rw [h] <;> omega)
  have h7 := wrap_i64 (z := p.y + dyW p.way * (p.cells - 1)) (by rcases hdy with h | h | h <;> rw [h] <;> omega) (by rcases hdy with h | h | h <;> rw [h] <;> omega)
  simp only [FS, ↓RE, okR, argEnv, Nat.reduceAdd, Nat.reduceSub, Nat.reduceLT, Nat.reduceLeDiff, Nat.reduceEqDiff, reduceIte, gWy_eq, hy, gIn_eq, hc, h1, hx, h2, hyy, gSt_eq hy, ex_tup, h3, h4, h5, h6, h7]
  cases h8 : bIn (p.x + dxW p.way * (p.cells - 1)) 0 (s.wide - 1) <;> cases h9 : bIn (p.y + dyW p.way * (p.cells - 1)) 0 (s.deep - 1) <;> simp [BR, okSp, hy, hc, hx, hyy, h8, h9]
end Go.Sx
