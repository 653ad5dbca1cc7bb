/- Own work: a calculus of contracts for the programs of this kit: parts SxC20t, SxC21t, SxC22t, SxC23t, SxC24t, SxC25t, SxC26t, SxC27t, SxC28t, SxC29t. -/
import Derived.Test.YtaifjmjooapmhaaGreatSxTa
set_option linter.unusedVariables false
set_option linter.unusedSimpArgs false
namespace Go.Sx
open Go.Proofs
set_option maxRecDepth 10000

structure Bt where
 x : Int × Int
 y : Int × Int
 t : Int × Int
 sure : Bool
structure Gl where
 way : Int
 t : Int × Int
def enBt : En Bt where
 d b := [.int .i64 b.x.1, .int .i64 b.x.2, .int .i64 b.y.1, .int .i64 b.y.2, .int .i64 b.t.1, .int .i64 b.t.2, .bool b.sure]
 dec | [.int .i64 a, .int .i64 b, .int .i64 c, .int .i64 d, .int .i64 e, .int .i64 f, .bool s] => some ⟨(a, b), (c, d), (e, f), s⟩ | _ => none
 h1 _ := rfl
 h2 c a h := by
  split at h
  ·cases h; rfl
  ·cases h
 sz := 7
 hsz _ := rfl
def enGl : En Gl where
 d g := [.int .i64 g.way, .int .i64 g.t.1, .int .i64 g.t.2]
 dec | [.int .i64 a, .int .i64 b, .int .i64 c] => some ⟨a, (b, c)⟩ | _ => none
 h1 _ := rfl
 h2 c a h := by
  split at h
  ·cases h; rfl
  ·cases h
 sz := 3
 hsz _ := rfl
structure Wx where
 tide : Ga
 east : Ga
 north : Ga
 wave : Ga
 swell : Ga
structure Se where
 wide : Int
 deep : Int
 depths : List (Int × Int)
 w : Wx
 boats : List Bt
 glares : List Gl
abbrev gaC (g : Ga) (r : List D) : List D := .int .i64 g.rate :: .int .i64 g.least :: .int .i64 g.most :: .sl (g.rs.map Rd.d) :: r
abbrev Wx.c (w : Wx) (r : List D) : List D := gaC w.tide (gaC w.east (gaC w.north (gaC w.wave (gaC w.swell r))))
abbrev Se.cr (s : Se) (gd : D) (r : List D) : List D := .int .i64 s.wide :: .int .i64 s.deep :: .sl (s.depths.map enS.d) :: s.w.c (.sl (s.boats.map enBt.d) :: gd :: r)
abbrev Se.c (s : Se) (gd : D) : List D := s.cr gd []
structure Sp where
 x : Int
 y : Int
 way : Int
 cells : Int
abbrev Sp.c (p : Sp) : List D := [.int .i64 p.x, .int .i64 p.y, .int .i64 p.way, .int .i64 p.cells]
structure Nd where
 draught : Int
 run : Int
 cross : Int
 tail : Int
 calm : Int
 wave : Int
 swell : Int
abbrev Nd.c (n : Nd) : List D := [.int .i64 n.draught, .int .i64 n.run, .int .i64 n.cross, .int .i64 n.tail, .int .i64 n.calm, .int .i64 n.wave, .int .i64 n.swell]

def okTimes (t : Int × Int) : Bool := bSpan t.1 t.2 0 1440
def okWay (w : Int) : Bool := decide (1 ≤ w) && decide (w ≤ 8)
def okB2 (g : Ga) (lo hi : Int) : Bool := gaOk g && (decide (lo ≤ g.least) && decide (g.most ≤ hi))
def okWx (w : Wx) : Bool := okB2 w.tide (-2000) 2000 && (okB2 w.east (-300) 300 && (okB2 w.north (-300) 300 && (okB2 w.wave 0 2000 && okB2 w.swell 0 2000)))
def okNd (n : Nd) : Bool := bIn n.draught 0 5000 && (bIn n.run 1 12 && (bIn n.cross 0 300 && (bIn n.tail 0 300 && (bIn n.calm 0 n.wave && (decide (n.wave ≤ 2000) && bIn n.swell 0 2000)))))

theorem times_t (a b : Int) : Pure Tryz.prog 54 [.agg [.int .i64 a, .int .i64 b]] (.bool (okTimes (a, b))) := by
 refine pure_of_wc (rs := [.tmp 2]) (m := 5) [] o9_ok (by kernel_rfl) Tryz.func54 rfl (by kernel_rfl) rfl rfl (by kernel_rfl) ?_
 simp only [FS, ↓RE, okR, argEnv, Nat.reduceAdd, Nat.reduceSub, Nat.reduceLT, Nat.reduceLeDiff, Nat.reduceEqDiff, reduceIte, gSpan_eq, okTimes]
theorem rtimes_t (a b : Int) : Pure Tryz.prog 41 [.agg [.int .i64 a, .int .i64 b]] (.bool (okTimes (a, b))) := by
 refine pure_of_wc (rs := [.tmp 2]) (m := 5) [] o9_ok (by kernel_rfl) Tryz.func41 rfl (by kernel_rfl) rfl rfl (by kernel_rfl) ?_
 simp only [FS, ↓RE, okR, argEnv, Nat.reduceAdd, Nat.reduceSub, Nat.reduceLT, Nat.reduceLeDiff, Nat.reduceEqDiff, reduceIte, gSpan_eq, okTimes]
theorem way_t (w : Int) : Pure Tryz.prog 57 [.int .i64 w] (.bool (okWay w)) := by
 refine pure_of_wc (rs := [.tmp 2]) (m := 9) [] o9_ok (by kernel_rfl) Tryz.func57 rfl (by kernel_rfl) rfl rfl (by kernel_rfl) ?_
 simp only [FS, ↓RE, okR, argEnv, Nat.reduceAdd, Nat.reduceSub, Nat.reduceLT, Nat.reduceLeDiff, Nat.reduceEqDiff, reduceIte]
 cases h1 : decide (1 ≤ w) <;> cases h2 : decide (w ≤ 8) <;> simp [BR, okWay, h1, h2]
theorem rway_t (w : Int) : Pure Tryz.prog 42 [.int .i64 w] (.bool (okWay w)) := by
 refine pure_of_wc (rs := [.tmp 2]) (m := 9) [] o9_ok (by kernel_rfl) Tryz.func42 rfl (by kernel_rfl) rfl rfl (by kernel_rfl) ?_
 simp only [FS, ↓RE, okR, argEnv, Nat.reduceAdd, Nat.reduceSub, Nat.reduceLT, Nat.reduceLeDiff, Nat.reduceEqDiff, reduceIte]
 cases h1 : decide (1 ≤ w) <;> cases h2 : decide (w ≤ 8) <;> simp [BR, okWay, h1, h2]
def gTi : List D → Option D
 | [.agg [.int .i64 a, .int .i64 b]] => some (.bool (okTimes (a, b)))
 | _ => none
theorem gTi_eq (a b : Int) : gTi [.agg [.int .i64 a, .int .i64 b]] = some (.bool (okTimes (a, b))) := (rfl)
theorem gTi_inv {ds : List D} {r : D} (h : gTi ds = some r) : ∃ a b, ds = [.agg [.int .i64 a, .int .i64 b]] ∧ r = .bool (okTimes (a, b)) := by
 unfold gTi at h
 split at h
 ·cases h; exact ⟨_, _, rfl, rfl⟩
 ·cases h
def gWy : List D → Option D
 | [.int .i64 a] => some (.bool (okWay a))
 | _ => none
theorem gWy_eq (a : Int) : gWy [.int .i64 a] = some (.bool (okWay a)) := (rfl)
theorem gWy_inv {ds : List D} {r : D} (h : gWy ds = some r) : ∃ a, ds = [.int .i64 a] ∧ r = .bool (okWay a) := by
 unfold gWy at h
 split at h
 ·cases h; exact ⟨_, rfl, rfl⟩
 ·cases h

theorem bounded_t (g : Ga) (lo hi : Int) (hl : g.rs.length ≤ 9223372036854775807) : Pure Tryz.prog 75 [.agg g.c, .int .i64 lo, .int .i64 hi] (.bool (okB2 g lo hi)) := by
 obtain ⟨a, b, c, rs⟩ := g
 dsimp only at hl
 simp only [Ga.c]
 refine pure_of_wc (rs := [.tmp 6]) (m := 21) [] o9_ok (by kernel_rfl) Tryz.func75 rfl (by kernel_rfl) rfl rfl (by kernel_rfl) ?_
 simp only [FS, ↓RE, okR, argEnv, Nat.reduceAdd, Nat.reduceSub, Nat.reduceLT, Nat.reduceLeDiff, Nat.reduceEqDiff, reduceIte, gGa_eq _ _ _ _ hl]
 cases h0 : gaOk ⟨a, b, c, rs⟩ <;> cases h1 : decide (lo ≤ b) <;> cases h2 : decide (c ≤ hi) <;> simp [BR, okB2, h0, h1, h2]
theorem within_t (g : Ga) (lo hi : Int) (hl : g.rs.length ≤ 9223372036854775807) : Pure Tryz.prog 65 [.agg g.c, .int .i64 lo, .int .i64 hi] (.bool (okB2 g lo hi)) := by
 obtain ⟨a, b, c, rs⟩ := g
 dsimp only at hl
 simp only [Ga.c]
 refine pure_of_wc (rs := [.tmp 6]) (m := 21) [] o9_ok (by kernel_rfl) Tryz.func65 rfl (by kernel_rfl) rfl rfl (by kernel_rfl) ?_
 simp only [FS, ↓RE, okR, argEnv, Nat.reduceAdd, Nat.reduceSub, Nat.reduceLT, Nat.reduceLeDiff, Nat.reduceEqDiff, reduceIte, gGa_eq _ _ _ _ hl]
 cases h0 : gaOk ⟨a, b, c, rs⟩ <;> cases h1 : decide (lo ≤ b) <;> cases h2 : decide (c ≤ hi) <;> simp [BR, okB2, h0, h1, h2]
def gB2 : List D → Option D
 | [.agg [.int .i64 a, .int .i64 b, .int .i64 c, .sl es], .int .i64 lo, .int .i64 hi] => match decRds es with
  | some rs => if rs.length ≤ 9223372036854775807 then some (.bool (okB2 ⟨a, b, c, rs⟩ lo hi)) else none
  | none => none
 | _ => none
theorem gB2_eq (a b c lo hi : Int) {rs : List Rd} (hl : rs.length ≤ 9223372036854775807) : gB2 [.agg [.int .i64 a, .int .i64 b, .int .i64 c, .sl (rs.map Rd.d)], .int .i64 lo, .int .i64 hi] = some (.bool (okB2 ⟨a, b, c, rs⟩ lo hi)) := by
 simp [gB2, decRds_map, hl]
theorem gB2_inv {ds : List D} {r : D} (h : gB2 ds = some r) : ∃ (g : Ga) (lo hi : Int), g.rs.length ≤ 9223372036854775807 ∧ ds = [.agg g.c, .int .i64 lo, .int .i64 hi] ∧ r = .bool (okB2 g lo hi) := by
 unfold gB2 at h
 split at h
 ·split at h
  ·rename_i rs hrs
   split at h
   ·rename_i hc
    cases h
    exact ⟨⟨_, _, _, rs⟩, _, _, hc, by rw [decRds_inv hrs]; rfl, rfl⟩
   ·cases h
  ·cases h
 ·cases h
abbrev o20 : List (FuncId × (List D → Option D)) := (54, gTi) :: (41, gTi) :: (57, gWy) :: (42, gWy) :: (75, gB2) :: (65, gB2) :: o9

theorem o20_ok : OkO Tryz.prog (mkO o20) := 
 mkO_ok (fun ds r h => by obtain ⟨a, b, rfl, rfl⟩ := gTi_inv h; exact times_t a b) <|
 mkO_ok (fun ds r h => by obtain ⟨a, b, rfl, rfl⟩ := gTi_inv h; exact rtimes_t a b) <|
 mkO_ok (fun ds r h => by obtain ⟨a, rfl, rfl⟩ := gWy_inv h; exact way_t a) <|
 mkO_ok (fun ds r h => by obtain ⟨a, rfl, rfl⟩ := gWy_inv h; exact rway_t a) <|
 mkO_ok (fun ds r h => by obtain ⟨g, lo, hi, hl, rfl, rfl⟩ := gB2_inv h; exact bounded_t g lo hi hl) <|
 mkO_ok (fun ds r h => by obtain ⟨g, lo, hi, hl, rfl, rfl⟩ := gB2_inv h; exact within_t g lo hi hl) <| o9_ok

structure WxL (w : Wx) : Prop where
 tide : w.tide.rs.length ≤ 9223372036854775807
 east : w.east.rs.length ≤ 9223372036854775807
 north : w.north.rs.length ≤ 9223372036854775807
 wave : w.wave.rs.length ≤ 9223372036854775807
 swell : w.swell.rs.length ≤ 9223372036854775807

theorem weather_t (w : Wx) (h : WxL w) : Pure Tryz.prog 52 [.agg (w.c [])] (.bool (okWx w)) := by
 refine pure_of_wc (rs := [.tmp 2]) (m := 26) [] o20_ok (by kernel_rfl) Tryz.func52 rfl (by kernel_rfl) rfl rfl (by kernel_rfl) ?_
 simp only [FS, ↓RE, okR, argEnv, Nat.reduceAdd, Nat.reduceSub, Nat.reduceLT, Nat.reduceLeDiff, Nat.reduceEqDiff, reduceIte, gB2_eq _ _ _ _ _ h.tide, gB2_eq _ _ _ _ _ h.east, gB2_eq _ _ _ _ _ h.north, gB2_eq _ _ _ _ _ h.wave, gB2_eq _ _ _ _ _ h.swell]
 cases h0 : okB2 w.tide (-2000) 2000 <;> cases h1 : okB2 w.east (-300) 300 <;> cases h2 : okB2 w.north (-300) 300 <;> cases h3 : okB2 w.wave 0 2000 <;> cases h4 : okB2 w.swell 0 2000 <;> simp [BR, okWx, h0, h1, h2, h3, h4]
theorem rweather_t (w : Wx) (h : WxL w) : Pure Tryz.prog 39 [.agg (w.c [])] (.bool (okWx w)) := by
 refine pure_of_wc (rs := [.tmp 2]) (m := 26) [] o20_ok (by kernel_rfl) Tryz.func39 rfl (by kernel_rfl) rfl rfl (by kernel_rfl) ?_
 simp only [FS, ↓RE, okR, argEnv, Nat.reduceAdd, Nat.reduceSub, Nat.reduceLT, Nat.reduceLeDiff, Nat.reduceEqDiff, reduceIte, gB2_eq _ _ _ _ _ h.tide, gB2_eq _ _ _ _ _ h.east, gB2_eq _ _ _ _ _ h.north, gB2_eq _ _ _ _ _ h.wave, gB2_eq _ _ _ _ _ h.swell]
 cases h0 : okB2 w.tide (-2000) 2000 <;> cases h1 : okB2 w.east (-300) 300 <;> cases h2 : okB2 w.north (-300) 300 <;> cases h3 : okB2 w.wave 0 2000 <;> cases h4 : okB2 w.swell 0 2000 <;> simp [BR, okWx, h0, h1, h2, h3, h4]

end Go.Sx

namespace Go.Sx
open Go.Proofs
set_option maxRecDepth 10000

def dxW (w : Int) : Int := [0, 1, 1, 1, 0, -1, -1, -1].getD (w - 1).toNat 0
def dyW (w : Int) : Int := [1, 1, 0, -1, -1, -1, 0, 1].getD (w - 1).toNat 0
theorem way_cases {w : Int} (h : okWay w = true) : w = 1 ∨ w = 2 ∨ w = 3 ∨ w = 4 ∨ w = 5 ∨ w = 6 ∨ w = 7 ∨ w = 8 := by
 simp only [okWay, Bool.and_eq_true, decide_eq_true_eq] at h; omega
theorem dx_cases (w : Int) (h : okWay w = true) : (dxW w = 0 ∨ dxW w = 1 ∨ dxW w = -1) ∧ (dyW w = 0 ∨ dyW w = 1 ∨ dyW w = -1) ∧ ¬(dxW w = 0 ∧ dyW w = 0) := by
 rcases way_cases h with rfl | rfl | rfl | rfl | rfl | rfl | rfl | rfl <;> decide
def tabS : List (Nat × List (Nat × List Ann)) := [(58, [(2, [(6, false, false, [])])])]
theorem tabS_ok : (tabS.all fun p => bodyOk Tryz.prog p.1 p.2) = true := by kernel_rfl
theorem steps_t (w : Int) (h : okWay w = true) : Pure Tryz.prog 58 [.int .i64 w] (.tup [.int .i64 (dxW w), .int .i64 (dyW w)]) := by
 rcases way_cases h with rfl | rfl | rfl | rfl | rfl | rfl | rfl | rfl <;> exact pure_of_ev (fuel := 1000) (n := 20) (by kernel_rfl) tabS_ok orC_ok orD_ok (by kernel_rfl)
def gSt : List D → Option D
 | [.int .i64 w] => if okWay w then some (.tup [.int .i64 (dxW w), .int .i64 (dyW w)]) else none
 | _ => none
theorem gSt_eq {w : Int} (h : okWay w = true) : gSt [.int .i64 w] = some (.tup [.int .i64 (dxW w), .int .i64 (dyW w)]) := by simp [gSt, h]
theorem gSt_inv {ds : List D} {r : D} (h : gSt ds = some r) : ∃ w, okWay w = true ∧ ds = [.int .i64 w] ∧ r = .tup [.int .i64 (dxW w), .int .i64 (dyW w)] := by
 unfold gSt at h
 split at h
 ·split at h
  ·rename_i hw; cases h; exact ⟨_, hw, rfl, rfl⟩
  ·cases h
 ·cases h

def decWx : List D → Option Wx
 | [.agg [.int .i64 a, .int .i64 b, .int .i64 c, .sl r1, .int .i64 d, .int .i64 e, .int .i64 f, .sl r2, .int .i64 g, .int .i64 h, .int .i64 i, .sl r3, .int .i64 j, .int .i64 k, .int .i64 l, .sl r4, .int .i64 m, .int .i64 n, .int .i64 o, .sl r5]] =>
  match decRds r1, decRds r2, decRds r3, decRds r4, decRds r5 with
  | some r1, some r2, some r3, some r4, some r5 => some ⟨⟨a, b, c, r1⟩, ⟨d, e, f, r2⟩, ⟨g, h, i, r3⟩, ⟨j, k, l, r4⟩, ⟨m, n, o, r5⟩⟩
  | _, _, _, _, _ => none
 | _ => none
theorem decWx_eq (w : Wx) : decWx [.agg (w.c [])] = some w := by
 simp [decWx, decRds_map]
theorem decWx_inv {ds : List D} {w : Wx} (h : decWx ds = some w) : ds = [.agg (w.c [])] := by
 unfold decWx at h
 split at h
 ·split at h
  ·rename_i h1 h2 h3 h4 h5
   cases h
   simp only [Wx.c, gaC]
   rw [decRds_inv h1, decRds_inv h2, decRds_inv h3, decRds_inv h4, decRds_inv h5]
  ·cases h
 ·cases h
def wxLen (w : Wx) : Bool := decide (w.tide.rs.length ≤ 9223372036854775807) && decide (w.east.rs.length ≤ 9223372036854775807) && decide (w.north.rs.length ≤ 9223372036854775807) && decide (w.wave.rs.length ≤ 9223372036854775807) && decide (w.swell.rs.length ≤ 9223372036854775807)
theorem wxLen_iff {w : Wx} : wxLen w = true ↔ WxL w := by
 simp only [wxLen, Bool.and_eq_true, decide_eq_true_eq]
 exact ⟨fun ⟨⟨⟨⟨a, b⟩, c⟩, d⟩, e⟩ => ⟨a, b, c, d, e⟩, fun ⟨a, b, c, d, e⟩ => ⟨⟨⟨⟨a, b⟩, c⟩, d⟩, e⟩⟩
def gWx : List D → Option D := orc decWx wxLen fun w => .bool (okWx w)
theorem gWx_eq {w : Wx} (h : WxL w) : gWx [.agg (w.c [])] = some (.bool (okWx w)) := orc_eq (decWx_eq w) (wxLen_iff.2 h)
abbrev o21 : List (FuncId × (List D → Option D)) := (58, gSt) :: (52, gWx) :: (39, gWx) :: o20

theorem o21_ok : OkO Tryz.prog (mkO o21) := 
 mkO_ok (fun ds r h => by obtain ⟨w, hw, rfl, rfl⟩ := gSt_inv h; exact steps_t w hw) <|
 mkO_ok (orc_ok fun ds w hd hk => by rw [decWx_inv hd]; exact weather_t w (wxLen_iff.1 hk)) <|
 mkO_ok (orc_ok fun ds w hd hk => by rw [decWx_inv hd]; exact rweather_t w (wxLen_iff.1 hk)) <| o20_ok

def okSp (s : Se) (p : Sp) : Bool := okWay p.way && (bIn p.cells 1 12 && (bIn p.x 0 (s.wide - 1) && (bIn p.y 0 (s.deep - 1) && (bIn (p.x + dxW p.way * (p.cells - 1)) 0 (s.wide - 1) && bIn (p.y + dyW p.way * (p.cells - 1)) 0 (s.deep - 1)))))
theorem strip_t (s : Se) (p : Sp) (gd : D) (hg : ∀ m, D.lt m gd = true) (hv : ∀ h, view h gd = gd) (hw : 1 ≤ s.wide ∧ s.wide ≤ 12) (hd : 1 ≤ s.deep ∧ s.deep ≤ 12) : Pure Tryz.prog 23 [.agg (s.c gd), .agg p.c] (.bool (okSp s p)) := by
 refine pure_of_wc (rs := [.tmp 4]) (m := 71) [] o21_ok (by kernel_rfl) Tryz.func23 rfl (by kernel_rfl) rfl rfl (by kernel_rfl) ?_
 have h1 := wrap_i64 (z := s.wide - 1) (by omega) (by omega)
 have h2 := wrap_i64 (z := s.deep - 1) (by omega) (by omega)
 cases hy : okWay p.way
 ·simp only [FS, ↓RE, okR, argEnv, Nat.reduceAdd, Nat.reduceSub, Nat.reduceLT, Nat.reduceLeDiff, Nat.reduceEqDiff, reduceIte, gWy_eq, hy]
  simp [okSp, hy]
 cases hc : bIn p.cells 1 12
 ·simp only [FS, ↓RE, okR, argEnv, Nat.reduceAdd, Nat.reduceSub, Nat.reduceLT, Nat.reduceLeDiff, Nat.reduceEqDiff, reduceIte, gWy_eq, hy, gIn_eq, hc]
  simp [okSp, hy, hc]
 cases hx : bIn p.x 0 (s.wide - 1)
 ·simp only [FS, ↓RE, okR, argEnv, Nat.reduceAdd, Nat.reduceSub, Nat.reduceLT, Nat.reduceLeDiff, Nat.reduceEqDiff, reduceIte, gWy_eq, hy, gIn_eq, hc, h1, hx]
  simp [okSp, hy, hc, hx]
 cases hyy : bIn p.y 0 (s.deep - 1)
 ·simp only [FS, ↓RE, okR, argEnv, Nat.reduceAdd, Nat.reduceSub, Nat.reduceLT, Nat.reduceLeDiff, Nat.reduceEqDiff, reduceIte, gWy_eq, hy, gIn_eq, hc, h1, hx, h2, hyy]
  simp [okSp, hy, hc, hx, hyy]
 obtain ⟨hdx, hdy, _⟩ := dx_cases p.way hy
 have hc' : 1 ≤ p.cells ∧ p.cells ≤ 12 := by simpa [bIn] using hc
 have hx' : 0 ≤ p.x ∧ p.x ≤ s.wide - 1 := by simpa [bIn] using hx
 have hy' : 0 ≤ p.y ∧ p.y ≤ s.deep - 1 := by simpa [bIn] using hyy
 have h3 := wrap_i64 (z := p.cells - 1) (by omega) (by omega)
 have h4 := wrap_i64 (z := dxW p.way * (p.cells - 1)) (by rcases hdx with h | h | h <;> rw [h] <;> omega) (by rcases hdx with h | h | h <;> rw [h] <;> omega)
 have h5 := wrap_i64 (z := dyW p.way * (p.cells - 1)) (by rcases hdy with h | h | h <;> rw [h] <;> omega) (by rcases hdy with h | h | h <;> rw [h] <;> omega)
 have h6 := wrap_i64 (z := p.x + dxW p.way * (p.cells - 1)) (by rcases hdx with h | h | h <;> rw [h] <;> omega) (by rcases hdx with h | h | h <;> rw [h] <;> omega)
 have h7 := wrap_i64 (z := p.y + dyW p.way * (p.cells - 1)) (by rcases hdy with h | h | h <;> rw [h] <;> omega) (by rcases hdy with h | h | h <;> rw [h] <;> omega)
 simp only [FS, ↓RE, okR, argEnv, Nat.reduceAdd, Nat.reduceSub, Nat.reduceLT, Nat.reduceLeDiff, Nat.reduceEqDiff, reduceIte, gWy_eq, hy, gIn_eq, hc, h1, hx, h2, hyy, gSt_eq hy, ex_tup, h3, h4, h5, h6, h7]
 cases h8 : bIn (p.x + dxW p.way * (p.cells - 1)) 0 (s.wide - 1) <;> cases h9 : bIn (p.y + dyW p.way * (p.cells - 1)) 0 (s.deep - 1) <;> simp [BR, okSp, hy, hc, hx, hyy, h8, h9]
end Go.Sx

namespace Go.Sx
open Go.Proofs
set_option maxRecDepth 10000

theorem gl_ix (l : List _) (x : D) (hx : En.sl enGl x = some l) (g : FuncId) (caps : List D) (q : _ → Bool) (hl : l.length ≤ 9223372036854775807) (hcl : ∀ m, D.ltL m caps = true) (hcv : ∀ h, viewL h caps = caps)
  (hq : ∀ a ∈ l, Pure Tryz.prog g (.agg (enGl.d a) :: caps) (.bool (q a))) : Pure Tryz.prog 76 [x, .fn (.func g) [] caps] (.int .i64 (firstI q l 0)) := by
 have lx := fun hp => En.len (P := Tryz.prog) Fz.und_31 hx hp
 have vx := En.lt hx
 refine pure_of_wc (rs := [.tmp 4]) (m := 19) [] oNone_ok (by kernel_rfl) Tryz.func76 rfl (by kernel_rfl) rfl rfl (by kernel_rfl) ?_
 simp only [FS, ↓RE, okR, argEnv, Nat.reduceAdd, Nat.reduceSub, Nat.reduceLT, Nat.reduceLeDiff, Nat.reduceEqDiff, reduceIte, lx]
 refine loopV (ι := Nat) oNone_ok [] (fun i => [(0, x), (1, .fn (.func g) [] caps), (7, .int .i64 (l.length : Int)), (8, .int .i64 (i : Int))])
  (fun i => []) 0 (fun i => i ≤ l.length ∧ (l.take i).all (fun r => !(q r)) = true) (fun i => l.length - i) 0 (by kernel_rfl) (by kernel_rfl) ⟨Nat.zero_le _, by simp⟩ ?_ ?_
 ·simp [headW, heapW, envW, blkLt, D.ltL, D.lt, look, hget, vx, hcl]
 rintro i ⟨hil, hok⟩
 rcases Nat.lt_or_ge i l.length with hlt | hge
 ·have hc : ((i : Int) < (l.length : Int)) = True := by simp [hlt]
  obtain ⟨r, hr⟩ : ∃ r, l[i]? = some r := ⟨l[i], by simp [hlt]⟩
  have hix := fun hp => En.ix (P := Tryz.prog) Fz.und_31 Fz.size_111 hx hr hp .i64
  have hw := wrap_i64 (z := (i : Int) + 1) (by omega) (by omega)
  have hqr := hq r (List.mem_of_getElem? hr)
  simp only [enGl] at hix hqr
  simp only [FS, ↓RE, okR, argEnv, Nat.reduceAdd, Nat.reduceSub, Nat.reduceLT, Nat.reduceLeDiff, Nat.reduceEqDiff, reduceIte, hix, hc, decide_true, List.nil_append, List.cons_append, hcv]
  refine call_of_pure hqr rfl ?_
  cases hm : q r
  ·simp only [FS, ↓RE, okR, argEnv, Nat.reduceAdd, Nat.reduceSub, Nat.reduceLT, Nat.reduceLeDiff, Nat.reduceEqDiff, reduceIte, hw]
   exact ⟨i + 1, ⟨by omega, all_take hr hok (by simp [hm])⟩, by omega, by simp [headW, heapW, envW, blkLt, D.ltL, D.lt, look, hget, vx, hcl]⟩
  ·simp only [FS, ↓RE, okR, argEnv, Nat.reduceAdd, Nat.reduceSub, Nat.reduceLT, Nat.reduceLeDiff, Nat.reduceEqDiff, reduceIte, hw]
   rw [firstI_at hok hr (by simp [hm])]; simp
 ·have hc : ((i : Int) < (l.length : Int)) = False := by simp; omega
  have : i = l.length := by omega
  subst this
  rw [List.take_length] at hok
  simp only [FS, ↓RE, okR, argEnv, Nat.reduceAdd, Nat.reduceSub, Nat.reduceLT, Nat.reduceLeDiff, Nat.reduceEqDiff, reduceIte, hc, decide_false]
  rw [firstI_none hok]
theorem gl_has (l : List _) (x : D) (hx : En.sl enGl x = some l) (g : FuncId) (caps : List D) (q : _ → Bool) (hl : l.length ≤ 9223372036854775807) (hcl : ∀ m, D.ltL m caps = true) (hcv : ∀ h, viewL h caps = caps)
  (hq : ∀ a ∈ l, Pure Tryz.prog g (.agg (enGl.d a) :: caps) (.bool (q a))) : Pure Tryz.prog 55 [x, .fn (.func g) [] caps] (.bool (l.any q)) := by
 have vx := fun h => En.view hx h
 refine pure_of_wc (rs := [.tmp 4]) (m := 9) [] oNone_ok (by kernel_rfl) Tryz.func55 rfl (by kernel_rfl) rfl rfl (by kernel_rfl) ?_
 simp only [FS, ↓RE, okR, argEnv, Nat.reduceAdd, Nat.reduceSub, Nat.reduceLT, Nat.reduceLeDiff, Nat.reduceEqDiff, reduceIte, vx, view_fn, hcv]
 refine call_of_pure (gl_ix l x hx g caps q hl hcl hcv hq) rfl ?_
 simp only [FS, ↓RE, okR, argEnv, Nat.reduceAdd, Nat.reduceSub, Nat.reduceLT, Nat.reduceLeDiff, Nat.reduceEqDiff, reduceIte, firstI_ge]

def okGl (g : Gl) : Bool := okWay g.way && okTimes g.t
theorem seaGl_t (g : Gl) : Pure Tryz.prog 56 [.agg (enGl.d g)] (.bool (!okGl g)) := by
 simp only [enGl]
 refine pure_of_wc (rs := [.tmp 2]) (m := 13) [] o21_ok (by kernel_rfl) Tryz.func56 rfl (by kernel_rfl) rfl rfl (by kernel_rfl) ?_
 simp only [FS, ↓RE, okR, argEnv, Nat.reduceAdd, Nat.reduceSub, Nat.reduceLT, Nat.reduceLeDiff, Nat.reduceEqDiff, reduceIte, gWy_eq, gTi_eq]
 cases h1 : okWay g.way <;> cases h2 : okTimes (g.t.1, g.t.2) <;> simp [BR, okGl, h1, h2]
end Go.Sx

namespace Go.Sx
open Go.Proofs
set_option maxRecDepth 10000

def okDp (d : Int × Int) : Bool := bSpan d.1 d.2 (-5000) 5000
def okBt (s : Se) (b : Bt) : Bool := bSpan b.x.1 b.x.2 0 (s.wide - 1) && (bSpan b.y.1 b.y.2 0 (s.deep - 1) && okTimes b.t)
def okSz (s : Se) : Bool := bIn s.wide 1 12 && (bIn s.deep 1 12 && ((s.depths.length : Int) == s.wide * s.deep))
def okSe (s : Se) : Bool := okSz s && (decide (s.boats.length ≤ 12) && (decide (s.glares.length ≤ 6) && (okWx s.w && (s.depths.all okDp && (s.boats.all (okBt s) && s.glares.all okGl)))))

structure SeL (s : Se) (gd : D) : Prop where
 w : WxL s.w
 depths : s.depths.length ≤ 9223372036854775807
 boats : s.boats.length ≤ 9223372036854775807
 glares : s.glares.length ≤ 9223372036854775807
 gd : enGl.sl gd = some s.glares

theorem sea_t (s : Se) (gd : D) (h : SeL s gd) : Pure Tryz.prog 22 [.agg (s.c gd)] (.bool (okSe s)) := by
 have vg := fun hp => En.view h.gd hp
 have lg := En.lt h.gd
 have ng := fun hp => En.len (P := Tryz.prog) Fz.und_31 h.gd hp
 have hdl := fun hp => En.len (P := Tryz.prog) Fz.und_22 (En.sl_map (E := enS) s.depths) hp
 have hbl := fun hp => En.len (P := Tryz.prog) Fz.und_30 (En.sl_map (E := enBt) s.boats) hp
 refine pure_of_wc (rs := [.tmp 2]) (m := 99) [] o21_ok (by kernel_rfl) Tryz.func22 rfl (by kernel_rfl) rfl rfl (by kernel_rfl) ?_
 cases hw : bIn s.wide 1 12
 ·simp only [FS, ↓RE, okR, argEnv, Nat.reduceAdd, Nat.reduceSub, Nat.reduceLT, Nat.reduceLeDiff, Nat.reduceEqDiff, reduceIte, gIn_eq, hw]
  simp [okSe, okSz, hw]
 cases hd : bIn s.deep 1 12
 ·simp only [FS, ↓RE, okR, argEnv, Nat.reduceAdd, Nat.reduceSub, Nat.reduceLT, Nat.reduceLeDiff, Nat.reduceEqDiff, reduceIte, gIn_eq, hw, hd]
  simp [okSe, okSz, hw, hd]
 have hw' : 1 ≤ s.wide ∧ s.wide ≤ 12 := by simpa [bIn] using hw
 have hd' : 1 ≤ s.deep ∧ s.deep ≤ 12 := by simpa [bIn] using hd
 have hm1 : s.wide * s.deep ≤ 12 * 12 := Int.mul_le_mul hw'.2 hd'.2 (by omega) (by omega)
 have hm0 : 0 ≤ s.wide * s.deep := Int.mul_nonneg (by omega) (by omega)
 have h1 := wrap_i64 (z := s.wide * s.deep) (by omega) (by omega)
 cases hn : ((s.depths.length : Int) == s.wide * s.deep)
 ·simp only [FS, ↓RE, okR, argEnv, Nat.reduceAdd, Nat.reduceSub, Nat.reduceLT, Nat.reduceLeDiff, Nat.reduceEqDiff, reduceIte, gIn_eq, hw, hd, hdl, h1, bne, hn]
  simp [okSe, okSz, hn]
 by_cases hb : s.boats.length ≤ 12
 rotate_left
 ·have hb2 : decide ((12 : Int) < (s.boats.length : Int)) = true := by simp; omega
  simp only [FS, ↓RE, okR, argEnv, Nat.reduceAdd, Nat.reduceSub, Nat.reduceLT, Nat.reduceLeDiff, Nat.reduceEqDiff, reduceIte, gIn_eq, hw, hd, hdl, h1, bne, hn, hbl, hb2]
  simp [okSe, hb]
 have hb2 : decide ((12 : Int) < (s.boats.length : Int)) = false := by simp; omega
 by_cases hg : s.glares.length ≤ 6
 rotate_left
 ·have hg2 : decide ((6 : Int) < (s.glares.length : Int)) = true := by simp; omega
  simp only [FS, ↓RE, okR, argEnv, Nat.reduceAdd, Nat.reduceSub, Nat.reduceLT, Nat.reduceLeDiff, Nat.reduceEqDiff, reduceIte, gIn_eq, hw, hd, hdl, h1, bne, hn, hbl, hb2, ng, hg2]
  simp [okSe, hg]
 have hg2 : decide ((6 : Int) < (s.glares.length : Int)) = false := by simp; omega
 cases hx : okWx s.w
 ·simp only [FS, ↓RE, okR, argEnv, Nat.reduceAdd, Nat.reduceSub, Nat.reduceLT, Nat.reduceLeDiff, Nat.reduceEqDiff, reduceIte, gIn_eq, hw, hd, hdl, h1, bne, hn, hbl, hb2, ng, hg2, gWx_eq h.w, hx]
  simp [okSe, hx]
 simp only [FS, ↓RE, okR, argEnv, Nat.reduceAdd, Nat.reduceSub, Nat.reduceLT, Nat.reduceLeDiff, Nat.reduceEqDiff, reduceIte, gIn_eq, hw, hd, hdl, h1, bne, hn, hbl, hb2, ng, hg2, gWx_eq h.w, hx]
 have hdL := h.depths
 have hbL := h.boats
 refine loopV (ι := Nat) o21_ok [] (fun i => [(1, .ptr 0 0), (53, .sl (s.depths.map enS.d)), (54, .int .i64 (s.depths.length : Int)), (55, .int .i64 (i : Int))])
  (fun i => [(0, .box (s.c gd))]) 1 (fun i => i ≤ s.depths.length ∧ (s.depths.take i).all okDp = true) (fun i => s.depths.length - i) 0 (by kernel_rfl) (by kernel_rfl) ⟨Nat.zero_le _, by simp⟩ ?_ ?_
 ·simp [headW, heapW, envW, blkLt, D.ltL, D.lt, look, hget, lg]
 rintro i ⟨hi, hok⟩
 rcases Nat.lt_or_ge i s.depths.length with hlt | hge
 ·have hc : ((i : Int) < (s.depths.length : Int)) = True := by simp [hlt]
  obtain ⟨r, hr⟩ : ∃ r, s.depths[i]? = some r := ⟨s.depths[i], by simp [hlt]⟩
  have hix := fun hp => En.ix (P := Tryz.prog) Fz.und_22 Fz.size_52 (En.sl_map (E := enS) s.depths) hr hp .i64
  have hwi := wrap_i64 (z := (i : Int) + 1) (by omega) (by omega)
  obtain ⟨r1, r2⟩ := r
  have hk : okDp (r1, r2) = bSpan r1 r2 (-5000) 5000 := rfl
  have hix2 : ∀ hp, indexAddrD Tryz.prog hp 22 (.sl (s.depths.map enS.d)) (.int .i64 (i : Int)) = some (.ref [.int .i64 r1, .int .i64 r2] 0) := hix
  cases hs : bSpan r1 r2 (-5000) 5000
  ·simp only [FS, ↓RE, okR, argEnv, Nat.reduceAdd, Nat.reduceSub, Nat.reduceLT, Nat.reduceLeDiff, Nat.reduceEqDiff, reduceIte, hix2, hc, decide_true, gSpan_eq, hs]
   simp [okSe, all_not hr (hk.trans hs)]
  ·simp only [FS, ↓RE, okR, argEnv, Nat.reduceAdd, Nat.reduceSub, Nat.reduceLT, Nat.reduceLeDiff, Nat.reduceEqDiff, reduceIte, hix2, hc, decide_true, gSpan_eq, hs, hwi]
   exact ⟨i + 1, ⟨by omega, all_take hr hok (hk.trans hs)⟩, by omega, by simp [headW, heapW, envW, blkLt, D.ltL, D.lt, look, hget, lg]⟩
 have : i = s.depths.length := by omega
 subst this
 rw [List.take_length] at hok
 simp only [FS, ↓RE, okR, argEnv, Nat.reduceAdd, Nat.reduceSub, Nat.reduceLT, Nat.reduceLeDiff, Nat.reduceEqDiff, reduceIte, Int.lt_irrefl, decide_false, hbl]
 refine loopV (ι := Nat) o21_ok [] (fun i => [(1, .ptr 0 0), (64, .sl (s.boats.map enBt.d)), (65, .int .i64 (s.boats.length : Int)), (66, .int .i64 (i : Int))])
  (fun i => [(0, .box (s.c gd))]) 1 (fun i => i ≤ s.boats.length ∧ (s.boats.take i).all (okBt s) = true) (fun i => s.boats.length - i) 0 (by kernel_rfl) (by kernel_rfl) ⟨Nat.zero_le _, by simp⟩ ?_ ?_
 ·simp [headW, heapW, envW, blkLt, D.ltL, D.lt, look, hget, lg]
 rintro i ⟨hi, hok2⟩
 rcases Nat.lt_or_ge i s.boats.length with hlt | hge
 ·have hc : ((i : Int) < (s.boats.length : Int)) = True := by simp [hlt]
  obtain ⟨r, hr⟩ : ∃ r, s.boats[i]? = some r := ⟨s.boats[i], by simp [hlt]⟩
  have hix := fun hp => En.ix (P := Tryz.prog) Fz.und_30 Fz.size_54 (En.sl_map (E := enBt) s.boats) hr hp .i64
  have hwi := wrap_i64 (z := (i : Int) + 1) (by omega) (by omega)
  have hw1 := wrap_i64 (z := s.wide - 1) (by omega) (by omega)
  have hw2 := wrap_i64 (z := s.deep - 1) (by omega) (by omega)
  obtain ⟨⟨x1, x2⟩, ⟨y1, y2⟩, ⟨t1, t2⟩, su⟩ := r
  have hk : okBt s ⟨(x1, x2), (y1, y2), (t1, t2), su⟩ = (bSpan x1 x2 0 (s.wide - 1) && (bSpan y1 y2 0 (s.deep - 1) && okTimes (t1, t2))) := rfl
  have hix2 : ∀ hp, indexAddrD Tryz.prog hp 30 (.sl (s.boats.map enBt.d)) (.int .i64 (i : Int)) = some (.ref [.int .i64 x1, .int .i64 x2, .int .i64 y1, .int .i64 y2, .int .i64 t1, .int .i64 t2, .bool su] 0) := hix
  cases hs1 : bSpan x1 x2 0 (s.wide - 1)
  ·simp only [FS, ↓RE, okR, argEnv, Nat.reduceAdd, Nat.reduceSub, Nat.reduceLT, Nat.reduceLeDiff, Nat.reduceEqDiff, reduceIte, hix2, hc, decide_true, gSpan_eq, hw1, hs1]
   simp [okSe, all_not hr (hk.trans (by rw [hs1]; rfl))]
  cases hs2 : bSpan y1 y2 0 (s.deep - 1)
  ·simp only [FS, ↓RE, okR, argEnv, Nat.reduceAdd, Nat.reduceSub, Nat.reduceLT, Nat.reduceLeDiff, Nat.reduceEqDiff, reduceIte, hix2, hc, decide_true, gSpan_eq, hw1, hs1, hw2, hs2]
   simp [okSe, all_not hr (hk.trans (by rw [hs1, hs2]; rfl))]
  cases hs3 : okTimes (t1, t2)
  ·simp only [FS, ↓RE, okR, argEnv, Nat.reduceAdd, Nat.reduceSub, Nat.reduceLT, Nat.reduceLeDiff, Nat.reduceEqDiff, reduceIte, hix2, hc, decide_true, gSpan_eq, hw1, hs1, hw2, hs2, gTi_eq, hs3]
   simp [okSe, all_not hr (hk.trans (by rw [hs1, hs2, hs3]; rfl))]
  ·simp only [FS, ↓RE, okR, argEnv, Nat.reduceAdd, Nat.reduceSub, Nat.reduceLT, Nat.reduceLeDiff, Nat.reduceEqDiff, reduceIte, hix2, hc, decide_true, gSpan_eq, hw1, hs1, hw2, hs2, gTi_eq, hs3, hwi]
   exact ⟨i + 1, ⟨by omega, all_take hr hok2 (hk.trans (by rw [hs1, hs2, hs3]; rfl))⟩, by omega, by simp [headW, heapW, envW, blkLt, D.ltL, D.lt, look, hget, lg]⟩
 have : i = s.boats.length := by omega
 subst this
 rw [List.take_length] at hok2
 simp only [FS, ↓RE, okR, argEnv, Nat.reduceAdd, Nat.reduceSub, Nat.reduceLT, Nat.reduceLeDiff, Nat.reduceEqDiff, reduceIte, Int.lt_irrefl, decide_false, vg]
 refine call_of_pure (gl_has s.glares gd h.gd 56 [] (fun g => !okGl g) h.glares (fun _ => rfl) (fun _ => rfl) fun g _ => seaGl_t g) rfl ?_
 simp only [FS, ↓RE, okR, argEnv, Nat.reduceAdd, Nat.reduceSub, Nat.reduceLT, Nat.reduceLeDiff, Nat.reduceEqDiff, reduceIte]
 have : (s.glares.any fun g => !okGl g) = !(s.glares.all okGl) := by rw [List.any_eq_not_all_not]; simp
 simp [okSe, okSz, hw, hd, hn, hb, hg, hx, hok, hok2, this]
end Go.Sx

namespace Go.Sx
open Go.Proofs
set_option maxRecDepth 10000

theorem rsea_t (s : Se) (gd : D) (h : SeL s gd) : Pure Tryz.prog 10 [.agg (s.c gd)] (.bool (okSe s)) := by
 have vg := fun hp => En.view h.gd hp
 have lg := En.lt h.gd
 have ng := fun hp => En.len (P := Tryz.prog) Fz.und_31 h.gd hp
 have hdl := fun hp => En.len (P := Tryz.prog) Fz.und_22 (En.sl_map (E := enS) s.depths) hp
 have hbl := fun hp => En.len (P := Tryz.prog) Fz.und_30 (En.sl_map (E := enBt) s.boats) hp
 refine pure_of_wc (rs := [.tmp 2]) (m := 128) [] o21_ok (by kernel_rfl) Tryz.func10 rfl (by kernel_rfl) rfl rfl (by kernel_rfl) ?_
 cases hw : bIn s.wide 1 12
 ·simp only [FS, ↓RE, okR, argEnv, Nat.reduceAdd, Nat.reduceSub, Nat.reduceLT, Nat.reduceLeDiff, Nat.reduceEqDiff, reduceIte, gIn_eq, hw]
  simp [okSe, okSz, hw]
 cases hd : bIn s.deep 1 12
 ·simp only [FS, ↓RE, okR, argEnv, Nat.reduceAdd, Nat.reduceSub, Nat.reduceLT, Nat.reduceLeDiff, Nat.reduceEqDiff, reduceIte, gIn_eq, hw, hd]
  simp [okSe, okSz, hw, hd]
 have hw' : 1 ≤ s.wide ∧ s.wide ≤ 12 := by simpa [bIn] using hw
 have hd' : 1 ≤ s.deep ∧ s.deep ≤ 12 := by simpa [bIn] using hd
 have hm1 : s.wide * s.deep ≤ 12 * 12 := Int.mul_le_mul hw'.2 hd'.2 (by omega) (by omega)
 have hm0 : 0 ≤ s.wide * s.deep := Int.mul_nonneg (by omega) (by omega)
 have h1 := wrap_i64 (z := s.wide * s.deep) (by omega) (by omega)
 cases hn : ((s.depths.length : Int) == s.wide * s.deep)
 ·simp only [FS, ↓RE, okR, argEnv, Nat.reduceAdd, Nat.reduceSub, Nat.reduceLT, Nat.reduceLeDiff, Nat.reduceEqDiff, reduceIte, gIn_eq, hw, hd, hdl, h1, bne, hn]
  simp [okSe, okSz, hn]
 cases hx : okWx s.w
 ·simp only [FS, ↓RE, okR, argEnv, Nat.reduceAdd, Nat.reduceSub, Nat.reduceLT, Nat.reduceLeDiff, Nat.reduceEqDiff, reduceIte, gIn_eq, hw, hd, hdl, h1, bne, hn, gWx_eq h.w, hx]
  simp [okSe, hx]
 by_cases hb : s.boats.length ≤ 12
 rotate_left
 ·have hb2 : decide ((12 : Int) < (s.boats.length : Int)) = true := by simp; omega
  simp only [FS, ↓RE, okR, argEnv, Nat.reduceAdd, Nat.reduceSub, Nat.reduceLT, Nat.reduceLeDiff, Nat.reduceEqDiff, reduceIte, gIn_eq, hw, hd, hdl, h1, bne, hn, hbl, hb2, gWx_eq h.w, hx]
  simp [okSe, hb]
 have hb2 : decide ((12 : Int) < (s.boats.length : Int)) = false := by simp; omega
 by_cases hg : s.glares.length ≤ 6
 rotate_left
 ·have hg2 : decide ((6 : Int) < (s.glares.length : Int)) = true := by simp; omega
  simp only [FS, ↓RE, okR, argEnv, Nat.reduceAdd, Nat.reduceSub, Nat.reduceLT, Nat.reduceLeDiff, Nat.reduceEqDiff, reduceIte, gIn_eq, hw, hd, hdl, h1, bne, hn, hbl, hb2, ng, hg2, gWx_eq h.w, hx]
  simp [okSe, hg]
 have hg2 : decide ((6 : Int) < (s.glares.length : Int)) = false := by simp; omega
 simp only [FS, ↓RE, okR, argEnv, Nat.reduceAdd, Nat.reduceSub, Nat.reduceLT, Nat.reduceLeDiff, Nat.reduceEqDiff, reduceIte, gIn_eq, hw, hd, hdl, h1, bne, hn, hbl, hb2, ng, hg2, gWx_eq h.w, hx]
 have hdL := h.depths
 have hbL := h.boats
 refine loopV (ι := Nat) o21_ok [] (fun i => [(1, .ptr 0 0), (3, .int .i64 (i : Int))])
  (fun i => [(0, .box (s.c gd))]) 1 (fun i => i ≤ s.depths.length ∧ (s.depths.take i).all okDp = true) (fun i => s.depths.length - i) 0 (by kernel_rfl) (by kernel_rfl) ⟨Nat.zero_le _, by simp⟩ ?_ ?_
 ·simp [headW, heapW, envW, blkLt, D.ltL, D.lt, look, hget, lg]
 rintro i ⟨hi, hok⟩
 rcases Nat.lt_or_ge i s.depths.length with hlt | hge
 ·have hc : ((i : Int) < (s.depths.length : Int)) = True := by simp [hlt]
  obtain ⟨r, hr⟩ : ∃ r, s.depths[i]? = some r := ⟨s.depths[i], by simp [hlt]⟩
  have hix := fun hp => En.ix (P := Tryz.prog) Fz.und_22 Fz.size_52 (En.sl_map (E := enS) s.depths) hr hp .i64
  have hwi := wrap_i64 (z := (i : Int) + 1) (by omega) (by omega)
  obtain ⟨r1, r2⟩ := r
  have hk : okDp (r1, r2) = bSpan r1 r2 (-5000) 5000 := rfl
  have hix2 : ∀ hp, indexAddrD Tryz.prog hp 22 (.sl (s.depths.map enS.d)) (.int .i64 (i : Int)) = some (.ref [.int .i64 r1, .int .i64 r2] 0) := hix
  cases hs : bSpan r1 r2 (-5000) 5000
  ·simp only [FS, ↓RE, okR, argEnv, Nat.reduceAdd, Nat.reduceSub, Nat.reduceLT, Nat.reduceLeDiff, Nat.reduceEqDiff, reduceIte, hix2, hdl, hc, decide_true, gSpan_eq, hs]
   simp [okSe, all_not hr (hk.trans hs)]
  ·simp only [FS, ↓RE, okR, argEnv, Nat.reduceAdd, Nat.reduceSub, Nat.reduceLT, Nat.reduceLeDiff, Nat.reduceEqDiff, reduceIte, hix2, hdl, hc, decide_true, gSpan_eq, hs, hwi]
   exact ⟨i + 1, ⟨by omega, all_take hr hok (hk.trans hs)⟩, by omega, by simp [headW, heapW, envW, blkLt, D.ltL, D.lt, look, hget, lg]⟩
 have : i = s.depths.length := by omega
 subst this
 rw [List.take_length] at hok
 simp only [FS, ↓RE, okR, argEnv, Nat.reduceAdd, Nat.reduceSub, Nat.reduceLT, Nat.reduceLeDiff, Nat.reduceEqDiff, reduceIte, hdl, Int.lt_irrefl, decide_false]
 refine loopV (ι := Nat) o21_ok [] (fun i => [(1, .ptr 0 0), (4, .int .i64 (i : Int))])
  (fun i => [(0, .box (s.c gd))]) 1 (fun i => i ≤ s.boats.length ∧ (s.boats.take i).all (okBt s) = true) (fun i => s.boats.length - i) 0 (by kernel_rfl) (by kernel_rfl) ⟨Nat.zero_le _, by simp⟩ ?_ ?_
 ·simp [headW, heapW, envW, blkLt, D.ltL, D.lt, look, hget, lg]
 rintro i ⟨hi, hok2⟩
 rcases Nat.lt_or_ge i s.boats.length with hlt | hge
 ·have hc : ((i : Int) < (s.boats.length : Int)) = True := by simp [hlt]
  obtain ⟨r, hr⟩ : ∃ r, s.boats[i]? = some r := ⟨s.boats[i], by simp [hlt]⟩
  have hix := fun hp => En.ix (P := Tryz.prog) Fz.und_30 Fz.size_54 (En.sl_map (E := enBt) s.boats) hr hp .i64
  have hwi := wrap_i64 (z := (i : Int) + 1) (by omega) (by omega)
  have hw1 := wrap_i64 (z := s.wide - 1) (by omega) (by omega)
  have hw2 := wrap_i64 (z := s.deep - 1) (by omega) (by omega)
  obtain ⟨⟨x1, x2⟩, ⟨y1, y2⟩, ⟨t1, t2⟩, su⟩ := r
  have hk : okBt s ⟨(x1, x2), (y1, y2), (t1, t2), su⟩ = (bSpan x1 x2 0 (s.wide - 1) && (bSpan y1 y2 0 (s.deep - 1) && okTimes (t1, t2))) := rfl
  have hix2 : ∀ hp, indexAddrD Tryz.prog hp 30 (.sl (s.boats.map enBt.d)) (.int .i64 (i : Int)) = some (.ref [.int .i64 x1, .int .i64 x2, .int .i64 y1, .int .i64 y2, .int .i64 t1, .int .i64 t2, .bool su] 0) := hix
  cases hs1 : bSpan x1 x2 0 (s.wide - 1)
  ·simp only [FS, ↓RE, okR, argEnv, Nat.reduceAdd, Nat.reduceSub, Nat.reduceLT, Nat.reduceLeDiff, Nat.reduceEqDiff, reduceIte, hix2, hbl, hc, decide_true, gSpan_eq, hw1, hs1]
   simp [okSe, all_not hr (hk.trans (by rw [hs1]; rfl))]
  cases hs2 : bSpan y1 y2 0 (s.deep - 1)
  ·simp only [FS, ↓RE, okR, argEnv, Nat.reduceAdd, Nat.reduceSub, Nat.reduceLT, Nat.reduceLeDiff, Nat.reduceEqDiff, reduceIte, hix2, hbl, hc, decide_true, gSpan_eq, hw1, hs1, hw2, hs2]
   simp [okSe, all_not hr (hk.trans (by rw [hs1, hs2]; rfl))]
  cases hs3 : okTimes (t1, t2)
  ·simp only [FS, ↓RE, okR, argEnv, Nat.reduceAdd, Nat.reduceSub, Nat.reduceLT, Nat.reduceLeDiff, Nat.reduceEqDiff, reduceIte, hix2, hbl, hc, decide_true, gSpan_eq, hw1, hs1, hw2, hs2, gTi_eq, hs3]
   simp [okSe, all_not hr (hk.trans (by rw [hs1, hs2, hs3]; rfl))]
  ·simp only [FS, ↓RE, okR, argEnv, Nat.reduceAdd, Nat.reduceSub, Nat.reduceLT, Nat.reduceLeDiff, Nat.reduceEqDiff, reduceIte, hix2, hbl, hc, decide_true, gSpan_eq, hw1, hs1, hw2, hs2, gTi_eq, hs3, hwi]
   exact ⟨i + 1, ⟨by omega, all_take hr hok2 (hk.trans (by rw [hs1, hs2, hs3]; rfl))⟩, by omega, by simp [headW, heapW, envW, blkLt, D.ltL, D.lt, look, hget, lg]⟩
 have : i = s.boats.length := by omega
 subst this
 rw [List.take_length] at hok2
 simp only [FS, ↓RE, okR, argEnv, Nat.reduceAdd, Nat.reduceSub, Nat.reduceLT, Nat.reduceLeDiff, Nat.reduceEqDiff, reduceIte, hbl, Int.lt_irrefl, decide_false]
 have hgL := h.glares
 refine loopV (ι := Nat) o21_ok [] (fun i => [(1, .ptr 0 0), (6, .int .i64 (i : Int))])
  (fun i => [(0, .box (s.c gd))]) 1 (fun i => i ≤ s.glares.length ∧ (s.glares.take i).all okGl = true) (fun i => s.glares.length - i) 0 (by kernel_rfl) (by kernel_rfl) ⟨Nat.zero_le _, by simp⟩ ?_ ?_
 ·simp [headW, heapW, envW, blkLt, D.ltL, D.lt, look, hget, lg]
 rintro i ⟨hi, hok3⟩
 rcases Nat.lt_or_ge i s.glares.length with hlt | hge
 ·have hc : ((i : Int) < (s.glares.length : Int)) = True := by simp [hlt]
  obtain ⟨r, hr⟩ : ∃ r, s.glares[i]? = some r := ⟨s.glares[i], by simp [hlt]⟩
  have hix := fun hp => En.ix (P := Tryz.prog) Fz.und_31 Fz.size_111 h.gd hr hp .i64
  have hwi := wrap_i64 (z := (i : Int) + 1) (by omega) (by omega)
  obtain ⟨w, ⟨t1, t2⟩⟩ := r
  have hk : okGl ⟨w, (t1, t2)⟩ = (okWay w && okTimes (t1, t2)) := rfl
  simp only [enGl] at hix
  cases hs1 : okWay w
  ·simp only [FS, ↓RE, okR, argEnv, Nat.reduceAdd, Nat.reduceSub, Nat.reduceLT, Nat.reduceLeDiff, Nat.reduceEqDiff, reduceIte, hix, ng, hc, decide_true, gWy_eq, hs1]
   simp [okSe, all_not hr (hk.trans (by rw [hs1]; rfl))]
  cases hs2 : okTimes (t1, t2)
  ·simp only [FS, ↓RE, okR, argEnv, Nat.reduceAdd, Nat.reduceSub, Nat.reduceLT, Nat.reduceLeDiff, Nat.reduceEqDiff, reduceIte, hix, ng, hc, decide_true, gWy_eq, hs1, gTi_eq, hs2]
   simp [okSe, all_not hr (hk.trans (by rw [hs1, hs2]; rfl))]
  ·simp only [FS, ↓RE, okR, argEnv, Nat.reduceAdd, Nat.reduceSub, Nat.reduceLT, Nat.reduceLeDiff, Nat.reduceEqDiff, reduceIte, hix, ng, hc, decide_true, gWy_eq, hs1, gTi_eq, hs2, hwi]
   exact ⟨i + 1, ⟨by omega, all_take hr hok3 (hk.trans (by rw [hs1, hs2]; rfl))⟩, by omega, by simp [headW, heapW, envW, blkLt, D.ltL, D.lt, look, hget, lg]⟩
 have : i = s.glares.length := by omega
 subst this
 rw [List.take_length] at hok3
 simp only [FS, ↓RE, okR, argEnv, Nat.reduceAdd, Nat.reduceSub, Nat.reduceLT, Nat.reduceLeDiff, Nat.reduceEqDiff, reduceIte, ng, Int.lt_irrefl, decide_false]
 simp [okSe, okSz, hw, hd, hn, hb, hg, hx, hok, hok2, hok3]
end Go.Sx

namespace Go.Sx
open Go.Proofs
set_option maxRecDepth 10000

def decGa : List D → Option (Ga × List D)
 | .int .i64 a :: .int .i64 b :: .int .i64 c :: .sl r :: rest => match decRds r with
  | some rs => some (⟨a, b, c, rs⟩, rest)
  | none => none
 | _ => none
theorem decGa_eq (g : Ga) (r : List D) : decGa (gaC g r) = some (g, r) := by simp [decGa, decRds_map]
theorem decGa_inv {cs r : List D} {g : Ga} (h : decGa cs = some (g, r)) : cs = gaC g r := by
 unfold decGa at h
 split at h
 ·split at h
  ·rename_i h1
   cases h
   simp only [gaC]; rw [decRds_inv h1]
  ·cases h
 ·cases h
def decWxR (cs : List D) : Option (Wx × List D) :=
 match decGa cs with
 | some (a, r1) => match decGa r1 with
  | some (b, r2) => match decGa r2 with
   | some (c, r3) => match decGa r3 with
    | some (d, r4) => match decGa r4 with
     | some (e, r5) => some (⟨a, b, c, d, e⟩, r5)
     | none => none
    | none => none
   | none => none
  | none => none
 | none => none
theorem decWxR_eq (w : Wx) (r : List D) : decWxR (w.c r) = some (w, r) := by
 obtain ⟨a, b, c, d, e⟩ := w
 simp only [decWxR, Wx.c, decGa_eq]
theorem decWxR_inv {cs r : List D} {w : Wx} (h : decWxR cs = some (w, r)) : cs = w.c r := by
 unfold decWxR at h
 split at h
 ·rename_i h1
  split at h
  ·rename_i h2
   split at h
   ·rename_i h3
    split at h
    ·rename_i h4
     split at h
     ·rename_i h5
      cases h
      rw [decGa_inv h1, decGa_inv h2, decGa_inv h3, decGa_inv h4, decGa_inv h5]
     ·cases h
    ·cases h
   ·cases h
  ·cases h
 ·cases h
def decSeR : List D → Option (Se × D × List D)
 | .int .i64 w :: .int .i64 d :: .sl de :: r => match enS.decL de, decWxR r with
  | some depths, some (wx, .sl bo :: gd :: r2) => match enBt.decL bo, enGl.sl gd with
   | some boats, some glares => some (⟨w, d, depths, wx, boats, glares⟩, gd, r2)
   | _, _ => none
  | _, _ => none
 | _ => none
theorem decSeR_eq {s : Se} {gd : D} (h : enGl.sl gd = some s.glares) (r : List D) : decSeR (s.cr gd r) = some (s, gd, r) := by
 simp only [decSeR, En.decL_map, decWxR_eq, h]
theorem decSeR_inv {cs r : List D} {s : Se} {gd : D} (h : decSeR cs = some (s, gd, r)) : cs = s.cr gd r ∧ enGl.sl gd = some s.glares := by
 unfold decSeR at h
 split at h
 ·split at h
  ·rename_i h1 h2
   split at h
   ·rename_i h3 h4
    cases h
    refine ⟨?_, h4⟩
    simp only [Se.cr]
    rw [En.decL_inv h1, decWxR_inv h2, En.decL_inv h3]
   ·cases h
  ·cases h
 ·cases h
def seLen (s : Se) : Bool := wxLen s.w && (decide (s.depths.length ≤ 9223372036854775807) && (decide (s.boats.length ≤ 9223372036854775807) && decide (s.glares.length ≤ 9223372036854775807)))
theorem seLen_iff {s : Se} {gd : D} (hg : enGl.sl gd = some s.glares) : seLen s = true ↔ SeL s gd := by
 simp only [seLen, Bool.and_eq_true, decide_eq_true_eq, wxLen_iff]
 exact ⟨fun ⟨a, b, c, d⟩ => ⟨a, b, c, d, hg⟩, fun ⟨a, b, c, d, _⟩ => ⟨a, b, c, d⟩⟩
def decSe : List D → Option (Se × D)
 | [.agg cs] => match decSeR cs with
  | some (s, gd, []) => some (s, gd)
  | _ => none
 | _ => none
theorem decSe_eq {s : Se} {gd : D} (h : enGl.sl gd = some s.glares) : decSe [.agg (s.c gd)] = some (s, gd) := by
 simp only [decSe, decSeR_eq h]
theorem decSe_inv {ds : List D} {s : Se} {gd : D} (h : decSe ds = some (s, gd)) : ds = [.agg (s.c gd)] ∧ enGl.sl gd = some s.glares := by
 unfold decSe at h
 split at h
 ·split at h
  ·rename_i h1
   cases h
   obtain ⟨a, b⟩ := decSeR_inv h1
   exact ⟨by rw [a], b⟩
  ·cases h
 ·cases h
def gSe : List D → Option D := orc decSe (fun p => seLen p.1) fun p => .bool (okSe p.1)
theorem gSe_eq {s : Se} {gd : D} (h : SeL s gd) : gSe [.agg (s.c gd)] = some (.bool (okSe s)) := orc_eq (decSe_eq h.gd) ((seLen_iff h.gd).2 h)
def decSeSp : List D → Option (Se × D × Sp)
 | [.agg cs, .agg [.int .i64 x, .int .i64 y, .int .i64 w, .int .i64 c]] => match decSe [.agg cs] with
  | some (s, gd) => some (s, gd, ⟨x, y, w, c⟩)
  | none => none
 | _ => none
theorem decSeSp_eq {s : Se} {gd : D} (h : enGl.sl gd = some s.glares) (p : Sp) : decSeSp [.agg (s.c gd), .agg p.c] = some (s, gd, p) := by
 have := decSe_eq h
 simp only [decSeSp, this]
theorem decSeSp_inv {ds : List D} {s : Se} {gd : D} {p : Sp} (h : decSeSp ds = some (s, gd, p)) : ds = [.agg (s.c gd), .agg p.c] ∧ enGl.sl gd = some s.glares := by
 unfold decSeSp at h
 split at h
 ·split at h
  ·rename_i h1
   cases h
   obtain ⟨a, b⟩ := decSe_inv h1
   exact ⟨by simp only [List.cons.injEq, and_true] at a; rw [a], b⟩
  ·cases h
 ·cases h
def gSp : List D → Option D := orc decSeSp (fun q => bIn q.1.wide 1 12 && bIn q.1.deep 1 12) fun q => .bool (okSp q.1 q.2.2)
theorem okSe_sz {s : Se} (h : okSe s = true) : (1 ≤ s.wide ∧ s.wide ≤ 12) ∧ (1 ≤ s.deep ∧ s.deep ≤ 12) ∧ (s.depths.length : Int) = s.wide * s.deep := by
 simp only [okSe, okSz, Bool.and_eq_true, bIn, decide_eq_true_eq, beq_iff_eq] at h
 exact ⟨h.1.1, h.1.2.1, h.1.2.2⟩
theorem gSp_eq {s : Se} {gd : D} (h : SeL s gd) (hs : okSe s = true) (p : Sp) : gSp [.agg (s.c gd), .agg p.c] = some (.bool (okSp s p)) :=
 orc_eq (decSeSp_eq h.gd p) (by
  obtain ⟨h1, h2, _⟩ := okSe_sz hs
  simp [bIn]; omega)
abbrev o25 : List (FuncId × (List D → Option D)) := (22, gSe) :: (10, gSe) :: (23, gSp) :: o21

theorem gSp_okp {f : FuncId} (h : ∀ (s : Se) (p : Sp) (gd : D), (∀ m, D.lt m gd = true) → (∀ h, view h gd = gd) → (1 ≤ s.wide ∧ s.wide ≤ 12) → (1 ≤ s.deep ∧ s.deep ≤ 12) → Pure Tryz.prog f [.agg (s.c gd), .agg p.c] (.bool (okSp s p))) (ds : List D) (r : D) (hr : gSp ds = some r) : Pure Tryz.prog f ds r :=
 orc_ok (fun ds q hd hk => by
  obtain ⟨s, gd, p⟩ := q
  obtain ⟨rfl, hg⟩ := decSeSp_inv hd
  simp only [Bool.and_eq_true, bIn, decide_eq_true_eq] at hk
  exact h s p gd (En.lt hg) (fun hp => En.view hg hp) hk.1 hk.2) ds r hr
theorem o25_ok : OkO Tryz.prog (mkO o25) := 
 mkO_ok (orc_ok fun ds q hd hk => by obtain ⟨s, gd⟩ := q; obtain ⟨rfl, hg⟩ := decSe_inv hd; exact sea_t s gd ((seLen_iff hg).1 hk)) <|
 mkO_ok (orc_ok fun ds q hd hk => by obtain ⟨s, gd⟩ := q; obtain ⟨rfl, hg⟩ := decSe_inv hd; exact rsea_t s gd ((seLen_iff hg).1 hk)) <|
 mkO_ok (gSp_okp strip_t) <| o21_ok

def runG (g : Ga) : Bool := !(clashG g).2.2
def soundW (w : Wx) : Bool := runG w.tide && (runG w.east && (runG w.north && (runG w.wave && runG w.swell)))
structure Lk where
 s : Se
 gd : D
 p : Sp
 n : Nd
 t : Int
abbrev Lk.c (l : Lk) : List D := l.s.cr l.gd [.int .i64 l.p.x, .int .i64 l.p.y, .int .i64 l.p.way, .int .i64 l.p.cells, .int .i64 l.n.draught, .int .i64 l.n.run, .int .i64 l.n.cross, .int .i64 l.n.tail, .int .i64 l.n.calm, .int .i64 l.n.wave, .int .i64 l.n.swell, .int .i64 l.t]
structure WxOk (w : Wx) : Prop where
 tide : gaOk w.tide = true
 east : gaOk w.east = true
 north : gaOk w.north = true
 wave : gaOk w.wave = true
 swell : gaOk w.swell = true
theorem okWx_gaOk {w : Wx} (h : okWx w = true) : WxOk w := by
 simp only [okWx, okB2, Bool.and_eq_true] at h
 exact ⟨h.1.1, h.2.1.1, h.2.2.1.1, h.2.2.2.1.1, h.2.2.2.2.1⟩
end Go.Sx

namespace Go.Sx
open Go.Proofs
set_option maxRecDepth 10000

def decLk (cs : List D) : Option Lk :=
 match decSeR cs with
 | some (s, gd, [.int .i64 x, .int .i64 y, .int .i64 w, .int .i64 c, .int .i64 a, .int .i64 b, .int .i64 d, .int .i64 e, .int .i64 f, .int .i64 g, .int .i64 h, .int .i64 t]) => some ⟨s, gd, ⟨x, y, w, c⟩, ⟨a, b, d, e, f, g, h⟩, t⟩
 | _ => none
theorem decLk_eq (l : Lk) (h : enGl.sl l.gd = some l.s.glares) : decLk l.c = some l := by
 simp only [decLk, Lk.c, decSeR_eq h]
theorem decLk_inv {cs : List D} {l : Lk} (h : decLk cs = some l) : cs = l.c ∧ enGl.sl l.gd = some l.s.glares := by
 unfold decLk at h
 split at h
 ·rename_i h1
  cases h
  exact decSeR_inv h1
 ·cases h
def decL1 : List D → Option (Lk × Int)
 | [.agg cs, .int .i64 i] => match decLk cs with
  | some l => some (l, i)
  | none => none
 | _ => none
theorem decL1_eq (l : Lk) (h : enGl.sl l.gd = some l.s.glares) (i : Int) : decL1 [.agg l.c, .int .i64 i] = some (l, i) := by
 have := decLk_eq l h
 simp only [decL1, this]
theorem decL1_inv {ds : List D} {q : Lk × Int} (h : decL1 ds = some q) : ds = [.agg q.1.c, .int .i64 q.2] ∧ enGl.sl q.1.gd = some q.1.s.glares := by
 unfold decL1 at h
 split at h
 ·split at h
  ·rename_i h1
   cases h
   obtain ⟨a, b⟩ := decLk_inv h1
   exact ⟨by rw [a], b⟩
  ·cases h
 ·cases h
def gL1 (ok : Lk × Int → Bool) (k : Lk × Int → D) : List D → Option D := orc decL1 ok k
theorem gL1_eq (ok : Lk × Int → Bool) (k : Lk × Int → D) (l : Lk) (h : enGl.sl l.gd = some l.s.glares) {i : Int} (hok : ok (l, i) = true) : gL1 ok k [.agg l.c, .int .i64 i] = some (k (l, i)) :=
 orc_eq (decL1_eq l h i) hok

abbrev o26 : List (FuncId × (List D → Option D)) := o25

theorem o26_ok : OkO Tryz.prog (mkO o26) :=  o25_ok

end Go.Sx

namespace Go.Sx
open Go.Proofs
set_option maxRecDepth 10000

def wxL (w : Wx) : List Ga := [w.tide, w.east, w.north, w.wave, w.swell]
def Ga.d (g : Ga) : List D := gaC g []

end Go.Sx

namespace Go.Sx
open Go.Proofs
set_option maxRecDepth 10000

def enGa : En Ga where
 d := Ga.d
 dec cs := match decGa cs with
  | some (g, []) => some g
  | _ => none
 h1 g := by have := decGa_eq g []; simp only [Ga.d, this]
 h2 c g h := by
  split at h
  ·rename_i h1; cases h; exact decGa_inv h1
  ·cases h
 sz := 4
 hsz _ := rfl
theorem rsound_t (w : Wx) (hw : WxOk w) : Pure Tryz.prog 11 [.agg (w.c [])] (.bool (soundW w)) := by
 refine pure_of_wc (rs := [.tmp 2]) (m := 35) [] o26_ok (by kernel_rfl) Tryz.func11 rfl (by kernel_rfl) rfl rfl (by kernel_rfl) ?_
 have hlit : ∀ (h : H) (nid : Nat), litOpD Tryz.prog h nid 58 5 [(0, .agg w.tide.d), (1, .agg w.east.d), (2, .agg w.north.d), (3, .agg w.wave.d), (4, .agg w.swell.d)] = some (.osl nid 5, (nid, .arr 27 4 ((wxL w).map Ga.d)) :: h, nid + 1) := by
  intro h nid
  kernel_rfl
 simp only [Ga.d, gaC] at hlit
 simp only [FS, ↓RE, okR, argEnv, Nat.reduceAdd, Nat.reduceSub, Nat.reduceLT, Nat.reduceLeDiff, Nat.reduceEqDiff, reduceIte, hlit]
 refine loopW (ι := Nat) o26_ok [] (fun i => [(3, .sl ((wxL w).map enGa.d)), (4, .int .i64 (i : Int))])
  (fun i => []) 2 (fun i => i ≤ 5 ∧ ((wxL w).take i).all runG = true) (fun i => 5 - i) 0 (by kernel_rfl) (by kernel_rfl) ⟨Nat.zero_le _, rfl⟩ ?_ ?_
 ·refine imp_frz 1 ?_
  simp [headW, heapW, envW, blkLt, D.ltL, D.lt, look, hget, frzD, herase, wxL, Ga.d, enGa]
 rintro i ⟨hi, hok⟩
 have hsw : soundW w = (wxL w).all runG := by simp [soundW, wxL]
 have hlen : ((wxL w).length : Int) = 5 := rfl
 rcases Nat.lt_or_ge i 5 with hlt | hge
 ·obtain ⟨g, hga, hgj⟩ : ∃ g : Ga, gaOk g = true ∧ (wxL w)[i]? = some g := by
   have h5 : i = 0 ∨ i = 1 ∨ i = 2 ∨ i = 3 ∨ i = 4 := by omega
   rcases h5 with rfl | rfl | rfl | rfl | rfl
   ·exact ⟨w.tide, hw.tide, rfl⟩
   ·exact ⟨w.east, hw.east, rfl⟩
   ·exact ⟨w.north, hw.north, rfl⟩
   ·exact ⟨w.wave, hw.wave, rfl⟩
   ·exact ⟨w.swell, hw.swell, rfl⟩
  have hix := fun hp => En.ix (P := Tryz.prog) Fz.und_58 Fz.size_27 (En.sl_map (E := enGa) (wxL w)) hgj hp .i64
  have hc : ((i : Int) < 5) = True := by simp; omega
  have hwi := wrap_i64 (z := (i : Int) + 1) (by omega) (by omega)
  obtain ⟨a, b, c, rs⟩ := g
  have hix2 : ∀ hp, indexAddrD Tryz.prog hp 58 (.sl ((wxL w).map enGa.d)) (.int .i64 (i : Int)) = some (.ref [.int .i64 a, .int .i64 b, .int .i64 c, .sl (rs.map Rd.d)] 0) := hix
  cases hr : runG ⟨a, b, c, rs⟩
  ·have hr' : (clashG ⟨a, b, c, rs⟩).2.2 = true := by simpa [runG] using hr
   simp only [FS, ↓RE, okR, argEnv, Nat.reduceAdd, Nat.reduceSub, Nat.reduceLT, Nat.reduceLeDiff, Nat.reduceEqDiff, reduceIte, List.length_map, hlen, hc, decide_true, hix2, gGk_eq hga, clD, ex_tup, hr']
   rw [hsw, all_not hgj hr]
  ·have hr' : (clashG ⟨a, b, c, rs⟩).2.2 = false := by simpa [runG] using hr
   simp only [FS, ↓RE, okR, argEnv, Nat.reduceAdd, Nat.reduceSub, Nat.reduceLT, Nat.reduceLeDiff, Nat.reduceEqDiff, reduceIte, List.length_map, hlen, hc, decide_true, hix2, gGk_eq hga, clD, ex_tup, hr', hwi]
   exact ⟨i + 1, ⟨by omega, all_take hgj hok hr⟩, by omega, imp_head (by simp [headW, heapW, envW, blkLt, D.ltL, D.lt, look, hget])⟩
 have : i = 5 := by omega
 subst this
 simp only [FS, ↓RE, okR, argEnv, Nat.reduceAdd, Nat.reduceSub, Nat.reduceLT, Nat.reduceLeDiff, Nat.reduceEqDiff, reduceIte, List.length_map, hlen, Int.cast_ofNat_Int, Int.lt_irrefl, decide_false]
 rw [hsw]
 rw [show (wxL w).take 5 = wxL w from rfl] at hok
 rw [hok]

abbrev o28 : List (FuncId × (List D → Option D)) := (11, orc decWx okWx fun w => .bool (soundW w)) :: o26

theorem o28_ok : OkO Tryz.prog (mkO o28) := 
 mkO_ok (orc_ok fun ds w hd hk => by rw [decWx_inv hd]; exact rsound_t w (okWx_gaOk hk)) <| o26_ok

theorem okSe_wx {s : Se} (h : okSe s = true) : okWx s.w = true := by
 simp only [okSe, Bool.and_eq_true] at h
 exact h.2.2.2.1
end Go.Sx

namespace Go.Sx
open Go.Proofs
set_option maxRecDepth 10000

def pxK (p : Sp) (k : Int) : Int := p.x + k * dxW p.way
def pyK (p : Sp) (k : Int) : Int := p.y + k * dyW p.way
def cellI (s : Se) (p : Sp) (k : Int) : Int := pyK p k * s.wide + pxK p k
theorem cell_xy {s : Se} {p : Sp} (h : okSp s p = true) {k : Int} (hk : 0 ≤ k ∧ k ≤ p.cells - 1) : (0 ≤ pxK p k ∧ pxK p k ≤ s.wide - 1) ∧ (0 ≤ pyK p k ∧ pyK p k ≤ s.deep - 1) := by
 simp only [okSp, Bool.and_eq_true, bIn, decide_eq_true_eq] at h
 obtain ⟨hw, hc, hx, hy, hx2, hy2⟩ := h
 obtain ⟨d1, d2, _⟩ := dx_cases p.way hw
 simp only [pxK, pyK]
 constructor
 ·rcases d1 with h | h | h <;> rw [h] at hx2 ⊢ <;> omega
 ·rcases d2 with h | h | h <;> rw [h] at hy2 ⊢ <;> omega
theorem cell_lt {s : Se} {p : Sp} (hw : 1 ≤ s.wide) (h : okSp s p = true) {k : Int} (hk : 0 ≤ k ∧ k ≤ p.cells - 1) : 0 ≤ cellI s p k ∧ cellI s p k < s.wide * s.deep := by
 obtain ⟨hx, hy⟩ := cell_xy h hk
 have h1 : pyK p k * s.wide ≤ (s.deep - 1) * s.wide := Int.mul_le_mul_of_nonneg_right hy.2 (by omega)
 have h2 : 0 ≤ pyK p k * s.wide := Int.mul_nonneg hy.1 (by omega)
 have h3 : (s.deep - 1) * s.wide = s.wide * s.deep - s.wide := by rw [Int.sub_mul, Int.one_mul, Int.mul_comm]
 simp only [cellI]
 omega
theorem okSp_ce {s : Se} {p : Sp} (h : okSp s p = true) : okWay p.way = true ∧ (1 ≤ p.cells ∧ p.cells ≤ 12) := by
 simp only [okSp, Bool.and_eq_true, bIn, decide_eq_true_eq] at h
 exact ⟨h.1, h.2.1⟩
def okCl (q : Lk × Int) : Bool := bIn q.1.s.wide 1 12 && (bIn q.1.s.deep 1 12 && (okSp q.1.s q.1.p && bIn q.2 0 (q.1.p.cells - 1)))

theorem cell_t (l : Lk) (hg : enGl.sl l.gd = some l.s.glares) (k : Int) (hw : 1 ≤ l.s.wide ∧ l.s.wide ≤ 12) (hd : 1 ≤ l.s.deep ∧ l.s.deep ≤ 12) (hp : okSp l.s l.p = true) (hk : 0 ≤ k ∧ k ≤ l.p.cells - 1) :
  Pure Tryz.prog 26 [.agg l.c, .int .i64 k] (.tup [.int .i64 (cellI l.s l.p k), .int .i64 (pxK l.p k), .int .i64 (pyK l.p k)]) := by
 have vg := fun hp => En.view hg hp
 have lg := En.lt hg
 obtain ⟨hwy, hce⟩ := okSp_ce hp
 obtain ⟨hx, hy⟩ := cell_xy hp hk
 have hc := cell_lt hw.1 hp hk
 have hm : l.s.wide * l.s.deep ≤ 12 * 12 := Int.mul_le_mul hw.2 hd.2 (by omega) (by omega)
 obtain ⟨d1, d2, _⟩ := dx_cases l.p.way hwy
 have h1 := wrap_i64 (z := k * dxW l.p.way) (by rcases d1 with h | h | h <;> rw [h] <;> omega) (by rcases d1 with h | h | h <;> rw [h] <;> omega)
 have h2 := wrap_i64 (z := k * dyW l.p.way) (by rcases d2 with h | h | h <;> rw [h] <;> omega) (by rcases d2 with h | h | h <;> rw [h] <;> omega)
 have h3 : IntKind.i64.wrap (l.p.x + k * dxW l.p.way) = pxK l.p k := wrap_i64 (z := pxK l.p k) (by omega) (by omega)
 have h4 : IntKind.i64.wrap (l.p.y + k * dyW l.p.way) = pyK l.p k := wrap_i64 (z := pyK l.p k) (by omega) (by omega)
 have h5' : 0 ≤ pyK l.p k * l.s.wide := Int.mul_nonneg hy.1 (by omega)
 have h5 := wrap_i64 (z := pyK l.p k * l.s.wide) (by omega) (by simp only [cellI] at hc; omega)
 have h6 : IntKind.i64.wrap (pyK l.p k * l.s.wide + pxK l.p k) = cellI l.s l.p k := wrap_i64 (z := cellI l.s l.p k) (by omega) (by omega)
 refine pure_of_wc (rs := [.tmp 4, .tmp 5, .tmp 6]) (m := 42) [(2, [(16, false, false, [])])] o28_ok (by kernel_rfl) Tryz.func26 rfl (by kernel_rfl) rfl rfl (by kernel_rfl) ?_
 simp only [FS, ↓RE, okR, argEnv, Nat.reduceAdd, Nat.reduceSub, Nat.reduceLT, Nat.reduceLeDiff, Nat.reduceEqDiff, reduceIte, gSt_eq hwy, ex_tup, h1, h2, h3, h4, h5, h6]

def passB (l : Lk) (i : Nat) : Bool := match l.s.boats[i]? with
 | some b => bIn l.t b.t.1 b.t.2
 | none => false
def okPs (q : Lk × Int) : Bool := decide (0 ≤ q.2) && decide (q.2 < q.1.s.boats.length)
theorem passes_t (l : Lk) (hg : enGl.sl l.gd = some l.s.glares) (i : Nat) (hi : i < l.s.boats.length) : Pure Tryz.prog 28 [.agg l.c, .int .i64 (i : Int)] (.bool (passB l i)) := by
 have vg := fun hp => En.view hg hp
 have lg := En.lt hg
 obtain ⟨b, hb⟩ : ∃ b, l.s.boats[i]? = some b := ⟨l.s.boats[i], by simp [hi]⟩
 have hix := fun hp => En.ix (P := Tryz.prog) Fz.und_30 Fz.size_54 (En.sl_map (E := enBt) l.s.boats) hb hp .i64
 obtain ⟨⟨x1, x2⟩, ⟨y1, y2⟩, ⟨t1, t2⟩, su⟩ := b
 have hix2 : ∀ hp, indexAddrD Tryz.prog hp 30 (.sl (l.s.boats.map enBt.d)) (.int .i64 (i : Int)) = some (.ref [.int .i64 x1, .int .i64 x2, .int .i64 y1, .int .i64 y2, .int .i64 t1, .int .i64 t2, .bool su] 0) := hix
 refine pure_of_wc (rs := [.tmp 4]) (m := 24) [(1, [(20, false, false, [])])] o28_ok (by kernel_rfl) Tryz.func28 rfl (by kernel_rfl) rfl rfl (by kernel_rfl) ?_
 simp only [FS, ↓RE, okR, argEnv, Nat.reduceAdd, Nat.reduceSub, Nat.reduceLT, Nat.reduceLeDiff, Nat.reduceEqDiff, reduceIte, hix2, gIn_eq, passB, hb]

abbrev o29 : List (FuncId × (List D → Option D)) := (26, gL1 okCl fun q => .tup [.int .i64 (cellI q.1.s q.1.p q.2), .int .i64 (pxK q.1.p q.2), .int .i64 (pyK q.1.p q.2)]) :: (28, gL1 okPs fun q => .bool (passB q.1 q.2.toNat)) :: o28

theorem o29_ok : OkO Tryz.prog (mkO o29) := 
 mkO_ok (orc_ok fun ds q hd hk => by
  obtain ⟨rfl, hg⟩ := decL1_inv hd
  simp only [okCl, Bool.and_eq_true, bIn, decide_eq_true_eq] at hk
  exact cell_t _ hg _ hk.1 hk.2.1 hk.2.2.1 hk.2.2.2) <|
 mkO_ok (orc_ok fun ds q hd hk => by
  obtain ⟨rfl, hg⟩ := decL1_inv hd
  simp only [okPs, Bool.and_eq_true, decide_eq_true_eq] at hk
  have := passes_t q.1 hg q.2.toNat (by omega)
  rwa [Int.toNat_of_nonneg hk.1] at this) <| o28_ok

def inW (b : Bt) (x y : Int) : Bool := bIn x b.x.1 b.x.2 && bIn y b.y.1 b.y.2
def freeB (th : Nat → Bool) (x y : Int) : List Bt → Nat → Bool
 | [], _ => true
 | b :: r, i => !(th i && inW b x y) && freeB th x y r (i + 1)
theorem free_t (l : Lk) (hg : enGl.sl l.gd = some l.s.glares) (hl : l.s.boats.length ≤ 9223372036854775807) (x y : Int) (f : FuncId) (fst caps : List D) (th : Nat → Bool) (hfl : ∀ m, D.ltL m fst = true) (hfv : ∀ h, viewL h fst = fst) (hcl : ∀ m, D.ltL m caps = true) (hcv : ∀ h, viewL h caps = caps)
  (hva : ∀ h i, viewL h (fst ++ [D.int .i64 i] ++ caps) = fst ++ [D.int .i64 i] ++ caps)
  (hq : ∀ i : Nat, i < l.s.boats.length → Pure Tryz.prog f (fst ++ [.int .i64 (i : Int)] ++ caps) (.bool (th i))) :
  Pure Tryz.prog 27 [.agg l.c, .int .i64 x, .int .i64 y, .fn (.func f) fst caps] (.bool (freeB th x y l.s.boats 0)) := by
 have vg := fun hp => En.view hg hp
 have lg := En.lt hg
 have hbl := fun hp => En.len (P := Tryz.prog) Fz.und_30 (En.sl_map (E := enBt) l.s.boats) hp
 have hIn : ∀ a b c, Pure Tryz.prog 24 [.int .i64 a, .int .i64 b, .int .i64 c] (.bool (bIn a b c)) := in_t
 refine pure_of_wc (rs := [.tmp 8]) (m := 44) [] oNone_ok (by kernel_rfl) Tryz.func27 rfl (by kernel_rfl) rfl rfl (by kernel_rfl) ?_
 simp only [FS, ↓RE, okR, argEnv, Nat.reduceAdd, Nat.reduceSub, Nat.reduceLT, Nat.reduceLeDiff, Nat.reduceEqDiff, reduceIte, hbl]
 refine loopV (ι := Nat) oNone_ok [] (fun i => [(1, .int .i64 x), (2, .int .i64 y), (3, .fn (.func f) fst caps), (13, .sl (l.s.boats.map enBt.d)), (14, .int .i64 (l.s.boats.length : Int)), (15, .int .i64 (i : Int))])
  (fun i => []) 1 (fun i => i ≤ l.s.boats.length ∧ freeB th x y l.s.boats 0 = freeB th x y (l.s.boats.drop i) i) (fun i => l.s.boats.length - i) 0 (by kernel_rfl) (by kernel_rfl) ⟨Nat.zero_le _, rfl⟩ ?_ ?_
 ·simp [headW, heapW, envW, blkLt, D.ltL, D.lt, look, hget, hfl, hcl]
 rintro i ⟨hi, hok⟩
 rcases Nat.lt_or_ge i l.s.boats.length with hlt | hge
 rotate_left
 ·have : i = l.s.boats.length := by omega
  subst this
  rw [List.drop_length] at hok
  simp only [FS, ↓RE, okR, argEnv, Nat.reduceAdd, Nat.reduceSub, Nat.reduceLT, Nat.reduceLeDiff, Nat.reduceEqDiff, reduceIte, Int.lt_irrefl, decide_false]
  rw [hok]; rfl
 have hc : ((i : Int) < (l.s.boats.length : Int)) = True := by simp [hlt]
 obtain ⟨b, hb⟩ : ∃ b, l.s.boats[i]? = some b := ⟨l.s.boats[i], by simp [hlt]⟩
 have hix := fun hp => En.ix (P := Tryz.prog) Fz.und_30 Fz.size_54 (En.sl_map (E := enBt) l.s.boats) hb hp .i64
 obtain ⟨⟨x1, x2⟩, ⟨y1, y2⟩, ⟨t1, t2⟩, su⟩ := b
 have hix2 : ∀ hp, indexAddrD Tryz.prog hp 30 (.sl (l.s.boats.map enBt.d)) (.int .i64 (i : Int)) = some (.ref [.int .i64 x1, .int .i64 x2, .int .i64 y1, .int .i64 y2, .int .i64 t1, .int .i64 t2, .bool su] 0) := hix
 have hwi := wrap_i64 (z := (i : Int) + 1) (by omega) (by omega)
 rw [drop_at hb] at hok
 simp only [freeB, inW] at hok
 simp only [FS, ↓RE, okR, argEnv, Nat.reduceAdd, Nat.reduceSub, Nat.reduceLT, Nat.reduceLeDiff, Nat.reduceEqDiff, reduceIte, hix2, hc, decide_true]
 refine call_of_pure (by rw [hva]; exact hq i hlt) rfl ?_
 cases ht : th i
 ·rw [ht] at hok
  simp only [FS, ↓RE, okR, argEnv, Nat.reduceAdd, Nat.reduceSub, Nat.reduceLT, Nat.reduceLeDiff, Nat.reduceEqDiff, reduceIte, hwi]
  simp only [Bool.false_and, Bool.not_false, Bool.true_and] at hok
  exact ⟨i + 1, ⟨by omega, hok⟩, by omega, by simp [headW, heapW, envW, blkLt, D.ltL, D.lt, look, hget, hfl, hcl]⟩
 rw [ht] at hok
 simp only [FS, ↓RE, okR, argEnv, Nat.reduceAdd, Nat.reduceSub, Nat.reduceLT, Nat.reduceLeDiff, Nat.reduceEqDiff, reduceIte]
 refine call_of_pure (hIn _ _ _) rfl ?_
 cases hx : bIn x x1 x2
 ·rw [hx] at hok
  simp only [FS, ↓RE, okR, argEnv, Nat.reduceAdd, Nat.reduceSub, Nat.reduceLT, Nat.reduceLeDiff, Nat.reduceEqDiff, reduceIte, hwi]
  simp only [Bool.false_and, Bool.and_false, Bool.not_false, Bool.true_and] at hok
  exact ⟨i + 1, ⟨by omega, hok⟩, by omega, by simp [headW, heapW, envW, blkLt, D.ltL, D.lt, look, hget, hfl, hcl]⟩
 rw [hx] at hok
 simp only [FS, ↓RE, okR, argEnv, Nat.reduceAdd, Nat.reduceSub, Nat.reduceLT, Nat.reduceLeDiff, Nat.reduceEqDiff, reduceIte]
 refine call_of_pure (hIn _ _ _) rfl ?_
 cases hy : bIn y y1 y2
 ·rw [hy] at hok
  simp only [FS, ↓RE, okR, argEnv, Nat.reduceAdd, Nat.reduceSub, Nat.reduceLT, Nat.reduceLeDiff, Nat.reduceEqDiff, reduceIte, hwi]
  simp only [Bool.and_false, Bool.not_false, Bool.true_and] at hok
  exact ⟨i + 1, ⟨by omega, hok⟩, by omega, by simp [headW, heapW, envW, blkLt, D.ltL, D.lt, look, hget, hfl, hcl]⟩
 ·rw [hy] at hok
  simp only [FS, ↓RE, okR, argEnv, Nat.reduceAdd, Nat.reduceSub, Nat.reduceLT, Nat.reduceLeDiff, Nat.reduceEqDiff, reduceIte]
  rw [hok]; rfl
end Go.Sx
