/- Own work: contracts of functions, used in the proof of a law. -/
import Derived.Test.YtjhoplbdpdbgaaaGreatDoorSxC9z
set_option linter.unusedVariables false
set_option linter.unusedSimpArgs false
namespace Go.Sx
open Go.Proofs
set_option maxRecDepth 10000

structure Bt where
 x : Int × Int
 y : Int × Int
 t : Int × Int
 sure : Bool
structure Gl where
 way : Int
 t : Int × Int
def enBt : En Bt where
 d b := [.int .i64 b.x.1, .int .i64 b.x.2, .int .i64 b.y.1, .int .i64 b.y.2, .int .i64 b.t.1, .int .i64 b.t.2, .bool b.sure]
 dec | [.int .i64 a, .int .i64 b, .int .i64 c, .int .i64 d, .int .i64 e, .int .i64 f, .bool s] => some ⟨(a, b), (c, d), (e, f), s⟩ | _ => none
 h1 _ := rfl
 h2 c a h := by
  split at h
  ·cases h; rfl
  ·cases h
 sz := 7
 hsz _ := rfl
structure Wx where
 tide : Ga
 east : Ga
 north : Ga
 wave : Ga
 swell : Ga
structure Se where
 wide : Int
 deep : Int
 depths : List (Int × Int)
 w : Wx
 boats : List Bt
 glares : List Gl
abbrev gaC (g : Ga) (r : List D) : List D := .int .i64 g.rate :: .int .i64 g.least :: .int .i64 g.most :: .sl (g.rs.map Rd.d) :: r
abbrev Wx.c (w : Wx) (r : List D) : List D := gaC w.tide (gaC w.east (gaC w.north (gaC w.wave (gaC w.swell r))))
abbrev Se.cr (s : Se) (gd : D) (r : List D) : List D := .int .i64 s.wide :: .int .i64 s.deep :: .sl (s.depths.map enS.d) :: s.w.c (.sl (s.boats.map enBt.d) :: gd :: r)
abbrev Se.c (s : Se) (gd : D) : List D := s.cr gd []
structure Sp where
 x : Int
 y : Int
 way : Int
 cells : Int
abbrev Sp.c (p : Sp) : List D := [.int .i64 p.x, .int .i64 p.y, .int .i64 p.way, .int .i64 p.cells]
structure Nd where
 draught : Int
 run : Int
 cross : Int
 tail : Int
 calm : Int
 wave : Int
 swell : Int
abbrev Nd.c (n : Nd) : List D := [.int .i64 n.draught, .int .i64 n.run, .int .i64 n.cross, .int .i64 n.tail, .int .i64 n.calm, .int .i64 n.wave, .int .i64 n.swell]

def okTimes (t : Int × Int) : Bool := bSpan t.1 t.2 0 1440
def okWay (w : Int) : Bool := decide (1 ≤ w) && decide (w ≤ 8)
def okB2 (g : Ga) (lo hi : Int) : Bool := gaOk g && (decide (lo ≤ g.least) && decide (g.most ≤ hi))
def okWx (w : Wx) : Bool := okB2 w.tide (-2000) 2000 && (okB2 w.east (-300) 300 && (okB2 w.north (-300) 300 && (okB2 w.wave 0 2000 && okB2 w.swell 0 2000)))
theorem times_t (a b : Int) : Pure Tryz.prog 109 [.agg [.int .i64 a, .int .i64 b]] (.bool (okTimes (a, b))) := by
 refine pure_of_wc (rs := [.tmp 2]) (m := 5) [] o9_ok (by kernel_rfl) Tryz.func109 rfl (by kernel_rfl) rfl rfl (by kernel_rfl) ?_
 simp only [FS, ↓RE, okR, argEnv, Nat.reduceAdd, Nat.reduceSub, Nat.reduceLT, Nat.reduceLeDiff, Nat.reduceEqDiff, reduceIte, gSpan_eq, okTimes]
theorem rtimes_t (a b : Int) : Pure Tryz.prog 50 [.agg [.int .i64 a, .int .i64 b]] (.bool (okTimes (a, b))) := by
 refine pure_of_wc (rs := [.tmp 2]) (m := 5) [] o9_ok (by kernel_rfl) Tryz.func50 rfl (by kernel_rfl) rfl rfl (by kernel_rfl) ?_
 simp only [FS, ↓RE, okR, argEnv, Nat.reduceAdd, Nat.reduceSub, Nat.reduceLT, Nat.reduceLeDiff, Nat.reduceEqDiff, reduceIte, gSpan_eq, okTimes]
theorem way_t (w : Int) : Pure Tryz.prog 112 [.int .i64 w] (.bool (okWay w)) := by
 refine pure_of_wc (rs := [.tmp 2]) (m := 9) [] o9_ok (by kernel_rfl) Tryz.func112 rfl (by kernel_rfl) rfl rfl (by kernel_rfl) ?_
 simp only [FS, ↓RE, okR, argEnv, Nat.reduceAdd, Nat.reduceSub, Nat.reduceLT, Nat.reduceLeDiff, Nat.reduceEqDiff, reduceIte]
 cases h1 : decide (1 ≤ w) <;> cases h2 : decide (w ≤ 8) <;> simp [BR, okWay, h1, h2]
theorem rway_t (w : Int) : Pure Tryz.prog 51 [.int .i64 w] (.bool (okWay w)) := by
 refine pure_of_wc (rs := [.tmp 2]) (m := 9) [] o9_ok (by kernel_rfl) Tryz.func51 rfl (by kernel_rfl) rfl rfl (by kernel_rfl) ?_
 simp only [FS, ↓RE, okR, argEnv, Nat.reduceAdd, Nat.reduceSub, Nat.reduceLT, Nat.reduceLeDiff, Nat.reduceEqDiff, reduceIte]
 cases h1 : decide (1 ≤ w) <;> cases h2 : decide (w ≤ 8) <;> simp [BR, okWay, h1, h2]
def gTi : List D → Option D
 | [.agg [.int .i64 a, .int .i64 b]] => some (.bool (okTimes (a, b)))
 | _ => none
theorem gTi_inv {ds : List D} {r : D} (h : gTi ds = some r) : ∃ a b, ds = [.agg [.int .i64 a, .int .i64 b]] ∧ r = .bool (okTimes (a, b)) := by
 unfold gTi at h
 split at h
 ·cases h; exact ⟨_, _, rfl, rfl⟩
 ·cases h
def gWy : List D → Option D
 | [.int .i64 a] => some (.bool (okWay a))
 | _ => none
theorem gWy_inv {ds : List D} {r : D} (h : gWy ds = some r) : ∃ a, ds = [.int .i64 a] ∧ r = .bool (okWay a) := by
 unfold gWy at h
 split at h
 ·cases h; exact ⟨_, rfl, rfl⟩
 ·cases h

theorem bounded_t (g : Ga) (lo hi : Int) (hl : g.rs.length ≤ 9223372036854775807) : Pure Tryz.prog 133 [.agg g.c, .int .i64 lo, .int .i64 hi] (.bool (okB2 g lo hi)) := by
 obtain ⟨a, b, c, rs⟩ := g
 dsimp only at hl
 simp only [Ga.c]
 refine pure_of_wc (rs := [.tmp 6]) (m := 21) [] o9_ok (by kernel_rfl) Tryz.func133 rfl (by kernel_rfl) rfl rfl (by kernel_rfl) ?_
 simp only [FS, ↓RE, okR, argEnv, Nat.reduceAdd, Nat.reduceSub, Nat.reduceLT, Nat.reduceLeDiff, Nat.reduceEqDiff, reduceIte, gGa_eq _ _ _ _ hl]
 cases h0 : gaOk ⟨a, b, c, rs⟩ <;> cases h1 : decide (lo ≤ b) <;> cases h2 : decide (c ≤ hi) <;> simp [BR, okB2, h0, h1, h2]
theorem within_t (g : Ga) (lo hi : Int) (hl : g.rs.length ≤ 9223372036854775807) : Pure Tryz.prog 98 [.agg g.c, .int .i64 lo, .int .i64 hi] (.bool (okB2 g lo hi)) := by
 obtain ⟨a, b, c, rs⟩ := g
 dsimp only at hl
 simp only [Ga.c]
 refine pure_of_wc (rs := [.tmp 6]) (m := 21) [] o9_ok (by kernel_rfl) Tryz.func98 rfl (by kernel_rfl) rfl rfl (by kernel_rfl) ?_
 simp only [FS, ↓RE, okR, argEnv, Nat.reduceAdd, Nat.reduceSub, Nat.reduceLT, Nat.reduceLeDiff, Nat.reduceEqDiff, reduceIte, gGa_eq _ _ _ _ hl]
 cases h0 : gaOk ⟨a, b, c, rs⟩ <;> cases h1 : decide (lo ≤ b) <;> cases h2 : decide (c ≤ hi) <;> simp [BR, okB2, h0, h1, h2]
def gB2 : List D → Option D
 | [.agg [.int .i64 a, .int .i64 b, .int .i64 c, .sl es], .int .i64 lo, .int .i64 hi] => match decRds es with
  | some rs => if rs.length ≤ 9223372036854775807 then some (.bool (okB2 ⟨a, b, c, rs⟩ lo hi)) else none
  | none => none
 | _ => none
theorem gB2_eq (a b c lo hi : Int) {rs : List Rd} (hl : rs.length ≤ 9223372036854775807) : gB2 [.agg [.int .i64 a, .int .i64 b, .int .i64 c, .sl (rs.map Rd.d)], .int .i64 lo, .int .i64 hi] = some (.bool (okB2 ⟨a, b, c, rs⟩ lo hi)) := by
 simp [gB2, decRds_map, hl]
theorem gB2_inv {ds : List D} {r : D} (h : gB2 ds = some r) : ∃ (g : Ga) (lo hi : Int), g.rs.length ≤ 9223372036854775807 ∧ ds = [.agg g.c, .int .i64 lo, .int .i64 hi] ∧ r = .bool (okB2 g lo hi) := by
 unfold gB2 at h
 split at h
 ·split at h
  ·rename_i rs hrs
   split at h
   ·rename_i hc
    cases h
    exact ⟨⟨_, _, _, rs⟩, _, _, hc, by rw [decRds_inv hrs]; rfl, rfl⟩
   ·cases h
  ·cases h
 ·cases h
abbrev o20 : List (FuncId × (List D → Option D)) := (109, gTi) :: (50, gTi) :: (112, gWy) :: (51, gWy) :: (133, gB2) :: (98, gB2) :: o9
theorem o20_ok : OkO Tryz.prog (mkO o20) :=
 mkO_ok (fun ds r h => by obtain ⟨a, b, rfl, rfl⟩ := gTi_inv h; exact times_t a b) <|
 mkO_ok (fun ds r h => by obtain ⟨a, b, rfl, rfl⟩ := gTi_inv h; exact rtimes_t a b) <|
 mkO_ok (fun ds r h => by obtain ⟨a, rfl, rfl⟩ := gWy_inv h; exact way_t a) <|
 mkO_ok (fun ds r h => by obtain ⟨a, rfl, rfl⟩ := gWy_inv h; exact rway_t a) <|
 mkO_ok (fun ds r h => by obtain ⟨g, lo, hi, hl, rfl, rfl⟩ := gB2_inv h; exact bounded_t g lo hi hl) <|
 mkO_ok (fun ds r h => by obtain ⟨g, lo, hi, hl, rfl, rfl⟩ := gB2_inv h; exact within_t g lo hi hl) o9_ok

structure WxL (w : Wx) : Prop where
 tide : w.tide.rs.length ≤ 9223372036854775807
 east : w.east.rs.length ≤ 9223372036854775807
 north : w.north.rs.length ≤ 9223372036854775807
 wave : w.wave.rs.length ≤ 9223372036854775807
 swell : w.swell.rs.length ≤ 9223372036854775807

theorem weather_t (w : Wx) (h : WxL w) : Pure Tryz.prog 94 [.agg (w.c [])] (.bool (okWx w)) := by
 refine pure_of_wc (rs := [.tmp 2]) (m := 26) [] o20_ok (by kernel_rfl) Tryz.func94 rfl (by kernel_rfl) rfl rfl (by kernel_rfl) ?_
 simp only [FS, ↓RE, okR, argEnv, Nat.reduceAdd, Nat.reduceSub, Nat.reduceLT, Nat.reduceLeDiff, Nat.reduceEqDiff, reduceIte, gB2_eq _ _ _ _ _ h.tide, gB2_eq _ _ _ _ _ h.east, gB2_eq _ _ _ _ _ h.north, gB2_eq _ _ _ _ _ h.wave, gB2_eq _ _ _ _ _ h.swell]
 cases h0 : okB2 w.tide (-2000) 2000 <;> cases h1 : okB2 w.east (-300) 300 <;> cases h2 : okB2 w.north (-300) 300 <;> cases h3 : okB2 w.wave 0 2000 <;> cases h4 : okB2 w.swell 0 2000 <;> simp [BR, okWx, h0, h1, h2, h3, h4]
theorem rweather_t (w : Wx) (h : WxL w) : Pure Tryz.prog 42 [.agg (w.c [])] (.bool (okWx w)) := by
 refine pure_of_wc (rs := [.tmp 2]) (m := 26) [] o20_ok (by kernel_rfl) Tryz.func42 rfl (by kernel_rfl) rfl rfl (by kernel_rfl) ?_
 simp only [FS, ↓RE, okR, argEnv, Nat.reduceAdd, Nat.reduceSub, Nat.reduceLT, Nat.reduceLeDiff, Nat.reduceEqDiff, reduceIte, gB2_eq _ _ _ _ _ h.tide, gB2_eq _ _ _ _ _ h.east, gB2_eq _ _ _ _ _ h.north, gB2_eq _ _ _ _ _ h.wave, gB2_eq _ _ _ _ _ h.swell]
 cases h0 : okB2 w.tide (-2000) 2000 <;> cases h1 : okB2 w.east (-300) 300 <;> cases h2 : okB2 w.north (-300) 300 <;> cases h3 : okB2 w.wave 0 2000 <;> cases h4 : okB2 w.swell 0 2000 <;> simp [BR, okWx, h0, h1, h2, h3, h4]

end Go.Sx
