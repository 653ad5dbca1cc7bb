/- Own work: a calculus of contracts for the programs of this kit: parts SxE32r, SxE33r, SxE34r, SxE35r. -/
import Derived.Test.YthljonnokmkagaaSxEf
set_option linter.unusedVariables false
set_option linter.unusedSimpArgs false
namespace Go.Sx
open Go.Proofs
set_option maxRecDepth 10000

/-! Oracles for the laws -/
def gInt1 (q : Int → D) : List D → Option D
  | [.int .i64 w] => some (q w)
  | _ => none
theorem gInt1_eq (q : Int → D) (w : Int) : gInt1 q [.int .i64 w] = some (q w) := (rfl)
theorem gInt1_ok {f : FuncId} {q : Int → D} (h : ∀ w, Pure Try.prog f [.int .i64 w] (q w)) (ds : List D) (r : D) (hr : gInt1 q ds = some r) : Pure Try.prog f ds r := by
  unfold gInt1 at hr; split at hr
  · cases hr; exact h _
  · cases hr
noncomputable def gC1 (ok : Craft → Prop) (q : Craft → D) : List D → Option D := orcF ok (fun c => [.agg c.c]) q
theorem gC1_eq {ok : Craft → Prop} (q : Craft → D) {c : Craft} (h : ok c) : gC1 ok q [.agg c.c] = some (q c) := orcF_eq (ok := ok) (dsf := fun c : Craft => [.agg c.c]) c h fun b hb => by
  simp only [List.cons.injEq, D.agg.injEq, and_true] at hb
  rw [Craft.c_inj hb]
theorem gC1_ok {f : FuncId} {ok : Craft → Prop} {q : Craft → D} (h : ∀ c, ok c → Pure Try.prog f [.agg c.c] (q c)) (ds : List D) (r : D) (hr : gC1 ok q ds = some r) : Pure Try.prog f ds r := orcF_ok h ds r hr
noncomputable def gC2 (ok : Craft → Prop) (q : Craft → Int → D) : List D → Option D := orcF (fun p : Craft × Int => ok p.1) (fun p => [.agg p.1.c, .int .i64 p.2]) (fun p => q p.1 p.2)
theorem gC2_ok {f : FuncId} {ok : Craft → Prop} {q : Craft → Int → D} (h : ∀ c w, ok c → Pure Try.prog f [.agg c.c, .int .i64 w] (q c w)) (ds : List D) (r : D) (hr : gC2 ok q ds = some r) : Pure Try.prog f ds r := orcF_ok (fun p hp => h p.1 p.2 hp) ds r hr
noncomputable def gC5 (ok : Craft → Int → Prop) (q : Craft → Int → Int → Int → Int → D) : List D → Option D :=
  orcF (fun p : Craft × Int × Int × Int × Int => ok p.1 p.2.2.2.1) (fun p => [.agg p.1.c, .int .i64 p.2.1, .int .i64 p.2.2.1, .int .i64 p.2.2.2.1, .int .i64 p.2.2.2.2]) (fun p => q p.1 p.2.1 p.2.2.1 p.2.2.2.1 p.2.2.2.2)
theorem gC5_ok {f : FuncId} {ok : Craft → Int → Prop} {q : Craft → Int → Int → Int → Int → D} (h : ∀ c k w al wv, ok c al → Pure Try.prog f [.agg c.c, .int .i64 k, .int .i64 w, .int .i64 al, .int .i64 wv] (q c k w al wv)) (ds : List D) (r : D) (hr : gC5 ok q ds = some r) : Pure Try.prog f ds r :=
  orcF_ok (fun p hp => h p.1 p.2.1 p.2.2.1 p.2.2.2.1 p.2.2.2.2 hp) ds r hr
noncomputable def gSays : List D → Option D := orcF (fun p : List RRow × Int => p.1.length ≤ 9223372036854775807) (fun p => [.sl (p.1.map RRow.d), .int .i64 p.2]) (fun p => .tup [.int .i64 ((sayO p.1 p.2).getD 0), .bool (sayO p.1 p.2).isSome])
theorem gSays_eq {l : List RRow} (h : l.length ≤ 9223372036854775807) (w : Int) : gSays [.sl (l.map RRow.d), .int .i64 w] = some (.tup [.int .i64 ((sayO l w).getD 0), .bool (sayO l w).isSome]) :=
  orcF_eq (ok := fun p : List RRow × Int => p.1.length ≤ 9223372036854775807) (dsf := fun p => [.sl (p.1.map RRow.d), .int .i64 p.2]) (rf := fun p => .tup [.int .i64 ((sayO p.1 p.2).getD 0), .bool (sayO p.1 p.2).isSome]) (l, w) h fun b hb => by
    simp only [List.cons.injEq, D.sl.injEq, D.int.injEq, true_and, and_true] at hb
    rw [map_inj RRow.d_inj hb.1, hb.2]
noncomputable abbrev qShort := gC1 CraftL fun c => .bool (shortC c)
noncomputable abbrev qCheck := gC1 CraftL fun c => .int .i64 (if craftB c then 0 else 2)
noncomputable abbrev qCeil := gC2 CraftL fun c w => .tup [.int .i64 (CeilR c w).1, .int .i64 (CeilR c w).2]
noncomputable abbrev qLen := gC5 (fun c _ => CraftL c) fun c k w al wv => .tup [.int .i64 (LenR c k w al wv).1, .int .i64 (LenR c k w al wv).2]
noncomputable abbrev qRLen := gC5 (fun c al => CraftOk c ∧ -600 ≤ al ∧ al ≤ 600) fun c k w al wv => .tup [.int .i64 ((rlenO c k w al wv).getD 0), .bool (rlenO c k w al wv).isSome]
noncomputable abbrev qB (p : Int → Bool) : List D → Option D := gInt1 fun w => .bool (p w)
noncomputable abbrev e6 : List (FuncId × (List D → Option D)) :=
  (19, cstO [] (.bool true)) :: (49, qB fun w => rI w 0 100000) :: (55, qB fun w => rI w (-600) 600) :: (56, qB fun w => rI w 0 2000) ::
  (14, qShort) :: (53, qCheck) :: (54, qCeil) :: (52, qLen) :: (57, qRLen) :: (50, gSays) :: e3
theorem e6_ok : OkO Try.prog (mkO e6) :=
  mkO_ok (cstO_ok known_t) <| mkO_ok (gInt1_ok ref3_Weight_t) <| mkO_ok (gInt1_ok alongW_t) <| mkO_ok (gInt1_ok waveW_t) <|
  mkO_ok (gC1_ok short_t) <| mkO_ok (gC1_ok run_Check_t) <| mkO_ok (gC2_ok fun c w h => run_Ceiling_t c h w) <| mkO_ok (gC5_ok fun c k w al wv h => run_Length_t c h k w al wv) <|
  mkO_ok (gC5_ok fun c k w al wv h => by have := ref3_Length_t c h.1 k w al wv h.2; rwa [sayD_eq] at this) <|
  mkO_ok (orcF_ok fun p h => by have := ref3_Says_t p.1 p.2 h; rwa [sayD_eq] at this) <| e3_ok

/-! RunLengths -/
end Go.Sx

namespace Go.Sx
open Go.Proofs
set_option maxRecDepth 10000

/-! Steps in a direction -/
def dxW (w : Int) : Int := [0, 1, 1, 1, 0, -1, -1, -1].getD (w - 1).toNat 0
def dyW (w : Int) : Int := [1, 1, 0, -1, -1, -1, 0, 1].getD (w - 1).toNat 0
theorem way_cases {w : Int} (h : rI w 1 8 = true) : w = 1 ∨ w = 2 ∨ w = 3 ∨ w = 4 ∨ w = 5 ∨ w = 6 ∨ w = 7 ∨ w = 8 := by
  have := rI_le h; omega
theorem dx_cases (w : Int) (h : rI w 1 8 = true) : (dxW w = 0 ∨ dxW w = 1 ∨ dxW w = -1) ∧ (dyW w = 0 ∨ dyW w = 1 ∨ dyW w = -1) ∧ ¬(dxW w = 0 ∧ dyW w = 0) := by
  rcases way_cases h with rfl | rfl | rfl | rfl | rfl | rfl | rfl | rfl <;> decide
theorem dirW_ok {w : Int} (h : rI w 1 8 = true) (cell : Int) : DirOk ⟨cell, dxW w, dyW w⟩ := by
  have := dx_cases w h
  exact ⟨by show -1 ≤ dxW w ∧ dxW w ≤ 1; omega, by show -1 ≤ dyW w ∧ dyW w ≤ 1; omega⟩
theorem lit_8 (h : H) (nid : Nat) (a0 a1 a2 a3 a4 a5 a6 a7 : Int) : litOpD Try.prog h nid 25 8 [(0, .int .i64 a0), (1, .int .i64 a1), (2, .int .i64 a2), (3, .int .i64 a3), (4, .int .i64 a4), (5, .int .i64 a5), (6, .int .i64 a6), (7, .int .i64 a7)] = some (.osl nid 8, (nid, .arr 3 1 (intL [a0, a1, a2, a3, a4, a5, a6, a7])) :: h, nid + 1) := by kernel_rfl
theorem rsteps_t (w : Int) (h : rI w 1 8 = true) : Pure Try.prog 82 [.int .i64 w] (.tup [.int .i64 (dxW w), .int .i64 (dyW w)]) := by
  have hb := rI_le h
  obtain ⟨j, hj⟩ : ∃ j : Nat, w = (j : Int) + 1 := ⟨(w - 1).toNat, by omega⟩
  have hj8 : j < 8 := by omega
  have ww : IntKind.i64.wrap (w - 1) = (j : Int) := by rw [wrap_i64 (by omega) (by omega)]; omega
  have e1 : ([0, 1, 1, 1, 0, -1, -1, -1] : List Int)[j]? = some (dxW w) := by
    have : (w - 1).toNat = j := by omega
    unfold dxW
    rw [this, List.getD_eq_getElem?_getD]
    rcases (show j = 0 ∨ j = 1 ∨ j = 2 ∨ j = 3 ∨ j = 4 ∨ j = 5 ∨ j = 6 ∨ j = 7 by omega) with rfl | rfl | rfl | rfl | rfl | rfl | rfl | rfl <;> rfl
  have e2 : ([1, 1, 0, -1, -1, -1, 0, 1] : List Int)[j]? = some (dyW w) := by
    have : (w - 1).toNat = j := by omega
    unfold dyW
    rw [this, List.getD_eq_getElem?_getD]
    rcases (show j = 0 ∨ j = 1 ∨ j = 2 ∨ j = 3 ∨ j = 4 ∨ j = 5 ∨ j = 6 ∨ j = 7 by omega) with rfl | rfl | rfl | rfl | rfl | rfl | rfl | rfl <;> rfl
  have i0 := fun h (hb : hget h 0 = some (.arr 3 1 (intL [0, 1, 1, 1, 0, -1, -1, -1]))) => oI_ix (n := 8) hb rfl hj8
  have l0 := fun h (hb : hget h 0 = some (.arr 3 1 (intL [0, 1, 1, 1, 0, -1, -1, -1]))) => oI_load (n := 8) hb rfl e1
  have i1 := fun h (hb : hget h 1 = some (.arr 3 1 (intL [1, 1, 0, -1, -1, -1, 0, 1]))) => oI_ix (n := 8) hb rfl hj8
  have l1 := fun h (hb : hget h 1 = some (.arr 3 1 (intL [1, 1, 0, -1, -1, -1, 0, 1]))) => oI_load (n := 8) hb rfl e2
  generalize dxW w = X at *
  generalize dyW w = Y at *
  refine pure_of_wc (rs := [.tmp 2, .tmp 3]) (m := 18) [(3, [(12, false, false, [])])] oNone_ok (by kernel_rfl) Try.func82 rfl (by kernel_rfl) rfl rfl (by kernel_rfl) ?_
  simp only [RT, FS, ↓RE, okR, argEnv, Nat.reduceAdd, Nat.reduceSub, Nat.reduceLT, Nat.reduceLeDiff, Nat.reduceEqDiff, reduceIte, lit_8, ww, i0, l0, i1, l1]
theorem ref3_Steps_t (w : Int) (h : rI w 1 8 = true) : Pure Try.prog 81 [.int .i64 w] (.int .i64 (lenS (dxW w) (dyW w))) := by
  have ps := rsteps_t w h
  refine pure_of_wc (rs := [.tmp 2]) (m := 16) [] oNone_ok (by kernel_rfl) Try.func81 rfl (by kernel_rfl) rfl rfl (by kernel_rfl) ?_
  simp only [RT, FS, ↓RE, okR, argEnv, Nat.reduceAdd, Nat.reduceSub, Nat.reduceLT, Nat.reduceLeDiff, Nat.reduceEqDiff, reduceIte]
  refine call_of_pure ps rfl ?_
  by_cases h1 : dxW w = 0
  · have b1 : (dxW w != 0) = false := by simpa using h1
    simp only [RT, FS, ↓RE, okR, argEnv, Nat.reduceAdd, Nat.reduceSub, Nat.reduceLT, Nat.reduceLeDiff, Nat.reduceEqDiff, reduceIte, b1]
    simp [lenS, h1]
  have b1 : (dxW w != 0) = true := by simpa using h1
  by_cases h2 : dyW w = 0
  · have b2 : (dyW w != 0) = false := by simpa using h2
    simp only [RT, FS, ↓RE, okR, argEnv, Nat.reduceAdd, Nat.reduceSub, Nat.reduceLT, Nat.reduceLeDiff, Nat.reduceEqDiff, reduceIte, b1, b2]
    simp [lenS, h2]
  · have b2 : (dyW w != 0) = true := by simpa using h2
    simp only [RT, FS, ↓RE, okR, argEnv, Nat.reduceAdd, Nat.reduceSub, Nat.reduceLT, Nat.reduceLeDiff, Nat.reduceEqDiff, reduceIte, b1, b2]
    simp [lenS, h1, h2]
theorem ref_Way_t (w : Int) : Pure Try.prog 41 [.int .i64 w] (.bool (rI w 1 8)) := by
  refine pure_of_wc (rs := [.tmp 2]) (m := 9) [] oNone_ok (by kernel_rfl) Try.func41 rfl (by kernel_rfl) rfl rfl (by kernel_rfl) ?_
  simp only [RT, FS, ↓RE, okR, argEnv, Nat.reduceAdd, Nat.reduceSub, Nat.reduceLT, Nat.reduceLeDiff, Nat.reduceEqDiff, reduceIte]
  unfold rI
  cases decide (1 ≤ w) <;> simp [BR]
theorem ref3_up10_t (n : Int) (h : 0 ≤ n ∧ n ≤ 1000000000) : Pure Try.prog 80 [.int .i64 n, .int .i64 10] (.int .i64 ((n + 9) / 10)) := by
  have w1 := wrap_i64 (z := n + 10) (by omega) (by omega)
  have w2 := wrap_i64 (z := n + 10 - 1) (by omega) (by omega)
  have hd := a_quo' (k := .i64) (x := n + 10 - 1) (y := 10) (by omega)
  have he : (n + 10 - 1).tdiv 10 = (n + 9) / 10 := by rw [Int.tdiv_eq_ediv_of_nonneg (by omega)]; congr 1; omega
  have w3 := wrap_i64 (z := (n + 9) / 10) (by omega) (by omega)
  refine pure_of_wc (rs := [.tmp 4]) (m := 11) [] oNone_ok (by kernel_rfl) Try.func80 rfl (by kernel_rfl) rfl rfl (by kernel_rfl) ?_
  simp only [RT, FS, ↓RE, okR, argEnv, Nat.reduceAdd, Nat.reduceSub, Nat.reduceLT, Nat.reduceLeDiff, Nat.reduceEqDiff, reduceIte, w1, w2, hd, he, w3]
/-- What is lost in a step, for parts of the wind. -/
def lostP (c : Craft) (w e n : Int) : Int := max 1 (partI c.fall (lenS (dxW w) (dyW w)) - c.drag * (e * dxW w + n * dyW w))
def windOk (x : Int) : Prop := -300 ≤ x ∧ x ≤ 300
theorem ref3_Lost_t (c : Craft) (hc : CraftOk c) (w e n : Int) (hw : rI w 1 8 = true) (he : windOk e) (hn : windOk n) :
    Pure Try.prog 27 [.agg c.c, .int .i64 w, .int .i64 e, .int .i64 n] (.int .i64 (lostP c w e n)) := by
  have p1 := rsteps_t w hw
  have p2 := ref3_Steps_t w hw
  have hdx := (dirW_ok hw 0).x
  have hdy := (dirW_ok hw 0).y
  dsimp only at hdx hdy
  have hl := lenS_b (dxW w) (dyW w)
  have hpb := partI_b (n := c.fall) (by have := hc.fall; omega) hl
  simp only [lostP]
  generalize dxW w = dx at *
  generalize dyW w = dy at *
  have m1 := dir_mul (e := e) he hdx
  have m2 := dir_mul (e := n) hn hdy
  have h3 := drag_le hc.drag (a := e * dx + n * dy) (by omega)
  have f1 : 0 ≤ c.fall * lenS dx dy := Int.mul_nonneg (by have := hc.fall; omega) (by omega)
  have f2 : c.fall * lenS dx dy ≤ 20000 * 14 := Int.mul_le_mul (by have := hc.fall; omega) hl.2 (by omega) (by omega)
  have p3 := ref3_up10_t (c.fall * lenS dx dy) (by omega)
  have w1 := wrap_i64 (z := c.fall * lenS dx dy) (by omega) (by omega)
  have w2 := wrap_i64 (z := e * dx) (by omega) (by omega)
  have w3 := wrap_i64 (z := n * dy) (by omega) (by omega)
  have w4 := wrap_i64 (z := e * dx + n * dy) (by omega) (by omega)
  have w5 := wrap_i64 (z := c.drag * (e * dx + n * dy)) (by omega) (by omega)
  have w6 := wrap_i64 (z := partI c.fall (lenS dx dy) - c.drag * (e * dx + n * dy)) (by omega) (by omega)
  simp only [partI] at w6 ⊢
  simp only [Craft.c]
  refine pure_of_wc (rs := [.tmp 8]) (m := 34) [(2, [(19, false, false, [])])] oNone_ok (by kernel_rfl) Try.func27 rfl (by kernel_rfl) rfl rfl (by kernel_rfl) ?_
  simp only [RT, FS, ↓RE, okR, argEnv, Nat.reduceAdd, Nat.reduceSub, Nat.reduceLT, Nat.reduceLeDiff, Nat.reduceEqDiff, reduceIte]
  refine call_of_pure p1 rfl ?_
  simp only [RT, FS, ↓RE, okR, argEnv, Nat.reduceAdd, Nat.reduceSub, Nat.reduceLT, Nat.reduceLeDiff, Nat.reduceEqDiff, reduceIte, ex_tup, w1, w2, w3, w4, w5, w6]
  refine call_of_pure p2 rfl ?_
  simp only [RT, FS, ↓RE, okR, argEnv, Nat.reduceAdd, Nat.reduceSub, Nat.reduceLT, Nat.reduceLeDiff, Nat.reduceEqDiff, reduceIte, ex_tup, w1, w2, w3, w4, w5, w6]
  refine call_of_pure p3 rfl ?_
  simp only [RT, FS, ↓RE, okR, argEnv, Nat.reduceAdd, Nat.reduceSub, Nat.reduceLT, Nat.reduceLeDiff, Nat.reduceEqDiff, reduceIte, ex_tup, w1, w2, w3, w4, w5, w6]
noncomputable def gLost : List D → Option D := orcF (fun p : Craft × Int × Int × Int => CraftOk p.1 ∧ rI p.2.1 1 8 = true ∧ windOk p.2.2.1 ∧ windOk p.2.2.2) (fun p => [.agg p.1.c, .int .i64 p.2.1, .int .i64 p.2.2.1, .int .i64 p.2.2.2]) (fun p => .int .i64 (lostP p.1 p.2.1 p.2.2.1 p.2.2.2))
theorem gLost_eq {c : Craft} (hc : CraftOk c) {w e n : Int} (hw : rI w 1 8 = true) (he : windOk e) (hn : windOk n) : gLost [.agg c.c, .int .i64 w, .int .i64 e, .int .i64 n] = some (.int .i64 (lostP c w e n)) :=
  orcF_eq (ok := fun p : Craft × Int × Int × Int => CraftOk p.1 ∧ rI p.2.1 1 8 = true ∧ windOk p.2.2.1 ∧ windOk p.2.2.2) (dsf := fun p => [.agg p.1.c, .int .i64 p.2.1, .int .i64 p.2.2.1, .int .i64 p.2.2.2]) (rf := fun p => .int .i64 (lostP p.1 p.2.1 p.2.2.1 p.2.2.2)) (c, w, e, n) ⟨hc, hw, he, hn⟩ fun b hb => by
    simp only [List.cons.injEq, D.agg.injEq, D.int.injEq, true_and, and_true] at hb
    rw [Craft.c_inj hb.1, hb.2.1, hb.2.2.1, hb.2.2.2]
noncomputable abbrev e7 : List (FuncId × (List D → Option D)) := (27, gLost) :: e6
theorem e7_ok : OkO Try.prog (mkO e7) := mkO_ok (orcF_ok fun p h => ref3_Lost_t p.1 h.1 p.2.1 p.2.2.1 p.2.2.2 h.2.1 h.2.2.1 h.2.2.2) e6_ok
/-- The bounds of what is lost, at the corners. -/
def lossL (c : Craft) (a : AirW) (w : Int) : List Int := [lostP c w a.e.lo a.n.hi, lostP c w a.e.hi a.n.lo, lostP c w a.e.hi a.n.hi]
def lossI (c : Craft) (a : AirW) (w : Int) : SpI := wideI (lostP c w a.e.lo a.n.lo) (lossL c a w)
theorem ref3_Loss_t (c : Craft) (hc : CraftOk c) (a : AirW) (ha : AirOk a) (w : Int) (hw : rI w 1 8 = true) : Pure Try.prog 42 [.agg c.c, .agg a.c, .int .i64 w] (.agg (lossI c a w).c) := by
  have k := ha.e
  have k2 := ha.n
  have o1 := gLost_eq hc hw (e := a.e.lo) (n := a.n.lo) ⟨by omega, by omega⟩ ⟨by omega, by omega⟩
  have o2 := gLost_eq hc hw (e := a.e.lo) (n := a.n.hi) ⟨by omega, by omega⟩ ⟨by omega, by omega⟩
  have o3 := gLost_eq hc hw (e := a.e.hi) (n := a.n.lo) ⟨by omega, by omega⟩ ⟨by omega, by omega⟩
  have o4 := gLost_eq hc hw (e := a.e.hi) (n := a.n.hi) ⟨by omega, by omega⟩ ⟨by omega, by omega⟩
  simp only [lossI, lossL]
  generalize lostP c w a.e.lo a.n.lo = x1 at *
  generalize lostP c w a.e.lo a.n.hi = x2 at *
  generalize lostP c w a.e.hi a.n.lo = x3 at *
  generalize lostP c w a.e.hi a.n.hi = x4 at *
  simp only [Craft.c, AirW.c] at o1 o2 o3 o4 ⊢
  have i0 : ∀ h, indexAddrD Try.prog h 25 (.sl (intL [x1, x2, x3, x4])) (.int .i64 0) = some (.ref [.int .i64 x1] 0) := fun h => sI_ix (i := 0) rfl h
  refine pure_of_wc (rs := [.cell 6 30]) (m := 77) [(1, [(38, false, false, [])]), (2, [(8, true, false, []), (1, false, false, [])]), (6, [(16, false, true, [(4, 0), (3, 0), (2, 0)]), (2, false, false, [])])] e7_ok (by kernel_rfl) Try.func42 rfl (by kernel_rfl) rfl rfl (by kernel_rfl) ?_
  simp only [RT, FS, ↓RE, okR, argEnv, Nat.reduceAdd, Nat.reduceSub, Nat.reduceLT, Nat.reduceLeDiff, Nat.reduceEqDiff, reduceIte, o1, o2, o3, o4, litD_4, i0]
  generalize hL : [x1, x2, x3, x4] = L
  have hl : L.length = 4 := by rw [← hL]; rfl
  have hmin : ∀ x y : Int, min x y = if y < x then y else x := fun x y => by omega
  have hmax : ∀ x y : Int, max x y = if x < y then y else x := fun x y => by omega
  refine loopV (ι := Nat) e7_ok [(1, [(38, false, false, [])]), (2, [(8, true, false, []), (1, false, false, [])]), (6, [(16, false, true, [(4, 0), (3, 0), (2, 0)]), (2, false, false, [])])] (fun i => [(6, .ptr 2 0), (7, .sl (intL L)), (8, .ptr 3 0), (9, .int .i64 (i : Int))])
    (fun i => [(3, .box [.int .i64 ((L.take i).foldl min x1), .int .i64 ((L.take i).foldl max x1)]), (2, .box [.int .i64 0, .int .i64 0])]) 4 (fun i => 1 ≤ i ∧ i ≤ 4) (fun i => 4 - i) 1 (by kernel_rfl) (by kernel_rfl) ⟨by omega, by omega⟩ ?_ ?_
  · subst hL
    simp [headW, heapW, envW, blkLt, D.ltL, D.lt, look, hget, hset]
  rintro i ⟨hi1, hi4⟩
  rcases Nat.lt_or_ge i 4 with hlt | hge
  · have hc' : ((i : Int) < (L.length : Int)) = True := by simp; omega
    obtain ⟨x, hx⟩ : ∃ x, L[i]? = some x := ⟨L[i]'(by omega), by simp⟩
    have hix := sI_ix hx
    have hw1 := wrap_i64 (z := (i : Int) + 1) (by omega) (by omega)
    simp only [RT, FS, ↓RE, okR, argEnv, Nat.reduceAdd, Nat.reduceSub, Nat.reduceLT, Nat.reduceLeDiff, Nat.reduceEqDiff, reduceIte, intL_len, hc', decide_true, hix, hw1]
    refine ⟨i + 1, ⟨by omega, by omega⟩, by omega, ?_⟩
    rw [foldl_take hx, foldl_take hx]
    simp [headW, heapW, envW, blkLt, D.ltL, D.lt, look, hget, hset, hmin, hmax]
  · have hc' : ((i : Int) < (L.length : Int)) = False := by simp; omega
    have : i = 4 := by omega
    subst this
    simp only [RT, FS, ↓RE, okR, argEnv, Nat.reduceAdd, Nat.reduceSub, Nat.reduceLT, Nat.reduceLeDiff, Nat.reduceEqDiff, reduceIte, intL_len, hc', decide_false]
    subst hL
    simp [wideI, SpI.c]

/-! run.Loss -/
def LossR (c : Craft) (a : AirW) (w : Int) : SpI × Int := if craftB c && (airB a && rI w 1 8) then (lostI c a ⟨0, dxW w, dyW w⟩, 0) else (⟨0, 0⟩, 2)
theorem run_Loss_t (c : Craft) (l : CraftL c) (a : AirW) (w : Int) : Pure Try.prog 38 [.agg c.c, .agg a.c, .int .i64 w] (.tup [.agg (LossR c a w).1.c, .int .i64 (LossR c a w).2]) := by
  have o1 := gCr_eq l
  have o2 := gAi_eq a.e.lo a.e.hi a.n.lo a.n.hi
  have o2' : airB ⟨⟨a.e.lo, a.e.hi⟩, ⟨a.n.lo, a.n.hi⟩⟩ = airB a := rfl
  rw [o2'] at o2
  have hc := craft_ok l
  have hlt := fun hc ha hw => lost_t c hc 0 0 .nils .nils 0 a ha 0 ⟨0, dxW w, dyW w⟩ (dirW_ok hw 0)
  simp only [Craft.c, AirW.c, SpI.c] at o1 o2 ⊢
  cases h1 : craftB c
  · rw [h1] at o1
    refine pure_of_wc (rs := [.cell 6 30, .tmp 7]) (m := 50) [] e3_ok (by kernel_rfl) Try.func38 rfl (by kernel_rfl) rfl rfl (by kernel_rfl) ?_
    simp only [RT, FS, ↓RE, okR, argEnv, Nat.reduceAdd, Nat.reduceSub, Nat.reduceLT, Nat.reduceLeDiff, Nat.reduceEqDiff, reduceIte, o1]
    simp [LossR, h1]
  rw [h1] at o1
  cases h2 : airB a
  · rw [h2] at o2
    refine pure_of_wc (rs := [.cell 6 30, .tmp 7]) (m := 50) [] e3_ok (by kernel_rfl) Try.func38 rfl (by kernel_rfl) rfl rfl (by kernel_rfl) ?_
    simp only [RT, FS, ↓RE, okR, argEnv, Nat.reduceAdd, Nat.reduceSub, Nat.reduceLT, Nat.reduceLeDiff, Nat.reduceEqDiff, reduceIte, o1, o2]
    simp [LossR, h1, h2]
  rw [h2] at o2
  by_cases h3 : w < 1
  · have hw : rI w 1 8 = false := by simp [rI]; omega
    refine pure_of_wc (rs := [.cell 6 30, .tmp 7]) (m := 50) [] e3_ok (by kernel_rfl) Try.func38 rfl (by kernel_rfl) rfl rfl (by kernel_rfl) ?_
    simp only [RT, FS, ↓RE, okR, argEnv, Nat.reduceAdd, Nat.reduceSub, Nat.reduceLT, Nat.reduceLeDiff, Nat.reduceEqDiff, reduceIte, o1, o2, h3, decide_true]
    simp [LossR, h1, h2, hw]
  by_cases h4 : 8 < w
  · have hw : rI w 1 8 = false := by simp [rI]; omega
    refine pure_of_wc (rs := [.cell 6 30, .tmp 7]) (m := 50) [] e3_ok (by kernel_rfl) Try.func38 rfl (by kernel_rfl) rfl rfl (by kernel_rfl) ?_
    simp only [RT, FS, ↓RE, okR, argEnv, Nat.reduceAdd, Nat.reduceSub, Nat.reduceLT, Nat.reduceLeDiff, Nat.reduceEqDiff, reduceIte, o1, o2, h3, h4, decide_true, decide_false]
    simp [LossR, h1, h2, hw]
  have hw : rI w 1 8 = true := by simp [rI]; omega
  have hL : LossR c a w = (lostI c a ⟨0, dxW w, dyW w⟩, 0) := by simp [LossR, h1, h2, hw]
  have hp := hlt (hc h1) (air_ok h2) hw
  rw [hL]
  dsimp only
  generalize lostI c a ⟨0, dxW w, dyW w⟩ = R at hp ⊢
  simp only [flD, Stp.c, SpI.c] at hp
  have hbf : ∀ h, buildD Try.prog h 139 [(0, .agg c.c), (2, .agg a.c)] = some (.agg (flD c 0 0 .nils .nils 0 a 0)) := fun h => by kernel_rfl
  simp only [flD, Craft.c, AirW.c] at hbf
  have hix : ∀ w, rI w 1 8 = true → indexD Try.prog 137 (.agg [.int .i64 0, .int .i64 1, .int .i64 1, .int .i64 1, .int .i64 1, .int .i64 0, .int .i64 1, .int .i64 (-1), .int .i64 0, .int .i64 (-1), .int .i64 (-1), .int .i64 (-1), .int .i64 (-1), .int .i64 0, .int .i64 (-1), .int .i64 1]) (.int .i64 (w - 1)) = some (.agg [.int .i64 (dxW w), .int .i64 (dyW w)]) := fun w hw => by
    rcases way_cases hw with rfl | rfl | rfl | rfl | rfl | rfl | rfl | rfl <;> kernel_rfl
  have hx := hix w hw
  have w1 : IntKind.i64.wrap (w - 1) = w - 1 := wrap_i64 (by omega) (by omega)
  have j0 : ∀ h b, indexAddrD Try.prog h 136 (.ptr b 0) (.int .i64 0) = atOff h 0 (.ptr b 0) := fun h b => by simp [indexAddrD, Fz.und_136, Fz.size_3]
  have j1 : ∀ h b, indexAddrD Try.prog h 136 (.ptr b 0) (.int .i64 1) = atOff h 1 (.ptr b 0) := fun h b => by simp [indexAddrD, Fz.und_136, Fz.size_3]
  refine pure_of_wc (rs := [.cell 6 30, .tmp 7]) (m := 50) [] e3_ok (by kernel_rfl) Try.func38 rfl (by kernel_rfl) rfl rfl (by kernel_rfl) ?_
  simp only [RT, FS, ↓RE, okR, argEnv, Nat.reduceAdd, Nat.reduceSub, Nat.reduceLT, Nat.reduceLeDiff, Nat.reduceEqDiff, reduceIte, o1, o2, h3, h4, decide_true, decide_false, w1, hx, hbf, j0, j1]
  refine call_of_pure hp rfl ?_
  simp only [RT, FS, ↓RE, okR, argEnv, Nat.reduceAdd, Nat.reduceSub, Nat.reduceLT, Nat.reduceLeDiff, Nat.reduceEqDiff, reduceIte]
end Go.Sx

namespace Go.Sx
open Go.Proofs
set_option maxRecDepth 10000

/-! The plain law of losses -/
theorem wide_mono (G : Int → Int) (hG : ∀ x y, x ≤ y → G x ≤ G y) (a : Int) (l : List Int) : wideI (G a) (l.map G) = ⟨G (wideI a l).lo, G (wideI a l).hi⟩ := by
  have h1 : ∀ (l : List Int) a, (l.map G).foldl min (G a) = G (l.foldl min a) := fun l => by
    induction l with
    | nil => intro a; rfl
    | cons x l ih =>
      intro a
      simp only [List.map_cons, List.foldl_cons]
      rw [← ih]
      congr 1
      rcases Int.le_total a x with h | h
      · have := hG _ _ h; rw [show min a x = a by omega]; omega
      · have := hG _ _ h; rw [show min a x = x by omega]; omega
  have h2 : ∀ (l : List Int) a, (l.map G).foldl max (G a) = G (l.foldl max a) := fun l => by
    induction l with
    | nil => intro a; rfl
    | cons x l ih =>
      intro a
      simp only [List.map_cons, List.foldl_cons]
      rw [← ih]
      congr 1
      rcases Int.le_total a x with h | h
      · have := hG _ _ h; rw [show max a x = x by omega]; omega
      · have := hG _ _ h; rw [show max a x = a by omega]; omega
  simp only [wideI, h1, h2]
def lostG (c : Craft) (w y : Int) : Int := max 1 (partI c.fall (lenS (dxW w) (dyW w)) + c.drag * y)
theorem lostG_mono {c : Craft} (hc : CraftOk c) (w x y : Int) (h : x ≤ y) : lostG c w x ≤ lostG c w y := by
  have := Int.mul_le_mul_of_nonneg_left h hc.drag.1
  unfold lostG; omega
theorem lostP_G (c : Craft) (w e n : Int) : lostP c w e n = lostG c w (-(e * dxW w + n * dyW w)) := by
  unfold lostP lostG; rw [Int.mul_neg]; omega
theorem loss_eq {c : Craft} (hc : CraftOk c) (a : AirW) (w : Int) : lossI c a w = lostI c a ⟨0, dxW w, dyW w⟩ := by
  have := wide_mono (lostG c w) (lostG_mono hc w) (-(a.e.lo * dxW w + a.n.lo * dyW w)) [-(a.e.lo * dxW w + a.n.hi * dyW w), -(a.e.hi * dxW w + a.n.lo * dyW w), -(a.e.hi * dxW w + a.n.hi * dyW w)]
  simp only [lossI, lossL, lostP_G]
  exact this
/-! part, percents -/
def partS (s : SpI) (p : Int) : Int := s.lo + (s.hi - s.lo) * p / 100
theorem partS_m {s : SpI} (h : s.lo ≤ s.hi) {p : Int} (hp : 0 ≤ p ∧ p ≤ 100) : 0 ≤ (s.hi - s.lo) * p ∧ (s.hi - s.lo) * p ≤ (s.hi - s.lo) * 100 :=
  ⟨Int.mul_nonneg (by omega) hp.1, Int.mul_le_mul_of_nonneg_left hp.2 (by omega)⟩
theorem partS_in {s : SpI} (h : s.lo ≤ s.hi) {p : Int} (hp : 0 ≤ p ∧ p ≤ 100) : s.lo ≤ partS s p ∧ partS s p ≤ s.hi := by
  have := partS_m h hp
  unfold partS; omega
def spanOk (s : SpI) : Prop := -1000000 ≤ s.lo ∧ s.lo ≤ s.hi ∧ s.hi ≤ 1000000
theorem part_t (s : SpI) (hs : spanOk s) (p : Int) (hp : 0 ≤ p ∧ p ≤ 100) : Pure Try.prog 28 [.agg s.c, .int .i64 p] (.int .i64 (partS s p)) := by
  have hm := partS_m hs.2.1 hp
  have hi := partS_in hs.2.1 hp
  obtain ⟨h1, h2, h3⟩ := hs
  have w1 := wrap_i64 (z := s.hi - s.lo) (by omega) (by omega)
  have w2 := wrap_i64 (z := (s.hi - s.lo) * p) (by omega) (by omega)
  have hd := a_quo' (k := .i64) (x := (s.hi - s.lo) * p) (y := 100) (by omega)
  have he : ((s.hi - s.lo) * p).tdiv 100 = (s.hi - s.lo) * p / 100 := Int.tdiv_eq_ediv_of_nonneg (by omega)
  have w3 := wrap_i64 (z := (s.hi - s.lo) * p / 100) (by omega) (by omega)
  have w4 := wrap_i64 (z := s.lo + (s.hi - s.lo) * p / 100) (by unfold partS at hi; omega) (by unfold partS at hi; omega)
  simp only [SpI.c, partS]
  refine pure_of_wc (rs := [.tmp 4]) (m := 16) [] oNone_ok (by kernel_rfl) Try.func28 rfl (by kernel_rfl) rfl rfl (by kernel_rfl) ?_
  simp only [RT, FS, ↓RE, okR, argEnv, Nat.reduceAdd, Nat.reduceSub, Nat.reduceLT, Nat.reduceLeDiff, Nat.reduceEqDiff, reduceIte, w1, w2, hd, he, w3, w4]
theorem percents_t (l : List Int) (hl : l.length ≤ 9223372036854775807) : Pure Try.prog 18 [.sl (intL l)] (.bool (l.all fun x => rI x 0 100)) := by
  refine pure_of_wc (rs := [.tmp 2]) (m := 22) [] oNone_ok (by kernel_rfl) Try.func18 rfl (by kernel_rfl) rfl rfl (by kernel_rfl) ?_
  simp only [RT, FS, ↓RE, okR, argEnv, Nat.reduceAdd, Nat.reduceSub, Nat.reduceLT, Nat.reduceLeDiff, Nat.reduceEqDiff, reduceIte]
  refine loopV (ι := Nat) oNone_ok [] (fun i => [(0, .sl (intL l)), (3, .int .i64 (i : Int))])
    (fun i => []) 0 (fun i => i ≤ l.length ∧ (l.take i).all (fun x => rI x 0 100) = true) (fun i => l.length - i) 0 (by kernel_rfl) (by kernel_rfl) ⟨Nat.zero_le _, by simp⟩ ?_ ?_
  · simp [headW, heapW, envW, blkLt, D.ltL, D.lt, look, hget]
  rintro i ⟨hi, he⟩
  rcases Nat.lt_or_ge i l.length with hlt | hge
  rotate_left
  · have hq : ((i : Int) < (l.length : Int)) = False := by simp; omega
    rw [List.take_of_length_le (by omega)] at he
    simp only [RT, FS, ↓RE, okR, argEnv, Nat.reduceAdd, Nat.reduceSub, Nat.reduceLT, Nat.reduceLeDiff, Nat.reduceEqDiff, reduceIte, intL_len, hq, decide_false]
    simp [he]
  have hq : ((i : Int) < (l.length : Int)) = True := by simp [hlt]
  obtain ⟨x, hx⟩ : ∃ x, l[i]? = some x := ⟨l[i], by simp [hlt]⟩
  have ix := sI_ix hx
  have hw := wrap_i64 (z := (i : Int) + 1) (by omega) (by omega)
  by_cases h1 : x < 0
  · have hb := all_out (p := fun x => rI x 0 100) hx (by simp [rI]; omega)
    simp only [RT, FS, ↓RE, okR, argEnv, Nat.reduceAdd, Nat.reduceSub, Nat.reduceLT, Nat.reduceLeDiff, Nat.reduceEqDiff, reduceIte, intL_len, hq, decide_true, ix, h1]
    simp [hb]
  by_cases h2 : 100 < x
  · have hb := all_out (p := fun x => rI x 0 100) hx (by simp [rI]; omega)
    simp only [RT, FS, ↓RE, okR, argEnv, Nat.reduceAdd, Nat.reduceSub, Nat.reduceLT, Nat.reduceLeDiff, Nat.reduceEqDiff, reduceIte, intL_len, hq, decide_true, decide_false, ix, h1, h2]
    simp [hb]
  simp only [RT, FS, ↓RE, okR, argEnv, Nat.reduceAdd, Nat.reduceSub, Nat.reduceLT, Nat.reduceLeDiff, Nat.reduceEqDiff, reduceIte, intL_len, hq, decide_true, decide_false, ix, h1, h2, hw]
  exact ⟨i + 1, ⟨by omega, all_cut hx he (by simp [rI]; omega)⟩, by omega, by simp [headW, heapW, envW, blkLt, D.ltL, D.lt, look, hget]⟩
end Go.Sx

namespace Go.Sx
open Go.Proofs
set_option maxRecDepth 10000

/-! Oracles -/
theorem AirW.c_inj {a b : AirW} (h : a.c = b.c) : a = b := by
  obtain ⟨⟨a1, a2⟩, a3, a4⟩ := a
  obtain ⟨⟨b1, b2⟩, b3, b4⟩ := b
  simp [AirW.c] at h
  obtain ⟨rfl, rfl, rfl, rfl⟩ := h
  rfl
theorem SpI.c_inj {a b : SpI} (h : a.c = b.c) : a = b := by
  obtain ⟨a1, a2⟩ := a
  obtain ⟨b1, b2⟩ := b
  simp [SpI.c] at h
  obtain ⟨rfl, rfl⟩ := h
  rfl
noncomputable def gCAW (ok : Craft → AirW → Int → Prop) (q : Craft → AirW → Int → D) : List D → Option D := orcF (fun p : Craft × AirW × Int => ok p.1 p.2.1 p.2.2) (fun p => [.agg p.1.c, .agg p.2.1.c, .int .i64 p.2.2]) (fun p => q p.1 p.2.1 p.2.2)
theorem gCAW_eq {ok : Craft → AirW → Int → Prop} (q : Craft → AirW → Int → D) (c : Craft) (a : AirW) (w : Int) (h : ok c a w) : gCAW ok q [.agg c.c, .agg a.c, .int .i64 w] = some (q c a w) :=
  orcF_eq (ok := fun p : Craft × AirW × Int => ok p.1 p.2.1 p.2.2) (dsf := fun p => [.agg p.1.c, .agg p.2.1.c, .int .i64 p.2.2]) (rf := fun p => q p.1 p.2.1 p.2.2) (c, a, w) h fun b hb => by
    simp only [List.cons.injEq, D.agg.injEq, D.int.injEq, true_and, and_true] at hb
    rw [Craft.c_inj hb.1, AirW.c_inj hb.2.1, hb.2.2]
theorem gCAW_ok {f : FuncId} {ok : Craft → AirW → Int → Prop} {q : Craft → AirW → Int → D} (h : ∀ c a w, ok c a w → Pure Try.prog f [.agg c.c, .agg a.c, .int .i64 w] (q c a w)) (ds : List D) (r : D) (hr : gCAW ok q ds = some r) : Pure Try.prog f ds r :=
  orcF_ok (fun p hp => h p.1 p.2.1 p.2.2 hp) ds r hr
noncomputable def gPart : List D → Option D := orcF (fun p : SpI × Int => spanOk p.1 ∧ 0 ≤ p.2 ∧ p.2 ≤ 100) (fun p => [.agg p.1.c, .int .i64 p.2]) (fun p => .int .i64 (partS p.1 p.2))
noncomputable def gPct : List D → Option D := orcF (fun l : List Int => l.length ≤ 9223372036854775807) (fun l => [.sl (intL l)]) (fun l => .bool (l.all fun x => rI x 0 100))
def LossD (c : Craft) (a : AirW) (w : Int) : D := .tup [.agg (LossR c a w).1.c, .int .i64 (LossR c a w).2]
def RLossD (c : Craft) (a : AirW) (w : Int) : D := .agg (lossI c a w).c
noncomputable abbrev e8 : List (FuncId × (List D → Option D)) :=
  (38, gCAW (fun c _ _ => CraftL c) LossD) ::
  (42, gCAW (fun c a w => CraftOk c ∧ AirOk a ∧ rI w 1 8 = true) RLossD) ::
  (41, qB fun w => rI w 1 8) :: (28, gPart) :: (18, gPct) :: e7
theorem e8_ok : OkO Try.prog (mkO e8) :=
  mkO_ok (gCAW_ok fun c a w h => run_Loss_t c h a w) <| mkO_ok (gCAW_ok fun c a w h => ref3_Loss_t c h.1 a h.2.1 w h.2.2) <| mkO_ok (gInt1_ok ref_Way_t) <|
  mkO_ok (orcF_ok fun p h => part_t p.1 h.1 p.2 h.2) <| mkO_ok (orcF_ok fun l h => percents_t l h) <| e7_ok
/-! RunLosses -/
end Go.Sx
