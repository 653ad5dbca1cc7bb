/- Own work: a calculus of contracts for the programs of this kit: parts SxC35z, SxC36z, SxC37z, SxC38z, SxC39z. -/
import Derived.Test.YtjhoplbdpdbgaaaGreatDoorSxCd
import Derived.Test.YtjhoplbdpdbgaaaGreatDoorSxC5z
set_option linter.unusedVariables false
set_option linter.unusedSimpArgs false
namespace Go.Sx
open Go.Proofs
set_option maxRecDepth 10000

/-! The reference: glares, boats, ends -/
theorem glare_eq {w g : Int} (hw : okWay w = true) (hg : okWay g = true) : decide (min (bFar g w) (8 - bFar g w) ≤ 1) = (decide ((g - w + 8).tmod 8 ≤ 1) || ((g - w + 8).tmod 8 == 7)) := by
  rcases way_cases hw with rfl | rfl | rfl | rfl | rfl | rfl | rfl | rfl <;> rcases way_cases hg with rfl | rfl | rfl | rfl | rfl | rfl | rfl | rfl <;> decide
theorem rclear_t (s : Se) (gd : D) (h : SeL s gd) (hs : okSe s = true) (p : Sp) (hp : okSp s p = true) (t : Int) : Pure Tryz.prog 80 [.agg (s.c gd), .agg p.c, .int .i64 t] (.bool (!(s.glares.any (blindG p.way t)))) := by
  have vg := fun hp => En.view h.gd hp
  have lg := En.lt h.gd
  have ng := fun hp => En.len (P := Tryz.prog) Fz.und_31 h.gd hp
  have hgL := h.glares
  refine pure_of_wc (rs := [.tmp 6]) (m := 42) [] o29_ok (by kernel_rfl) Tryz.func80 rfl (by kernel_rfl) rfl rfl (by kernel_rfl) ?_
  simp only [FS, ↓RE, okR, argEnv, Nat.reduceAdd, Nat.reduceSub, Nat.reduceLT, Nat.reduceLeDiff, Nat.reduceEqDiff, reduceIte]
  refine loopV (ι := Nat) o29_ok [] (fun i => [(2, .int .i64 t), (3, .ptr 0 0), (4, .ptr 1 0), (7, .int .i64 (i : Int))])
    (fun i => [(1, .box p.c), (0, .box (s.c gd))]) 2 (fun i => i ≤ s.glares.length ∧ (s.glares.take i).all (fun g => !blindG p.way t g) = true) (fun i => s.glares.length - i) 0 (by kernel_rfl) (by kernel_rfl) ⟨Nat.zero_le _, by simp⟩ ?_ ?_
  · simp [headW, heapW, envW, blkLt, D.ltL, D.lt, look, hget, lg]
  rintro i ⟨hi, hok⟩
  have hany : (!(s.glares.any (blindG p.way t))) = s.glares.all (fun g => !blindG p.way t g) := by rw [List.any_eq_not_all_not]; simp
  rcases Nat.lt_or_ge i s.glares.length with hlt | hge
  · have hc : ((i : Int) < (s.glares.length : Int)) = True := by simp [hlt]
    obtain ⟨g, hg⟩ : ∃ g, s.glares[i]? = some g := ⟨s.glares[i], by simp [hlt]⟩
    have hix := fun hp => En.ix (P := Tryz.prog) Fz.und_31 Fz.size_106 h.gd hg hp .i64
    have hgw := (okSe_gl hs g (List.mem_of_getElem? hg)).1
    have hge := glare_eq (okSp_ce hp).1 hgw
    obtain ⟨gw, ⟨t1, t2⟩⟩ := g
    dsimp only at hgw hge
    have hix2 : ∀ hp, indexAddrD Tryz.prog hp 31 gd (.int .i64 (i : Int)) = some (.ref [.int .i64 gw, .int .i64 t1, .int .i64 t2] 0) := hix
    have hwi := wrap_i64 (z := (i : Int) + 1) (by omega) (by omega)
    have hwy := (okSp_ce hp).1
    simp only [okWay, Bool.and_eq_true, decide_eq_true_eq] at hwy hgw
    have hf := gFar_eq (x := gw) (y := p.way) (by omega)
    have hfb : 0 ≤ bFar gw p.way ∧ bFar gw p.way ≤ 8 := by simp only [bFar]; omega
    have hw8 := wrap_i64 (z := 8 - bFar gw p.way) (by omega) (by omega)
    have hb : blindG p.way t ⟨gw, (t1, t2)⟩ = (decide (min (bFar gw p.way) (8 - bFar gw p.way) ≤ 1) && bIn t t1 t2) := by rw [hge]; rfl
    cases q1 : bIn t t1 t2
    · rw [q1, Bool.and_false] at hb
      simp only [FS, ↓RE, okR, argEnv, Nat.reduceAdd, Nat.reduceSub, Nat.reduceLT, Nat.reduceLeDiff, Nat.reduceEqDiff, reduceIte, ng, hc, decide_true, hix2, hf, gIn_eq, q1, hwi]
      exact ⟨i + 1, ⟨by omega, all_take hg hok (by rw [hb]; rfl)⟩, by omega, by simp [headW, heapW, envW, blkLt, D.ltL, D.lt, look, hget, lg]⟩
    cases q2 : decide (min (bFar gw p.way) (8 - bFar gw p.way) ≤ 1)
    · rw [q2, Bool.false_and] at hb
      simp only [FS, ↓RE, okR, argEnv, Nat.reduceAdd, Nat.reduceSub, Nat.reduceLT, Nat.reduceLeDiff, Nat.reduceEqDiff, reduceIte, ng, hc, decide_true, hix2, hf, gIn_eq, q1, hw8, q2, hwi]
      exact ⟨i + 1, ⟨by omega, all_take hg hok (by rw [hb]; rfl)⟩, by omega, by simp [headW, heapW, envW, blkLt, D.ltL, D.lt, look, hget, lg]⟩
    · rw [q1, q2] at hb
      simp only [FS, ↓RE, okR, argEnv, Nat.reduceAdd, Nat.reduceSub, Nat.reduceLT, Nat.reduceLeDiff, Nat.reduceEqDiff, reduceIte, ng, hc, decide_true, hix2, hf, gIn_eq, q1, hw8, q2]
      rw [hany, all_not hg (by rw [hb]; rfl)]
  have : i = s.glares.length := by omega
  subst this
  rw [List.take_length] at hok
  simp only [FS, ↓RE, okR, argEnv, Nat.reduceAdd, Nat.reduceSub, Nat.reduceLT, Nat.reduceLeDiff, Nat.reduceEqDiff, reduceIte, ng, Int.lt_irrefl, decide_false]
  rw [hany, hok]

theorem inWay_t (b : Bt) (x y : Int) : Pure Tryz.prog 125 [.agg (enBt.d b), .int .i64 x, .int .i64 y] (.bool (inW b x y)) := by
  simp only [enBt]
  refine pure_of_wc (rs := [.tmp 6]) (m := 25) [] o29_ok (by kernel_rfl) Tryz.func125 rfl (by kernel_rfl) rfl rfl (by kernel_rfl) ?_
  simp only [FS, ↓RE, okR, argEnv, Nat.reduceAdd, Nat.reduceSub, Nat.reduceLT, Nat.reduceLeDiff, Nat.reduceEqDiff, reduceIte, gIn_eq]
  cases h1 : bIn x b.x.1 b.x.2 <;> cases h2 : bIn y b.y.1 b.y.2 <;> simp [BR, inW, h1, h2]
def gIw : List D → Option D
  | [.agg [.int .i64 a, .int .i64 b, .int .i64 c, .int .i64 d, .int .i64 e, .int .i64 f, .bool s], .int .i64 x, .int .i64 y] => some (.bool (inW ⟨(a, b), (c, d), (e, f), s⟩ x y))
  | _ => none
theorem gIw_ok (ds : List D) (r : D) (h : gIw ds = some r) : Pure Tryz.prog 125 ds r := by
  unfold gIw at h
  split at h
  · cases h; exact inWay_t ⟨(_, _), (_, _), (_, _), _⟩ _ _
  · cases h
theorem gIw_eq (a b c d e f x y : Int) (s : Bool) : gIw [.agg [.int .i64 a, .int .i64 b, .int .i64 c, .int .i64 d, .int .i64 e, .int .i64 f, .bool s], .int .i64 x, .int .i64 y] = some (.bool (inW ⟨(a, b), (c, d), (e, f), s⟩ x y)) := (rfl)

def endD (w : Bool) (s : Se) : List Int := s.depths.map fun d => if w then d.1 else d.2
def endB (w : Bool) (s : Se) (t : Int) : List Bool := s.boats.map fun b => bIn t b.t.1 b.t.2 && (w || b.sure)
def bL (l : List Bool) : List (List D) := l.map fun x => [D.bool x]
theorem litD_bool {t e : TypeId} (hu : (Tryz.prog).underlying t = some (.slice e)) (hs : sizeT Tryz.prog e = some 1) {z : D} (hz : zeroD Tryz.prog e = some [z]) (h : H) (n : Bool) :
    litD Tryz.prog h t 1 [(0, .bool n)] = some (.sl [[.bool n]]) := litD_one hu hs hz h _ rfl rfl

theorem ends_t (s : Se) (gd : D) (h : SeL s gd) (hs : okSe s = true) (t : Int) (w : Bool) : Pure Tryz.prog 77 [.agg (s.c gd), .int .i64 t, .bool w] (.tup [.sl (iL (endD w s)), .sl (bL (endB w s t))]) := by
  have vg := fun hp => En.view h.gd hp
  have lg := En.lt h.gd
  have hdl := fun hp => En.len (P := Tryz.prog) Fz.und_22 (En.sl_map (E := enS) s.depths) hp
  have hbl := fun hp => En.len (P := Tryz.prog) Fz.und_30 (En.sl_map (E := enBt) s.boats) hp
  have hdb : s.depths.length ≤ 144 := by
    obtain ⟨h1, h2, h3⟩ := okSe_sz hs
    have : s.wide * s.deep ≤ 12 * 12 := Int.mul_le_mul h1.2 h2.2 (by omega) (by omega)
    omega
  have hbb : s.boats.length ≤ 12 := by
    simp only [okSe, Bool.and_eq_true, decide_eq_true_eq] at hs
    exact hs.2.1
  refine pure_of_wc (rs := [.tmp 6, .tmp 7]) (m := 80) [(12, [(31, false, false, [])])] o29_ok (by kernel_rfl) Tryz.func77 rfl (by kernel_rfl) rfl rfl (by kernel_rfl) ?_
  simp only [FS, ↓RE, okR, argEnv, Nat.reduceAdd, Nat.reduceSub, Nat.reduceLT, Nat.reduceLeDiff, Nat.reduceEqDiff, reduceIte]
  refine loopNil 8 3 1 rfl (loopNil 9 4 1 rfl ?_)
  refine loopV (ι := Nat) o29_ok [(12, [(31, false, false, [])])] (fun i => [(1, .int .i64 t), (2, .bool w), (3, .ptr 0 0), (8, .osl 1 i), (9, .osl 2 0), (10, .int .i64 (i : Int))])
    (fun i => [(2, .arr 4 1 []), (1, .arr 3 1 (iL ((endD w s).take i))), (0, .box (s.c gd))]) 3 (fun i => i ≤ s.depths.length) (fun i => s.depths.length - i) 0 (by kernel_rfl) (by kernel_rfl) (Nat.zero_le _) ?_ ?_
  · simp [headW, heapW, envW, blkLt, D.ltL, D.lt, look, hget, lg, eset_nil, eset_cons, iL]
  intro i hi
  have hel : (endD w s).length = s.depths.length := by simp [endD]
  rcases Nat.lt_or_ge i s.depths.length with hlt | hge
  · have hc : ((i : Int) < (s.depths.length : Int)) = True := by simp [hlt]
    obtain ⟨d, hd⟩ : ∃ d, s.depths[i]? = some d := ⟨s.depths[i], by simp [hlt]⟩
    have hix := fun hp => En.ix (P := Tryz.prog) Fz.und_22 Fz.size_70 (En.sl_map (E := enS) s.depths) hd hp .i64
    obtain ⟨d1, d2⟩ := d
    have hix2 : ∀ hp, indexAddrD Tryz.prog hp 22 (.sl (s.depths.map enS.d)) (.int .i64 (i : Int)) = some (.ref [.int .i64 d1, .int .i64 d2] 0) := hix
    have hwi := wrap_i64 (z := (i : Int) + 1) (by omega) (by omega)
    have htl : ((endD w s).take i).length = i := by rw [List.length_take, hel]; omega
    have hil : (iL ((endD w s).take i)).length = i := by rw [iL_length, htl]
    have hts : (endD w s).take (i + 1) = (endD w s).take i ++ [if w then d1 else d2] := by
      rw [List.take_add_one]
      simp [endD, hd]
    have ha := fun h x (hb : hget h 1 = some (.arr 3 1 (iL ((endD w s).take i)))) (hb2 : hget h 3 = some (.arr 3 1 [[.int .i64 x]])) => app_osl (P := Tryz.prog) Fz.und_62 Fz.size_3 Fz.zero_3 rfl (by omega) Fz.bytes_3_62 h 4 1 i 3 1 (es := iL ((endD w s).take i)) (xs := [[.int .i64 x]]) (ty2 := 3) (sz2 := 1) hb hil.symm hb2 rfl rfl (by rw [hil]; simp; omega) (by rw [hil]; simp; omega)
    cases w
    · have ha := fun h => ha h d2
      simp only [FS, ↓RE, okR, argEnv, Nat.reduceAdd, Nat.reduceSub, Nat.reduceLT, Nat.reduceLeDiff, Nat.reduceEqDiff, reduceIte, hdl, hc, decide_true, hix2, hwi, ha, hil]
      exact ⟨i + 1, by omega, by omega, by simp [headW, heapW, envW, blkLt, D.ltL, D.lt, look, hget, hset, lg, hts, iL]⟩
    · have ha := fun h => ha h d1
      simp only [FS, ↓RE, okR, argEnv, Nat.reduceAdd, Nat.reduceSub, Nat.reduceLT, Nat.reduceLeDiff, Nat.reduceEqDiff, reduceIte, hdl, hc, decide_true, hix2, hwi, ha, hil]
      exact ⟨i + 1, by omega, by omega, by simp [headW, heapW, envW, blkLt, D.ltL, D.lt, look, hget, hset, lg, hts, iL]⟩
  have : i = s.depths.length := by omega
  subst this
  rw [List.take_of_length_le (by omega)]
  simp only [FS, ↓RE, okR, argEnv, Nat.reduceAdd, Nat.reduceSub, Nat.reduceLT, Nat.reduceLeDiff, Nat.reduceEqDiff, reduceIte, hdl, Int.lt_irrefl, decide_false]
  refine loopV (ι := Nat) o29_ok [(12, [(31, false, false, [])])] (fun i => [(1, .int .i64 t), (2, .bool w), (3, .ptr 0 0), (8, .osl 1 s.depths.length), (9, .osl 2 i), (11, .int .i64 (i : Int))])
    (fun i => [(2, .arr 4 1 (bL ((endB w s t).take i))), (1, .arr 3 1 (iL (endD w s))), (0, .box (s.c gd))]) 3 (fun i => i ≤ s.boats.length) (fun i => s.boats.length - i) 0 (by kernel_rfl) (by kernel_rfl) (Nat.zero_le _) ?_ ?_
  · simp [headW, heapW, envW, blkLt, D.ltL, D.lt, look, hget, lg, bL]
  intro i hi
  have hel2 : (endB w s t).length = s.boats.length := by simp [endB]
  have hle : (iL (endD w s)).length = s.depths.length := by rw [iL_length, hel]
  rcases Nat.lt_or_ge i s.boats.length with hlt | hge
  · have hc : ((i : Int) < (s.boats.length : Int)) = True := by simp [hlt]
    obtain ⟨b, hb⟩ : ∃ b, s.boats[i]? = some b := ⟨s.boats[i], by simp [hlt]⟩
    have hix := fun hp => En.ix (P := Tryz.prog) Fz.und_30 Fz.size_72 (En.sl_map (E := enBt) s.boats) hb hp .i64
    obtain ⟨⟨x1, x2⟩, ⟨y1, y2⟩, ⟨t1, t2⟩, su⟩ := b
    have hix2 : ∀ hp, indexAddrD Tryz.prog hp 30 (.sl (s.boats.map enBt.d)) (.int .i64 (i : Int)) = some (.ref [.int .i64 x1, .int .i64 x2, .int .i64 y1, .int .i64 y2, .int .i64 t1, .int .i64 t2, .bool su] 0) := hix
    have hwi := wrap_i64 (z := (i : Int) + 1) (by omega) (by omega)
    have htl : (bL ((endB w s t).take i)).length = i := by simp only [bL, List.length_map, List.length_take, hel2]; omega
    have hts : (endB w s t).take (i + 1) = (endB w s t).take i ++ [bIn t t1 t2 && (w || su)] := by
      rw [List.take_add_one]
      simp [endB, hb]
    have ha := fun h nid x (hb : hget h 2 = some (.arr 4 1 (bL ((endB w s t).take i)))) => app_sl (P := Tryz.prog) (h := h) (nid := nid) Fz.und_63 Fz.size_4 Fz.zero_4 rfl (by omega) Fz.bytes_4_63 (b := 2) (n := i) (xs := [[.bool x]]) hb htl.symm rfl (by rw [htl]; simp; omega) (by rw [htl]; simp; omega)
    have hlt2 := fun h x => litD_bool Fz.und_63 Fz.size_4 Fz.zero_4 h x
    cases q : bIn t t1 t2 <;> cases w <;>
    · rw [q] at hts
      simp only [FS, ↓RE, okR, argEnv, Nat.reduceAdd, Nat.reduceSub, Nat.reduceLT, Nat.reduceLeDiff, Nat.reduceEqDiff, reduceIte, hbl, hc, decide_true, hix2, hwi, ha, hlt2, htl, gIn_eq, q, cur_osl, curC_arr]
      exact ⟨i + 1, by omega, by omega, by simp [headW, heapW, envW, blkLt, D.ltL, D.lt, look, hget, hset, lg, hts, bL]⟩
  have : i = s.boats.length := by omega
  subst this
  rw [List.take_of_length_le (by omega)]
  have hle2 : (bL (endB w s t)).length = s.boats.length := by simp only [bL, List.length_map, hel2]
  simp only [FS, ↓RE, okR, argEnv, Nat.reduceAdd, Nat.reduceSub, Nat.reduceLT, Nat.reduceLeDiff, Nat.reduceEqDiff, reduceIte, hbl, Int.lt_irrefl, decide_false, hle, hle2]
end Go.Sx

namespace Go.Sx
open Go.Proofs
set_option maxRecDepth 10000

abbrev o36 : List (FuncId × (List D → Option D)) := (125, gIw) :: o29
theorem o36_ok : OkO Tryz.prog (mkO o36) := mkO_ok gIw_ok o29_ok

def bAt (l : List Bool) (i : Nat) : Bool := l.getD i false
/-- A cell is good, for the reference. -/
def goodR (s : Se) (p : Sp) (dr tide : Int) (dl : List Int) (bl : List Bool) (k : Nat) : Bool := decide (dr ≤ iAt dl (cellI s p k) + tide) && freeB (bAt bl) (pxK p k) (pyK p k) s.boats 0
theorem allG_succ (good : Nat → Bool) (o j : Nat) : allG good o (j + 1) = (allG good o j && good (o + j)) := by
  simp [allG, List.range_succ]
theorem freeB_step (th : Nat → Bool) (x y : Int) (b : Bt) (r : List Bt) (i : Nat) : freeB th x y (b :: r) i = (!(th i && inW b x y) && freeB th x y r (i + 1)) := rfl

theorem rrun_t (s : Se) (gd : D) (h : SeL s gd) (hs : okSe s = true) (p : Sp) (hp : okSp s p = true) (dr c tide : Int) (hc0 : 1 ≤ c ∧ c ≤ 12) (dl : List Int) (bl : List Bool) (hdr : -100000 ≤ tide ∧ tide ≤ 100000) (hdl : dl.length = s.depths.length) (hdb : ∀ x ∈ dl, -100000 ≤ x ∧ x ≤ 100000) (hbl : bl.length = s.boats.length) :
    Pure Tryz.prog 79 [.agg (s.c gd), .agg p.c, .int .i64 dr, .int .i64 c, .int .i64 tide, .sl (iL dl), .sl (bL bl)] (.int .i64 (runS (goodR s p dr tide dl bl) p.cells.toNat c.toNat)) := by
  have vg := fun hp => En.view h.gd hp
  have lg := En.lt h.gd
  have hblen := fun hp => En.len (P := Tryz.prog) Fz.und_30 (En.sl_map (E := enBt) s.boats) hp
  obtain ⟨hw, hd, hlen⟩ := okSe_sz hs
  obtain ⟨hwy, hce⟩ := okSp_ce hp
  have hbb : s.boats.length ≤ 12 := by
    simp only [okSe, Bool.and_eq_true, decide_eq_true_eq] at hs
    exact hs.2.1
  obtain ⟨d1, d2, _⟩ := dx_cases p.way hwy
  generalize hgood : goodR s p dr tide dl bl = good
  refine pure_of_wc (rs := [.tmp 14]) (m := 94) [(9, [(14, false, false, [])])] o36_ok (by kernel_rfl) Tryz.func79 rfl (by kernel_rfl) rfl rfl (by kernel_rfl) ?_
  simp only [FS, ↓RE, okR, argEnv, Nat.reduceAdd, Nat.reduceSub, Nat.reduceLT, Nat.reduceLeDiff, Nat.reduceEqDiff, reduceIte, gSt_eq hwy, ex_tup]
  refine loopV (ι := Nat) o36_ok [(9, [(14, false, false, [])])] (fun o => [(2, .int .i64 dr), (3, .int .i64 c), (4, .int .i64 tide), (5, .sl (iL dl)), (6, .sl (bL bl)), (7, .ptr 0 0), (8, .ptr 1 0), (15, .int .i64 (dxW p.way)), (16, .int .i64 (dyW p.way)), (17, .int .i64 (o : Int))])
    (fun o => [(1, .box p.c), (0, .box (s.c gd))]) 2 (fun o => o ≤ p.cells.toNat + 1 - c.toNat ∧ ∀ i, i < o → allG good i c.toNat = false) (fun o => p.cells.toNat + 1 - c.toNat - o) 0 (by kernel_rfl) (by kernel_rfl) ⟨Nat.zero_le _, fun i hi => by omega⟩ ?_ ?_
  · simp [headW, heapW, envW, blkLt, D.ltL, D.lt, look, hget, lg]
  rintro o ⟨ho, hno⟩
  have hwo := wrap_i64 (z := (o : Int) + c) (by omega) (by omega)
  rcases Nat.lt_or_ge o (p.cells.toNat + 1 - c.toNat) with hlt | hge
  rotate_left
  · have hc : ((o : Int) + c ≤ p.cells) = False := by simp; omega
    simp only [FS, ↓RE, okR, argEnv, Nat.reduceAdd, Nat.reduceSub, Nat.reduceLT, Nat.reduceLeDiff, Nat.reduceEqDiff, reduceIte, hwo, hc, decide_false]
    have : (List.range (p.cells.toNat + 1 - c.toNat)).find? (fun o => allG good o c.toNat) = none := by
      rw [List.find?_eq_none]
      intro i hi
      rw [hno i (by have := List.mem_range.1 hi; omega)]; simp
    simp only [runS, this]
  have hc : ((o : Int) + c ≤ p.cells) = True := by simp; omega
  have hwo1 := wrap_i64 (z := (o : Int) + 1) (by omega) (by omega)
  simp only [FS, ↓RE, okR, argEnv, Nat.reduceAdd, Nat.reduceSub, Nat.reduceLT, Nat.reduceLeDiff, Nat.reduceEqDiff, reduceIte, hwo, hc, decide_true]
  refine loopV (ι := Nat) o36_ok [(9, [(14, false, false, [])])] (fun j => [(2, .int .i64 dr), (3, .int .i64 c), (4, .int .i64 tide), (5, .sl (iL dl)), (6, .sl (bL bl)), (7, .ptr 0 0), (8, .ptr 1 0), (15, .int .i64 (dxW p.way)), (16, .int .i64 (dyW p.way)), (17, .int .i64 (o : Int)), (18, .bool (allG good o j)), (19, .int .i64 ((o + j : Nat) : Int))])
    (fun j => [(1, .box p.c), (0, .box (s.c gd))]) 2 (fun j => j ≤ c.toNat) (fun j => c.toNat - j) 0 (by kernel_rfl) (by kernel_rfl) (Nat.zero_le _) ?_ ?_
  · simp [headW, heapW, envW, blkLt, D.ltL, D.lt, look, hget, lg, allG]
  intro j hj
  rcases Nat.lt_or_ge j c.toNat with hjlt | hjge
  rotate_left
  · have hjc : j = c.toNat := by omega
    have hc2 : (((o + j : Nat) : Int) < (o : Int) + c) = False := by simp; omega
    cases hg : allG good o j
    · simp only [FS, ↓RE, okR, argEnv, Nat.reduceAdd, Nat.reduceSub, Nat.reduceLT, Nat.reduceLeDiff, Nat.reduceEqDiff, reduceIte, hwo, hc2, decide_false, hwo1]
      refine ⟨o + 1, ⟨by omega, fun i hi => ?_⟩, by omega, by simp [headW, heapW, envW, blkLt, D.ltL, D.lt, look, hget, lg]⟩
      rcases Nat.lt_or_ge i o with h | h
      · exact hno i h
      · rw [show i = o by omega, ← hjc]; exact hg
    · simp only [FS, ↓RE, okR, argEnv, Nat.reduceAdd, Nat.reduceSub, Nat.reduceLT, Nat.reduceLeDiff, Nat.reduceEqDiff, reduceIte, hwo, hc2, decide_false]
      have : (List.range (p.cells.toNat + 1 - c.toNat)).find? (fun o => allG good o c.toNat) = some o := find_first (by omega) (by rw [← hjc]; exact hg) hno
      simp only [runS, this]
  have hc2 : (((o + j : Nat) : Int) < (o : Int) + c) = True := by simp; omega
  have hk' : 0 ≤ ((o + j : Nat) : Int) ∧ ((o + j : Nat) : Int) ≤ p.cells - 1 := by omega
  obtain ⟨hx, hy⟩ := cell_xy hp hk'
  have hcl := cell_lt hw.1 hp hk'
  have hm : s.wide * s.deep ≤ 12 * 12 := Int.mul_le_mul hw.2 hd.2 (by omega) (by omega)
  generalize hk : o + j = k at *
  have h1 : IntKind.i64.wrap (dxW p.way * (k : Int)) = (k : Int) * dxW p.way := by
    rw [Int.mul_comm]; exact wrap_i64 (by rcases d1 with h | h | h <;> rw [h] <;> omega) (by rcases d1 with h | h | h <;> rw [h] <;> omega)
  have h2 : IntKind.i64.wrap (dyW p.way * (k : Int)) = (k : Int) * dyW p.way := by
    rw [Int.mul_comm]; exact wrap_i64 (by rcases d2 with h | h | h <;> rw [h] <;> omega) (by rcases d2 with h | h | h <;> rw [h] <;> omega)
  have h3 : IntKind.i64.wrap (p.x + (k : Int) * dxW p.way) = pxK p k := wrap_i64 (z := pxK p k) (by omega) (by omega)
  have h4 : IntKind.i64.wrap (p.y + (k : Int) * dyW p.way) = pyK p k := wrap_i64 (z := pyK p k) (by omega) (by omega)
  have h5' : 0 ≤ pyK p k * s.wide := Int.mul_nonneg hy.1 (by omega)
  have h5 := wrap_i64 (z := pyK p k * s.wide) (by omega) (by simp only [cellI] at hcl; omega)
  have h6 : IntKind.i64.wrap (pyK p k * s.wide + pxK p k) = cellI s p k := wrap_i64 (z := cellI s p k) (by omega) (by omega)
  have hix := fun hp => ix_i Fz.und_62 Fz.size_3 (l := dl) (m := cellI s p k) hcl.1 (by omega) hp
  have hin : iAt dl (cellI s p k) ∈ dl := by
    have : (cellI s p k).toNat < dl.length := by omega
    simp only [iAt, List.getD_eq_getElem?_getD, List.getElem?_eq_getElem this]
    exact List.getElem_mem this
  have hib := hdb _ hin
  have h7 := wrap_i64 (z := iAt dl (cellI s p k) + tide) (by omega) (by omega)
  have hwk := wrap_i64 (z := (k : Int) + 1) (by omega) (by omega)
  have hgk : good k = (decide (dr ≤ iAt dl (cellI s p k) + tide) && freeB (bAt bl) (pxK p k) (pyK p k) s.boats 0) := by rw [← hgood]; rfl
  have hsucc := allG_succ good o j
  rw [hk] at hsucc
  have hq2 : decide (dr ≤ iAt dl (cellI s p k) + tide) = !decide (iAt dl (cellI s p k) + tide < dr) := by
    rw [← decide_not]; congr 1; simp
  rw [hq2] at hgk
  cases q : decide (iAt dl (cellI s p k) + tide < dr)
  all_goals
    rw [q] at hgk
    simp only [FS, ↓RE, okR, argEnv, Nat.reduceAdd, Nat.reduceSub, Nat.reduceLT, Nat.reduceLeDiff, Nat.reduceEqDiff, reduceIte, hwo, hc2, decide_true, h1, h2, h3, h4, h5, h6, hix, h7, q]
    refine loopV (ι := Nat × Bool) o36_ok [(9, [(14, false, false, [])])] (fun i => [(2, .int .i64 dr), (3, .int .i64 c), (4, .int .i64 tide), (5, .sl (iL dl)), (6, .sl (bL bl)), (7, .ptr 0 0), (8, .ptr 1 0), (15, .int .i64 (dxW p.way)), (16, .int .i64 (dyW p.way)), (17, .int .i64 (o : Int)), (18, .bool i.2), (19, .int .i64 (k : Int)), (20, .int .i64 (pxK p k)), (21, .int .i64 (pyK p k)), (22, .int .i64 (i.1 : Int))])
      (fun i => [(1, .box p.c), (0, .box (s.c gd))]) 2 (fun i => i.1 ≤ s.boats.length ∧ allG good o (j + 1) = (i.2 && freeB (bAt bl) (pxK p k) (pyK p k) (s.boats.drop i.1) i.1)) (fun i => s.boats.length - i.1) (0, allG good o j && !decide (iAt dl (cellI s p k) + tide < dr)) (by kernel_rfl) (by kernel_rfl) ⟨Nat.zero_le _, by rw [hsucc, hgk, q]; simp⟩ ?_ ?_
    · simp [headW, heapW, envW, blkLt, D.ltL, D.lt, look, hget, lg, q]
    rintro ⟨i, g⟩ ⟨hi, hgi⟩
    dsimp only at hi hgi ⊢
    rcases Nat.lt_or_ge i s.boats.length with hilt | hige
    rotate_left
    · have hc3 : ((i : Int) < (s.boats.length : Int)) = False := by simp; omega
      rw [List.drop_of_length_le hige] at hgi
      simp only [freeB, Bool.and_true] at hgi
      simp only [FS, ↓RE, okR, argEnv, Nat.reduceAdd, Nat.reduceSub, Nat.reduceLT, Nat.reduceLeDiff, Nat.reduceEqDiff, reduceIte, hblen, hc3, decide_false, hwk]
      refine ⟨j + 1, by omega, by omega, ?_⟩
      have hkk : ((o + (j + 1) : Nat) : Int) = (k : Int) + 1 := by omega
      simp [headW, heapW, envW, blkLt, D.ltL, D.lt, look, hget, lg, hgi]
      omega
    have hc3 : ((i : Int) < (s.boats.length : Int)) = True := by simp [hilt]
    obtain ⟨b, hb⟩ : ∃ b, s.boats[i]? = some b := ⟨s.boats[i], by simp [hilt]⟩
    obtain ⟨t, ht⟩ : ∃ t, bl[i]? = some t := ⟨bl[i]'(by omega), by rw [List.getElem?_eq_getElem]⟩
    have hixb := fun hp => En.ix (P := Tryz.prog) Fz.und_30 Fz.size_72 (En.sl_map (E := enBt) s.boats) hb hp .i64
    have hixt : ∀ hp, indexAddrD Tryz.prog hp 63 (.sl (bL bl)) (.int .i64 (i : Int)) = some (.ref [.bool t] 0) := fun hp => En.ix (P := Tryz.prog) Fz.und_63 Fz.size_4 (En.sl_map (E := enB) bl) ht hp .i64
    have hth : bAt bl i = t := by simp [bAt, List.getD, ht]
    have hwi := wrap_i64 (z := (i : Int) + 1) (by omega) (by omega)
    rw [drop_at hb, freeB_step, hth] at hgi
    obtain ⟨⟨x1, x2⟩, ⟨y1, y2⟩, ⟨t1, t2⟩, su⟩ := b
    have hixb2 : ∀ hp, indexAddrD Tryz.prog hp 30 (.sl (s.boats.map enBt.d)) (.int .i64 (i : Int)) = some (.ref [.int .i64 x1, .int .i64 x2, .int .i64 y1, .int .i64 y2, .int .i64 t1, .int .i64 t2, .bool su] 0) := hixb
    cases t
    · simp only [FS, ↓RE, okR, argEnv, Nat.reduceAdd, Nat.reduceSub, Nat.reduceLT, Nat.reduceLeDiff, Nat.reduceEqDiff, reduceIte, hblen, hc3, decide_true, hixt, hwi]
      simp only [Bool.false_and, Bool.not_false, Bool.true_and] at hgi
      exact ⟨(i + 1, g), ⟨by simp only; omega, hgi⟩, by simp only; omega, by simp [headW, heapW, envW, blkLt, D.ltL, D.lt, look, hget, lg]⟩
    cases qi : inW ⟨(x1, x2), (y1, y2), (t1, t2), su⟩ (pxK p k) (pyK p k)
    · rw [qi] at hgi
      simp only [FS, ↓RE, okR, argEnv, Nat.reduceAdd, Nat.reduceSub, Nat.reduceLT, Nat.reduceLeDiff, Nat.reduceEqDiff, reduceIte, hblen, hc3, decide_true, hixt, hixb2, gIw_eq, qi, hwi]
      simp only [Bool.and_false, Bool.not_false, Bool.true_and] at hgi
      exact ⟨(i + 1, g), ⟨by simp only; omega, hgi⟩, by simp only; omega, by simp [headW, heapW, envW, blkLt, D.ltL, D.lt, look, hget, lg]⟩
    · rw [qi] at hgi
      simp only [FS, ↓RE, okR, argEnv, Nat.reduceAdd, Nat.reduceSub, Nat.reduceLT, Nat.reduceLeDiff, Nat.reduceEqDiff, reduceIte, hblen, hc3, decide_true, hixt, hixb2, gIw_eq, qi, hwi]
      simp only [Bool.and_true, Bool.not_true, Bool.false_and, Bool.and_false] at hgi
      exact ⟨(i + 1, false), ⟨by simp only; omega, by simp only [Bool.false_and]; exact hgi⟩, by simp only; omega, by simp [headW, heapW, envW, blkLt, D.ltL, D.lt, look, hget, lg]⟩
end Go.Sx

namespace Go.Sx
open Go.Proofs
set_option maxRecDepth 10000

def decPn : List D → Option (Sp × Nd × Int × Int)
  | [.agg [.int .i64 x, .int .i64 y, .int .i64 w, .int .i64 c], .agg [.int .i64 a, .int .i64 b, .int .i64 d, .int .i64 e, .int .i64 f, .int .i64 g, .int .i64 h], .int .i64 i, .int .i64 k] => some (⟨x, y, w, c⟩, ⟨a, b, d, e, f, g, h⟩, i, k)
  | _ => none
theorem decPn_inv {ds : List D} {q : Sp × Nd × Int × Int} (h : decPn ds = some q) : ds = [.agg q.1.c, .agg q.2.1.c, .int .i64 q.2.2.1, .int .i64 q.2.2.2] := by
  unfold decPn at h
  split at h
  · cases h; rfl
  · cases h
def okPn (q : Sp × Nd × Int × Int) : Bool := okWay q.1.way && (okWind q.2.2.1 && (okWind q.2.2.2 && okNd q.2.1))
def gRc : List D → Option D := orc decPn okPn fun q => .bool (calmB q.1.way q.2.1 q.2.2.1 q.2.2.2)
theorem gRc_eq (p : Sp) (n : Nd) {e k : Int} (hw : okWay p.way = true) (he : okWind e = true) (hk : okWind k = true) (hn : okNd n = true) : gRc [.agg p.c, .agg n.c, .int .i64 e, .int .i64 k] = some (.bool (calmB p.way n e k)) :=
  orc_eq (a := (p, n, e, k)) rfl (by simp [okPn, hw, he, hk, hn])
abbrev o37 : List (FuncId × (List D → Option D)) := (81, gRc) :: o36
theorem o37_ok : OkO Tryz.prog (mkO o37) := mkO_ok (orc_ok fun ds q hd hk => by
    rw [decPn_inv hd]
    simp only [okPn, Bool.and_eq_true] at hk
    exact rcalm_t _ _ _ _ hk.1 hk.2.1 hk.2.2.1 hk.2.2.2) o36_ok

theorem runS_cases (good : Nat → Bool) (n c : Nat) : runS good n c = -1 ∨ 0 ≤ runS good n c := by
  simp only [runS]; split
  · right; omega
  · left; rfl
theorem offL_eq (l : Lk) (h : LkOk l) : offL l = runS (goodK l (fun i => (dpAt l.s i).1) (atL l.s.w.tide l.t).1 (passB l)) l.p.cells.toNat l.n.run.toNat := by
  have hr := okNd_run h.n
  have := runP_eq (goodK l (fun i => (dpAt l.s i).1) (atL l.s.w.tide l.t).1 (passB l)) l.p.cells.toNat l.n.run.toNat (by omega) l.p.cells.toNat 0 0 (by omega) (by omega) (by omega) (fun i a b => by omega) (.inl rfl) (fun o ho => by omega)
  rw [Int.toNat_of_nonneg (by omega)] at this
  exact this
theorem getD_map {α β : Type} (f : α → β) (l : List α) (i : Nat) (a : α) : (l.map f).getD i (f a) = f (l.getD i a) := by
  simp only [List.getD_eq_getElem?_getD, List.getElem?_map]
  cases l[i]? <;> rfl
theorem bAt_end (l : Lk) : bAt (endB true l.s l.t) = passB l := by
  funext i
  simp only [bAt, endB, passB, List.getD_eq_getElem?_getD, List.getElem?_map]
  cases l.s.boats[i]? <;> simp
theorem goodR_end (l : Lk) (tide : Int) : goodR l.s l.p l.n.draught tide (endD true l.s) (endB true l.s l.t) = goodK l (fun i => (dpAt l.s i).1) tide (passB l) := by
  funext k
  simp only [goodR, goodK, bAt_end]
  have : iAt (endD true l.s) (cellI l.s l.p k) = (dpAt l.s (cellI l.s l.p k)).1 := by
    simp only [iAt, endD, dpAt, if_true]
    exact getD_map (fun d : Int × Int => d.1) l.s.depths _ (0, 0)
  rw [this]
theorem endD_ok {s : Se} (hs : okSe s = true) (w : Bool) : ∀ x ∈ endD w s, -100000 ≤ x ∧ x ≤ 100000 := by
  intro x hx
  simp only [endD, List.mem_map] at hx
  obtain ⟨d, hd, rfl⟩ := hx
  simp only [okSe, Bool.and_eq_true, List.all_eq_true] at hs
  have := hs.2.2.2.2.1 d hd
  simp only [okDp, bSpan, Bool.and_eq_true, decide_eq_true_eq] at this
  split <;> omega

theorem rSure_t (l : Lk) (h : LkOk l) : Pure Tryz.prog 28 [.agg (l.s.c l.gd), .agg l.p.c, .agg l.n.c, .int .i64 l.t] (.int .i64 (if surelyB l then offL l else -1)) := by
  have hg := h.se.gd
  have vg := fun hp => En.view hg hp
  have lg := En.lt hg
  have hwx := okWx_gaOk (okSe_wx h.s)
  have a1 := gAtL l.s.w.east l.t ⟨hwx.east, h.t⟩
  have a2 := gAtL l.s.w.north l.t ⟨hwx.north, h.t⟩
  have a3 := gAtL l.s.w.wave l.t ⟨hwx.wave, h.t⟩
  have a4 := gAtL l.s.w.swell l.t ⟨hwx.swell, h.t⟩
  have a5 := gAtL l.s.w.tide l.t ⟨hwx.tide, h.t⟩
  obtain ⟨e1, e2⟩ := okWind_at hwx.east l.t
  obtain ⟨n1, n2⟩ := okWind_at hwx.north l.t
  have hwy := (okSp_ce h.p).1
  have c1 := gRc_eq l.p l.n hwy e1 n1 h.n
  have c2 := gRc_eq l.p l.n hwy e1 n2 h.n
  have c3 := gRc_eq l.p l.n hwy e2 n1 h.n
  have c4 := gRc_eq l.p l.n hwy e2 n2 h.n
  have hl0 : D.ltL 0 (l.s.c l.gd) = true := by simp [D.ltL, D.lt, lg]
  refine pure_of_wc (rs := [.tmp 8]) (m := 120) [(2, [(24, true, false, []), (4, false, false, [])]), (7, [(16, false, false, [])])] o37_ok (by kernel_rfl) Tryz.func28 rfl (by kernel_rfl) rfl rfl (by kernel_rfl) ?_
  simp only [FS, ↓RE, okR, argEnv, Nat.reduceAdd, Nat.reduceSub, Nat.reduceLT, Nat.reduceLeDiff, Nat.reduceEqDiff, reduceIte]
  refine call_of_pure' (ends_t l.s l.gd h.se h.s l.t true) (by simp [D.ltL, D.lt, lg]) (by simp [D.ltL, D.lt]) ?_
  simp only [FS, ↓RE, okR, argEnv, Nat.reduceAdd, Nat.reduceSub, Nat.reduceLT, Nat.reduceLeDiff, Nat.reduceEqDiff, reduceIte, ex_tup, vg, lg, a1, a2, a3, a4]
  refine call_of_pure (rclear_t l.s l.gd h.se h.s l.p h.p l.t) rfl ?_
  have hcl : (!(l.s.glares.any (blindG l.p.way l.t))) = !blindL l := rfl
  rw [hcl]
  have ht := (at_bounds hwx.tide l.t).1
  have hrun := rrun_t l.s l.gd h.se h.s l.p h.p l.n.draught l.n.run (atL l.s.w.tide l.t).1 (okNd_run h.n) (endD true l.s) (endB true l.s l.t) ht (by simp [endD]) (endD_ok h.s true) (by simp [endB])
  rw [goodR_end, ← offL_eq l h] at hrun
  have hoff : 0 ≤ offL l ∨ offL l = -1 := by rw [offL_eq l h]; exact (runS_cases _ _ _).symm
  have f1 : decide ((atL l.s.w.wave l.t).1 < l.n.calm) = !decide (l.n.calm ≤ (atL l.s.w.wave l.t).1) := by rw [← decide_not]; congr 1; simp
  have f2 : decide (l.n.wave < (atL l.s.w.wave l.t).2) = !decide ((atL l.s.w.wave l.t).2 ≤ l.n.wave) := by rw [← decide_not]; congr 1; simp
  have f3 : decide (l.n.swell < (atL l.s.w.swell l.t).2) = !decide ((atL l.s.w.swell l.t).2 ≤ l.n.swell) := by rw [← decide_not]; congr 1; simp
  cases q0 : blindL l
  rotate_left
  · simp only [FS, ↓RE, okR, argEnv, Nat.reduceAdd, Nat.reduceSub, Nat.reduceLT, Nat.reduceLeDiff, Nat.reduceEqDiff, reduceIte]
    simp [surelyB, q0]
  cases q1 : decide (l.n.calm ≤ (atL l.s.w.wave l.t).1)
  · simp only [FS, ↓RE, okR, argEnv, Nat.reduceAdd, Nat.reduceSub, Nat.reduceLT, Nat.reduceLeDiff, Nat.reduceEqDiff, reduceIte, f1, q1]
    simp [surelyB, flatS, q1]
  cases q2 : decide ((atL l.s.w.wave l.t).2 ≤ l.n.wave)
  · simp only [FS, ↓RE, okR, argEnv, Nat.reduceAdd, Nat.reduceSub, Nat.reduceLT, Nat.reduceLeDiff, Nat.reduceEqDiff, reduceIte, f1, q1, f2, q2]
    simp [surelyB, flatS, q2]
  cases q3 : decide ((atL l.s.w.swell l.t).2 ≤ l.n.swell)
  · simp only [FS, ↓RE, okR, argEnv, Nat.reduceAdd, Nat.reduceSub, Nat.reduceLT, Nat.reduceLeDiff, Nat.reduceEqDiff, reduceIte, f1, q1, f2, q2, f3, q3]
    simp [surelyB, flatS, q3]
  cases r1 : calmB l.p.way l.n (atL l.s.w.east l.t).1 (atL l.s.w.north l.t).1
  · simp only [FS, ↓RE, okR, argEnv, Nat.reduceAdd, Nat.reduceSub, Nat.reduceLT, Nat.reduceLeDiff, Nat.reduceEqDiff, reduceIte, f1, q1, f2, q2, f3, q3, c1, r1]
    simp [surelyB, calmS, r1]
  cases r2 : calmB l.p.way l.n (atL l.s.w.east l.t).1 (atL l.s.w.north l.t).2
  · simp only [FS, ↓RE, okR, argEnv, Nat.reduceAdd, Nat.reduceSub, Nat.reduceLT, Nat.reduceLeDiff, Nat.reduceEqDiff, reduceIte, f1, q1, f2, q2, f3, q3, c1, r1, c2, r2]
    simp [surelyB, calmS, r2]
  cases r3 : calmB l.p.way l.n (atL l.s.w.east l.t).2 (atL l.s.w.north l.t).1
  · simp only [FS, ↓RE, okR, argEnv, Nat.reduceAdd, Nat.reduceSub, Nat.reduceLT, Nat.reduceLeDiff, Nat.reduceEqDiff, reduceIte, f1, q1, f2, q2, f3, q3, c1, r1, c2, r2, c3, r3]
    simp [surelyB, calmS, r3]
  cases r4 : calmB l.p.way l.n (atL l.s.w.east l.t).2 (atL l.s.w.north l.t).2
  · simp only [FS, ↓RE, okR, argEnv, Nat.reduceAdd, Nat.reduceSub, Nat.reduceLT, Nat.reduceLeDiff, Nat.reduceEqDiff, reduceIte, f1, q1, f2, q2, f3, q3, c1, r1, c2, r2, c3, r3, c4, r4]
    simp [surelyB, calmS, r4]
  simp only [FS, ↓RE, okR, argEnv, Nat.reduceAdd, Nat.reduceSub, Nat.reduceLT, Nat.reduceLeDiff, Nat.reduceEqDiff, reduceIte, f1, q1, f2, q2, f3, q3, c1, r1, c2, r2, c3, r3, c4, r4, a5, vg, lg]
  refine call_of_pure hrun rfl ?_
  simp only [FS, ↓RE, okR, argEnv, Nat.reduceAdd, Nat.reduceSub, Nat.reduceLT, Nat.reduceLeDiff, Nat.reduceEqDiff, reduceIte]
  simp only [surelyB, calmS, flatS, q0, q1, q2, q3, r1, r2, r3, r4, Bool.and_self, Bool.not_false, Bool.and_true]
  rcases hoff with h0 | h0
  · simp [h0]
  · simp [h0]
end Go.Sx

namespace Go.Sx
open Go.Proofs
set_option maxRecDepth 10000

def enSp : En Sp where
  d := Sp.c
  dec | [.int .i64 x, .int .i64 y, .int .i64 w, .int .i64 c] => some ⟨x, y, w, c⟩ | _ => none
  h1 _ := rfl
  h2 c a h := by
    split at h
    · cases h; rfl
    · cases h
  sz := 4
  hsz _ := rfl
theorem neg_one_lt {s : Bool} {o : Int} (h : s = true → 0 ≤ o) : decide (0 ≤ (if s then o else -1)) = s := by
  cases s
  · rfl
  · simpa using h rfl
theorem surely_off {l : Lk} (h : surelyB l = true) : 0 ≤ offL l := by
  simp only [surelyB, Bool.and_eq_true, decide_eq_true_eq] at h
  exact h.1

/-- How many minutes of the first so many. -/
def cntB (f : Nat → Bool) : Nat → Int
  | 0 => 0
  | m + 1 => if f m then cntB f m + 1 else cntB f m
theorem cntB_le (f : Nat → Bool) : ∀ m, 0 ≤ cntB f m ∧ cntB f m ≤ m
  | 0 => by simp [cntB]
  | m + 1 => by
    have := cntB_le f m
    simp only [cntB]; split <;> omega
def bestG (c : Sp → Int) : List Sp → Nat → Int × Int → Int × Int
  | [], _, st => st
  | p :: r, i, st => bestG c r (i + 1) (if st.2 < c p then ((i : Int), c p) else st)
abbrev lkT (s : Se) (gd : D) (n : Nd) (p : Sp) (t : Nat) : Lk := ⟨s, gd, p, n, (t : Int)⟩
def cntS (s : Se) (gd : D) (n : Nd) (p : Sp) : Int := cntB (fun t => surelyB (lkT s gd n p t)) 1441

def decS4 : List D → Option Lk
  | [.agg cs, .agg [.int .i64 x, .int .i64 y, .int .i64 w, .int .i64 c], .agg [.int .i64 a, .int .i64 b, .int .i64 d, .int .i64 e, .int .i64 f, .int .i64 g, .int .i64 h], .int .i64 t] => match decSe [.agg cs] with
    | some (s, gd) => some ⟨s, gd, ⟨x, y, w, c⟩, ⟨a, b, d, e, f, g, h⟩, t⟩
    | none => none
  | _ => none
theorem decS4_eq (l : Lk) (h : enGl.sl l.gd = some l.s.glares) : decS4 [.agg (l.s.c l.gd), .agg l.p.c, .agg l.n.c, .int .i64 l.t] = some l := by
  have := decSe_eq h
  simp only [decS4, this]
theorem decS4_inv {ds : List D} {l : Lk} (h : decS4 ds = some l) : ds = [.agg (l.s.c l.gd), .agg l.p.c, .agg l.n.c, .int .i64 l.t] ∧ enGl.sl l.gd = some l.s.glares := by
  unfold decS4 at h
  split at h
  · split at h
    · rename_i h1
      cases h
      obtain ⟨a, b⟩ := decSe_inv h1
      refine ⟨?_, b⟩
      simp only [List.cons.injEq, and_true] at a
      rw [a]
    · cases h
  · cases h
def lkB (l : Lk) : Bool := seLen l.s && (okSe l.s && (okSp l.s l.p && (okNd l.n && bIn l.t 0 1440)))
theorem lkB_iff {l : Lk} (hg : enGl.sl l.gd = some l.s.glares) : lkB l = true ↔ LkOk l := by
  simp only [lkB, Bool.and_eq_true, bIn, decide_eq_true_eq, seLen_iff hg]
  exact ⟨fun ⟨a, b, c, d, e⟩ => ⟨a, b, c, d, e⟩, fun ⟨a, b, c, d, e⟩ => ⟨a, b, c, d, e⟩⟩
def gRs : List D → Option D := orc decS4 lkB fun l => .int .i64 (if surelyB l then offL l else -1)
theorem gRs_eq {l : Lk} (h : LkOk l) : gRs [.agg (l.s.c l.gd), .agg l.p.c, .agg l.n.c, .int .i64 l.t] = some (.int .i64 (if surelyB l then offL l else -1)) := orc_eq (decS4_eq l h.se.gd) ((lkB_iff h.se.gd).2 h)
abbrev o38 : List (FuncId × (List D → Option D)) := (28, gRs) :: o37
theorem o38_ok : OkO Tryz.prog (mkO o38) := mkO_ok (orc_ok fun ds l hd hk => by
    obtain ⟨rfl, hg⟩ := decS4_inv hd
    exact rSure_t l ((lkB_iff hg).1 hk)) o37_ok

theorem bestG_bounds (c : Sp → Int) (hc : ∀ p, 0 ≤ c p ∧ c p ≤ 1441) : ∀ (l : List Sp) (i : Nat) (st : Int × Int), (0 ≤ st.2 ∧ st.2 ≤ 1441) → 0 ≤ (bestG c l i st).2 ∧ (bestG c l i st).2 ≤ 1441
  | [], _, st, h => h
  | p :: r, i, st, h => by
    simp only [bestG]
    refine bestG_bounds c hc r (i + 1) _ ?_
    split
    · exact hc p
    · exact h
theorem cntS_b (s : Se) (gd : D) (n : Nd) (p : Sp) : 0 ≤ cntS s gd n p ∧ cntS s gd n p ≤ 1441 := by
  have := cntB_le (fun t => surelyB (lkT s gd n p t)) 1441
  exact this

theorem rBest_t (s : Se) (gd : D) (h : SeL s gd) (hs : okSe s = true) (n : Nd) (hn : okNd n = true) (ps : List Sp) (hps : ∀ p ∈ ps, okSp s p = true) (hl : ps.length ≤ 100) :
    Pure Tryz.prog 20 [.agg (s.c gd), .sl (ps.map enSp.d), .agg n.c] (.tup [.int .i64 (bestG (cntS s gd n) ps 0 (0, 0)).1, .int .i64 (bestG (cntS s gd n) ps 0 (0, 0)).2]) := by
  have vg := fun hp => En.view h.gd hp
  have lg := En.lt h.gd
  have hpl := fun hp => En.len (P := Tryz.prog) Fz.und_34 (En.sl_map (E := enSp) ps) hp
  generalize hr : bestG (cntS s gd n) ps 0 (0, 0) = r
  refine pure_of_wc (rs := [.tmp 6, .tmp 7]) (m := 41) [(9, [(9, false, false, [])])] o38_ok (by kernel_rfl) Tryz.func20 rfl (by kernel_rfl) rfl rfl (by kernel_rfl) ?_
  simp only [FS, ↓RE, okR, argEnv, Nat.reduceAdd, Nat.reduceSub, Nat.reduceLT, Nat.reduceLeDiff, Nat.reduceEqDiff, reduceIte]
  refine loopV (ι := Nat × Int × Int) o38_ok [(9, [(9, false, false, [])])] (fun i => [(1, .sl (ps.map enSp.d)), (3, .ptr 0 0), (5, .ptr 1 0), (8, .int .i64 i.2.1), (9, .int .i64 i.2.2), (10, .int .i64 (i.1 : Int))])
    (fun i => [(1, .box n.c), (0, .box (s.c gd))]) 2 (fun i => i.1 ≤ ps.length ∧ (0 ≤ i.2.2 ∧ i.2.2 ≤ 1441) ∧ r = bestG (cntS s gd n) (ps.drop i.1) i.1 i.2) (fun i => ps.length - i.1) (0, 0, 0) (by kernel_rfl) (by kernel_rfl) ⟨Nat.zero_le _, by simp, hr.symm⟩ ?_ ?_
  · simp [headW, heapW, envW, blkLt, D.ltL, D.lt, look, hget, lg]
  rintro ⟨i, b, m⟩ ⟨hi, hm, hri⟩
  dsimp only at hi hm hri ⊢
  rcases Nat.lt_or_ge i ps.length with hilt | hige
  rotate_left
  · have hc : ((i : Int) < (ps.length : Int)) = False := by simp; omega
    rw [List.drop_of_length_le hige] at hri
    simp only [bestG] at hri
    subst hri
    simp only [FS, ↓RE, okR, argEnv, Nat.reduceAdd, Nat.reduceSub, Nat.reduceLT, Nat.reduceLeDiff, Nat.reduceEqDiff, reduceIte, hpl, hc, decide_false]
  have hc : ((i : Int) < (ps.length : Int)) = True := by simp [hilt]
  obtain ⟨p, hp⟩ : ∃ p, ps[i]? = some p := ⟨ps[i], by simp [hilt]⟩
  have hpo := hps p (List.mem_of_getElem? hp)
  have hix : ∀ hh, indexAddrD Tryz.prog hh 34 (.sl (ps.map enSp.d)) (.int .i64 (i : Int)) = some (.ref [.int .i64 p.x, .int .i64 p.y, .int .i64 p.way, .int .i64 p.cells] 0) := fun hh => En.ix (P := Tryz.prog) Fz.und_34 Fz.size_46 (En.sl_map (E := enSp) ps) hp hh .i64
  rw [drop_at hp] at hri
  simp only [bestG] at hri
  have hwi := wrap_i64 (z := (i : Int) + 1) (by omega) (by omega)
  simp only [FS, ↓RE, okR, argEnv, Nat.reduceAdd, Nat.reduceSub, Nat.reduceLT, Nat.reduceLeDiff, Nat.reduceEqDiff, reduceIte, hpl, hc, decide_true]
  refine loopV (ι := Nat) o38_ok [(9, [(9, false, false, [])])] (fun t => [(1, .sl (ps.map enSp.d)), (3, .ptr 0 0), (5, .ptr 1 0), (8, .int .i64 b), (9, .int .i64 m), (10, .int .i64 (i : Int)), (11, .int .i64 (cntB (fun t => surelyB (lkT s gd n p t)) t)), (12, .int .i64 (t : Int))])
    (fun i => [(1, .box n.c), (0, .box (s.c gd))]) 2 (fun t => t ≤ 1441) (fun t => 1441 - t) 0 (by kernel_rfl) (by kernel_rfl) (Nat.zero_le _) ?_ ?_
  · simp [headW, heapW, envW, blkLt, D.ltL, D.lt, look, hget, lg, cntB]
  intro t ht
  have hcb := cntB_le (fun t => surelyB (lkT s gd n p t)) t
  rcases Nat.lt_or_ge t 1441 with htlt | htge
  · have hc2 : ((t : Int) ≤ 1440) = True := by simp; omega
    have hlk : LkOk (lkT s gd n p t) := ⟨h, hs, hpo, hn, by simp only; omega⟩
    have hg := gRs_eq hlk
    have hsu := neg_one_lt (s := surelyB (lkT s gd n p t)) (o := offL (lkT s gd n p t)) surely_off
    simp only [Se.c, Se.cr, Wx.c, gaC] at hg
    have hwt := wrap_i64 (z := (t : Int) + 1) (by omega) (by omega)
    have hwc := wrap_i64 (z := cntB (fun t => surelyB (lkT s gd n p t)) t + 1) (by omega) (by omega)
    cases q : surelyB (lkT s gd n p t)
    · rw [q] at hg hsu
      simp only [FS, ↓RE, okR, argEnv, Nat.reduceAdd, Nat.reduceSub, Nat.reduceLT, Nat.reduceLeDiff, Nat.reduceEqDiff, reduceIte, hpl, hc2, decide_true, hix, vg, lg, hg, Bool.false_eq_true, Int.reduceLE, decide_false, Int.reduceNeg, hwt]
      exact ⟨t + 1, by omega, by omega, by simp [headW, heapW, envW, blkLt, D.ltL, D.lt, look, hget, lg, cntB, q]⟩
    · rw [q] at hg hsu
      rw [if_pos rfl] at hg hsu
      simp only [FS, ↓RE, okR, argEnv, Nat.reduceAdd, Nat.reduceSub, Nat.reduceLT, Nat.reduceLeDiff, Nat.reduceEqDiff, reduceIte, hpl, hc2, decide_true, hix, vg, lg, hg, hsu, hwc, hwt]
      exact ⟨t + 1, by omega, by omega, by simp [headW, heapW, envW, blkLt, D.ltL, D.lt, look, hget, lg, cntB, q]⟩
  have : t = 1441 := by omega
  subst this
  have hc2 : (((1441 : Nat) : Int) ≤ 1440) = False := by simp
  have hcs : cntB (fun t => surelyB (lkT s gd n p t)) 1441 = cntS s gd n p := rfl
  rw [hcs]
  rw [hcs] at hcb
  by_cases q : m < cntS s gd n p
  · rw [if_pos q] at hri
    simp only [FS, ↓RE, okR, argEnv, Nat.reduceAdd, Nat.reduceSub, Nat.reduceLT, Nat.reduceLeDiff, Nat.reduceEqDiff, reduceIte, hc2, decide_false, q, decide_true, hwi]
    exact ⟨(i + 1, (i : Int), cntS s gd n p), ⟨by simp only; omega, by simp only; omega, hri⟩, by simp only; omega, by simp [headW, heapW, envW, blkLt, D.ltL, D.lt, look, hget, lg]⟩
  · rw [if_neg q] at hri
    simp only [FS, ↓RE, okR, argEnv, Nat.reduceAdd, Nat.reduceSub, Nat.reduceLT, Nat.reduceLeDiff, Nat.reduceEqDiff, reduceIte, hc2, decide_false, q, hwi]
    exact ⟨(i + 1, b, m), ⟨by simp only; omega, hm, hri⟩, by simp only; omega, by simp [headW, heapW, envW, blkLt, D.ltL, D.lt, look, hget, lg]⟩
end Go.Sx

namespace Go.Sx
open Go.Proofs
set_option maxRecDepth 10000

theorem sp_ix (l : List _) (x : D) (hx : En.sl enSp x = some l) (g : FuncId) (caps : List D) (q : _ → Bool) (hl : l.length ≤ 9223372036854775807) (hcl : ∀ m, D.ltL m caps = true) (hcv : ∀ h, viewL h caps = caps)
    (hq : ∀ a ∈ l, Pure Tryz.prog g (.agg (enSp.d a) :: caps) (.bool (q a))) : Pure Tryz.prog 113 [x, .fn (.func g) [] caps] (.int .i64 (firstI q l 0)) := by
  have lx := fun hp => En.len (P := Tryz.prog) Fz.und_34 hx hp
  have vx := En.lt hx
  refine pure_of_wc (rs := [.tmp 4]) (m := 19) [] oNone_ok (by kernel_rfl) Tryz.func113 rfl (by kernel_rfl) rfl rfl (by kernel_rfl) ?_
  simp only [FS, ↓RE, okR, argEnv, Nat.reduceAdd, Nat.reduceSub, Nat.reduceLT, Nat.reduceLeDiff, Nat.reduceEqDiff, reduceIte, lx]
  refine loopV (ι := Nat) oNone_ok [] (fun i => [(0, x), (1, .fn (.func g) [] caps), (7, .int .i64 (l.length : Int)), (8, .int .i64 (i : Int))])
    (fun i => []) 0 (fun i => i ≤ l.length ∧ (l.take i).all (fun r => !(q r)) = true) (fun i => l.length - i) 0 (by kernel_rfl) (by kernel_rfl) ⟨Nat.zero_le _, by simp⟩ ?_ ?_
  · simp [headW, heapW, envW, blkLt, D.ltL, D.lt, look, hget, vx, hcl]
  rintro i ⟨hil, hok⟩
  rcases Nat.lt_or_ge i l.length with hlt | hge
  · have hc : ((i : Int) < (l.length : Int)) = True := by simp [hlt]
    obtain ⟨r, hr⟩ : ∃ r, l[i]? = some r := ⟨l[i], by simp [hlt]⟩
    have hix := fun hp => En.ix (P := Tryz.prog) Fz.und_34 Fz.size_46 hx hr hp .i64
    have hw := wrap_i64 (z := (i : Int) + 1) (by omega) (by omega)
    have hqr := hq r (List.mem_of_getElem? hr)
    simp only [enSp] at hix hqr
    simp only [FS, ↓RE, okR, argEnv, Nat.reduceAdd, Nat.reduceSub, Nat.reduceLT, Nat.reduceLeDiff, Nat.reduceEqDiff, reduceIte, hix, hc, decide_true, List.nil_append, List.cons_append, hcv]
    refine call_of_pure hqr rfl ?_
    cases hm : q r
    · simp only [FS, ↓RE, okR, argEnv, Nat.reduceAdd, Nat.reduceSub, Nat.reduceLT, Nat.reduceLeDiff, Nat.reduceEqDiff, reduceIte, hw]
      exact ⟨i + 1, ⟨by omega, all_take hr hok (by simp [hm])⟩, by omega, by simp [headW, heapW, envW, blkLt, D.ltL, D.lt, look, hget, vx, hcl]⟩
    · simp only [FS, ↓RE, okR, argEnv, Nat.reduceAdd, Nat.reduceSub, Nat.reduceLT, Nat.reduceLeDiff, Nat.reduceEqDiff, reduceIte, hw]
      rw [firstI_at hok hr (by simp [hm])]; simp
  · have hc : ((i : Int) < (l.length : Int)) = False := by simp; omega
    have : i = l.length := by omega
    subst this
    rw [List.take_length] at hok
    simp only [FS, ↓RE, okR, argEnv, Nat.reduceAdd, Nat.reduceSub, Nat.reduceLT, Nat.reduceLeDiff, Nat.reduceEqDiff, reduceIte, hc, decide_false]
    rw [firstI_none hok]
theorem sp_has (l : List _) (x : D) (hx : En.sl enSp x = some l) (g : FuncId) (caps : List D) (q : _ → Bool) (hl : l.length ≤ 9223372036854775807) (hcl : ∀ m, D.ltL m caps = true) (hcv : ∀ h, viewL h caps = caps)
    (hq : ∀ a ∈ l, Pure Tryz.prog g (.agg (enSp.d a) :: caps) (.bool (q a))) : Pure Tryz.prog 61 [x, .fn (.func g) [] caps] (.bool (l.any q)) := by
  have vx := fun h => En.view hx h
  refine pure_of_wc (rs := [.tmp 4]) (m := 9) [] oNone_ok (by kernel_rfl) Tryz.func61 rfl (by kernel_rfl) rfl rfl (by kernel_rfl) ?_
  simp only [FS, ↓RE, okR, argEnv, Nat.reduceAdd, Nat.reduceSub, Nat.reduceLT, Nat.reduceLeDiff, Nat.reduceEqDiff, reduceIte, vx, view_fn, hcv]
  refine call_of_pure (sp_ix l x hx g caps q hl hcl hcv hq) rfl ?_
  simp only [FS, ↓RE, okR, argEnv, Nat.reduceAdd, Nat.reduceSub, Nat.reduceLT, Nat.reduceLeDiff, Nat.reduceEqDiff, reduceIte, firstI_ge]

theorem best1_t (s : Se) (gd : D) (h : SeL s gd) (hs : okSe s = true) (p : Sp) : Pure Tryz.prog 62 [.agg (enSp.d p), .ref (s.c gd) 0] (.bool (!okSp s p)) := by
  have vg := fun hp => En.view h.gd hp
  have lg := En.lt h.gd
  have h2 := gSp_eq h hs p
  simp only [Se.c, Se.cr, Wx.c, gaC] at h2
  simp only [enSp]
  refine pure_of_wc (rs := [.tmp 3]) (m := 8) [] o38_ok (by kernel_rfl) Tryz.func62 rfl (by kernel_rfl) rfl rfl (by kernel_rfl) ?_
  simp only [FS, ↓RE, okR, argEnv, Nat.reduceAdd, Nat.reduceSub, Nat.reduceLT, Nat.reduceLeDiff, Nat.reduceEqDiff, reduceIte, vg, lg, h2]

/-- How many of some minutes. -/
def cntX (f : Nat → Bool) (xs : List (Fin 1441)) : Int := ((xs.filter fun x => f x.val).length : Int)
theorem cntX_snoc (f : Nat → Bool) (pre : List (Fin 1441)) (x : Fin 1441) : cntX f (pre ++ [x]) = if f x.val then cntX f pre + 1 else cntX f pre := by
  simp only [cntX, List.filter_append, List.length_append]
  cases h : f x.val <;> simp [List.filter_cons, h]
theorem cntB_filter (f : Nat → Bool) : ∀ m, cntB f m = (((List.range m).filter f).length : Int)
  | 0 => rfl
  | m + 1 => by
    rw [cntB, cntB_filter f m, List.range_succ, List.filter_append, List.length_append]
    cases h : f m <;> simp [List.filter_cons, h]
theorem cntX_all (f : Nat → Bool) : cntX f (List.finRange 1441) = cntB f 1441 := by
  rw [cntB_filter]
  simp only [cntX]
  congr 1
  have : (List.range 1441) = (List.finRange 1441).map Fin.val := by
    apply List.ext_getElem
    · rw [List.length_range, List.length_map, List.length_finRange]
    · intro i h1 h2
      simp
  rw [this, List.filter_map, List.length_map]
  rfl
theorem cntX_le (f : Nat → Bool) (pre : List (Fin 1441)) : 0 ≤ cntX f pre ∧ cntX f pre ≤ pre.length := by
  have := List.length_filter_le (fun x : Fin 1441 => f x.val) pre
  simp only [cntX]; omega

def BestA (s : Se) (gd : D) (ps : List Sp) (n : Nd) : Int × Int × Int :=
  if 20 < (ps.length : Int) then (0, 0, 3)
  else if okSe s && (okNd n && ps.all (okSp s)) then
    (if soundW s.w then (if (bestG (cntS s gd n) ps 0 (0, 0)).2 = 0 then (0, 0, 7) else ((bestG (cntS s gd n) ps 0 (0, 0)).1, (bestG (cntS s gd n) ps 0 (0, 0)).2, 0)) else (0, 0, 5))
  else (0, 0, 2)

theorem Best_t (s : Se) (gd : D) (h : SeL s gd) (n : Nd) (ps : List Sp) (hl : ps.length ≤ 9223372036854775807) :
    Pure Tryz.prog 16 [.agg (s.c gd), .sl (ps.map enSp.d), .agg n.c] (.tup [.int .i64 (BestA s gd ps n).1, .int .i64 (BestA s gd ps n).2.1, .int .i64 (BestA s gd ps n).2.2]) := by
  have vg := fun hp => En.view h.gd hp
  have lg := En.lt h.gd
  have cg := fun hp => En.cur h.gd hp
  have hpl := fun hp => En.len (P := Tryz.prog) Fz.und_34 (En.sl_map (E := enSp) ps) hp
  have h1 := gSe_eq h
  have h3 := gNd_eq n
  simp only [Se.c, Se.cr, Wx.c, gaC] at h1
  refine pure_of_wc (rs := [.tmp 6, .tmp 7, .tmp 8]) (m := 61) [(16, [(4, false, false, [])])] o38_ok (by kernel_rfl) Tryz.func16 rfl (by kernel_rfl) rfl rfl (by kernel_rfl) ?_
  by_cases q0 : (20 : Int) < (ps.length : Int)
  · simp only [FS, ↓RE, okR, argEnv, Nat.reduceAdd, Nat.reduceSub, Nat.reduceLT, Nat.reduceLeDiff, Nat.reduceEqDiff, reduceIte, hpl, q0, decide_true]
    simp [BestA, q0]
  cases hs : okSe s
  · simp only [FS, ↓RE, okR, argEnv, Nat.reduceAdd, Nat.reduceSub, Nat.reduceLT, Nat.reduceLeDiff, Nat.reduceEqDiff, reduceIte, hpl, q0, decide_false, vg, lg, h1, hs]
    simp [BestA, q0, hs]
  cases hn : okNd n
  · simp only [FS, ↓RE, okR, argEnv, Nat.reduceAdd, Nat.reduceSub, Nat.reduceLT, Nat.reduceLeDiff, Nat.reduceEqDiff, reduceIte, hpl, q0, decide_false, vg, lg, h1, hs, h3, hn]
    simp [BestA, q0, hs, hn]
  simp only [FS, ↓RE, okR, argEnv, Nat.reduceAdd, Nat.reduceSub, Nat.reduceLT, Nat.reduceLeDiff, Nat.reduceEqDiff, reduceIte, hpl, q0, decide_false, vg, lg, h1, hs, h3, hn]
  refine call_of_pure (sp_has ps _ (En.sl_map ps) 62 [.ref (s.c gd) 0] (fun p => !okSp s p) hl (fun _ => rfl) (fun _ => rfl) fun p _ => best1_t s gd h hs p) rfl ?_
  have hany : (ps.any fun p => !okSp s p) = !(ps.all (okSp s)) := by rw [List.any_eq_not_all_not]; simp
  rw [hany]
  cases ha : ps.all (okSp s)
  · simp only [FS, ↓RE, okR, argEnv, Nat.reduceAdd, Nat.reduceSub, Nat.reduceLT, Nat.reduceLeDiff, Nat.reduceEqDiff, reduceIte]
    simp [BestA, q0, hs, hn, ha]
  have hps : ∀ p ∈ ps, okSp s p = true := List.all_eq_true.1 ha
  have hso := gL0_eq (fun l => okWx l.s.w) (fun l => .bool (soundW l.s.w)) ⟨s, gd, ⟨0, 0, 0, 0⟩, ⟨0, 0, 0, 0, 0, 0, 0⟩, 0⟩ h.gd (okSe_wx hs)
  simp only [Lk.c, Se.cr, Wx.c, gaC] at hso
  cases hsd : soundW s.w
  · simp only [FS, ↓RE, okR, argEnv, Nat.reduceAdd, Nat.reduceSub, Nat.reduceLT, Nat.reduceLeDiff, Nat.reduceEqDiff, reduceIte, vg, lg, cg, hso, hsd]
    simp [BestA, q0, hs, hn, ha, hsd]
  simp only [FS, ↓RE, okR, argEnv, Nat.reduceAdd, Nat.reduceSub, Nat.reduceLT, Nat.reduceLeDiff, Nat.reduceEqDiff, reduceIte, vg, lg, cg, hso, hsd, hpl]
  have hB : BestA s gd ps n = if (bestG (cntS s gd n) ps 0 (0, 0)).2 = 0 then (0, 0, 7) else ((bestG (cntS s gd n) ps 0 (0, 0)).1, (bestG (cntS s gd n) ps 0 (0, 0)).2, 0) := by simp [BestA, q0, hs, hn, ha, hsd]
  rw [hB]
  generalize hr : bestG (cntS s gd n) ps 0 (0, 0) = r
  refine loopV (ι := Nat × Int × Int) o38_ok [(16, [(4, false, false, [])])] (fun i => [(3, .ptr 0 0), (5, .ptr 1 0), (9, .int .i64 i.2.1), (10, .int .i64 i.2.2), (35, .sl (ps.map enSp.d)), (36, .int .i64 (ps.length : Int)), (37, .int .i64 (i.1 : Int))])
    (fun i => [(1, .box n.c), (0, .box (s.c gd))]) 2 (fun i => i.1 ≤ ps.length ∧ (0 ≤ i.2.2 ∧ i.2.2 ≤ 1441) ∧ r = bestG (cntS s gd n) (ps.drop i.1) i.1 i.2) (fun i => ps.length - i.1) (0, 0, 0) (by kernel_rfl) (by kernel_rfl) ⟨Nat.zero_le _, by simp, hr.symm⟩ ?_ ?_
  · simp [headW, heapW, envW, blkLt, D.ltL, D.lt, look, hget, lg]
  rintro ⟨i, b, m⟩ ⟨hi, hm, hri⟩
  dsimp only at hi hm hri ⊢
  rcases Nat.lt_or_ge i ps.length with hilt | hige
  rotate_left
  · have hc : ((i : Int) < (ps.length : Int)) = False := by simp; omega
    rw [List.drop_of_length_le hige] at hri
    simp only [bestG] at hri
    subst hri
    by_cases hz : m = 0
    · have hz2 : (m == 0) = true := by simpa using hz
      simp only [FS, ↓RE, okR, argEnv, Nat.reduceAdd, Nat.reduceSub, Nat.reduceLT, Nat.reduceLeDiff, Nat.reduceEqDiff, reduceIte, hc, decide_false, hz2]
      simp [hz]
    · have hz2 : (m == 0) = false := by simpa using hz
      simp only [FS, ↓RE, okR, argEnv, Nat.reduceAdd, Nat.reduceSub, Nat.reduceLT, Nat.reduceLeDiff, Nat.reduceEqDiff, reduceIte, hc, decide_false, hz2]
      simp [hz]
  have hc : ((i : Int) < (ps.length : Int)) = True := by simp [hilt]
  obtain ⟨p, hp⟩ : ∃ p, ps[i]? = some p := ⟨ps[i], by simp [hilt]⟩
  have hpo := hps p (List.mem_of_getElem? hp)
  have hix : ∀ hh, indexAddrD Tryz.prog hh 34 (.sl (ps.map enSp.d)) (.int .i64 (i : Int)) = some (.ref [.int .i64 p.x, .int .i64 p.y, .int .i64 p.way, .int .i64 p.cells] 0) := fun hh => En.ix (P := Tryz.prog) Fz.und_34 Fz.size_46 (En.sl_map (E := enSp) ps) hp hh .i64
  rw [drop_at hp] at hri
  simp only [bestG] at hri
  have hwi := wrap_i64 (z := (i : Int) + 1) (by omega) (by omega)
  simp only [FS, ↓RE, okR, argEnv, Nat.reduceAdd, Nat.reduceSub, Nat.reduceLT, Nat.reduceLeDiff, Nat.reduceEqDiff, reduceIte, hc, decide_true, hix]
  refine rangeV (α := Fin 1441) o38_ok [(16, [(4, false, false, [])])] (by kernel_rfl) (by kernel_rfl) (fun w => minutes_seq w) (by kernel_rfl) (fun _ => rfl) (fun R n x => relL_int R n .i64 _) rfl
    [(3, .ptr 0 0), (5, .ptr 1 0), (9, .int .i64 b), (10, .int .i64 m), (11, .int .i64 (i : Int)), (12, .ptr 2 0), (13, .ptr 3 0), (35, .sl (ps.map enSp.d)), (36, .int .i64 (ps.length : Int)), (37, .int .i64 (i : Int))]
    (fun xs => [(3, .box [.int .i64 (cntX (fun t => surelyB (lkT s gd n p t)) xs)]), (2, .box p.c), (1, .box n.c), (0, .box (s.c gd))]) 4 (fun _ => True) trivial rfl (fun _ => rfl) ?_ ?_ ?_
  · simp [headW, heapW, envW, blkLt, D.ltL, D.lt, look, hget, hset, lg, cntX]
  · intro l pre x _ hlen
    have hx := x.isLt
    have hlk : LkOk (lkT s gd n p x.val) := ⟨h, hs, hpo, hn, by simp only; omega⟩
    have hsu := surely_t (lkT s gd n p x.val) hlk
    have hcx := cntX_le (fun t => surelyB (lkT s gd n p t)) pre
    have hwc := wrap_i64 (z := cntX (fun t => surelyB (lkT s gd n p t)) pre + 1) (by omega) (by omega)
    have hsn := cntX_snoc (fun t => surelyB (lkT s gd n p t)) pre x
    simp only [FS, ↓RE, okR, argEnv, Nat.reduceAdd, Nat.reduceSub, Nat.reduceLT, Nat.reduceLeDiff, Nat.reduceEqDiff, reduceIte, vg, lg, cg, ms_nil, ms_assign, pe_cons, pe_nil, Array.toList, minD]
    refine call_of_pure hsu rfl ?_
    cases q : surelyB (lkT s gd n p x.val)
    · rw [q] at hsn
      simp only [FS, ↓RE, okR, argEnv, Nat.reduceAdd, Nat.reduceSub, Nat.reduceLT, Nat.reduceLeDiff, Nat.reduceEqDiff, reduceIte]
      simp [headW, heapW, envW, blkLt, D.ltL, D.lt, look, hget, lg, hsn]
    · rw [q] at hsn
      simp only [FS, ↓RE, okR, argEnv, Nat.reduceAdd, Nat.reduceSub, Nat.reduceLT, Nat.reduceLeDiff, Nat.reduceEqDiff, reduceIte, hwc]
      simp [headW, heapW, envW, blkLt, D.ltL, D.lt, look, hget, hset, lg, hsn]
  · intro xs hxs _
    subst hxs
    rw [cntX_all]
    have hcs : cntB (fun t => surelyB (lkT s gd n p t)) 1441 = cntS s gd n p := rfl
    rw [hcs]
    have hcb := cntS_b s gd n p
    by_cases q : m < cntS s gd n p
    · rw [if_pos q] at hri
      simp only [FS, ↓RE, okR, argEnv, Nat.reduceAdd, Nat.reduceSub, Nat.reduceLT, Nat.reduceLeDiff, Nat.reduceEqDiff, reduceIte, q, decide_true, hwi]
      exact ⟨(i + 1, (i : Int), cntS s gd n p), ⟨by simp only; omega, by simp only; omega, hri⟩, by simp only; omega, by simp [headW, heapW, envW, blkLt, D.ltL, D.lt, look, hget, lg]⟩
    · rw [if_neg q] at hri
      simp only [FS, ↓RE, okR, argEnv, Nat.reduceAdd, Nat.reduceSub, Nat.reduceLT, Nat.reduceLeDiff, Nat.reduceEqDiff, reduceIte, q, decide_false, hwi]
      exact ⟨(i + 1, b, m), ⟨by simp only; omega, hm, hri⟩, by simp only; omega, by simp [headW, heapW, envW, blkLt, D.ltL, D.lt, look, hget, lg]⟩
end Go.Sx
