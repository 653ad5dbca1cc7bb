/- Own work: contracts of functions, used in the proof of a law. -/
import Derived.Test.YtjhoplbdpdbgaaaGreatDoorSxC34z
set_option linter.unusedVariables false
set_option linter.unusedSimpArgs false
namespace Go.Sx
open Go.Proofs
set_option maxRecDepth 10000

/-! The reference: glares, boats, ends -/
theorem glare_eq {w g : Int} (hw : okWay w = true) (hg : okWay g = true) : decide (min (bFar g w) (8 - bFar g w) ≤ 1) = (decide ((g - w + 8).tmod 8 ≤ 1) || ((g - w + 8).tmod 8 == 7)) := by
  rcases way_cases hw with rfl | rfl | rfl | rfl | rfl | rfl | rfl | rfl <;> rcases way_cases hg with rfl | rfl | rfl | rfl | rfl | rfl | rfl | rfl <;> decide
theorem rclear_t (s : Se) (gd : D) (h : SeL s gd) (hs : okSe s = true) (p : Sp) (hp : okSp s p = true) (t : Int) : Pure Tryz.prog 80 [.agg (s.c gd), .agg p.c, .int .i64 t] (.bool (!(s.glares.any (blindG p.way t)))) := by
  have vg := fun hp => En.view h.gd hp
  have lg := En.lt h.gd
  have ng := fun hp => En.len (P := Tryz.prog) Fz.und_31 h.gd hp
  have hgL := h.glares
  refine pure_of_wc (rs := [.tmp 6]) (m := 42) [] o29_ok (by kernel_rfl) Tryz.func80 rfl (by kernel_rfl) rfl rfl (by kernel_rfl) ?_
  simp only [FS, ↓RE, okR, argEnv, Nat.reduceAdd, Nat.reduceSub, Nat.reduceLT, Nat.reduceLeDiff, Nat.reduceEqDiff, reduceIte]
  refine loopV (ι := Nat) o29_ok [] (fun i => [(2, .int .i64 t), (3, .ptr 0 0), (4, .ptr 1 0), (7, .int .i64 (i : Int))])
    (fun i => [(1, .box p.c), (0, .box (s.c gd))]) 2 (fun i => i ≤ s.glares.length ∧ (s.glares.take i).all (fun g => !blindG p.way t g) = true) (fun i => s.glares.length - i) 0 (by kernel_rfl) (by kernel_rfl) ⟨Nat.zero_le _, by simp⟩ ?_ ?_
  · simp [headW, heapW, envW, blkLt, D.ltL, D.lt, look, hget, lg]
  rintro i ⟨hi, hok⟩
  have hany : (!(s.glares.any (blindG p.way t))) = s.glares.all (fun g => !blindG p.way t g) := by rw [List.any_eq_not_all_not]; simp
  rcases Nat.lt_or_ge i s.glares.length with hlt | hge
  · have hc : ((i : Int) < (s.glares.length : Int)) = True := by simp [hlt]
    obtain ⟨g, hg⟩ : ∃ g, s.glares[i]? = some g := ⟨s.glares[i], by simp [hlt]⟩
    have hix := fun hp => En.ix (P := Tryz.prog) Fz.und_31 Fz.size_106 h.gd hg hp .i64
    have hgw := (okSe_gl hs g (List.mem_of_getElem? hg)).1
    have hge := glare_eq (okSp_ce hp).1 hgw
    obtain ⟨gw, ⟨t1, t2⟩⟩ := g
    dsimp only at hgw hge
    have hix2 : ∀ hp, indexAddrD Tryz.prog hp 31 gd (.int .i64 (i : Int)) = some (.ref [.int .i64 gw, .int .i64 t1, .int .i64 t2] 0) := hix
    have hwi := wrap_i64 (z := (i : Int) + 1) (by omega) (by omega)
    have hwy := (okSp_ce hp).1
    simp only [okWay, Bool.and_eq_true, decide_eq_true_eq] at hwy hgw
    have hf := gFar_eq (x := gw) (y := p.way) (by omega)
    have hfb : 0 ≤ bFar gw p.way ∧ bFar gw p.way ≤ 8 := by simp only [bFar]; omega
    have hw8 := wrap_i64 (z := 8 - bFar gw p.way) (by omega) (by omega)
    have hb : blindG p.way t ⟨gw, (t1, t2)⟩ = (decide (min (bFar gw p.way) (8 - bFar gw p.way) ≤ 1) && bIn t t1 t2) := by rw [hge]; rfl
    cases q1 : bIn t t1 t2
    · rw [q1, Bool.and_false] at hb
      simp only [FS, ↓RE, okR, argEnv, Nat.reduceAdd, Nat.reduceSub, Nat.reduceLT, Nat.reduceLeDiff, Nat.reduceEqDiff, reduceIte, ng, hc, decide_true, hix2, hf, gIn_eq, q1, hwi]
      exact ⟨i + 1, ⟨by omega, all_take hg hok (by rw [hb]; rfl)⟩, by omega, by simp [headW, heapW, envW, blkLt, D.ltL, D.lt, look, hget, lg]⟩
    cases q2 : decide (min (bFar gw p.way) (8 - bFar gw p.way) ≤ 1)
    · rw [q2, Bool.false_and] at hb
      simp only [FS, ↓RE, okR, argEnv, Nat.reduceAdd, Nat.reduceSub, Nat.reduceLT, Nat.reduceLeDiff, Nat.reduceEqDiff, reduceIte, ng, hc, decide_true, hix2, hf, gIn_eq, q1, hw8, q2, hwi]
      exact ⟨i + 1, ⟨by omega, all_take hg hok (by rw [hb]; rfl)⟩, by omega, by simp [headW, heapW, envW, blkLt, D.ltL, D.lt, look, hget, lg]⟩
    · rw [q1, q2] at hb
      simp only [FS, ↓RE, okR, argEnv, Nat.reduceAdd, Nat.reduceSub, Nat.reduceLT, Nat.reduceLeDiff, Nat.reduceEqDiff, reduceIte, ng, hc, decide_true, hix2, hf, gIn_eq, q1, hw8, q2]
      rw [hany, all_not hg (by rw [hb]; rfl)]
  have : i = s.glares.length := by omega
  subst this
  rw [List.take_length] at hok
  simp only [FS, ↓RE, okR, argEnv, Nat.reduceAdd, Nat.reduceSub, Nat.reduceLT, Nat.reduceLeDiff, Nat.reduceEqDiff, reduceIte, ng, Int.lt_irrefl, decide_false]
  rw [hany, hok]

theorem inWay_t (b : Bt) (x y : Int) : Pure Tryz.prog 125 [.agg (enBt.d b), .int .i64 x, .int .i64 y] (.bool (inW b x y)) := by
  simp only [enBt]
  refine pure_of_wc (rs := [.tmp 6]) (m := 25) [] o29_ok (by kernel_rfl) Tryz.func125 rfl (by kernel_rfl) rfl rfl (by kernel_rfl) ?_
  simp only [FS, ↓RE, okR, argEnv, Nat.reduceAdd, Nat.reduceSub, Nat.reduceLT, Nat.reduceLeDiff, Nat.reduceEqDiff, reduceIte, gIn_eq]
  cases h1 : bIn x b.x.1 b.x.2 <;> cases h2 : bIn y b.y.1 b.y.2 <;> simp [BR, inW, h1, h2]
def gIw : List D → Option D
  | [.agg [.int .i64 a, .int .i64 b, .int .i64 c, .int .i64 d, .int .i64 e, .int .i64 f, .bool s], .int .i64 x, .int .i64 y] => some (.bool (inW ⟨(a, b), (c, d), (e, f), s⟩ x y))
  | _ => none
theorem gIw_ok (ds : List D) (r : D) (h : gIw ds = some r) : Pure Tryz.prog 125 ds r := by
  unfold gIw at h
  split at h
  · cases h; exact inWay_t ⟨(_, _), (_, _), (_, _), _⟩ _ _
  · cases h
theorem gIw_eq (a b c d e f x y : Int) (s : Bool) : gIw [.agg [.int .i64 a, .int .i64 b, .int .i64 c, .int .i64 d, .int .i64 e, .int .i64 f, .bool s], .int .i64 x, .int .i64 y] = some (.bool (inW ⟨(a, b), (c, d), (e, f), s⟩ x y)) := (rfl)

def endD (w : Bool) (s : Se) : List Int := s.depths.map fun d => if w then d.1 else d.2
def endB (w : Bool) (s : Se) (t : Int) : List Bool := s.boats.map fun b => bIn t b.t.1 b.t.2 && (w || b.sure)
def bL (l : List Bool) : List (List D) := l.map fun x => [D.bool x]
theorem litD_bool {t e : TypeId} (hu : (Tryz.prog).underlying t = some (.slice e)) (hs : sizeT Tryz.prog e = some 1) {z : D} (hz : zeroD Tryz.prog e = some [z]) (h : H) (n : Bool) :
    litD Tryz.prog h t 1 [(0, .bool n)] = some (.sl [[.bool n]]) := litD_one hu hs hz h _ rfl rfl

theorem ends_t (s : Se) (gd : D) (h : SeL s gd) (hs : okSe s = true) (t : Int) (w : Bool) : Pure Tryz.prog 77 [.agg (s.c gd), .int .i64 t, .bool w] (.tup [.sl (iL (endD w s)), .sl (bL (endB w s t))]) := by
  have vg := fun hp => En.view h.gd hp
  have lg := En.lt h.gd
  have hdl := fun hp => En.len (P := Tryz.prog) Fz.und_22 (En.sl_map (E := enS) s.depths) hp
  have hbl := fun hp => En.len (P := Tryz.prog) Fz.und_30 (En.sl_map (E := enBt) s.boats) hp
  have hdb : s.depths.length ≤ 144 := by
    obtain ⟨h1, h2, h3⟩ := okSe_sz hs
    have : s.wide * s.deep ≤ 12 * 12 := Int.mul_le_mul h1.2 h2.2 (by omega) (by omega)
    omega
  have hbb : s.boats.length ≤ 12 := by
    simp only [okSe, Bool.and_eq_true, decide_eq_true_eq] at hs
    exact hs.2.1
  refine pure_of_wc (rs := [.tmp 6, .tmp 7]) (m := 80) [(12, [(31, false, false, [])])] o29_ok (by kernel_rfl) Tryz.func77 rfl (by kernel_rfl) rfl rfl (by kernel_rfl) ?_
  simp only [FS, ↓RE, okR, argEnv, Nat.reduceAdd, Nat.reduceSub, Nat.reduceLT, Nat.reduceLeDiff, Nat.reduceEqDiff, reduceIte]
  refine loopNil 8 3 1 rfl (loopNil 9 4 1 rfl ?_)
  refine loopV (ι := Nat) o29_ok [(12, [(31, false, false, [])])] (fun i => [(1, .int .i64 t), (2, .bool w), (3, .ptr 0 0), (8, .osl 1 i), (9, .osl 2 0), (10, .int .i64 (i : Int))])
    (fun i => [(2, .arr 4 1 []), (1, .arr 3 1 (iL ((endD w s).take i))), (0, .box (s.c gd))]) 3 (fun i => i ≤ s.depths.length) (fun i => s.depths.length - i) 0 (by kernel_rfl) (by kernel_rfl) (Nat.zero_le _) ?_ ?_
  · simp [headW, heapW, envW, blkLt, D.ltL, D.lt, look, hget, lg, eset_nil, eset_cons, iL]
  intro i hi
  have hel : (endD w s).length = s.depths.length := by simp [endD]
  rcases Nat.lt_or_ge i s.depths.length with hlt | hge
  · have hc : ((i : Int) < (s.depths.length : Int)) = True := by simp [hlt]
    obtain ⟨d, hd⟩ : ∃ d, s.depths[i]? = some d := ⟨s.depths[i], by simp [hlt]⟩
    have hix := fun hp => En.ix (P := Tryz.prog) Fz.und_22 Fz.size_70 (En.sl_map (E := enS) s.depths) hd hp .i64
    obtain ⟨d1, d2⟩ := d
    have hix2 : ∀ hp, indexAddrD Tryz.prog hp 22 (.sl (s.depths.map enS.d)) (.int .i64 (i : Int)) = some (.ref [.int .i64 d1, .int .i64 d2] 0) := hix
    have hwi := wrap_i64 (z := (i : Int) + 1) (by omega) (by omega)
    have htl : ((endD w s).take i).length = i := by rw [List.length_take, hel]; omega
    have hil : (iL ((endD w s).take i)).length = i := by rw [iL_length, htl]
    have hts : (endD w s).take (i + 1) = (endD w s).take i ++ [if w then d1 else d2] := by
      rw [List.take_add_one]
      simp [endD, hd]
    have ha := fun h x (hb : hget h 1 = some (.arr 3 1 (iL ((endD w s).take i)))) (hb2 : hget h 3 = some (.arr 3 1 [[.int .i64 x]])) => app_osl (P := Tryz.prog) Fz.und_62 Fz.size_3 Fz.zero_3 rfl (by omega) Fz.bytes_3_62 h 4 1 i 3 1 (es := iL ((endD w s).take i)) (xs := [[.int .i64 x]]) (ty2 := 3) (sz2 := 1) hb hil.symm hb2 rfl rfl (by rw [hil]; simp; omega) (by rw [hil]; simp; omega)
    cases w
    · have ha := fun h => ha h d2
      simp only [FS, ↓RE, okR, argEnv, Nat.reduceAdd, Nat.reduceSub, Nat.reduceLT, Nat.reduceLeDiff, Nat.reduceEqDiff, reduceIte, hdl, hc, decide_true, hix2, hwi, ha, hil]
      exact ⟨i + 1, by omega, by omega, by simp [headW, heapW, envW, blkLt, D.ltL, D.lt, look, hget, hset, lg, hts, iL]⟩
    · have ha := fun h => ha h d1
      simp only [FS, ↓RE, okR, argEnv, Nat.reduceAdd, Nat.reduceSub, Nat.reduceLT, Nat.reduceLeDiff, Nat.reduceEqDiff, reduceIte, hdl, hc, decide_true, hix2, hwi, ha, hil]
      exact ⟨i + 1, by omega, by omega, by simp [headW, heapW, envW, blkLt, D.ltL, D.lt, look, hget, hset, lg, hts, iL]⟩
  have : i = s.depths.length := by omega
  subst this
  rw [List.take_of_length_le (by omega)]
  simp only [FS, ↓RE, okR, argEnv, Nat.reduceAdd, Nat.reduceSub, Nat.reduceLT, Nat.reduceLeDiff, Nat.reduceEqDiff, reduceIte, hdl, Int.lt_irrefl, decide_false]
  refine loopV (ι := Nat) o29_ok [(12, [(31, false, false, [])])] (fun i => [(1, .int .i64 t), (2, .bool w), (3, .ptr 0 0), (8, .osl 1 s.depths.length), (9, .osl 2 i), (11, .int .i64 (i : Int))])
    (fun i => [(2, .arr 4 1 (bL ((endB w s t).take i))), (1, .arr 3 1 (iL (endD w s))), (0, .box (s.c gd))]) 3 (fun i => i ≤ s.boats.length) (fun i => s.boats.length - i) 0 (by kernel_rfl) (by kernel_rfl) (Nat.zero_le _) ?_ ?_
  · simp [headW, heapW, envW, blkLt, D.ltL, D.lt, look, hget, lg, bL]
  intro i hi
  have hel2 : (endB w s t).length = s.boats.length := by simp [endB]
  have hle : (iL (endD w s)).length = s.depths.length := by rw [iL_length, hel]
  rcases Nat.lt_or_ge i s.boats.length with hlt | hge
  · have hc : ((i : Int) < (s.boats.length : Int)) = True := by simp [hlt]
    obtain ⟨b, hb⟩ : ∃ b, s.boats[i]? = some b := ⟨s.boats[i], by simp [hlt]⟩
    have hix := fun hp => En.ix (P := Tryz.prog) Fz.und_30 Fz.size_72 (En.sl_map (E := enBt) s.boats) hb hp .i64
    obtain ⟨⟨x1, x2⟩, ⟨y1, y2⟩, ⟨t1, t2⟩, su⟩ := b
    have hix2 : ∀ hp, indexAddrD Tryz.prog hp 30 (.sl (s.boats.map enBt.d)) (.int .i64 (i : Int)) = some (.ref [.int .i64 x1, .int .i64 x2, .int .i64 y1, .int .i64 y2, .int .i64 t1, .int .i64 t2, .bool su] 0) := hix
    have hwi := wrap_i64 (z := (i : Int) + 1) (by omega) (by omega)
    have htl : (bL ((endB w s t).take i)).length = i := by simp only [bL, List.length_map, List.length_take, hel2]; omega
    have hts : (endB w s t).take (i + 1) = (endB w s t).take i ++ [bIn t t1 t2 && (w || su)] := by
      rw [List.take_add_one]
      simp [endB, hb]
    have ha := fun h nid x (hb : hget h 2 = some (.arr 4 1 (bL ((endB w s t).take i)))) => app_sl (P := Tryz.prog) (h := h) (nid := nid) Fz.und_63 Fz.size_4 Fz.zero_4 rfl (by omega) Fz.bytes_4_63 (b := 2) (n := i) (xs := [[.bool x]]) hb htl.symm rfl (by rw [htl]; simp; omega) (by rw [htl]; simp; omega)
    have hlt2 := fun h x => litD_bool Fz.und_63 Fz.size_4 Fz.zero_4 h x
    cases q : bIn t t1 t2 <;> cases w <;>
    · rw [q] at hts
      simp only [FS, ↓RE, okR, argEnv, Nat.reduceAdd, Nat.reduceSub, Nat.reduceLT, Nat.reduceLeDiff, Nat.reduceEqDiff, reduceIte, hbl, hc, decide_true, hix2, hwi, ha, hlt2, htl, gIn_eq, q, cur_osl, curC_arr]
      exact ⟨i + 1, by omega, by omega, by simp [headW, heapW, envW, blkLt, D.ltL, D.lt, look, hget, hset, lg, hts, bL]⟩
  have : i = s.boats.length := by omega
  subst this
  rw [List.take_of_length_le (by omega)]
  have hle2 : (bL (endB w s t)).length = s.boats.length := by simp only [bL, List.length_map, hel2]
  simp only [FS, ↓RE, okR, argEnv, Nat.reduceAdd, Nat.reduceSub, Nat.reduceLT, Nat.reduceLeDiff, Nat.reduceEqDiff, reduceIte, hbl, Int.lt_irrefl, decide_false, hle, hle2]
end Go.Sx
