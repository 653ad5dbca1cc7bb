/- Own work: a calculus of contracts for the programs of this kit: parts SxC61t, SxC64t, SxC40t, SxC41t. -/
import Derived.Test.YtaifjmjooapmhaaGreatSxTc
import Derived.Test.YtaifjmjooapmhaaGreatSxCw
set_option linter.unusedVariables false
set_option linter.unusedSimpArgs false
namespace Go.Sx
open Go.Proofs
set_option maxRecDepth 10000

structure Tr where
 minute : Int
 tide : Int
 east : Int
 north : Int
 wave : Int
 swell : Int
 depths : List Int
 boats : List Bool
abbrev Tr.c (t : Tr) : List D := [.int .i64 t.minute, .int .i64 t.tide, .int .i64 t.east, .int .i64 t.north, .int .i64 t.wave, .int .i64 t.swell, .sl (t.depths.map enI.d), .sl (t.boats.map enB.d)]
def okVal (x : Int) : Bool := bIn x (-100000) 100000
def okTr (s : Se) (t : Tr) : Bool := bIn t.minute 0 1440 && (okVal t.tide && (okVal t.east && (okVal t.north && (okVal t.wave && (okVal t.swell && (((t.depths.length : Int) == (s.depths.length : Int)) && (((t.boats.length : Int) == (s.boats.length : Int)) && t.depths.all okVal)))))))
abbrev trL (s : Se) (gd : D) (p : Sp) (n : Nd) (t : Tr) : Lk := ⟨s, gd, p, n, t.minute⟩
def inAt (g : Ga) (t x : Int) : Bool := bIn x (atL g t).1 (atL g t).2
def agBt (t : Int) (b : Bt) (th : Bool) : Bool := if th then bIn t b.t.1 b.t.2 else !(bIn t b.t.1 b.t.2 && b.sure)
def agB (s : Se) (t : Tr) : Bool := (inAt s.w.tide t.minute t.tide && (inAt s.w.east t.minute t.east && (inAt s.w.north t.minute t.north && (inAt s.w.wave t.minute t.wave && inAt s.w.swell t.minute t.swell)))) && ((s.depths.zip t.depths).all (fun q => bIn q.2 q.1.1 q.1.2) && (s.boats.zip t.boats).all fun q => agBt t.minute q.1 q.2)

structure TrOk (s : Se) (t : Tr) : Prop where
 minute : 0 ≤ t.minute ∧ t.minute ≤ 1440
 east : -100000 ≤ t.east ∧ t.east ≤ 100000
 north : -100000 ≤ t.north ∧ t.north ≤ 100000
 tide : -100000 ≤ t.tide ∧ t.tide ≤ 100000
 dl : t.depths.length = s.depths.length
 bl : t.boats.length = s.boats.length
 dv : ∀ x ∈ t.depths, -100000 ≤ x ∧ x ≤ 100000
theorem trOk {s : Se} {t : Tr} (h : okTr s t = true) : TrOk s t := by
 simp only [okTr, okVal, Bool.and_eq_true, beq_iff_eq, bIn, decide_eq_true_eq, List.all_eq_true] at h
 obtain ⟨h1, h2, h3, h4, h5, h6, h7, h8, h9⟩ := h
 exact ⟨h1, h3, h4, h2, by omega, by omega, h9⟩
structure AgOk (s : Se) (t : Tr) : Prop where
 tide : (atL s.w.tide t.minute).1 ≤ t.tide ∧ t.tide ≤ (atL s.w.tide t.minute).2
 east : (atL s.w.east t.minute).1 ≤ t.east ∧ t.east ≤ (atL s.w.east t.minute).2
 north : (atL s.w.north t.minute).1 ≤ t.north ∧ t.north ≤ (atL s.w.north t.minute).2
 wave : (atL s.w.wave t.minute).1 ≤ t.wave ∧ t.wave ≤ (atL s.w.wave t.minute).2
 swell : (atL s.w.swell t.minute).1 ≤ t.swell ∧ t.swell ≤ (atL s.w.swell t.minute).2
 depth : ∀ (i : Nat) (d : Int × Int) (x : Int), s.depths[i]? = some d → t.depths[i]? = some x → d.1 ≤ x ∧ x ≤ d.2
 boat : ∀ (i : Nat) (b : Bt) (x : Bool), s.boats[i]? = some b → t.boats[i]? = some x → agBt t.minute b x = true
theorem agOk {s : Se} {t : Tr} (h : agB s t = true) : AgOk s t := by
 simp only [agB, inAt, Bool.and_eq_true, bIn, decide_eq_true_eq, List.all_eq_true] at h
 obtain ⟨⟨h1, h2, h3, h4, h5⟩, h6, h7⟩ := h
 refine ⟨h1, h2, h3, h4, h5, fun i d x hd hx => ?_, fun i b x hb hx => ?_⟩
 ·exact h6 (d, x) (List.mem_of_getElem? (i := i) (by rw [List.getElem?_zip_eq_some]; exact ⟨hd, hx⟩))
 ·exact h7 (b, x) (List.mem_of_getElem? (i := i) (by rw [List.getElem?_zip_eq_some]; exact ⟨hb, hx⟩))

section
variable {s : Se} {gd : D} {p : Sp} {n : Nd} {t : Tr}
theorem tr_boat (ht : TrOk s t) (ha : AgOk s t) (i : Nat) : (bAt t.boats i = true → passB (trL s gd p n t) i = true) ∧ (sureB (trL s gd p n t) i = true → bAt t.boats i = true) := by
 simp only [bAt, sureB, passB, List.getD_eq_getElem?_getD]
 cases hb : s.boats[i]? with
 | none =>
  have : t.boats[i]? = none := by
   rw [List.getElem?_eq_none_iff] at hb ⊢
   rw [ht.bl]; exact hb
  simp [this]
 | some b =>
  have hlt : i < t.boats.length := by rw [ht.bl]; exact (List.getElem?_eq_some_iff.1 hb).1
  have hx : t.boats[i]? = some t.boats[i] := by simp [hlt]
  have := ha.boat i b _ hb hx
  rw [hx]
  generalize t.boats[i] = x at this
  cases x <;> simp_all [agBt]
  intro hh
  rcases this with q | q
  ·exact q
  ·rw [hh] at q; cases q
end
end Go.Sx

namespace Go.Sx
open Go.Proofs
set_option maxRecDepth 10000

def allT (t : Tr) : List Int := t.tide :: t.east :: t.north :: t.wave :: t.swell :: t.depths
theorem okTr_all (s : Se) (t : Tr) : okTr s t = ((allT t).all okVal && (bIn t.minute 0 1440 && (((t.depths.length : Int) == (s.depths.length : Int)) && ((t.boats.length : Int) == (s.boats.length : Int))))) := by
 have key : ∀ a b c d e f g h i : Bool, (a && (b && (c && (d && (e && (f && (g && (h && i)))))))) = ((b && (c && (d && (e && (f && i))))) && (a && (g && h))) := by decide
 simp only [okTr, allT, List.all_cons]
 exact key _ _ _ _ _ _ _ _ _
theorem okSrc_int (l : List Int) : okSrc 1 (l.map enI.d) = true := by simp [okSrc, enI, D.ltL, D.lt, oneD]
theorem rTruth_t (s : Se) (gd : D) (h : SeL s gd) (t : Tr) (hd : t.depths.length ≤ 200) : Pure Tryz.prog 5 [.agg (s.c gd), .agg t.c] (.bool (okTr s t)) := by
 have vg := fun hp => En.view h.gd hp
 have lg := En.lt h.gd
 have cg := fun hp => En.cur h.gd hp
 have l1 := fun hp => En.len (P := Tryz.prog) Fz.und_34 (En.sl_map (E := enI) t.depths) hp
 have l2 := fun hp => En.len (P := Tryz.prog) Fz.und_22 (En.sl_map (E := enS) s.depths) hp
 have l3 := fun hp => En.len (P := Tryz.prog) Fz.und_35 (En.sl_map (E := enB) t.boats) hp
 have l4 := fun hp => En.len (P := Tryz.prog) Fz.und_30 (En.sl_map (E := enBt) s.boats) hp
 have l5 := fun hp => En.len (P := Tryz.prog) Fz.und_34 (En.sl_map (E := enI) (allT t)) hp
 refine pure_of_wc (rs := [.tmp 4]) (m := 55) [] o42_ok (by kernel_rfl) Tryz.func5 rfl (by kernel_rfl) rfl rfl (by kernel_rfl) ?_
 have hlit : ∀ (h : H) (nid : Nat), litOpD Tryz.prog h nid 34 5 [(0, .int .i64 t.tide), (1, .int .i64 t.east), (2, .int .i64 t.north), (3, .int .i64 t.wave), (4, .int .i64 t.swell)] = some (.osl nid 5, (nid, .arr 3 1 [[.int .i64 t.tide], [.int .i64 t.east], [.int .i64 t.north], [.int .i64 t.wave], [.int .i64 t.swell]]) :: h, nid + 1) := by
  intro h nid
  kernel_rfl
 have ha := fun h nid (hb : hget h 2 = some (.arr 3 1 [[.int .i64 t.tide], [.int .i64 t.east], [.int .i64 t.north], [.int .i64 t.wave], [.int .i64 t.swell]])) => app_sl (P := Tryz.prog) (h := h) (nid := nid) Fz.und_34 Fz.size_3 Fz.zero_3 rfl (by omega) Fz.bytes_3_34 (b := 2) (n := 5) (xs := t.depths.map enI.d) hb rfl (okSrc_int _) (by simp; omega) (by simp; omega)
 simp only [FS, ↓RE, okR, argEnv, Nat.reduceAdd, Nat.reduceSub, Nat.reduceLT, Nat.reduceLeDiff, Nat.reduceEqDiff, reduceIte, hlit, ha]
 refine loopW (ι := Nat) o42_ok [] (fun i => [(2, .ref (s.c gd) 0), (3, .ref t.c 0), (5, .sl ((allT t).map enI.d)), (6, .int .i64 (i : Int))])
  (fun i => []) 3 (fun i => i ≤ (allT t).length ∧ ((allT t).take i).all okVal = true) (fun i => (allT t).length - i) 0 (by kernel_rfl) (by kernel_rfl) ⟨Nat.zero_le _, rfl⟩ ?_ ?_
 ·refine imp_view ?_
  simp [headW, heapW, envW, blkLt, D.ltL, D.lt, look, hget, hset, view, viewL, lg, vg, allT, enI]
  omega
 rintro i ⟨hi, hok⟩
 have hal : (allT t).length = t.depths.length + 5 := rfl
 rcases Nat.lt_or_ge i (allT t).length with hlt | hge
 ·have hc : ((i : Int) < ((allT t).length : Int)) = True := by simp [hlt]
  obtain ⟨x, hx⟩ : ∃ x, (allT t)[i]? = some x := ⟨(allT t)[i], by simp [hlt]⟩
  have hix : ∀ hp, indexAddrD Tryz.prog hp 34 (.sl ((allT t).map enI.d)) (.int .i64 (i : Int)) = some (.ref [.int .i64 x] 0) := fun hp => En.ix (P := Tryz.prog) Fz.und_34 Fz.size_3 (En.sl_map (E := enI) (allT t)) hx hp .i64
  have hw := wrap_i64 (z := (i : Int) + 1) (by omega) (by omega)
  have hv : okVal x = bIn x (-100000) 100000 := rfl
  cases q : bIn x (-100000) 100000
  ·simp only [FS, ↓RE, okR, argEnv, Nat.reduceAdd, Nat.reduceSub, Nat.reduceLT, Nat.reduceLeDiff, Nat.reduceEqDiff, reduceIte, l5, hc, decide_true, hix, gIn_eq, q]
   rw [okTr_all, all_not hx (by rw [hv, q])]; rfl
  ·simp only [FS, ↓RE, okR, argEnv, Nat.reduceAdd, Nat.reduceSub, Nat.reduceLT, Nat.reduceLeDiff, Nat.reduceEqDiff, reduceIte, l5, hc, decide_true, hix, gIn_eq, q, hw]
   exact ⟨i + 1, ⟨by omega, all_take hx hok (by rw [hv, q])⟩, by omega, imp_head (by simp [headW, heapW, envW, blkLt, D.ltL, D.lt, look, hget, lg])⟩
 have hc : ((i : Int) < ((allT t).length : Int)) = False := by simp; omega
 rw [List.take_of_length_le hge] at hok
 rw [okTr_all, hok]
 cases q1 : bIn t.minute 0 1440
 ·simp only [FS, ↓RE, okR, argEnv, Nat.reduceAdd, Nat.reduceSub, Nat.reduceLT, Nat.reduceLeDiff, Nat.reduceEqDiff, reduceIte, l5, hc, decide_false, gIn_eq, q1]
  rfl
 cases q2 : ((t.depths.length : Int) == (s.depths.length : Int))
 ·simp only [FS, ↓RE, okR, argEnv, Nat.reduceAdd, Nat.reduceSub, Nat.reduceLT, Nat.reduceLeDiff, Nat.reduceEqDiff, reduceIte, l5, hc, decide_false, gIn_eq, q1, l1, l2, q2]
  rfl
 simp only [FS, ↓RE, okR, argEnv, Nat.reduceAdd, Nat.reduceSub, Nat.reduceLT, Nat.reduceLeDiff, Nat.reduceEqDiff, reduceIte, l5, hc, decide_false, gIn_eq, q1, l1, l2, q2, l3, l4]
 simp

def valsT (t : Tr) : List Int := [t.tide, t.east, t.north, t.wave, t.swell]
def agG (s : Se) (t : Tr) (i : Nat) : Bool := match (wxL s.w)[i]?, (valsT t)[i]? with
 | some g, some x => inAt g t.minute x
 | _, _ => true
theorem agB_all (s : Se) (t : Tr) : agB s t = ((List.range 5).all (agG s t) && ((s.depths.zip t.depths).all (fun q => bIn q.2 q.1.1 q.1.2) && (s.boats.zip t.boats).all fun q => agBt t.minute q.1 q.2)) := by
 have : (List.range 5).all (agG s t) = (inAt s.w.tide t.minute t.tide && (inAt s.w.east t.minute t.east && (inAt s.w.north t.minute t.north && (inAt s.w.wave t.minute t.wave && inAt s.w.swell t.minute t.swell)))) := by
  simp [List.range_succ, agG, wxL, valsT, List.all_append, Bool.and_assoc]
 rw [this]; rfl
theorem zip_at {α β : Type} {l : List α} {r : List β} {i : Nat} {a : α} {b : β} (ha : l[i]? = some a) (hb : r[i]? = some b) : (l.zip r)[i]? = some (a, b) := by
 rw [List.getElem?_zip_eq_some]; exact ⟨ha, hb⟩
theorem rAgrees_t (s : Se) (gd : D) (h : SeL s gd) (hs : okSe s = true) (t : Tr) (ht : TrOk s t) : Pure Tryz.prog 6 [.agg (s.c gd), .agg t.c] (.bool (agB s t)) := by
 have vg := fun hp => En.view h.gd hp
 have lg := En.lt h.gd
 have cg := fun hp => En.cur h.gd hp
 have hw := okWx_gaOk (okSe_wx hs)
 have hdl : t.depths.length ≤ 144 := by
  rw [ht.dl]
  obtain ⟨h1, h2, h3⟩ := okSe_sz hs
  have : s.wide * s.deep ≤ 12 * 12 := Int.mul_le_mul h1.2 h2.2 (by omega) (by omega)
  omega
 have hbl : t.boats.length ≤ 12 := by
  rw [ht.bl]
  simp only [okSe, Bool.and_eq_true, decide_eq_true_eq] at hs
  exact hs.2.1
 have l1 := fun hp => En.len (P := Tryz.prog) Fz.und_34 (En.sl_map (E := enI) t.depths) hp
 have l3 := fun hp => En.len (P := Tryz.prog) Fz.und_35 (En.sl_map (E := enB) t.boats) hp
 have l6 : ∀ hp, lenOpD Tryz.prog hp 58 (.sl ((wxL s.w).map enGa.d)) = some (.int .i64 5) := fun hp => En.len (P := Tryz.prog) Fz.und_58 (En.sl_map (E := enGa) (wxL s.w)) hp
 refine pure_of_wc (rs := [.tmp 4]) (m := 142) [(6, [(8, true, false, []), (1, false, false, [])]), (7, [(10, false, false, [])]), (12, [(21, false, false, [])]), (17, [(18, false, false, [])])] o42_ok (by kernel_rfl) Tryz.func6 rfl (by kernel_rfl) rfl rfl (by kernel_rfl) ?_
 have hlit : ∀ (h : H) (nid : Nat), litOpD Tryz.prog h nid 58 5 [(0, .agg s.w.tide.d), (1, .agg s.w.east.d), (2, .agg s.w.north.d), (3, .agg s.w.wave.d), (4, .agg s.w.swell.d)] = some (.osl nid 5, (nid, .arr 27 4 ((wxL s.w).map Ga.d)) :: h, nid + 1) := by
  intro h nid
  kernel_rfl
 have hlit2 : ∀ (h : H) (nid : Nat), litOpD Tryz.prog h nid 34 5 [(0, .int .i64 t.tide), (1, .int .i64 t.east), (2, .int .i64 t.north), (3, .int .i64 t.wave), (4, .int .i64 t.swell)] = some (.osl nid 5, (nid, .arr 3 1 [[.int .i64 t.tide], [.int .i64 t.east], [.int .i64 t.north], [.int .i64 t.wave], [.int .i64 t.swell]]) :: h, nid + 1) := by
  intro h nid
  kernel_rfl
 simp only [Ga.d, gaC] at hlit
 simp only [FS, ↓RE, okR, argEnv, Nat.reduceAdd, Nat.reduceSub, Nat.reduceLT, Nat.reduceLeDiff, Nat.reduceEqDiff, reduceIte, hlit, hlit2]
 refine loopW (ι := Nat) o42_ok [(6, [(8, true, false, []), (1, false, false, [])]), (7, [(10, false, false, [])]), (12, [(21, false, false, [])]), (17, [(18, false, false, [])])] (fun i => [(2, .ref (s.c gd) 0), (3, .ref t.c 0), (5, .sl ((wxL s.w).map enGa.d)), (6, .sl ((valsT t).map enI.d)), (7, .int .i64 (i : Int))])
  (fun i => []) 4 (fun i => i ≤ 5 ∧ ((List.range i).all (agG s t)) = true) (fun i => 5 - i) 0 (by kernel_rfl) (by kernel_rfl) ⟨Nat.zero_le _, rfl⟩ ?_ ?_
 ·refine imp_view ?_
  simp [headW, heapW, envW, blkLt, D.ltL, D.lt, look, hget, hset, view, viewL, lg, vg, wxL, valsT, enGa, enI, Ga.d]
 rintro i ⟨hi, hok⟩
 rcases Nat.lt_or_ge i 5 with hlt | hge
 ·obtain ⟨g, hga, hgj⟩ : ∃ g : Ga, gaOk g = true ∧ (wxL s.w)[i]? = some g := by
   have h5 : i = 0 ∨ i = 1 ∨ i = 2 ∨ i = 3 ∨ i = 4 := by omega
   rcases h5 with rfl | rfl | rfl | rfl | rfl
   ·exact ⟨s.w.tide, hw.tide, rfl⟩
   ·exact ⟨s.w.east, hw.east, rfl⟩
   ·exact ⟨s.w.north, hw.north, rfl⟩
   ·exact ⟨s.w.wave, hw.wave, rfl⟩
   ·exact ⟨s.w.swell, hw.swell, rfl⟩
  obtain ⟨x, hx⟩ : ∃ x, (valsT t)[i]? = some x := ⟨(valsT t)[i]'(by simp [valsT]; omega), by simp⟩
  have hag : agG s t i = bIn x (atL g t.minute).1 (atL g t.minute).2 := by simp only [agG, hgj, hx, inAt]
  have hix := fun hp => En.ix (P := Tryz.prog) Fz.und_58 Fz.size_27 (En.sl_map (E := enGa) (wxL s.w)) hgj hp .i64
  have hix1 : ∀ hp, indexAddrD Tryz.prog hp 34 (.sl ((valsT t).map enI.d)) (.int .i64 (i : Int)) = some (.ref [.int .i64 x] 0) := fun hp => En.ix (P := Tryz.prog) Fz.und_34 Fz.size_3 (En.sl_map (E := enI) (valsT t)) hx hp .i64
  have hat := gAtL g t.minute ⟨hga, ht.minute⟩
  have hc : ((i : Int) < 5) = True := by simp; omega
  have hwi := wrap_i64 (z := (i : Int) + 1) (by omega) (by omega)
  obtain ⟨a, b, c, rs⟩ := g
  have hix2 : ∀ hp, indexAddrD Tryz.prog hp 58 (.sl ((wxL s.w).map enGa.d)) (.int .i64 (i : Int)) = some (.ref [.int .i64 a, .int .i64 b, .int .i64 c, .sl (rs.map Rd.d)] 0) := hix
  cases q : bIn x (atL ⟨a, b, c, rs⟩ t.minute).1 (atL ⟨a, b, c, rs⟩ t.minute).2
  ·simp only [FS, ↓RE, okR, argEnv, Nat.reduceAdd, Nat.reduceSub, Nat.reduceLT, Nat.reduceLeDiff, Nat.reduceEqDiff, reduceIte, l6, hc, decide_true, hix2, hix1, hat, gIn_eq, q]
   rw [agB_all, range_all_not hlt (by rw [hag, q])]; rfl
  ·simp only [FS, ↓RE, okR, argEnv, Nat.reduceAdd, Nat.reduceSub, Nat.reduceLT, Nat.reduceLeDiff, Nat.reduceEqDiff, reduceIte, l6, hc, decide_true, hix2, hix1, hat, gIn_eq, q, hwi]
   exact ⟨i + 1, ⟨by omega, range_all_succ hok (by rw [hag, q])⟩, by omega, imp_head (by simp [headW, heapW, envW, blkLt, D.ltL, D.lt, look, hget, lg])⟩
 have : i = 5 := by omega
 subst this
 have hrest : agB s t = ((s.depths.zip t.depths).all (fun q => bIn q.2 q.1.1 q.1.2) && (s.boats.zip t.boats).all fun q => agBt t.minute q.1 q.2) := by rw [agB_all, hok]; rfl
 rw [hrest]
 simp only [FS, ↓RE, okR, argEnv, Nat.reduceAdd, Nat.reduceSub, Nat.reduceLT, Nat.reduceLeDiff, Nat.reduceEqDiff, reduceIte, l6, Int.cast_ofNat_Int, Int.lt_irrefl, decide_false]
 refine loopV (ι := Nat) o42_ok [(6, [(8, true, false, []), (1, false, false, [])]), (7, [(10, false, false, [])]), (12, [(21, false, false, [])]), (17, [(18, false, false, [])])] (fun i => [(2, .ref (s.c gd) 0), (3, .ref t.c 0), (9, .int .i64 (i : Int))])
  (fun i => []) 4 (fun i => i ≤ t.depths.length ∧ ((s.depths.zip t.depths).take i).all (fun q => bIn q.2 q.1.1 q.1.2) = true) (fun i => t.depths.length - i) 0 (by kernel_rfl) (by kernel_rfl) ⟨Nat.zero_le _, rfl⟩ ?_ ?_
 ·simp [headW, heapW, envW, blkLt, D.ltL, D.lt, look, hget, lg]
 rintro i ⟨hi, hok1⟩
 rcases Nat.lt_or_ge i t.depths.length with hlt | hge
 ·have hc : ((i : Int) < (t.depths.length : Int)) = True := by simp [hlt]
  obtain ⟨x, hx⟩ : ∃ x, t.depths[i]? = some x := ⟨t.depths[i], by simp [hlt]⟩
  obtain ⟨⟨d1, d2⟩, hd⟩ : ∃ d, s.depths[i]? = some d := ⟨s.depths[i]'(by rw [← ht.dl]; exact hlt), by rw [List.getElem?_eq_getElem]⟩
  have hz := zip_at hd hx
  have hix1 : ∀ hp, indexAddrD Tryz.prog hp 34 (.sl (t.depths.map enI.d)) (.int .i64 (i : Int)) = some (.ref [.int .i64 x] 0) := fun hp => En.ix (P := Tryz.prog) Fz.und_34 Fz.size_3 (En.sl_map (E := enI) t.depths) hx hp .i64
  have hix2 : ∀ hp, indexAddrD Tryz.prog hp 22 (.sl (s.depths.map enS.d)) (.int .i64 (i : Int)) = some (.ref [.int .i64 d1, .int .i64 d2] 0) := fun hp => En.ix (P := Tryz.prog) Fz.und_22 Fz.size_52 (En.sl_map (E := enS) s.depths) hd hp .i64
  have hwi := wrap_i64 (z := (i : Int) + 1) (by omega) (by omega)
  cases q : bIn x d1 d2
  ·simp only [FS, ↓RE, okR, argEnv, Nat.reduceAdd, Nat.reduceSub, Nat.reduceLT, Nat.reduceLeDiff, Nat.reduceEqDiff, reduceIte, l1, hc, decide_true, hix2, hix1, gIn_eq, q]
   rw [all_not hz q]; rfl
  ·simp only [FS, ↓RE, okR, argEnv, Nat.reduceAdd, Nat.reduceSub, Nat.reduceLT, Nat.reduceLeDiff, Nat.reduceEqDiff, reduceIte, l1, hc, decide_true, hix2, hix1, gIn_eq, q, hwi]
   exact ⟨i + 1, ⟨by omega, all_take hz hok1 q⟩, by omega, by simp [headW, heapW, envW, blkLt, D.ltL, D.lt, look, hget, lg]⟩
 have : i = t.depths.length := by omega
 subst this
 rw [List.take_of_length_le (by rw [List.length_zip]; omega)] at hok1
 rw [hok1, Bool.true_and]
 simp only [FS, ↓RE, okR, argEnv, Nat.reduceAdd, Nat.reduceSub, Nat.reduceLT, Nat.reduceLeDiff, Nat.reduceEqDiff, reduceIte, l1, Int.lt_irrefl, decide_false]
 refine loopV (ι := Nat) o42_ok [(6, [(8, true, false, []), (1, false, false, [])]), (7, [(10, false, false, [])]), (12, [(21, false, false, [])]), (17, [(18, false, false, [])])] (fun i => [(2, .ref (s.c gd) 0), (3, .ref t.c 0), (10, .int .i64 (i : Int))])
  (fun i => []) 4 (fun i => i ≤ t.boats.length ∧ ((s.boats.zip t.boats).take i).all (fun q => agBt t.minute q.1 q.2) = true) (fun i => t.boats.length - i) 0 (by kernel_rfl) (by kernel_rfl) ⟨Nat.zero_le _, rfl⟩ ?_ ?_
 ·simp [headW, heapW, envW, blkLt, D.ltL, D.lt, look, hget, lg]
 rintro i ⟨hi, hok2⟩
 rcases Nat.lt_or_ge i t.boats.length with hlt | hge
 ·have hc : ((i : Int) < (t.boats.length : Int)) = True := by simp [hlt]
  obtain ⟨x, hx⟩ : ∃ x, t.boats[i]? = some x := ⟨t.boats[i], by simp [hlt]⟩
  obtain ⟨⟨⟨bx1, bx2⟩, ⟨by1, by2⟩, ⟨bt1, bt2⟩, su⟩, hb⟩ : ∃ d, s.boats[i]? = some d := ⟨s.boats[i]'(by rw [← ht.bl]; exact hlt), by rw [List.getElem?_eq_getElem]⟩
  have hz := zip_at hb hx
  have hix1 : ∀ hp, indexAddrD Tryz.prog hp 35 (.sl (t.boats.map enB.d)) (.int .i64 (i : Int)) = some (.ref [.bool x] 0) := fun hp => En.ix (P := Tryz.prog) Fz.und_35 Fz.size_4 (En.sl_map (E := enB) t.boats) hx hp .i64
  have hix2 : ∀ hp, indexAddrD Tryz.prog hp 30 (.sl (s.boats.map enBt.d)) (.int .i64 (i : Int)) = some (.ref [.int .i64 bx1, .int .i64 bx2, .int .i64 by1, .int .i64 by2, .int .i64 bt1, .int .i64 bt2, .bool su] 0) := fun hp => En.ix (P := Tryz.prog) Fz.und_30 Fz.size_54 (En.sl_map (E := enBt) s.boats) hb hp .i64
  have hwi := wrap_i64 (z := (i : Int) + 1) (by omega) (by omega)
  have hgo : agBt t.minute ⟨(bx1, bx2), (by1, by2), (bt1, bt2), su⟩ x = (if x then bIn t.minute bt1 bt2 else !(bIn t.minute bt1 bt2 && su)) := rfl
  cases q : bIn t.minute bt1 bt2 <;> cases x <;> cases su <;>
  ·rw [q] at hgo
   simp only [FS, ↓RE, okR, argEnv, Nat.reduceAdd, Nat.reduceSub, Nat.reduceLT, Nat.reduceLeDiff, Nat.reduceEqDiff, reduceIte, l3, hc, decide_true, hix2, hix1, gIn_eq, q, hwi]
   first
    | exact ⟨i + 1, ⟨by omega, all_take hz hok2 (by rw [hgo]; rfl)⟩, by omega, by simp [headW, heapW, envW, blkLt, D.ltL, D.lt, look, hget, lg]⟩
    | (rw [all_not hz (by rw [hgo]; rfl)])
 have : i = t.boats.length := by omega
 subst this
 rw [List.take_of_length_le (by rw [List.length_zip]; omega)] at hok2
 simp only [FS, ↓RE, okR, argEnv, Nat.reduceAdd, Nat.reduceSub, Nat.reduceLT, Nat.reduceLeDiff, Nat.reduceEqDiff, reduceIte, l3, Int.lt_irrefl, decide_false]
 rw [hok2]
end Go.Sx

namespace Go.Sx
open Go.Proofs
set_option maxRecDepth 10000

theorem tyBt {n : Nat} {ds : List D} (h : TyD Tryz.prog n 54 ds) : ∃ b : Bt, ds = enBt.d b := by
 obtain ⟨hl, m, hf⟩ := tySt Tryz.underlying54 (by decide +kernel) h
 obtain ⟨a, b, c, d, e, f, g, rfl⟩ : ∃ a b c d e f g, ds = [a, b, c, d, e, f, g] := by
  match ds, hl.trans (by kernel_rfl : _ = 7) with
  | [a, b, c, d, e, f, g], _ => exact ⟨a, b, c, d, e, f, g, rfl⟩
 obtain ⟨x1, x2, hx⟩ := tySpan (hf 0 _ rfl)
 obtain ⟨y1, y2, hy⟩ := tySpan (hf 1 _ rfl)
 obtain ⟨z1, z2, hz⟩ := tySpan (hf 2 _ rfl)
 obtain ⟨s, hs⟩ := tyBool Fz.und_4 (hf 3 _ rfl)
 cases hx; cases hy; cases hz; cases hs
 exact ⟨⟨(x1, x2), (y1, y2), (z1, z2), s⟩, rfl⟩
theorem tyGl {n : Nat} {ds : List D} (h : TyD Tryz.prog n 111 ds) : ∃ b : Gl, ds = enGl.d b := by
 obtain ⟨hl, m, hf⟩ := tySt Tryz.underlying111 (by decide +kernel) h
 obtain ⟨a, b, c, rfl⟩ := list3 (hl.trans (by kernel_rfl))
 obtain ⟨x, hx, _⟩ := tyInt Fz.und_46 (hf 0 _ rfl)
 obtain ⟨z1, z2, hz⟩ := tySpan (hf 1 _ rfl)
 cases hx; cases hz
 exact ⟨⟨x, (z1, z2)⟩, rfl⟩
theorem tyEn {α : Type} {E : En α} {n : Nat} {t e : TypeId} {ds : List D} (hu : (Tryz.prog).underlying t = some (.slice e)) (hz : (Tryz.prog).cellsOf e ≠ 0) (he : ∀ m c, TyD Tryz.prog m e c → ∃ a, c = E.d a) (h : TyD Tryz.prog n t ds) : ∃ l : List α, ds = [.sl (l.map E.d)] ∧ l.length ≤ 9223372036854775807 := by
 obtain ⟨es, m, hs, hle, hc⟩ := tySl hu hz h
 obtain ⟨l, rfl⟩ := list_map (f := E.d) fun c hcm => he m c (hc c hcm).2
 have : maxLen ≤ 9223372036854775807 := by decide
 simp at hle
 exact ⟨l, hs, Nat.le_trans hle this⟩
theorem tySpan' {n : Nat} {ds : List D} (h : TyD Tryz.prog n 52 ds) : ∃ a, ds = enS.d a := by
 obtain ⟨a, b, h⟩ := tySpan h
 exact ⟨(a, b), h⟩
end Go.Sx

namespace Go.Sx
open Go.Proofs
set_option maxRecDepth 10000

theorem cutAt {α : Type} {l : List α} {o n : Nat} {a : List α} (h : (l.drop o).take n = a) : l.drop o = a ++ l.drop (o + n) := by
 rw [← h, ← List.drop_drop, List.take_append_drop]
theorem tyWx {n : Nat} {ds : List D} (h : TyD Tryz.prog n 29 ds) : ∃ w : Wx, ds = w.c [] ∧ WxL w := by
 obtain ⟨hl, m, hf⟩ := tySt Tryz.underlying29 (by decide +kernel) h
 have hl : ds.length = 20 := hl.trans (by kernel_rfl)
 obtain ⟨g1, h1, l1⟩ := tyGa (hf 0 _ rfl)
 obtain ⟨g2, h2, l2⟩ := tyGa (hf 1 _ rfl)
 obtain ⟨g3, h3, l3⟩ := tyGa (hf 2 _ rfl)
 obtain ⟨g4, h4, l4⟩ := tyGa (hf 3 _ rfl)
 obtain ⟨g5, h5, l5⟩ := tyGa (hf 4 _ rfl)
 refine ⟨⟨g1, g2, g3, g4, g5⟩, ?_, ⟨l1, l2, l3, l4, l5⟩⟩
 have e0 : ds = ds.drop 0 := rfl
 have e1 : ds.drop 0 = g1.c ++ ds.drop 4 := cutAt h1
 have e2 : ds.drop 4 = g2.c ++ ds.drop 8 := cutAt h2
 have e3 : ds.drop 8 = g3.c ++ ds.drop 12 := cutAt h3
 have e4 : ds.drop 12 = g4.c ++ ds.drop 16 := cutAt h4
 have e5 : ds.drop 16 = g5.c ++ ds.drop 20 := cutAt h5
 have e6 : ds.drop 20 = [] := List.drop_of_length_le (by omega)
 rw [e0, e1, e2, e3, e4, e5, e6]
 rfl
theorem tySe {n : Nat} {ds : List D} (h : TyD Tryz.prog n 33 ds) : ∃ s : Se, ds = s.c (.sl (s.glares.map enGl.d)) ∧ SeL s (.sl (s.glares.map enGl.d)) := by
 obtain ⟨hl, m, hf⟩ := tySt Tryz.underlying33 (by decide +kernel) h
 have hl : ds.length = 25 := hl.trans (by kernel_rfl)
 have hc := hf 0 _ rfl
 obtain ⟨w, h2, hw⟩ := tyWx (hf 1 _ rfl)
 obtain ⟨bs, h3, hb⟩ := tyEn (E := enBt) Fz.und_30 (by decide +kernel) (fun m c h => tyBt h) (hf 2 _ rfl)
 obtain ⟨gs, h4, hg⟩ := tyEn (E := enGl) Fz.und_31 (by decide +kernel) (fun m c h => tyGl h) (hf 3 _ rfl)
 obtain ⟨hl2, m2, hf2⟩ := tySt Tryz.underlying24 (by decide +kernel) hc
 obtain ⟨x, h5, _⟩ := tyInt Fz.und_3 (hf2 0 _ rfl)
 obtain ⟨y, h6, _⟩ := tyInt Fz.und_3 (hf2 1 _ rfl)
 obtain ⟨dp, h7, hd⟩ := tyEn (E := enS) Fz.und_22 (by decide +kernel) (fun m c h => tySpan' h) (hf2 2 _ rfl)
 refine ⟨⟨x, y, dp, w, bs, gs⟩, ?_, ⟨hw, hd, hb, hg, En.sl_map _⟩⟩
 have h5 : (ds.drop 0).take 1 = [.int .i64 x] := by
  have : ((((ds.drop 0).take 3).drop 0).take 1) = [D.int .i64 x] := h5
  rw [List.drop_take, List.take_take] at this
  exact this
 have h6 : (ds.drop 1).take 1 = [.int .i64 y] := by
  have : ((((ds.drop 0).take 3).drop 1).take 1) = [D.int .i64 y] := h6
  rw [List.drop_take, List.take_take, List.drop_drop] at this
  exact this
 have h7 : (ds.drop 2).take 1 = [.sl (dp.map enS.d)] := by
  have : ((((ds.drop 0).take 3).drop 2).take 1) = [D.sl (dp.map enS.d)] := h7
  rw [List.drop_take, List.take_take, List.drop_drop] at this
  exact this
 have e0 : ds = ds.drop 0 := rfl
 have e1 : ds.drop 0 = [.int .i64 x] ++ ds.drop 1 := cutAt h5
 have e2 : ds.drop 1 = [.int .i64 y] ++ ds.drop 2 := cutAt h6
 have e3 : ds.drop 2 = [.sl (dp.map enS.d)] ++ ds.drop 3 := cutAt h7
 have e4 : ds.drop 3 = w.c [] ++ ds.drop 23 := cutAt h2
 have e5 : ds.drop 23 = [.sl (bs.map enBt.d)] ++ ds.drop 24 := cutAt h3
 have e6 : ds.drop 24 = [.sl (gs.map enGl.d)] ++ ds.drop 25 := cutAt h4
 have e7 : ds.drop 25 = [] := List.drop_of_length_le (by omega)
 rw [e0, e1, e2, e3, e4, e5, e6, e7]
 rfl

end Go.Sx
