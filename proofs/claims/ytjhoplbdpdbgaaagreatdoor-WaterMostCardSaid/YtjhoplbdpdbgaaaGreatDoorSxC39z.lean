/- Own work: contracts of functions, used in the proof of a law. -/
import Derived.Test.YtjhoplbdpdbgaaaGreatDoorSxC38z
import Derived.Test.YtjhoplbdpdbgaaaGreatDoorSxC5z
set_option linter.unusedVariables false
set_option linter.unusedSimpArgs false
namespace Go.Sx
open Go.Proofs
set_option maxRecDepth 10000

theorem sp_ix (l : List _) (x : D) (hx : En.sl enSp x = some l) (g : FuncId) (caps : List D) (q : _ → Bool) (hl : l.length ≤ 9223372036854775807) (hcl : ∀ m, D.ltL m caps = true) (hcv : ∀ h, viewL h caps = caps)
    (hq : ∀ a ∈ l, Pure Tryz.prog g (.agg (enSp.d a) :: caps) (.bool (q a))) : Pure Tryz.prog 113 [x, .fn (.func g) [] caps] (.int .i64 (firstI q l 0)) := by
  have lx := fun hp => En.len (P := Tryz.prog) Fz.und_34 hx hp
  have vx := En.lt hx
  refine pure_of_wc (rs := [.tmp 4]) (m := 19) [] oNone_ok (by kernel_rfl) Tryz.func113 rfl (by kernel_rfl) rfl rfl (by kernel_rfl) ?_
  simp only [FS, ↓RE, okR, argEnv, Nat.reduceAdd, Nat.reduceSub, Nat.reduceLT, Nat.reduceLeDiff, Nat.reduceEqDiff, reduceIte, lx]
  refine loopV (ι := Nat) oNone_ok [] (fun i => [(0, x), (1, .fn (.func g) [] caps), (7, .int .i64 (l.length : Int)), (8, .int .i64 (i : Int))])
    (fun i => []) 0 (fun i => i ≤ l.length ∧ (l.take i).all (fun r => !(q r)) = true) (fun i => l.length - i) 0 (by kernel_rfl) (by kernel_rfl) ⟨Nat.zero_le _, by simp⟩ ?_ ?_
  · simp [headW, heapW, envW, blkLt, D.ltL, D.lt, look, hget, vx, hcl]
  rintro i ⟨hil, hok⟩
  rcases Nat.lt_or_ge i l.length with hlt | hge
  · have hc : ((i : Int) < (l.length : Int)) = True := by simp [hlt]
    obtain ⟨r, hr⟩ : ∃ r, l[i]? = some r := ⟨l[i], by simp [hlt]⟩
    have hix := fun hp => En.ix (P := Tryz.prog) Fz.und_34 Fz.size_46 hx hr hp .i64
    have hw := wrap_i64 (z := (i : Int) + 1) (by omega) (by omega)
    have hqr := hq r (List.mem_of_getElem? hr)
    simp only [enSp] at hix hqr
    simp only [FS, ↓RE, okR, argEnv, Nat.reduceAdd, Nat.reduceSub, Nat.reduceLT, Nat.reduceLeDiff, Nat.reduceEqDiff, reduceIte, hix, hc, decide_true, List.nil_append, List.cons_append, hcv]
    refine call_of_pure hqr rfl ?_
    cases hm : q r
    · simp only [FS, ↓RE, okR, argEnv, Nat.reduceAdd, Nat.reduceSub, Nat.reduceLT, Nat.reduceLeDiff, Nat.reduceEqDiff, reduceIte, hw]
      exact ⟨i + 1, ⟨by omega, all_take hr hok (by simp [hm])⟩, by omega, by simp [headW, heapW, envW, blkLt, D.ltL, D.lt, look, hget, vx, hcl]⟩
    · simp only [FS, ↓RE, okR, argEnv, Nat.reduceAdd, Nat.reduceSub, Nat.reduceLT, Nat.reduceLeDiff, Nat.reduceEqDiff, reduceIte, hw]
      rw [firstI_at hok hr (by simp [hm])]; simp
  · have hc : ((i : Int) < (l.length : Int)) = False := by simp; omega
    have : i = l.length := by omega
    subst this
    rw [List.take_length] at hok
    simp only [FS, ↓RE, okR, argEnv, Nat.reduceAdd, Nat.reduceSub, Nat.reduceLT, Nat.reduceLeDiff, Nat.reduceEqDiff, reduceIte, hc, decide_false]
    rw [firstI_none hok]
theorem sp_has (l : List _) (x : D) (hx : En.sl enSp x = some l) (g : FuncId) (caps : List D) (q : _ → Bool) (hl : l.length ≤ 9223372036854775807) (hcl : ∀ m, D.ltL m caps = true) (hcv : ∀ h, viewL h caps = caps)
    (hq : ∀ a ∈ l, Pure Tryz.prog g (.agg (enSp.d a) :: caps) (.bool (q a))) : Pure Tryz.prog 61 [x, .fn (.func g) [] caps] (.bool (l.any q)) := by
  have vx := fun h => En.view hx h
  refine pure_of_wc (rs := [.tmp 4]) (m := 9) [] oNone_ok (by kernel_rfl) Tryz.func61 rfl (by kernel_rfl) rfl rfl (by kernel_rfl) ?_
  simp only [FS, ↓RE, okR, argEnv, Nat.reduceAdd, Nat.reduceSub, Nat.reduceLT, Nat.reduceLeDiff, Nat.reduceEqDiff, reduceIte, vx, view_fn, hcv]
  refine call_of_pure (sp_ix l x hx g caps q hl hcl hcv hq) rfl ?_
  simp only [FS, ↓RE, okR, argEnv, Nat.reduceAdd, Nat.reduceSub, Nat.reduceLT, Nat.reduceLeDiff, Nat.reduceEqDiff, reduceIte, firstI_ge]

theorem best1_t (s : Se) (gd : D) (h : SeL s gd) (hs : okSe s = true) (p : Sp) : Pure Tryz.prog 62 [.agg (enSp.d p), .ref (s.c gd) 0] (.bool (!okSp s p)) := by
  have vg := fun hp => En.view h.gd hp
  have lg := En.lt h.gd
  have h2 := gSp_eq h hs p
  simp only [Se.c, Se.cr, Wx.c, gaC] at h2
  simp only [enSp]
  refine pure_of_wc (rs := [.tmp 3]) (m := 8) [] o38_ok (by kernel_rfl) Tryz.func62 rfl (by kernel_rfl) rfl rfl (by kernel_rfl) ?_
  simp only [FS, ↓RE, okR, argEnv, Nat.reduceAdd, Nat.reduceSub, Nat.reduceLT, Nat.reduceLeDiff, Nat.reduceEqDiff, reduceIte, vg, lg, h2]

/-- How many of some minutes. -/
def cntX (f : Nat → Bool) (xs : List (Fin 1441)) : Int := ((xs.filter fun x => f x.val).length : Int)
theorem cntX_snoc (f : Nat → Bool) (pre : List (Fin 1441)) (x : Fin 1441) : cntX f (pre ++ [x]) = if f x.val then cntX f pre + 1 else cntX f pre := by
  simp only [cntX, List.filter_append, List.length_append]
  cases h : f x.val <;> simp [List.filter_cons, h]
theorem cntB_filter (f : Nat → Bool) : ∀ m, cntB f m = (((List.range m).filter f).length : Int)
  | 0 => rfl
  | m + 1 => by
    rw [cntB, cntB_filter f m, List.range_succ, List.filter_append, List.length_append]
    cases h : f m <;> simp [List.filter_cons, h]
theorem cntX_all (f : Nat → Bool) : cntX f (List.finRange 1441) = cntB f 1441 := by
  rw [cntB_filter]
  simp only [cntX]
  congr 1
  have : (List.range 1441) = (List.finRange 1441).map Fin.val := by
    apply List.ext_getElem
    · rw [List.length_range, List.length_map, List.length_finRange]
    · intro i h1 h2
      simp
  rw [this, List.filter_map, List.length_map]
  rfl
theorem cntX_le (f : Nat → Bool) (pre : List (Fin 1441)) : 0 ≤ cntX f pre ∧ cntX f pre ≤ pre.length := by
  have := List.length_filter_le (fun x : Fin 1441 => f x.val) pre
  simp only [cntX]; omega

def BestA (s : Se) (gd : D) (ps : List Sp) (n : Nd) : Int × Int × Int :=
  if 20 < (ps.length : Int) then (0, 0, 3)
  else if okSe s && (okNd n && ps.all (okSp s)) then
    (if soundW s.w then (if (bestG (cntS s gd n) ps 0 (0, 0)).2 = 0 then (0, 0, 7) else ((bestG (cntS s gd n) ps 0 (0, 0)).1, (bestG (cntS s gd n) ps 0 (0, 0)).2, 0)) else (0, 0, 5))
  else (0, 0, 2)

theorem Best_t (s : Se) (gd : D) (h : SeL s gd) (n : Nd) (ps : List Sp) (hl : ps.length ≤ 9223372036854775807) :
    Pure Tryz.prog 16 [.agg (s.c gd), .sl (ps.map enSp.d), .agg n.c] (.tup [.int .i64 (BestA s gd ps n).1, .int .i64 (BestA s gd ps n).2.1, .int .i64 (BestA s gd ps n).2.2]) := by
  have vg := fun hp => En.view h.gd hp
  have lg := En.lt h.gd
  have cg := fun hp => En.cur h.gd hp
  have hpl := fun hp => En.len (P := Tryz.prog) Fz.und_34 (En.sl_map (E := enSp) ps) hp
  have h1 := gSe_eq h
  have h3 := gNd_eq n
  simp only [Se.c, Se.cr, Wx.c, gaC] at h1
  refine pure_of_wc (rs := [.tmp 6, .tmp 7, .tmp 8]) (m := 61) [(16, [(4, false, false, [])])] o38_ok (by kernel_rfl) Tryz.func16 rfl (by kernel_rfl) rfl rfl (by kernel_rfl) ?_
  by_cases q0 : (20 : Int) < (ps.length : Int)
  · simp only [FS, ↓RE, okR, argEnv, Nat.reduceAdd, Nat.reduceSub, Nat.reduceLT, Nat.reduceLeDiff, Nat.reduceEqDiff, reduceIte, hpl, q0, decide_true]
    simp [BestA, q0]
  cases hs : okSe s
  · simp only [FS, ↓RE, okR, argEnv, Nat.reduceAdd, Nat.reduceSub, Nat.reduceLT, Nat.reduceLeDiff, Nat.reduceEqDiff, reduceIte, hpl, q0, decide_false, vg, lg, h1, hs]
    simp [BestA, q0, hs]
  cases hn : okNd n
  · simp only [FS, ↓RE, okR, argEnv, Nat.reduceAdd, Nat.reduceSub, Nat.reduceLT, Nat.reduceLeDiff, Nat.reduceEqDiff, reduceIte, hpl, q0, decide_false, vg, lg, h1, hs, h3, hn]
    simp [BestA, q0, hs, hn]
  simp only [FS, ↓RE, okR, argEnv, Nat.reduceAdd, Nat.reduceSub, Nat.reduceLT, Nat.reduceLeDiff, Nat.reduceEqDiff, reduceIte, hpl, q0, decide_false, vg, lg, h1, hs, h3, hn]
  refine call_of_pure (sp_has ps _ (En.sl_map ps) 62 [.ref (s.c gd) 0] (fun p => !okSp s p) hl (fun _ => rfl) (fun _ => rfl) fun p _ => best1_t s gd h hs p) rfl ?_
  have hany : (ps.any fun p => !okSp s p) = !(ps.all (okSp s)) := by rw [List.any_eq_not_all_not]; simp
  rw [hany]
  cases ha : ps.all (okSp s)
  · simp only [FS, ↓RE, okR, argEnv, Nat.reduceAdd, Nat.reduceSub, Nat.reduceLT, Nat.reduceLeDiff, Nat.reduceEqDiff, reduceIte]
    simp [BestA, q0, hs, hn, ha]
  have hps : ∀ p ∈ ps, okSp s p = true := List.all_eq_true.1 ha
  have hso := gL0_eq (fun l => okWx l.s.w) (fun l => .bool (soundW l.s.w)) ⟨s, gd, ⟨0, 0, 0, 0⟩, ⟨0, 0, 0, 0, 0, 0, 0⟩, 0⟩ h.gd (okSe_wx hs)
  simp only [Lk.c, Se.cr, Wx.c, gaC] at hso
  cases hsd : soundW s.w
  · simp only [FS, ↓RE, okR, argEnv, Nat.reduceAdd, Nat.reduceSub, Nat.reduceLT, Nat.reduceLeDiff, Nat.reduceEqDiff, reduceIte, vg, lg, cg, hso, hsd]
    simp [BestA, q0, hs, hn, ha, hsd]
  simp only [FS, ↓RE, okR, argEnv, Nat.reduceAdd, Nat.reduceSub, Nat.reduceLT, Nat.reduceLeDiff, Nat.reduceEqDiff, reduceIte, vg, lg, cg, hso, hsd, hpl]
  have hB : BestA s gd ps n = if (bestG (cntS s gd n) ps 0 (0, 0)).2 = 0 then (0, 0, 7) else ((bestG (cntS s gd n) ps 0 (0, 0)).1, (bestG (cntS s gd n) ps 0 (0, 0)).2, 0) := by simp [BestA, q0, hs, hn, ha, hsd]
  rw [hB]
  generalize hr : bestG (cntS s gd n) ps 0 (0, 0) = r
  refine loopV (ι := Nat × Int × Int) o38_ok [(16, [(4, false, false, [])])] (fun i => [(3, .ptr 0 0), (5, .ptr 1 0), (9, .int .i64 i.2.1), (10, .int .i64 i.2.2), (35, .sl (ps.map enSp.d)), (36, .int .i64 (ps.length : Int)), (37, .int .i64 (i.1 : Int))])
    (fun i => [(1, .box n.c), (0, .box (s.c gd))]) 2 (fun i => i.1 ≤ ps.length ∧ (0 ≤ i.2.2 ∧ i.2.2 ≤ 1441) ∧ r = bestG (cntS s gd n) (ps.drop i.1) i.1 i.2) (fun i => ps.length - i.1) (0, 0, 0) (by kernel_rfl) (by kernel_rfl) ⟨Nat.zero_le _, by simp, hr.symm⟩ ?_ ?_
  · simp [headW, heapW, envW, blkLt, D.ltL, D.lt, look, hget, lg]
  rintro ⟨i, b, m⟩ ⟨hi, hm, hri⟩
  dsimp only at hi hm hri ⊢
  rcases Nat.lt_or_ge i ps.length with hilt | hige
  rotate_left
  · have hc : ((i : Int) < (ps.length : Int)) = False := by simp; omega
    rw [List.drop_of_length_le hige] at hri
    simp only [bestG] at hri
    subst hri
    by_cases hz : m = 0
    · have hz2 : (m == 0) = true := by simpa using hz
      simp only [FS, ↓RE, okR, argEnv, Nat.reduceAdd, Nat.reduceSub, Nat.reduceLT, Nat.reduceLeDiff, Nat.reduceEqDiff, reduceIte, hc, decide_false, hz2]
      simp [hz]
    · have hz2 : (m == 0) = false := by simpa using hz
      simp only [FS, ↓RE, okR, argEnv, Nat.reduceAdd, Nat.reduceSub, Nat.reduceLT, Nat.reduceLeDiff, Nat.reduceEqDiff, reduceIte, hc, decide_false, hz2]
      simp [hz]
  have hc : ((i : Int) < (ps.length : Int)) = True := by simp [hilt]
  obtain ⟨p, hp⟩ : ∃ p, ps[i]? = some p := ⟨ps[i], by simp [hilt]⟩
  have hpo := hps p (List.mem_of_getElem? hp)
  have hix : ∀ hh, indexAddrD Tryz.prog hh 34 (.sl (ps.map enSp.d)) (.int .i64 (i : Int)) = some (.ref [.int .i64 p.x, .int .i64 p.y, .int .i64 p.way, .int .i64 p.cells] 0) := fun hh => En.ix (P := Tryz.prog) Fz.und_34 Fz.size_46 (En.sl_map (E := enSp) ps) hp hh .i64
  rw [drop_at hp] at hri
  simp only [bestG] at hri
  have hwi := wrap_i64 (z := (i : Int) + 1) (by omega) (by omega)
  simp only [FS, ↓RE, okR, argEnv, Nat.reduceAdd, Nat.reduceSub, Nat.reduceLT, Nat.reduceLeDiff, Nat.reduceEqDiff, reduceIte, hc, decide_true, hix]
  refine rangeV (α := Fin 1441) o38_ok [(16, [(4, false, false, [])])] (by kernel_rfl) (by kernel_rfl) (fun w => minutes_seq w) (by kernel_rfl) (fun _ => rfl) (fun R n x => relL_int R n .i64 _) rfl
    [(3, .ptr 0 0), (5, .ptr 1 0), (9, .int .i64 b), (10, .int .i64 m), (11, .int .i64 (i : Int)), (12, .ptr 2 0), (13, .ptr 3 0), (35, .sl (ps.map enSp.d)), (36, .int .i64 (ps.length : Int)), (37, .int .i64 (i : Int))]
    (fun xs => [(3, .box [.int .i64 (cntX (fun t => surelyB (lkT s gd n p t)) xs)]), (2, .box p.c), (1, .box n.c), (0, .box (s.c gd))]) 4 (fun _ => True) trivial rfl (fun _ => rfl) ?_ ?_ ?_
  · simp [headW, heapW, envW, blkLt, D.ltL, D.lt, look, hget, hset, lg, cntX]
  · intro l pre x _ hlen
    have hx := x.isLt
    have hlk : LkOk (lkT s gd n p x.val) := ⟨h, hs, hpo, hn, by simp only; omega⟩
    have hsu := surely_t (lkT s gd n p x.val) hlk
    have hcx := cntX_le (fun t => surelyB (lkT s gd n p t)) pre
    have hwc := wrap_i64 (z := cntX (fun t => surelyB (lkT s gd n p t)) pre + 1) (by omega) (by omega)
    have hsn := cntX_snoc (fun t => surelyB (lkT s gd n p t)) pre x
    simp only [FS, ↓RE, okR, argEnv, Nat.reduceAdd, Nat.reduceSub, Nat.reduceLT, Nat.reduceLeDiff, Nat.reduceEqDiff, reduceIte, vg, lg, cg, ms_nil, ms_assign, pe_cons, pe_nil, Array.toList, minD]
    refine call_of_pure hsu rfl ?_
    cases q : surelyB (lkT s gd n p x.val)
    · rw [q] at hsn
      simp only [FS, ↓RE, okR, argEnv, Nat.reduceAdd, Nat.reduceSub, Nat.reduceLT, Nat.reduceLeDiff, Nat.reduceEqDiff, reduceIte]
      simp [headW, heapW, envW, blkLt, D.ltL, D.lt, look, hget, lg, hsn]
    · rw [q] at hsn
      simp only [FS, ↓RE, okR, argEnv, Nat.reduceAdd, Nat.reduceSub, Nat.reduceLT, Nat.reduceLeDiff, Nat.reduceEqDiff, reduceIte, hwc]
      simp [headW, heapW, envW, blkLt, D.ltL, D.lt, look, hget, hset, lg, hsn]
  · intro xs hxs _
    subst hxs
    rw [cntX_all]
    have hcs : cntB (fun t => surelyB (lkT s gd n p t)) 1441 = cntS s gd n p := rfl
    rw [hcs]
    have hcb := cntS_b s gd n p
    by_cases q : m < cntS s gd n p
    · rw [if_pos q] at hri
      simp only [FS, ↓RE, okR, argEnv, Nat.reduceAdd, Nat.reduceSub, Nat.reduceLT, Nat.reduceLeDiff, Nat.reduceEqDiff, reduceIte, q, decide_true, hwi]
      exact ⟨(i + 1, (i : Int), cntS s gd n p), ⟨by simp only; omega, by simp only; omega, hri⟩, by simp only; omega, by simp [headW, heapW, envW, blkLt, D.ltL, D.lt, look, hget, lg]⟩
    · rw [if_neg q] at hri
      simp only [FS, ↓RE, okR, argEnv, Nat.reduceAdd, Nat.reduceSub, Nat.reduceLT, Nat.reduceLeDiff, Nat.reduceEqDiff, reduceIte, q, decide_false, hwi]
      exact ⟨(i + 1, b, m), ⟨by simp only; omega, hm, hri⟩, by simp only; omega, by simp [headW, heapW, envW, blkLt, D.ltL, D.lt, look, hget, lg]⟩
end Go.Sx
