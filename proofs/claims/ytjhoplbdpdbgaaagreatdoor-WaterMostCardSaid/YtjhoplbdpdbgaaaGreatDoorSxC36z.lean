/- Own work: contracts of functions, used in the proof of a law. -/
import Derived.Test.YtjhoplbdpdbgaaaGreatDoorSxC35z
set_option linter.unusedVariables false
set_option linter.unusedSimpArgs false
namespace Go.Sx
open Go.Proofs
set_option maxRecDepth 10000

abbrev o36 : List (FuncId × (List D → Option D)) := (125, gIw) :: o29
theorem o36_ok : OkO Tryz.prog (mkO o36) := mkO_ok gIw_ok o29_ok

def bAt (l : List Bool) (i : Nat) : Bool := l.getD i false
/-- A cell is good, for the reference. -/
def goodR (s : Se) (p : Sp) (dr tide : Int) (dl : List Int) (bl : List Bool) (k : Nat) : Bool := decide (dr ≤ iAt dl (cellI s p k) + tide) && freeB (bAt bl) (pxK p k) (pyK p k) s.boats 0
theorem allG_succ (good : Nat → Bool) (o j : Nat) : allG good o (j + 1) = (allG good o j && good (o + j)) := by
  simp [allG, List.range_succ]
theorem freeB_step (th : Nat → Bool) (x y : Int) (b : Bt) (r : List Bt) (i : Nat) : freeB th x y (b :: r) i = (!(th i && inW b x y) && freeB th x y r (i + 1)) := rfl

theorem rrun_t (s : Se) (gd : D) (h : SeL s gd) (hs : okSe s = true) (p : Sp) (hp : okSp s p = true) (dr c tide : Int) (hc0 : 1 ≤ c ∧ c ≤ 12) (dl : List Int) (bl : List Bool) (hdr : -100000 ≤ tide ∧ tide ≤ 100000) (hdl : dl.length = s.depths.length) (hdb : ∀ x ∈ dl, -100000 ≤ x ∧ x ≤ 100000) (hbl : bl.length = s.boats.length) :
    Pure Tryz.prog 79 [.agg (s.c gd), .agg p.c, .int .i64 dr, .int .i64 c, .int .i64 tide, .sl (iL dl), .sl (bL bl)] (.int .i64 (runS (goodR s p dr tide dl bl) p.cells.toNat c.toNat)) := by
  have vg := fun hp => En.view h.gd hp
  have lg := En.lt h.gd
  have hblen := fun hp => En.len (P := Tryz.prog) Fz.und_30 (En.sl_map (E := enBt) s.boats) hp
  obtain ⟨hw, hd, hlen⟩ := okSe_sz hs
  obtain ⟨hwy, hce⟩ := okSp_ce hp
  have hbb : s.boats.length ≤ 12 := by
    simp only [okSe, Bool.and_eq_true, decide_eq_true_eq] at hs
    exact hs.2.1
  obtain ⟨d1, d2, _⟩ := dx_cases p.way hwy
  generalize hgood : goodR s p dr tide dl bl = good
  refine pure_of_wc (rs := [.tmp 14]) (m := 94) [(9, [(14, false, false, [])])] o36_ok (by kernel_rfl) Tryz.func79 rfl (by kernel_rfl) rfl rfl (by kernel_rfl) ?_
  simp only [FS, ↓RE, okR, argEnv, Nat.reduceAdd, Nat.reduceSub, Nat.reduceLT, Nat.reduceLeDiff, Nat.reduceEqDiff, reduceIte, gSt_eq hwy, ex_tup]
  refine loopV (ι := Nat) o36_ok [(9, [(14, false, false, [])])] (fun o => [(2, .int .i64 dr), (3, .int .i64 c), (4, .int .i64 tide), (5, .sl (iL dl)), (6, .sl (bL bl)), (7, .ptr 0 0), (8, .ptr 1 0), (15, .int .i64 (dxW p.way)), (16, .int .i64 (dyW p.way)), (17, .int .i64 (o : Int))])
    (fun o => [(1, .box p.c), (0, .box (s.c gd))]) 2 (fun o => o ≤ p.cells.toNat + 1 - c.toNat ∧ ∀ i, i < o → allG good i c.toNat = false) (fun o => p.cells.toNat + 1 - c.toNat - o) 0 (by kernel_rfl) (by kernel_rfl) ⟨Nat.zero_le _, fun i hi => by omega⟩ ?_ ?_
  · simp [headW, heapW, envW, blkLt, D.ltL, D.lt, look, hget, lg]
  rintro o ⟨ho, hno⟩
  have hwo := wrap_i64 (z := (o : Int) + c) (by omega) (by omega)
  rcases Nat.lt_or_ge o (p.cells.toNat + 1 - c.toNat) with hlt | hge
  rotate_left
  · have hc : ((o : Int) + c ≤ p.cells) = False := by simp; omega
    simp only [FS, ↓RE, okR, argEnv, Nat.reduceAdd, Nat.reduceSub, Nat.reduceLT, Nat.reduceLeDiff, Nat.reduceEqDiff, reduceIte, hwo, hc, decide_false]
    have : (List.range (p.cells.toNat + 1 - c.toNat)).find? (fun o => allG good o c.toNat) = none := by
      rw [List.find?_eq_none]
      intro i hi
      rw [hno i (by have := List.mem_range.1 hi; omega)]; simp
    simp only [runS, this]
  have hc : ((o : Int) + c ≤ p.cells) = True := by simp; omega
  have hwo1 := wrap_i64 (z := (o : Int) + 1) (by omega) (by omega)
  simp only [FS, ↓RE, okR, argEnv, Nat.reduceAdd, Nat.reduceSub, Nat.reduceLT, Nat.reduceLeDiff, Nat.reduceEqDiff, reduceIte, hwo, hc, decide_true]
  refine loopV (ι := Nat) o36_ok [(9, [(14, false, false, [])])] (fun j => [(2, .int .i64 dr), (3, .int .i64 c), (4, .int .i64 tide), (5, .sl (iL dl)), (6, .sl (bL bl)), (7, .ptr 0 0), (8, .ptr 1 0), (15, .int .i64 (dxW p.way)), (16, .int .i64 (dyW p.way)), (17, .int .i64 (o : Int)), (18, .bool (allG good o j)), (19, .int .i64 ((o + j : Nat) : Int))])
    (fun j => [(1, .box p.c), (0, .box (s.c gd))]) 2 (fun j => j ≤ c.toNat) (fun j => c.toNat - j) 0 (by kernel_rfl) (by kernel_rfl) (Nat.zero_le _) ?_ ?_
  · simp [headW, heapW, envW, blkLt, D.ltL, D.lt, look, hget, lg, allG]
  intro j hj
  rcases Nat.lt_or_ge j c.toNat with hjlt | hjge
  rotate_left
  · have hjc : j = c.toNat := by omega
    have hc2 : (((o + j : Nat) : Int) < (o : Int) + c) = False := by simp; omega
    cases hg : allG good o j
    · simp only [FS, ↓RE, okR, argEnv, Nat.reduceAdd, Nat.reduceSub, Nat.reduceLT, Nat.reduceLeDiff, Nat.reduceEqDiff, reduceIte, hwo, hc2, decide_false, hwo1]
      refine ⟨o + 1, ⟨by omega, fun i hi => ?_⟩, by omega, by simp [headW, heapW, envW, blkLt, D.ltL, D.lt, look, hget, lg]⟩
      rcases Nat.lt_or_ge i o with h | h
      · exact hno i h
      · rw [show i = o by omega, ← hjc]; exact hg
    · simp only [FS, ↓RE, okR, argEnv, Nat.reduceAdd, Nat.reduceSub, Nat.reduceLT, Nat.reduceLeDiff, Nat.reduceEqDiff, reduceIte, hwo, hc2, decide_false]
      have : (List.range (p.cells.toNat + 1 - c.toNat)).find? (fun o => allG good o c.toNat) = some o := find_first (by omega) (by rw [← hjc]; exact hg) hno
      simp only [runS, this]
  have hc2 : (((o + j : Nat) : Int) < (o : Int) + c) = True := by simp; omega
  have hk' : 0 ≤ ((o + j : Nat) : Int) ∧ ((o + j : Nat) : Int) ≤ p.cells - 1 := by omega
  obtain ⟨hx, hy⟩ := cell_xy hp hk'
  have hcl := cell_lt hw.1 hp hk'
  have hm : s.wide * s.deep ≤ 12 * 12 := Int.mul_le_mul hw.2 hd.2 (by omega) (by omega)
  generalize hk : o + j = k at *
  have h1 : IntKind.i64.wrap (dxW p.way * (k : Int)) = (k : Int) * dxW p.way := by
    rw [Int.mul_comm]; exact wrap_i64 (by rcases d1 with h | h | h <;> rw [h] <;> omega) (by rcases d1 with h | h | h <;> rw [h] <;> omega)
  have h2 : IntKind.i64.wrap (dyW p.way * (k : Int)) = (k : Int) * dyW p.way := by
    rw [Int.mul_comm]; exact wrap_i64 (by rcases d2 with h | h | h <;> rw [h] <;> omega) (by rcases d2 with h | h | h <;> rw [h] <;> omega)
  have h3 : IntKind.i64.wrap (p.x + (k : Int) * dxW p.way) = pxK p k := wrap_i64 (z := pxK p k) (by omega) (by omega)
  have h4 : IntKind.i64.wrap (p.y + (k : Int) * dyW p.way) = pyK p k := wrap_i64 (z := pyK p k) (by omega) (by omega)
  have h5' : 0 ≤ pyK p k * s.wide := Int.mul_nonneg hy.1 (by omega)
  have h5 := wrap_i64 (z := pyK p k * s.wide) (by omega) (by simp only [cellI] at hcl; omega)
  have h6 : IntKind.i64.wrap (pyK p k * s.wide + pxK p k) = cellI s p k := wrap_i64 (z := cellI s p k) (by omega) (by omega)
  have hix := fun hp => ix_i Fz.und_62 Fz.size_3 (l := dl) (m := cellI s p k) hcl.1 (by omega) hp
  have hin : iAt dl (cellI s p k) ∈ dl := by
    have : (cellI s p k).toNat < dl.length := by omega
    simp only [iAt, List.getD_eq_getElem?_getD, List.getElem?_eq_getElem this]
    exact List.getElem_mem this
  have hib := hdb _ hin
  have h7 := wrap_i64 (z := iAt dl (cellI s p k) + tide) (by omega) (by omega)
  have hwk := wrap_i64 (z := (k : Int) + 1) (by omega) (by omega)
  have hgk : good k = (decide (dr ≤ iAt dl (cellI s p k) + tide) && freeB (bAt bl) (pxK p k) (pyK p k) s.boats 0) := by rw [← hgood]; rfl
  have hsucc := allG_succ good o j
  rw [hk] at hsucc
  have hq2 : decide (dr ≤ iAt dl (cellI s p k) + tide) = !decide (iAt dl (cellI s p k) + tide < dr) := by
    rw [← decide_not]; congr 1; simp
  rw [hq2] at hgk
  cases q : decide (iAt dl (cellI s p k) + tide < dr)
  all_goals
    rw [q] at hgk
    simp only [FS, ↓RE, okR, argEnv, Nat.reduceAdd, Nat.reduceSub, Nat.reduceLT, Nat.reduceLeDiff, Nat.reduceEqDiff, reduceIte, hwo, hc2, decide_true, h1, h2, h3, h4, h5, h6, hix, h7, q]
    refine loopV (ι := Nat × Bool) o36_ok [(9, [(14, false, false, [])])] (fun i => [(2, .int .i64 dr), (3, .int .i64 c), (4, .int .i64 tide), (5, .sl (iL dl)), (6, .sl (bL bl)), (7, .ptr 0 0), (8, .ptr 1 0), (15, .int .i64 (dxW p.way)), (16, .int .i64 (dyW p.way)), (17, .int .i64 (o : Int)), (18, .bool i.2), (19, .int .i64 (k : Int)), (20, .int .i64 (pxK p k)), (21, .int .i64 (pyK p k)), (22, .int .i64 (i.1 : Int))])
      (fun i => [(1, .box p.c), (0, .box (s.c gd))]) 2 (fun i => i.1 ≤ s.boats.length ∧ allG good o (j + 1) = (i.2 && freeB (bAt bl) (pxK p k) (pyK p k) (s.boats.drop i.1) i.1)) (fun i => s.boats.length - i.1) (0, allG good o j && !decide (iAt dl (cellI s p k) + tide < dr)) (by kernel_rfl) (by kernel_rfl) ⟨Nat.zero_le _, by rw [hsucc, hgk, q]; simp⟩ ?_ ?_
    · simp [headW, heapW, envW, blkLt, D.ltL, D.lt, look, hget, lg, q]
    rintro ⟨i, g⟩ ⟨hi, hgi⟩
    dsimp only at hi hgi ⊢
    rcases Nat.lt_or_ge i s.boats.length with hilt | hige
    rotate_left
    · have hc3 : ((i : Int) < (s.boats.length : Int)) = False := by simp; omega
      rw [List.drop_of_length_le hige] at hgi
      simp only [freeB, Bool.and_true] at hgi
      simp only [FS, ↓RE, okR, argEnv, Nat.reduceAdd, Nat.reduceSub, Nat.reduceLT, Nat.reduceLeDiff, Nat.reduceEqDiff, reduceIte, hblen, hc3, decide_false, hwk]
      refine ⟨j + 1, by omega, by omega, ?_⟩
      have hkk : ((o + (j + 1) : Nat) : Int) = (k : Int) + 1 := by omega
      simp [headW, heapW, envW, blkLt, D.ltL, D.lt, look, hget, lg, hgi]
      omega
    have hc3 : ((i : Int) < (s.boats.length : Int)) = True := by simp [hilt]
    obtain ⟨b, hb⟩ : ∃ b, s.boats[i]? = some b := ⟨s.boats[i], by simp [hilt]⟩
    obtain ⟨t, ht⟩ : ∃ t, bl[i]? = some t := ⟨bl[i]'(by omega), by rw [List.getElem?_eq_getElem]⟩
    have hixb := fun hp => En.ix (P := Tryz.prog) Fz.und_30 Fz.size_72 (En.sl_map (E := enBt) s.boats) hb hp .i64
    have hixt : ∀ hp, indexAddrD Tryz.prog hp 63 (.sl (bL bl)) (.int .i64 (i : Int)) = some (.ref [.bool t] 0) := fun hp => En.ix (P := Tryz.prog) Fz.und_63 Fz.size_4 (En.sl_map (E := enB) bl) ht hp .i64
    have hth : bAt bl i = t := by simp [bAt, List.getD, ht]
    have hwi := wrap_i64 (z := (i : Int) + 1) (by omega) (by omega)
    rw [drop_at hb, freeB_step, hth] at hgi
    obtain ⟨⟨x1, x2⟩, ⟨y1, y2⟩, ⟨t1, t2⟩, su⟩ := b
    have hixb2 : ∀ hp, indexAddrD Tryz.prog hp 30 (.sl (s.boats.map enBt.d)) (.int .i64 (i : Int)) = some (.ref [.int .i64 x1, .int .i64 x2, .int .i64 y1, .int .i64 y2, .int .i64 t1, .int .i64 t2, .bool su] 0) := hixb
    cases t
    · simp only [FS, ↓RE, okR, argEnv, Nat.reduceAdd, Nat.reduceSub, Nat.reduceLT, Nat.reduceLeDiff, Nat.reduceEqDiff, reduceIte, hblen, hc3, decide_true, hixt, hwi]
      simp only [Bool.false_and, Bool.not_false, Bool.true_and] at hgi
      exact ⟨(i + 1, g), ⟨by simp only; omega, hgi⟩, by simp only; omega, by simp [headW, heapW, envW, blkLt, D.ltL, D.lt, look, hget, lg]⟩
    cases qi : inW ⟨(x1, x2), (y1, y2), (t1, t2), su⟩ (pxK p k) (pyK p k)
    · rw [qi] at hgi
      simp only [FS, ↓RE, okR, argEnv, Nat.reduceAdd, Nat.reduceSub, Nat.reduceLT, Nat.reduceLeDiff, Nat.reduceEqDiff, reduceIte, hblen, hc3, decide_true, hixt, hixb2, gIw_eq, qi, hwi]
      simp only [Bool.and_false, Bool.not_false, Bool.true_and] at hgi
      exact ⟨(i + 1, g), ⟨by simp only; omega, hgi⟩, by simp only; omega, by simp [headW, heapW, envW, blkLt, D.ltL, D.lt, look, hget, lg]⟩
    · rw [qi] at hgi
      simp only [FS, ↓RE, okR, argEnv, Nat.reduceAdd, Nat.reduceSub, Nat.reduceLT, Nat.reduceLeDiff, Nat.reduceEqDiff, reduceIte, hblen, hc3, decide_true, hixt, hixb2, gIw_eq, qi, hwi]
      simp only [Bool.and_true, Bool.not_true, Bool.false_and, Bool.and_false] at hgi
      exact ⟨(i + 1, false), ⟨by simp only; omega, by simp only [Bool.false_and]; exact hgi⟩, by simp only; omega, by simp [headW, heapW, envW, blkLt, D.ltL, D.lt, look, hget, lg]⟩
end Go.Sx
