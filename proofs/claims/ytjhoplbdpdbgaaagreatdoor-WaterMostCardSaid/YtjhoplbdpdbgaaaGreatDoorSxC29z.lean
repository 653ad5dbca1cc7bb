/- Own work: contracts of functions, used in the proof of a law. -/
import Derived.Test.YtjhoplbdpdbgaaaGreatDoorSxC28z
set_option linter.unusedVariables false
set_option linter.unusedSimpArgs false
namespace Go.Sx
open Go.Proofs
set_option maxRecDepth 10000

def pxK (p : Sp) (k : Int) : Int := p.x + k * dxW p.way
def pyK (p : Sp) (k : Int) : Int := p.y + k * dyW p.way
def cellI (s : Se) (p : Sp) (k : Int) : Int := pyK p k * s.wide + pxK p k
theorem cell_xy {s : Se} {p : Sp} (h : okSp s p = true) {k : Int} (hk : 0 ≤ k ∧ k ≤ p.cells - 1) : (0 ≤ pxK p k ∧ pxK p k ≤ s.wide - 1) ∧ (0 ≤ pyK p k ∧ pyK p k ≤ s.deep - 1) := by
  simp only [okSp, Bool.and_eq_true, bIn, decide_eq_true_eq] at h
  obtain ⟨hw, hc, hx, hy, hx2, hy2⟩ := h
  obtain ⟨d1, d2, _⟩ := dx_cases p.way hw
  simp only [pxK, pyK]
  constructor
  · rcases d1 with h | h | h <;> rw [h] at hx2 ⊢ <;> omega
  · rcases d2 with h | h | h <;> rw [h] at hy2 ⊢ <;> omega
theorem cell_lt {s : Se} {p : Sp} (hw : 1 ≤ s.wide) (h : okSp s p = true) {k : Int} (hk : 0 ≤ k ∧ k ≤ p.cells - 1) : 0 ≤ cellI s p k ∧ cellI s p k < s.wide * s.deep := by
  obtain ⟨hx, hy⟩ := cell_xy h hk
  have h1 : pyK p k * s.wide ≤ (s.deep - 1) * s.wide := Int.mul_le_mul_of_nonneg_right hy.2 (by omega)
  have h2 : 0 ≤ pyK p k * s.wide := Int.mul_nonneg hy.1 (by omega)
  have h3 : (s.deep - 1) * s.wide = s.wide * s.deep - s.wide := by rw [Int.sub_mul, Int.one_mul, Int.mul_comm]
  simp only [cellI]
  omega
theorem okSp_ce {s : Se} {p : Sp} (h : okSp s p = true) : okWay p.way = true ∧ (1 ≤ p.cells ∧ p.cells ≤ 12) := by
  simp only [okSp, Bool.and_eq_true, bIn, decide_eq_true_eq] at h
  exact ⟨h.1, h.2.1⟩
def okCl (q : Lk × Int) : Bool := bIn q.1.s.wide 1 12 && (bIn q.1.s.deep 1 12 && (okSp q.1.s q.1.p && bIn q.2 0 (q.1.p.cells - 1)))

theorem cell_t (l : Lk) (hg : enGl.sl l.gd = some l.s.glares) (k : Int) (hw : 1 ≤ l.s.wide ∧ l.s.wide ≤ 12) (hd : 1 ≤ l.s.deep ∧ l.s.deep ≤ 12) (hp : okSp l.s l.p = true) (hk : 0 ≤ k ∧ k ≤ l.p.cells - 1) :
    Pure Tryz.prog 72 [.agg l.c, .int .i64 k] (.tup [.int .i64 (cellI l.s l.p k), .int .i64 (pxK l.p k), .int .i64 (pyK l.p k)]) := by
  have vg := fun hp => En.view hg hp
  have lg := En.lt hg
  obtain ⟨hwy, hce⟩ := okSp_ce hp
  obtain ⟨hx, hy⟩ := cell_xy hp hk
  have hc := cell_lt hw.1 hp hk
  have hm : l.s.wide * l.s.deep ≤ 12 * 12 := Int.mul_le_mul hw.2 hd.2 (by omega) (by omega)
  obtain ⟨d1, d2, _⟩ := dx_cases l.p.way hwy
  have h1 := wrap_i64 (z := k * dxW l.p.way) (by rcases d1 with h | h | h <;> rw [h] <;> omega) (by rcases d1 with h | h | h <;> rw [h] <;> omega)
  have h2 := wrap_i64 (z := k * dyW l.p.way) (by rcases d2 with h | h | h <;> rw [h] <;> omega) (by rcases d2 with h | h | h <;> rw [h] <;> omega)
  have h3 : IntKind.i64.wrap (l.p.x + k * dxW l.p.way) = pxK l.p k := wrap_i64 (z := pxK l.p k) (by omega) (by omega)
  have h4 : IntKind.i64.wrap (l.p.y + k * dyW l.p.way) = pyK l.p k := wrap_i64 (z := pyK l.p k) (by omega) (by omega)
  have h5' : 0 ≤ pyK l.p k * l.s.wide := Int.mul_nonneg hy.1 (by omega)
  have h5 := wrap_i64 (z := pyK l.p k * l.s.wide) (by omega) (by simp only [cellI] at hc; omega)
  have h6 : IntKind.i64.wrap (pyK l.p k * l.s.wide + pxK l.p k) = cellI l.s l.p k := wrap_i64 (z := cellI l.s l.p k) (by omega) (by omega)
  refine pure_of_wc (rs := [.tmp 4, .tmp 5, .tmp 6]) (m := 42) [(2, [(16, false, false, [])])] o28_ok (by kernel_rfl) Tryz.func72 rfl (by kernel_rfl) rfl rfl (by kernel_rfl) ?_
  simp only [FS, ↓RE, okR, argEnv, Nat.reduceAdd, Nat.reduceSub, Nat.reduceLT, Nat.reduceLeDiff, Nat.reduceEqDiff, reduceIte, gSt_eq hwy, ex_tup, h1, h2, h3, h4, h5, h6]

def passB (l : Lk) (i : Nat) : Bool := match l.s.boats[i]? with
  | some b => bIn l.t b.t.1 b.t.2
  | none => false
def okPs (q : Lk × Int) : Bool := decide (0 ≤ q.2) && decide (q.2 < q.1.s.boats.length)
theorem passes_t (l : Lk) (hg : enGl.sl l.gd = some l.s.glares) (i : Nat) (hi : i < l.s.boats.length) : Pure Tryz.prog 74 [.agg l.c, .int .i64 (i : Int)] (.bool (passB l i)) := by
  have vg := fun hp => En.view hg hp
  have lg := En.lt hg
  obtain ⟨b, hb⟩ : ∃ b, l.s.boats[i]? = some b := ⟨l.s.boats[i], by simp [hi]⟩
  have hix := fun hp => En.ix (P := Tryz.prog) Fz.und_30 Fz.size_72 (En.sl_map (E := enBt) l.s.boats) hb hp .i64
  obtain ⟨⟨x1, x2⟩, ⟨y1, y2⟩, ⟨t1, t2⟩, su⟩ := b
  have hix2 : ∀ hp, indexAddrD Tryz.prog hp 30 (.sl (l.s.boats.map enBt.d)) (.int .i64 (i : Int)) = some (.ref [.int .i64 x1, .int .i64 x2, .int .i64 y1, .int .i64 y2, .int .i64 t1, .int .i64 t2, .bool su] 0) := hix
  refine pure_of_wc (rs := [.tmp 4]) (m := 24) [(1, [(20, false, false, [])])] o28_ok (by kernel_rfl) Tryz.func74 rfl (by kernel_rfl) rfl rfl (by kernel_rfl) ?_
  simp only [FS, ↓RE, okR, argEnv, Nat.reduceAdd, Nat.reduceSub, Nat.reduceLT, Nat.reduceLeDiff, Nat.reduceEqDiff, reduceIte, hix2, gIn_eq, passB, hb]

abbrev o29 : List (FuncId × (List D → Option D)) := (72, gL1 okCl fun q => .tup [.int .i64 (cellI q.1.s q.1.p q.2), .int .i64 (pxK q.1.p q.2), .int .i64 (pyK q.1.p q.2)]) :: (74, gL1 okPs fun q => .bool (passB q.1 q.2.toNat)) :: o28
theorem o29_ok : OkO Tryz.prog (mkO o29) :=
  mkO_ok (orc_ok fun ds q hd hk => by
    obtain ⟨rfl, hg⟩ := decL1_inv hd
    simp only [okCl, Bool.and_eq_true, bIn, decide_eq_true_eq] at hk
    exact cell_t _ hg _ hk.1 hk.2.1 hk.2.2.1 hk.2.2.2) <|
  mkO_ok (orc_ok fun ds q hd hk => by
    obtain ⟨rfl, hg⟩ := decL1_inv hd
    simp only [okPs, Bool.and_eq_true, decide_eq_true_eq] at hk
    have := passes_t q.1 hg q.2.toNat (by omega)
    rwa [Int.toNat_of_nonneg hk.1] at this) o28_ok

/-! No boat in the way -/
def inW (b : Bt) (x y : Int) : Bool := bIn x b.x.1 b.x.2 && bIn y b.y.1 b.y.2
def freeB (th : Nat → Bool) (x y : Int) : List Bt → Nat → Bool
  | [], _ => true
  | b :: r, i => !(th i && inW b x y) && freeB th x y r (i + 1)
theorem free_t (l : Lk) (hg : enGl.sl l.gd = some l.s.glares) (hl : l.s.boats.length ≤ 9223372036854775807) (x y : Int) (f : FuncId) (fst caps : List D) (th : Nat → Bool) (hfl : ∀ m, D.ltL m fst = true) (hfv : ∀ h, viewL h fst = fst) (hcl : ∀ m, D.ltL m caps = true) (hcv : ∀ h, viewL h caps = caps)
    (hva : ∀ h i, viewL h (fst ++ [D.int .i64 i] ++ caps) = fst ++ [D.int .i64 i] ++ caps)
    (hq : ∀ i : Nat, i < l.s.boats.length → Pure Tryz.prog f (fst ++ [.int .i64 (i : Int)] ++ caps) (.bool (th i))) :
    Pure Tryz.prog 73 [.agg l.c, .int .i64 x, .int .i64 y, .fn (.func f) fst caps] (.bool (freeB th x y l.s.boats 0)) := by
  have vg := fun hp => En.view hg hp
  have lg := En.lt hg
  have hbl := fun hp => En.len (P := Tryz.prog) Fz.und_30 (En.sl_map (E := enBt) l.s.boats) hp
  have hIn : ∀ a b c, Pure Tryz.prog 70 [.int .i64 a, .int .i64 b, .int .i64 c] (.bool (bIn a b c)) := in_t
  refine pure_of_wc (rs := [.tmp 8]) (m := 44) [] oNone_ok (by kernel_rfl) Tryz.func73 rfl (by kernel_rfl) rfl rfl (by kernel_rfl) ?_
  simp only [FS, ↓RE, okR, argEnv, Nat.reduceAdd, Nat.reduceSub, Nat.reduceLT, Nat.reduceLeDiff, Nat.reduceEqDiff, reduceIte, hbl]
  refine loopV (ι := Nat) oNone_ok [] (fun i => [(1, .int .i64 x), (2, .int .i64 y), (3, .fn (.func f) fst caps), (13, .sl (l.s.boats.map enBt.d)), (14, .int .i64 (l.s.boats.length : Int)), (15, .int .i64 (i : Int))])
    (fun i => []) 1 (fun i => i ≤ l.s.boats.length ∧ freeB th x y l.s.boats 0 = freeB th x y (l.s.boats.drop i) i) (fun i => l.s.boats.length - i) 0 (by kernel_rfl) (by kernel_rfl) ⟨Nat.zero_le _, rfl⟩ ?_ ?_
  · simp [headW, heapW, envW, blkLt, D.ltL, D.lt, look, hget, hfl, hcl]
  rintro i ⟨hi, hok⟩
  rcases Nat.lt_or_ge i l.s.boats.length with hlt | hge
  rotate_left
  · have : i = l.s.boats.length := by omega
    subst this
    rw [List.drop_length] at hok
    simp only [FS, ↓RE, okR, argEnv, Nat.reduceAdd, Nat.reduceSub, Nat.reduceLT, Nat.reduceLeDiff, Nat.reduceEqDiff, reduceIte, Int.lt_irrefl, decide_false]
    rw [hok]; rfl
  have hc : ((i : Int) < (l.s.boats.length : Int)) = True := by simp [hlt]
  obtain ⟨b, hb⟩ : ∃ b, l.s.boats[i]? = some b := ⟨l.s.boats[i], by simp [hlt]⟩
  have hix := fun hp => En.ix (P := Tryz.prog) Fz.und_30 Fz.size_72 (En.sl_map (E := enBt) l.s.boats) hb hp .i64
  obtain ⟨⟨x1, x2⟩, ⟨y1, y2⟩, ⟨t1, t2⟩, su⟩ := b
  have hix2 : ∀ hp, indexAddrD Tryz.prog hp 30 (.sl (l.s.boats.map enBt.d)) (.int .i64 (i : Int)) = some (.ref [.int .i64 x1, .int .i64 x2, .int .i64 y1, .int .i64 y2, .int .i64 t1, .int .i64 t2, .bool su] 0) := hix
  have hwi := wrap_i64 (z := (i : Int) + 1) (by omega) (by omega)
  rw [drop_at hb] at hok
  simp only [freeB, inW] at hok
  simp only [FS, ↓RE, okR, argEnv, Nat.reduceAdd, Nat.reduceSub, Nat.reduceLT, Nat.reduceLeDiff, Nat.reduceEqDiff, reduceIte, hix2, hc, decide_true]
  refine call_of_pure (by rw [hva]; exact hq i hlt) rfl ?_
  cases ht : th i
  · rw [ht] at hok
    simp only [FS, ↓RE, okR, argEnv, Nat.reduceAdd, Nat.reduceSub, Nat.reduceLT, Nat.reduceLeDiff, Nat.reduceEqDiff, reduceIte, hwi]
    simp only [Bool.false_and, Bool.not_false, Bool.true_and] at hok
    exact ⟨i + 1, ⟨by omega, hok⟩, by omega, by simp [headW, heapW, envW, blkLt, D.ltL, D.lt, look, hget, hfl, hcl]⟩
  rw [ht] at hok
  simp only [FS, ↓RE, okR, argEnv, Nat.reduceAdd, Nat.reduceSub, Nat.reduceLT, Nat.reduceLeDiff, Nat.reduceEqDiff, reduceIte]
  refine call_of_pure (hIn _ _ _) rfl ?_
  cases hx : bIn x x1 x2
  · rw [hx] at hok
    simp only [FS, ↓RE, okR, argEnv, Nat.reduceAdd, Nat.reduceSub, Nat.reduceLT, Nat.reduceLeDiff, Nat.reduceEqDiff, reduceIte, hwi]
    simp only [Bool.false_and, Bool.and_false, Bool.not_false, Bool.true_and] at hok
    exact ⟨i + 1, ⟨by omega, hok⟩, by omega, by simp [headW, heapW, envW, blkLt, D.ltL, D.lt, look, hget, hfl, hcl]⟩
  rw [hx] at hok
  simp only [FS, ↓RE, okR, argEnv, Nat.reduceAdd, Nat.reduceSub, Nat.reduceLT, Nat.reduceLeDiff, Nat.reduceEqDiff, reduceIte]
  refine call_of_pure (hIn _ _ _) rfl ?_
  cases hy : bIn y y1 y2
  · rw [hy] at hok
    simp only [FS, ↓RE, okR, argEnv, Nat.reduceAdd, Nat.reduceSub, Nat.reduceLT, Nat.reduceLeDiff, Nat.reduceEqDiff, reduceIte, hwi]
    simp only [Bool.and_false, Bool.not_false, Bool.true_and] at hok
    exact ⟨i + 1, ⟨by omega, hok⟩, by omega, by simp [headW, heapW, envW, blkLt, D.ltL, D.lt, look, hget, hfl, hcl]⟩
  · rw [hy] at hok
    simp only [FS, ↓RE, okR, argEnv, Nat.reduceAdd, Nat.reduceSub, Nat.reduceLT, Nat.reduceLeDiff, Nat.reduceEqDiff, reduceIte]
    rw [hok]; rfl
end Go.Sx
