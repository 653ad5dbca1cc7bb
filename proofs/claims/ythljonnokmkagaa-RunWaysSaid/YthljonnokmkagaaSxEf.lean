/- Own work: a calculus of contracts for the programs of this kit: parts SxE30r, SxE31r. -/
import Derived.Test.YthljonnokmkagaaSxEe
set_option linter.unusedVariables false
set_option linter.unusedSimpArgs false
namespace Go.Sx
open Go.Proofs
set_option maxRecDepth 10000

/-! Types of arguments -/
theorem tyRow {n : Nat} {ds : List D} (h : TyD Try.prog n 146 ds) : ∃ r : RRow, ds = enR.d r := by
  obtain ⟨hl, m, hf⟩ := tySt Try.underlying146 (by decide +kernel) h
  obtain ⟨a, b, rfl⟩ := list2 (hl.trans (by kernel_rfl))
  obtain ⟨x, hx, _⟩ := tyInt Fz.und_3 (hf 0 _ rfl)
  obtain ⟨y, hy, _⟩ := tyInt Fz.und_3 (hf 1 _ rfl)
  cases hx; cases hy
  exact ⟨⟨x, y⟩, rfl⟩
theorem tyEn {α : Type} {E : En α} {n : Nat} {t e : TypeId} {ds : List D} (hu : (Try.prog).underlying t = some (.slice e)) (hz : (Try.prog).cellsOf e ≠ 0) (he : ∀ m c, TyD Try.prog m e c → ∃ a, c = E.d a) (h : TyD Try.prog n t ds) : ∃ l : List α, ds = [.sl (l.map E.d)] ∧ l.length ≤ 9223372036854775807 := by
  obtain ⟨es, m, hs, hle, hc⟩ := tySl hu hz h
  obtain ⟨l, rfl⟩ := list_map (f := E.d) fun c hcm => he m c (hc c hcm).2
  have : maxLen ≤ 9223372036854775807 := by decide
  simp at hle
  exact ⟨l, hs, Nat.le_trans hle this⟩
theorem tyRows {n : Nat} {ds : List D} (h : TyD Try.prog n 22 ds) : ∃ l : List RRow, ds = [.sl (l.map RRow.d)] ∧ l.length ≤ 9223372036854775807 :=
  tyEn (E := enR) Fz.und_22 (by decide +kernel) (fun _ _ h => tyRow h) h
theorem tyInts {n : Nat} {ds : List D} (h : TyD Try.prog n 25 ds) : ∃ l : List Int, ds = [.sl (intL l)] ∧ l.length ≤ 9223372036854775807 :=
  tyEn (E := enI) Fz.und_25 (by decide +kernel) (fun _ _ h => by obtain ⟨x, hx, _⟩ := tyInt Fz.und_3 h; exact ⟨x, hx⟩) h
theorem tyBools {n : Nat} {ds : List D} (h : TyD Try.prog n 26 ds) : ∃ l : List Bool, ds = [.sl (boolL l)] ∧ l.length ≤ 9223372036854775807 :=
  tyEn (E := enB) Fz.und_26 (by decide +kernel) (fun _ _ h => by obtain ⟨x, hx⟩ := tyBool Fz.und_4 h; exact ⟨x, hx⟩) h
theorem tySpR {n : Nat} {ds : List D} (h : TyD Try.prog n 30 ds) : ∃ s : SpI, ds = s.c := by
  obtain ⟨hl, m, hf⟩ := tySt Try.underlying30 (by decide +kernel) h
  obtain ⟨a, b, rfl⟩ := list2 (hl.trans (by kernel_rfl))
  obtain ⟨x, hx, _⟩ := tyInt Fz.und_3 (hf 0 _ rfl)
  obtain ⟨y, hy, _⟩ := tyInt Fz.und_3 (hf 1 _ rfl)
  cases hx; cases hy
  exact ⟨⟨x, y⟩, rfl⟩
theorem tyAir {n : Nat} {ds : List D} (h : TyD Try.prog n 32 ds) : ∃ s : AirW, ds = s.c := by
  obtain ⟨hl, m, hf⟩ := tySt Try.underlying32 (by decide +kernel) h
  obtain ⟨a, b, c, d, rfl⟩ := list4 (hl.trans (by kernel_rfl))
  obtain ⟨x, hx⟩ := tySpR (hf 0 _ rfl)
  obtain ⟨y, hy⟩ := tySpR (hf 1 _ rfl)
  cases hx; cases hy
  exact ⟨⟨x, y⟩, rfl⟩
theorem tyLand {n : Nat} {ds : List D} (h : TyD Try.prog n 28 ds) : ∃ l : LandM, ds = l.c ∧ LandL l := by
  obtain ⟨hl, m, hf⟩ := tySt Try.underlying28 (by decide +kernel) h
  obtain ⟨a, b, c, d, e, rfl⟩ : ∃ a b c d e, ds = [a, b, c, d, e] := by
    match ds, hl.trans (by kernel_rfl : _ = 5) with
    | [a, b, c, d, e], _ => exact ⟨a, b, c, d, e, rfl⟩
  obtain ⟨x, hx, _⟩ := tyInt Fz.und_3 (hf 0 _ rfl)
  obtain ⟨y, hy, _⟩ := tyInt Fz.und_3 (hf 1 _ rfl)
  obtain ⟨g, hg, gl⟩ := tyInts (hf 2 _ rfl)
  obtain ⟨w, hw, wl⟩ := tyBools (hf 3 _ rfl)
  obtain ⟨z, hz, _⟩ := tyInt Fz.und_3 (hf 4 _ rfl)
  cases hx; cases hy; cases hg; cases hw; cases hz
  exact ⟨⟨x, y, g, w, z⟩, rfl, ⟨gl, wl⟩⟩
theorem tyCraft {n : Nat} {ds : List D} (h : TyD Try.prog n 24 ds) : ∃ c : Craft, ds = c.c ∧ CraftL c := by
  obtain ⟨hl, m, hf⟩ := tySt Try.underlying24 (by decide +kernel) h
  obtain ⟨a0, a1, a2, a3, a4, a5, a6, a7, a8, a9, a10, a11, a12, rfl⟩ : ∃ a0 a1 a2 a3 a4 a5 a6 a7 a8 a9 a10 a11 a12, ds = [a0, a1, a2, a3, a4, a5, a6, a7, a8, a9, a10, a11, a12] := by
    match ds, hl.trans (by kernel_rfl : _ = 13) with
    | [a0, a1, a2, a3, a4, a5, a6, a7, a8, a9, a10, a11, a12], _ => exact ⟨a0, a1, a2, a3, a4, a5, a6, a7, a8, a9, a10, a11, a12, rfl⟩
  obtain ⟨x0, h0, l0⟩ := tyRows (hf 0 _ rfl)
  obtain ⟨x1, h1, l1⟩ := tyRows (hf 1 _ rfl)
  obtain ⟨x2, h2, _⟩ := tyInt Fz.und_3 (hf 2 _ rfl)
  obtain ⟨x3, h3, _⟩ := tyInt Fz.und_3 (hf 3 _ rfl)
  obtain ⟨x4, h4, _⟩ := tyInt Fz.und_3 (hf 4 _ rfl)
  obtain ⟨x5, h5, _⟩ := tyInt Fz.und_3 (hf 5 _ rfl)
  obtain ⟨x6, h6, _⟩ := tyInt Fz.und_3 (hf 6 _ rfl)
  obtain ⟨x7, h7, _⟩ := tyInt Fz.und_3 (hf 7 _ rfl)
  obtain ⟨x8, h8, _⟩ := tyInt Fz.und_3 (hf 8 _ rfl)
  obtain ⟨x9, h9, _⟩ := tyInt Fz.und_3 (hf 9 _ rfl)
  obtain ⟨x10, h10, _⟩ := tyInt Fz.und_3 (hf 10 _ rfl)
  obtain ⟨x11, h11, l11⟩ := tyRows (hf 11 _ rfl)
  obtain ⟨x12, h12, _⟩ := tyInt Fz.und_3 (hf 12 _ rfl)
  cases h0; cases h1; cases h2; cases h3; cases h4; cases h5; cases h6; cases h7; cases h8; cases h9; cases h10; cases h11; cases h12
  exact ⟨⟨x0, x1, x2, x3, x4, x5, x6, x7, x8, x9, x10, x11, x12⟩, rfl, ⟨l0, l1, l11⟩⟩

/-! Small functions of the law -/
def shortC (c : Craft) : Bool := decide (c.off.length ≤ 20) && (decide (c.on.length ≤ 20) && decide (c.ceil.length ≤ 20))
theorem short_t (c : Craft) (hc : CraftL c) : Pure Try.prog 14 [.agg c.c] (.bool (shortC c)) := by
  have l1 := fun hp => En.len (P := Try.prog) Fz.und_22 (En.sl_map (E := enR) c.off) hp
  have l2 := fun hp => En.len (P := Try.prog) Fz.und_22 (En.sl_map (E := enR) c.on) hp
  have l3 := fun hp => En.len (P := Try.prog) Fz.und_22 (En.sl_map (E := enR) c.ceil) hp
  simp only [enR] at l1 l2 l3
  simp only [Craft.c, shortC]
  refine pure_of_wc (rs := [.tmp 2]) (m := 19) [] oNone_ok (by kernel_rfl) Try.func14 rfl (by kernel_rfl) rfl rfl (by kernel_rfl) ?_
  simp only [RT, FS, ↓RE, okR, argEnv, Nat.reduceAdd, Nat.reduceSub, Nat.reduceLT, Nat.reduceLeDiff, Nat.reduceEqDiff, reduceIte, l1, l2, l3]
  have e1 : ((c.off.length : Int) ≤ 20) = (c.off.length ≤ 20) := by simp only [eq_iff_iff]; omega
  have e2 : ((c.on.length : Int) ≤ 20) = (c.on.length ≤ 20) := by simp only [eq_iff_iff]; omega
  have e3 : ((c.ceil.length : Int) ≤ 20) = (c.ceil.length ≤ 20) := by simp only [eq_iff_iff]; omega
  simp only [e1, e2, e3]
  cases decide (c.off.length ≤ 20) <;> cases decide (c.on.length ≤ 20) <;> cases decide (c.ceil.length ≤ 20) <;> simp [BR]
theorem ref3_Weight_t (w : Int) : Pure Try.prog 49 [.int .i64 w] (.bool (rI w 0 100000)) := by
  refine pure_of_wc (rs := [.tmp 2]) (m := 5) [] e1_ok (by kernel_rfl) Try.func49 rfl (by kernel_rfl) rfl rfl (by kernel_rfl) ?_
  simp only [RT, FS, ↓RE, okR, argEnv, Nat.reduceAdd, Nat.reduceSub, Nat.reduceLT, Nat.reduceLeDiff, Nat.reduceEqDiff, reduceIte, gI3_eq]
theorem alongW_t (w : Int) : Pure Try.prog 55 [.int .i64 w] (.bool (rI w (-600) 600)) := by
  refine pure_of_wc (rs := [.tmp 2]) (m := 9) [] oNone_ok (by kernel_rfl) Try.func55 rfl (by kernel_rfl) rfl rfl (by kernel_rfl) ?_
  simp only [RT, FS, ↓RE, okR, argEnv, Nat.reduceAdd, Nat.reduceSub, Nat.reduceLT, Nat.reduceLeDiff, Nat.reduceEqDiff, reduceIte]
  unfold rI
  cases decide (-600 ≤ w) <;> simp [BR]
theorem waveW_t (w : Int) : Pure Try.prog 56 [.int .i64 w] (.bool (rI w 0 2000)) := by
  refine pure_of_wc (rs := [.tmp 2]) (m := 9) [] oNone_ok (by kernel_rfl) Try.func56 rfl (by kernel_rfl) rfl rfl (by kernel_rfl) ?_
  simp only [RT, FS, ↓RE, okR, argEnv, Nat.reduceAdd, Nat.reduceSub, Nat.reduceLT, Nat.reduceLeDiff, Nat.reduceEqDiff, reduceIte]
  unfold rI
  cases decide (0 ≤ w) <;> simp [BR]
end Go.Sx

namespace Go.Sx
open Go.Proofs
set_option maxRecDepth 10000

def rlenO (c : Craft) (k w al wv : Int) : Option Int := (sayO (tabOf c k) w).map fun m => lenI c m al wv
theorem ref3_Length_t (c : Craft) (hc : CraftOk c) (k w al wv : Int) (ha : -600 ≤ al ∧ al ≤ 600) :
    Pure Try.prog 57 [.agg c.c, .int .i64 k, .int .i64 w, .int .i64 al, .int .i64 wv] (sayD (rlenO c k w al wv)) := by
  have pt := ref3_Table_t c k
  have ps := ref3_Says_t (tabOf c k) w (by have := (hc.tab k).2.1; omega)
  have hsl := fun m (h : sayO (tabOf c k) w = some m) => sayO_le (hc.tab k).1 h
  unfold rlenO
  cases hs : sayO (tabOf c k) w with
  | none =>
    simp only [hs, sayD] at ps
    simp only [Craft.c, Option.map_none, sayD] at pt ⊢
    refine pure_of_wc (rs := [.tmp 10, .tmp 11]) (m := 58) [] oNone_ok (by kernel_rfl) Try.func57 rfl (by kernel_rfl) rfl rfl (by kernel_rfl) ?_
    simp only [RT, FS, ↓RE, okR, argEnv, Nat.reduceAdd, Nat.reduceSub, Nat.reduceLT, Nat.reduceLeDiff, Nat.reduceEqDiff, reduceIte]
    refine call_of_pure' pt (by simp [D.ltL, D.lt]) (by simp [D.lt]) ?_
    simp only [RT, FS, ↓RE, okR, argEnv, Nat.reduceAdd, Nat.reduceSub, Nat.reduceLT, Nat.reduceLeDiff, Nat.reduceEqDiff, reduceIte]
    refine call_of_pure' ps (by simp [D.ltL, D.lt]) (by simp [D.lt, D.ltL]) ?_
    simp only [RT, FS, ↓RE, okR, argEnv, Nat.reduceAdd, Nat.reduceSub, Nat.reduceLT, Nat.reduceLeDiff, Nat.reduceEqDiff, reduceIte, ex_tup]
  | some m =>
    have hm := hsl m hs
    have hg := hc.n.gr
    simp only [hs, sayD] at ps
    have hu1 := upI_le (m := m) (f := c.gby) ⟨hm.1, hm.2, hc.n.gby⟩
    have hu2 := upI_le (m := m) (f := c.rby) ⟨hm.1, hm.2, hc.n.rby⟩
    have g1 := Int.mul_nonneg hm.1 hc.n.gby.1
    have g2 := Int.mul_le_mul hm.2 hc.n.gby.2 hc.n.gby.1 (by omega)
    have r1 := Int.mul_nonneg hm.1 hc.n.rby.1
    have r2 := Int.mul_le_mul hm.2 hc.n.rby.2 hc.n.rby.1 (by omega)
    have p1 := ref3_up_t (m * c.gby) ⟨by omega, by omega⟩
    have p2 := ref3_up_t (m * c.rby) ⟨by omega, by omega⟩
    have wg := wrap_i64 (z := m * c.gby) (by omega) (by omega)
    have wr := wrap_i64 (z := m * c.rby) (by omega) (by omega)
    have d1 := drag_le hc.n.head ha
    have d2 := drag_le hc.n.tail ha
    have wh := wrap_i64 (z := c.head * al) (by omega) (by omega)
    have wt := wrap_i64 (z := c.tail * al) (by omega) (by omega)
    have wa := fun z d (h : 0 ≤ z ∧ z ≤ 100001) (hd : -30000 ≤ d ∧ d ≤ 30000) => wrap_i64 (z := z + d) (by omega) (by omega)
    simp only [Craft.c, Option.map_some, sayD] at pt ⊢
    refine pure_of_wc (rs := [.tmp 10, .tmp 11]) (m := 58) [] oNone_ok (by kernel_rfl) Try.func57 rfl (by kernel_rfl) rfl rfl (by kernel_rfl) ?_
    simp only [RT, FS, ↓RE, okR, argEnv, Nat.reduceAdd, Nat.reduceSub, Nat.reduceLT, Nat.reduceLeDiff, Nat.reduceEqDiff, reduceIte]
    refine call_of_pure' pt (by simp [D.ltL, D.lt]) (by simp [D.lt]) ?_
    simp only [RT, FS, ↓RE, okR, argEnv, Nat.reduceAdd, Nat.reduceSub, Nat.reduceLT, Nat.reduceLeDiff, Nat.reduceEqDiff, reduceIte]
    refine call_of_pure' ps (by simp [D.ltL, D.lt]) (by simp [D.lt, D.ltL]) ?_
    by_cases h1 : wv < c.glass
    · have n2 : ¬ c.rough < wv := by omega
      simp only [RT, FS, ↓RE, okR, argEnv, Nat.reduceAdd, Nat.reduceSub, Nat.reduceLT, Nat.reduceLeDiff, Nat.reduceEqDiff, reduceIte, ex_tup, h1, n2, decide_true, decide_false, wg]
      refine call_of_pure p1 rfl ?_
      by_cases ha0 : al < 0
      · simp only [RT, FS, ↓RE, okR, argEnv, Nat.reduceAdd, Nat.reduceSub, Nat.reduceLT, Nat.reduceLeDiff, Nat.reduceEqDiff, reduceIte, h1, n2, decide_true, decide_false, ha0, wh]
        have := wa (upI m c.gby) _ hu1 d1
        unfold upI at this
        simp only [this]
        simp [lenI, updI, h1, ha0, upI]
      · simp only [RT, FS, ↓RE, okR, argEnv, Nat.reduceAdd, Nat.reduceSub, Nat.reduceLT, Nat.reduceLeDiff, Nat.reduceEqDiff, reduceIte, h1, n2, decide_true, decide_false, ha0, wt]
        have := wa (upI m c.gby) _ hu1 d2
        unfold upI at this
        simp only [this]
        simp [lenI, updI, h1, ha0, upI]
    by_cases h2 : c.rough < wv
    · simp only [RT, FS, ↓RE, okR, argEnv, Nat.reduceAdd, Nat.reduceSub, Nat.reduceLT, Nat.reduceLeDiff, Nat.reduceEqDiff, reduceIte, ex_tup, h1, h2, decide_true, decide_false, wr]
      refine call_of_pure p2 rfl ?_
      by_cases ha0 : al < 0
      · simp only [RT, FS, ↓RE, okR, argEnv, Nat.reduceAdd, Nat.reduceSub, Nat.reduceLT, Nat.reduceLeDiff, Nat.reduceEqDiff, reduceIte, h1, h2, decide_true, decide_false, ha0, wh]
        have := wa (upI m c.rby) _ hu2 d1
        unfold upI at this
        simp only [this]
        simp [lenI, updI, h1, h2, ha0, upI]
      · simp only [RT, FS, ↓RE, okR, argEnv, Nat.reduceAdd, Nat.reduceSub, Nat.reduceLT, Nat.reduceLeDiff, Nat.reduceEqDiff, reduceIte, h1, h2, decide_true, decide_false, ha0, wt]
        have := wa (upI m c.rby) _ hu2 d2
        unfold upI at this
        simp only [this]
        simp [lenI, updI, h1, h2, ha0, upI]
    by_cases ha0 : al < 0
    · have w2 := wa m _ (by omega) d1
      simp only [RT, FS, ↓RE, okR, argEnv, Nat.reduceAdd, Nat.reduceSub, Nat.reduceLT, Nat.reduceLeDiff, Nat.reduceEqDiff, reduceIte, ex_tup, h1, h2, decide_true, decide_false, ha0, wh, w2]
      simp [lenI, updI, h1, h2, ha0]
    · have w2 := wa m _ (by omega) d2
      simp only [RT, FS, ↓RE, okR, argEnv, Nat.reduceAdd, Nat.reduceSub, Nat.reduceLT, Nat.reduceLeDiff, Nat.reduceEqDiff, reduceIte, ex_tup, h1, h2, decide_true, decide_false, ha0, wt, w2]
      simp [lenI, updI, h1, h2, ha0]

/-! The plain law -/
/-- What Length answers. -/
def LenR (c : Craft) (k w al wv : Int) : Int × Int := ((BoundsR c k ⟨w, w⟩ ⟨al, al⟩ ⟨wv, wv⟩).1.lo, (BoundsR c k ⟨w, w⟩ ⟨al, al⟩ ⟨wv, wv⟩).2)
end Go.Sx
