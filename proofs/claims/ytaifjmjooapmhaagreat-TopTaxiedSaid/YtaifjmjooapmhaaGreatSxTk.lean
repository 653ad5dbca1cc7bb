/- Own work: a calculus of contracts for the programs of this kit: parts SxT4t, SxT5t. -/
import Derived.Test.YtaifjmjooapmhaaGreatSxTd
import Derived.Test.YtaifjmjooapmhaaGreatSxTc
import Derived.Test.YtaifjmjooapmhaaGreatSxMh
set_option linter.unusedVariables false
set_option linter.unusedSimpArgs false
namespace Go.Sx
open Go.Proofs
set_option maxRecDepth 10000

def briefS (s : Se) : Bool := decide ((s.w.tide.rs.length : Int) ≤ 12) && (decide ((s.w.east.rs.length : Int) ≤ 12) && (decide ((s.w.north.rs.length : Int) ≤ 12) && (decide ((s.w.wave.rs.length : Int) ≤ 12) && decide ((s.w.swell.rs.length : Int) ≤ 12))))
def sea20B (s : Se) : Bool := briefS s && (okSe s && soundW s.w)
theorem sea20_t (s : Se) (gd : D) (h : SeL s gd) : Pure Tryz.prog 4 [.agg (s.c gd)] (.bool (sea20B s)) := by
 have vg := fun hp => En.view h.gd hp
 have lg := En.lt h.gd
 have cg := fun hp => En.cur h.gd hp
 have pS := rsea_t s gd h
 have pW := fun (hs : okSe s = true) => rsound_t s.w (okWx_gaOk (okSe_wx hs))
 have hR : briefS s = (decide ((s.w.tide.rs.length : Int) ≤ 12) && (decide ((s.w.east.rs.length : Int) ≤ 12) && (decide ((s.w.north.rs.length : Int) ≤ 12) && (decide ((s.w.wave.rs.length : Int) ≤ 12) && decide ((s.w.swell.rs.length : Int) ≤ 12))))) := rfl
 unfold sea20B
 generalize briefS s = RR at *
 simp only [Se.c, Se.cr, Wx.c, gaC] at pS pW ⊢
 refine pure_of_pieces (rs := [.tmp 2]) (m := 49) [] oNone_ok (by kernel_rfl) Tryz.func4 rfl (by kernel_rfl) rfl rfl (by kernel_rfl) ?_
 refine awp_peel (T := []) oNone_ok (by kernel_rfl) (by kernel_rfl) ?_
 simp only [FS, ↓RE, okR, argEnv, Nat.reduceAdd, Nat.reduceSub, Nat.reduceLT, Nat.reduceLeDiff, Nat.reduceEqDiff, reduceIte, RT, RM]
 refine awp_peel (T := []) oNone_ok (by kernel_rfl) (by kernel_rfl) ?_
 simp only [FS, ↓RE, okR, argEnv, Nat.reduceAdd, Nat.reduceSub, Nat.reduceLT, Nat.reduceLeDiff, Nat.reduceEqDiff, reduceIte, RT, RM]
 refine awp_cut oNone_ok (by kernel_rfl) [(1, .ptr 0 0), (3, .ptr 1 0), (4, .bool RR)] [(1, .box (s.w.c [])), (0, .box (s.c gd))] 2 49 (T := []) (by kernel_rfl) ?_ ?_
 ·obtain ⟨r1, c1⟩ : ∃ r, decide ((s.w.tide.rs.length : Int) ≤ 12) = r := ⟨_, rfl⟩
  obtain ⟨r2, c2⟩ : ∃ r, decide ((s.w.east.rs.length : Int) ≤ 12) = r := ⟨_, rfl⟩
  obtain ⟨r3, c3⟩ : ∃ r, decide ((s.w.north.rs.length : Int) ≤ 12) = r := ⟨_, rfl⟩
  obtain ⟨r4, c4⟩ : ∃ r, decide ((s.w.wave.rs.length : Int) ≤ 12) = r := ⟨_, rfl⟩
  obtain ⟨r5, c5⟩ : ∃ r, decide ((s.w.swell.rs.length : Int) ≤ 12) = r := ⟨_, rfl⟩
  rw [c1, c2, c3, c4, c5] at hR
  cases r1
  ·simp only [FS, ↓RE, okR, argEnv, Nat.reduceAdd, Nat.reduceSub, Nat.reduceLT, Nat.reduceLeDiff, Nat.reduceEqDiff, reduceIte, RT, RM, List.length_map, vg, lg, cg, c1]
   rw [hR]; simp [headW, heapW, envW, blkLt, D.ltL, D.lt, look, hget, lg]
  cases r2
  ·simp only [FS, ↓RE, okR, argEnv, Nat.reduceAdd, Nat.reduceSub, Nat.reduceLT, Nat.reduceLeDiff, Nat.reduceEqDiff, reduceIte, RT, RM, List.length_map, vg, lg, cg, c1, c2]
   rw [hR]; simp [headW, heapW, envW, blkLt, D.ltL, D.lt, look, hget, lg]
  cases r3
  ·simp only [FS, ↓RE, okR, argEnv, Nat.reduceAdd, Nat.reduceSub, Nat.reduceLT, Nat.reduceLeDiff, Nat.reduceEqDiff, reduceIte, RT, RM, List.length_map, vg, lg, cg, c1, c2, c3]
   rw [hR]; simp [headW, heapW, envW, blkLt, D.ltL, D.lt, look, hget, lg]
  cases r4
  ·simp only [FS, ↓RE, okR, argEnv, Nat.reduceAdd, Nat.reduceSub, Nat.reduceLT, Nat.reduceLeDiff, Nat.reduceEqDiff, reduceIte, RT, RM, List.length_map, vg, lg, cg, c1, c2, c3, c4]
   rw [hR]; simp [headW, heapW, envW, blkLt, D.ltL, D.lt, look, hget, lg]
  simp only [FS, ↓RE, okR, argEnv, Nat.reduceAdd, Nat.reduceSub, Nat.reduceLT, Nat.reduceLeDiff, Nat.reduceEqDiff, reduceIte, RT, RM, List.length_map, vg, lg, cg, c1, c2, c3, c4, c5]
  rw [hR]; simp [headW, heapW, envW, blkLt, D.ltL, D.lt, look, hget, lg]
 refine awp_rest (T := []) oNone_ok (by kernel_rfl) (by kernel_rfl) ?_
 cases RR
 ·simp only [FS, ↓RE, okR, argEnv, Nat.reduceAdd, Nat.reduceSub, Nat.reduceLT, Nat.reduceLeDiff, Nat.reduceEqDiff, reduceIte, RT, RM]
  rfl
 simp only [FS, ↓RE, okR, argEnv, Nat.reduceAdd, Nat.reduceSub, Nat.reduceLT, Nat.reduceLeDiff, Nat.reduceEqDiff, reduceIte, RT, RM, vg, lg, cg]
 refine call_of_pure pS rfl ?_
 cases hs : okSe s
 ·simp only [FS, ↓RE, okR, argEnv, Nat.reduceAdd, Nat.reduceSub, Nat.reduceLT, Nat.reduceLeDiff, Nat.reduceEqDiff, reduceIte, RT, RM]
  rfl
 simp only [FS, ↓RE, okR, argEnv, Nat.reduceAdd, Nat.reduceSub, Nat.reduceLT, Nat.reduceLeDiff, Nat.reduceEqDiff, reduceIte, RT, RM]
 refine call_of_pure (pW hs) rfl ?_
 simp only [FS, ↓RE, okR, argEnv, Nat.reduceAdd, Nat.reduceSub, Nat.reduceLT, Nat.reduceLeDiff, Nat.reduceEqDiff, reduceIte, RT, RM]
 simp
end Go.Sx

namespace Go.Sx
open Go.Proofs
set_option maxRecDepth 10000

def stI (s : Se) (i : Nat) : Sp := ⟨(i : Int) % s.wide, (i : Int) / s.wide, 3, 1⟩
def lkI (s : Se) (gd : D) (t : Tr) (i : Nat) : Lk := ⟨s, gd, stI s i, ⟨0, 0, 0, 0, 0, 0, 0⟩, t.minute⟩
def wetI (s : Se) (gd : D) (t : Tr) (dr : Int) (i : Nat) : Bool := decide ((DeepA (lkI s gd t i) 1).2 = 0) && decide (dr ≤ (DeepA (lkI s gd t i) 1).1)
theorem stI_xy {s : Se} (hs : okSe s = true) {i : Nat} (hi : i < s.depths.length) : (0 ≤ (i : Int) % s.wide ∧ (i : Int) % s.wide ≤ s.wide - 1) ∧ (0 ≤ (i : Int) / s.wide ∧ (i : Int) / s.wide ≤ s.deep - 1) := by
 obtain ⟨hw, hd, hn⟩ := okSe_sz hs
 have h1 := Int.emod_nonneg (i : Int) (show s.wide ≠ 0 by omega)
 have h2 := Int.emod_lt_of_pos (i : Int) (show 0 < s.wide by omega)
 have h3 := Int.ediv_nonneg (show (0 : Int) ≤ (i : Int) by omega) (show 0 ≤ s.wide by omega)
 have h4 : (i : Int) / s.wide < s.deep := Int.ediv_lt_of_lt_mul (by omega) (by rw [Int.mul_comm]; omega)
 omega
theorem stI_ok {s : Se} (hs : okSe s = true) {i : Nat} (hi : i < s.depths.length) : okSp s (stI s i) = true := by
 obtain ⟨hw, hd, _⟩ := okSe_sz hs
 obtain ⟨h1, h2⟩ := stI_xy hs hi
 simp only [okSp, stI, okWay, bIn, Bool.and_eq_true, decide_eq_true_eq, Int.sub_self, Int.mul_zero, Int.add_zero]
 exact ⟨⟨decide_eq_true (by omega), decide_eq_true (by omega)⟩, ⟨decide_eq_true (by omega), decide_eq_true (by omega)⟩, ⟨decide_eq_true (by omega), decide_eq_true (by omega)⟩, ⟨decide_eq_true (by omega), decide_eq_true (by omega)⟩, h1, h2⟩
theorem deep_cases {s : Se} {gd : D} {t : Tr} (hs : okSe s = true) (hso : soundW s.w = true) (ht : 0 ≤ t.minute ∧ t.minute ≤ 1440) {i : Nat} (hi : i < s.depths.length) :
  DeepA (lkI s gd t i) 1 = if deepB (lkI s gd t i) 1 < 0 then (0, 7) else (min (deepB (lkI s gd t i) 1) 5000, 0) := by
 have h1 : okSp s (stI s i) = true := stI_ok hs hi
 have h2 : bIn t.minute 0 1440 = true := by simp only [bIn, Bool.and_eq_true, decide_eq_true_eq]; omega
 have h3 : runG s.w.tide = true := by simp only [soundW, Bool.and_eq_true] at hso; exact hso.1
 unfold DeepA
 show (if okSe s && (okSp s (stI s i) && (bIn 1 1 12 && bIn t.minute 0 1440)) then (if runG s.w.tide then _ else _) else _) = _
 rw [hs, h1, h2, h3]
 rfl
theorem freeB_at {th : Nat → Bool} {x y : Int} : ∀ {bs : List Bt} {i : Nat}, freeB th x y bs i = true → ∀ (k : Nat) (b : Bt), bs[k]? = some b → th (i + k) = true → inW b x y = false
 | [], _, _, k, b, hb, _ => by simp at hb
 | c :: r, i, h, k, b, hb, ht => by
  simp only [freeB, Bool.and_eq_true, Bool.not_eq_true', Bool.and_eq_false_iff] at h
  cases k with
  | zero =>
   simp only [List.getElem?_cons_zero, Option.some.injEq] at hb
   subst hb
   rcases h.1 with h | h
   ·rw [Nat.add_zero] at ht; rw [h] at ht; cases ht
   ·exact h
  | succ k =>
   rw [List.getElem?_cons_succ] at hb
   exact freeB_at h.2 k b hb (by rw [show i + 1 + k = i + (k + 1) by omega]; exact ht)
theorem shoal {s : Se} {gd : D} {t : Tr} {dr : Int} (hs : okSe s = true) (hso : soundW s.w = true) (ht : TrOk s t) (ha : AgOk s t) (hdr : 0 ≤ dr ∧ dr ≤ 5000) {i : Nat} (hi : i < s.depths.length) (h : wetI s gd t dr i = true) :
  dr ≤ t.depths.getD i 0 + t.tide ∧ ∀ (k : Nat) (b : Bt), s.boats[k]? = some b → bAt t.boats k = true → inW b ((i : Int) % s.wide) ((i : Int) / s.wide) = false := by
 have hD := deep_cases (gd := gd) hs hso ht.minute hi
 simp only [wetI, Bool.and_eq_true, decide_eq_true_eq] at h
 rw [hD] at h
 have hge : ¬ deepB (lkI s gd t i) 1 < 0 := fun hn => by rw [if_pos hn] at h; exact absurd h.1 (by decide)
 rw [if_neg hge] at h
 have hb : dr ≤ deepB (lkI s gd t i) 1 := by have := h.2; simp only at this; omega
 have hcell : cellI s (stI s i) ((0 : Nat) : Int) = (i : Int) := by
  simp only [cellI, pyK, pxK, stI, Int.natCast_zero, Int.zero_mul, Int.add_zero]
  have := Int.emod_add_mul_ediv (i : Int) s.wide
  rw [Int.mul_comm ((i : Int) / s.wide)]; omega
 have hpx : pxK (stI s i) ((0 : Nat) : Int) = (i : Int) % s.wide := by simp [pxK, stI]
 have hpy : pyK (stI s i) ((0 : Nat) : Int) = (i : Int) / s.wide := by simp [pyK, stI]
 obtain ⟨o, ho, hl⟩ := (bestD_le hdr.1 _).1 (show dr ≤ bestD (frL (lkI s gd t i)) (dpL (lkI s gd t i)) 1 1 from hb)
 obtain rfl : o = 0 := by omega
 rcases (leastR_le hdr.1 1 0 1073741824).1 hl with ⟨h0, _⟩ | ⟨_, _, hall⟩
 ·exact absurd h0 (by decide)
 obtain ⟨hfr, hdp⟩ := hall 0 (by omega)
 simp only [Nat.add_zero] at hfr hdp
 have hdp : dr ≤ (dpAt s (cellI s (stI s i) ((0 : Nat) : Int))).1 + (atL s.w.tide t.minute).1 := hdp
 have hfr : freeB (passB (lkI s gd t i)) (pxK (stI s i) ((0 : Nat) : Int)) (pyK (stI s i) ((0 : Nat) : Int)) s.boats 0 = true := hfr
 rw [hcell] at hdp
 rw [hpx, hpy] at hfr
 have hd : s.depths[i]? = some (dpAt s (i : Int)) := by simp [dpAt, hi, List.getD]
 have hx : t.depths[i]? = some (t.depths.getD i 0) := by
  have : i < t.depths.length := by rw [ht.dl]; exact hi
  simp [this, List.getD]
 have h1 := (ha.depth i _ _ hd hx).1
 have h2 := ha.tide.1
 refine ⟨by omega, fun k b hk hbt => ?_⟩
 have hp := (tr_boat (gd := gd) (p := stI s i) (n := ⟨0, 0, 0, 0, 0, 0, 0⟩) ht ha k).1 hbt
 exact freeB_at hfr k b hk (by rw [Nat.zero_add]; exact hp)
end Go.Sx
