/- Own work: contracts of functions, used in the proof of a law. -/
import Derived.Test.YtjhoplbdpdbgaaaGreatDoorSxC37z
set_option linter.unusedVariables false
set_option linter.unusedSimpArgs false
namespace Go.Sx
open Go.Proofs
set_option maxRecDepth 10000

def enSp : En Sp where
  d := Sp.c
  dec | [.int .i64 x, .int .i64 y, .int .i64 w, .int .i64 c] => some ⟨x, y, w, c⟩ | _ => none
  h1 _ := rfl
  h2 c a h := by
    split at h
    · cases h; rfl
    · cases h
  sz := 4
  hsz _ := rfl
theorem neg_one_lt {s : Bool} {o : Int} (h : s = true → 0 ≤ o) : decide (0 ≤ (if s then o else -1)) = s := by
  cases s
  · rfl
  · simpa using h rfl
theorem surely_off {l : Lk} (h : surelyB l = true) : 0 ≤ offL l := by
  simp only [surelyB, Bool.and_eq_true, decide_eq_true_eq] at h
  exact h.1

/-- How many minutes of the first so many. -/
def cntB (f : Nat → Bool) : Nat → Int
  | 0 => 0
  | m + 1 => if f m then cntB f m + 1 else cntB f m
theorem cntB_le (f : Nat → Bool) : ∀ m, 0 ≤ cntB f m ∧ cntB f m ≤ m
  | 0 => by simp [cntB]
  | m + 1 => by
    have := cntB_le f m
    simp only [cntB]; split <;> omega
def bestG (c : Sp → Int) : List Sp → Nat → Int × Int → Int × Int
  | [], _, st => st
  | p :: r, i, st => bestG c r (i + 1) (if st.2 < c p then ((i : Int), c p) else st)
abbrev lkT (s : Se) (gd : D) (n : Nd) (p : Sp) (t : Nat) : Lk := ⟨s, gd, p, n, (t : Int)⟩
def cntS (s : Se) (gd : D) (n : Nd) (p : Sp) : Int := cntB (fun t => surelyB (lkT s gd n p t)) 1441

def decS4 : List D → Option Lk
  | [.agg cs, .agg [.int .i64 x, .int .i64 y, .int .i64 w, .int .i64 c], .agg [.int .i64 a, .int .i64 b, .int .i64 d, .int .i64 e, .int .i64 f, .int .i64 g, .int .i64 h], .int .i64 t] => match decSe [.agg cs] with
    | some (s, gd) => some ⟨s, gd, ⟨x, y, w, c⟩, ⟨a, b, d, e, f, g, h⟩, t⟩
    | none => none
  | _ => none
theorem decS4_eq (l : Lk) (h : enGl.sl l.gd = some l.s.glares) : decS4 [.agg (l.s.c l.gd), .agg l.p.c, .agg l.n.c, .int .i64 l.t] = some l := by
  have := decSe_eq h
  simp only [decS4, this]
theorem decS4_inv {ds : List D} {l : Lk} (h : decS4 ds = some l) : ds = [.agg (l.s.c l.gd), .agg l.p.c, .agg l.n.c, .int .i64 l.t] ∧ enGl.sl l.gd = some l.s.glares := by
  unfold decS4 at h
  split at h
  · split at h
    · rename_i h1
      cases h
      obtain ⟨a, b⟩ := decSe_inv h1
      refine ⟨?_, b⟩
      simp only [List.cons.injEq, and_true] at a
      rw [a]
    · cases h
  · cases h
def lkB (l : Lk) : Bool := seLen l.s && (okSe l.s && (okSp l.s l.p && (okNd l.n && bIn l.t 0 1440)))
theorem lkB_iff {l : Lk} (hg : enGl.sl l.gd = some l.s.glares) : lkB l = true ↔ LkOk l := by
  simp only [lkB, Bool.and_eq_true, bIn, decide_eq_true_eq, seLen_iff hg]
  exact ⟨fun ⟨a, b, c, d, e⟩ => ⟨a, b, c, d, e⟩, fun ⟨a, b, c, d, e⟩ => ⟨a, b, c, d, e⟩⟩
def gRs : List D → Option D := orc decS4 lkB fun l => .int .i64 (if surelyB l then offL l else -1)
theorem gRs_eq {l : Lk} (h : LkOk l) : gRs [.agg (l.s.c l.gd), .agg l.p.c, .agg l.n.c, .int .i64 l.t] = some (.int .i64 (if surelyB l then offL l else -1)) := orc_eq (decS4_eq l h.se.gd) ((lkB_iff h.se.gd).2 h)
abbrev o38 : List (FuncId × (List D → Option D)) := (28, gRs) :: o37
theorem o38_ok : OkO Tryz.prog (mkO o38) := mkO_ok (orc_ok fun ds l hd hk => by
    obtain ⟨rfl, hg⟩ := decS4_inv hd
    exact rSure_t l ((lkB_iff hg).1 hk)) o37_ok

theorem bestG_bounds (c : Sp → Int) (hc : ∀ p, 0 ≤ c p ∧ c p ≤ 1441) : ∀ (l : List Sp) (i : Nat) (st : Int × Int), (0 ≤ st.2 ∧ st.2 ≤ 1441) → 0 ≤ (bestG c l i st).2 ∧ (bestG c l i st).2 ≤ 1441
  | [], _, st, h => h
  | p :: r, i, st, h => by
    simp only [bestG]
    refine bestG_bounds c hc r (i + 1) _ ?_
    split
    · exact hc p
    · exact h
theorem cntS_b (s : Se) (gd : D) (n : Nd) (p : Sp) : 0 ≤ cntS s gd n p ∧ cntS s gd n p ≤ 1441 := by
  have := cntB_le (fun t => surelyB (lkT s gd n p t)) 1441
  exact this

theorem rBest_t (s : Se) (gd : D) (h : SeL s gd) (hs : okSe s = true) (n : Nd) (hn : okNd n = true) (ps : List Sp) (hps : ∀ p ∈ ps, okSp s p = true) (hl : ps.length ≤ 100) :
    Pure Tryz.prog 20 [.agg (s.c gd), .sl (ps.map enSp.d), .agg n.c] (.tup [.int .i64 (bestG (cntS s gd n) ps 0 (0, 0)).1, .int .i64 (bestG (cntS s gd n) ps 0 (0, 0)).2]) := by
  have vg := fun hp => En.view h.gd hp
  have lg := En.lt h.gd
  have hpl := fun hp => En.len (P := Tryz.prog) Fz.und_34 (En.sl_map (E := enSp) ps) hp
  generalize hr : bestG (cntS s gd n) ps 0 (0, 0) = r
  refine pure_of_wc (rs := [.tmp 6, .tmp 7]) (m := 41) [(9, [(9, false, false, [])])] o38_ok (by kernel_rfl) Tryz.func20 rfl (by kernel_rfl) rfl rfl (by kernel_rfl) ?_
  simp only [FS, ↓RE, okR, argEnv, Nat.reduceAdd, Nat.reduceSub, Nat.reduceLT, Nat.reduceLeDiff, Nat.reduceEqDiff, reduceIte]
  refine loopV (ι := Nat × Int × Int) o38_ok [(9, [(9, false, false, [])])] (fun i => [(1, .sl (ps.map enSp.d)), (3, .ptr 0 0), (5, .ptr 1 0), (8, .int .i64 i.2.1), (9, .int .i64 i.2.2), (10, .int .i64 (i.1 : Int))])
    (fun i => [(1, .box n.c), (0, .box (s.c gd))]) 2 (fun i => i.1 ≤ ps.length ∧ (0 ≤ i.2.2 ∧ i.2.2 ≤ 1441) ∧ r = bestG (cntS s gd n) (ps.drop i.1) i.1 i.2) (fun i => ps.length - i.1) (0, 0, 0) (by kernel_rfl) (by kernel_rfl) ⟨Nat.zero_le _, by simp, hr.symm⟩ ?_ ?_
  · simp [headW, heapW, envW, blkLt, D.ltL, D.lt, look, hget, lg]
  rintro ⟨i, b, m⟩ ⟨hi, hm, hri⟩
  dsimp only at hi hm hri ⊢
  rcases Nat.lt_or_ge i ps.length with hilt | hige
  rotate_left
  · have hc : ((i : Int) < (ps.length : Int)) = False := by simp; omega
    rw [List.drop_of_length_le hige] at hri
    simp only [bestG] at hri
    subst hri
    simp only [FS, ↓RE, okR, argEnv, Nat.reduceAdd, Nat.reduceSub, Nat.reduceLT, Nat.reduceLeDiff, Nat.reduceEqDiff, reduceIte, hpl, hc, decide_false]
  have hc : ((i : Int) < (ps.length : Int)) = True := by simp [hilt]
  obtain ⟨p, hp⟩ : ∃ p, ps[i]? = some p := ⟨ps[i], by simp [hilt]⟩
  have hpo := hps p (List.mem_of_getElem? hp)
  have hix : ∀ hh, indexAddrD Tryz.prog hh 34 (.sl (ps.map enSp.d)) (.int .i64 (i : Int)) = some (.ref [.int .i64 p.x, .int .i64 p.y, .int .i64 p.way, .int .i64 p.cells] 0) := fun hh => En.ix (P := Tryz.prog) Fz.und_34 Fz.size_46 (En.sl_map (E := enSp) ps) hp hh .i64
  rw [drop_at hp] at hri
  simp only [bestG] at hri
  have hwi := wrap_i64 (z := (i : Int) + 1) (by omega) (by omega)
  simp only [FS, ↓RE, okR, argEnv, Nat.reduceAdd, Nat.reduceSub, Nat.reduceLT, Nat.reduceLeDiff, Nat.reduceEqDiff, reduceIte, hpl, hc, decide_true]
  refine loopV (ι := Nat) o38_ok [(9, [(9, false, false, [])])] (fun t => [(1, .sl (ps.map enSp.d)), (3, .ptr 0 0), (5, .ptr 1 0), (8, .int .i64 b), (9, .int .i64 m), (10, .int .i64 (i : Int)), (11, .int .i64 (cntB (fun t => surelyB (lkT s gd n p t)) t)), (12, .int .i64 (t : Int))])
    (fun i => [(1, .box n.c), (0, .box (s.c gd))]) 2 (fun t => t ≤ 1441) (fun t => 1441 - t) 0 (by kernel_rfl) (by kernel_rfl) (Nat.zero_le _) ?_ ?_
  · simp [headW, heapW, envW, blkLt, D.ltL, D.lt, look, hget, lg, cntB]
  intro t ht
  have hcb := cntB_le (fun t => surelyB (lkT s gd n p t)) t
  rcases Nat.lt_or_ge t 1441 with htlt | htge
  · have hc2 : ((t : Int) ≤ 1440) = True := by simp; omega
    have hlk : LkOk (lkT s gd n p t) := ⟨h, hs, hpo, hn, by simp only; omega⟩
    have hg := gRs_eq hlk
    have hsu := neg_one_lt (s := surelyB (lkT s gd n p t)) (o := offL (lkT s gd n p t)) surely_off
    simp only [Se.c, Se.cr, Wx.c, gaC] at hg
    have hwt := wrap_i64 (z := (t : Int) + 1) (by omega) (by omega)
    have hwc := wrap_i64 (z := cntB (fun t => surelyB (lkT s gd n p t)) t + 1) (by omega) (by omega)
    cases q : surelyB (lkT s gd n p t)
    · rw [q] at hg hsu
      simp only [FS, ↓RE, okR, argEnv, Nat.reduceAdd, Nat.reduceSub, Nat.reduceLT, Nat.reduceLeDiff, Nat.reduceEqDiff, reduceIte, hpl, hc2, decide_true, hix, vg, lg, hg, Bool.false_eq_true, Int.reduceLE, decide_false, Int.reduceNeg, hwt]
      exact ⟨t + 1, by omega, by omega, by simp [headW, heapW, envW, blkLt, D.ltL, D.lt, look, hget, lg, cntB, q]⟩
    · rw [q] at hg hsu
      rw [if_pos rfl] at hg hsu
      simp only [FS, ↓RE, okR, argEnv, Nat.reduceAdd, Nat.reduceSub, Nat.reduceLT, Nat.reduceLeDiff, Nat.reduceEqDiff, reduceIte, hpl, hc2, decide_true, hix, vg, lg, hg, hsu, hwc, hwt]
      exact ⟨t + 1, by omega, by omega, by simp [headW, heapW, envW, blkLt, D.ltL, D.lt, look, hget, lg, cntB, q]⟩
  have : t = 1441 := by omega
  subst this
  have hc2 : (((1441 : Nat) : Int) ≤ 1440) = False := by simp
  have hcs : cntB (fun t => surelyB (lkT s gd n p t)) 1441 = cntS s gd n p := rfl
  rw [hcs]
  rw [hcs] at hcb
  by_cases q : m < cntS s gd n p
  · rw [if_pos q] at hri
    simp only [FS, ↓RE, okR, argEnv, Nat.reduceAdd, Nat.reduceSub, Nat.reduceLT, Nat.reduceLeDiff, Nat.reduceEqDiff, reduceIte, hc2, decide_false, q, decide_true, hwi]
    exact ⟨(i + 1, (i : Int), cntS s gd n p), ⟨by simp only; omega, by simp only; omega, hri⟩, by simp only; omega, by simp [headW, heapW, envW, blkLt, D.ltL, D.lt, look, hget, lg]⟩
  · rw [if_neg q] at hri
    simp only [FS, ↓RE, okR, argEnv, Nat.reduceAdd, Nat.reduceSub, Nat.reduceLT, Nat.reduceLeDiff, Nat.reduceEqDiff, reduceIte, hc2, decide_false, q, hwi]
    exact ⟨(i + 1, b, m), ⟨by simp only; omega, hm, hri⟩, by simp only; omega, by simp [headW, heapW, envW, blkLt, D.ltL, D.lt, look, hget, lg]⟩
end Go.Sx
