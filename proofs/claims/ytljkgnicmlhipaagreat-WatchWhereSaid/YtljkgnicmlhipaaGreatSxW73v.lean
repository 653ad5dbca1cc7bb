/- Own work: contracts of functions, used in the proof of a law. -/
import Derived.Test.YtljkgnicmlhipaaGreatSxW72v
set_option linter.unusedVariables false
set_option linter.unusedSimpArgs false
namespace Go.Sx
open Go.Proofs
set_option maxRecDepth 10000

def quickB (w : WatchW) (now : Int) : Bool := shortB w && (!(watchB w) || (decide ((w.s.sh.length : Int) ≤ 40) && (decide ((w.n.l.length : Int) ≤ 10) && decide (now - w.min ≤ 80))))
noncomputable abbrev e73q : List (FuncId × (List D → Option D)) := (15, gShort) :: e5
theorem e73q_ok : OkO Tryz.prog (mkO e73q) := mkO_ok (orcF_ok fun w h => short_t w h) e5_ok
set_option maxHeartbeats 1000000 in
theorem quick_t {w : WatchW} (hw : WatchL w) {now : Int} (hn : -3000 ≤ now ∧ now ≤ 3000) : Pure Tryz.prog 7 [.agg w.c, .int .i64 now] (.bool (quickB w now)) := by
 have o1 := gShort_eq hw
 have o3 := gWatch_eq hw
 have hm : watchB w = true → 0 ≤ w.min ∧ w.min ≤ 1440 := fun h => (watch_ok h).m
 unfold quickB
 generalize shortB w = B at *
 generalize watchB w = W at *
 obtain ⟨⟨sw, sd, sh⟩, ⟨rl, lk⟩, cell, mi, ev, en, af⟩ := w
 simp only [WatchW.c, SkyW.c, NetW.c, List.cons_append, List.nil_append] at *
 refine pure_of_pieces (rs := [.tmp 4]) (m := 33) [] e73q_ok (by kernel_rfl) Tryz.func7 rfl (by kernel_rfl) rfl rfl (by kernel_rfl) ?_
 refine awp_peel (T := []) e73q_ok (by kernel_rfl) (by kernel_rfl) ?_
 simp only [FS, ↓RE, okR, argEnv, Nat.reduceAdd, Nat.reduceSub, Nat.reduceLT, Nat.reduceLeDiff, Nat.reduceEqDiff, reduceIte, RM]
 refine awp_rest (T := []) e73q_ok (by kernel_rfl) (by kernel_rfl) ?_
 cases B
 ·simp only [FS, ↓RE, okR, argEnv, Nat.reduceAdd, Nat.reduceSub, Nat.reduceLT, Nat.reduceLeDiff, Nat.reduceEqDiff, reduceIte, RM, o1, Bool.false_and]
 cases W
 ·simp only [FS, ↓RE, okR, argEnv, Nat.reduceAdd, Nat.reduceSub, Nat.reduceLT, Nat.reduceLeDiff, Nat.reduceEqDiff, reduceIte, RM, o1, o3, Bool.not_false, Bool.true_and, Bool.true_or]
 have hm := hm rfl
 have w1 := wrap_i64 (z := now - mi) (by omega) (by omega)
 cases q1 : decide ((sh.length : Int) ≤ 40)
 ·simp only [FS, ↓RE, okR, argEnv, Nat.reduceAdd, Nat.reduceSub, Nat.reduceLT, Nat.reduceLeDiff, Nat.reduceEqDiff, reduceIte, RM, o1, o3, Bool.not_true, List.length_map, q1, Bool.false_and, Bool.true_and, Bool.false_or]
 cases q2 : decide ((lk.length : Int) ≤ 10)
 ·simp only [FS, ↓RE, okR, argEnv, Nat.reduceAdd, Nat.reduceSub, Nat.reduceLT, Nat.reduceLeDiff, Nat.reduceEqDiff, reduceIte, RM, o1, o3, Bool.not_true, List.length_map, q1, q2, Bool.false_and, Bool.true_and, Bool.false_or]
 ·simp only [FS, ↓RE, okR, argEnv, Nat.reduceAdd, Nat.reduceSub, Nat.reduceLT, Nat.reduceLeDiff, Nat.reduceEqDiff, reduceIte, RM, o1, o3, Bool.not_true, List.length_map, q1, q2, w1, Bool.false_and, Bool.true_and, Bool.false_or]
noncomputable def gQuick : List D → Option D := orcF (fun p : WatchW × Int => WatchL p.1 ∧ (-3000 ≤ p.2 ∧ p.2 ≤ 3000)) (fun p => [.agg p.1.c, .int .i64 p.2]) (fun p => .bool (quickB p.1 p.2))
theorem gQuick_eq {w : WatchW} (h : WatchL w) {now : Int} (hn : -3000 ≤ now ∧ now ≤ 3000) : gQuick [.agg w.c, .int .i64 now] = some (.bool (quickB w now)) :=
 orcF_eq (ok := fun p : WatchW × Int => WatchL p.1 ∧ (-3000 ≤ p.2 ∧ p.2 ≤ 3000)) (dsf := fun p => [.agg p.1.c, .int .i64 p.2]) (rf := fun p => .bool (quickB p.1 p.2)) (w, now) ⟨h, hn⟩ fun q hq => by
  simp only [List.cons.injEq, D.agg.injEq, D.int.injEq, and_true, true_and] at hq
  rw [WatchW.c_inj hq.1, hq.2]
def rWhereD (w : WatchW) (l : List MsgW) (now : Int) : D := .tup [.sl (intL (cellsF w.s.sh.length (plF w (knownL l now) now (now - w.min).toNat).1)), .sl (intL (cellsF w.s.sh.length (plF w (knownL l now) now (now - w.min).toNat).2))]
noncomputable abbrev e73 : List (FuncId × (List D → Option D)) :=
 (7, gQuick) :: (8, cstO [] (.bool true)) :: (10, gWLN okL mailedD) ::
 (9, gWLN okL WhereR) :: (11, gWLN AskOk rWhereD) :: (12, gSame) :: []
theorem e73_ok : OkO Tryz.prog (mkO e73) :=
 mkO_ok (orcF_ok fun p h => quick_t h.1 h.2) <| mkO_ok (cstO_ok known_t) <| mkO_ok (orcF_ok fun p h => mailed_t h.1 h.2 p.2.2) <|
 mkO_ok (orcF_ok fun p h => Where_t h.1 h.2 p.2.2) <| mkO_ok (orcF_ok fun p h => r_Where_t h) <| mkO_ok gSame_ok <| fun _ _ _ h => by cases h
set_option maxHeartbeats 4000000 in
theorem watchWhere_at (w : WatchW) (hw : WatchL w) (l : List MsgW) (hl : BL l) (now : Int) : Pure Tryz.prog 3 [.agg w.c, msD l, .int .i64 now] (.bool true) := by
 have o1 := fun h => gQuick_eq hw (now := now) h
 have o2 := cstO_eq [] (.bool true)
 have o3 : gWLN okL mailedD [.agg w.c, msD l, .int .i64 now] = some (.int .i64 (askedI w l now)) := gWLN_eq ⟨hw, hl⟩
 have o4 : gWLN okL WhereR [.agg w.c, msD l, .int .i64 now] = some (if askedI w l now = 0 then (if (cellsF w.s.sh.length (plF w (knownL l now) now (now - w.min).toNat).1).length + (cellsF w.s.sh.length (plF w (knownL l now) now (now - w.min).toNat).2).length = 0 then .tup [.nils, .nils, .int .i64 5] else .tup [.sl (intL (cellsF w.s.sh.length (plF w (knownL l now) now (now - w.min).toNat).1)), .sl (intL (cellsF w.s.sh.length (plF w (knownL l now) now (now - w.min).toNat).2)), .int .i64 0]) else .tup [.nils, .nils, .int .i64 (askedI w l now)]) := gWLN_eq ⟨hw, hl⟩
 have o5 : askedI w l now = 0 → gWLN AskOk rWhereD [.agg w.c, msD l, .int .i64 now] = some (.tup [.sl (intL (cellsF w.s.sh.length (plF w (knownL l now) now (now - w.min).toNat).1)), .sl (intL (cellsF w.s.sh.length (plF w (knownL l now) now (now - w.min).toNat).2))]) := fun h => gWLN_eq (asked_ok h)
 have hb : askedI w l now = 0 → (w.s.sh.length : Int) ≤ 144 := fun h => (asked_ok h).ok.s.le.1
 have hcl := cellsF_len w.s.sh.length
 have hl1 := hcl (plF w (knownL l now) now (now - w.min).toNat).1
 have hl2 := hcl (plF w (knownL l now) now (now - w.min).toNat).2
 clear hcl
 generalize cellsF w.s.sh.length (plF w (knownL l now) now (now - w.min).toNat).1 = X at *
 generalize cellsF w.s.sh.length (plF w (knownL l now) now (now - w.min).toNat).2 = Y at *
 generalize askedI w l now = E at *
 generalize quickB w now = Q at *
 obtain ⟨⟨sw, sd, sh⟩, ⟨rl, lk⟩, cell, mi, ev, en, af⟩ := w
 simp only [WatchW.c, SkyW.c, NetW.c, List.cons_append, List.nil_append] at *
 refine pure_of_pieces (rs := [.tmp 6]) (m := 110) [] e73_ok (by kernel_rfl) Tryz.func3 rfl (by kernel_rfl) rfl rfl (by kernel_rfl) ?_
 refine awp_peel (T := []) e73_ok (by kernel_rfl) (by kernel_rfl) ?_
 simp only [FS, ↓RE, okR, argEnv, Nat.reduceAdd, Nat.reduceSub, Nat.reduceLT, Nat.reduceLeDiff, Nat.reduceEqDiff, reduceIte, RM]
 refine awp_peel (T := []) e73_ok (by kernel_rfl) (by kernel_rfl) ?_
 cases g1 : decide ((3000 : Int) < now)
 case true =>
  simp only [FS, ↓RE, okR, argEnv, Nat.reduceAdd, Nat.reduceSub, Nat.reduceLT, Nat.reduceLeDiff, Nat.reduceEqDiff, reduceIte, RM, g1, o2]
 cases g2 : decide (now < (-3000 : Int))
 case true =>
  simp only [FS, ↓RE, okR, argEnv, Nat.reduceAdd, Nat.reduceSub, Nat.reduceLT, Nat.reduceLeDiff, Nat.reduceEqDiff, reduceIte, RM, g1, g2, o2]
 have o1 := o1 (by simp at g1 g2; omega)
 cases Q
 ·simp only [FS, ↓RE, okR, argEnv, Nat.reduceAdd, Nat.reduceSub, Nat.reduceLT, Nat.reduceLeDiff, Nat.reduceEqDiff, reduceIte, RM, g1, g2, o1, o2, Bool.not_false]
 cases q1 : decide ((70 : Int) < (l.length : Int))
 case true =>
  cases q2 : decide ((20 : Int) < (l.length : Int))
  ·simp only [FS, ↓RE, okR, argEnv, Nat.reduceAdd, Nat.reduceSub, Nat.reduceLT, Nat.reduceLeDiff, Nat.reduceEqDiff, reduceIte, RM, g1, g2, o1, o2, q1, q2, Bool.not_true, List.length_map]
  cases q3 : decide ((l.length : Int) ≤ 60)
  ·simp only [FS, ↓RE, okR, argEnv, Nat.reduceAdd, Nat.reduceSub, Nat.reduceLT, Nat.reduceLeDiff, Nat.reduceEqDiff, reduceIte, RM, g1, g2, o1, o2, q1, q2, q3, Bool.not_true, List.length_map]
  ·simp only [FS, ↓RE, okR, argEnv, Nat.reduceAdd, Nat.reduceSub, Nat.reduceLT, Nat.reduceLeDiff, Nat.reduceEqDiff, reduceIte, RM, g1, g2, o1, o2, q1, q2, q3, Bool.not_true, List.length_map]
 cases q4 : decide ((20 : Int) < (l.length : Int)) && decide ((l.length : Int) ≤ 60)
 case true =>
  simp only [Bool.and_eq_true] at q4
  simp only [FS, ↓RE, okR, argEnv, Nat.reduceAdd, Nat.reduceSub, Nat.reduceLT, Nat.reduceLeDiff, Nat.reduceEqDiff, reduceIte, RM, g1, g2, o1, o2, q1, q4.1, q4.2, Bool.not_true, List.length_map]
 have q5 : decide ((20 : Int) < (l.length : Int)) = false ∨ (decide ((20 : Int) < (l.length : Int)) = true ∧ decide ((l.length : Int) ≤ 60) = false) := by
  cases h1 : decide ((20 : Int) < (l.length : Int))
  ·exact .inl rfl
  ·rw [h1, Bool.true_and] at q4; exact .inr ⟨rfl, q4⟩
 rcases q5 with q5 | ⟨q5, q6⟩
 ·by_cases hE : E = 0
  ·have o5 := o5 hE
   have hb := hb hE
   rw [if_pos hE] at o4
   subst hE
   have hz : ((0 : Int) != 0) = false := rfl
   have hz2 : ((0 : Int) == 0) = true := rfl
   have hw0 : IntKind.i64.wrap (0 + 0) = 0 := rfl
   have hz5 : ((5 : Int) == 5) = true := rfl
   have iX : (intL X).length = X.length := List.length_map ..
   have iY : (intL Y).length = Y.length := List.length_map ..
   have w2 := wrap_i64 (z := (X.length : Int) + (Y.length : Int)) (by omega) (by omega)
   by_cases hXY : X.length + Y.length = 0
   ·rw [if_pos hXY] at o4
    have hs : ((X.length : Int) + (Y.length : Int) == 0) = true := by simp; omega
    simp only [FS, ↓RE, okR, argEnv, Nat.reduceAdd, Nat.reduceSub, Nat.reduceLT, Nat.reduceLeDiff, Nat.reduceEqDiff, reduceIte, RM, g1, g2, o1, q1, q5, Bool.not_true, List.length_map]
    refine awp_peel (T := []) e73_ok (by kernel_rfl) (by kernel_rfl) ?_
    simp only [FS, ↓RE, okR, argEnv, Nat.reduceAdd, Nat.reduceSub, Nat.reduceLT, Nat.reduceLeDiff, Nat.reduceEqDiff, reduceIte, RM, o4]
    refine awp_peel (T := []) e73_ok (by kernel_rfl) (by kernel_rfl) ?_
    simp only [FS, ↓RE, okR, argEnv, Nat.reduceAdd, Nat.reduceSub, Nat.reduceLT, Nat.reduceLeDiff, Nat.reduceEqDiff, reduceIte, RM, o3, hz]
    refine awp_peel (T := []) e73_ok (by kernel_rfl) (by kernel_rfl) ?_
    simp only [FS, ↓RE, okR, argEnv, Nat.reduceAdd, Nat.reduceSub, Nat.reduceLT, Nat.reduceLeDiff, Nat.reduceEqDiff, reduceIte, RM, o5]
    refine awp_peel (T := []) e73_ok (by kernel_rfl) (by kernel_rfl) ?_
    simp only [FS, ↓RE, okR, argEnv, Nat.reduceAdd, Nat.reduceSub, Nat.reduceLT, Nat.reduceLeDiff, Nat.reduceEqDiff, reduceIte, RM, iX, iY, w2, hs, hz5, hw0, hz2, o2]
   ·rw [if_neg hXY] at o4
    have hs : ((X.length : Int) + (Y.length : Int) == 0) = false := by simp; omega
    have s1 := gSame_eq (a := X) (b := X) (by simp only [BL]; omega) (by simp only [BL]; omega)
    have s2 := gSame_eq (a := Y) (b := Y) (by simp only [BL]; omega) (by simp only [BL]; omega)
    simp only [FS, ↓RE, okR, argEnv, Nat.reduceAdd, Nat.reduceSub, Nat.reduceLT, Nat.reduceLeDiff, Nat.reduceEqDiff, reduceIte, RM, g1, g2, o1, q1, q5, Bool.not_true, List.length_map]
    refine awp_peel (T := []) e73_ok (by kernel_rfl) (by kernel_rfl) ?_
    simp only [FS, ↓RE, okR, argEnv, Nat.reduceAdd, Nat.reduceSub, Nat.reduceLT, Nat.reduceLeDiff, Nat.reduceEqDiff, reduceIte, RM, o4]
    refine awp_peel (T := []) e73_ok (by kernel_rfl) (by kernel_rfl) ?_
    simp only [FS, ↓RE, okR, argEnv, Nat.reduceAdd, Nat.reduceSub, Nat.reduceLT, Nat.reduceLeDiff, Nat.reduceEqDiff, reduceIte, RM, o3, hz]
    refine awp_peel (T := []) e73_ok (by kernel_rfl) (by kernel_rfl) ?_
    simp only [FS, ↓RE, okR, argEnv, Nat.reduceAdd, Nat.reduceSub, Nat.reduceLT, Nat.reduceLeDiff, Nat.reduceEqDiff, reduceIte, RM, o5]
    refine awp_peel (T := []) e73_ok (by kernel_rfl) (by kernel_rfl) ?_
    simp only [FS, ↓RE, okR, argEnv, Nat.reduceAdd, Nat.reduceSub, Nat.reduceLT, Nat.reduceLeDiff, Nat.reduceEqDiff, reduceIte, RM, iX, iY, w2, hs]
    refine awp_rest (T := []) e73_ok (by kernel_rfl) (by kernel_rfl) ?_
    simp only [FS, ↓RE, okR, argEnv, Nat.reduceAdd, Nat.reduceSub, Nat.reduceLT, Nat.reduceLeDiff, Nat.reduceEqDiff, reduceIte, RM, hz2, s1, s2, o2, decide_true]
  ·rw [if_neg hE] at o4
   have hz : (E != 0) = true := by simp [hE]
   have hs : (E == E) = true := by simp
   have hz2 : ((0 : Int) == 0) = true := rfl
   have hw0 : IntKind.i64.wrap (0 + 0) = 0 := rfl
   simp only [FS, ↓RE, okR, argEnv, Nat.reduceAdd, Nat.reduceSub, Nat.reduceLT, Nat.reduceLeDiff, Nat.reduceEqDiff, reduceIte, RM, g1, g2, o1, q1, q5, Bool.not_true, List.length_map]
   refine awp_peel (T := []) e73_ok (by kernel_rfl) (by kernel_rfl) ?_
   simp only [FS, ↓RE, okR, argEnv, Nat.reduceAdd, Nat.reduceSub, Nat.reduceLT, Nat.reduceLeDiff, Nat.reduceEqDiff, reduceIte, RM, o4]
   refine awp_peel (T := []) e73_ok (by kernel_rfl) (by kernel_rfl) ?_
   simp only [FS, ↓RE, okR, argEnv, Nat.reduceAdd, Nat.reduceSub, Nat.reduceLT, Nat.reduceLeDiff, Nat.reduceEqDiff, reduceIte, RM, o3, hz, hs, hw0, hz2, o2]
 ·by_cases hE : E = 0
  ·have o5 := o5 hE
   have hb := hb hE
   rw [if_pos hE] at o4
   subst hE
   have hz : ((0 : Int) != 0) = false := rfl
   have hz2 : ((0 : Int) == 0) = true := rfl
   have hw0 : IntKind.i64.wrap (0 + 0) = 0 := rfl
   have hz5 : ((5 : Int) == 5) = true := rfl
   have iX : (intL X).length = X.length := List.length_map ..
   have iY : (intL Y).length = Y.length := List.length_map ..
   have w2 := wrap_i64 (z := (X.length : Int) + (Y.length : Int)) (by omega) (by omega)
   by_cases hXY : X.length + Y.length = 0
   ·rw [if_pos hXY] at o4
    have hs : ((X.length : Int) + (Y.length : Int) == 0) = true := by simp; omega
    simp only [FS, ↓RE, okR, argEnv, Nat.reduceAdd, Nat.reduceSub, Nat.reduceLT, Nat.reduceLeDiff, Nat.reduceEqDiff, reduceIte, RM, g1, g2, o1, q1, q5, q6, Bool.not_true, List.length_map]
    refine awp_peel (T := []) e73_ok (by kernel_rfl) (by kernel_rfl) ?_
    simp only [FS, ↓RE, okR, argEnv, Nat.reduceAdd, Nat.reduceSub, Nat.reduceLT, Nat.reduceLeDiff, Nat.reduceEqDiff, reduceIte, RM, o4]
    refine awp_peel (T := []) e73_ok (by kernel_rfl) (by kernel_rfl) ?_
    simp only [FS, ↓RE, okR, argEnv, Nat.reduceAdd, Nat.reduceSub, Nat.reduceLT, Nat.reduceLeDiff, Nat.reduceEqDiff, reduceIte, RM, o3, hz]
    refine awp_peel (T := []) e73_ok (by kernel_rfl) (by kernel_rfl) ?_
    simp only [FS, ↓RE, okR, argEnv, Nat.reduceAdd, Nat.reduceSub, Nat.reduceLT, Nat.reduceLeDiff, Nat.reduceEqDiff, reduceIte, RM, o5]
    refine awp_peel (T := []) e73_ok (by kernel_rfl) (by kernel_rfl) ?_
    simp only [FS, ↓RE, okR, argEnv, Nat.reduceAdd, Nat.reduceSub, Nat.reduceLT, Nat.reduceLeDiff, Nat.reduceEqDiff, reduceIte, RM, iX, iY, w2, hs, hz5, hw0, hz2, o2]
   ·rw [if_neg hXY] at o4
    have hs : ((X.length : Int) + (Y.length : Int) == 0) = false := by simp; omega
    have s1 := gSame_eq (a := X) (b := X) (by simp only [BL]; omega) (by simp only [BL]; omega)
    have s2 := gSame_eq (a := Y) (b := Y) (by simp only [BL]; omega) (by simp only [BL]; omega)
    simp only [FS, ↓RE, okR, argEnv, Nat.reduceAdd, Nat.reduceSub, Nat.reduceLT, Nat.reduceLeDiff, Nat.reduceEqDiff, reduceIte, RM, g1, g2, o1, q1, q5, q6, Bool.not_true, List.length_map]
    refine awp_peel (T := []) e73_ok (by kernel_rfl) (by kernel_rfl) ?_
    simp only [FS, ↓RE, okR, argEnv, Nat.reduceAdd, Nat.reduceSub, Nat.reduceLT, Nat.reduceLeDiff, Nat.reduceEqDiff, reduceIte, RM, o4]
    refine awp_peel (T := []) e73_ok (by kernel_rfl) (by kernel_rfl) ?_
    simp only [FS, ↓RE, okR, argEnv, Nat.reduceAdd, Nat.reduceSub, Nat.reduceLT, Nat.reduceLeDiff, Nat.reduceEqDiff, reduceIte, RM, o3, hz]
    refine awp_peel (T := []) e73_ok (by kernel_rfl) (by kernel_rfl) ?_
    simp only [FS, ↓RE, okR, argEnv, Nat.reduceAdd, Nat.reduceSub, Nat.reduceLT, Nat.reduceLeDiff, Nat.reduceEqDiff, reduceIte, RM, o5]
    refine awp_peel (T := []) e73_ok (by kernel_rfl) (by kernel_rfl) ?_
    simp only [FS, ↓RE, okR, argEnv, Nat.reduceAdd, Nat.reduceSub, Nat.reduceLT, Nat.reduceLeDiff, Nat.reduceEqDiff, reduceIte, RM, iX, iY, w2, hs]
    refine awp_rest (T := []) e73_ok (by kernel_rfl) (by kernel_rfl) ?_
    simp only [FS, ↓RE, okR, argEnv, Nat.reduceAdd, Nat.reduceSub, Nat.reduceLT, Nat.reduceLeDiff, Nat.reduceEqDiff, reduceIte, RM, hz2, s1, s2, o2, decide_true]
  ·rw [if_neg hE] at o4
   have hz : (E != 0) = true := by simp [hE]
   have hs : (E == E) = true := by simp
   have hz2 : ((0 : Int) == 0) = true := rfl
   have hw0 : IntKind.i64.wrap (0 + 0) = 0 := rfl
   simp only [FS, ↓RE, okR, argEnv, Nat.reduceAdd, Nat.reduceSub, Nat.reduceLT, Nat.reduceLeDiff, Nat.reduceEqDiff, reduceIte, RM, g1, g2, o1, q1, q5, q6, Bool.not_true, List.length_map]
   refine awp_peel (T := []) e73_ok (by kernel_rfl) (by kernel_rfl) ?_
   simp only [FS, ↓RE, okR, argEnv, Nat.reduceAdd, Nat.reduceSub, Nat.reduceLT, Nat.reduceLeDiff, Nat.reduceEqDiff, reduceIte, RM, o4]
   refine awp_peel (T := []) e73_ok (by kernel_rfl) (by kernel_rfl) ?_
   simp only [FS, ↓RE, okR, argEnv, Nat.reduceAdd, Nat.reduceSub, Nat.reduceLT, Nat.reduceLeDiff, Nat.reduceEqDiff, reduceIte, RM, o3, hz, hs, hw0, hz2, o2]
theorem watchWhere_pure : ∀ Ds, TyL Tryz.prog Tryz.f3.params.toList Ds → Pure Tryz.prog 3 Ds (.bool true) := by
 intro Ds h
 rw [Tryz.params3] at h
 match Ds, h with
 | [_, _, _], ⟨⟨n, _, h1, e1⟩, ⟨n2, _, h2, e2⟩, ⟨n3, _, h3, e3⟩, _⟩ =>
  rw [Tryz.underlying31] at e1
  rw [Fz.und_32] at e2
  rw [Fz.und_3] at e3
  dsimp only at e1 e2 e3
  obtain ⟨w, rfl, hw⟩ := tyWatch h1
  obtain ⟨l, rfl, hl⟩ := tyMsgs h2
  obtain ⟨now, rfl, _⟩ := tyInt Fz.und_3 h3
  subst e1; cases e2; cases e3
  exact watchWhere_at w hw l hl now
end Go.Sx
