/- Own work: contracts of functions, used in the proof of a law. -/
import Derived.Test.YtljkgnicmlhipaaSxW51w
set_option linter.unusedVariables false
set_option linter.unusedSimpArgs false
namespace Go.Sx
open Go.Proofs
set_option maxRecDepth 10000

/-! WatchChecks -/
noncomputable def gCheck : List D → Option D := orcF (fun w : WatchW => WatchL w) (fun w => [.agg w.c]) (fun w => .int .i64 (if watchB w then 0 else 2))
theorem gCheck_eq {w : WatchW} (h : WatchL w) : gCheck [.agg w.c] = some (.int .i64 (if watchB w then 0 else 2)) :=
  orcF_eq (ok := fun w : WatchW => WatchL w) (dsf := fun w => [.agg w.c]) (rf := fun w => .int .i64 (if watchB w then 0 else 2)) w h fun q hq => by
    simp only [List.cons.injEq, D.agg.injEq, and_true] at hq
    rw [WatchW.c_inj hq]
noncomputable def gSII (ok : SkyW → Int → Int → Prop) (rf : SkyW → Int → Int → D) : List D → Option D := orcF (fun p : SkyW × Int × Int => ok p.1 p.2.1 p.2.2) (fun p => [.agg p.1.c, .int .i64 p.2.1, .int .i64 p.2.2]) (fun p => rf p.1 p.2.1 p.2.2)
theorem gSII_eq {ok : SkyW → Int → Int → Prop} {rf : SkyW → Int → Int → D} {s : SkyW} {a b : Int} (h : ok s a b) : gSII ok rf [.agg s.c, .int .i64 a, .int .i64 b] = some (rf s a b) :=
  orcF_eq (ok := fun p : SkyW × Int × Int => ok p.1 p.2.1 p.2.2) (dsf := fun p => [.agg p.1.c, .int .i64 p.2.1, .int .i64 p.2.2]) (rf := fun p => rf p.1 p.2.1 p.2.2) (s, a, b) h fun q hq => by
    simp only [List.cons.injEq, D.agg.injEq, D.int.injEq, and_true, true_and] at hq
    rw [SkyW.c_inj hq.1, hq.2.1, hq.2.2]
def okS (s : SkyW) (_ _ : Int) : Prop := BL s.sh
def okSR (s : SkyW) (c n : Int) : Prop := SkyOk s ∧ freeB s.sh c = true ∧ 0 ≤ n ∧ n ≤ 1440
def rReachD (s : SkyW) (c n : Int) : D := .sl (intL (cellsF s.sh.length (itF s (oneF c) n.toNat)))
noncomputable abbrev e52 : List (FuncId × (List D → Option D)) :=
  (12, gShort) :: (14, cstO [] (.bool true)) :: (39, gCheck) :: (38, gSII okS ReachR) ::
  (40, gSII okSR rReachD) :: (19, gSame) :: e5
theorem e52_ok : OkO Try.prog (mkO e52) :=
  mkO_ok (orcF_ok fun w h => short_t w h) <| mkO_ok (cstO_ok known_t) <| mkO_ok (orcF_ok fun w h => w_Check_t w h) <| mkO_ok (orcF_ok fun p h => Reach_t p.1 h p.2.1 p.2.2) <|
  mkO_ok (orcF_ok fun p h => r_Reach_t h.1 h.2.1 h.2.2) <| mkO_ok gSame_ok e5_ok
set_option maxHeartbeats 4000000 in
theorem watchChecks_at (w : WatchW) (hw : WatchL w) (c n : Int) : Pure Try.prog 11 [.agg w.c, .int .i64 c, .int .i64 n] (.bool true) := by
  have o1 := gShort_eq hw
  have o2 := cstO_eq [] (.bool true)
  have o3 := gCheck_eq hw
  have o4 := gWatch_eq hw
  have o5 : gSII okS ReachR [.agg w.s.c, .int .i64 c, .int .i64 n] = some (ReachR w.s c n) := gSII_eq hw.s
  have o6 := gSky_eq w.s
  have o7 := gFree_eq hw.s c
  have o8 := gMin_eq n
  have h9 : (skyB w.s && (freeB w.s.sh c && rI n 0 1440)) = true → ReachR w.s c n = .tup [.sl (intL (cellsF w.s.sh.length (itF w.s (oneF c) n.toNat))), .int .i64 0] ∧
      gSII okSR rReachD [.agg w.s.c, .int .i64 c, .int .i64 n] = some (.sl (intL (cellsF w.s.sh.length (itF w.s (oneF c) n.toNat)))) ∧ BL (cellsF w.s.sh.length (itF w.s (oneF c) n.toNat)) := fun h => by
    have h2 := h
    simp only [Bool.and_eq_true] at h
    have hs := sky_ok h.1
    refine ⟨?_, gSII_eq ⟨hs, h.2.1, rI_le h.2.2⟩, ?_⟩
    · unfold ReachR
      rw [if_pos h2, reach_cells hs h.2.1]
    · have := cellsF_len w.s.sh.length (itF w.s (oneF c) n.toNat)
      have := hs.le
      simp only [BL]; omega
  have h10 : (skyB w.s && (freeB w.s.sh c && rI n 0 1440)) = false → ReachR w.s c n = .tup [.nils, .int .i64 2] := fun h => by
    unfold ReachR
    rw [h, if_neg (by simp)]
  generalize cellsF w.s.sh.length (itF w.s (oneF c) n.toNat) = L at *
  generalize ReachR w.s c n = R at *
  generalize freeB w.s.sh c = F at *
  generalize rI n 0 1440 = M at *
  generalize skyB w.s = S at o6 h9 h10
  generalize watchB w = W at o3 o4
  generalize shortB w = B at *
  have hz : ((0 : Int) != 0) = false := rfl
  have hz2 : ((0 : Int) == 0) = true := rfl
  have hz3 : ((2 : Int) != 2) = false := rfl
  have hz4 : ((2 : Int) == 2) = true := rfl
  obtain ⟨⟨sw, sd, sh⟩, ⟨rl, lk⟩, cell, mi, ev, en, af⟩ := w
  simp only [WatchW.c, SkyW.c, NetW.c, List.cons_append, List.nil_append] at *
  refine pure_of_pieces (rs := [.tmp 6]) (m := 89) [] e52_ok (by kernel_rfl) Try.func11 rfl (by kernel_rfl) rfl rfl (by kernel_rfl) ?_
  refine awp_peel (T := []) e52_ok (by kernel_rfl) (by kernel_rfl) ?_
  simp only [RT, FS, ↓RE, okR, argEnv, Nat.reduceAdd, Nat.reduceSub, Nat.reduceLT, Nat.reduceLeDiff, Nat.reduceEqDiff, reduceIte, RM]
  refine awp_peel (T := []) e52_ok (by kernel_rfl) (by kernel_rfl) ?_
  cases B
  · simp only [RT, FS, ↓RE, okR, argEnv, Nat.reduceAdd, Nat.reduceSub, Nat.reduceLT, Nat.reduceLeDiff, Nat.reduceEqDiff, reduceIte, RM, o1, o2, Bool.not_false]
  simp only [RT, FS, ↓RE, okR, argEnv, Nat.reduceAdd, Nat.reduceSub, Nat.reduceLT, Nat.reduceLeDiff, Nat.reduceEqDiff, reduceIte, RM, o1, o2, Bool.not_true]
  cases W
  · simp only [Bool.false_eq_true, if_false] at o3
    refine awp_peel (T := []) e52_ok (by kernel_rfl) (by kernel_rfl) ?_
    simp only [RT, FS, ↓RE, okR, argEnv, Nat.reduceAdd, Nat.reduceSub, Nat.reduceLT, Nat.reduceLeDiff, Nat.reduceEqDiff, reduceIte, RM, o3, o4, Bool.not_false, hz3]
    refine awp_peel (T := []) e52_ok (by kernel_rfl) (by kernel_rfl) ?_
    cases hb : (S && (F && M))
    · have r1 := h10 hb
      subst r1
      simp only [RT, FS, ↓RE, okR, argEnv, Nat.reduceAdd, Nat.reduceSub, Nat.reduceLT, Nat.reduceLeDiff, Nat.reduceEqDiff, reduceIte, RM, o5]
      refine awp_peel (T := []) e52_ok (by kernel_rfl) (by kernel_rfl) ?_
      cases S
      · simp only [RT, FS, ↓RE, okR, argEnv, Nat.reduceAdd, Nat.reduceSub, Nat.reduceLT, Nat.reduceLeDiff, Nat.reduceEqDiff, reduceIte, RM, o6, hz4, hz2, o2, Bool.not_false]
      cases F
      · simp only [RT, FS, ↓RE, okR, argEnv, Nat.reduceAdd, Nat.reduceSub, Nat.reduceLT, Nat.reduceLeDiff, Nat.reduceEqDiff, reduceIte, RM, o6, o7, hz4, hz2, o2, Bool.not_false, Bool.not_true]
      cases M
      · simp only [RT, FS, ↓RE, okR, argEnv, Nat.reduceAdd, Nat.reduceSub, Nat.reduceLT, Nat.reduceLeDiff, Nat.reduceEqDiff, reduceIte, RM, o6, o7, o8, hz4, hz2, o2, Bool.not_false, Bool.not_true]
      simp at hb
    · obtain ⟨r1, o9, hbl⟩ := h9 hb
      subst r1
      simp only [Bool.and_eq_true] at hb
      obtain ⟨rfl, rfl, rfl⟩ := hb
      have o10 := gSame_eq hbl hbl
      simp only [RT, FS, ↓RE, okR, argEnv, Nat.reduceAdd, Nat.reduceSub, Nat.reduceLT, Nat.reduceLeDiff, Nat.reduceEqDiff, reduceIte, RM, o5]
      refine awp_peel (T := []) e52_ok (by kernel_rfl) (by kernel_rfl) ?_
      simp only [RT, FS, ↓RE, okR, argEnv, Nat.reduceAdd, Nat.reduceSub, Nat.reduceLT, Nat.reduceLeDiff, Nat.reduceEqDiff, reduceIte, RM, o6, o7, o8, Bool.not_true]
      refine awp_peel (T := []) e52_ok (by kernel_rfl) (by kernel_rfl) ?_
      cases hl4 : decide ((40 : Int) < (sh.length : Int))
      · simp only [RT, FS, ↓RE, okR, argEnv, Nat.reduceAdd, Nat.reduceSub, Nat.reduceLT, Nat.reduceLeDiff, Nat.reduceEqDiff, reduceIte, RM, List.length_map, hl4]
        refine awp_rest (T := []) e52_ok (by kernel_rfl) (by kernel_rfl) ?_
        simp only [RT, FS, ↓RE, okR, argEnv, Nat.reduceAdd, Nat.reduceSub, Nat.reduceLT, Nat.reduceLeDiff, Nat.reduceEqDiff, reduceIte, RM, hz2, o9, o10, o2, decide_true]
      · simp only [RT, FS, ↓RE, okR, argEnv, Nat.reduceAdd, Nat.reduceSub, Nat.reduceLT, Nat.reduceLeDiff, Nat.reduceEqDiff, reduceIte, RM, List.length_map, hl4, hz2, o2]
  · simp only [if_true] at o3
    refine awp_peel (T := []) e52_ok (by kernel_rfl) (by kernel_rfl) ?_
    simp only [RT, FS, ↓RE, okR, argEnv, Nat.reduceAdd, Nat.reduceSub, Nat.reduceLT, Nat.reduceLeDiff, Nat.reduceEqDiff, reduceIte, RM, o3, o4, Bool.not_true, hz]
    refine awp_peel (T := []) e52_ok (by kernel_rfl) (by kernel_rfl) ?_
    cases hb : (S && (F && M))
    · have r1 := h10 hb
      subst r1
      simp only [RT, FS, ↓RE, okR, argEnv, Nat.reduceAdd, Nat.reduceSub, Nat.reduceLT, Nat.reduceLeDiff, Nat.reduceEqDiff, reduceIte, RM, o5]
      refine awp_peel (T := []) e52_ok (by kernel_rfl) (by kernel_rfl) ?_
      cases S
      · simp only [RT, FS, ↓RE, okR, argEnv, Nat.reduceAdd, Nat.reduceSub, Nat.reduceLT, Nat.reduceLeDiff, Nat.reduceEqDiff, reduceIte, RM, o6, hz4, hz2, o2, Bool.not_false]
      cases F
      · simp only [RT, FS, ↓RE, okR, argEnv, Nat.reduceAdd, Nat.reduceSub, Nat.reduceLT, Nat.reduceLeDiff, Nat.reduceEqDiff, reduceIte, RM, o6, o7, hz4, hz2, o2, Bool.not_false, Bool.not_true]
      cases M
      · simp only [RT, FS, ↓RE, okR, argEnv, Nat.reduceAdd, Nat.reduceSub, Nat.reduceLT, Nat.reduceLeDiff, Nat.reduceEqDiff, reduceIte, RM, o6, o7, o8, hz4, hz2, o2, Bool.not_false, Bool.not_true]
      simp at hb
    · obtain ⟨r1, o9, hbl⟩ := h9 hb
      subst r1
      simp only [Bool.and_eq_true] at hb
      obtain ⟨rfl, rfl, rfl⟩ := hb
      have o10 := gSame_eq hbl hbl
      simp only [RT, FS, ↓RE, okR, argEnv, Nat.reduceAdd, Nat.reduceSub, Nat.reduceLT, Nat.reduceLeDiff, Nat.reduceEqDiff, reduceIte, RM, o5]
      refine awp_peel (T := []) e52_ok (by kernel_rfl) (by kernel_rfl) ?_
      simp only [RT, FS, ↓RE, okR, argEnv, Nat.reduceAdd, Nat.reduceSub, Nat.reduceLT, Nat.reduceLeDiff, Nat.reduceEqDiff, reduceIte, RM, o6, o7, o8, Bool.not_true]
      refine awp_peel (T := []) e52_ok (by kernel_rfl) (by kernel_rfl) ?_
      cases hl4 : decide ((40 : Int) < (sh.length : Int))
      · simp only [RT, FS, ↓RE, okR, argEnv, Nat.reduceAdd, Nat.reduceSub, Nat.reduceLT, Nat.reduceLeDiff, Nat.reduceEqDiff, reduceIte, RM, List.length_map, hl4]
        refine awp_rest (T := []) e52_ok (by kernel_rfl) (by kernel_rfl) ?_
        simp only [RT, FS, ↓RE, okR, argEnv, Nat.reduceAdd, Nat.reduceSub, Nat.reduceLT, Nat.reduceLeDiff, Nat.reduceEqDiff, reduceIte, RM, hz2, o9, o10, o2, decide_true]
      · simp only [RT, FS, ↓RE, okR, argEnv, Nat.reduceAdd, Nat.reduceSub, Nat.reduceLT, Nat.reduceLeDiff, Nat.reduceEqDiff, reduceIte, RM, List.length_map, hl4, hz2, o2]
theorem watchChecks_pure : ∀ Ds, TyL Try.prog Try.f11.params.toList Ds → Pure Try.prog 11 Ds (.bool true) := by
  intro Ds h
  rw [Try.params11] at h
  match Ds, h with
  | [_, _, _], ⟨⟨n, _, h1, e1⟩, ⟨n2, _, h2, e2⟩, ⟨n3, _, h3, e3⟩, _⟩ =>
    rw [Try.underlying31] at e1
    rw [Fz.und_3] at e2 e3
    dsimp only at e1 e2 e3
    obtain ⟨w, rfl, hw⟩ := tyWatch h1
    obtain ⟨c, rfl, _⟩ := tyInt Fz.und_3 h2
    obtain ⟨now, rfl, _⟩ := tyInt Fz.und_3 h3
    subst e1; cases e2; cases e3
    exact watchChecks_at w hw c now
end Go.Sx
