/- Own work: contracts of functions, used in the proof of a law. -/
import Derived.Test.YtljkgnicmlhipaaSxW62w
set_option linter.unusedVariables false
set_option linter.unusedSimpArgs false
namespace Go.Sx
open Go.Proofs
set_option maxRecDepth 10000

/-! WatchRoutes -/
theorem Rw.ge {A : Int → Int → Int → Int} {K : Nat} (hge : ∀ s t m, 0 ≤ A s t m → m ≤ A s t m) {s m : Int} {p : List Int} {e a : Int} (h : Rw A K s m p e a) : m ≤ a := by
  induction h with
  | one s m => exact Int.le_refl _
  | cons s m t p e a _ _ _ g3 _ ih => have := hge s t m g3; omega
theorem arrive_len {w : WatchW} {c m : Int} {p : List Int} (h : arriveR w c m = some p) : p.length ≤ w.n.r.length := by
  unfold arriveR at h
  obtain ⟨q, _, hq, hf, _⟩ := fsome_ex h
  obtain ⟨s, _, hs, hf2, _⟩ := fsome_ex hf
  unfold arrF at hf2
  split at hf2
  · have := routeR_len _ _ _ _ hf2; omega
  · cases hf2
noncomputable def gWII (ok : WatchW → Int → Int → Prop) (rf : WatchW → Int → Int → D) : List D → Option D := orcF (fun p : WatchW × Int × Int => ok p.1 p.2.1 p.2.2) (fun p => [.agg p.1.c, .int .i64 p.2.1, .int .i64 p.2.2]) (fun p => rf p.1 p.2.1 p.2.2)
theorem gWII_eq {ok : WatchW → Int → Int → Prop} {rf : WatchW → Int → Int → D} {w : WatchW} {a b : Int} (h : ok w a b) : gWII ok rf [.agg w.c, .int .i64 a, .int .i64 b] = some (rf w a b) :=
  orcF_eq (ok := fun p : WatchW × Int × Int => ok p.1 p.2.1 p.2.2) (dsf := fun p => [.agg p.1.c, .int .i64 p.2.1, .int .i64 p.2.2]) (rf := fun p => rf p.1 p.2.1 p.2.2) (w, a, b) h fun q hq => by
    simp only [List.cons.injEq, D.agg.injEq, D.int.injEq, and_true, true_and] at hq
    rw [WatchW.c_inj hq.1, hq.2.1, hq.2.2]
def okW2 (w : WatchW) (_ _ : Int) : Prop := WatchL w
structure ArrOk (w : WatchW) (c m : Int) (p : List Int) : Prop where
  wo : WatchOk w
  c : InS w.s c
  m : 0 ≤ m ∧ m ≤ 1440
  p : BL p
noncomputable def gRArr : List D → Option D := orcF (fun p : WatchW × List Int × Int × Int => ArrOk p.1 p.2.2.1 p.2.2.2 p.2.1) (fun p => [.agg p.1.c, .sl (intL p.2.1), .int .i64 p.2.2.1, .int .i64 p.2.2.2]) (fun p => .int .i64 (rArrI p.1 p.2.1 p.2.2.1 p.2.2.2))
theorem gRArr_eq {w : WatchW} {c m : Int} {p : List Int} (h : ArrOk w c m p) : gRArr [.agg w.c, .sl (intL p), .int .i64 c, .int .i64 m] = some (.int .i64 (rArrI w p c m)) :=
  orcF_eq (ok := fun p : WatchW × List Int × Int × Int => ArrOk p.1 p.2.2.1 p.2.2.2 p.2.1) (dsf := fun p => [.agg p.1.c, .sl (intL p.2.1), .int .i64 p.2.2.1, .int .i64 p.2.2.2]) (rf := fun p => .int .i64 (rArrI p.1 p.2.1 p.2.2.1 p.2.2.2)) (w, p, c, m) h fun q hq => by
    simp only [List.cons.injEq, D.agg.injEq, D.int.injEq, D.sl.injEq, and_true, true_and] at hq
    rw [WatchW.c_inj hq.1, intL_inj hq.2.1, hq.2.2.1, hq.2.2.2]
noncomputable abbrev e63 : List (FuncId × (List D → Option D)) :=
  (12, gShort) :: (14, cstO [] (.bool true)) :: (15, gWII okW2 ArrR) :: (20, gRArr) :: (21, gLess) :: e5
theorem e63_ok : OkO Try.prog (mkO e63) :=
  mkO_ok (orcF_ok fun w h => short_t w h) <| mkO_ok (cstO_ok known_t) <| mkO_ok (orcF_ok fun p h => Arrive_t p.1 h p.2.1 p.2.2) <| mkO_ok (orcF_ok fun p h => r_Arrives_t h.wo h.c h.m p.2.1 h.p) <| mkO_ok (orcF_ok fun p h => r_Less_t p.1 p.2 h.1 h.2) e5_ok
/-- The answers of Arrive, for what is as defined. -/
theorem arr_cases {w : WatchW} {c m : Int} (h1 : watchB w = true) (h2 : freeB w.s.sh c = true) (h3 : rI m 0 1440 = true) :
    (ArrR w c m = .tup [.int .i64 0, .nils, .int .i64 5] ∧ arrivesI w c m < 0 ∧ ∀ p, rArrI w p c m < 0) ∨
    ∃ p, ArrR w c m = .tup [.int .i64 (arrivesI w c m), .sl (intL p), .int .i64 0] ∧ 0 ≤ arrivesI w c m ∧ m ≤ arrivesI w c m ∧ arriveR w c m = some p ∧ p.length ≤ 8 ∧ rArrI w p c m = arrivesI w c m ∧
      ∀ p', 0 ≤ rArrI w p' c m → arrivesI w c m ≤ rArrI w p' c m ∧ (rArrI w p' c m = arrivesI w c m → lessB p' p = false) := by
  have hw := watch_ok h1
  have hm := rI_le h3
  unfold ArrR
  rw [if_pos (by rw [h1, h2, h3]; rfl)]
  by_cases h0 : arrivesI w c m < 0
  · left
    rw [if_pos h0]
    refine ⟨rfl, h0, fun p => ?_⟩
    rcases arrives_spec hw hm (c := c) with ⟨_, hn⟩ | ⟨h, _⟩
    · refine Classical.byContradiction fun hc => ?_
      exact hn _ _ ((route_arr (w := w) (c := c) hm.1 (p := p)).1 (by omega))
    · omega
  · right
    obtain ⟨p, g1, g2, g3⟩ := arrive_spec hw hm (c := c) (by omega)
    rw [if_neg h0, g1]
    refine ⟨p, rfl, by omega, ?_, rfl, ?_, ((route_arr hm.1).2 _ g2).1, fun p' hp' => ?_⟩
    · obtain ⟨s, _, _, hr⟩ := g2
      exact hr.ge (along_ge hw)
    · have := arrive_len g1
      have := hw.n.rn
      omega
    · have hR := (route_arr hm.1).1 hp'
      refine ⟨?_, fun e => g3 p' (by rw [← e]; exact hR)⟩
      rcases arrives_spec hw hm (c := c) with ⟨e, _⟩ | ⟨_, _, _, hl⟩
      · omega
      · exact hl _ _ hR
set_option maxHeartbeats 4000000 in
theorem watchRoutes_at (w : WatchW) (hw : WatchL w) (c m : Int) (other : List Int) (hot : BL other) : Pure Try.prog 4 [.agg w.c, .int .i64 c, .int .i64 m, .sl (intL other)] (.bool true) := by
  have o1 := gShort_eq hw
  have o2 := cstO_eq [] (.bool true)
  have o3 := gWatch_eq hw
  have o4 := gFree_eq hw.s c
  have o5 := gMin_eq m
  by_cases hgo : shortB w = true ∧ watchB w = true ∧ freeB w.s.sh c = true ∧ rI m 0 1440 = true ∧ other.length ≤ 20
  rotate_left
  · generalize shortB w = B at *
    generalize watchB w = W at *
    generalize freeB w.s.sh c = F at *
    generalize rI m 0 1440 = M at *
    obtain ⟨⟨sw, sd, sh⟩, ⟨rl, lk⟩, cell, mi, ev, en, af⟩ := w
    simp only [WatchW.c, SkyW.c, NetW.c, List.cons_append, List.nil_append] at *
    refine pure_of_pieces (rs := [.tmp 8]) (m := 98) [] e63_ok (by kernel_rfl) Try.func4 rfl (by kernel_rfl) rfl rfl (by kernel_rfl) ?_
    refine awp_peel (T := []) e63_ok (by kernel_rfl) (by kernel_rfl) ?_
    simp only [RT, FS, ↓RE, okR, argEnv, Nat.reduceAdd, Nat.reduceSub, Nat.reduceLT, Nat.reduceLeDiff, Nat.reduceEqDiff, reduceIte, RM]
    refine awp_peel (T := []) e63_ok (by kernel_rfl) (by kernel_rfl) ?_
    cases B
    · simp only [RT, FS, ↓RE, okR, argEnv, Nat.reduceAdd, Nat.reduceSub, Nat.reduceLT, Nat.reduceLeDiff, Nat.reduceEqDiff, reduceIte, RM, o1, o2, Bool.not_false]
    cases W
    · simp only [RT, FS, ↓RE, okR, argEnv, Nat.reduceAdd, Nat.reduceSub, Nat.reduceLT, Nat.reduceLeDiff, Nat.reduceEqDiff, reduceIte, RM, o1, o2, o3, Bool.not_true, Bool.not_false]
    cases F
    · simp only [RT, FS, ↓RE, okR, argEnv, Nat.reduceAdd, Nat.reduceSub, Nat.reduceLT, Nat.reduceLeDiff, Nat.reduceEqDiff, reduceIte, RM, o1, o2, o3, o4, Bool.not_true, Bool.not_false]
    cases M
    · simp only [RT, FS, ↓RE, okR, argEnv, Nat.reduceAdd, Nat.reduceSub, Nat.reduceLT, Nat.reduceLeDiff, Nat.reduceEqDiff, reduceIte, RM, o1, o2, o3, o4, o5, Bool.not_true, Bool.not_false]
    have q : decide ((20 : Int) < (other.length : Int)) = true := by
      simp only [decide_eq_true_eq]
      refine Classical.byContradiction fun hc => hgo ⟨rfl, rfl, rfl, rfl, by omega⟩
    simp only [RT, FS, ↓RE, okR, argEnv, Nat.reduceAdd, Nat.reduceSub, Nat.reduceLT, Nat.reduceLeDiff, Nat.reduceEqDiff, reduceIte, RM, o1, o2, o3, o4, o5, q, intL_len, Bool.not_true]
  obtain ⟨g1, g2, g3, g4, g5⟩ := hgo
  have hwo := watch_ok g2
  have hin := free_ins (s := w.s) g3
  have hm := rI_le g4
  have oArr : gWII okW2 ArrR [.agg w.c, .int .i64 c, .int .i64 m] = some (ArrR w c m) := gWII_eq (ok := okW2) hw
  have oOwn := gRArr_eq (w := w) (c := c) (m := m) (p := other) ⟨hwo, hin, hm, hot⟩
  have oP := fun p (hp : BL p) => gRArr_eq (w := w) (c := c) (m := m) (p := p) ⟨hwo, hin, hm, hp⟩
  have hcs := arr_cases g2 g3 g4
  rw [g1] at o1
  rw [g2] at o3
  rw [g3] at o4
  rw [g4] at o5
  have q : decide ((20 : Int) < (other.length : Int)) = false := by simp; omega
  have hz : ((0 : Int) != 0) = false := rfl
  have hz5 : ((5 : Int) != 0) = true := rfl
  have hz6 : ((5 : Int) == 5) = true := rfl
  have hfact : ∀ (p : List Int), p.length ≤ 8 → gLess [.sl (intL other), .sl (intL p)] = some (.bool (lessB other p)) := fun p hp => gLess_eq hot (by simp only [BL]; omega)
  have hown : ∀ t : Int, (0 ≤ rArrI w other c m → t ≤ rArrI w other c m) → decide (rArrI w other c m < 0) = true ∨ (decide (rArrI w other c m < 0) = false ∧ decide (t < rArrI w other c m) = true) ∨ (decide (rArrI w other c m < 0) = false ∧ decide (t < rArrI w other c m) = false ∧ (rArrI w other c m == t) = true) := fun t h => by
    by_cases h1 : rArrI w other c m < 0
    · left; simpa using h1
    · right
      have := h (by omega)
      by_cases h2 : t < rArrI w other c m
      · left; simp [h2]; omega
      · right; simp [h2]; omega
  rcases hcs with ⟨e1, _, e2⟩ | ⟨p, e1, e2, e3, _, e5, e6, e7⟩
  · rw [e1] at oArr
    have hoN : decide (rArrI w other c m < 0) = true := by simpa using e2 other
    generalize rArrI w other c m = own at *
    obtain ⟨⟨sw, sd, sh⟩, ⟨rl, lk⟩, cell, mi, ev, en, af⟩ := w
    simp only [WatchW.c, SkyW.c, NetW.c, List.cons_append, List.nil_append] at o1 o3 o4 oArr oOwn ⊢
    refine pure_of_pieces (rs := [.tmp 8]) (m := 98) [] e63_ok (by kernel_rfl) Try.func4 rfl (by kernel_rfl) rfl rfl (by kernel_rfl) ?_
    refine awp_peel (T := []) e63_ok (by kernel_rfl) (by kernel_rfl) ?_
    simp only [RT, FS, ↓RE, okR, argEnv, Nat.reduceAdd, Nat.reduceSub, Nat.reduceLT, Nat.reduceLeDiff, Nat.reduceEqDiff, reduceIte, RM]
    refine awp_peel (T := []) e63_ok (by kernel_rfl) (by kernel_rfl) ?_
    simp only [RT, FS, ↓RE, okR, argEnv, Nat.reduceAdd, Nat.reduceSub, Nat.reduceLT, Nat.reduceLeDiff, Nat.reduceEqDiff, reduceIte, RM, o1, o3, o4, o5, q, intL_len, Bool.not_true]
    refine awp_peel (T := []) e63_ok (by kernel_rfl) (by kernel_rfl) ?_
    simp only [RT, FS, ↓RE, okR, argEnv, Nat.reduceAdd, Nat.reduceSub, Nat.reduceLT, Nat.reduceLeDiff, Nat.reduceEqDiff, reduceIte, RM, oArr]
    refine awp_peel (T := []) e63_ok (by kernel_rfl) (by kernel_rfl) ?_
    simp only [RT, FS, ↓RE, okR, argEnv, Nat.reduceAdd, Nat.reduceSub, Nat.reduceLT, Nat.reduceLeDiff, Nat.reduceEqDiff, reduceIte, RM, oOwn]
    refine awp_peel (T := []) e63_ok (by kernel_rfl) (by kernel_rfl) ?_
    simp only [RT, FS, ↓RE, okR, argEnv, Nat.reduceAdd, Nat.reduceSub, Nat.reduceLT, Nat.reduceLeDiff, Nat.reduceEqDiff, reduceIte, RM, hz5, hz6, hoN, o2]
  · rw [e1] at oArr
    have oPp := oP p (by simp only [BL]; omega)
    rw [e6] at oPp
    have oL := hfact p e5
    have hwn := hown (arrivesI w c m) fun h => (e7 other h).1
    have hless : (rArrI w other c m == arrivesI w c m) = true → decide (rArrI w other c m < 0) = false → lessB other p = false := fun h1 h2 => (e7 other (by simpa using h2)).2 (by simpa using h1)
    have hge : decide (m ≤ arrivesI w c m) = true := by simpa using e3
    have htt : (arrivesI w c m == arrivesI w c m) = true := by simp
    clear e1 e2 e3 e6 e7 hown
    generalize rArrI w other c m = own at *
    generalize arrivesI w c m = t at *
    generalize lessB other p = LB at *
    obtain ⟨⟨sw, sd, sh⟩, ⟨rl, lk⟩, cell, mi, ev, en, af⟩ := w
    simp only [WatchW.c, SkyW.c, NetW.c, List.cons_append, List.nil_append] at o1 o3 o4 oArr oOwn oPp ⊢
    refine pure_of_pieces (rs := [.tmp 8]) (m := 98) [] e63_ok (by kernel_rfl) Try.func4 rfl (by kernel_rfl) rfl rfl (by kernel_rfl) ?_
    refine awp_peel (T := []) e63_ok (by kernel_rfl) (by kernel_rfl) ?_
    simp only [RT, FS, ↓RE, okR, argEnv, Nat.reduceAdd, Nat.reduceSub, Nat.reduceLT, Nat.reduceLeDiff, Nat.reduceEqDiff, reduceIte, RM]
    refine awp_peel (T := []) e63_ok (by kernel_rfl) (by kernel_rfl) ?_
    simp only [RT, FS, ↓RE, okR, argEnv, Nat.reduceAdd, Nat.reduceSub, Nat.reduceLT, Nat.reduceLeDiff, Nat.reduceEqDiff, reduceIte, RM, o1, o3, o4, o5, q, intL_len, Bool.not_true]
    refine awp_peel (T := []) e63_ok (by kernel_rfl) (by kernel_rfl) ?_
    simp only [RT, FS, ↓RE, okR, argEnv, Nat.reduceAdd, Nat.reduceSub, Nat.reduceLT, Nat.reduceLeDiff, Nat.reduceEqDiff, reduceIte, RM, oArr]
    refine awp_peel (T := []) e63_ok (by kernel_rfl) (by kernel_rfl) ?_
    simp only [RT, FS, ↓RE, okR, argEnv, Nat.reduceAdd, Nat.reduceSub, Nat.reduceLT, Nat.reduceLeDiff, Nat.reduceEqDiff, reduceIte, RM, oOwn]
    refine awp_peel (T := []) e63_ok (by kernel_rfl) (by kernel_rfl) ?_
    simp only [RT, FS, ↓RE, okR, argEnv, Nat.reduceAdd, Nat.reduceSub, Nat.reduceLT, Nat.reduceLeDiff, Nat.reduceEqDiff, reduceIte, RM, hz]
    rcases hwn with h1 | ⟨h1, h2⟩ | ⟨h1, h2, h3⟩
    · refine awp_rest (T := []) e63_ok (by kernel_rfl) (by kernel_rfl) ?_
      simp only [RT, FS, ↓RE, okR, argEnv, Nat.reduceAdd, Nat.reduceSub, Nat.reduceLT, Nat.reduceLeDiff, Nat.reduceEqDiff, reduceIte, RM, hge, oPp, htt, h1, o2]
    · refine awp_rest (T := []) e63_ok (by kernel_rfl) (by kernel_rfl) ?_
      simp only [RT, FS, ↓RE, okR, argEnv, Nat.reduceAdd, Nat.reduceSub, Nat.reduceLT, Nat.reduceLeDiff, Nat.reduceEqDiff, reduceIte, RM, hge, oPp, htt, h1, h2, o2]
    · have := hless h3 h1
      subst this
      refine awp_rest (T := []) e63_ok (by kernel_rfl) (by kernel_rfl) ?_
      simp only [RT, FS, ↓RE, okR, argEnv, Nat.reduceAdd, Nat.reduceSub, Nat.reduceLT, Nat.reduceLeDiff, Nat.reduceEqDiff, reduceIte, RM, hge, oPp, htt, h1, h2, h3, oL, Bool.not_false, o2]
theorem watchRoutes_pure : ∀ Ds, TyL Try.prog Try.f4.params.toList Ds → Pure Try.prog 4 Ds (.bool true) := by
  intro Ds h
  rw [Try.params4] at h
  match Ds, h with
  | [_, _, _, _], ⟨⟨n, _, h1, e1⟩, ⟨n2, _, h2, e2⟩, ⟨n3, _, h3, e3⟩, ⟨n4, _, h4, e4⟩, _⟩ =>
    rw [Try.underlying31] at e1
    rw [Fz.und_3] at e2 e3
    rw [Fz.und_29] at e4
    dsimp only at e1 e2 e3 e4
    obtain ⟨w, rfl, hw⟩ := tyWatch h1
    obtain ⟨c, rfl, _⟩ := tyInt Fz.und_3 h2
    obtain ⟨m, rfl, _⟩ := tyInt Fz.und_3 h3
    obtain ⟨o, rfl, ho⟩ := tyInts h4
    subst e1; cases e2; cases e3; cases e4
    exact watchRoutes_at w hw c m o ho
end Go.Sx
