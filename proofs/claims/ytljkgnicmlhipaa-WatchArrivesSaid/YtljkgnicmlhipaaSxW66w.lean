/- Own work: contracts of functions, used in the proof of a law. -/
import Derived.Test.YtljkgnicmlhipaaSxW65w
set_option linter.unusedVariables false
set_option linter.unusedSimpArgs false
namespace Go.Sx
open Go.Proofs
set_option maxRecDepth 10000

theorem bst_none {w : WatchW} {c m : Int} (h : ∀ p, rArrI w p c m < 0) (n : Nat) : bstN (fun p => rArrI w p c m) w.n.r.length (hAt w.s w.n.r c m) n = (-1, none) := by
  rcases bstN_ok (fun p => rArrI w p c m) w.n.r.length (hAt w.s w.n.r c m) n with ⟨e, _⟩ | ⟨r, _, h1, _⟩
  · exact e
  · have := h r
    simp only at h1
    omega
theorem bst_some {w : WatchW} (hw : WatchOk w) {c m : Int} (hm : 0 ≤ m ∧ m ≤ 1440) {p : List Int} (h0 : 0 ≤ arrivesI w c m) (h1 : rArrI w p c m = arrivesI w c m)
    (h2 : ∀ p', 0 ≤ rArrI w p' c m → arrivesI w c m ≤ rArrI w p' c m ∧ (rArrI w p' c m = arrivesI w c m → lessB p' p = false)) :
    bstN (fun p => rArrI w p c m) w.n.r.length (hAt w.s w.n.r c m) w.n.r.length = (arrivesI w c m, some p) := by
  obtain ⟨s, g1, g2, g3⟩ := (route_arr (w := w) (c := c) hm.1 (p := p)).1 (by omega)
  rw [h1] at g3
  have hnd : p.Nodup := Classical.byContradiction fun hn => by
    obtain ⟨p', a', k1, k2, k3⟩ := g3.cut (along_ok hw.n) (along_ge hw) hn
    obtain ⟨e1, e2⟩ := (route_arr (w := w) (c := c) hm.1 (p := p')).2 a' ⟨s, g1, g2, k1⟩
    obtain ⟨e3, e4⟩ := h2 p' (by omega)
    have e5 := e4 (by omega)
    unfold lessB at e5
    rw [if_neg (by omega)] at e5
    simp at e5
    omega
  have hlen := nodup_len w.n.r.length p hnd (g3.rng ⟨by omega, by omega⟩)
  have hp1 : 1 ≤ p.length := by obtain ⟨r, hr⟩ := g3.hd; rw [hr]; simp
  have hmem := lay_mem g3 g1 g2 hnd (p.length - 1) (by omega)
  rw [show p.length - 1 + 1 = p.length by omega, List.take_length] at hmem
  have hS : ∃ j, j < w.n.r.length ∧ p ∈ layL w.n.r.length (hAt w.s w.n.r c m) j ∧ lst p = 0 := ⟨p.length - 1, by omega, hmem, g3.last⟩
  rcases bstN_ok (fun p => rArrI w p c m) w.n.r.length (hAt w.s w.n.r c m) w.n.r.length with ⟨_, e⟩ | ⟨r, e, k1, _, k3⟩
  · have := e p hS
    simp only at this
    omega
  · simp only at k1 k3
    obtain ⟨j1, j2⟩ := k3 p hS (by omega)
    obtain ⟨i1, i2⟩ := h2 r k1
    have he : rArrI w r c m = arrivesI w c m := by omega
    have := lessB_tot (i2 he) (j2 (by omega))
    subst this
    rw [e]
    show (rArrI w r c m, some r) = _
    rw [he]
structure RArOk (w : WatchW) (c m : Int) : Prop where
  wo : WatchOk w
  c : InS w.s c
  m : 0 ≤ m ∧ m ≤ 1440
def rArrD (w : WatchW) (c m : Int) : D := .tup [.int .i64 (bstN (fun p => rArrI w p c m) w.n.r.length (hAt w.s w.n.r c m) w.n.r.length).1, rtD (bstN (fun p => rArrI w p c m) w.n.r.length (hAt w.s w.n.r c m) w.n.r.length).2]
noncomputable abbrev e66 : List (FuncId × (List D → Option D)) :=
  (12, gShort) :: (14, cstO [] (.bool true)) :: (15, gWII okW2 ArrR) :: (18, gWII RArOk rArrD) :: (19, gSame) :: e5
theorem e66_ok : OkO Try.prog (mkO e66) :=
  mkO_ok (orcF_ok fun w h => short_t w h) <| mkO_ok (cstO_ok known_t) <| mkO_ok (orcF_ok fun p h => Arrive_t p.1 h p.2.1 p.2.2) <| mkO_ok (orcF_ok fun p h => r_Arrive_t h.wo h.c h.m) <| mkO_ok gSame_ok e5_ok
set_option maxHeartbeats 4000000 in
theorem watchArrives_at (w : WatchW) (hw : WatchL w) (c m : Int) : Pure Try.prog 3 [.agg w.c, .int .i64 c, .int .i64 m] (.bool true) := by
  have o1 := gShort_eq hw
  have o2 := cstO_eq [] (.bool true)
  have o3 := gWatch_eq hw
  have o4 := gFree_eq hw.s c
  have o5 := gMin_eq m
  have oArr : gWII okW2 ArrR [.agg w.c, .int .i64 c, .int .i64 m] = some (ArrR w c m) := gWII_eq (ok := okW2) hw
  have hbad : (watchB w && (freeB w.s.sh c && rI m 0 1440)) = false → ArrR w c m = .tup [.int .i64 0, .nils, .int .i64 2] := fun h => by unfold ArrR; rw [if_neg (by rw [h]; simp)]
  have hgood : (watchB w && (freeB w.s.sh c && rI m 0 1440)) = true → (ArrR w c m = .tup [.int .i64 0, .nils, .int .i64 5] ∧ gWII RArOk rArrD [.agg w.c, .int .i64 c, .int .i64 m] = some (.tup [.int .i64 (-1), .nils])) ∨
      ∃ p, ArrR w c m = .tup [.int .i64 (arrivesI w c m), .sl (intL p), .int .i64 0] ∧ 0 ≤ arrivesI w c m ∧ gWII RArOk rArrD [.agg w.c, .int .i64 c, .int .i64 m] = some (.tup [.int .i64 (arrivesI w c m), .sl (intL p)]) ∧ p.length ≤ 8 := fun h => by
    simp only [Bool.and_eq_true] at h
    have hwo := watch_ok h.1
    have hm := rI_le h.2.2
    have oR : gWII RArOk rArrD [.agg w.c, .int .i64 c, .int .i64 m] = some (rArrD w c m) := gWII_eq (ok := RArOk) ⟨hwo, free_ins h.2.1, hm⟩
    rcases arr_cases h.1 h.2.1 h.2.2 with ⟨e1, _, e2⟩ | ⟨p, e1, e2, _, _, e5, e6, e7⟩
    · left
      refine ⟨e1, ?_⟩
      rw [oR, rArrD, bst_none e2]
      rfl
    · right
      refine ⟨p, e1, e2, ?_, e5⟩
      rw [oR, rArrD, bst_some hwo hm e2 e6 e7]
      rfl
  generalize arrivesI w c m = t at *
  generalize ArrR w c m = R at *
  generalize shortB w = B at *
  obtain ⟨W, hW⟩ : ∃ W, watchB w = W := ⟨_, rfl⟩
  rw [hW] at o3 hbad hgood
  clear hW
  generalize freeB w.s.sh c = F at *
  generalize rI m 0 1440 = M at *
  obtain ⟨⟨sw, sd, sh⟩, ⟨rl, lk⟩, cell, mi, ev, en, af⟩ := w
  simp only [WatchW.c, SkyW.c, NetW.c, List.cons_append, List.nil_append] at *
  have hz : ((0 : Int) == 0) = true := rfl
  have hz2 : ((2 : Int) == 2) = true := rfl
  have hz5 : ((5 : Int) == 5) = true := rfl
  have hn1 : decide ((-1 : Int) < 0) = true := by decide
  have htt : (t == t) = true := by simp
  refine pure_of_pieces (rs := [.tmp 6]) (m := 102) [] e66_ok (by kernel_rfl) Try.func3 rfl (by kernel_rfl) rfl rfl (by kernel_rfl) ?_
  refine awp_peel (T := []) e66_ok (by kernel_rfl) (by kernel_rfl) ?_
  simp only [RT, FS, ↓RE, okR, argEnv, Nat.reduceAdd, Nat.reduceSub, Nat.reduceLT, Nat.reduceLeDiff, Nat.reduceEqDiff, reduceIte, RM]
  refine awp_peel (T := []) e66_ok (by kernel_rfl) (by kernel_rfl) ?_
  cases B
  · simp only [RT, FS, ↓RE, okR, argEnv, Nat.reduceAdd, Nat.reduceSub, Nat.reduceLT, Nat.reduceLeDiff, Nat.reduceEqDiff, reduceIte, RM, o1, o2, Bool.not_false]
  cases W
  · have r1 := hbad rfl
    subst r1
    simp only [RT, FS, ↓RE, okR, argEnv, Nat.reduceAdd, Nat.reduceSub, Nat.reduceLT, Nat.reduceLeDiff, Nat.reduceEqDiff, reduceIte, RM, o1, o3, Bool.not_true]
    refine awp_peel (T := []) e66_ok (by kernel_rfl) (by kernel_rfl) ?_
    simp only [RT, FS, ↓RE, okR, argEnv, Nat.reduceAdd, Nat.reduceSub, Nat.reduceLT, Nat.reduceLeDiff, Nat.reduceEqDiff, reduceIte, RM, oArr]
    refine awp_peel (T := []) e66_ok (by kernel_rfl) (by kernel_rfl) ?_
    simp only [RT, FS, ↓RE, okR, argEnv, Nat.reduceAdd, Nat.reduceSub, Nat.reduceLT, Nat.reduceLeDiff, Nat.reduceEqDiff, reduceIte, RM, o3, Bool.not_false, hz2, hz, o2]
  cases q : decide ((5 : Int) < (rl.length : Int))
  case true =>
    simp only [RT, FS, ↓RE, okR, argEnv, Nat.reduceAdd, Nat.reduceSub, Nat.reduceLT, Nat.reduceLeDiff, Nat.reduceEqDiff, reduceIte, RM, o1, o2, o3, q, List.length_map, Bool.not_true]
  cases F
  · have r1 := hbad rfl
    subst r1
    simp only [RT, FS, ↓RE, okR, argEnv, Nat.reduceAdd, Nat.reduceSub, Nat.reduceLT, Nat.reduceLeDiff, Nat.reduceEqDiff, reduceIte, RM, o1, o3, q, List.length_map, Bool.not_true]
    refine awp_peel (T := []) e66_ok (by kernel_rfl) (by kernel_rfl) ?_
    simp only [RT, FS, ↓RE, okR, argEnv, Nat.reduceAdd, Nat.reduceSub, Nat.reduceLT, Nat.reduceLeDiff, Nat.reduceEqDiff, reduceIte, RM, oArr]
    refine awp_peel (T := []) e66_ok (by kernel_rfl) (by kernel_rfl) ?_
    simp only [RT, FS, ↓RE, okR, argEnv, Nat.reduceAdd, Nat.reduceSub, Nat.reduceLT, Nat.reduceLeDiff, Nat.reduceEqDiff, reduceIte, RM, o3, o4, Bool.not_true, Bool.not_false, hz2, hz, o2]
  cases M
  · have r1 := hbad rfl
    subst r1
    simp only [RT, FS, ↓RE, okR, argEnv, Nat.reduceAdd, Nat.reduceSub, Nat.reduceLT, Nat.reduceLeDiff, Nat.reduceEqDiff, reduceIte, RM, o1, o3, q, List.length_map, Bool.not_true]
    refine awp_peel (T := []) e66_ok (by kernel_rfl) (by kernel_rfl) ?_
    simp only [RT, FS, ↓RE, okR, argEnv, Nat.reduceAdd, Nat.reduceSub, Nat.reduceLT, Nat.reduceLeDiff, Nat.reduceEqDiff, reduceIte, RM, oArr]
    refine awp_peel (T := []) e66_ok (by kernel_rfl) (by kernel_rfl) ?_
    simp only [RT, FS, ↓RE, okR, argEnv, Nat.reduceAdd, Nat.reduceSub, Nat.reduceLT, Nat.reduceLeDiff, Nat.reduceEqDiff, reduceIte, RM, o3, o4, o5, Bool.not_true, Bool.not_false, hz2, hz, o2]
  rcases hgood rfl with ⟨r1, oR⟩ | ⟨p, r1, h0, oR, hpl⟩
  · subst r1
    simp only [RT, FS, ↓RE, okR, argEnv, Nat.reduceAdd, Nat.reduceSub, Nat.reduceLT, Nat.reduceLeDiff, Nat.reduceEqDiff, reduceIte, RM, o1, o3, q, List.length_map, Bool.not_true]
    refine awp_peel (T := []) e66_ok (by kernel_rfl) (by kernel_rfl) ?_
    simp only [RT, FS, ↓RE, okR, argEnv, Nat.reduceAdd, Nat.reduceSub, Nat.reduceLT, Nat.reduceLeDiff, Nat.reduceEqDiff, reduceIte, RM, oArr]
    refine awp_peel (T := []) e66_ok (by kernel_rfl) (by kernel_rfl) ?_
    simp only [RT, FS, ↓RE, okR, argEnv, Nat.reduceAdd, Nat.reduceSub, Nat.reduceLT, Nat.reduceLeDiff, Nat.reduceEqDiff, reduceIte, RM, o3, o4, o5, Bool.not_true]
    refine awp_peel (T := []) e66_ok (by kernel_rfl) (by kernel_rfl) ?_
    simp only [RT, FS, ↓RE, okR, argEnv, Nat.reduceAdd, Nat.reduceSub, Nat.reduceLT, Nat.reduceLeDiff, Nat.reduceEqDiff, reduceIte, RM, oR]
    refine awp_peel (T := []) e66_ok (by kernel_rfl) (by kernel_rfl) ?_
    simp only [RT, FS, ↓RE, okR, argEnv, Nat.reduceAdd, Nat.reduceSub, Nat.reduceLT, Nat.reduceLeDiff, Nat.reduceEqDiff, reduceIte, RM, hn1, hz5, hz, o2]
  · subst r1
    have oS := gSame_eq (a := p) (b := p) (by simp only [BL]; omega) (by simp only [BL]; omega)
    have ht0 : decide (t < 0) = false := by simp; omega
    simp only [RT, FS, ↓RE, okR, argEnv, Nat.reduceAdd, Nat.reduceSub, Nat.reduceLT, Nat.reduceLeDiff, Nat.reduceEqDiff, reduceIte, RM, o1, o3, q, List.length_map, Bool.not_true]
    refine awp_peel (T := []) e66_ok (by kernel_rfl) (by kernel_rfl) ?_
    simp only [RT, FS, ↓RE, okR, argEnv, Nat.reduceAdd, Nat.reduceSub, Nat.reduceLT, Nat.reduceLeDiff, Nat.reduceEqDiff, reduceIte, RM, oArr]
    refine awp_peel (T := []) e66_ok (by kernel_rfl) (by kernel_rfl) ?_
    simp only [RT, FS, ↓RE, okR, argEnv, Nat.reduceAdd, Nat.reduceSub, Nat.reduceLT, Nat.reduceLeDiff, Nat.reduceEqDiff, reduceIte, RM, o3, o4, o5, Bool.not_true]
    refine awp_peel (T := []) e66_ok (by kernel_rfl) (by kernel_rfl) ?_
    simp only [RT, FS, ↓RE, okR, argEnv, Nat.reduceAdd, Nat.reduceSub, Nat.reduceLT, Nat.reduceLeDiff, Nat.reduceEqDiff, reduceIte, RM, oR]
    refine awp_peel (T := []) e66_ok (by kernel_rfl) (by kernel_rfl) ?_
    simp only [RT, FS, ↓RE, okR, argEnv, Nat.reduceAdd, Nat.reduceSub, Nat.reduceLT, Nat.reduceLeDiff, Nat.reduceEqDiff, reduceIte, RM, ht0]
    refine awp_rest (T := []) e66_ok (by kernel_rfl) (by kernel_rfl) ?_
    simp only [RT, FS, ↓RE, okR, argEnv, Nat.reduceAdd, Nat.reduceSub, Nat.reduceLT, Nat.reduceLeDiff, Nat.reduceEqDiff, reduceIte, RM, hz, htt, oS, decide_true, o2]
theorem watchArrives_pure : ∀ Ds, TyL Try.prog Try.f3.params.toList Ds → Pure Try.prog 3 Ds (.bool true) := by
  intro Ds h
  rw [Try.params3] at h
  match Ds, h with
  | [_, _, _], ⟨⟨n, _, h1, e1⟩, ⟨n2, _, h2, e2⟩, ⟨n3, _, h3, e3⟩, _⟩ =>
    rw [Try.underlying31] at e1
    rw [Fz.und_3] at e2 e3
    dsimp only at e1 e2 e3
    obtain ⟨w, rfl, hw⟩ := tyWatch h1
    obtain ⟨c, rfl, _⟩ := tyInt Fz.und_3 h2
    obtain ⟨m, rfl, _⟩ := tyInt Fz.und_3 h3
    subst e1; cases e2; cases e3
    exact watchArrives_at w hw c m
end Go.Sx
