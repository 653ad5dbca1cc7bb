/- Own work: contracts of functions, used in the proof of a law. -/
import Derived.Test.YtljkgnicmlhipaaSxW56w
set_option linter.unusedVariables false
set_option linter.unusedSimpArgs false
namespace Go.Sx
open Go.Proofs
set_option maxRecDepth 10000

theorem add_mem (p : List Int) : ∀ (l : List Pr) (seen : List Pr) (q : List It), ∀ x ∈ (l.foldl (addI p) (seen, q)).2, x ∈ q ∨ x.1.length = p.length + 1
  | [], _, q, x, hx => .inl hx
  | z :: l, seen, q, x, hx => by
    rw [List.foldl_cons] at hx
    by_cases hz : z ∈ seen
    · rw [show addI p (seen, q) z = (seen, q) by simp [addI, hz]] at hx
      exact add_mem p l seen q x hx
    · rw [show addI p (seen, q) z = (seen ++ [z], q ++ [(p ++ [z.1], z)]) by simp [addI, hz]] at hx
      rcases add_mem p l _ _ x hx with h | h
      · rcases List.mem_append.1 h with h | h
        · exact .inl h
        · simp at h; subst h; right; simp
      · exact .inr h
theorem bfs_len {S : Pr → List Pr} {al : Int} : ∀ (n M : Nat) (seen : List Pr) (q : List It) (p : List Int), (∀ x ∈ q, x.1.length ≤ M) → bfsF S al n (seen, q) = some p → p.length ≤ M + n
  | 0, _, _, _, _, _, h => by simp [bfsF] at h
  | n + 1, M, seen, [], p, _, h => by simp [bfsF] at h
  | n + 1, M, seen, (p1, y) :: q, p, hq, h => by
    simp only [bfsF] at h
    by_cases hy : y.2 = al
    · rw [if_pos hy] at h
      cases h
      have := hq (p1, y) (by simp)
      simp only at this
      omega
    · rw [if_neg hy] at h
      have h1 := hq (p1, y) (by simp)
      simp only at h1
      have := bfs_len n (M + 1) _ _ p (fun x hx => by
        rcases add_mem p1 (S y) seen q x hx with h2 | h2
        · have := hq x (by simp [h2]); omega
        · omega) h
      omega
theorem search_len {s : SkyW} {frm : Int} {l p : List Int} (h : searchO s frm l = some p) : p.length ≤ 50000 := by
  have := bfs_len SFUEL 1 _ _ p (fun x hx => by simp at hx; subst hx; simp) h
  simp only [SFUEL] at this
  omega
/-! WatchSearch -/
noncomputable def gSw : List D → Option D := orcF (fun p : SkyW × Int × List Int => BL p.1.sh ∧ BL p.2.2) (fun p => [.agg p.1.c, .int .i64 p.2.1, inD p.2.2]) (fun p => SweepR p.1 p.2.1 p.2.2)
theorem inD_inj {a b : List Int} (h : inD a = inD b) : a = b := intL_inj (by simpa [inD, intL] using h)
theorem gSw_eq {s : SkyW} (hs : BL s.sh) {l : List Int} (hl : BL l) (frm : Int) : gSw [.agg s.c, .int .i64 frm, inD l] = some (SweepR s frm l) :=
  orcF_eq (ok := fun p : SkyW × Int × List Int => BL p.1.sh ∧ BL p.2.2) (dsf := fun p => [.agg p.1.c, .int .i64 p.2.1, inD p.2.2]) (rf := fun p => SweepR p.1 p.2.1 p.2.2) (s, frm, l) ⟨hs, hl⟩ fun q hq => by
    simp only [List.cons.injEq, D.agg.injEq, D.int.injEq, and_true, true_and] at hq
    rw [SkyW.c_inj hq.1, hq.2.1, inD_inj hq.2.2]
noncomputable def gSrch : List D → Option D := orcF (fun p : SkyW × Int × List Int × List Int => SkyOk p.1 ∧ BL p.2.2.1 ∧ BL p.2.2.2) (fun p => [.agg p.1.c, .int .i64 p.2.1, inD p.2.2.1, .sl (intL p.2.2.2)]) (fun p => .bool (searchesB p.1 p.2.1 p.2.2.1 p.2.2.2))
theorem gSrch_eq {s : SkyW} (hs : SkyOk s) {l p : List Int} (hl : BL l) (hp : BL p) (frm : Int) : gSrch [.agg s.c, .int .i64 frm, inD l, .sl (intL p)] = some (.bool (searchesB s frm l p)) :=
  orcF_eq (ok := fun p : SkyW × Int × List Int × List Int => SkyOk p.1 ∧ BL p.2.2.1 ∧ BL p.2.2.2) (dsf := fun p => [.agg p.1.c, .int .i64 p.2.1, inD p.2.2.1, .sl (intL p.2.2.2)]) (rf := fun p => .bool (searchesB p.1 p.2.1 p.2.2.1 p.2.2.2)) (s, frm, l, p) ⟨hs, hl, hp⟩ fun q hq => by
    simp only [List.cons.injEq, D.agg.injEq, D.int.injEq, D.sl.injEq, and_true, true_and] at hq
    rw [SkyW.c_inj hq.1, hq.2.1, intL_inj (a := q.2.2.1) (b := l) hq.2.2.1, intL_inj hq.2.2.2]
noncomputable def gLess : List D → Option D := orcF (fun p : List Int × List Int => BL p.1 ∧ BL p.2) (fun p => [.sl (intL p.1), .sl (intL p.2)]) (fun p => .bool (lessB p.1 p.2))
theorem gLess_eq {a b : List Int} (ha : BL a) (hb : BL b) : gLess [.sl (intL a), .sl (intL b)] = some (.bool (lessB a b)) :=
  orcF_eq (ok := fun p : List Int × List Int => BL p.1 ∧ BL p.2) (dsf := fun p => [.sl (intL p.1), .sl (intL p.2)]) (rf := fun p => .bool (lessB p.1 p.2)) (a, b) ⟨ha, hb⟩ (fun q hq => by
    simp only [List.cons.injEq, D.sl.injEq, and_true] at hq
    rw [intL_inj hq.1, intL_inj hq.2])
noncomputable abbrev e57 : List (FuncId × (List D → Option D)) :=
  (14, cstO [] (.bool true)) :: (29, gSw) :: (31, gSrch) :: (21, gLess) :: e5
theorem e57_ok : OkO Try.prog (mkO e57) :=
  mkO_ok (cstO_ok known_t) <| mkO_ok (orcF_ok fun p h => Sweep_t p.1 h.1 p.2.1 p.2.2 h.2) <| mkO_ok (orcF_ok fun p h => r_Searches_t h.1 p.2.1 h.2.1 h.2.2) <| mkO_ok (orcF_ok fun p h => r_Less_t p.1 p.2 h.1 h.2) e5_ok
set_option maxHeartbeats 4000000 in
theorem watchSearch_at (s : SkyW) (hs : BL s.sh) (frm : Int) (l other : List Int) (hl : BL l) (hot : BL other) : Pure Try.prog 8 [.agg s.c, .int .i64 frm, inD l, .sl (intL other)] (.bool true) := by
  have o2 := cstO_eq [] (.bool true)
  have o3 := gSky_eq s
  have o4 := fun c => gFree_eq hs c
  by_cases hgo : skyB s = true ∧ s.sh.length ≤ 60 ∧ freeB s.sh frm = true ∧ l.length ≤ 6 ∧ other.length ≤ 100
  rotate_left
  · have o4 := o4 frm
    generalize skyB s = B at *
    generalize freeB s.sh frm = F at *
    obtain ⟨w, d, sh⟩ := s
    simp only [SkyW.c] at *
    refine pure_of_pieces (rs := [.tmp 8]) (m := 94) [(6, [(7, false, false, [])])] e57_ok (by kernel_rfl) Try.func8 rfl (by kernel_rfl) rfl rfl (by kernel_rfl) ?_
    refine awp_peel (T := [(6, [(7, false, false, [])])]) e57_ok (by kernel_rfl) (by kernel_rfl) ?_
    simp only [RT, FS, ↓RE, okR, argEnv, Nat.reduceAdd, Nat.reduceSub, Nat.reduceLT, Nat.reduceLeDiff, Nat.reduceEqDiff, reduceIte, RM]
    refine awp_peel (T := [(6, [(7, false, false, [])])]) e57_ok (by kernel_rfl) (by kernel_rfl) ?_
    cases B
    · simp only [RT, FS, ↓RE, okR, argEnv, Nat.reduceAdd, Nat.reduceSub, Nat.reduceLT, Nat.reduceLeDiff, Nat.reduceEqDiff, reduceIte, RM, o3, o2, Bool.not_false]
    cases q1 : decide ((60 : Int) < (sh.length : Int))
    case true =>
      simp only [RT, FS, ↓RE, okR, argEnv, Nat.reduceAdd, Nat.reduceSub, Nat.reduceLT, Nat.reduceLeDiff, Nat.reduceEqDiff, reduceIte, RM, o3, o2, q1, Bool.not_true, List.length_map]
    cases F
    · simp only [RT, FS, ↓RE, okR, argEnv, Nat.reduceAdd, Nat.reduceSub, Nat.reduceLT, Nat.reduceLeDiff, Nat.reduceEqDiff, reduceIte, RM, o3, o2, q1, o4, Bool.not_true, Bool.not_false, List.length_map]
    cases q2 : decide ((6 : Int) < (l.length : Int))
    case true =>
      simp only [RT, FS, ↓RE, okR, argEnv, Nat.reduceAdd, Nat.reduceSub, Nat.reduceLT, Nat.reduceLeDiff, Nat.reduceEqDiff, reduceIte, RM, o3, o2, q1, o4, q2, Bool.not_true, List.length_map]
    have q3 : decide ((100 : Int) < (other.length : Int)) = true := by
      simp only [decide_eq_true_eq]
      simp only [decide_eq_false_iff_not] at q1 q2
      refine Classical.byContradiction fun hc => hgo ⟨rfl, by omega, rfl, by omega, by omega⟩
    simp only [RT, FS, ↓RE, okR, argEnv, Nat.reduceAdd, Nat.reduceSub, Nat.reduceLT, Nat.reduceLeDiff, Nat.reduceEqDiff, reduceIte, RM, o3, o2, q1, o4, q2, q3, Bool.not_true, List.length_map, intL_len]
  obtain ⟨g1, g2, g3, g4, g5⟩ := hgo
  have hso := sky_ok g1
  have o5 := gSw_eq hs hl frm
  have o6 := gSrch_eq hso hl hot frm
  have hR : SweepR s frm l = if (l.all fun c => freeB s.sh c) = true then (match searchO s frm l with
    | some p => .tup [.sl (intL p), .int .i64 0]
    | none => .tup [.nils, .int .i64 5]) else .tup [.nils, .int .i64 2] := by
    unfold SweepR sweepB
    rw [if_neg (by omega), g1, g3]
    have e : (!(l.any fun c => !freeB s.sh c)) = l.all fun c => freeB s.sh c := by simp [List.all_eq_not_any_not]
    rw [e]; rfl
  have hno : searchO s frm l = none → searchesB s frm l other = false := fun h => by
    rw [Bool.eq_false_iff]
    intro hc
    exact search_no hso g3 (by omega) h other (searches_iff.1 hc)
  have hyes : ∀ p, searchO s frm l = some p → searchesB s frm l p = true ∧ (searchesB s frm l other = true → lessB other p = false) := fun p h => by
    obtain ⟨h1, h2⟩ := search_best hso g3 h
    exact ⟨searches_iff.2 h1, fun h3 => h2 other (searches_iff.1 h3)⟩
  have hbp : ∀ p, searchO s frm l = some p → gSrch [.agg s.c, .int .i64 frm, inD l, .sl (intL p)] = some (.bool (searchesB s frm l p)) ∧ gLess [.sl (intL other), .sl (intL p)] = some (.bool (lessB other p)) := fun p h => by
    have := search_len h
    exact ⟨gSrch_eq hso hl (by simp only [BL]; omega) frm, gLess_eq hot (by simp only [BL]; omega)⟩
  rw [hR] at o5
  clear hR
  have o4f := o4 frm
  rw [g3] at o4f
  rw [g1] at o3
  generalize searchO s frm l = SO at *
  generalize hown : searchesB s frm l other = own at *
  have q1 : decide ((60 : Int) < (s.sh.length : Int)) = false := by simp; omega
  have q2 : decide ((6 : Int) < (l.length : Int)) = false := by simp; omega
  have q3 : decide ((100 : Int) < (other.length : Int)) = false := by simp; omega
  obtain ⟨w, d, sh⟩ := s
  simp only [SkyW.c] at *
  have hz : ((0 : Int) != 0) = false := rfl
  have hz5 : ((5 : Int) != 0) = true := rfl
  have hz6 : ((5 : Int) == 5) = true := rfl
  refine pure_of_pieces (rs := [.tmp 8]) (m := 94) [(6, [(7, false, false, [])])] e57_ok (by kernel_rfl) Try.func8 rfl (by kernel_rfl) rfl rfl (by kernel_rfl) ?_
  refine awp_peel (T := [(6, [(7, false, false, [])])]) e57_ok (by kernel_rfl) (by kernel_rfl) ?_
  simp only [RT, FS, ↓RE, okR, argEnv, Nat.reduceAdd, Nat.reduceSub, Nat.reduceLT, Nat.reduceLeDiff, Nat.reduceEqDiff, reduceIte, RM]
  refine awp_peel (T := [(6, [(7, false, false, [])])]) e57_ok (by kernel_rfl) (by kernel_rfl) ?_
  simp only [RT, FS, ↓RE, okR, argEnv, Nat.reduceAdd, Nat.reduceSub, Nat.reduceLT, Nat.reduceLeDiff, Nat.reduceEqDiff, reduceIte, RM, o3, o4f, q1, q2, q3, Bool.not_true, List.length_map, intL_len]
  refine awp_peel (T := [(6, [(7, false, false, [])])]) e57_ok (by kernel_rfl) (by kernel_rfl) ?_
  simp only [RT, FS, ↓RE, okR, argEnv, Nat.reduceAdd, Nat.reduceSub, Nat.reduceLT, Nat.reduceLeDiff, Nat.reduceEqDiff, reduceIte, RM]
  refine loopV (ι := Nat) e57_ok [(6, [(7, false, false, [])])] (fun i => [(1, .int .i64 frm), (2, inD l), (3, .sl (intL other)), (4, .ptr 0 0), (9, .int .i64 (i : Int))])
    (fun i => [(0, .box [.int .i64 w, .int .i64 d, shD sh])]) 1 (fun i => i ≤ l.length ∧ (l.take i).all (fun c => freeB sh c) = true) (fun i => l.length - i) 0 (by kernel_rfl) (by kernel_rfl) ⟨Nat.zero_le _, by simp⟩ ?_ ?_
  · simp [headW, heapW, envW, blkLt, D.ltL, D.lt, look, hget, shD]
  rintro i ⟨hil, hal⟩
  rcases Nat.lt_or_ge i l.length with hlt | hge
  · have hc := nat_lt_true hlt
    obtain ⟨x, hr⟩ : ∃ r, l[i]? = some r := ⟨l[i], by simp [hlt]⟩
    have hix := aft_ix hr
    have hw1 := wrap_i64 (z := (i : Int) + 1) (by omega) (by omega)
    have oFx := o4 x
    cases q : freeB sh x
    · rw [q] at oFx
      simp only [RT, FS, ↓RE, okR, argEnv, Nat.reduceAdd, Nat.reduceSub, Nat.reduceLT, Nat.reduceLeDiff, Nat.reduceEqDiff, reduceIte, RM, List.length_map, hc, decide_true, hix, oFx, Bool.not_false, o2]
    · rw [q] at oFx
      simp only [RT, FS, ↓RE, okR, argEnv, Nat.reduceAdd, Nat.reduceSub, Nat.reduceLT, Nat.reduceLeDiff, Nat.reduceEqDiff, reduceIte, RM, List.length_map, hc, decide_true, hix, oFx, Bool.not_true, hw1]
      exact ⟨i + 1, ⟨by omega, all_cut hr hal q⟩, by omega, by simp [headW, heapW, envW, blkLt, D.ltL, D.lt, look, hget, shD]⟩
  · have hc := nat_lt_false hge
    have : i = l.length := by omega
    subst this
    rw [List.take_length] at hal
    rw [if_pos hal] at o5
    simp only [RT, FS, ↓RE, okR, argEnv, Nat.reduceAdd, Nat.reduceSub, Nat.reduceLT, Nat.reduceLeDiff, Nat.reduceEqDiff, reduceIte, RM, List.length_map, hc, decide_false]
    cases SO with
    | none =>
      have hno := hno rfl
      subst hno
      refine awp_peel (T := [(6, [(7, false, false, [])])]) e57_ok (by kernel_rfl) (by kernel_rfl) ?_
      simp only [RT, FS, ↓RE, okR, argEnv, Nat.reduceAdd, Nat.reduceSub, Nat.reduceLT, Nat.reduceLeDiff, Nat.reduceEqDiff, reduceIte, RM, o5]
      refine awp_peel (T := [(6, [(7, false, false, [])])]) e57_ok (by kernel_rfl) (by kernel_rfl) ?_
      simp only [RT, FS, ↓RE, okR, argEnv, Nat.reduceAdd, Nat.reduceSub, Nat.reduceLT, Nat.reduceLeDiff, Nat.reduceEqDiff, reduceIte, RM, o6]
      refine awp_peel (T := [(6, [(7, false, false, [])])]) e57_ok (by kernel_rfl) (by kernel_rfl) ?_
      simp only [RT, FS, ↓RE, okR, argEnv, Nat.reduceAdd, Nat.reduceSub, Nat.reduceLT, Nat.reduceLeDiff, Nat.reduceEqDiff, reduceIte, RM, hz5, hz6, Bool.not_false, o2]
    | some p =>
      obtain ⟨y1, y2⟩ := hyes p rfl
      obtain ⟨z1, z2⟩ := hbp p rfl
      rw [y1] at z1
      refine awp_peel (T := [(6, [(7, false, false, [])])]) e57_ok (by kernel_rfl) (by kernel_rfl) ?_
      simp only [RT, FS, ↓RE, okR, argEnv, Nat.reduceAdd, Nat.reduceSub, Nat.reduceLT, Nat.reduceLeDiff, Nat.reduceEqDiff, reduceIte, RM, o5]
      refine awp_peel (T := [(6, [(7, false, false, [])])]) e57_ok (by kernel_rfl) (by kernel_rfl) ?_
      simp only [RT, FS, ↓RE, okR, argEnv, Nat.reduceAdd, Nat.reduceSub, Nat.reduceLT, Nat.reduceLeDiff, Nat.reduceEqDiff, reduceIte, RM, o6]
      refine awp_peel (T := [(6, [(7, false, false, [])])]) e57_ok (by kernel_rfl) (by kernel_rfl) ?_
      simp only [RT, FS, ↓RE, okR, argEnv, Nat.reduceAdd, Nat.reduceSub, Nat.reduceLT, Nat.reduceLeDiff, Nat.reduceEqDiff, reduceIte, RM, hz]
      cases own
      · refine awp_rest (T := [(6, [(7, false, false, [])])]) e57_ok (by kernel_rfl) (by kernel_rfl) ?_
        simp only [RT, FS, ↓RE, okR, argEnv, Nat.reduceAdd, Nat.reduceSub, Nat.reduceLT, Nat.reduceLeDiff, Nat.reduceEqDiff, reduceIte, RM, z1, Bool.not_false, o2]
      · rw [y2 rfl] at z2
        refine awp_rest (T := [(6, [(7, false, false, [])])]) e57_ok (by kernel_rfl) (by kernel_rfl) ?_
        simp only [RT, FS, ↓RE, okR, argEnv, Nat.reduceAdd, Nat.reduceSub, Nat.reduceLT, Nat.reduceLeDiff, Nat.reduceEqDiff, reduceIte, RM, z1, z2, Bool.not_true, Bool.not_false, o2]
theorem watchSearch_pure : ∀ Ds, TyL Try.prog Try.f8.params.toList Ds → Pure Try.prog 8 Ds (.bool true) := by
  intro Ds h
  rw [Try.params8] at h
  match Ds, h with
  | [_, _, _, _], ⟨⟨n, _, h1, e1⟩, ⟨n2, _, h2, e2⟩, ⟨n3, _, h3, e3⟩, ⟨n4, _, h4, e4⟩, _⟩ =>
    rw [Try.underlying24] at e1
    rw [Fz.und_3] at e2
    rw [Fz.und_29] at e3 e4
    dsimp only at e1 e2 e3 e4
    obtain ⟨s, rfl, hs⟩ := tySky h1
    obtain ⟨frm, rfl, _⟩ := tyInt Fz.und_3 h2
    obtain ⟨l, rfl, hl⟩ := tyInts h3
    obtain ⟨o, rfl, ho⟩ := tyInts h4
    subst e1; cases e2; cases e3; cases e4
    exact watchSearch_at s hs frm l o hl ho
end Go.Sx
