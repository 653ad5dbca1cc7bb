/- Own work: contracts of functions, used in the proof of a law. -/
import Derived.Test.YtljkgnicmlhipaaSxW53w
set_option linter.unusedVariables false
set_option linter.unusedSimpArgs false
namespace Go.Sx
open Go.Proofs
set_option maxRecDepth 10000

/-! WatchInTime -/
structure LateOk (w : WatchW) (l : List MsgW) (i : Nat) : Prop where
  wo : WatchOk w
  n : l.length ≤ 1000
  t : ∀ m ∈ l, 0 ≤ m.t ∧ m.t ≤ 1440
  i : i < w.aft.length
noncomputable def gLate : List D → Option D := orcF (fun p : WatchW × List MsgW × Int × Nat => LateOk p.1 p.2.1 p.2.2.2) (fun p => [.agg p.1.c, msD p.2.1, .int .i64 p.2.2.1, .int .i64 ((p.2.2.2 : Int) + 1)]) (fun p => .bool (lateI p.1 p.2.1 p.2.2.1 (p.1.aft.getD p.2.2.2 0)))
theorem gLate_eq {w : WatchW} {l : List MsgW} {i : Nat} (h : LateOk w l i) (t : Int) : gLate [.agg w.c, msD l, .int .i64 t, .int .i64 ((i : Int) + 1)] = some (.bool (decide ((i : Int) + 1 ≤ stF w l t))) := by
  rw [← late_iff h.wo.f l t h.i]
  exact orcF_eq (ok := fun p : WatchW × List MsgW × Int × Nat => LateOk p.1 p.2.1 p.2.2.2) (dsf := fun p => [.agg p.1.c, msD p.2.1, .int .i64 p.2.2.1, .int .i64 ((p.2.2.2 : Int) + 1)]) (rf := fun p => .bool (lateI p.1 p.2.1 p.2.2.1 (p.1.aft.getD p.2.2.2 0))) (w, l, t, i) h fun q hq => by
    simp only [List.cons.injEq, D.agg.injEq, D.int.injEq, and_true, true_and] at hq
    rw [WatchW.c_inj hq.1, En.map_inj (E := enMs) hq.2.1, hq.2.2.1, show q.2.2.2 = i by have := hq.2.2.2; omega]
noncomputable abbrev e54 : List (FuncId × (List D → Option D)) :=
  (12, gShort) :: (14, cstO [] (.bool true)) :: (22, gWLN okL mailedD) :: (27, gLate) :: []
theorem e54_ok : OkO Try.prog (mkO e54) :=
  mkO_ok (orcF_ok fun w h => short_t w h) <| mkO_ok (cstO_ok known_t) <| mkO_ok (orcF_ok fun p h => mailed_t h.1 h.2 p.2.2) <|
  mkO_ok (orcF_ok fun p h => late_t h.wo h.n h.t p.2.2.1 h.i) <| fun _ _ _ h => by cases h
theorem stF_le (w : WatchW) (l : List MsgW) (t : Int) : stF w l t ≤ (w.aft.length : Int) := by
  unfold stF stageI
  split
  · omega
  · have := List.length_filter_le (lateB w (contactI w.min (knownL l t)) t) w.aft
    omega
set_option maxHeartbeats 4000000 in
theorem watchInTime_at (w : WatchW) (hw : WatchL w) (l : List MsgW) (hl : BL l) (now : Int) : Pure Try.prog 6 [.agg w.c, msD l, .int .i64 now] (.bool true) := by
  have o1 := gShort_eq hw
  have o2 := cstO_eq [] (.bool true)
  have o3 : gWLN okL mailedD [.agg w.c, msD l, .int .i64 now] = some (.int .i64 (askedI w l now)) := gWLN_eq ⟨hw, hl⟩
  have pc0 := Calls_nil hw now
  have pc1 := Calls_t hw hl now
  by_cases hgo : shortB w = true ∧ l.length ≤ 15 ∧ askedI w l now = 0
  rotate_left
  · generalize shortB w = B at *
    generalize askedI w l now = E at *
    obtain ⟨⟨sw, sd, sh⟩, ⟨rl, lk⟩, cell, mi, ev, en, af⟩ := w
    simp only [WatchW.c, SkyW.c, NetW.c, List.cons_append, List.nil_append] at *
    refine pure_of_pieces (rs := [.tmp 6]) (m := 245) [(10, [(12, false, false, [])]), (24, [(61, false, false, [])])] e54_ok (by kernel_rfl) Try.func6 rfl (by kernel_rfl) rfl rfl (by kernel_rfl) ?_
    refine awp_peel (T := [(10, [(12, false, false, [])]), (24, [(61, false, false, [])])]) e54_ok (by kernel_rfl) (by kernel_rfl) ?_
    simp only [RT, FS, ↓RE, okR, argEnv, Nat.reduceAdd, Nat.reduceSub, Nat.reduceLT, Nat.reduceLeDiff, Nat.reduceEqDiff, reduceIte, RM]
    refine awp_peel (T := [(10, [(12, false, false, [])]), (24, [(61, false, false, [])])]) e54_ok (by kernel_rfl) (by kernel_rfl) ?_
    cases B
    · simp only [RT, FS, ↓RE, okR, argEnv, Nat.reduceAdd, Nat.reduceSub, Nat.reduceLT, Nat.reduceLeDiff, Nat.reduceEqDiff, reduceIte, RM, o1, o2, Bool.not_false]
    cases q1 : decide ((15 : Int) < (l.length : Int))
    case true =>
      simp only [RT, FS, ↓RE, okR, argEnv, Nat.reduceAdd, Nat.reduceSub, Nat.reduceLT, Nat.reduceLeDiff, Nat.reduceEqDiff, reduceIte, RM, o1, o2, q1, Bool.not_true, List.length_map]
    have hE : (E != 0) = true := by
      simp only [bne_iff_ne]
      intro e
      exact hgo ⟨rfl, by simp at q1; omega, e⟩
    simp only [RT, FS, ↓RE, okR, argEnv, Nat.reduceAdd, Nat.reduceSub, Nat.reduceLT, Nat.reduceLeDiff, Nat.reduceEqDiff, reduceIte, RM, o1, o2, o3, q1, hE, Bool.not_true, List.length_map]
  obtain ⟨g1, g2, g3⟩ := hgo
  have ho := asked_ok g3
  have hwo := ho.ok
  have hnil : askedI w [] now = 0 := by
    unfold askedI at g3 ⊢
    rw [if_neg (by simp)]
    split at g3
    · cases g3
    · split at g3
      · rename_i h1 h2
        simp only [Bool.and_eq_true] at h2
        rw [if_pos]
        simp only [Bool.and_eq_true]
        exact ⟨h2.1, rfl, h2.2.2⟩
      · cases g3
  rw [g1] at o1
  rw [g3] at o3
  unfold CallsR at pc0 pc1
  rw [if_pos hnil] at pc0
  rw [if_pos g3] at pc1
  have hbo := ho.b
  have hmi := hwo.m
  obtain ⟨N, hN⟩ : ∃ N : Nat, now = w.min + N := ⟨(now - w.min).toNat, by omega⟩
  subst hN
  rw [show (w.min + (N : Int) - w.min + 1).toNat = N + 1 by omega] at pc0 pc1
  have hlate : ∀ (t : Int) (i : Nat), i < w.aft.length → gLate [.agg w.c, msD l, .int .i64 t, .int .i64 ((i : Int) + 1)] = some (.bool (decide ((i : Int) + 1 ≤ stF w l t))) := fun t i hi => gLate_eq ⟨hwo, by omega, ho.t, hi⟩ t
  have hq0 := calls_quiet hwo hwo.f (N + 1)
  have hK : lastF (stF w []) w.min (N + 1) = ((w.aft.filter fun a => decide (a ≤ w.min + N - w.min - w.every)).length : Int) := rfl
  have hcut : ∀ i, i < w.aft.length → (i < (w.aft.filter fun a => decide (a ≤ w.min + N - w.min - w.every)).length ↔ w.aft.getD i 0 ≤ w.min + N - w.min - w.every) := fun i hi => cnt_le (aftB_sorted hwo.f).1 _ i hi
  have hKl := List.length_filter_le (fun a => decide (a ≤ w.min + N - w.min - w.every)) w.aft
  rw [hq0, hK, Int.toNat_natCast] at pc0
  clear hK hq0 hnil
  generalize (w.aft.filter fun a => decide (a ≤ w.min + N - w.min - w.every)).length = K at *
  have hst := fun t => And.intro (stF_b hwo l t).1 (stF_le w l t)
  have hmem := fun x => calls_mem (st := stF w l) (mn := w.min) (n := N + 1) (x := x)
  have hsort := calls_sorted (stF w l) w.min (N + 1)
  have hcnt := fun s => calls_cnt (stF w l) w.min s (N + 1)
  have hclen := callsF_len (mn := w.min) (fun t => stF_b hwo l t) (N + 1)
  have hla : ∀ j : Nat, lastF (stF w l) w.min (j + 1) = stF w l (w.min + j) := fun j => rfl
  have hla0 : lastF (stF w l) w.min 0 = 0 := rfl
  have hab := (aftB_sorted hwo.f).2
  have hae := hwo.e
  have haf8 := hwo.a
  obtain ⟨C0, hC0⟩ : ∃ C0, C0 = (List.range K).map fun i : Nat => (w.min + w.every + w.aft.getD i 0, (i : Int) + 1) := ⟨_, rfl⟩
  have hC0l : C0.length = K := by rw [hC0]; simp
  have hC0g : ∀ i, i < K → C0[i]? = some (w.min + w.every + w.aft.getD i 0, (i : Int) + 1) := fun i hi => by rw [hC0]; simp [hi]
  rw [← hC0] at pc0
  clear hC0
  generalize callsF (stF w l) w.min (N + 1) = C at *
  generalize stF w l = st at *
  have hz : ((0 : Int) != 0) = false := rfl
  obtain ⟨⟨sw, sd, sh⟩, ⟨rl, lk⟩, cell, mi, ev, en, af⟩ := w
  dsimp only at hbo hmi hcut hKl hC0g hst hmem hsort hcnt hla hla0 hab hae haf8
  simp only [WatchW.c, SkyW.c, NetW.c, List.cons_append, List.nil_append] at o1 o3 pc0 pc1 hlate ⊢
  clear hwo ho g1 hw
  have q1 : decide ((15 : Int) < (l.length : Int)) = false := by simp; omega
  refine pure_of_pieces (rs := [.tmp 6]) (m := 245) [(10, [(12, false, false, [])]), (24, [(61, false, false, [])])] e54_ok (by kernel_rfl) Try.func6 rfl (by kernel_rfl) rfl rfl (by kernel_rfl) ?_
  refine awp_peel (T := [(10, [(12, false, false, [])]), (24, [(61, false, false, [])])]) e54_ok (by kernel_rfl) (by kernel_rfl) ?_
  simp only [RT, FS, ↓RE, okR, argEnv, Nat.reduceAdd, Nat.reduceSub, Nat.reduceLT, Nat.reduceLeDiff, Nat.reduceEqDiff, reduceIte, RM]
  refine awp_peel (T := [(10, [(12, false, false, [])]), (24, [(61, false, false, [])])]) e54_ok (by kernel_rfl) (by kernel_rfl) ?_
  simp only [RT, FS, ↓RE, okR, argEnv, Nat.reduceAdd, Nat.reduceSub, Nat.reduceLT, Nat.reduceLeDiff, Nat.reduceEqDiff, reduceIte, RM, o1, o3, q1, hz, Bool.not_true, List.length_map]
  refine awp_peel (T := [(10, [(12, false, false, [])]), (24, [(61, false, false, [])])]) e54_ok (by kernel_rfl) (by kernel_rfl) ?_
  simp only [RT, FS, ↓RE, okR, argEnv, Nat.reduceAdd, Nat.reduceSub, Nat.reduceLT, Nat.reduceLeDiff, Nat.reduceEqDiff, reduceIte, RM]
  refine call_of_pure' pc0 (by simp [D.ltL, D.lt]) (by simp [D.ltL, D.lt]) ?_
  simp only [RT, FS, ↓RE, okR, argEnv, Nat.reduceAdd, Nat.reduceSub, Nat.reduceLT, Nat.reduceLeDiff, Nat.reduceEqDiff, reduceIte, RM]
  refine awp_peel (T := [(10, [(12, false, false, [])]), (24, [(61, false, false, [])])]) e54_ok (by kernel_rfl) (by kernel_rfl) ?_
  simp only [RT, FS, ↓RE, okR, argEnv, Nat.reduceAdd, Nat.reduceSub, Nat.reduceLT, Nat.reduceLeDiff, Nat.reduceEqDiff, reduceIte, RM, hz]
  refine awp_peel (T := [(10, [(12, false, false, [])]), (24, [(61, false, false, [])])]) e54_ok (by kernel_rfl) (by kernel_rfl) ?_
  simp only [RT, FS, ↓RE, okR, argEnv, Nat.reduceAdd, Nat.reduceSub, Nat.reduceLT, Nat.reduceLeDiff, Nat.reduceEqDiff, reduceIte, RM]
  refine awp_peel (T := [(10, [(12, false, false, [])]), (24, [(61, false, false, [])])]) e54_ok (by kernel_rfl) (by kernel_rfl) ?_
  simp only [RT, FS, ↓RE, okR, argEnv, Nat.reduceAdd, Nat.reduceSub, Nat.reduceLT, Nat.reduceLeDiff, Nat.reduceEqDiff, reduceIte, RM]
  refine loopV (ι := Nat) e54_ok [(10, [(12, false, false, [])]), (24, [(61, false, false, [])])] (fun i => [(1, msD l), (2, .int .i64 (mi + (N : Int))), (3, .ptr 0 0), (7, .sl (prL C0)), (9, .int .i64 ((min i K : Nat) : Int)), (10, .int .i64 (i : Int))])
    (fun i => [(0, .box [.int .i64 sw, .int .i64 sd, shD sh, rlD rl, lkD lk, .int .i64 cell, .int .i64 mi, .int .i64 ev, .int .i64 en, inD af])]) 1 (fun i => i ≤ af.length) (fun i => af.length - i) 0 (by kernel_rfl) (by kernel_rfl) (Nat.zero_le _) ?_ ?_
  · simp [headW, heapW, envW, blkLt, D.ltL, D.lt, look, hget]
  · intro i hil
    rcases Nat.lt_or_ge i af.length with hlt | hge
    · have hc := nat_lt_true hlt
      have hix := aft_ix (l := af) (i := i) (x := af.getD i 0) (by simp [List.getD, hlt])
      have hai := hab (af.getD i 0) (gd_mem hlt)
      have hw1 := wrap_i64 (z := (i : Int) + 1) (by omega) (by omega)
      have hw2 := wrap_i64 (z := mi + ev) (by omega) (by omega)
      have hw3 := wrap_i64 (z := mi + ev + af.getD i 0) (by omega) (by omega)
      have hk := hcut i hlt
      have hcg := hC0g i
      generalize af.getD i 0 = a at *
      by_cases hik : i < K
      · have hle : (mi + ev + a ≤ mi + (N : Int)) = True := by have := hk.1 hik; simp; omega
        have hix2 := prD_ix (hcg hik)
        have hmn : min i K = i := by omega
        have hmn2 : ((min (i + 1) K : Nat) : Int) = (i : Int) + 1 := by omega
        have hlk : ((K : Int) ≤ (i : Int)) = False := by simp; omega
        have hpn := pr_ne (mi + ev + a) ((i : Int) + 1) (mi + ev + a) ((i : Int) + 1)
        have hq : (!(mi + ev + a == mi + ev + a && (i : Int) + 1 == (i : Int) + 1)) = false := by simp
        rw [hq] at hpn
        rw [hmn]
        simp only [RT, FS, ↓RE, okR, argEnv, Nat.reduceAdd, Nat.reduceSub, Nat.reduceLT, Nat.reduceLeDiff, Nat.reduceEqDiff, reduceIte, RM, List.length_map, hc, decide_true, hix, hw1, hw2, hw3, hle, prL_len, hC0l, hlk, decide_false, hix2, hpn]
        exact ⟨i + 1, by omega, by omega, by rw [hmn2]; simp [headW, heapW, envW, blkLt, D.ltL, D.lt, look, hget]⟩
      · have hle : (mi + ev + a ≤ mi + (N : Int)) = False := by
          simp; have := mt hk.2 hik; omega
        have hmn2 : min (i + 1) K = min i K := by omega
        simp only [RT, FS, ↓RE, okR, argEnv, Nat.reduceAdd, Nat.reduceSub, Nat.reduceLT, Nat.reduceLeDiff, Nat.reduceEqDiff, reduceIte, RM, List.length_map, hc, decide_true, hix, hw1, hw2, hw3, hle, decide_false]
        exact ⟨i + 1, by omega, by omega, by rw [hmn2]; simp [headW, heapW, envW, blkLt, D.ltL, D.lt, look, hget]⟩
    have hc := nat_lt_false hge
    have hi : i = af.length := by omega
    subst hi
    simp only [RT, FS, ↓RE, okR, argEnv, Nat.reduceAdd, Nat.reduceSub, Nat.reduceLT, Nat.reduceLeDiff, Nat.reduceEqDiff, reduceIte, RM, List.length_map, hc, decide_false]
    have hmn : min af.length K = K := by omega
    have hnk : ((K : Int) != (K : Int)) = false := by simp
    rw [hmn]
    refine awp_peel (T := [(10, [(12, false, false, [])]), (24, [(61, false, false, [])])]) e54_ok (by kernel_rfl) (by kernel_rfl) ?_
    simp only [RT, FS, ↓RE, okR, argEnv, Nat.reduceAdd, Nat.reduceSub, Nat.reduceLT, Nat.reduceLeDiff, Nat.reduceEqDiff, reduceIte, RM, prL_len, hC0l, hnk]
    refine awp_peel (T := [(10, [(12, false, false, [])]), (24, [(61, false, false, [])])]) e54_ok (by kernel_rfl) (by kernel_rfl) ?_
    simp only [RT, FS, ↓RE, okR, argEnv, Nat.reduceAdd, Nat.reduceSub, Nat.reduceLT, Nat.reduceLeDiff, Nat.reduceEqDiff, reduceIte, RM]
    refine call_of_pure' pc1 (by simp [D.ltL, D.lt]) (by simp [D.ltL, D.lt]) ?_
    simp only [RT, FS, ↓RE, okR, argEnv, Nat.reduceAdd, Nat.reduceSub, Nat.reduceLT, Nat.reduceLeDiff, Nat.reduceEqDiff, reduceIte, RM]
    refine awp_peel (T := [(10, [(12, false, false, [])]), (24, [(61, false, false, [])])]) e54_ok (by kernel_rfl) (by kernel_rfl) ?_
    simp only [RT, FS, ↓RE, okR, argEnv, Nat.reduceAdd, Nat.reduceSub, Nat.reduceLT, Nat.reduceLeDiff, Nat.reduceEqDiff, reduceIte, RM, hz]
    refine awp_peel (T := [(10, [(12, false, false, [])]), (24, [(61, false, false, [])])]) e54_ok (by kernel_rfl) (by kernel_rfl) ?_
    simp only [RT, FS, ↓RE, okR, argEnv, Nat.reduceAdd, Nat.reduceSub, Nat.reduceLT, Nat.reduceLeDiff, Nat.reduceEqDiff, reduceIte, RM]
    refine loopV (ι := Nat) e54_ok [(10, [(12, false, false, [])]), (24, [(61, false, false, [])])] (fun i => [(1, msD l), (2, .int .i64 (mi + (N : Int))), (3, .ptr 0 0), (12, .sl (prL C)), (14, .int .i64 (i : Int))])
      (fun i => [(0, .box [.int .i64 sw, .int .i64 sd, shD sh, rlD rl, lkD lk, .int .i64 cell, .int .i64 mi, .int .i64 ev, .int .i64 en, inD af])]) 1 (fun i => i ≤ C.length) (fun i => C.length - i) 0 (by kernel_rfl) (by kernel_rfl) (Nat.zero_le _) ?_ ?_
    · simp [headW, heapW, envW, blkLt, D.ltL, D.lt, look, hget]
    · intro i hil
      rcases Nat.lt_or_ge i C.length with hlt | hge
      · have hc := nat_lt_true hlt
        obtain ⟨⟨tm, sg⟩, hx⟩ : ∃ r, C[i]? = some r := ⟨C[i], by simp [hlt]⟩
        have hix := prD_ix hx
        obtain ⟨j, hj1, hj2, hj3, hj4⟩ := (hmem (tm, sg)).1 (List.mem_of_getElem? hx)
        simp only at hj2 hj3 hj4
        have hlast : 0 ≤ lastF st mi j := by
          cases j with
          | zero => rw [hla0]; omega
          | succ j => rw [hla]; exact (hst _).1
        obtain ⟨k, hk⟩ : ∃ k : Nat, sg = (k : Int) + 1 := ⟨(sg - 1).toNat, by omega⟩
        subst hk
        have hka : k < af.length := by have := (hst (mi + (j : Int))).2; omega
        have hw1 := wrap_i64 (z := (i : Int) + 1) (by omega) (by omega)
        have hw2 := wrap_i64 (z := (i : Int) - 1) (by omega) (by omega)
        have hw3 := wrap_i64 (z := tm - 1) (by omega) (by omega)
        have c1 : ((k : Int) + 1 < 1) = False := by simp; omega
        have c2 : ((af.length : Int) < (k : Int) + 1) = False := by simp; omega
        have c3 : (tm < mi) = False := by simp; omega
        have c4 : (mi + (N : Int) < tm) = False := by simp; omega
        have la1 := hlate tm k hka
        have hst1 : decide ((k : Int) + 1 ≤ st tm) = true := by rw [hj2]; simpa using hj4
        rw [hst1] at la1
        have la2 := hlate (tm - 1) k hka
        have hst2 : mi < tm → decide ((k : Int) + 1 ≤ st (tm - 1)) = false := fun h => by
          obtain ⟨j', rfl⟩ : ∃ j', j = j' + 1 := ⟨j - 1, by omega⟩
          rw [hla] at hj3
          rw [show tm - 1 = mi + (j' : Int) by omega]
          simp; omega
        rcases Nat.eq_zero_or_pos i with h0 | h0
        · have c5 : ((0 : Int) < (i : Int)) = False := by simp; omega
          cases hmt : decide (mi < tm)
          · simp only [RT, FS, ↓RE, okR, argEnv, Nat.reduceAdd, Nat.reduceSub, Nat.reduceLT, Nat.reduceLeDiff, Nat.reduceEqDiff, reduceIte, RM, List.length_map, prL_len, hc, decide_true, decide_false, hix, hw1, c1, c2, c3, c4, c5, hmt, la1, Bool.not_true]
            exact ⟨i + 1, by omega, by omega, by simp [headW, heapW, envW, blkLt, D.ltL, D.lt, look, hget]⟩
          · rw [hst2 (by simpa using hmt)] at la2
            simp only [RT, FS, ↓RE, okR, argEnv, Nat.reduceAdd, Nat.reduceSub, Nat.reduceLT, Nat.reduceLeDiff, Nat.reduceEqDiff, reduceIte, RM, List.length_map, prL_len, hc, decide_true, decide_false, hix, hw1, c1, c2, c3, c4, c5, hmt, la1, la2, hw3, Bool.not_true]
            exact ⟨i + 1, by omega, by omega, by simp [headW, heapW, envW, blkLt, D.ltL, D.lt, look, hget]⟩
        · have c5 : ((0 : Int) < (i : Int)) = True := by simp; omega
          obtain ⟨⟨tm', sg'⟩, hx'⟩ : ∃ r, C[i - 1]? = some r := ⟨C[i - 1]'(by omega), by simp [show i - 1 < C.length by omega]⟩
          have hix' := prD_ix hx'
          have hlt' := pw_adj hsort hx' (by rw [show i - 1 + 1 = i by omega]; exact hx)
          have hw2' : IntKind.i64.wrap ((i : Int) - 1) = ((i - 1 : Nat) : Int) := by rw [hw2]; omega
          rcases hlt' with h1 | ⟨h1, h2⟩
          · simp only at h1
            have c6 : (tm < tm') = False := by simp; omega
            have c7 : (tm' == tm) = false := by simp; omega
            cases hmt : decide (mi < tm)
            · simp only [RT, FS, ↓RE, okR, argEnv, Nat.reduceAdd, Nat.reduceSub, Nat.reduceLT, Nat.reduceLeDiff, Nat.reduceEqDiff, reduceIte, RM, List.length_map, prL_len, hc, decide_true, decide_false, hix, hw1, c1, c2, c3, c4, c5, hix', hw2', c6, c7, hmt, la1, Bool.not_true]
              exact ⟨i + 1, by omega, by omega, by simp [headW, heapW, envW, blkLt, D.ltL, D.lt, look, hget]⟩
            · rw [hst2 (by simpa using hmt)] at la2
              simp only [RT, FS, ↓RE, okR, argEnv, Nat.reduceAdd, Nat.reduceSub, Nat.reduceLT, Nat.reduceLeDiff, Nat.reduceEqDiff, reduceIte, RM, List.length_map, prL_len, hc, decide_true, decide_false, hix, hw1, c1, c2, c3, c4, c5, hix', hw2', c6, c7, hmt, la1, la2, hw3, Bool.not_true]
              exact ⟨i + 1, by omega, by omega, by simp [headW, heapW, envW, blkLt, D.ltL, D.lt, look, hget]⟩
          · simp only at h1 h2
            subst h1
            have c6 : (tm' < tm') = False := by simp
            have c7 : (tm' == tm') = true := by simp
            have c8 : ((k : Int) + 1 ≤ sg') = False := by simp; omega
            cases hmt : decide (mi < tm')
            · simp only [RT, FS, ↓RE, okR, argEnv, Nat.reduceAdd, Nat.reduceSub, Nat.reduceLT, Nat.reduceLeDiff, Nat.reduceEqDiff, reduceIte, RM, List.length_map, prL_len, hc, decide_true, decide_false, hix, hw1, c1, c2, c3, c4, c5, hix', hw2', c6, c7, c8, hmt, la1, Bool.not_true]
              exact ⟨i + 1, by omega, by omega, by simp [headW, heapW, envW, blkLt, D.ltL, D.lt, look, hget]⟩
            · rw [hst2 (by simpa using hmt)] at la2
              simp only [RT, FS, ↓RE, okR, argEnv, Nat.reduceAdd, Nat.reduceSub, Nat.reduceLT, Nat.reduceLeDiff, Nat.reduceEqDiff, reduceIte, RM, List.length_map, prL_len, hc, decide_true, decide_false, hix, hw1, c1, c2, c3, c4, c5, hix', hw2', c6, c7, c8, hmt, la1, la2, hw3, Bool.not_true]
              exact ⟨i + 1, by omega, by omega, by simp [headW, heapW, envW, blkLt, D.ltL, D.lt, look, hget]⟩
      · have hc := nat_lt_false hge
        have hi : i = C.length := by omega
        subst hi
        simp only [RT, FS, ↓RE, okR, argEnv, Nat.reduceAdd, Nat.reduceSub, Nat.reduceLT, Nat.reduceLeDiff, Nat.reduceEqDiff, reduceIte, RM, prL_len, hc, decide_false]
        refine awp_peel (T := [(10, [(12, false, false, [])]), (24, [(61, false, false, [])])]) e54_ok (by kernel_rfl) (by kernel_rfl) ?_
        simp only [RT, FS, ↓RE, okR, argEnv, Nat.reduceAdd, Nat.reduceSub, Nat.reduceLT, Nat.reduceLeDiff, Nat.reduceEqDiff, reduceIte, RM]
        refine loopV (ι := Nat) e54_ok [(10, [(12, false, false, [])]), (24, [(61, false, false, [])])] (fun si => [(1, msD l), (2, .int .i64 (mi + (N : Int))), (3, .ptr 0 0), (12, .sl (prL C)), (16, .int .i64 ((si : Int) + 1))])
          (fun i => [(0, .box [.int .i64 sw, .int .i64 sd, shD sh, rlD rl, lkD lk, .int .i64 cell, .int .i64 mi, .int .i64 ev, .int .i64 en, inD af])]) 1 (fun si => si ≤ af.length) (fun si => af.length - si) 0 (by kernel_rfl) (by kernel_rfl) (Nat.zero_le _) ?_ ?_
        · simp [headW, heapW, envW, blkLt, D.ltL, D.lt, look, hget]
        · intro si hsl
          rcases Nat.lt_or_ge si af.length with hlt | hge
          · have hc : ((si : Int) + 1 ≤ (af.length : Int)) = True := by simp; omega
            have hw1 := wrap_i64 (z := (si : Int) + 1 + 1) (by omega) (by omega)
            simp only [RT, FS, ↓RE, okR, argEnv, Nat.reduceAdd, Nat.reduceSub, Nat.reduceLT, Nat.reduceLeDiff, Nat.reduceEqDiff, reduceIte, RM, List.length_map, hc, decide_true]
            obtain ⟨ct, hct⟩ : ∃ ct : Nat → Nat, ct = fun j => (List.range j).countP (newB st mi ((si : Int) + 1)) := ⟨_, rfl⟩
            have hct0 : ct 0 = 0 := by rw [hct]; rfl
            have hctS : ∀ j, ct (j + 1) = ct j + if newB st mi ((si : Int) + 1) j = true then 1 else 0 := fun j => by rw [hct]; simp [List.range_succ, List.countP_append, List.countP_singleton]
            have hctl : ∀ j, ct j ≤ j := fun j => by rw [hct]; exact Nat.le_trans List.countP_le_length (by simp)
            have hcn := hcnt ((si : Int) + 1)
            rw [show (List.range (N + 1)).countP (newB st mi ((si : Int) + 1)) = ct (N + 1) by rw [hct]] at hcn
            clear hct
            refine loopV (ι := Nat) e54_ok [(10, [(12, false, false, [])]), (24, [(61, false, false, [])])] (fun j => [(1, msD l), (2, .int .i64 (mi + (N : Int))), (3, .ptr 0 0), (12, .sl (prL C)), (16, .int .i64 ((si : Int) + 1)), (17, .int .i64 (ct j : Int)), (18, .int .i64 (mi + (j : Int)))])
              (fun i => [(0, .box [.int .i64 sw, .int .i64 sd, shD sh, rlD rl, lkD lk, .int .i64 cell, .int .i64 mi, .int .i64 ev, .int .i64 en, inD af])]) 1 (fun j => j ≤ N + 1) (fun j => N + 1 - j) 0 (by kernel_rfl) (by kernel_rfl) (Nat.zero_le _) ?_ ?_
            · rw [hct0]; simp [headW, heapW, envW, blkLt, D.ltL, D.lt, look, hget]
            · intro j hjl
              rcases Nat.lt_or_ge j (N + 1) with hlt2 | hge2
              · have hc2 : (mi + (j : Int) ≤ mi + (N : Int)) = True := by simp; omega
                have hS := hctS j
                have hjc := hctl j
                have hw2 : IntKind.i64.wrap (mi + (j : Int) + 1) = mi + ((j + 1 : Nat) : Int) := by rw [wrap_i64 (by omega) (by omega)]; omega
                have hw3 := wrap_i64 (z := (ct j : Int) + 1) (by omega) (by omega)
                have hw4 := wrap_i64 (z := mi + (j : Int) - 1) (by omega) (by omega)
                have la1 := hlate (mi + (j : Int)) si hlt
                have la2 := hlate (mi + (j : Int) - 1) si hlt
                cases q1 : decide ((si : Int) + 1 ≤ st (mi + (j : Int)))
                · have hn : newB st mi ((si : Int) + 1) j = false := by simp only [newB]; rw [q1, Bool.and_false]
                  rw [hn, if_neg (by simp), Nat.add_zero] at hS
                  rw [q1] at la1
                  simp only [RT, FS, ↓RE, okR, argEnv, Nat.reduceAdd, Nat.reduceSub, Nat.reduceLT, Nat.reduceLeDiff, Nat.reduceEqDiff, reduceIte, RM, hc2, decide_true, la1, hw2]
                  exact ⟨j + 1, by omega, by omega, by rw [hS]; simp [headW, heapW, envW, blkLt, D.ltL, D.lt, look, hget]⟩
                · rw [q1] at la1
                  rcases Nat.eq_zero_or_pos j with h0 | h0
                  · subst h0
                    have hn : newB st mi ((si : Int) + 1) 0 = true := by simp only [newB]; rw [q1, hla0]; simp <;> omega
                    rw [hn, if_pos rfl] at hS
                    have hbq : (mi + ((0 : Nat) : Int) == mi) = true := by simp
                    simp only [RT, FS, ↓RE, okR, argEnv, Nat.reduceAdd, Nat.reduceSub, Nat.reduceLT, Nat.reduceLeDiff, Nat.reduceEqDiff, reduceIte, RM, hc2, decide_true, la1, hw2, hw3, hbq]
                    exact ⟨0 + 1, by omega, by omega, by rw [hS]; simp [headW, heapW, envW, blkLt, D.ltL, D.lt, look, hget]⟩
                  · obtain ⟨j', rfl⟩ : ∃ j', j = j' + 1 := ⟨j - 1, by omega⟩
                    have hbq : (mi + ((j' + 1 : Nat) : Int) == mi) = false := by simp; omega
                    have hm1 : mi + ((j' + 1 : Nat) : Int) - 1 = mi + (j' : Int) := by omega
                    rw [hm1] at la2 hw4
                    have hla' := hla j'
                    cases q2 : decide ((si : Int) + 1 ≤ st (mi + (j' : Int)))
                    · have hn : newB st mi ((si : Int) + 1) (j' + 1) = true := by simp only [newB]; rw [q1, hla']; simp at q2 ⊢; omega
                      rw [hn, if_pos rfl] at hS
                      rw [q2] at la2
                      simp only [RT, FS, ↓RE, okR, argEnv, Nat.reduceAdd, Nat.reduceSub, Nat.reduceLT, Nat.reduceLeDiff, Nat.reduceEqDiff, reduceIte, RM, hc2, decide_true, la1, hw2, hw3, hw4, hbq, hm1, la2, Bool.not_false]
                      exact ⟨j' + 1 + 1, by omega, by omega, by rw [hS]; simp [headW, heapW, envW, blkLt, D.ltL, D.lt, look, hget]⟩
                    · have hn : newB st mi ((si : Int) + 1) (j' + 1) = false := by simp only [newB]; rw [q1, hla']; simp at q2 ⊢; omega
                      rw [hn, if_neg (by simp), Nat.add_zero] at hS
                      rw [q2] at la2
                      simp only [RT, FS, ↓RE, okR, argEnv, Nat.reduceAdd, Nat.reduceSub, Nat.reduceLT, Nat.reduceLeDiff, Nat.reduceEqDiff, reduceIte, RM, hc2, decide_true, la1, hw2, hw4, hbq, hm1, la2, Bool.not_true]
                      exact ⟨j' + 1 + 1, by omega, by omega, by rw [hS]; simp [headW, heapW, envW, blkLt, D.ltL, D.lt, look, hget]⟩
              · have hc2 : (mi + (j : Int) ≤ mi + (N : Int)) = False := by simp; omega
                have hj : j = N + 1 := by omega
                subst hj
                simp only [RT, FS, ↓RE, okR, argEnv, Nat.reduceAdd, Nat.reduceSub, Nat.reduceLT, Nat.reduceLeDiff, Nat.reduceEqDiff, reduceIte, RM, hc2, decide_false]
                have hctN := hctl (N + 1)
                generalize ct (N + 1) = M at *
                refine loopV (ι := Nat) e54_ok [(10, [(12, false, false, [])]), (24, [(61, false, false, [])])] (fun i => [(1, msD l), (2, .int .i64 (mi + (N : Int))), (3, .ptr 0 0), (12, .sl (prL C)), (16, .int .i64 ((si : Int) + 1)), (17, .int .i64 ((M : Int) - (((C.take i).countP fun x => decide (x.2 = (si : Int) + 1) : Nat) : Int))), (19, .int .i64 (i : Int))])
                  (fun i => [(0, .box [.int .i64 sw, .int .i64 sd, shD sh, rlD rl, lkD lk, .int .i64 cell, .int .i64 mi, .int .i64 ev, .int .i64 en, inD af])]) 1 (fun i => i ≤ C.length) (fun i => C.length - i) 0 (by kernel_rfl) (by kernel_rfl) (Nat.zero_le _) ?_ ?_
                · simp [headW, heapW, envW, blkLt, D.ltL, D.lt, look, hget]
                · intro i hil2
                  rcases Nat.lt_or_ge i C.length with hlt3 | hge3
                  · have hc3 := nat_lt_true hlt3
                    obtain ⟨⟨tm, sg⟩, hx⟩ : ∃ r, C[i]? = some r := ⟨C[i], by simp [hlt3]⟩
                    have hix := prD_ix hx
                    have hw5 := wrap_i64 (z := (i : Int) + 1) (by omega) (by omega)
                    have hS : (C.take (i + 1)).countP (fun x => decide (x.2 = (si : Int) + 1)) = (C.take i).countP (fun x => decide (x.2 = (si : Int) + 1)) + if sg = (si : Int) + 1 then 1 else 0 := by
                      rw [List.take_add_one, hx, List.countP_append]
                      simp [List.countP_singleton]
                    have hle : (C.take i).countP (fun x => decide (x.2 = (si : Int) + 1)) ≤ i := Nat.le_trans List.countP_le_length (by simp; omega)
                    generalize (C.take i).countP (fun x => decide (x.2 = (si : Int) + 1)) = c at *
                    have hw6 := wrap_i64 (z := (M : Int) - (c : Int) - 1) (by omega) (by omega)
                    by_cases q : sg = (si : Int) + 1
                    · have hbq : (sg == (si : Int) + 1) = true := by simp [q]
                      rw [if_pos q] at hS
                      simp only [RT, FS, ↓RE, okR, argEnv, Nat.reduceAdd, Nat.reduceSub, Nat.reduceLT, Nat.reduceLeDiff, Nat.reduceEqDiff, reduceIte, RM, prL_len, hc3, decide_true, hix, hbq, hw5, hw6]
                      exact ⟨i + 1, by omega, by omega, by rw [hS, show (M : Int) - (c : Int) - 1 = (M : Int) - ((c + 1 : Nat) : Int) by omega]; simp [headW, heapW, envW, blkLt, D.ltL, D.lt, look, hget]⟩
                    · have hbq : (sg == (si : Int) + 1) = false := by simp [q]
                      rw [if_neg q, Nat.add_zero] at hS
                      simp only [RT, FS, ↓RE, okR, argEnv, Nat.reduceAdd, Nat.reduceSub, Nat.reduceLT, Nat.reduceLeDiff, Nat.reduceEqDiff, reduceIte, RM, prL_len, hc3, decide_true, hix, hbq, hw5]
                      exact ⟨i + 1, by omega, by omega, by rw [hS]; simp [headW, heapW, envW, blkLt, D.ltL, D.lt, look, hget]⟩
                  · have hc3 := nat_lt_false hge3
                    have hi : i = C.length := by omega
                    subst hi
                    rw [List.take_length, hcn]
                    have hz0 : (((M : Int) - (M : Int)) != 0) = false := by simp
                    simp only [RT, FS, ↓RE, okR, argEnv, Nat.reduceAdd, Nat.reduceSub, Nat.reduceLT, Nat.reduceLeDiff, Nat.reduceEqDiff, reduceIte, RM, prL_len, hc3, decide_false, hz0, hw1]
                    exact ⟨si + 1, by omega, by omega, by simp [headW, heapW, envW, blkLt, D.ltL, D.lt, look, hget]⟩
          · have hc : ((si : Int) + 1 ≤ (af.length : Int)) = False := by simp; omega
            simp only [RT, FS, ↓RE, okR, argEnv, Nat.reduceAdd, Nat.reduceSub, Nat.reduceLT, Nat.reduceLeDiff, Nat.reduceEqDiff, reduceIte, RM, List.length_map, hc, decide_false]
            refine awp_rest (T := [(10, [(12, false, false, [])]), (24, [(61, false, false, [])])]) e54_ok (by kernel_rfl) (by kernel_rfl) ?_
            simp only [RT, FS, ↓RE, okR, argEnv, Nat.reduceAdd, Nat.reduceSub, Nat.reduceLT, Nat.reduceLeDiff, Nat.reduceEqDiff, reduceIte, RM, o2]
theorem watchInTime_pure : ∀ Ds, TyL Try.prog Try.f6.params.toList Ds → Pure Try.prog 6 Ds (.bool true) := by
  intro Ds h
  rw [Try.params6] at h
  match Ds, h with
  | [_, _, _], ⟨⟨n, _, h1, e1⟩, ⟨n2, _, h2, e2⟩, ⟨n3, _, h3, e3⟩, _⟩ =>
    rw [Try.underlying31] at e1
    rw [Fz.und_45] at e2
    rw [Fz.und_3] at e3
    dsimp only at e1 e2 e3
    obtain ⟨w, rfl, hw⟩ := tyWatch h1
    obtain ⟨l, rfl, hl⟩ := tyMsgs h2
    obtain ⟨now, rfl, _⟩ := tyInt Fz.und_3 h3
    subst e1; cases e2; cases e3
    exact watchInTime_at w hw l hl now
end Go.Sx
