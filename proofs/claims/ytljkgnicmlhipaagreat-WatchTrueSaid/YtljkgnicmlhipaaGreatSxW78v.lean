/- Own work: contracts of functions, used in the proof of a law. -/
import Derived.Test.YtljkgnicmlhipaaGreatSxW77v
import Derived.Test.YtljkgnicmlhipaaGreatSxZ34
set_option linter.unusedVariables false
set_option linter.unusedSimpArgs false
namespace Go.Sx
open Go.Proofs
set_option maxRecDepth 10000

theorem clos_nil {c2 : Code} {gid : Nat} {go : Oper} (hc : Tryz.f45.body = some (.seq (.region gid #[go] false) c2)) (h : H) (nid b : Nat) :
  AWT Tryz.prog nid (true, []) c2 ⟨[(4, .nili), (0, .ptr b 0)], h, nid, 10⟩ fun x s' => (x = .ex .normal ∨ x = .ex .ret) ∧ s'.h = h ∧ s'.nid = nid := by
 have hc := Option.some.inj hc
 injection hc with _ hc
 subst hc
 refine awt_block ?_
 refine awt_seq ?_
 refine awt_region (aops_cons rfl rfl (opOk_eqnil (b := true) rfl ⟨_, Tryz.underlying20⟩ (.inl ⟨by kernel_rfl, rfl⟩) (aops_nil ?_)))
 simp only [List.getElem_toArray, List.getElem_cons_zero, List.getElem_cons_succ]
 refine awt_restT (T := []) oNone_ok rfl ?_
 simp only [FS, ↓RE, okR, argEnv, Nat.reduceAdd, Nat.reduceSub, Nat.reduceLT, Nat.reduceLeDiff, Nat.reduceEqDiff, reduceIte, RT, RM]
 exact ⟨.inl rfl, rfl, rfl⟩
theorem clos_wrong {c2 : Code} {gid : Nat} {go : Oper} (hc : Tryz.f45.body = some (.seq (.region gid #[go] false) c2)) (t : Int) (v : Bool) (cs : List D) :
  AWT Tryz.prog 2 (true, []) c2 ⟨[(4, .ifc 90 (.agg [.int .i64 t])), (0, .ptr 1 0)], [(1, .box [.bool v]), (0, .box cs)], 2, 10⟩ fun x s' => (x = .ex .normal ∨ x = .ex .ret) ∧ hget s'.h 1 = some (.box [.bool false]) := by
 have hc := Option.some.inj hc
 injection hc with _ hc
 subst hc
 refine awt_block ?_
 refine awt_seq ?_
 refine awt_region (aops_cons rfl rfl (opOk_eqnil (b := false) rfl ⟨_, Tryz.underlying20⟩ (.inr ⟨⟨90, .agg [.int .i64 t], by kernel_rfl⟩, rfl⟩) (aops_nil ?_)))
 simp only [List.getElem_toArray, List.getElem_cons_zero, List.getElem_cons_succ]
 refine awt_cond (t := false) (by kernel_rfl) (fun h => by cases h) fun _ => ?_
 refine awt_seq ?_
 refine awt_region (aops_cons rfl rfl (opOk_assert (d := .agg [.int .i64 t]) rfl ⟨_, Tryz.underlying90⟩ (by kernel_rfl) (aops_cons rfl rfl (opOk_read (d := .bool true) (by kernel_rfl) (aops_cons rfl rfl (opOk_read (d := .agg [.int .i64 t]) (by kernel_rfl) (aops_nil ?_)))))))
 simp only [List.getElem_toArray, List.getElem_cons_zero, List.getElem_cons_succ]
 refine awt_restT (T := []) oNone_ok rfl ?_
 simp only [FS, ↓RE, okR, argEnv, Nat.reduceAdd, Nat.reduceSub, Nat.reduceLT, Nat.reduceLeDiff, Nat.reduceEqDiff, reduceIte, RT, RM]
 exact ⟨.inl rfl, by simp [hget, Sx.hset]⟩

def agreesR (w : WatchW) (l : List MsgW) (x : List PlW) : D :=
 if 60 < l.length then .tup [.bool false, .int .i64 3] else if 1441 < x.length then .tup [.bool false, .int .i64 3] else if watchB w = false then .tup [.bool false, .int .i64 2] else if mailB w l = false then .tup [.bool false, .int .i64 2]
 else .tup [.bool (agB w (knownL l (w.min + x.length - 1)) (w.min + x.length - 1) x), .int .i64 0]
theorem steps_free {w : WatchW} (hw : WatchOk w) {kn : List MsgW} {now : Int} {x : List PlW} : ∀ i, (List.range i).all (stepB w kn now x) = true → i = 0 ∨ freeB w.s.sh (nP x (i - 1)).1 = true
 | 0, _ => .inl rfl
 | i + 1, h => by
  rw [List.range_succ, List.all_append, Bool.and_eq_true] at h
  have ih := steps_free hw i h.1
  have h2 : stepB w kn now x i = true := by simpa using h.2
  unfold stepB at h2
  rw [Bool.and_eq_true, Bool.and_eq_true] at h2
  have := ((fine_ag hw ih).1 ⟨h2.1, h2.2.2⟩).2
  simp only [agI, plcB, Bool.and_eq_true, Bool.not_eq_true', Bool.or_eq_false_iff, Bool.not_eq_false'] at this
  exact .inr this.1.1.1
set_option maxHeartbeats 8000000 in
theorem Agrees_t {w : WatchW} (hw : WatchL w) {l : List MsgW} (hl : BL l) {x : List PlW} (hx : BL x) : Pure Tryz.prog 17 [.agg w.c, msD l, plD x] (agreesR w l x) := by
 have oW := gWatch_eq hw
 have oM := gMail_eq hw hl
 have hwo := fun h => watch_ok (w := w) h
 have pF := fun (h : l.length ≤ 60) => follow_t w l (by omega) (w.min + x.length - 1)
 have hml : mailB w l = true → ∀ m ∈ l, freeB w.s.sh m.c = true ∧ w.min ≤ m.t ∧ m.t ≤ m.came ∧ m.came ≤ 1440 := fun h m hm => by
  simp only [mailB, Bool.not_eq_true', List.any_eq_false] at h
  have := h m hm
  simp only [mBad, Bool.or_eq_true, Bool.not_eq_true', decide_eq_true_eq, not_or, Bool.not_eq_false] at this
  exact ⟨this.1, by omega, by omega, by omega⟩
 have hkn : mailB w l = true → ∀ m ∈ knownL l (w.min + x.length - 1), w.min ≤ m.t ∧ (m.t - w.min).toNat < x.length ∨ x.length = 0 := fun h m hm => by
  simp only [knownL, List.mem_filter] at hm
  have h1 := hml h m hm.1
  have h2 : m.came ≤ w.min + x.length - 1 := by simpa [knB] using hm.2
  omega
 have hag : ∀ (h1 : watchB w = true) (h2 : mailB w l = true) (n : Nat), x.length = n + 1 → w.min + x.length - 1 ≤ 1440 → agB w (knownL l (w.min + x.length - 1)) (w.min + x.length - 1) x = (List.range x.length).all (stepB w (knownL l (w.min + x.length - 1)) (w.min + x.length - 1) x) := fun h1 h2 n hn hnow =>
  (steps_ag (hwo h1) hnow hn fun m hm => by have := hkn h2 m hm; omega).symm
 have hag0 : x.length = 0 ∨ 1440 < w.min + x.length - 1 → agB w (knownL l (w.min + x.length - 1)) (w.min + x.length - 1) x = false := fun h => by
  unfold agB
  rcases h with h | h
  ·rw [decide_eq_true h]; rfl
  ·rw [decide_eq_true h, Bool.or_true]; rfl
 have hst := fun (h1 : watchB w = true) (h2 : l.length ≤ 60) (h3 : x.length ≤ 1441) (i : Nat) (hi : i < x.length) ht hf => step_t (hwo h1) l h2 (w.min + x.length - 1) (x := x) (by omega) (i := i) hi ht hf
 have hsf := fun (h1 : watchB w = true) (i : Nat) => steps_free (hwo h1) (kn := knownL l (w.min + x.length - 1)) (now := w.min + x.length - 1) (x := x) i
 have hflt := folC_lt w l (w.min + x.length - 1)
 have hmi : watchB w = true → 0 ≤ w.min ∧ w.min ≤ 1440 := fun h => (hwo h).m
 have hR : agreesR w l x = if 60 < l.length then .tup [.bool false, .int .i64 3] else if 1441 < x.length then .tup [.bool false, .int .i64 3] else if watchB w = false then .tup [.bool false, .int .i64 2] else if mailB w l = false then .tup [.bool false, .int .i64 2]
  else .tup [.bool (agB w (knownL l (w.min + x.length - 1)) (w.min + x.length - 1) x), .int .i64 0] := rfl
 generalize agreesR w l x = R at *
 clear hw hwo hml hkn
 have hfs : ∀ i, freeB w.s.sh (nP x (i - 1)).1 = freeB w.s.sh (nP x (i - 1)).1 := fun _ => rfl
 generalize stepB w (knownL l (w.min + x.length - 1)) (w.min + x.length - 1) x = ST at *
 generalize agB w (knownL l (w.min + x.length - 1)) (w.min + x.length - 1) x = AG at *
 generalize folC w l (w.min + x.length - 1) = FC at *
 generalize watchB w = WB at *
 generalize mailB w l = MB at *
 generalize hFR : (fun i => freeB w.s.sh (nP x (i - 1)).1 = true) = FR at *
 obtain ⟨⟨sw, sd, sh⟩, ⟨rl, lk⟩, cell, mi, ev, en, af⟩ := w
 dsimp only at *
 simp only [WatchW.c, SkyW.c, NetW.c, List.cons_append, List.nil_append] at oW oM pF ⊢
 refine pure_of_bwp (m := 56) Tryz.func17 rfl (by kernel_rfl) rfl ?_
 refine bwp_peel (T := []) (rs := [.cell 6 4, .tmp 7]) e22_ok rfl rfl ?_
 simp only [FS, ↓RE, okR, argEnv, Nat.reduceAdd, Nat.reduceSub, Nat.reduceLT, Nat.reduceLeDiff, Nat.reduceEqDiff, reduceIte, RT, RM]
 refine bwp_peel (T := []) (rs := [.cell 6 4, .tmp 7]) e22_ok rfl rfl ?_
 cases q1 : decide ((60 : Int) < (l.length : Int))
 case true =>
  simp only [FS, ↓RE, okR, argEnv, Nat.reduceAdd, Nat.reduceSub, Nat.reduceLT, Nat.reduceLeDiff, Nat.reduceEqDiff, reduceIte, RT, RM, List.length_map, q1]
  rw [hR, if_pos (by simp at q1; omega)]
 cases q2 : decide ((1441 : Int) < (x.length : Int))
 case true =>
  simp only [FS, ↓RE, okR, argEnv, Nat.reduceAdd, Nat.reduceSub, Nat.reduceLT, Nat.reduceLeDiff, Nat.reduceEqDiff, reduceIte, RT, RM, List.length_map, q1, q2]
  rw [hR, if_neg (by simp at q1; omega), if_pos (by simp at q2; omega)]
 rw [if_neg (by simp at q1; omega), if_neg (by simp at q2; omega)] at hR
 simp only [FS, ↓RE, okR, argEnv, Nat.reduceAdd, Nat.reduceSub, Nat.reduceLT, Nat.reduceLeDiff, Nat.reduceEqDiff, reduceIte, RT, RM, List.length_map, q1, q2]
 refine bwp_peel (T := []) (rs := [.cell 6 4, .tmp 7]) e22_ok rfl rfl ?_
 cases WB
 ·simp only [FS, ↓RE, okR, argEnv, Nat.reduceAdd, Nat.reduceSub, Nat.reduceLT, Nat.reduceLeDiff, Nat.reduceEqDiff, reduceIte, RT, RM, oW, Bool.not_false]
  rw [hR]; rfl
 cases MB
 ·simp only [FS, ↓RE, okR, argEnv, Nat.reduceAdd, Nat.reduceSub, Nat.reduceLT, Nat.reduceLeDiff, Nat.reduceEqDiff, reduceIte, RT, RM, oW, oM, Bool.not_false, Bool.not_true]
  rw [hR]; rfl
 simp only [FS, ↓RE, okR, argEnv, Nat.reduceAdd, Nat.reduceSub, Nat.reduceLT, Nat.reduceLeDiff, Nat.reduceEqDiff, reduceIte, RT, RM, oW, oM, Bool.not_true]
 have hmi := hmi rfl
 have hx3 : x.length ≤ 1441 := by simp at q2; omega
 have hl3 : l.length ≤ 60 := by simp at q1; omega
 have w1 := wrap_i64 (z := mi + (x.length : Int)) (by omega) (by omega)
 have w2 := wrap_i64 (z := mi + (x.length : Int) - 1) (by omega) (by omega)
 refine bwp_peel (T := []) (rs := [.cell 6 4, .tmp 7]) e22_ok rfl rfl ?_
 simp only [FS, ↓RE, okR, argEnv, Nat.reduceAdd, Nat.reduceSub, Nat.reduceLT, Nat.reduceLeDiff, Nat.reduceEqDiff, reduceIte, RT, RM, List.length_map, w1, w2]
 refine bwp_peel (T := []) (rs := [.cell 6 4, .tmp 7]) e22_ok rfl rfl ?_
 by_cases hx0 : x.length = 0
 ·have q : ((x.length : Int) == 0) = true := by rw [hx0]; rfl
  simp only [FS, ↓RE, okR, argEnv, Nat.reduceAdd, Nat.reduceSub, Nat.reduceLT, Nat.reduceLeDiff, Nat.reduceEqDiff, reduceIte, RT, RM, List.length_map, q]
  rw [hR, hag0 (.inl hx0)]; rfl
 have q : ((x.length : Int) == 0) = false := by simp only [beq_eq_false_iff_ne]; omega
 cases q3 : decide ((1440 : Int) < mi + (x.length : Int) - 1)
 case true =>
  simp only [FS, ↓RE, okR, argEnv, Nat.reduceAdd, Nat.reduceSub, Nat.reduceLT, Nat.reduceLeDiff, Nat.reduceEqDiff, reduceIte, RT, RM, List.length_map, q, q3]
  rw [hR, hag0 (.inr (by simpa using q3))]; rfl
 simp only [FS, ↓RE, okR, argEnv, Nat.reduceAdd, Nat.reduceSub, Nat.reduceLT, Nat.reduceLeDiff, Nat.reduceEqDiff, reduceIte, RT, RM, List.length_map, q, q3]
 have hAG := hag rfl rfl (x.length - 1) (by omega) (by simp at q3; omega)
 refine bwp_defer (g := 45) (gn := Tryz.f45) (t6 := 6) (t41 := 41) (t4 := 4) (b := 1) rfl rfl rfl rfl rfl rfl (by kernel_rfl) (show 41 < 56 by decide) Tryz.func45 rfl rfl rfl rfl rfl (by decide) (by kernel_rfl) fun d => ?_
 refine awt_peelT (T := []) oNone_ok rfl ?_
 simp only [FS, ↓RE, okR, argEnv, Nat.reduceAdd, Nat.reduceSub, Nat.reduceLT, Nat.reduceLeDiff, Nat.reduceEqDiff, reduceIte, RT, RM]
 refine call_of_pure' (pF hl3) (by simp [D.ltL, D.lt]) (by simp [D.lt, hflt]) ?_
 simp only [FS, ↓RE, okR, argEnv, Nat.reduceAdd, Nat.reduceSub, Nat.reduceLT, Nat.reduceLeDiff, Nat.reduceEqDiff, reduceIte, RT, RM]
 refine awt_seq ?_
 refine awt_peelT (T := []) oNone_ok rfl ?_
 simp only [FS, ↓RE, okR, argEnv, Nat.reduceAdd, Nat.reduceSub, Nat.reduceLT, Nat.reduceLeDiff, Nat.reduceEqDiff, reduceIte, RT, RM, List.length_map]
 refine awt_block ?_
 refine awt_loopI (ι := Nat) (fun i => ⟨[(2, plD x), (6, .ptr 1 0), (7, .int .i64 0), (9, .ref FC 0), (47, .int .i64 (x.length : Int)), (48, .int .i64 (i : Int))], [(1, .box [.bool false]), (0, .box [.int .i64 sw, .int .i64 sd, shD sh, rlD rl, lkD lk, .int .i64 cell, .int .i64 mi, .int .i64 ev, .int .i64 en, inD af])], 2, 56⟩)
  (fun i => i ≤ x.length ∧ (List.range i).all ST = true) (fun i => x.length - i) 0 ⟨Nat.zero_le _, rfl⟩ (imp_head (by simp [headW, heapW, envW, blkLt, D.ltL, D.lt, look, hget, Sx.hset, hflt, shD, inD])) ?_
 rintro i ⟨hil, hok⟩
 refine awt_peelT (T := []) oNone_ok rfl ?_
 rcases Nat.lt_or_ge i x.length with hlt | hge
 ·have hc := nat_lt_true hlt
  have wi := wrap_i64 (z := (i : Int) + 1) (by omega) (by omega)
  simp only [FS, ↓RE, okR, argEnv, Nat.reduceAdd, Nat.reduceSub, Nat.reduceLT, Nat.reduceLeDiff, Nat.reduceEqDiff, reduceIte, RT, RM, hc, decide_true]
  refine awt_peelT (T := []) oNone_ok rfl ?_
  simp only [FS, ↓RE, okR, argEnv, Nat.reduceAdd, Nat.reduceSub, Nat.reduceLT, Nat.reduceLeDiff, Nat.reduceEqDiff, reduceIte, RT, RM]
  refine awt_seq ?_
  refine awt_block ?_
  refine awt_peelT (T := []) oNone_ok rfl ?_
  simp only [FS, ↓RE, okR, argEnv, Nat.reduceAdd, Nat.reduceSub, Nat.reduceLT, Nat.reduceLeDiff, Nat.reduceEqDiff, reduceIte, RT, RM]
  refine awt_last (m := 3) oNone_ok rfl ?_
  simp only [FS, ↓RE, okR, argEnv, Nat.reduceAdd, Nat.reduceSub, Nat.reduceLT, Nat.reduceLeDiff, Nat.reduceEqDiff, reduceIte, RT, RM, List.take_succ_cons, List.take_zero]
  refine aopst_call (f := 46) (ds := [.ref FC 0, .int .i64 (i : Int), plD x]) rfl rfl rfl (by kernel_rfl) ((pcall_free (hst rfl hl3 hx3 i hlt (by simp at q3; omega) (hsf rfl i hok)) (by simp [D.ltL, D.lt, hflt])).mono ?_ ?_)
  ·rintro r h n ⟨⟨rfl, rfl, rfl⟩, hS⟩
   refine aopst_nil ?_
   refine awt_restT (T := []) oNone_ok rfl ?_
   simp only [List.getElem_toArray, List.getElem_cons_zero, List.getElem_cons_succ]
   simp only [FS, ↓RE, okR, argEnv, Nat.reduceAdd, Nat.reduceSub, Nat.reduceLT, Nat.reduceLeDiff, Nat.reduceEqDiff, reduceIte, RT, RM, wi]
   exact ⟨i + 1, ⟨by omega, all_range_cut hok hS⟩, by omega, imp_head (by simp [headW, heapW, envW, blkLt, D.ltL, D.lt, look, hget, Sx.hset, hflt, shD, inD])⟩
  ·rintro ch h n ⟨⟨hS, v, t, rfl, hv⟩, rfl, rfl⟩
   refine ⟨show 1 < 2 by decide, v, _, fun h _ => hget h 1 = some (.box [.bool false]), rfl, hv, clos_wrong rfl t false _, fun h nid hk => ⟨[.bool false, .int .i64 0], ?_, ?_⟩⟩
   ·show resD _ ⟨_, _, _, _⟩ [.cell 6 4, .tmp 7] = _
    simp only [FS, ↓RE, okR, argEnv, Nat.reduceAdd, Nat.reduceSub, Nat.reduceLT, Nat.reduceLeDiff, Nat.reduceEqDiff, reduceIte, RT, RM, res_cell, hk]
   ·show D.tup [.bool false, .int .i64 0] = R
    rw [hR, hAG, all_range_out hlt hS]; rfl
 have hc := nat_lt_false hge
 have : i = x.length := by omega
 subst this
 simp only [FS, ↓RE, okR, argEnv, Nat.reduceAdd, Nat.reduceSub, Nat.reduceLT, Nat.reduceLeDiff, Nat.reduceEqDiff, reduceIte, RT, RM, hc, decide_false]
 refine awt_peelT (T := []) oNone_ok rfl ?_
 simp only [FS, ↓RE, okR, argEnv, Nat.reduceAdd, Nat.reduceSub, Nat.reduceLT, Nat.reduceLeDiff, Nat.reduceEqDiff, reduceIte, RT, RM]
 refine awt_restT (T := []) oNone_ok rfl ?_
 simp only [FS, ↓RE, okR, argEnv, Nat.reduceAdd, Nat.reduceSub, Nat.reduceLT, Nat.reduceLeDiff, Nat.reduceEqDiff, reduceIte, RT, RM]
 refine ⟨⟨[.bool true, .int .i64 0], ?_, ?_⟩, show 1 < 2 by decide, clos_nil rfl _ _ _⟩
 ·show resD _ ⟨_, _, _, _⟩ [.cell 6 4, .tmp 7] = _
  simp only [FS, ↓RE, okR, argEnv, Nat.reduceAdd, Nat.reduceSub, Nat.reduceLT, Nat.reduceLeDiff, Nat.reduceEqDiff, reduceIte, RT, RM, res_cell]
 ·show D.tup [.bool true, .int .i64 0] = R
  rw [hR, hAG, hok]; rfl
end Go.Sx
