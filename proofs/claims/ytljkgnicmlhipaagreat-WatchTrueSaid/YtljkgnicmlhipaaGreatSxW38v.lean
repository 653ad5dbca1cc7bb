/- Own work: contracts of functions, used in the proof of a law. -/
import Derived.Test.YtljkgnicmlhipaaGreatSxWiv
import Derived.Test.YtljkgnicmlhipaaGreatSxMi
set_option linter.unusedVariables false
set_option linter.unusedSimpArgs false
namespace Go.Sx
open Go.Proofs
set_option maxRecDepth 10000

set_option maxHeartbeats 4000000 in
theorem Where_t {w : WatchW} (hw : WatchL w) {l : List MsgW} (hl : BL l) (now : Int) : Pure Tryz.prog 9 [.agg w.c, msD l, .int .i64 now] (WhereR w l now) := by
 have pa := asked_t hw hl now
 have pf := fun (h : l.length ≤ 1000) => follow_t w l h now
 by_cases ha : askedI w l now = 0
 rotate_left
 ·unfold WhereR
  rw [if_neg ha]
  have hq : ((askedI w l now) != 0) = true := by simp [ha]
  generalize askedI w l now = a at *
  obtain ⟨⟨sw, sd, sh⟩, ⟨rl, lk⟩, cell, mi, ev, en, af⟩ := w
  simp only [WatchW.c, SkyW.c, NetW.c, List.cons_append, List.nil_append] at *
  refine pure_of_pieces (rs := [.tmp 6, .tmp 7, .tmp 8]) (m := 87) [(14, [(12, false, false, [])]), (16, [(13, false, false, [])])] oNone_ok (by kernel_rfl) Tryz.func9 rfl (by kernel_rfl) rfl rfl (by kernel_rfl) ?_
  refine awp_peel (T := [(14, [(12, false, false, [])]), (16, [(13, false, false, [])])]) oNone_ok (by kernel_rfl) (by kernel_rfl) ?_
  simp only [RT, FS, ↓RE, okR, argEnv, Nat.reduceAdd, Nat.reduceSub, Nat.reduceLT, Nat.reduceLeDiff, Nat.reduceEqDiff, reduceIte, RM]
  refine awp_peel (T := [(14, [(12, false, false, [])]), (16, [(13, false, false, [])])]) oNone_ok (by kernel_rfl) (by kernel_rfl) ?_
  simp only [RT, FS, ↓RE, okR, argEnv, Nat.reduceAdd, Nat.reduceSub, Nat.reduceLT, Nat.reduceLeDiff, Nat.reduceEqDiff, reduceIte, RM]
  refine call_of_pure' pa (by simp [D.ltL, D.lt]) (by simp [D.lt]) ?_
  simp only [RT, FS, ↓RE, okR, argEnv, Nat.reduceAdd, Nat.reduceSub, Nat.reduceLT, Nat.reduceLeDiff, Nat.reduceEqDiff, reduceIte, RM, hq]
 have hao := asked_ok ha
 have hq : ((0 : Int) != 0) = false := rfl
 have hwo := hao.ok
 have hN := hwo.s.le
 have hN2 : w.s.sh.length ≤ 144 := by omega
 have pf := pf (by have := hao.n; omega)
 have hcell : InS w.s w.cell := free_in hwo.c
 unfold WhereR
 rw [if_pos ha]
 rw [ha] at pa
 have htid := fun t fl dn => tidy_t (w := w) l hN2 now t fl dn
 have hsay := fun t fl dn => say_t (w := w) l hao.n hN2 now t fl dn
 have hhear := fun t ht fl dn => hear_t hwo l hao.n now (t := t) ht fl dn
 have hmove := fun t ht fl dn hf hd => move_t (w := w) hwo.s l now (t := t) ht hwo.m (fl := fl) (dn := dn) hf hd
 have hmin := hwo.m
 have hnow := hao.b
 refine pure_of_pieces (rs := [.tmp 6, .tmp 7, .tmp 8]) (m := 87) [(14, [(12, false, false, [])]), (16, [(13, false, false, [])])] oNone_ok (by kernel_rfl) Tryz.func9 rfl (by kernel_rfl) rfl rfl (by kernel_rfl) ?_
 refine awp_peel (T := [(14, [(12, false, false, [])]), (16, [(13, false, false, [])])]) oNone_ok (by kernel_rfl) (by kernel_rfl) ?_
 have hpl0 := pl_zero hwo (knownL l now) now
 have hplS := fun n fl dn m h hn hm t ht => pl_succ hwo (kn := knownL l now) (now := now) (n := n) (fl := fl) (dn := dn) (m := m) h hn hm (t := t) ht rfl
 obtain ⟨PO, hPO⟩ : ∃ PO, PlOk w (knownL l now) now = PO := ⟨_, rfl⟩
 rw [hPO] at hpl0 hplS
 obtain ⟨FC, hFC⟩ : ∃ FC, folC w l now = FC := ⟨_, rfl⟩
 rw [hFC] at pf htid hsay hhear hmove
 obtain ⟨⟨sw, sd, sh⟩, ⟨rl, lk⟩, cell, mi, ev, en, af⟩ := w
 simp only [WatchW.c, SkyW.c, NetW.c, List.cons_append, List.nil_append] at *
 simp only [RT, FS, ↓RE, okR, argEnv, Nat.reduceAdd, Nat.reduceSub, Nat.reduceLT, Nat.reduceLeDiff, Nat.reduceEqDiff, reduceIte, RM]
 refine awp_peel (T := [(14, [(12, false, false, [])]), (16, [(13, false, false, [])])]) oNone_ok (by kernel_rfl) (by kernel_rfl) ?_
 simp only [RT, FS, ↓RE, okR, argEnv, Nat.reduceAdd, Nat.reduceSub, Nat.reduceLT, Nat.reduceLeDiff, Nat.reduceEqDiff, reduceIte, RM]
 refine call_of_pure' pa (by simp [D.ltL, D.lt]) (by simp [D.lt]) ?_
 simp only [RT, FS, ↓RE, okR, argEnv, Nat.reduceAdd, Nat.reduceSub, Nat.reduceLT, Nat.reduceLeDiff, Nat.reduceEqDiff, reduceIte, RM, hq]
 obtain ⟨v6, hv6⟩ : ∃ v6 : Nat → Nat, v6 = fun m => match m with | 3 | 6 | 7 | 9 => 2 | _ => 1 := ⟨_, rfl⟩
 obtain ⟨v11, hv11⟩ : ∃ v11 : Nat → Nat, v11 = fun m => match m with | 3 | 6 | 7 | 9 => 1 | _ => 2 := ⟨_, rfl⟩
 obtain ⟨vl, hvl⟩ : ∃ vl : Nat → Nat → D, vl = (fun m i => match i with | 0 => .agg [.int .i64 sw, .int .i64 sd, shD sh, rlD rl, lkD lk, .int .i64 cell, .int .i64 mi, .int .i64 ev, .int .i64 en, inD af] | 1 => msD l | 2 => .int .i64 now | 3 => .ref FC 0 | 4 => .ptr 0 6 | 5 => .int .i64 mi | 6 | 10 => .mp (v6 m) | 7 => .ptr 0 5 | 8 => .int .i64 cell | 11 => .mp (v11 m) | 12 => .agg [.ref FC 0, .int .i64 mi, .mp (v6 m), .mp (v11 m)] | 13 | 14 => .ptr 3 0 | _ => .any) := ⟨_, rfl⟩
 have z0 : ∀ m, vl m 0 = .agg [.int .i64 sw, .int .i64 sd, shD sh, rlD rl, lkD lk, .int .i64 cell, .int .i64 mi, .int .i64 ev, .int .i64 en, inD af] := fun m => congrFun (congrFun hvl m) 0
 have z1 : ∀ m, vl m 1 = msD l := fun m => congrFun (congrFun hvl m) 1
 have z2 : ∀ m, vl m 2 = .int .i64 now := fun m => congrFun (congrFun hvl m) 2
 have z3 : ∀ m, vl m 3 = .ref FC 0 := fun m => congrFun (congrFun hvl m) 3
 have z4 : ∀ m, vl m 4 = .ptr 0 6 := fun m => congrFun (congrFun hvl m) 4
 have z5 : ∀ m, vl m 5 = .int .i64 mi := fun m => congrFun (congrFun hvl m) 5
 have z6 : ∀ m, vl m 6 = .mp (v6 m) := fun m => congrFun (congrFun hvl m) 6
 have z7 : ∀ m, vl m 7 = .ptr 0 5 := fun m => congrFun (congrFun hvl m) 7
 have z8 : ∀ m, vl m 8 = .int .i64 cell := fun m => congrFun (congrFun hvl m) 8
 have z9 : ∀ m, vl m 9 = .any := fun m => congrFun (congrFun hvl m) 9
 have z10 : ∀ m, vl m 10 = .mp (v6 m) := fun m => congrFun (congrFun hvl m) 10
 have z11 : ∀ m, vl m 11 = .mp (v11 m) := fun m => congrFun (congrFun hvl m) 11
 have z12 : ∀ m, vl m 12 = .agg [.ref FC 0, .int .i64 mi, .mp (v6 m), .mp (v11 m)] := fun m => congrFun (congrFun hvl m) 12
 have z13 : ∀ m, vl m 13 = .ptr 3 0 := fun m => congrFun (congrFun hvl m) 13
 have z14 : ∀ m, vl m 14 = .ptr 3 0 := fun m => congrFun (congrFun hvl m) 14
 have hext : ∀ (m m' : Nat) (L : Nat → Prop), ¬ L 6 → ¬ L 10 → ¬ L 11 → ¬ L 12 → ∀ j, L j → vl m' j = vl m j := by
  intro m m' L n6 n10 n11 n12 j hj
  rw [hvl]
  obtain rfl | rfl | rfl | rfl | rfl | rfl | rfl | rfl | rfl | rfl | rfl | rfl | rfl | rfl | rfl | h15 : j = 0 ∨ j = 1 ∨ j = 2 ∨ j = 3 ∨ j = 4 ∨ j = 5 ∨ j = 6 ∨ j = 7 ∨ j = 8 ∨ j = 9 ∨ j = 10 ∨ j = 11 ∨ j = 12 ∨ j = 13 ∨ j = 14 ∨ 15 ≤ j := by omega
  all_goals first | rfl | contradiction | (obtain ⟨k, rfl⟩ : ∃ k, j = k + 15 := ⟨j - 15, by omega⟩; rfl)
 have hext2 : ∀ (m m' : Nat), v6 m' = v6 m → v11 m' = v11 m → vl m' = vl m := fun m m' e1 e2 => funext fun j => by rw [hvl]; simp only [e1, e2]
 have u1 := fun h nid (hb : hget h 1 = some (.map [])) => bm_put (m := []) (h := h) (b := 1) hb nid cell true
 have u2 := fun h nid (hb : hget h 2 = some (.map [])) => bm_put (m := []) (h := h) (b := 2) hb nid cell true
 refine awp_cutA [(2, .int .i64 now), (10, .ptr 4 0)] (plcH FC mi (gput [] cell true) []) 5 87 (awp_slots (σ := Nat) oNone_ok (by kernel_rfl) (fun m L => (m = 0 ∧ ¬ L 6 ∧ ¬ L 9 ∧ ¬ L 11 ∧ ¬ L 13) ∨ (m = 1 ∧ L 6 ∧ ¬ L 9 ∧ ¬ L 11 ∧ ¬ L 13) ∨ (m = 2 ∧ L 6 ∧ L 9 ∧ ¬ L 11 ∧ ¬ L 13) ∨ (m = 3 ∧ ¬ L 6 ∧ ¬ L 9 ∧ L 11 ∧ ¬ L 13) ∨ (m = 4 ∧ L 6 ∧ ¬ L 9 ∧ L 11 ∧ ¬ L 13) ∨ (m = 5 ∧ L 6 ∧ L 9 ∧ L 11 ∧ ¬ L 13) ∨ (m = 6 ∧ L 6 ∧ ¬ L 9 ∧ L 11 ∧ ¬ L 13) ∨ (m = 7 ∧ L 6 ∧ L 9 ∧ L 11 ∧ ¬ L 13) ∨ (m = 8 ∧ L 6 ∧ L 9 ∧ L 11 ∧ L 13) ∨ (m = 9 ∧ L 6 ∧ L 9 ∧ L 11 ∧ L 13))
  (fun m => match m with | 0 => [(0, .box [.int .i64 sw, .int .i64 sd, shD sh, rlD rl, lkD lk, .int .i64 cell, .int .i64 mi, .int .i64 ev, .int .i64 en, inD af])] | 1 => [(1, .map []), (0, .box [.int .i64 sw, .int .i64 sd, shD sh, rlD rl, lkD lk, .int .i64 cell, .int .i64 mi, .int .i64 ev, .int .i64 en, inD af])] | 2 => [(1, .map (bkv (gput [] cell true))), (0, .box [.int .i64 sw, .int .i64 sd, shD sh, rlD rl, lkD lk, .int .i64 cell, .int .i64 mi, .int .i64 ev, .int .i64 en, inD af])] | 3 => [(1, .map []), (0, .box [.int .i64 sw, .int .i64 sd, shD sh, rlD rl, lkD lk, .int .i64 cell, .int .i64 mi, .int .i64 ev, .int .i64 en, inD af])] | 4 => [(2, .map []), (1, .map []), (0, .box [.int .i64 sw, .int .i64 sd, shD sh, rlD rl, lkD lk, .int .i64 cell, .int .i64 mi, .int .i64 ev, .int .i64 en, inD af])] | 5 => [(2, .map []), (1, .map (bkv (gput [] cell true))), (0, .box [.int .i64 sw, .int .i64 sd, shD sh, rlD rl, lkD lk, .int .i64 cell, .int .i64 mi, .int .i64 ev, .int .i64 en, inD af])] | 6 => [(2, .map []), (1, .map []), (0, .box [.int .i64 sw, .int .i64 sd, shD sh, rlD rl, lkD lk, .int .i64 cell, .int .i64 mi, .int .i64 ev, .int .i64 en, inD af])] | 7 => [(2, .map (bkv (gput [] cell true))), (1, .map []), (0, .box [.int .i64 sw, .int .i64 sd, shD sh, rlD rl, lkD lk, .int .i64 cell, .int .i64 mi, .int .i64 ev, .int .i64 en, inD af])] | 8 => [(3, .box [.ref FC 0, .int .i64 mi, .mp 1, .mp 2]), (2, .map []), (1, .map (bkv (gput [] cell true))), (0, .box [.int .i64 sw, .int .i64 sd, shD sh, rlD rl, lkD lk, .int .i64 cell, .int .i64 mi, .int .i64 ev, .int .i64 en, inD af])] | _ => [(3, .box [.ref FC 0, .int .i64 mi, .mp 2, .mp 1]), (2, .map (bkv (gput [] cell true))), (1, .map []), (0, .box [.int .i64 sw, .int .i64 sd, shD sh, rlD rl, lkD lk, .int .i64 cell, .int .i64 mi, .int .i64 ev, .int .i64 en, inD af])])
  (fun m => match m with | 0 => 1 | 1 | 2 | 3 => 2 | 4 | 5 | 6 | 7 => 3 | _ => 4)
  vl 0
  (by kernel_rfl) (by kernel_rfl) rfl rfl (.inl ⟨rfl, id, id, id, id⟩) ?_ ?_) ?_
 ·intro m L i o e hok hcl ho hnr hr hsl
  have hi : i < 15 := lt_of_arr ho
  obtain rfl | rfl | rfl | rfl | rfl | rfl | rfl | rfl | rfl | rfl | rfl | rfl | rfl | rfl | rfl : i = 0 ∨ i = 1 ∨ i = 2 ∨ i = 3 ∨ i = 4 ∨ i = 5 ∨ i = 6 ∨ i = 7 ∨ i = 8 ∨ i = 9 ∨ i = 10 ∨ i = 11 ∨ i = 12 ∨ i = 13 ∨ i = 14 := by omega
  ·simp only [List.getElem?_toArray, List.getElem?_cons_succ, List.getElem?_cons_zero, Option.some.injEq] at ho
   subst ho
   have k3 := hsl.base 3 rfl
   refine ⟨rfl, ?_⟩
   rcases hok with ⟨rfl, hok⟩ | ⟨rfl, hok⟩ | ⟨rfl, hok⟩ | ⟨rfl, hok⟩ | ⟨rfl, hok⟩ | ⟨rfl, hok⟩ | ⟨rfl, hok⟩ | ⟨rfl, hok⟩ | ⟨rfl, hok⟩ | ⟨rfl, hok⟩
   ·simp only [RT, FS, ↓RE, okR, argEnv, Nat.reduceAdd, Nat.reduceSub, Nat.reduceLT, Nat.reduceLeDiff, Nat.reduceEqDiff, reduceIte, RM, k3, z0, z1, z2, z3, z4, z5, z6, z7, z8, z9, z10, z11, z12, z13, z14]
    exact ⟨0, by simpa using hok, by simp⟩
   ·simp only [RT, FS, ↓RE, okR, argEnv, Nat.reduceAdd, Nat.reduceSub, Nat.reduceLT, Nat.reduceLeDiff, Nat.reduceEqDiff, reduceIte, RM, k3, z0, z1, z2, z3, z4, z5, z6, z7, z8, z9, z10, z11, z12, z13, z14]
    exact ⟨1, by simpa using hok, by simp⟩
   ·simp only [RT, FS, ↓RE, okR, argEnv, Nat.reduceAdd, Nat.reduceSub, Nat.reduceLT, Nat.reduceLeDiff, Nat.reduceEqDiff, reduceIte, RM, k3, z0, z1, z2, z3, z4, z5, z6, z7, z8, z9, z10, z11, z12, z13, z14]
    exact ⟨2, by simpa using hok, by simp⟩
   ·simp only [RT, FS, ↓RE, okR, argEnv, Nat.reduceAdd, Nat.reduceSub, Nat.reduceLT, Nat.reduceLeDiff, Nat.reduceEqDiff, reduceIte, RM, k3, z0, z1, z2, z3, z4, z5, z6, z7, z8, z9, z10, z11, z12, z13, z14]
    exact ⟨3, by simpa using hok, by simp⟩
   ·simp only [RT, FS, ↓RE, okR, argEnv, Nat.reduceAdd, Nat.reduceSub, Nat.reduceLT, Nat.reduceLeDiff, Nat.reduceEqDiff, reduceIte, RM, k3, z0, z1, z2, z3, z4, z5, z6, z7, z8, z9, z10, z11, z12, z13, z14]
    exact ⟨4, by simpa using hok, by simp⟩
   ·simp only [RT, FS, ↓RE, okR, argEnv, Nat.reduceAdd, Nat.reduceSub, Nat.reduceLT, Nat.reduceLeDiff, Nat.reduceEqDiff, reduceIte, RM, k3, z0, z1, z2, z3, z4, z5, z6, z7, z8, z9, z10, z11, z12, z13, z14]
    exact ⟨5, by simpa using hok, by simp⟩
   ·simp only [RT, FS, ↓RE, okR, argEnv, Nat.reduceAdd, Nat.reduceSub, Nat.reduceLT, Nat.reduceLeDiff, Nat.reduceEqDiff, reduceIte, RM, k3, z0, z1, z2, z3, z4, z5, z6, z7, z8, z9, z10, z11, z12, z13, z14]
    exact ⟨6, by simpa using hok, by simp⟩
   ·simp only [RT, FS, ↓RE, okR, argEnv, Nat.reduceAdd, Nat.reduceSub, Nat.reduceLT, Nat.reduceLeDiff, Nat.reduceEqDiff, reduceIte, RM, k3, z0, z1, z2, z3, z4, z5, z6, z7, z8, z9, z10, z11, z12, z13, z14]
    exact ⟨7, by simpa using hok, by simp⟩
   ·simp only [RT, FS, ↓RE, okR, argEnv, Nat.reduceAdd, Nat.reduceSub, Nat.reduceLT, Nat.reduceLeDiff, Nat.reduceEqDiff, reduceIte, RM, k3, z0, z1, z2, z3, z4, z5, z6, z7, z8, z9, z10, z11, z12, z13, z14]
    exact ⟨8, by simpa using hok, by simp⟩
   ·simp only [RT, FS, ↓RE, okR, argEnv, Nat.reduceAdd, Nat.reduceSub, Nat.reduceLT, Nat.reduceLeDiff, Nat.reduceEqDiff, reduceIte, RM, k3, z0, z1, z2, z3, z4, z5, z6, z7, z8, z9, z10, z11, z12, z13, z14]
    exact ⟨9, by simpa using hok, by simp⟩
  ·simp only [List.getElem?_toArray, List.getElem?_cons_succ, List.getElem?_cons_zero, Option.some.injEq] at ho
   subst ho
   have k1 := hsl.base 1 rfl
   refine ⟨rfl, ?_⟩
   simp only [RT, FS, ↓RE, okR, argEnv, Nat.reduceAdd, Nat.reduceSub, Nat.reduceLT, Nat.reduceLeDiff, Nat.reduceEqDiff, reduceIte, RM, k1, z0, z1, z2, z3, z4, z5, z6, z7, z8, z9, z10, z11, z12, z13, z14]
   exact ⟨m, by simpa using hok, by simp⟩
  ·simp only [List.getElem?_toArray, List.getElem?_cons_succ, List.getElem?_cons_zero, Option.some.injEq] at ho
   subst ho
   have k2 := hsl.base 2 rfl
   refine ⟨rfl, ?_⟩
   simp only [RT, FS, ↓RE, okR, argEnv, Nat.reduceAdd, Nat.reduceSub, Nat.reduceLT, Nat.reduceLeDiff, Nat.reduceEqDiff, reduceIte, RM, k2, z0, z1, z2, z3, z4, z5, z6, z7, z8, z9, z10, z11, z12, z13, z14]
   exact ⟨m, by simpa using hok, by simp⟩
  ·simp only [List.getElem?_toArray, List.getElem?_cons_succ, List.getElem?_cons_zero, Option.some.injEq] at ho
   subst ho
   have k20 := hsl.new 0 _ 20 rfl (hr 0 (by decide)) rfl
   have k21 := hsl.new 1 _ 21 rfl (hr 1 (by decide)) rfl
   have k22 := hsl.new 2 _ 22 rfl (hr 2 (by decide)) rfl
   refine ⟨rfl, ?_⟩
   simp only [RT, FS, ↓RE, okR, argEnv, Nat.reduceAdd, Nat.reduceSub, Nat.reduceLT, Nat.reduceLeDiff, Nat.reduceEqDiff, reduceIte, RM, k20, k21, k22, z0, z1, z2, z3, z4, z5, z6, z7, z8, z9, z10, z11, z12, z13, z14]
   refine call_of_pure' pf (by simp [D.ltL, D.lt]) (by simp [D.lt]) ?_
   simp only [RT, FS, ↓RE, okR, argEnv, Nat.reduceAdd, Nat.reduceSub, Nat.reduceLT, Nat.reduceLeDiff, Nat.reduceEqDiff, reduceIte, RM, k20, k21, k22, z0, z1, z2, z3, z4, z5, z6, z7, z8, z9, z10, z11, z12, z13, z14]
   exact ⟨m, by simpa using hok, by simp⟩
  ·simp only [List.getElem?_toArray, List.getElem?_cons_succ, List.getElem?_cons_zero, Option.some.injEq] at ho
   subst ho
   have k3 := hsl.base 3 rfl
   refine ⟨rfl, ?_⟩
   simp only [RT, FS, ↓RE, okR, argEnv, Nat.reduceAdd, Nat.reduceSub, Nat.reduceLT, Nat.reduceLeDiff, Nat.reduceEqDiff, reduceIte, RM, k3, z0, z1, z2, z3, z4, z5, z6, z7, z8, z9, z10, z11, z12, z13, z14]
   exact ⟨m, by simpa using hok, by simp⟩
  ·simp only [List.getElem?_toArray, List.getElem?_cons_succ, List.getElem?_cons_zero, Option.some.injEq] at ho
   subst ho
   have k24 := hsl.new 4 _ 24 rfl (hr 4 (by decide)) rfl
   refine ⟨rfl, ?_⟩
   rcases hok with ⟨rfl, hok⟩ | ⟨rfl, hok⟩ | ⟨rfl, hok⟩ | ⟨rfl, hok⟩ | ⟨rfl, hok⟩ | ⟨rfl, hok⟩ | ⟨rfl, hok⟩ | ⟨rfl, hok⟩ | ⟨rfl, hok⟩ | ⟨rfl, hok⟩
   ·simp only [RT, FS, ↓RE, okR, argEnv, Nat.reduceAdd, Nat.reduceSub, Nat.reduceLT, Nat.reduceLeDiff, Nat.reduceEqDiff, reduceIte, RM, k24, z0, z1, z2, z3, z4, z5, z6, z7, z8, z9, z10, z11, z12, z13, z14]
    exact ⟨0, by simpa using hok, by simp⟩
   ·simp only [RT, FS, ↓RE, okR, argEnv, Nat.reduceAdd, Nat.reduceSub, Nat.reduceLT, Nat.reduceLeDiff, Nat.reduceEqDiff, reduceIte, RM, k24, z0, z1, z2, z3, z4, z5, z6, z7, z8, z9, z10, z11, z12, z13, z14]
    exact ⟨1, by simpa using hok, by simp⟩
   ·simp only [RT, FS, ↓RE, okR, argEnv, Nat.reduceAdd, Nat.reduceSub, Nat.reduceLT, Nat.reduceLeDiff, Nat.reduceEqDiff, reduceIte, RM, k24, z0, z1, z2, z3, z4, z5, z6, z7, z8, z9, z10, z11, z12, z13, z14]
    exact ⟨2, by simpa using hok, by simp⟩
   ·simp only [RT, FS, ↓RE, okR, argEnv, Nat.reduceAdd, Nat.reduceSub, Nat.reduceLT, Nat.reduceLeDiff, Nat.reduceEqDiff, reduceIte, RM, k24, z0, z1, z2, z3, z4, z5, z6, z7, z8, z9, z10, z11, z12, z13, z14]
    exact ⟨3, by simpa using hok, by simp⟩
   ·simp only [RT, FS, ↓RE, okR, argEnv, Nat.reduceAdd, Nat.reduceSub, Nat.reduceLT, Nat.reduceLeDiff, Nat.reduceEqDiff, reduceIte, RM, k24, z0, z1, z2, z3, z4, z5, z6, z7, z8, z9, z10, z11, z12, z13, z14]
    exact ⟨4, by simpa using hok, by simp⟩
   ·simp only [RT, FS, ↓RE, okR, argEnv, Nat.reduceAdd, Nat.reduceSub, Nat.reduceLT, Nat.reduceLeDiff, Nat.reduceEqDiff, reduceIte, RM, k24, z0, z1, z2, z3, z4, z5, z6, z7, z8, z9, z10, z11, z12, z13, z14]
    exact ⟨5, by simpa using hok, by simp⟩
   ·simp only [RT, FS, ↓RE, okR, argEnv, Nat.reduceAdd, Nat.reduceSub, Nat.reduceLT, Nat.reduceLeDiff, Nat.reduceEqDiff, reduceIte, RM, k24, z0, z1, z2, z3, z4, z5, z6, z7, z8, z9, z10, z11, z12, z13, z14]
    exact ⟨6, by simpa using hok, by simp⟩
   ·simp only [RT, FS, ↓RE, okR, argEnv, Nat.reduceAdd, Nat.reduceSub, Nat.reduceLT, Nat.reduceLeDiff, Nat.reduceEqDiff, reduceIte, RM, k24, z0, z1, z2, z3, z4, z5, z6, z7, z8, z9, z10, z11, z12, z13, z14]
    exact ⟨7, by simpa using hok, by simp⟩
   ·simp only [RT, FS, ↓RE, okR, argEnv, Nat.reduceAdd, Nat.reduceSub, Nat.reduceLT, Nat.reduceLeDiff, Nat.reduceEqDiff, reduceIte, RM, k24, z0, z1, z2, z3, z4, z5, z6, z7, z8, z9, z10, z11, z12, z13, z14]
    exact ⟨8, by simpa using hok, by simp⟩
   ·simp only [RT, FS, ↓RE, okR, argEnv, Nat.reduceAdd, Nat.reduceSub, Nat.reduceLT, Nat.reduceLeDiff, Nat.reduceEqDiff, reduceIte, RM, k24, z0, z1, z2, z3, z4, z5, z6, z7, z8, z9, z10, z11, z12, z13, z14]
    exact ⟨9, by simpa using hok, by simp⟩
  ·simp only [List.getElem?_toArray, List.getElem?_cons_succ, List.getElem?_cons_zero, Option.some.injEq] at ho
   subst ho
   refine ⟨rfl, ?_⟩
   have h9 : ¬ L 9 := fun h => hnr (hcl 9 6 h (by decide))
   have hm0 : m = 0 ∨ m = 3 := by rcases hok with ⟨rfl, hok⟩ | ⟨rfl, hok⟩ | ⟨rfl, hok⟩ | ⟨rfl, hok⟩ | ⟨rfl, hok⟩ | ⟨rfl, hok⟩ | ⟨rfl, hok⟩ | ⟨rfl, hok⟩ | ⟨rfl, hok⟩ | ⟨rfl, hok⟩ <;> (obtain ⟨a6, a9, a11, a13⟩ := hok) <;> first | contradiction | simp
   obtain rfl | rfl := hm0
   ·simp only [RT, FS, ↓RE, okR, argEnv, Nat.reduceAdd, Nat.reduceSub, Nat.reduceLT, Nat.reduceLeDiff, Nat.reduceEqDiff, reduceIte, RM, z0, z1, z2, z3, z4, z5, z6, z7, z8, z9, z10, z11, z12, z13, z14]
    have hx := hext2 0 1 (by simp [hv6]) (by simp [hv11])
    exact ⟨1, by simp at hok ⊢; simp [hok], by simp [hx, z6, z9, z11, z13, hv6, hv11, Sx.hset, gput, gkv]⟩
   ·simp only [RT, FS, ↓RE, okR, argEnv, Nat.reduceAdd, Nat.reduceSub, Nat.reduceLT, Nat.reduceLeDiff, Nat.reduceEqDiff, reduceIte, RM, z0, z1, z2, z3, z4, z5, z6, z7, z8, z9, z10, z11, z12, z13, z14]
    have hx := hext2 3 6 (by simp [hv6]) (by simp [hv11])
    exact ⟨6, by simp at hok ⊢; simp [hok], by simp [hx, z6, z9, z11, z13, hv6, hv11, Sx.hset, gput, gkv]⟩
  ·simp only [List.getElem?_toArray, List.getElem?_cons_succ, List.getElem?_cons_zero, Option.some.injEq] at ho
   subst ho
   have k3 := hsl.base 3 rfl
   refine ⟨rfl, ?_⟩
   simp only [RT, FS, ↓RE, okR, argEnv, Nat.reduceAdd, Nat.reduceSub, Nat.reduceLT, Nat.reduceLeDiff, Nat.reduceEqDiff, reduceIte, RM, k3, z0, z1, z2, z3, z4, z5, z6, z7, z8, z9, z10, z11, z12, z13, z14]
   exact ⟨m, by simpa using hok, by simp⟩
  ·simp only [List.getElem?_toArray, List.getElem?_cons_succ, List.getElem?_cons_zero, Option.some.injEq] at ho
   subst ho
   have k27 := hsl.new 7 _ 27 rfl (hr 7 (by decide)) rfl
   refine ⟨rfl, ?_⟩
   rcases hok with ⟨rfl, hok⟩ | ⟨rfl, hok⟩ | ⟨rfl, hok⟩ | ⟨rfl, hok⟩ | ⟨rfl, hok⟩ | ⟨rfl, hok⟩ | ⟨rfl, hok⟩ | ⟨rfl, hok⟩ | ⟨rfl, hok⟩ | ⟨rfl, hok⟩
   ·simp only [RT, FS, ↓RE, okR, argEnv, Nat.reduceAdd, Nat.reduceSub, Nat.reduceLT, Nat.reduceLeDiff, Nat.reduceEqDiff, reduceIte, RM, k27, z0, z1, z2, z3, z4, z5, z6, z7, z8, z9, z10, z11, z12, z13, z14]
    exact ⟨0, by simpa using hok, by simp⟩
   ·simp only [RT, FS, ↓RE, okR, argEnv, Nat.reduceAdd, Nat.reduceSub, Nat.reduceLT, Nat.reduceLeDiff, Nat.reduceEqDiff, reduceIte, RM, k27, z0, z1, z2, z3, z4, z5, z6, z7, z8, z9, z10, z11, z12, z13, z14]
    exact ⟨1, by simpa using hok, by simp⟩
   ·simp only [RT, FS, ↓RE, okR, argEnv, Nat.reduceAdd, Nat.reduceSub, Nat.reduceLT, Nat.reduceLeDiff, Nat.reduceEqDiff, reduceIte, RM, k27, z0, z1, z2, z3, z4, z5, z6, z7, z8, z9, z10, z11, z12, z13, z14]
    exact ⟨2, by simpa using hok, by simp⟩
   ·simp only [RT, FS, ↓RE, okR, argEnv, Nat.reduceAdd, Nat.reduceSub, Nat.reduceLT, Nat.reduceLeDiff, Nat.reduceEqDiff, reduceIte, RM, k27, z0, z1, z2, z3, z4, z5, z6, z7, z8, z9, z10, z11, z12, z13, z14]
    exact ⟨3, by simpa using hok, by simp⟩
   ·simp only [RT, FS, ↓RE, okR, argEnv, Nat.reduceAdd, Nat.reduceSub, Nat.reduceLT, Nat.reduceLeDiff, Nat.reduceEqDiff, reduceIte, RM, k27, z0, z1, z2, z3, z4, z5, z6, z7, z8, z9, z10, z11, z12, z13, z14]
    exact ⟨4, by simpa using hok, by simp⟩
   ·simp only [RT, FS, ↓RE, okR, argEnv, Nat.reduceAdd, Nat.reduceSub, Nat.reduceLT, Nat.reduceLeDiff, Nat.reduceEqDiff, reduceIte, RM, k27, z0, z1, z2, z3, z4, z5, z6, z7, z8, z9, z10, z11, z12, z13, z14]
    exact ⟨5, by simpa using hok, by simp⟩
   ·simp only [RT, FS, ↓RE, okR, argEnv, Nat.reduceAdd, Nat.reduceSub, Nat.reduceLT, Nat.reduceLeDiff, Nat.reduceEqDiff, reduceIte, RM, k27, z0, z1, z2, z3, z4, z5, z6, z7, z8, z9, z10, z11, z12, z13, z14]
    exact ⟨6, by simpa using hok, by simp⟩
   ·simp only [RT, FS, ↓RE, okR, argEnv, Nat.reduceAdd, Nat.reduceSub, Nat.reduceLT, Nat.reduceLeDiff, Nat.reduceEqDiff, reduceIte, RM, k27, z0, z1, z2, z3, z4, z5, z6, z7, z8, z9, z10, z11, z12, z13, z14]
    exact ⟨7, by simpa using hok, by simp⟩
   ·simp only [RT, FS, ↓RE, okR, argEnv, Nat.reduceAdd, Nat.reduceSub, Nat.reduceLT, Nat.reduceLeDiff, Nat.reduceEqDiff, reduceIte, RM, k27, z0, z1, z2, z3, z4, z5, z6, z7, z8, z9, z10, z11, z12, z13, z14]
    exact ⟨8, by simpa using hok, by simp⟩
   ·simp only [RT, FS, ↓RE, okR, argEnv, Nat.reduceAdd, Nat.reduceSub, Nat.reduceLT, Nat.reduceLeDiff, Nat.reduceEqDiff, reduceIte, RM, k27, z0, z1, z2, z3, z4, z5, z6, z7, z8, z9, z10, z11, z12, z13, z14]
    exact ⟨9, by simpa using hok, by simp⟩
  ·simp only [List.getElem?_toArray, List.getElem?_cons_succ, List.getElem?_cons_zero, Option.some.injEq] at ho
   subst ho
   have k26 := hsl.new 6 _ 26 rfl (hr 6 (by decide)) rfl
   have k28 := hsl.new 8 _ 28 rfl (hr 8 (by decide)) rfl
   refine ⟨rfl, ?_⟩
   have h6 : L 6 := hr 6 (by decide)
   have h13 : ¬ L 13 := fun h => hnr (hcl 13 9 h (by decide))
   have hm0 : m = 1 ∨ m = 4 ∨ m = 6 := by rcases hok with ⟨rfl, hok⟩ | ⟨rfl, hok⟩ | ⟨rfl, hok⟩ | ⟨rfl, hok⟩ | ⟨rfl, hok⟩ | ⟨rfl, hok⟩ | ⟨rfl, hok⟩ | ⟨rfl, hok⟩ | ⟨rfl, hok⟩ | ⟨rfl, hok⟩ <;> (obtain ⟨a6, a9, a11, a13⟩ := hok) <;> first | contradiction | simp
   obtain rfl | rfl | rfl := hm0
   ·simp only [RT, FS, ↓RE, okR, argEnv, Nat.reduceAdd, Nat.reduceSub, Nat.reduceLT, Nat.reduceLeDiff, Nat.reduceEqDiff, reduceIte, RM, k26, k28, z0, z1, z2, z3, z4, z5, z6, z7, z8, z9, z10, z11, z12, z13, z14, hv6, u1]
    have hx := hext2 1 2 (by simp [hv6]) (by simp [hv11])
    exact ⟨2, by simp at hok ⊢; simp [hok], by simp [hx, z6, z9, z11, z13, hv6, hv11, Sx.hset, gput, gkv]⟩
   ·simp only [RT, FS, ↓RE, okR, argEnv, Nat.reduceAdd, Nat.reduceSub, Nat.reduceLT, Nat.reduceLeDiff, Nat.reduceEqDiff, reduceIte, RM, k26, k28, z0, z1, z2, z3, z4, z5, z6, z7, z8, z9, z10, z11, z12, z13, z14, hv6, u1]
    have hx := hext2 4 5 (by simp [hv6]) (by simp [hv11])
    exact ⟨5, by simp at hok ⊢; simp [hok], by simp [hx, z6, z9, z11, z13, hv6, hv11, Sx.hset, gput, gkv]⟩
   ·simp only [RT, FS, ↓RE, okR, argEnv, Nat.reduceAdd, Nat.reduceSub, Nat.reduceLT, Nat.reduceLeDiff, Nat.reduceEqDiff, reduceIte, RM, k26, k28, z0, z1, z2, z3, z4, z5, z6, z7, z8, z9, z10, z11, z12, z13, z14, hv6, u2]
    have hx := hext2 6 7 (by simp [hv6]) (by simp [hv11])
    exact ⟨7, by simp at hok ⊢; simp [hok], by simp [hx, z6, z9, z11, z13, hv6, hv11, Sx.hset, gput, gkv]⟩
  ·simp only [List.getElem?_toArray, List.getElem?_cons_succ, List.getElem?_cons_zero, Option.some.injEq] at ho
   subst ho
   have k26 := hsl.new 6 _ 26 rfl (hr 6 (by decide)) rfl
   refine ⟨rfl, ?_⟩
   simp only [RT, FS, ↓RE, okR, argEnv, Nat.reduceAdd, Nat.reduceSub, Nat.reduceLT, Nat.reduceLeDiff, Nat.reduceEqDiff, reduceIte, RM, k26, z0, z1, z2, z3, z4, z5, z6, z7, z8, z9, z10, z11, z12, z13, z14]
   exact ⟨m, by simpa using hok, by simp⟩
  ·simp only [List.getElem?_toArray, List.getElem?_cons_succ, List.getElem?_cons_zero, Option.some.injEq] at ho
   subst ho
   refine ⟨rfl, ?_⟩
   have h13 : ¬ L 13 := fun h => hnr (hcl 13 11 h (by decide))
   have hm0 : m = 0 ∨ m = 1 ∨ m = 2 := by rcases hok with ⟨rfl, hok⟩ | ⟨rfl, hok⟩ | ⟨rfl, hok⟩ | ⟨rfl, hok⟩ | ⟨rfl, hok⟩ | ⟨rfl, hok⟩ | ⟨rfl, hok⟩ | ⟨rfl, hok⟩ | ⟨rfl, hok⟩ | ⟨rfl, hok⟩ <;> (obtain ⟨a6, a9, a11, a13⟩ := hok) <;> first | contradiction | simp
   obtain rfl | rfl | rfl := hm0
   ·simp only [RT, FS, ↓RE, okR, argEnv, Nat.reduceAdd, Nat.reduceSub, Nat.reduceLT, Nat.reduceLeDiff, Nat.reduceEqDiff, reduceIte, RM, z0, z1, z2, z3, z4, z5, z6, z7, z8, z9, z10, z11, z12, z13, z14]
    have hx := hext 0 3 L (fun h => by simp [h] at hok) (fun h => by have := hcl 10 6 h (by decide); simp [this] at hok) hnr (fun h => hnr (hcl 12 11 h (by decide)))
    exact ⟨3, by simp at hok ⊢; simp [hok], by refine ⟨hx, ?_⟩; simp [z11, hv11]⟩
   ·simp only [RT, FS, ↓RE, okR, argEnv, Nat.reduceAdd, Nat.reduceSub, Nat.reduceLT, Nat.reduceLeDiff, Nat.reduceEqDiff, reduceIte, RM, z0, z1, z2, z3, z4, z5, z6, z7, z8, z9, z10, z11, z12, z13, z14]
    have hx := hext2 1 4 (by simp [hv6]) (by simp [hv11])
    exact ⟨4, by simp at hok ⊢; simp [hok], by simp [hx, z6, z9, z11, z13, hv6, hv11, Sx.hset, gput, gkv]⟩
   ·simp only [RT, FS, ↓RE, okR, argEnv, Nat.reduceAdd, Nat.reduceSub, Nat.reduceLT, Nat.reduceLeDiff, Nat.reduceEqDiff, reduceIte, RM, z0, z1, z2, z3, z4, z5, z6, z7, z8, z9, z10, z11, z12, z13, z14]
    have hx := hext2 2 5 (by simp [hv6]) (by simp [hv11])
    exact ⟨5, by simp at hok ⊢; simp [hok], by simp [hx, z6, z9, z11, z13, hv6, hv11, Sx.hset, gput, gkv]⟩
  ·simp only [List.getElem?_toArray, List.getElem?_cons_succ, List.getElem?_cons_zero, Option.some.injEq] at ho
   subst ho
   have k23 := hsl.new 3 _ 23 rfl (hr 3 (by decide)) rfl
   have k25 := hsl.new 5 _ 25 rfl (hr 5 (by decide)) rfl
   have k29 := hsl.new 10 _ 29 rfl (hr 10 (by decide)) rfl
   have k30 := hsl.new 11 _ 30 rfl (hr 11 (by decide)) rfl
   refine ⟨rfl, ?_⟩
   simp only [RT, FS, ↓RE, okR, argEnv, Nat.reduceAdd, Nat.reduceSub, Nat.reduceLT, Nat.reduceLeDiff, Nat.reduceEqDiff, reduceIte, RM, k23, k25, k29, k30, z0, z1, z2, z3, z4, z5, z6, z7, z8, z9, z10, z11, z12, z13, z14]
   exact ⟨m, by simpa using hok, by simp⟩
  ·simp only [List.getElem?_toArray, List.getElem?_cons_succ, List.getElem?_cons_zero, Option.some.injEq] at ho
   subst ho
   have k31 := hsl.new 12 _ 31 rfl (hr 12 (by decide)) rfl
   refine ⟨rfl, ?_⟩
   have h12 : L 12 := hr 12 (by decide)
   have h11 : L 11 := hcl 12 11 h12 (by decide)
   have h9 : L 9 := hcl 12 9 h12 (by decide)
   have h6 : L 6 := hcl 12 6 h12 (by decide)
   have hm0 : m = 5 ∨ m = 7 := by rcases hok with ⟨rfl, hok⟩ | ⟨rfl, hok⟩ | ⟨rfl, hok⟩ | ⟨rfl, hok⟩ | ⟨rfl, hok⟩ | ⟨rfl, hok⟩ | ⟨rfl, hok⟩ | ⟨rfl, hok⟩ | ⟨rfl, hok⟩ | ⟨rfl, hok⟩ <;> (obtain ⟨a6, a9, a11, a13⟩ := hok) <;> first | contradiction | simp
   obtain rfl | rfl := hm0
   ·simp only [RT, FS, ↓RE, okR, argEnv, Nat.reduceAdd, Nat.reduceSub, Nat.reduceLT, Nat.reduceLeDiff, Nat.reduceEqDiff, reduceIte, RM, k31, z0, z1, z2, z3, z4, z5, z6, z7, z8, z9, z10, z11, z12, z13, z14, hv6, hv11]
    have hx := hext2 5 8 (by simp [hv6]) (by simp [hv11])
    exact ⟨8, by simp at hok ⊢; simp [hok], by simp [hx, z6, z9, z11, z13, hv6, hv11, Sx.hset, gput, gkv]⟩
   ·simp only [RT, FS, ↓RE, okR, argEnv, Nat.reduceAdd, Nat.reduceSub, Nat.reduceLT, Nat.reduceLeDiff, Nat.reduceEqDiff, reduceIte, RM, k31, z0, z1, z2, z3, z4, z5, z6, z7, z8, z9, z10, z11, z12, z13, z14, hv6, hv11]
    have hx := hext2 7 9 (by simp [hv6]) (by simp [hv11])
    exact ⟨9, by simp at hok ⊢; simp [hok], by simp [hx, z6, z9, z11, z13, hv6, hv11, Sx.hset, gput, gkv]⟩
  ·simp only [List.getElem?_toArray, List.getElem?_cons_succ, List.getElem?_cons_zero, Option.some.injEq] at ho
   subst ho
   have k32 := hsl.new 13 _ 32 rfl (hr 13 (by decide)) rfl
   refine ⟨rfl, ?_⟩
   simp only [RT, FS, ↓RE, okR, argEnv, Nat.reduceAdd, Nat.reduceSub, Nat.reduceLT, Nat.reduceLeDiff, Nat.reduceEqDiff, reduceIte, RM, k32, z0, z1, z2, z3, z4, z5, z6, z7, z8, z9, z10, z11, z12, z13, z14]
   exact ⟨m, by simpa using hok, by simp⟩
 ·intro m L e hok hall hsl
  have h13 := hall 13 (by decide)
  have k10 := hsl.new 14 _ 10 rfl (hall 14 (by decide)) rfl
  have k2 := hsl.base 2 rfl
  have hm0 : m = 8 ∨ m = 9 := by rcases hok with ⟨rfl, hok⟩ | ⟨rfl, hok⟩ | ⟨rfl, hok⟩ | ⟨rfl, hok⟩ | ⟨rfl, hok⟩ | ⟨rfl, hok⟩ | ⟨rfl, hok⟩ | ⟨rfl, hok⟩ | ⟨rfl, hok⟩ | ⟨rfl, hok⟩ <;> (obtain ⟨a6, a9, a11, a13⟩ := hok) <;> first | contradiction | simp
  simp only [thenQ]
  obtain rfl | rfl := hm0
  ·refine (Imp.weak (weak_of (e := [(2, .int .i64 now), (10, .ptr 3 0)]) (h := [(3, .box [.ref FC 0, .int .i64 mi, .mp 1, .mp 2]), (2, .map []), (1, .map (bkv (gput [] cell true)))]) (nid := 5) (n := 87) ?_)).trans
    (imp_move 3 4 (bi := .box [.ref FC 0, .int .i64 mi, .mp 1, .mp 2]) (by omega) rfl rfl (by omega) (by omega) ?_ ?_ ?_)
   ·simp [headW, heapW, envW, blkLt, D.ltL, D.lt, look, hget, k10, k2, z14, bkv_lt]
   ·simp [okMB, okM, D.lt, bkv, gkv, gput]
   ·simp [okM, D.lt]
   refine imp_move 2 3 (bi := .map []) (by omega) rfl rfl (by omega) (by omega) ?_ ?_ ?_
   ·simp [okMB, okM, D.lt, bkv, gkv, gput, mvH, mvB, mvD]
   ·simp [okM, D.lt, mvD]
   refine imp_move 1 2 (bi := .map (bkv (gput [] cell true))) (by omega) rfl rfl (by omega) (by omega) ?_ ?_ (.weak (weak_of ?_))
   ·simp [okMB, okM, D.lt, bkv, gkv, gput, mvH, mvB, mvD]
   ·simp [okM, D.lt, mvD]
   ·simp [headW, heapW, envW, blkLt, D.ltL, D.lt, look, hget, bkv_lt, mvH, mvB, mvD, plcH, bkv_nil]
  ·refine (Imp.weak (weak_of (e := [(2, .int .i64 now), (10, .ptr 3 0)]) (h := [(3, .box [.ref FC 0, .int .i64 mi, .mp 2, .mp 1]), (2, .map (bkv (gput [] cell true))), (1, .map [])]) (nid := 5) (n := 87) ?_)).trans
    (imp_move 3 4 (bi := .box [.ref FC 0, .int .i64 mi, .mp 2, .mp 1]) (by omega) rfl rfl (by omega) (by omega) ?_ ?_ ?_)
   ·simp [headW, heapW, envW, blkLt, D.ltL, D.lt, look, hget, k10, k2, z14, bkv_lt]
   ·simp [okMB, okM, D.lt, bkv, gkv, gput]
   ·simp [okM, D.lt]
   refine imp_move 1 3 (bi := .map []) (by omega) rfl rfl (by omega) (by omega) ?_ ?_ (.weak (weak_of ?_))
   ·simp [okMB, okM, D.lt, bkv, gkv, gput, mvH, mvB, mvD]
   ·simp [okM, D.lt, mvD]
   ·simp [headW, heapW, envW, blkLt, D.ltL, D.lt, look, hget, bkv_lt, mvH, mvB, mvD, plcH, bkv_nil]
 refine awp_peel (T := [(14, [(12, false, false, [])]), (16, [(13, false, false, [])])]) oNone_ok (by kernel_rfl) (by kernel_rfl) ?_
 simp only [RT, FS, ↓RE, okR, argEnv, Nat.reduceAdd, Nat.reduceSub, Nat.reduceLT, Nat.reduceLeDiff, Nat.reduceEqDiff, reduceIte, RM]
 refine call_of_acall ((hsay mi (gput [] cell true) []).mono ?_)
 rintro r h' nid' ⟨rfl, rfl, rfl⟩
 simp only [RT, FS, ↓RE, okR, argEnv, Nat.reduceAdd, Nat.reduceSub, Nat.reduceLT, Nat.reduceLeDiff, Nat.reduceEqDiff, reduceIte, RM]
 refine awp_peel (T := [(14, [(12, false, false, [])]), (16, [(13, false, false, [])])]) oNone_ok (by kernel_rfl) (by kernel_rfl) ?_
 simp only [RT, FS, ↓RE, okR, argEnv, Nat.reduceAdd, Nat.reduceSub, Nat.reduceLT, Nat.reduceLeDiff, Nat.reduceEqDiff, reduceIte, RM]
 refine call_of_acall ((htid mi _ _).mono ?_)
 rintro r h' nid' ⟨rfl, rfl, rfl⟩
 simp only [RT, FS, ↓RE, okR, argEnv, Nat.reduceAdd, Nat.reduceSub, Nat.reduceLT, Nat.reduceLeDiff, Nat.reduceEqDiff, reduceIte, RM]
 generalize tidyM sh.length (keepM (fun c => saidB (knownL l now) mi c false) sh.length (gput [] cell true)) = fl0 at *
 generalize tidyM sh.length (keepM (fun c => saidB (knownL l now) mi c true) sh.length []) = dn0 at *
 refine awp_seq (awp_block (awp_loopI (ι := Nat × MpB × MpB) (fun s => ⟨[(2, .int .i64 now), (10, .ptr 4 0)], plcH FC (mi + (s.1 : Int)) s.2.1 s.2.2, 5, 87⟩)
  (fun s => PO s.1 s.2.1 s.2.2 ∧ mi + (s.1 : Int) ≤ now) (fun s => (now - mi).toNat - s.1) (0, fl0, dn0) ⟨hpl0, by simp only; omega⟩ ?_ ?_))
 ·refine .weak (weak_of ?_)
  simp [headW, heapW, envW, blkLt, D.ltL, D.lt, look, hget, bkv_lt, plcH]
 rintro ⟨n, fl, dn⟩ ⟨hpo, hle⟩
 dsimp only at hpo hle ⊢
 cases hlt : decide (mi + (n : Int) < now)
 ·have hlt2 : ¬ (mi + (n : Int) < now) := by simpa using hlt
  unfold plcH
  refine awp_peel (T := [(14, [(12, false, false, [])]), (16, [(13, false, false, [])])]) oNone_ok (by kernel_rfl) (by kernel_rfl) ?_
  simp only [RT, FS, ↓RE, okR, argEnv, Nat.reduceAdd, Nat.reduceSub, Nat.reduceLT, Nat.reduceLeDiff, Nat.reduceEqDiff, reduceIte, RM, hlt]
  have hnn : (now - mi).toNat = n := by omega
  rw [hnn]
  rw [← hPO] at hpo
  have sl := hpo.f.len
  have sd2 := hpo.d.len
  have ef : cellsL fl = cellsF sh.length (plF ⟨⟨sw, sd, sh⟩, ⟨rl, lk⟩, cell, mi, ev, en, af⟩ (knownL l now) now n).1 := by rw [cellsL_eq hpo.f]; exact cellsF_congr fun c _ _ => hpo.ef c
  have ed : cellsL dn = cellsF sh.length (plF ⟨⟨sw, sd, sh⟩, ⟨rl, lk⟩, cell, mi, ev, en, af⟩ (knownL l now) now n).2 := by rw [cellsL_eq hpo.d]; exact cellsF_congr fun c _ _ => hpo.ed c
  have lf := hpo.tf.len hpo.f.nd
  have ld := hpo.td.len hpo.d.nd
  have pc1 := cells_t (N := sh.length) (by omega) hpo.f
  have pc2 := cells_t (N := sh.length) (by omega) hpo.d
  rw [← ef, ← ed, lf, ld]
  dsimp only at sl sd2
  have lm1 := fun h (hb : hget h 2 = some (.map (bkv fl))) => bm_len hb
  have lm2 := fun h (hb : hget h 3 = some (.map (bkv dn))) => bm_len hb
  have hws := wrap_i64 (z := (fl.length : Int) + (dn.length : Int)) (by omega) (by omega)
  by_cases hz : fl.length + dn.length = 0
  ·have hq9 : (((fl.length : Int) + (dn.length : Int)) == 0) = true := by simp; omega
   rw [if_pos hz]
   refine awp_peel (T := [(14, [(12, false, false, [])]), (16, [(13, false, false, [])])]) oNone_ok (by kernel_rfl) (by kernel_rfl) ?_
   simp only [RT, FS, ↓RE, okR, argEnv, Nat.reduceAdd, Nat.reduceSub, Nat.reduceLT, Nat.reduceLeDiff, Nat.reduceEqDiff, reduceIte, RM, lm1, lm2, hws, hq9]
   all_goals rfl
  ·have hq9 : (((fl.length : Int) + (dn.length : Int)) == 0) = false := by simp; omega
   rw [if_neg hz]
   refine awp_peel (T := [(14, [(12, false, false, [])]), (16, [(13, false, false, [])])]) oNone_ok (by kernel_rfl) (by kernel_rfl) ?_
   simp only [RT, FS, ↓RE, okR, argEnv, Nat.reduceAdd, Nat.reduceSub, Nat.reduceLT, Nat.reduceLeDiff, Nat.reduceEqDiff, reduceIte, RM, lm1, lm2, hws, hq9]
   refine awp_imp (imp_thaw 2 (imp_thaw 3 (.weak (weak_of (e := [(10, .ptr 4 0)]) (h := [(4, .box [.ref FC 0, .int .i64 (mi + (n : Int)), .mpd (bkv fl), .mpd (bkv dn)])]) (nid := 5) (n := 87) ?_)))) ?_
   ·simp [headW, heapW, envW, blkLt, D.ltL, D.lt, look, hget, frzHH, frzBlk, herase, fz_int, fz_ref, fz_ptr, fz_bool, fz_mp, fz_mpd, fzM_some, fzM_map, fzP_some, bkv_lt]
   refine awp_rest (T := [(14, [(12, false, false, [])]), (16, [(13, false, false, [])])]) oNone_ok (by kernel_rfl) (by kernel_rfl) ?_
   simp only [RT, FS, ↓RE, okR, argEnv, Nat.reduceAdd, Nat.reduceSub, Nat.reduceLT, Nat.reduceLeDiff, Nat.reduceEqDiff, reduceIte, RM]
   refine call_of_free pc1 (by simp [D.frL, D.fr]) (by simp [D.fr]) ?_
   simp only [RT, FS, ↓RE, okR, argEnv, Nat.reduceAdd, Nat.reduceSub, Nat.reduceLT, Nat.reduceLeDiff, Nat.reduceEqDiff, reduceIte, RM]
   refine call_of_free pc2 (by simp [D.frL, D.fr]) (by simp [D.fr]) ?_
   simp only [RT, FS, ↓RE, okR, argEnv, Nat.reduceAdd, Nat.reduceSub, Nat.reduceLT, Nat.reduceLeDiff, Nat.reduceEqDiff, reduceIte, RM]
 ·have hlt2 : (mi + (n : Int) < now) := by simpa using hlt
  unfold plcH
  refine awp_peel (T := [(14, [(12, false, false, [])]), (16, [(13, false, false, [])])]) oNone_ok (by kernel_rfl) (by kernel_rfl) ?_
  simp only [RT, FS, ↓RE, okR, argEnv, Nat.reduceAdd, Nat.reduceSub, Nat.reduceLT, Nat.reduceLeDiff, Nat.reduceEqDiff, reduceIte, RM, hlt]
  refine awp_block ?_
  refine awp_peel (T := [(14, [(12, false, false, [])]), (16, [(13, false, false, [])])]) oNone_ok (by kernel_rfl) (by kernel_rfl) ?_
  have hw1 := wrap_i64 (z := mi + (n : Int) + 1) (by omega) (by omega)
  simp only [RT, FS, ↓RE, okR, argEnv, Nat.reduceAdd, Nat.reduceSub, Nat.reduceLT, Nat.reduceLeDiff, Nat.reduceEqDiff, reduceIte, RM, hw1]
  refine awp_peel (T := [(14, [(12, false, false, [])]), (16, [(13, false, false, [])])]) oNone_ok (by kernel_rfl) (by kernel_rfl) ?_
  simp only [RT, FS, ↓RE, okR, argEnv, Nat.reduceAdd, Nat.reduceSub, Nat.reduceLT, Nat.reduceLeDiff, Nat.reduceEqDiff, reduceIte, RM]
  obtain ⟨t, ht⟩ : ∃ t, t = mi + (n : Int) + 1 := ⟨_, rfl⟩
  rw [← ht]
  have htb : 0 ≤ t ∧ t ≤ 1440 := by omega
  have hmv := hmove t htb fl dn (by rw [← hPO] at hpo; exact hpo.f) (by rw [← hPO] at hpo; exact hpo.d)
  have hend := fun m h1 h2 => hplS n fl dn m hpo h1 h2 t (by omega)
  obtain ⟨F1, hF1⟩ : ∃ F1, (if en < t - mi then [] else aroundM ⟨sw, sd, sh⟩ fl) = F1 := ⟨_, rfl⟩
  rw [hF1] at hmv hend
  have hsa := fun d => hsay t F1 d
  obtain ⟨F2, hF2⟩ : ∃ F2, keepM (fun c => saidB (knownL l now) t c false) sh.length F1 = F2 := ⟨_, rfl⟩
  rw [hF2] at hend
  have hhe := fun d => hhear t htb F2 d
  obtain ⟨F3, hF3⟩ : ∃ F3, keepM (fun c => !(silentB ⟨⟨sw, sd, sh⟩, ⟨rl, lk⟩, cell, mi, ev, en, af⟩ (knownL l now) now t c)) sh.length F2 = F3 := ⟨_, rfl⟩
  rw [hF3] at hend
  simp only [hF2] at hsa
  simp only [hF3] at hhe
  have hti := fun d => htid t F3 d
  obtain ⟨KD, hKD⟩ : ∃ KD, KD = fun m => keepM (fun c => saidB (knownL l now) t c true) sh.length m := ⟨_, rfl⟩
  have hKDe : ∀ m, keepM (fun c => saidB (knownL l now) t c true) sh.length m = KD m := fun m => by rw [hKD]
  simp only [hKDe] at hsa hend
  clear hsay hhear htid hmove
  refine awp_block (awp_loopI (ι := Nat × MpB × MpB) (fun s => ⟨[(2, .int .i64 now), (10, .ptr 4 0), (58, .agg [.fn (.func 29) [.ptr 4 0] [], .fn (.func 27) [.ptr 4 0] [], .fn (.func 30) [.ptr 4 0] [], .fn (.func 28) [.ptr 4 0] []]), (59, .int .i64 (s.1 : Int))], plcH FC t s.2.1 s.2.2, 5, 87⟩)
   (fun s => s = (0, fl, dn) ∨ ∃ m, gnd m ∧ (∀ a, gget m a = (gget fl a).or (gget dn a)) ∧ (s = (1, F1, m) ∨ s = (2, F2, KD m) ∨ s = (3, F3, KD m) ∨ s = (4, tidyM sh.length F3, tidyM sh.length (KD m)))) (fun s => 4 - s.1) (0, fl, dn) (.inl rfl) ?_ ?_)
  ·refine .weak (weak_of ?_)
   simp [headW, heapW, envW, blkLt, D.ltL, D.lt, look, hget, bkv_lt, plcH]
  have hv1 : IntKind.i64.wrap (0 + 1) = 1 := by decide
  have hv2 : IntKind.i64.wrap (1 + 1) = 2 := by decide
  have hv3 : IntKind.i64.wrap (2 + 1) = 3 := by decide
  have hv4 : IntKind.i64.wrap (3 + 1) = 4 := by decide
  have hd0 : decide ((0 : Int) < 4) = true := by decide
  have hd1 : decide ((1 : Int) < 4) = true := by decide
  have hd2 : decide ((2 : Int) < 4) = true := by decide
  have hd3 : decide ((3 : Int) < 4) = true := by decide
  have hd4 : decide ((4 : Int) < 4) = false := by decide
  rintro s (rfl | ⟨m, hm1, hm2, (rfl | rfl | rfl | rfl)⟩)
  ·simp only [show ((0 : Nat) : Int) = 0 from rfl]
   refine awp_peel (T := [(14, [(12, false, false, [])]), (16, [(13, false, false, [])])]) oNone_ok (by kernel_rfl) (by kernel_rfl) ?_
   simp only [RT, FS, ↓RE, okR, argEnv, Nat.reduceAdd, Nat.reduceSub, Nat.reduceLT, Nat.reduceLeDiff, Nat.reduceEqDiff, reduceIte, RM, hd0]
   refine awp_peel (T := [(14, [(12, false, false, [])]), (16, [(13, false, false, [])])]) oNone_ok (by kernel_rfl) (by kernel_rfl) ?_
   simp only [RT, FS, ↓RE, okR, argEnv, Nat.reduceAdd, Nat.reduceSub, Nat.reduceLT, Nat.reduceLeDiff, Nat.reduceEqDiff, reduceIte, RM]
   refine awp_seq (awp_block ?_)
   refine awp_peel (T := [(14, [(12, false, false, [])]), (16, [(13, false, false, [])])]) oNone_ok (by kernel_rfl) (by kernel_rfl) ?_
   simp only [RT, FS, ↓RE, okR, argEnv, Nat.reduceAdd, Nat.reduceSub, Nat.reduceLT, Nat.reduceLeDiff, Nat.reduceEqDiff, reduceIte, RM]
   refine awp_rest (T := [(14, [(12, false, false, [])]), (16, [(13, false, false, [])])]) oNone_ok (by kernel_rfl) (by kernel_rfl) ?_
   simp only [RT, FS, ↓RE, okR, argEnv, Nat.reduceAdd, Nat.reduceSub, Nat.reduceLT, Nat.reduceLeDiff, Nat.reduceEqDiff, reduceIte, RM]
   refine call_of_acall (hmv.mono ?_)
   rintro r h' nid' ⟨rfl, rfl, m, hm1, hm2, g4, g5, g6⟩
   simp only [RT, FS, ↓RE, okR, argEnv, Nat.reduceAdd, Nat.reduceSub, Nat.reduceLT, Nat.reduceLeDiff, Nat.reduceEqDiff, reduceIte, RM]
   refine awp_rest (T := [(14, [(12, false, false, [])]), (16, [(13, false, false, [])])]) oNone_ok (by kernel_rfl) (by kernel_rfl) ?_
   simp only [RT, FS, ↓RE, okR, argEnv, Nat.reduceAdd, Nat.reduceSub, Nat.reduceLT, Nat.reduceLeDiff, Nat.reduceEqDiff, reduceIte, RM, hv1]
   refine ⟨(1, F1, m), .inr ⟨m, hm1, hm2, .inl rfl⟩, by simp, ?_⟩
   refine (Imp.weak (weak_of (e := [(2, .int .i64 now), (10, .ptr 4 0), (58, .agg [.fn (.func 29) [.ptr 4 0] [], .fn (.func 27) [.ptr 4 0] [], .fn (.func 30) [.ptr 4 0] [], .fn (.func 28) [.ptr 4 0] []]), (59, .int .i64 1)]) (h := [(6, .map (bkv F1)), (5, .map (bkv m)), (4, .box [.ref FC 0, .int .i64 t, .mp 6, .mp 5])]) (nid := 7) (n := 87) ?_)).trans
    (imp_move' 6 2 (bi := .map (bkv F1)) (by omega) rfl rfl (by omega) (by omega) ?_ ?_ ?_)
   ·simp [headW, heapW, envW, blkLt, D.ltL, D.lt, look, g4, g5, g6, bkv_lt]
   ·simp [okMB', okM, D.lt, bkv, gkv, D.noI, D.noIL]
   ·simp [okM, D.lt, D.noI, D.noIL]
   refine imp_move' 5 3 (bi := .map (bkv m)) (by omega) rfl rfl (by omega) (by omega) ?_ ?_ (.weak (weak_of ?_))
   ·simp [okMB', okM, D.lt, bkv, gkv, mvH, mvB, mvD, D.noI, D.noIL]
   ·simp [okM, D.lt, mvD, D.noI, D.noIL]
   ·simp [headW, heapW, envW, blkLt, D.ltL, D.lt, look, hget, bkv_lt, mvH, mvB, mvD, plcH]
  ·simp only [show ((1 : Nat) : Int) = 1 from rfl]
   refine awp_peel (T := [(14, [(12, false, false, [])]), (16, [(13, false, false, [])])]) oNone_ok (by kernel_rfl) (by kernel_rfl) ?_
   simp only [RT, FS, ↓RE, okR, argEnv, Nat.reduceAdd, Nat.reduceSub, Nat.reduceLT, Nat.reduceLeDiff, Nat.reduceEqDiff, reduceIte, RM, hd1]
   refine awp_peel (T := [(14, [(12, false, false, [])]), (16, [(13, false, false, [])])]) oNone_ok (by kernel_rfl) (by kernel_rfl) ?_
   simp only [RT, FS, ↓RE, okR, argEnv, Nat.reduceAdd, Nat.reduceSub, Nat.reduceLT, Nat.reduceLeDiff, Nat.reduceEqDiff, reduceIte, RM]
   refine awp_seq (awp_block ?_)
   refine awp_peel (T := [(14, [(12, false, false, [])]), (16, [(13, false, false, [])])]) oNone_ok (by kernel_rfl) (by kernel_rfl) ?_
   simp only [RT, FS, ↓RE, okR, argEnv, Nat.reduceAdd, Nat.reduceSub, Nat.reduceLT, Nat.reduceLeDiff, Nat.reduceEqDiff, reduceIte, RM]
   refine awp_rest (T := [(14, [(12, false, false, [])]), (16, [(13, false, false, [])])]) oNone_ok (by kernel_rfl) (by kernel_rfl) ?_
   simp only [RT, FS, ↓RE, okR, argEnv, Nat.reduceAdd, Nat.reduceSub, Nat.reduceLT, Nat.reduceLeDiff, Nat.reduceEqDiff, reduceIte, RM]
   refine call_of_acall ((hsa m).mono ?_)
   rintro r h' nid' ⟨rfl, rfl, rfl⟩
   simp only [RT, FS, ↓RE, okR, argEnv, Nat.reduceAdd, Nat.reduceSub, Nat.reduceLT, Nat.reduceLeDiff, Nat.reduceEqDiff, reduceIte, RM]
   refine awp_rest (T := [(14, [(12, false, false, [])]), (16, [(13, false, false, [])])]) oNone_ok (by kernel_rfl) (by kernel_rfl) ?_
   simp only [RT, FS, ↓RE, okR, argEnv, Nat.reduceAdd, Nat.reduceSub, Nat.reduceLT, Nat.reduceLeDiff, Nat.reduceEqDiff, reduceIte, RM, hv2]
   refine ⟨(2, F2, KD m), .inr ⟨m, hm1, hm2, .inr (.inl rfl)⟩, by simp, .weak (weak_of ?_)⟩
   simp [headW, heapW, envW, blkLt, D.ltL, D.lt, look, hget, bkv_lt, plcH]
  ·simp only [show ((2 : Nat) : Int) = 2 from rfl]
   refine awp_peel (T := [(14, [(12, false, false, [])]), (16, [(13, false, false, [])])]) oNone_ok (by kernel_rfl) (by kernel_rfl) ?_
   simp only [RT, FS, ↓RE, okR, argEnv, Nat.reduceAdd, Nat.reduceSub, Nat.reduceLT, Nat.reduceLeDiff, Nat.reduceEqDiff, reduceIte, RM, hd2]
   refine awp_peel (T := [(14, [(12, false, false, [])]), (16, [(13, false, false, [])])]) oNone_ok (by kernel_rfl) (by kernel_rfl) ?_
   simp only [RT, FS, ↓RE, okR, argEnv, Nat.reduceAdd, Nat.reduceSub, Nat.reduceLT, Nat.reduceLeDiff, Nat.reduceEqDiff, reduceIte, RM]
   refine awp_seq (awp_block ?_)
   refine awp_peel (T := [(14, [(12, false, false, [])]), (16, [(13, false, false, [])])]) oNone_ok (by kernel_rfl) (by kernel_rfl) ?_
   simp only [RT, FS, ↓RE, okR, argEnv, Nat.reduceAdd, Nat.reduceSub, Nat.reduceLT, Nat.reduceLeDiff, Nat.reduceEqDiff, reduceIte, RM]
   refine awp_rest (T := [(14, [(12, false, false, [])]), (16, [(13, false, false, [])])]) oNone_ok (by kernel_rfl) (by kernel_rfl) ?_
   simp only [RT, FS, ↓RE, okR, argEnv, Nat.reduceAdd, Nat.reduceSub, Nat.reduceLT, Nat.reduceLeDiff, Nat.reduceEqDiff, reduceIte, RM]
   refine call_of_acall ((hhe (KD m)).mono ?_)
   rintro r h' nid' ⟨rfl, rfl, rfl⟩
   simp only [RT, FS, ↓RE, okR, argEnv, Nat.reduceAdd, Nat.reduceSub, Nat.reduceLT, Nat.reduceLeDiff, Nat.reduceEqDiff, reduceIte, RM]
   refine awp_rest (T := [(14, [(12, false, false, [])]), (16, [(13, false, false, [])])]) oNone_ok (by kernel_rfl) (by kernel_rfl) ?_
   simp only [RT, FS, ↓RE, okR, argEnv, Nat.reduceAdd, Nat.reduceSub, Nat.reduceLT, Nat.reduceLeDiff, Nat.reduceEqDiff, reduceIte, RM, hv3]
   refine ⟨(3, F3, KD m), .inr ⟨m, hm1, hm2, .inr (.inr (.inl rfl))⟩, by simp, .weak (weak_of ?_)⟩
   simp [headW, heapW, envW, blkLt, D.ltL, D.lt, look, hget, bkv_lt, plcH]
  ·simp only [show ((3 : Nat) : Int) = 3 from rfl]
   refine awp_peel (T := [(14, [(12, false, false, [])]), (16, [(13, false, false, [])])]) oNone_ok (by kernel_rfl) (by kernel_rfl) ?_
   simp only [RT, FS, ↓RE, okR, argEnv, Nat.reduceAdd, Nat.reduceSub, Nat.reduceLT, Nat.reduceLeDiff, Nat.reduceEqDiff, reduceIte, RM, hd3]
   refine awp_peel (T := [(14, [(12, false, false, [])]), (16, [(13, false, false, [])])]) oNone_ok (by kernel_rfl) (by kernel_rfl) ?_
   simp only [RT, FS, ↓RE, okR, argEnv, Nat.reduceAdd, Nat.reduceSub, Nat.reduceLT, Nat.reduceLeDiff, Nat.reduceEqDiff, reduceIte, RM]
   refine awp_seq (awp_block ?_)
   refine awp_peel (T := [(14, [(12, false, false, [])]), (16, [(13, false, false, [])])]) oNone_ok (by kernel_rfl) (by kernel_rfl) ?_
   simp only [RT, FS, ↓RE, okR, argEnv, Nat.reduceAdd, Nat.reduceSub, Nat.reduceLT, Nat.reduceLeDiff, Nat.reduceEqDiff, reduceIte, RM]
   refine awp_rest (T := [(14, [(12, false, false, [])]), (16, [(13, false, false, [])])]) oNone_ok (by kernel_rfl) (by kernel_rfl) ?_
   simp only [RT, FS, ↓RE, okR, argEnv, Nat.reduceAdd, Nat.reduceSub, Nat.reduceLT, Nat.reduceLeDiff, Nat.reduceEqDiff, reduceIte, RM]
   refine call_of_acall ((hti (KD m)).mono ?_)
   rintro r h' nid' ⟨rfl, rfl, rfl⟩
   simp only [RT, FS, ↓RE, okR, argEnv, Nat.reduceAdd, Nat.reduceSub, Nat.reduceLT, Nat.reduceLeDiff, Nat.reduceEqDiff, reduceIte, RM]
   refine awp_rest (T := [(14, [(12, false, false, [])]), (16, [(13, false, false, [])])]) oNone_ok (by kernel_rfl) (by kernel_rfl) ?_
   simp only [RT, FS, ↓RE, okR, argEnv, Nat.reduceAdd, Nat.reduceSub, Nat.reduceLT, Nat.reduceLeDiff, Nat.reduceEqDiff, reduceIte, RM, hv4]
   refine ⟨(4, tidyM sh.length F3, tidyM sh.length (KD m)), .inr ⟨m, hm1, hm2, .inr (.inr (.inr rfl))⟩, by simp, .weak (weak_of ?_)⟩
   simp [headW, heapW, envW, blkLt, D.ltL, D.lt, look, hget, bkv_lt, plcH]
  ·simp only [show ((4 : Nat) : Int) = 4 from rfl]
   refine awp_peel (T := [(14, [(12, false, false, [])]), (16, [(13, false, false, [])])]) oNone_ok (by kernel_rfl) (by kernel_rfl) ?_
   simp only [RT, FS, ↓RE, okR, argEnv, Nat.reduceAdd, Nat.reduceSub, Nat.reduceLT, Nat.reduceLeDiff, Nat.reduceEqDiff, reduceIte, RM, hd4]
   refine awp_rest (T := [(14, [(12, false, false, [])]), (16, [(13, false, false, [])])]) oNone_ok (by kernel_rfl) (by kernel_rfl) ?_
   simp only [RT, FS, ↓RE, okR, argEnv, Nat.reduceAdd, Nat.reduceSub, Nat.reduceLT, Nat.reduceLeDiff, Nat.reduceEqDiff, reduceIte, RM]
   have e9 : mi + ((n + 1 : Nat) : Int) = t := by omega
   refine ⟨(n + 1, tidyM sh.length F3, tidyM sh.length (KD m)), ⟨hend m hm1 hm2, by simp only; omega⟩, by simp only; omega, .weak (weak_of ?_)⟩
   simp only
   rw [e9]
   simp [headW, heapW, envW, blkLt, D.ltL, D.lt, look, hget, bkv_lt, plcH]
end Go.Sx
