/- Own work: contracts of functions, used in the proof of a law. -/
import Derived.Test.YtljkgnicmlhipaaGreatSxW75v
import Derived.Test.YtljkgnicmlhipaaGreatSxZ33
set_option linter.unusedVariables false
set_option linter.unusedSimpArgs false
namespace Go.Sx
open Go.Proofs
set_option maxRecDepth 10000

def fineB (w : WatchW) (x : List PlW) (i : Nat) : Bool :=
 if i = 0 then decide (nP x 0 = (w.cell, false)) else
 if (nP x (i - 1)).2 || (nP x i).2 then (nP x i).2 && decide ((nP x i).1 = (nP x (i - 1)).1)
 else decide ((i : Int) ≤ w.endu) && (freeB w.s.sh (nP x i).1 && decide (distI w.s.w (nP x i).1 (nP x (i - 1)).1 ≤ 1))
def stepB (w : WatchW) (kn : List MsgW) (now : Int) (x : List PlW) (i : Nat) : Bool :=
 fineB w x i && (saidB kn (w.min + i) (nP x i).1 (nP x i).2 && !(!(nP x i).2 && silentB w kn now (w.min + i) (nP x i).1))
theorem fine_ag {w : WatchW} (hw : WatchOk w) {kn : List MsgW} {now : Int} {x : List PlW} {i : Nat} (hi : i = 0 ∨ freeB w.s.sh (nP x (i - 1)).1 = true) :
  (fineB w x i = true ∧ (!(!(nP x i).2 && silentB w kn now (w.min + i) (nP x i).1)) = true) ↔ ((i = 0 → nP x 0 = (w.cell, false)) ∧ agI w kn now x i = true) := by
 have hu := hw.u
 have hc := hw.c
 by_cases h0 : i = 0
 ·subst h0
  have hd : decide (w.endu < ((0 : Nat) : Int)) = false := by simp; omega
  simp only [fineB, agI, plcB, if_true, decide_true, Bool.true_or, Bool.and_true, sil_eq, hd, Bool.and_false, Bool.or_false, Bool.not_not, forall_const, decide_eq_true_eq]
  constructor
  ·rintro ⟨h1, h2⟩
   rw [h1] at h2 ⊢
   refine ⟨rfl, ?_⟩
   simp only [hc, Bool.true_and] at h2 ⊢
   exact h2
  ·rintro ⟨h1, h2⟩
   rw [h1] at h2 ⊢
   refine ⟨rfl, ?_⟩
   simp only [hc, Bool.true_and] at h2 ⊢
   exact h2
 have hb := hi.resolve_left h0
 have h0d : decide (i = 0) = false := by simp [h0]
 have e0 : (i = 0 → nP x 0 = (w.cell, false)) = True := by simp [h0]
 simp only [fineB, agI, plcB, stpB, if_neg h0, h0d, e0, Bool.false_or, true_and, sil_eq, Bool.and_assoc]
 generalize nP x i = p at *
 generalize nP x (i - 1) = b at *
 obtain ⟨pc, pd⟩ := p
 obtain ⟨bc, bd⟩ := b
 dsimp only at hb ⊢
 generalize hS : (sendsB w (w.min + (i : Int)) && silX w kn now (w.min + (i : Int)) pc) = S at *
 cases pd
 ·cases bd
  ·have e1 : decide ((i : Int) ≤ w.endu) = !(decide (w.endu < (i : Int))) := by
    by_cases h : (i : Int) ≤ w.endu
    ·rw [decide_eq_true h, decide_eq_false (by omega)]; rfl
    ·rw [decide_eq_false h, decide_eq_true (by omega)]; rfl
   have e2 : decide (distI w.s.w pc bc ≤ 1) = !(decide (1 < distI w.s.w pc bc)) := by
    by_cases h : distI w.s.w pc bc ≤ 1
    ·rw [decide_eq_true h, decide_eq_false (by omega)]; rfl
    ·rw [decide_eq_false h, decide_eq_true (by omega)]; rfl
   rw [e1, e2]
   cases decide (w.endu < (i : Int)) <;> cases decide (1 < distI w.s.w pc bc) <;> cases freeB w.s.sh pc <;> cases S <;> simp
  ·simp
 ·by_cases he : pc = bc
  ·subst he
   have : ¬ 1 < distI w.s.w pc pc := by rw [dist_self]; omega
   simp [hb, decide_eq_false this, this]
  ·simp [he]
theorem steps_ag {w : WatchW} (hw : WatchOk w) {kn : List MsgW} {now : Int} (hn : now ≤ 1440) {x : List PlW} {n : Nat} (hx : x.length = n + 1) (hk : ∀ m ∈ kn, w.min ≤ m.t ∧ (m.t - w.min).toNat < n + 1) :
  (List.range x.length).all (stepB w kn now x) = agB w kn now x := by
 rw [Bool.eq_iff_iff, ag_iff hn hx (fun m hm => (hk m hm).2), List.all_eq_true]
 simp only [List.mem_range]
 have hsaid : ∀ i : Nat, (saidB kn (w.min + i) (nP x i).1 (nP x i).2 = true ↔ ∀ m ∈ kn, (m.t - w.min).toNat = i → nP x i = (m.c, m.d)) := fun i => by
  rw [said_iff]
  constructor
  ·intro h m hm e
   exact h m hm (by have := (hk m hm).1; omega)
  ·intro h m hm e
   exact h m hm (by have := (hk m hm).1; omega)
 have hst : ∀ i, stepB w kn now x i = true ↔ (fineB w x i = true ∧ (!(!(nP x i).2 && silentB w kn now (w.min + i) (nP x i).1)) = true) ∧ saidB kn (w.min + i) (nP x i).1 (nP x i).2 = true := fun i => by
  unfold stepB
  rw [Bool.and_eq_true, Bool.and_eq_true]
  exact ⟨fun ⟨a, b, c⟩ => ⟨⟨a, c⟩, b⟩, fun ⟨⟨a, c⟩, b⟩ => ⟨a, b, c⟩⟩
 have hfr : ∀ i, agI w kn now x i = true → freeB w.s.sh (nP x i).1 = true := fun i h => by
  simp only [agI, plcB, Bool.and_eq_true, Bool.not_eq_true', Bool.or_eq_false_iff, Bool.not_eq_false'] at h
  exact h.1.1.1
 constructor
 ·intro h
  have key : ∀ i, i < x.length → (i = 0 → nP x 0 = (w.cell, false)) ∧ agI w kn now x i = true := by
   intro i
   induction i with
   | zero => exact fun hi => (fine_ag hw (.inl rfl)).1 ((hst 0).1 (h 0 hi)).1
   | succ i ih => exact fun hi => (fine_ag hw (.inr (hfr i (ih (by omega)).2))).1 ((hst (i + 1)).1 (h (i + 1) hi)).1
  exact ⟨by omega, (key 0 (by omega)).1 rfl, fun i hi => (key i hi).2, fun m hm hi => (hsaid _).1 ((hst _).1 (h _ hi)).2 m hm rfl⟩
 ·intro h i hi
  refine (hst i).2 ⟨(fine_ag hw ?_).2 ⟨fun _ => h.o, h.a i hi⟩, (hsaid i).2 fun m hm e => ?_⟩
  ·by_cases h0 : i = 0
   ·exact .inl h0
   ·exact .inr (hfr _ (h.a (i - 1) (by omega)))
  ·have := h.k m hm (by omega)
   rw [e] at this
   exact this

theorem pl_eqT (a c : Int) (b d : Bool) : binD Tryz.prog .eql 44 (.agg [.int .i64 a, .bool b]) (.agg [.int .i64 c, .bool d]) = some (.bool (decide ((a, b) = (c, d)))) := by
 have h : binD Tryz.prog .eql 44 (.agg [.int .i64 a, .bool b]) (.agg [.int .i64 c, .bool d]) = some (.bool ((a == c) && ((b == d) && true))) := by kernel_rfl
 rw [h, Bool.and_true]
 congr 2
 rw [Bool.eq_iff_iff]
 simp
def WrongP (ch : List PanicEntry) : Prop := ∃ v t, ch = [{ v := v, recovered := false }] ∧ ∀ R n, Rel R n v (.ifc 90 (.agg [.int .i64 t]))
set_option maxHeartbeats 4000000 in
theorem step_t {w : WatchW} (hw : WatchOk w) (l : List MsgW) (hl : l.length ≤ 60) (now : Int) {x : List PlW} (hx : x.length ≤ 2000) {i : Nat} (hi : i < x.length) (ht : w.min + i ≤ 1440) (hf : i = 0 ∨ freeB w.s.sh (nP x (i - 1)).1 = true) :
  PCall Tryz.prog 46 [.ref (folC w l now) 0, .int .i64 (i : Int), plD x] [] 0 (fun r _ _ => r = .tup [] ∧ stepB w (knownL l now) now x i = true) fun ch _ _ => stepB w (knownL l now) now x i = false ∧ WrongP ch := by
 have hs := hw.s
 have hmi := hw.m
 have hu := hw.u
 have hcell := free_ins (s := w.s) hw.c
 have hfc := hw.c
 have hbl : BL w.s.sh := by have := hs.le; simp only [BL]; omega
 have pSd := fun pc pd => said_t w l (by omega) now (w.min + i) pc pd
 have pSl := fun c (h : InS w.s c) => silent_t hw l (by omega) now (t := w.min + i) h ⟨by omega, ht⟩
 have oF := fun c => gFree_eq (s := w.s) hbl c
 have oD := fun a b (ha : InS w.s a) (hb : InS w.s b) => gDist_eq hs ha hb
 have hfin : ∀ c, freeB w.s.sh c = true → InS w.s c := fun c hp => free_ins (s := w.s) hp
 have hstp : stepB w (knownL l now) now x i = (fineB w x i && (saidB (knownL l now) (w.min + i) (nP x i).1 (nP x i).2 && !(!(nP x i).2 && silentB w (knownL l now) now (w.min + i) (nP x i).1))) := rfl
 have hfine : fineB w x i = if i = 0 then decide (nP x 0 = (w.cell, false)) else if (nP x (i - 1)).2 || (nP x i).2 then (nP x i).2 && decide ((nP x i).1 = (nP x (i - 1)).1) else decide ((i : Int) ≤ w.endu) && (freeB w.s.sh (nP x i).1 && decide (distI w.s.w (nP x i).1 (nP x (i - 1)).1 ≤ 1)) := rfl
 have hfree : fineB w x i = true → freeB w.s.sh (nP x i).1 = true := fun h => by
  rw [hfine] at h
  by_cases h0 : i = 0
  ·rw [if_pos h0] at h
   subst h0
   rw [of_decide_eq_true h]; exact hfc
  ·rw [if_neg h0] at h
   have hb := hf.resolve_left h0
   split at h
   ·simp only [Bool.and_eq_true, decide_eq_true_eq] at h
    rw [h.2]; exact hb
   ·simp only [Bool.and_eq_true] at h
    exact h.2.1
 have ixP := fun i (hi : i < x.length) h => plD_ix hi h
 have ixi := ixP i hi
 obtain ⟨FB, hFB⟩ : ∃ FB, FB = fineB w x i := ⟨_, rfl⟩
 rw [← hFB] at hstp hfine hfree
 clear hFB
 generalize stepB w (knownL l now) now x i = SB at *
 unfold folC at *
 generalize knownL l now = kn at *
 have pSd := pSd (nP x i).1 (nP x i).2
 have pSl := fun h => pSl (nP x i).1 (hfin _ (hfree h))
 generalize saidB kn (w.min + i) (nP x i).1 (nP x i).2 = SD at *
 generalize silentB w kn now (w.min + i) (nP x i).1 = SL at *
 clear hw hfc hfree
 obtain ⟨⟨sw, sd, sh⟩, ⟨rl, lk⟩, cell, mi, ev, en, af⟩ := w
 dsimp only at *
 simp only [WatchW.c, SkyW.c, NetW.c, List.cons_append, List.nil_append] at pSd pSl oF oD ⊢
 have wm := wrap_i64 (z := mi + (i : Int)) (by omega) (by omega)
 obtain ⟨p, hp⟩ : ∃ p, nP x i = p := ⟨_, rfl⟩
 rw [hp] at hfine hstp ixi pSd
 simp only [hp] at pSl
 obtain ⟨pc, pd⟩ := p
 dsimp only at hfine hstp ixi pSd pSl
 refine pcall_of_pieces (rs := []) (m := 111) Tryz.func46 rfl (by kernel_rfl) rfl rfl ?_
 refine awt_peel (T := [(0, [(13, false, true, [(10, 1), (9, 1), (7, 1), (7, 0), (6, 1), (6, 0), (5, 1), (5, 0), (4, 1), (4, 0)]), (1, false, false, [])]), (5, [(31, false, false, [])])]) e7_ok (by kernel_rfl) (by kernel_rfl) ?_
 simp only [FS, ↓RE, okR, argEnv, Nat.reduceAdd, Nat.reduceSub, Nat.reduceLT, Nat.reduceLeDiff, Nat.reduceEqDiff, reduceIte, RT, RM, List.length_map, ixi, wm]
 refine awt_peel (T := [(0, [(13, false, true, [(10, 1), (9, 1), (7, 1), (7, 0), (6, 1), (6, 0), (5, 1), (5, 0), (4, 1), (4, 0)]), (1, false, false, [])]), (5, [(31, false, false, [])])]) e7_ok (by kernel_rfl) (by kernel_rfl) ?_
 simp only [FS, ↓RE, okR, argEnv, Nat.reduceAdd, Nat.reduceSub, Nat.reduceLT, Nat.reduceLeDiff, Nat.reduceEqDiff, reduceIte, RT, RM]
 have ne0 := pl_eqT pc cell pd false
 refine awt_peelI (T := [(0, [(13, false, true, [(10, 1), (9, 1), (7, 1), (7, 0), (6, 1), (6, 0), (5, 1), (5, 0), (4, 1), (4, 0)]), (1, false, false, [])]), (5, [(31, false, false, [])])]) e7_ok (by kernel_rfl) [(0, .ref [.int .i64 sw, .int .i64 sd, shD sh, rlD rl, lkD lk, .int .i64 cell, .int .i64 mi, .int .i64 ev, .int .i64 en, inD af, msD kn, .int .i64 now] 0), (1, .int .i64 (i : Int)), (2, plD x), (6, .ptr 0 0), (7, .int .i64 (mi + (i : Int))), (8, .ptr 1 0), (9, .bool (decide (i = 0) && decide ((pc, pd) = (cell, false))))]
  [(1, .box [.int .i64 cell, .bool false]), (0, .box [.int .i64 pc, .bool pd])] 2 111 (by kernel_rfl) ?_ ?_
 ·by_cases hi0 : i = 0
  ·have q : ((i : Int) == 0) = true := by simp [hi0]
   simp only [FS, ↓RE, okR, argEnv, Nat.reduceAdd, Nat.reduceSub, Nat.reduceLT, Nat.reduceLeDiff, Nat.reduceEqDiff, reduceIte, RT, RM, q, ne0]
   simp [headW, heapW, envW, blkLt, D.ltL, D.lt, look, hget, Sx.hset, hi0]
  ·have q : ((i : Int) == 0) = false := by simp [hi0]
   simp only [FS, ↓RE, okR, argEnv, Nat.reduceAdd, Nat.reduceSub, Nat.reduceLT, Nat.reduceLeDiff, Nat.reduceEqDiff, reduceIte, RT, RM, q, ne0]
   simp [headW, heapW, envW, blkLt, D.ltL, D.lt, look, hget, Sx.hset, hi0]
 refine awt_peelI (T := [(0, [(13, false, true, [(10, 1), (9, 1), (7, 1), (7, 0), (6, 1), (6, 0), (5, 1), (5, 0), (4, 1), (4, 0)]), (1, false, false, [])]), (5, [(31, false, false, [])])]) e7_ok (by kernel_rfl) [(0, .ref [.int .i64 sw, .int .i64 sd, shD sh, rlD rl, lkD lk, .int .i64 cell, .int .i64 mi, .int .i64 ev, .int .i64 en, inD af, msD kn, .int .i64 now] 0), (6, .ptr 0 0), (7, .int .i64 (mi + (i : Int))), (9, .bool FB)]
  [(0, .box [.int .i64 pc, .bool pd])] 2 111 (by kernel_rfl) ?_ ?_
 ·by_cases hi0 : i = 0
  ·have q : ((0 : Int) < (i : Int)) = False := by simp [hi0]
   rw [if_pos hi0] at hfine
   have hp0 : nP x 0 = (pc, pd) := by rw [← hp, hi0]
   rw [hp0] at hfine
   simp only [FS, ↓RE, okR, argEnv, Nat.reduceAdd, Nat.reduceSub, Nat.reduceLT, Nat.reduceLeDiff, Nat.reduceEqDiff, reduceIte, RT, RM, q, decide_false]
   rw [hfine]
   simp [headW, heapW, envW, blkLt, D.ltL, D.lt, look, hget, Sx.hset, hi0]
  ·have q : ((0 : Int) < (i : Int)) = True := by simp; omega
   rw [if_neg hi0] at hfine
   have hfb := hf.resolve_left hi0
   have wb : IntKind.i64.wrap ((i : Int) - 1) = ((i - 1 : Nat) : Int) := by rw [wrap_i64 (by omega) (by omega)]; omega
   have ixb := ixP (i - 1) (by omega)
   obtain ⟨b, hb⟩ : ∃ b, nP x (i - 1) = b := ⟨_, rfl⟩
   rw [hb] at hfine ixb hfb
   obtain ⟨bc, bd⟩ := b
   dsimp only at hfine ixb hfb
   cases bd
   ·cases pd
    ·simp only [Bool.or_self, Bool.false_eq_true, if_false] at hfine
     have oF := oF pc
     cases q1 : decide ((i : Int) ≤ en)
     ·rw [q1] at hfine
      simp only [FS, ↓RE, okR, argEnv, Nat.reduceAdd, Nat.reduceSub, Nat.reduceLT, Nat.reduceLeDiff, Nat.reduceEqDiff, reduceIte, RT, RM, q, decide_true, wb, ixb, q1]
      rw [hfine]
      simp [headW, heapW, envW, blkLt, D.ltL, D.lt, look, hget, Sx.hset]
     rw [q1] at hfine
     cases q2 : freeB sh pc
     ·rw [q2] at hfine oF
      simp only [FS, ↓RE, okR, argEnv, Nat.reduceAdd, Nat.reduceSub, Nat.reduceLT, Nat.reduceLeDiff, Nat.reduceEqDiff, reduceIte, RT, RM, q, decide_true, wb, ixb, q1, oF]
      rw [hfine]
      simp [headW, heapW, envW, blkLt, D.ltL, D.lt, look, hget, Sx.hset]
     ·rw [q2] at hfine oF
      have oD := oD pc bc (hfin _ q2) (hfin _ hfb)
      simp only [FS, ↓RE, okR, argEnv, Nat.reduceAdd, Nat.reduceSub, Nat.reduceLT, Nat.reduceLeDiff, Nat.reduceEqDiff, reduceIte, RT, RM, q, decide_true, wb, ixb, q1, oF, oD]
      rw [hfine]
      simp [headW, heapW, envW, blkLt, D.ltL, D.lt, look, hget, Sx.hset]
    ·simp only [Bool.or_true, if_true, Bool.true_and] at hfine
     simp only [FS, ↓RE, okR, argEnv, Nat.reduceAdd, Nat.reduceSub, Nat.reduceLT, Nat.reduceLeDiff, Nat.reduceEqDiff, reduceIte, RT, RM, q, decide_true, wb, ixb, beq_dec]
     rw [hfine]
     simp [headW, heapW, envW, blkLt, D.ltL, D.lt, look, hget, Sx.hset]
   ·simp only [Bool.true_or, if_true] at hfine
    cases pd
    ·rw [Bool.false_and] at hfine
     simp only [FS, ↓RE, okR, argEnv, Nat.reduceAdd, Nat.reduceSub, Nat.reduceLT, Nat.reduceLeDiff, Nat.reduceEqDiff, reduceIte, RT, RM, q, decide_true, wb, ixb]
     rw [hfine]
     simp [headW, heapW, envW, blkLt, D.ltL, D.lt, look, hget, Sx.hset]
    ·rw [Bool.true_and] at hfine
     simp only [FS, ↓RE, okR, argEnv, Nat.reduceAdd, Nat.reduceSub, Nat.reduceLT, Nat.reduceLeDiff, Nat.reduceEqDiff, reduceIte, RT, RM, q, decide_true, wb, ixb, beq_dec]
     rw [hfine]
     simp [headW, heapW, envW, blkLt, D.ltL, D.lt, look, hget, Sx.hset]
 clear hfine ixi ixP oF oD hf
 cases FB
 ·refine awt_peel (T := [(0, [(13, false, true, [(10, 1), (9, 1), (7, 1), (7, 0), (6, 1), (6, 0), (5, 1), (5, 0), (4, 1), (4, 0)]), (1, false, false, [])]), (5, [(31, false, false, [])])]) e7_ok (by kernel_rfl) (by kernel_rfl) ?_
  simp only [FS, ↓RE, okR, argEnv, Nat.reduceAdd, Nat.reduceSub, Nat.reduceLT, Nat.reduceLeDiff, Nat.reduceEqDiff, reduceIte, RT, RM]
  refine awt_cond (t := true) (by kernel_rfl) (fun _ => ?_) (fun h => by cases h)
  refine awt_last (m := 3) e7_ok rfl ?_
  simp only [FS, ↓RE, okR, argEnv, Nat.reduceAdd, Nat.reduceSub, Nat.reduceLT, Nat.reduceLeDiff, Nat.reduceEqDiff, reduceIte, RT, RM, List.take_succ_cons, List.take_zero]
  refine aopst_panic (t := 90) (d := .agg [.int .i64 (mi + (i : Int))]) rfl rfl rfl (by kernel_rfl) fun v hv => ?_
  obtain ⟨R, n, hr⟩ := hv
  exact ⟨by rw [hstp]; rfl, _, _, rfl, rel_int1 hr _⟩
 have pSl := pSl rfl
 refine awt_peel (T := [(0, [(13, false, true, [(10, 1), (9, 1), (7, 1), (7, 0), (6, 1), (6, 0), (5, 1), (5, 0), (4, 1), (4, 0)]), (1, false, false, [])]), (5, [(31, false, false, [])])]) e7_ok (by kernel_rfl) (by kernel_rfl) ?_
 cases SD
 ·simp only [FS, ↓RE, okR, argEnv, Nat.reduceAdd, Nat.reduceSub, Nat.reduceLT, Nat.reduceLeDiff, Nat.reduceEqDiff, reduceIte, RT, RM, Bool.not_true]
  refine call_of_pure' pSd (by simp [D.ltL, D.lt]) (by simp [D.lt]) ?_
  simp only [FS, ↓RE, okR, argEnv, Nat.reduceAdd, Nat.reduceSub, Nat.reduceLT, Nat.reduceLeDiff, Nat.reduceEqDiff, reduceIte, RT, RM, Bool.not_false]
  refine awt_cond (t := true) (by kernel_rfl) (fun _ => ?_) (fun h => by cases h)
  refine awt_last (m := 3) e7_ok rfl ?_
  simp only [FS, ↓RE, okR, argEnv, Nat.reduceAdd, Nat.reduceSub, Nat.reduceLT, Nat.reduceLeDiff, Nat.reduceEqDiff, reduceIte, RT, RM, List.take_succ_cons, List.take_zero]
  refine aopst_panic (t := 90) (d := .agg [.int .i64 (mi + (i : Int))]) rfl rfl rfl (by kernel_rfl) fun v hv => ?_
  obtain ⟨R, n, hr⟩ := hv
  exact ⟨by rw [hstp]; rfl, _, _, rfl, rel_int1 hr _⟩
 cases pd
 ·simp only [FS, ↓RE, okR, argEnv, Nat.reduceAdd, Nat.reduceSub, Nat.reduceLT, Nat.reduceLeDiff, Nat.reduceEqDiff, reduceIte, RT, RM, Bool.not_true]
  refine call_of_pure' pSd (by simp [D.ltL, D.lt]) (by simp [D.lt]) ?_
  simp only [FS, ↓RE, okR, argEnv, Nat.reduceAdd, Nat.reduceSub, Nat.reduceLT, Nat.reduceLeDiff, Nat.reduceEqDiff, reduceIte, RT, RM, Bool.not_true, Bool.not_false]
  refine call_of_pure' pSl (by simp [D.ltL, D.lt]) (by simp [D.lt]) ?_
  simp only [FS, ↓RE, okR, argEnv, Nat.reduceAdd, Nat.reduceSub, Nat.reduceLT, Nat.reduceLeDiff, Nat.reduceEqDiff, reduceIte, RT, RM]
  cases SL
  ·refine awt_cond (t := false) (by kernel_rfl) (fun h => by cases h) fun _ => awt_skip ?_
   exact ⟨rfl, by rw [hstp]; rfl⟩
  ·refine awt_cond (t := true) (by kernel_rfl) (fun _ => ?_) (fun h => by cases h)
   refine awt_last (m := 3) e7_ok rfl ?_
   simp only [FS, ↓RE, okR, argEnv, Nat.reduceAdd, Nat.reduceSub, Nat.reduceLT, Nat.reduceLeDiff, Nat.reduceEqDiff, reduceIte, RT, RM, List.take_succ_cons, List.take_zero]
   refine aopst_panic (t := 90) (d := .agg [.int .i64 (mi + (i : Int))]) rfl rfl rfl (by kernel_rfl) fun v hv => ?_
   obtain ⟨R, n, hr⟩ := hv
   exact ⟨by rw [hstp]; rfl, _, _, rfl, rel_int1 hr _⟩
 ·simp only [FS, ↓RE, okR, argEnv, Nat.reduceAdd, Nat.reduceSub, Nat.reduceLT, Nat.reduceLeDiff, Nat.reduceEqDiff, reduceIte, RT, RM, Bool.not_true]
  refine call_of_pure' pSd (by simp [D.ltL, D.lt]) (by simp [D.lt]) ?_
  simp only [FS, ↓RE, okR, argEnv, Nat.reduceAdd, Nat.reduceSub, Nat.reduceLT, Nat.reduceLeDiff, Nat.reduceEqDiff, reduceIte, RT, RM, Bool.not_true, Bool.not_false]
  refine awt_cond (t := false) (by kernel_rfl) (fun h => by cases h) fun _ => awt_skip ?_
  exact ⟨rfl, by rw [hstp]; rfl⟩
end Go.Sx
