/- Own work: a calculus of contracts for the programs of this kit: parts SxW44v, SxW45v. -/
import Derived.Test.YtljkgnicmlhipaaGreatSxW43v
import Derived.Test.YtljkgnicmlhipaaGreatSxMi
set_option linter.unusedVariables false
set_option linter.unusedSimpArgs false
namespace Go.Sx
open Go.Proofs
set_option maxRecDepth 10000

def shortB (w : WatchW) : Bool := (w.n.r.all fun r => !(decide ((10 : Int) < (r.l.length : Int)))) && ((w.n.l.all fun r => !(decide ((10 : Int) < (r.l.length : Int)))) &&
 (decide ((w.s.sh.length : Int) ≤ 200) && (decide ((w.n.r.length : Int) ≤ 12) && (decide ((w.n.l.length : Int) ≤ 30) && decide ((w.aft.length : Int) ≤ 20)))))
set_option maxHeartbeats 1000000 in
theorem short_t (w : WatchW) (hw : WatchL w) : Pure Tryz.prog 15 [.agg w.c] (.bool (shortB w)) := by
 have h1 := hw.n.r
 have h2 := hw.n.l
 unfold shortB
 obtain ⟨⟨sw, sd, sh⟩, ⟨rl, lk⟩, cell, mi, ev, en, af⟩ := w
 dsimp only at h1 h2
 simp only [WatchW.c, SkyW.c, NetW.c, List.cons_append, List.nil_append]
 refine pure_of_wc (rs := [.tmp 2]) (m := 64) [] oNone_ok (by kernel_rfl) Tryz.func15 rfl (by kernel_rfl) rfl rfl (by kernel_rfl) ?_
 simp only [RT, FS, ↓RE, okR, argEnv, Nat.reduceAdd, Nat.reduceSub, Nat.reduceLT, Nat.reduceLeDiff, Nat.reduceEqDiff, reduceIte, List.length_map]
 refine loopV (ι := Nat) oNone_ok [] (fun i => [(1, .ptr 0 0), (3, .int .i64 (i : Int))])
  (fun i => [(0, .box [.int .i64 sw, .int .i64 sd, shD sh, rlD rl, lkD lk, .int .i64 cell, .int .i64 mi, .int .i64 ev, .int .i64 en, inD af])]) 1 (fun i => i ≤ rl.length ∧ (rl.take i).all (fun r => !(decide ((10 : Int) < (r.l.length : Int)))) = true) (fun i => rl.length - i) 0 (by kernel_rfl) (by kernel_rfl) ⟨Nat.zero_le _, by simp⟩ ?_ ?_
 ·simp [headW, heapW, envW, blkLt, D.ltL, D.lt, look, hget]
 rintro i ⟨hil, hok⟩
 rcases Nat.lt_or_ge i rl.length with hlt | hge
 ·have hc := nat_lt_true hlt
  obtain ⟨r, hr⟩ : ∃ r, rl[i]? = some r := ⟨rl[i], by simp [hlt]⟩
  have hix := rlD_ix hr
  have hw1 := wrap_i64 (z := (i : Int) + 1) (by omega) (by omega)
  cases hq : decide ((10 : Int) < (r.l.length : Int))
  ·simp only [RT, FS, ↓RE, okR, argEnv, Nat.reduceAdd, Nat.reduceSub, Nat.reduceLT, Nat.reduceLeDiff, Nat.reduceEqDiff, reduceIte, hix, hc, decide_true, List.length_map, hq, hw1]
   exact ⟨i + 1, ⟨by omega, all_cut hr hok (by rw [hq]; rfl)⟩, by omega, by simp [headW, heapW, envW, blkLt, D.ltL, D.lt, look, hget]⟩
  ·rw [all_out hr (by rw [hq]; rfl)]
   simp only [RT, FS, ↓RE, okR, argEnv, Nat.reduceAdd, Nat.reduceSub, Nat.reduceLT, Nat.reduceLeDiff, Nat.reduceEqDiff, reduceIte, hix, hc, decide_true, List.length_map, hq, Bool.false_and]
 have hc := nat_lt_false hge
 have : i = rl.length := by omega
 subst this
 rw [List.take_length] at hok
 rw [hok, Bool.true_and]
 simp only [RT, FS, ↓RE, okR, argEnv, Nat.reduceAdd, Nat.reduceSub, Nat.reduceLT, Nat.reduceLeDiff, Nat.reduceEqDiff, reduceIte, hc, decide_false, List.length_map]
 refine loopV (ι := Nat) oNone_ok [] (fun i => [(1, .ptr 0 0), (4, .int .i64 (i : Int))])
  (fun i => [(0, .box [.int .i64 sw, .int .i64 sd, shD sh, rlD rl, lkD lk, .int .i64 cell, .int .i64 mi, .int .i64 ev, .int .i64 en, inD af])]) 1 (fun i => i ≤ lk.length ∧ (lk.take i).all (fun r => !(decide ((10 : Int) < (r.l.length : Int)))) = true) (fun i => lk.length - i) 0 (by kernel_rfl) (by kernel_rfl) ⟨Nat.zero_le _, by simp⟩ ?_ ?_
 ·simp [headW, heapW, envW, blkLt, D.ltL, D.lt, look, hget]
 rintro i ⟨hil, hok2⟩
 rcases Nat.lt_or_ge i lk.length with hlt | hge
 ·have hc := nat_lt_true hlt
  obtain ⟨r, hr⟩ : ∃ r, lk[i]? = some r := ⟨lk[i], by simp [hlt]⟩
  have hix := lkD_ix hr
  have hw1 := wrap_i64 (z := (i : Int) + 1) (by omega) (by omega)
  cases hq : decide ((10 : Int) < (r.l.length : Int))
  ·simp only [RT, FS, ↓RE, okR, argEnv, Nat.reduceAdd, Nat.reduceSub, Nat.reduceLT, Nat.reduceLeDiff, Nat.reduceEqDiff, reduceIte, hix, hc, decide_true, List.length_map, hq, hw1]
   exact ⟨i + 1, ⟨by omega, all_cut hr hok2 (by rw [hq]; rfl)⟩, by omega, by simp [headW, heapW, envW, blkLt, D.ltL, D.lt, look, hget]⟩
  ·rw [all_out hr (by rw [hq]; rfl)]
   simp only [RT, FS, ↓RE, okR, argEnv, Nat.reduceAdd, Nat.reduceSub, Nat.reduceLT, Nat.reduceLeDiff, Nat.reduceEqDiff, reduceIte, hix, hc, decide_true, List.length_map, hq, Bool.false_and]
 have hc := nat_lt_false hge
 have : i = lk.length := by omega
 subst this
 rw [List.take_length] at hok2
 rw [hok2, Bool.true_and]
 simp only [RT, FS, ↓RE, okR, argEnv, Nat.reduceAdd, Nat.reduceSub, Nat.reduceLT, Nat.reduceLeDiff, Nat.reduceEqDiff, reduceIte, hc, decide_false, List.length_map]
 generalize decide ((sh.length : Int) ≤ 200) = a
 generalize decide ((rl.length : Int) ≤ 12) = b
 generalize decide ((lk.length : Int) ≤ 30) = c
 generalize decide ((af.length : Int) ≤ 20) = d
 cases a <;> cases b <;> cases c <;> cases d <;> simp [BR]
noncomputable def gShort : List D → Option D := orcF (fun w : WatchW => WatchL w) (fun w => [.agg w.c]) (fun w => .bool (shortB w))
theorem gShort_eq {w : WatchW} (h : WatchL w) : gShort [.agg w.c] = some (.bool (shortB w)) :=
 orcF_eq (ok := fun w : WatchW => WatchL w) (dsf := fun w => [.agg w.c]) (rf := fun w => .bool (shortB w)) w h fun q hq => by
  simp only [List.cons.injEq, D.agg.injEq, and_true] at hq
  rw [WatchW.c_inj hq]
end Go.Sx

namespace Go.Sx
open Go.Proofs
set_option maxRecDepth 10000

def wK : WatchW := ⟨⟨4, 2, [false, false, false, false, false, true, false, false]⟩, ⟨[⟨0, 0, [(0, 1440)]⟩, ⟨3, 1, [(0, 1440)]⟩], [⟨1, 0, 2, [(20, 30), (100, 110)]⟩]⟩, 0, 10, 5, 60, [3, 10]⟩
def mK : MsgW := ⟨16, 2, false, 20⟩
theorem wK_l : WatchL wK := ⟨by decide, ⟨by decide, by decide, by decide, by decide⟩, by decide⟩
set_option maxHeartbeats 1000000 in
theorem lawWatch_t : Pure Tryz.prog 21 [] (.agg wK.c) := by
 obtain ⟨S1, hS1⟩ : ∃ S, S = [((0, 1440) : Int × Int)] := ⟨_, rfl⟩
 obtain ⟨S2, hS2⟩ : ∃ S, S = [((20, 30) : Int × Int), (100, 110)] := ⟨_, rfl⟩
 obtain ⟨S3, hS3⟩ : ∃ S, S = wK.s.sh := ⟨_, rfl⟩
 obtain ⟨S4, hS4⟩ : ∃ S, S = wK.n.r := ⟨_, rfl⟩
 obtain ⟨S5, hS5⟩ : ∃ S, S = wK.n.l := ⟨_, rfl⟩
 obtain ⟨S6, hS6⟩ : ∃ S, S = wK.aft := ⟨_, rfl⟩
 have d2 : ∀ h, litD Tryz.prog h 22 8 [(0, .bool false), (1, .bool false), (2, .bool false), (3, .bool false), (4, .bool false), (5, .bool true), (6, .bool false), (7, .bool false)] = some (shD S3) := fun h => by subst_vars; kernel_rfl
 have d3 : ∀ h, litD Tryz.prog h 80 2 [(0, .agg [.int .i64 20, .int .i64 30]), (1, .agg [.int .i64 100, .int .i64 110])] = some (spD S2) := fun h => by subst_vars; kernel_rfl
 have d4 : ∀ h, litD Tryz.prog h 25 2 [(0, .agg [.int .i64 0, .int .i64 0, spD S1]), (1, .agg [.int .i64 3, .int .i64 1, spD S1])] = some (rlD S4) := fun h => by subst_vars; kernel_rfl
 have d5 : ∀ h, litD Tryz.prog h 26 1 [(0, .agg [.int .i64 1, .int .i64 0, .int .i64 2, spD S2])] = some (lkD S5) := fun h => by subst_vars; kernel_rfl
 have d6 : ∀ h, litD Tryz.prog h 29 2 [(0, .int .i64 3), (1, .int .i64 10)] = some (inD S6) := fun h => by subst_vars; kernel_rfl
 have d1 : ∀ h, litD Tryz.prog h 80 1 [(0, .agg [.int .i64 0, .int .i64 1440])] = some (spD S1) := fun h => by subst_vars; kernel_rfl
 refine pure_of_pieces (rs := [.cell 0 31]) (m := 19) [] oNone_ok (by kernel_rfl) Tryz.func21 rfl (by kernel_rfl) rfl rfl (by kernel_rfl) ?_
 refine awp_peel (T := []) oNone_ok (by kernel_rfl) (by kernel_rfl) ?_
 simp only [RT, FS, ↓RE, okR, argEnv, Nat.reduceAdd, Nat.reduceSub, Nat.reduceLT, Nat.reduceLeDiff, Nat.reduceEqDiff, reduceIte, RM]
 refine awp_seq (awp_regionD oNone_ok ?_)
 simp only [RT, FS, ↓RE, okR, argEnv, Nat.reduceAdd, Nat.reduceSub, Nat.reduceLT, Nat.reduceLeDiff, Nat.reduceEqDiff, reduceIte, RM, d1]
 refine awp_seq (awp_regionD oNone_ok ?_)
 simp only [RT, FS, ↓RE, okR, argEnv, Nat.reduceAdd, Nat.reduceSub, Nat.reduceLT, Nat.reduceLeDiff, Nat.reduceEqDiff, reduceIte, RM, d1, d2, d3, d4, d5, d6]
 refine awp_rest (T := []) oNone_ok (by kernel_rfl) (by kernel_rfl) ?_
 simp only [RT, FS, ↓RE, okR, argEnv, Nat.reduceAdd, Nat.reduceSub, Nat.reduceLT, Nat.reduceLeDiff, Nat.reduceEqDiff, reduceIte, RM]
 subst_vars
 rfl
theorem kArr : ArrR wK 2 31 = .tup [.int .i64 102, .sl (intL [1, 0]), .int .i64 0] := by kernel_rfl
theorem kCalls : CallsR wK [mK] 40 = .tup [.sl (prL [(18, 1), (24, 1), (31, 2)]), .int .i64 0] := by kernel_rfl
theorem kSweep : SweepR wK.s 0 [7, 4] = .tup [.sl (intL [0, 4, 1, 2, 7]), .int .i64 0] := by kernel_rfl
def stepL (w : WatchW) (kn : List MsgW) (now : Int) (n : Nat) (A B : List Int) : List Int × List Int :=
 (cellsF w.s.sh.length (fun c => ((!(decide (w.endu < (n : Int) + 1)) && (decide (c ∈ A) || A.any fun k => (nbL w.s.w w.s.d w.s.sh k).any fun t => decide (t = c))) && saidB kn (w.min + ((n : Int) + 1)) c false) && !(silentB w kn now (w.min + ((n : Int) + 1)) c)),
  cellsF w.s.sh.length (fun c => (decide (c ∈ A) || decide (c ∈ B)) && saidB kn (w.min + ((n : Int) + 1)) c true))
theorem step_cells (w : WatchW) (kn : List MsgW) (now : Int) (n : Nat) {A B : List Int} (hA : cellsF w.s.sh.length (plF w kn now n).1 = A) (hB : cellsF w.s.sh.length (plF w kn now n).2 = B) {A2 B2 : List Int} (h : stepL w kn now n A B = (A2, B2)) :
  cellsF w.s.sh.length (plF w kn now (n + 1)).1 = A2 ∧ cellsF w.s.sh.length (plF w kn now (n + 1)).2 = B2 := by
 have h1 := congrArg Prod.fst h
 have h2 := congrArg Prod.snd h
 simp only [stepL] at h1 h2
 have e : ∀ (p : Int → Bool) (L : List Int), cellsF w.s.sh.length p = L → ∀ c, 0 ≤ c → c < (w.s.sh.length : Int) → p c = decide (c ∈ L) := fun p L hL c g1 g2 => by
  rw [← hL, Bool.eq_iff_iff, decide_eq_true_eq, cellsF_mem]
  exact ⟨fun h => ⟨⟨g1, g2⟩, h⟩, fun h => h.2⟩
 refine ⟨?_, ?_⟩
 ·rw [← h1]
  refine cellsF_congr fun c g1 g2 => ?_
  simp only [plF, aF]
  rw [e _ _ hA c g1 g2, hA]
 ·rw [← h2]
  refine cellsF_congr fun c g1 g2 => ?_
  simp only [plF]
  rw [e _ _ hA c g1 g2, e _ _ hB c g1 g2]
theorem kWhere : WhereR wK [] 15 = .tup [.sl (intL [1, 2, 3, 4, 6, 7]), .sl (intL [0, 1, 2, 3, 4, 6, 7]), .int .i64 0] := by
 have s0 : cellsF wK.s.sh.length (plF wK [] 15 0).1 = [0] ∧ cellsF wK.s.sh.length (plF wK [] 15 0).2 = [] := ⟨by kernel_rfl, by kernel_rfl⟩
 have s1 := step_cells wK [] 15 0 (A2 := [0, 1, 4]) (B2 := [0]) s0.1 s0.2 (by kernel_rfl)
 have s2 := step_cells wK [] 15 1 (A2 := [0, 1, 2, 4, 6]) (B2 := [0, 1, 4]) s1.1 s1.2 (by kernel_rfl)
 have s3 := step_cells wK [] 15 2 (A2 := [0, 1, 2, 3, 4, 6, 7]) (B2 := [0, 1, 2, 4, 6]) s2.1 s2.2 (by kernel_rfl)
 have s4 := step_cells wK [] 15 3 (A2 := [0, 1, 2, 3, 4, 6, 7]) (B2 := [0, 1, 2, 3, 4, 6, 7]) s3.1 s3.2 (by kernel_rfl)
 have s5 := step_cells wK [] 15 4 (A2 := [1, 2, 3, 4, 6, 7]) (B2 := [0, 1, 2, 3, 4, 6, 7]) s4.1 s4.2 (by kernel_rfl)
 have ha : askedI wK [] 15 = 0 := by kernel_rfl
 have hn : (15 - wK.min).toNat = 5 := by kernel_rfl
 have hk : knownL [] 15 = [] := rfl
 unfold WhereR
 rw [if_pos ha, hn, hk, s5.1, s5.2, if_neg (by decide)]
theorem acall_rel {P : Program} {f : FuncId} {ds ds' : List D} {h : H} {nid : Nat} {Q : D → H → Nat → Prop} (hr : ∀ R n vs, RelL R n vs ds' → RelL R n vs ds) (hc : ACall P f ds h nid Q) : ACall P f ds' h nid Q :=
 ⟨hc.1, fun X k vs h1 h2 h3 h4 => hc.2 X k vs h1 h2 h3 (hr _ _ _ h4)⟩
theorem relL_nil {ds1 ds2 : List D} (R : Rx) (n : Nat) (vs : List Value) (h : RelL R n vs (ds1 ++ .nils :: ds2)) : RelL R n vs (ds1 ++ .sl [] :: ds2) := by
 refine ⟨by have := h.1; simpa using this, fun i v d hv hd => ?_⟩
 rcases Nat.lt_trichotomy i ds1.length with hi | rfl | hi
 ·refine h.2 i v d hv ?_
  rw [List.getElem?_append_left hi] at hd ⊢; exact hd
 ·have h2 := h.2 ds1.length v .nils hv (by simp)
  have hd : d = .sl [] := by simpa using hd.symm
  subst hd
  cases h2
  exact .sln _
 ·refine h.2 i v d hv ?_
  rw [List.getElem?_append_right (by omega)] at hd ⊢
  obtain ⟨j, hj⟩ : ∃ j, i - ds1.length = j + 1 := ⟨i - ds1.length - 1, by omega⟩
  rw [hj] at hd ⊢
  exact hd
theorem Pure.nil {P : Program} {f : FuncId} {ds1 ds2 : List D} {r : D} (h : Pure P f (ds1 ++ .sl [] :: ds2) r) : Pure P f (ds1 ++ .nils :: ds2) r := acall_rel relL_nil h
theorem Where_nil {w : WatchW} (hw : WatchL w) (now : Int) : Pure Tryz.prog 9 [.agg w.c, .nils, .int .i64 now] (WhereR w [] now) :=
 Pure.nil (ds1 := [.agg w.c]) (ds2 := [.int .i64 now]) (Where_t hw (l := []) (by decide) now)
noncomputable def cstO (a : List D) (r : D) : List D → Option D := orcF (fun _ : Unit => True) (fun _ => a) (fun _ => r)
theorem cstO_eq (a : List D) (r : D) : cstO a r a = some r := orcF_eq (α := Unit) (ok := fun _ => True) (dsf := fun _ => a) (rf := fun _ => r) () trivial (fun _ _ => rfl)
theorem cstO_ok {P : Program} {f : FuncId} {a : List D} {r : D} (h : Pure P f a r) (ds : List D) (s : D) (hs : cstO a r ds = some s) : Pure P f ds s := orcF_ok (fun _ _ => h) ds s hs
theorem intL_inj {a b : List Int} (h : intL a = intL b) : a = b := map_inj (f := fun x => [D.int .i64 x]) (fun a b h => by simpa using h) h
theorem prL_inj {a b : List (Int × Int)} (h : prL a = prL b) : a = b := map_inj (f := enS.d) (fun a b h => En.d_inj enS h) h
noncomputable def gSame : List D → Option D := orcF (fun p : List Int × List Int => BL p.1 ∧ BL p.2) (fun p => [.sl (intL p.1), .sl (intL p.2)]) (fun p => .bool (decide (p.1 = p.2)))
theorem gSame_eq {a b : List Int} (ha : BL a) (hb : BL b) : gSame [.sl (intL a), .sl (intL b)] = some (.bool (decide (a = b))) :=
 orcF_eq (ok := fun p : List Int × List Int => BL p.1 ∧ BL p.2) (dsf := fun p => [.sl (intL p.1), .sl (intL p.2)]) (rf := fun p => .bool (decide (p.1 = p.2))) (a, b) ⟨ha, hb⟩ (fun q hq => by
  simp only [List.cons.injEq, D.sl.injEq, and_true] at hq
  rw [intL_inj hq.1, intL_inj hq.2])
noncomputable def gSameC : List D → Option D := orcF (fun p : List (Int × Int) × List (Int × Int) => BL p.1 ∧ BL p.2) (fun p => [.sl (prL p.1), .sl (prL p.2)]) (fun p => .bool (decide (p.1 = p.2)))
theorem gSameC_eq {a b : List (Int × Int)} (ha : BL a) (hb : BL b) : gSameC [.sl (prL a), .sl (prL b)] = some (.bool (decide (a = b))) :=
 orcF_eq (ok := fun p : List (Int × Int) × List (Int × Int) => BL p.1 ∧ BL p.2) (dsf := fun p => [.sl (prL p.1), .sl (prL p.2)]) (rf := fun p => .bool (decide (p.1 = p.2))) (a, b) ⟨ha, hb⟩ (fun q hq => by
  simp only [List.cons.injEq, D.sl.injEq, and_true] at hq
  rw [prL_inj hq.1, prL_inj hq.2])
theorem gSame_ok : ∀ ds s, gSame ds = some s → Pure Tryz.prog 12 ds s := orcF_ok fun p h => by have := r_Same_t p.1 p.2 h.1 h.2; rw [sameB_eq] at this; exact this
theorem gSameC_ok : ∀ ds s, gSameC ds = some s → Pure Tryz.prog 24 ds s := orcF_ok fun p h => r_SameCalls_t p.1 p.2 h.1 h.2
noncomputable def wD : List D := wK.c
noncomputable def sD : List D := wK.s.c
def mKs : List MsgW := [mK]
def aKs : List Int := [1, 0]
def cKs : List (Int × Int) := [(18, 1), (24, 1), (31, 2)]
def fKs : List Int := [1, 2, 3, 4, 6, 7]
def dKs : List Int := [0, 1, 2, 3, 4, 6, 7]
def lKs : List Int := [7, 4]
def sKs : List Int := [0, 4, 1, 2, 7]
noncomputable abbrev e45 : List (FuncId × (List D → Option D)) :=
 (21, cstO [] (.agg wD)) ::
 (20, cstO [.agg wD, .int .i64 2, .int .i64 31] (.tup [.int .i64 102, .sl (intL aKs), .int .i64 0])) ::
 (22, cstO [.agg wD, msD mKs, .int .i64 40] (.tup [.sl (prL cKs), .int .i64 0])) ::
 (9, cstO [.agg wD, .nils, .int .i64 15] (.tup [.sl (intL fKs), .sl (intL dKs), .int .i64 0])) ::
 (23, cstO [.agg sD, .int .i64 0, inD lKs] (.tup [.sl (intL sKs), .int .i64 0])) ::
 (12, gSame) :: (24, gSameC) :: []
theorem e45_ok : OkO Tryz.prog (mkO e45) :=
 mkO_ok (cstO_ok lawWatch_t) <|
 mkO_ok (cstO_ok (by have h := Arrive_t wK wK_l 2 31; rw [kArr] at h; exact h)) <|
 mkO_ok (cstO_ok (by have h := Calls_t wK_l (l := [mK]) (by decide) 40; rw [kCalls] at h; exact h)) <|
 mkO_ok (cstO_ok (by have h := Where_nil wK_l 15; rw [kWhere] at h; exact h)) <|
 mkO_ok (cstO_ok (by have h := Sweep_t wK.s (by decide) 0 [7, 4] (by decide); rw [kSweep] at h; exact h)) <|
 mkO_ok gSame_ok <| mkO_ok gSameC_ok <| fun _ _ _ h => by cases h
theorem wD_lt : ∀ m, D.ltL m wD = true := fun m => by simp [wD, wK, WatchW.c, SkyW.c, NetW.c, D.ltL, D.lt]
theorem wD_v : ∀ h, viewL h wD = wD := fun h => viewL_old h (wD_lt 0)
theorem sD_lt : ∀ m, D.ltL m sD = true := fun m => by simp [sD, wK, SkyW.c, D.ltL, D.lt]
theorem sD_v : ∀ h, viewL h sD = sD := fun h => viewL_old h (sD_lt 0)
set_option maxHeartbeats 2000000 in
theorem known_t : Pure Tryz.prog 8 [] (.bool true) := by
 have t1 : ∀ l : List Int, decide (l = l) = true := fun l => by simp
 have t2 : ∀ l : List (Int × Int), decide (l = l) = true := fun l => by simp
 have hz : ((0 : Int) != 0) = false := rfl
 have hq : ((102 : Int) == 102) = true := rfl
 have g1 := gSame_eq (a := aKs) (b := aKs) (by decide) (by decide)
 have g2 := gSame_eq (a := fKs) (b := fKs) (by decide) (by decide)
 have g3 := gSame_eq (a := dKs) (b := dKs) (by decide) (by decide)
 have g4 := gSame_eq (a := sKs) (b := sKs) (by decide) (by decide)
 have g5 := gSameC_eq (a := cKs) (b := cKs) (by decide) (by decide)
 have d1 : ∀ h, litD Tryz.prog h 32 1 [(0, .agg [.int .i64 16, .int .i64 2, .bool false, .int .i64 20])] = some (msD mKs) := fun h => by kernel_rfl
 have d2 : ∀ h, litD Tryz.prog h 29 2 [(0, .int .i64 7), (1, .int .i64 4)] = some (inD lKs) := fun h => by kernel_rfl
 have d3 : ∀ h, litD Tryz.prog h 29 2 [(0, .int .i64 1), (1, .int .i64 0)] = some (.sl (intL aKs)) := fun h => by kernel_rfl
 have d4 : ∀ h, litD Tryz.prog h 29 6 [(0, .int .i64 1), (1, .int .i64 2), (2, .int .i64 3), (3, .int .i64 4), (4, .int .i64 6), (5, .int .i64 7)] = some (.sl (intL fKs)) := fun h => by kernel_rfl
 have d5 : ∀ h, litD Tryz.prog h 29 7 [(0, .int .i64 0), (1, .int .i64 1), (2, .int .i64 2), (3, .int .i64 3), (4, .int .i64 4), (5, .int .i64 6), (6, .int .i64 7)] = some (.sl (intL dKs)) := fun h => by kernel_rfl
 have d6 : ∀ h, litD Tryz.prog h 29 5 [(0, .int .i64 0), (1, .int .i64 4), (2, .int .i64 1), (3, .int .i64 2), (4, .int .i64 7)] = some (.sl (intL sKs)) := fun h => by kernel_rfl
 have d7 : ∀ h, litD Tryz.prog h 57 3 [(0, .agg [.int .i64 18, .int .i64 1]), (1, .agg [.int .i64 24, .int .i64 1]), (2, .agg [.int .i64 31, .int .i64 2])] = some (.sl (prL cKs)) := fun h => by kernel_rfl
 have f1 : fieldD Tryz.prog 31 0 (.agg wD) = some (.agg sD) := by kernel_rfl
 refine pure_of_pieces (rs := [.tmp 0]) (m := 81) [] e45_ok (by kernel_rfl) Tryz.func8 rfl (by kernel_rfl) rfl rfl (by kernel_rfl) ?_
 refine awp_peel (T := []) e45_ok (by kernel_rfl) (by kernel_rfl) ?_
 simp only [RT, FS, ↓RE, okR, argEnv, Nat.reduceAdd, Nat.reduceSub, Nat.reduceLT, Nat.reduceLeDiff, Nat.reduceEqDiff, reduceIte, RM, cstO_eq, wD_lt, wD_v]
 refine awp_peel (T := []) e45_ok (by kernel_rfl) (by kernel_rfl) ?_
 simp only [RT, FS, ↓RE, okR, argEnv, Nat.reduceAdd, Nat.reduceSub, Nat.reduceLT, Nat.reduceLeDiff, Nat.reduceEqDiff, reduceIte, RM, cstO_eq, wD_lt, wD_v]
 refine awp_seq (awp_regionD e45_ok ?_)
 simp only [RT, FS, ↓RE, okR, argEnv, Nat.reduceAdd, Nat.reduceSub, Nat.reduceLT, Nat.reduceLeDiff, Nat.reduceEqDiff, reduceIte, RM, cstO_eq, wD_lt, wD_v, d1]
 refine awp_peel (T := []) e45_ok (by kernel_rfl) (by kernel_rfl) ?_
 simp only [RT, FS, ↓RE, okR, argEnv, Nat.reduceAdd, Nat.reduceSub, Nat.reduceLT, Nat.reduceLeDiff, Nat.reduceEqDiff, reduceIte, RM, cstO_eq, wD_lt, wD_v]
 refine awp_seq (awp_regionD e45_ok ?_)
 simp only [RT, FS, ↓RE, okR, argEnv, Nat.reduceAdd, Nat.reduceSub, Nat.reduceLT, Nat.reduceLeDiff, Nat.reduceEqDiff, reduceIte, RM, cstO_eq, wD_lt, wD_v, d2, f1, sD_lt, sD_v]
 refine awp_peel (T := []) e45_ok (by kernel_rfl) (by kernel_rfl) ?_
 simp only [RT, FS, ↓RE, okR, argEnv, Nat.reduceAdd, Nat.reduceSub, Nat.reduceLT, Nat.reduceLeDiff, Nat.reduceEqDiff, reduceIte, RM, hz]
 refine awp_seq (awp_regionD e45_ok ?_)
 simp only [RT, FS, ↓RE, okR, argEnv, Nat.reduceAdd, Nat.reduceSub, Nat.reduceLT, Nat.reduceLeDiff, Nat.reduceEqDiff, reduceIte, RM, hq, d3, d4, d5, d6, d7, g1, g2, g3, g4, g5, decide_true]
 refine awp_rest (T := []) e45_ok (by kernel_rfl) (by kernel_rfl) ?_
 simp only [RT, FS, ↓RE, okR, argEnv, Nat.reduceAdd, Nat.reduceSub, Nat.reduceLT, Nat.reduceLeDiff, Nat.reduceEqDiff, reduceIte, RM]
end Go.Sx
