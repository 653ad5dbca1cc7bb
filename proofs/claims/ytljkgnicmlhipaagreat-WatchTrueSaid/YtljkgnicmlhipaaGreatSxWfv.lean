/- Own work: a calculus of contracts for the programs of this kit: parts SxW19v, SxW20v, SxW21v, SxW22v, SxW23v. -/
import Derived.Test.YtljkgnicmlhipaaGreatSxWev
import Derived.Test.YtljkgnicmlhipaaGreatSxMg
set_option linter.unusedVariables false
set_option linter.unusedSimpArgs false
namespace Go.Sx
open Go.Proofs
set_option maxRecDepth 10000

structure MsgW where
 t : Int
 c : Int
 d : Bool
 came : Int
 deriving DecidableEq
def decMs : List D → Option MsgW
 | [.int .i64 t, .int .i64 c, .bool d, .int .i64 e] => some ⟨t, c, d, e⟩
 | _ => none
def enMs : En MsgW where
 d m := [.int .i64 m.t, .int .i64 m.c, .bool m.d, .int .i64 m.came]
 dec := decMs
 h1 _ := rfl
 h2 c a h := by
  unfold decMs at h
  split at h
  ·cases h; rfl
  ·cases h
 sz := 4
 hsz _ := rfl
abbrev msD (l : List MsgW) : D := .sl (l.map enMs.d)
theorem msD_ix {l : List MsgW} {i : Nat} {m : MsgW} (hb : l[i]? = some m) (h : H) : indexAddrD Tryz.prog h 32 (msD l) (.int .i64 (i : Int)) = some (.ref [.int .i64 m.t, .int .i64 m.c, .bool m.d, .int .i64 m.came] 0) := En.ix (P := Tryz.prog) Fz.und_32 Fz.size_61 (E := enMs) (En.sl_map (E := enMs) l) hb h .i64
theorem wms_ix (l : List _) (x : D) (hx : En.sl enMs x = some l) (g : FuncId) (caps : List D) (q : _ → Bool) (hl : l.length ≤ 9223372036854775807) (hcl : ∀ m, D.ltL m caps = true) (hcv : ∀ h, viewL h caps = caps)
  (hq : ∀ a ∈ l, Pure Tryz.prog g (.agg (enMs.d a) :: caps) (.bool (q a))) : Pure Tryz.prog 87 [x, .fn (.func g) [] caps] (.int .i64 (firstI q l 0)) := by
 have lx := fun hp => En.len (P := Tryz.prog) Fz.und_32 hx hp
 have vx := En.lt hx
 refine pure_of_wc (rs := [.tmp 4]) (m := 19) [] oNone_ok (by kernel_rfl) Tryz.func87 rfl (by kernel_rfl) rfl rfl (by kernel_rfl) ?_
 simp only [RT, FS, ↓RE, okR, argEnv, Nat.reduceAdd, Nat.reduceSub, Nat.reduceLT, Nat.reduceLeDiff, Nat.reduceEqDiff, reduceIte, lx]
 refine loopV (ι := Nat) oNone_ok [] (fun i => [(0, x), (1, .fn (.func g) [] caps), (7, .int .i64 (l.length : Int)), (8, .int .i64 (i : Int))])
  (fun i => []) 0 (fun i => i ≤ l.length ∧ (l.take i).all (fun r => !(q r)) = true) (fun i => l.length - i) 0 (by kernel_rfl) (by kernel_rfl) ⟨Nat.zero_le _, by simp⟩ ?_ ?_
 ·simp [headW, heapW, envW, blkLt, D.ltL, D.lt, look, hget, vx, hcl]
 rintro i ⟨hil, hok⟩
 rcases Nat.lt_or_ge i l.length with hlt | hge
 ·have hc : ((i : Int) < (l.length : Int)) = True := by simp [hlt]
  obtain ⟨r, hr⟩ : ∃ r, l[i]? = some r := ⟨l[i], by simp [hlt]⟩
  have hix := fun hp => En.ix (P := Tryz.prog) Fz.und_32 Fz.size_61 hx hr hp .i64
  have hw := wrap_i64 (z := (i : Int) + 1) (by omega) (by omega)
  have hqr := hq r (List.mem_of_getElem? hr)
  simp only [enMs] at hix hqr
  simp only [RT, FS, ↓RE, okR, argEnv, Nat.reduceAdd, Nat.reduceSub, Nat.reduceLT, Nat.reduceLeDiff, Nat.reduceEqDiff, reduceIte, hix, hc, decide_true, List.nil_append, List.cons_append, hcv]
  refine call_of_pure hqr rfl ?_
  cases hm : q r
  ·simp only [RT, FS, ↓RE, okR, argEnv, Nat.reduceAdd, Nat.reduceSub, Nat.reduceLT, Nat.reduceLeDiff, Nat.reduceEqDiff, reduceIte, hw]
   exact ⟨i + 1, ⟨by omega, all_take hr hok (by simp [hm])⟩, by omega, by simp [headW, heapW, envW, blkLt, D.ltL, D.lt, look, hget, vx, hcl]⟩
  ·simp only [RT, FS, ↓RE, okR, argEnv, Nat.reduceAdd, Nat.reduceSub, Nat.reduceLT, Nat.reduceLeDiff, Nat.reduceEqDiff, reduceIte, hw]
   rw [firstI_at hok hr (by simp [hm])]; simp
 ·have hc : ((i : Int) < (l.length : Int)) = False := by simp; omega
  have : i = l.length := by omega
  subst this
  rw [List.take_length] at hok
  simp only [RT, FS, ↓RE, okR, argEnv, Nat.reduceAdd, Nat.reduceSub, Nat.reduceLT, Nat.reduceLeDiff, Nat.reduceEqDiff, reduceIte, hc, decide_false]
  rw [firstI_none hok]
theorem wms_has (l : List _) (x : D) (hx : En.sl enMs x = some l) (g : FuncId) (caps : List D) (q : _ → Bool) (hl : l.length ≤ 9223372036854775807) (hcl : ∀ m, D.ltL m caps = true) (hcv : ∀ h, viewL h caps = caps)
  (hq : ∀ a ∈ l, Pure Tryz.prog g (.agg (enMs.d a) :: caps) (.bool (q a))) : Pure Tryz.prog 70 [x, .fn (.func g) [] caps] (.bool (l.any q)) := by
 have vx := fun h => En.view hx h
 refine pure_of_wc (rs := [.tmp 4]) (m := 9) [] oNone_ok (by kernel_rfl) Tryz.func70 rfl (by kernel_rfl) rfl rfl (by kernel_rfl) ?_
 simp only [RT, FS, ↓RE, okR, argEnv, Nat.reduceAdd, Nat.reduceSub, Nat.reduceLT, Nat.reduceLeDiff, Nat.reduceEqDiff, reduceIte, vx, view_fn, hcv]
 refine call_of_pure (wms_ix l x hx g caps q hl hcl hcv hq) rfl ?_
 simp only [RT, FS, ↓RE, okR, argEnv, Nat.reduceAdd, Nat.reduceSub, Nat.reduceLT, Nat.reduceLeDiff, Nat.reduceEqDiff, reduceIte, firstI_ge]

def mBad (w : WatchW) (m : MsgW) : Bool := !freeB w.s.sh m.c || (decide (m.t < w.min) || (decide (m.came < m.t) || decide (1440 < m.came)))
def mailB (w : WatchW) (l : List MsgW) : Bool := !(l.any (mBad w))
theorem mail1_t (w : WatchW) (hb : BL w.s.sh) (m : MsgW) : Pure Tryz.prog 71 [.agg (enMs.d m), .ref w.c 0] (.bool (mBad w m)) := by
 have oF := gFree_eq hb m.c
 obtain ⟨⟨sw, sd, sh⟩, ⟨rl, lk⟩, cell, mi, ev, en, af⟩ := w
 obtain ⟨t, c, d, came⟩ := m
 simp only [WatchW.c, SkyW.c, NetW.c, List.cons_append, List.nil_append, enMs, mBad] at oF ⊢
 refine pure_of_wc (rs := [.tmp 3]) (m := 29) [] e13_ok (by kernel_rfl) Tryz.func71 rfl (by kernel_rfl) rfl rfl (by kernel_rfl) ?_
 cases q1 : freeB sh c
 ·simp only [RT, FS, ↓RE, okR, argEnv, Nat.reduceAdd, Nat.reduceSub, Nat.reduceLT, Nat.reduceLeDiff, Nat.reduceEqDiff, reduceIte, oF, q1, Bool.not_false, Bool.not_true]
 cases q2 : decide (t < mi)
 case true =>
  simp only [RT, FS, ↓RE, okR, argEnv, Nat.reduceAdd, Nat.reduceSub, Nat.reduceLT, Nat.reduceLeDiff, Nat.reduceEqDiff, reduceIte, oF, q1, q2, Bool.not_false, Bool.not_true]
 cases q3 : decide (came < t)
 case true =>
  simp only [RT, FS, ↓RE, okR, argEnv, Nat.reduceAdd, Nat.reduceSub, Nat.reduceLT, Nat.reduceLeDiff, Nat.reduceEqDiff, reduceIte, oF, q1, q2, q3, Bool.not_false, Bool.not_true]
 simp only [RT, FS, ↓RE, okR, argEnv, Nat.reduceAdd, Nat.reduceSub, Nat.reduceLT, Nat.reduceLeDiff, Nat.reduceEqDiff, reduceIte, oF, q1, q2, q3, Bool.not_false, Bool.not_true]
 rfl
theorem mail_t (w : WatchW) (hw : WatchL w) (l : List MsgW) (hl : BL l) : Pure Tryz.prog 44 [.agg w.c, msD l] (.bool (mailB w l)) := by
 have hp := wms_has l (msD l) (En.sl_map (E := enMs) l) 71 [.ref w.c 0] (mBad w) hl (fun _ => by simp [D.ltL, D.lt]) (fun _ => rfl) (fun m _ => mail1_t w hw.s m)
 unfold mailB
 obtain ⟨⟨sw, sd, sh⟩, ⟨rl, lk⟩, cell, mi, ev, en, af⟩ := w
 simp only [WatchW.c, SkyW.c, NetW.c, List.cons_append, List.nil_append] at hp ⊢
 refine pure_of_wc (rs := [.tmp 4]) (m := 9) [] e13_ok (by kernel_rfl) Tryz.func44 rfl (by kernel_rfl) rfl rfl (by kernel_rfl) ?_
 simp only [RT, FS, ↓RE, okR, argEnv, Nat.reduceAdd, Nat.reduceSub, Nat.reduceLT, Nat.reduceLeDiff, Nat.reduceEqDiff, reduceIte]
 refine call_of_pure hp rfl ?_
 simp only [RT, FS, ↓RE, okR, argEnv, Nat.reduceAdd, Nat.reduceSub, Nat.reduceLT, Nat.reduceLeDiff, Nat.reduceEqDiff, reduceIte]
theorem mBad_ref (w : WatchW) (m : MsgW) : (!freeB w.s.sh m.c || (!rI m.t w.min m.came || decide (1440 < m.came))) = mBad w m := by
 unfold mBad
 rw [Bool.eq_iff_iff]
 cases freeB w.s.sh m.c <;> simp [rI]
 omega
theorem r_Mail_t (w : WatchW) (hw : WatchL w) (l : List MsgW) (hl : BL l) : Pure Tryz.prog 18 [.agg w.c, msD l] (.bool (mailB w l)) := by
 have oF := fun c => gFree_eq hw.s c
 have hmb := mBad_ref w
 unfold mailB
 generalize mBad w = B at *
 obtain ⟨⟨sw, sd, sh⟩, ⟨rl, lk⟩, cell, mi, ev, en, af⟩ := w
 simp only [WatchW.c, SkyW.c, NetW.c, List.cons_append, List.nil_append] at oF hmb ⊢
 refine pure_of_wc (rs := [.tmp 4]) (m := 38) [] e13_ok (by kernel_rfl) Tryz.func18 rfl (by kernel_rfl) rfl rfl (by kernel_rfl) ?_
 simp only [RT, FS, ↓RE, okR, argEnv, Nat.reduceAdd, Nat.reduceSub, Nat.reduceLT, Nat.reduceLeDiff, Nat.reduceEqDiff, reduceIte]
 refine loopV (ι := Nat) e13_ok [] (fun i => [(1, msD l), (2, .ptr 0 0), (5, .int .i64 (i : Int))])
  (fun i => [(0, .box [.int .i64 sw, .int .i64 sd, shD sh, rlD rl, lkD lk, .int .i64 cell, .int .i64 mi, .int .i64 ev, .int .i64 en, inD af])]) 1 (fun i => i ≤ l.length ∧ (l.take i).all (fun s => !B s) = true) (fun i => l.length - i) 0 (by kernel_rfl) (by kernel_rfl) ⟨Nat.zero_le _, by simp⟩ ?_ ?_
 ·simp [headW, heapW, envW, blkLt, D.ltL, D.lt, look, hget]
 rintro i ⟨hil, hok⟩
 rcases Nat.lt_or_ge i l.length with hlt | hge
 ·have hc := nat_lt_true hlt
  obtain ⟨⟨t, c, d, came⟩, hr⟩ : ∃ r, l[i]? = some r := ⟨l[i], by simp [hlt]⟩
  have hix := msD_ix hr
  have oF1 := oF c
  have hb := hmb ⟨t, c, d, came⟩
  dsimp only at hix hb
  have hw1 := wrap_i64 (z := (i : Int) + 1) (by omega) (by omega)
  cases hq : B ⟨t, c, d, came⟩
  ·rw [hq] at hb
   simp only [Bool.or_eq_false_iff, Bool.not_eq_false'] at hb
   simp only [RT, FS, ↓RE, okR, argEnv, Nat.reduceAdd, Nat.reduceSub, Nat.reduceLT, Nat.reduceLeDiff, Nat.reduceEqDiff, reduceIte, List.length_map, hix, hc, decide_true, oF1, gI3_eq, hb.1, hb.2.1, hb.2.2, hw1, Bool.not_true]
   exact ⟨i + 1, ⟨by omega, all_cut hr hok (by simp [hq])⟩, by omega, by simp [headW, heapW, envW, blkLt, D.ltL, D.lt, look, hget]⟩
  ·rw [hq] at hb
   rw [any_out hr hq]
   cases h1 : freeB sh c
   ·simp only [RT, FS, ↓RE, okR, argEnv, Nat.reduceAdd, Nat.reduceSub, Nat.reduceLT, Nat.reduceLeDiff, Nat.reduceEqDiff, reduceIte, List.length_map, hix, hc, decide_true, oF1, gI3_eq, h1, hw1, Bool.not_true, Bool.not_false]
   cases h2 : rI t mi came
   ·simp only [RT, FS, ↓RE, okR, argEnv, Nat.reduceAdd, Nat.reduceSub, Nat.reduceLT, Nat.reduceLeDiff, Nat.reduceEqDiff, reduceIte, List.length_map, hix, hc, decide_true, oF1, gI3_eq, h1, h2, hw1, Bool.not_true, Bool.not_false]
   have h3 : decide (1440 < came) = true := by simpa [h1, h2] using hb
   simp only [RT, FS, ↓RE, okR, argEnv, Nat.reduceAdd, Nat.reduceSub, Nat.reduceLT, Nat.reduceLeDiff, Nat.reduceEqDiff, reduceIte, List.length_map, hix, hc, decide_true, oF1, gI3_eq, h1, h2, h3, hw1, Bool.not_true, Bool.not_false]
 ·have hc := nat_lt_false hge
  have : i = l.length := by omega
  subst this
  rw [List.take_length] at hok
  have ha := any_none hok
  simp only [RT, FS, ↓RE, okR, argEnv, Nat.reduceAdd, Nat.reduceSub, Nat.reduceLT, Nat.reduceLeDiff, Nat.reduceEqDiff, reduceIte, List.length_map, hc, decide_false, ha, Bool.not_false]
end Go.Sx

namespace Go.Sx
open Go.Proofs
set_option maxRecDepth 10000

def knB (now : Int) (m : MsgW) : Bool := decide (m.came ≤ now)
def knownL (l : List MsgW) (now : Int) : List MsgW := l.filter (knB now)
def folC (w : WatchW) (l : List MsgW) (now : Int) : List D := w.c ++ [msD (knownL l now), .int .i64 now]
set_option maxHeartbeats 1000000 in
theorem follow_t (w : WatchW) (l : List MsgW) (hl : l.length ≤ 1000) (now : Int) : Pure Tryz.prog 26 [.agg w.c, msD l, .int .i64 now] (.ref (folC w l now) 0) := by
 unfold folC knownL
 obtain ⟨⟨sw, sd, sh⟩, ⟨rl, lk⟩, cell, mi, ev, en, af⟩ := w
 simp only [WatchW.c, SkyW.c, NetW.c, List.cons_append, List.nil_append]
 refine pure_of_pieces (rs := [.tmp 6]) (m := 36) [(6, [(11, false, false, [])])] oNone_ok (by kernel_rfl) Tryz.func26 rfl (by kernel_rfl) rfl rfl (by kernel_rfl) ?_
 refine awp_peel (T := [(6, [(11, false, false, [])])]) oNone_ok (by kernel_rfl) (by kernel_rfl) ?_
 simp only [RT, FS, ↓RE, okR, argEnv, Nat.reduceAdd, Nat.reduceSub, Nat.reduceLT, Nat.reduceLeDiff, Nat.reduceEqDiff, reduceIte, RM, List.length_map]
 refine awp_peel (T := [(6, [(11, false, false, [])])]) oNone_ok (by kernel_rfl) (by kernel_rfl) ?_
 simp only [RT, FS, ↓RE, okR, argEnv, Nat.reduceAdd, Nat.reduceSub, Nat.reduceLT, Nat.reduceLeDiff, Nat.reduceEqDiff, reduceIte, RM, List.length_map]
 refine awp_seq ?_
 refine awp_rest (T := [(6, [(11, false, false, [])])]) oNone_ok (by kernel_rfl) (by kernel_rfl) ?_
 simp only [RT, FS, ↓RE, okR, argEnv, Nat.reduceAdd, Nat.reduceSub, Nat.reduceLT, Nat.reduceLeDiff, Nat.reduceEqDiff, reduceIte, RM, List.length_map]
 obtain ⟨p, hp⟩ : ∃ p, p = knB now := ⟨_, rfl⟩
 have hpm : ∀ m : MsgW, decide (m.came ≤ now) = p m := fun m => by rw [hp]; rfl
 rw [← hp]
 refine loopNilB 1 10 [.int .i64 sw, .int .i64 sd, shD sh, rlD rl, lkD lk, .int .i64 cell, .int .i64 mi, .int .i64 ev, .int .i64 en, inD af, .nils, .int .i64 now] 61 4 rfl rfl ?_
 refine loopV (ι := Nat) oNone_ok [(6, [(11, false, false, [])])] (fun i => [(2, .int .i64 now), (7, .ptr 1 0), (14, msD l), (15, .int .i64 (l.length : Int)), (16, .int .i64 (i : Int))])
  (fun i => [(2, .arr 61 4 (((l.take i).filter p).map enMs.d)), (1, .box [.int .i64 sw, .int .i64 sd, shD sh, rlD rl, lkD lk, .int .i64 cell, .int .i64 mi, .int .i64 ev, .int .i64 en, inD af, .osl 2 ((l.take i).filter p).length, .int .i64 now])]) 3 (fun i => i ≤ l.length) (fun i => l.length - i) 0 (by kernel_rfl) (by kernel_rfl) (Nat.zero_le _) ?_ ?_
 ·simp [headW, heapW, envW, blkLt, D.ltL, D.lt, look, hget, hset]
 intro i hil
 rcases Nat.lt_or_ge i l.length with hlt | hge
 ·have hc := nat_lt_true hlt
  obtain ⟨⟨t, c, d, came⟩, hr⟩ : ∃ r, l[i]? = some r := ⟨l[i], by simp [hlt]⟩
  have hix := msD_ix hr
  have hw1 := wrap_i64 (z := (i : Int) + 1) (by omega) (by omega)
  have hft := filter_take (p := p) hr
  have hpm1 := hpm ⟨t, c, d, came⟩
  dsimp only at hix hpm1
  have hfl : ((l.take i).filter p).length ≤ i := Nat.le_trans (List.length_filter_le _ _) (by rw [List.length_take]; omega)
  cases hq : p ⟨t, c, d, came⟩
  ·rw [hq] at hft hpm1
   simp only [Bool.false_eq_true, if_false, List.append_nil] at hft
   simp only [RT, FS, ↓RE, okR, argEnv, Nat.reduceAdd, Nat.reduceSub, Nat.reduceLT, Nat.reduceLeDiff, Nat.reduceEqDiff, reduceIte, RM, hc, decide_true, hix, hpm1, hw1]
   exact ⟨i + 1, by omega, by omega, by rw [hft]; simp [headW, heapW, envW, blkLt, D.ltL, D.lt, look, hget]⟩
  ·rw [hq] at hft hpm1
   simp only [if_true] at hft
   have hd2 := fun h => litD_agg (P := Tryz.prog) Fz.und_32 Fz.size_61 Fz.zero_61 rfl (by omega) (by omega) h [.int .i64 t, .int .i64 c, .bool d, .int .i64 came] rfl rfl
   have ha := fun h nid (hb : hget h 2 = some (.arr 61 4 (((l.take i).filter p).map enMs.d))) => app_sl (P := Tryz.prog) (h := h) (nid := nid) Fz.und_32 Fz.size_61 Fz.zero_61 rfl (by omega) Fz.bytes_61_32 (b := 2) (n := ((l.take i).filter p).length) (xs := [[.int .i64 t, .int .i64 c, .bool d, .int .i64 came]]) hb (List.length_map _).symm rfl (by simp; omega) (by simp; omega)
   simp only [RT, FS, ↓RE, okR, argEnv, Nat.reduceAdd, Nat.reduceSub, Nat.reduceLT, Nat.reduceLeDiff, Nat.reduceEqDiff, reduceIte, RM, hc, decide_true, hix, hpm1, hw1, hd2, ha, cells_osl, cur_osl, curC_arr, List.length_map, List.length_append]
   exact ⟨i + 1, by omega, by omega, by rw [hft]; simp [headW, heapW, envW, blkLt, D.ltL, D.lt, look, hget, enMs]⟩
 ·have hc := nat_lt_false hge
  have : i = l.length := by omega
  subst this
  rw [List.take_length]
  simp only [RT, FS, ↓RE, okR, argEnv, Nat.reduceAdd, Nat.reduceSub, Nat.reduceLT, Nat.reduceLeDiff, Nat.reduceEqDiff, reduceIte, RM, hc, decide_false]
  refine awp_imp (imp_thaw 2 (.weak (weak_of (e := [(7, .ptr 1 0)]) (h := [(1, .box [.int .i64 sw, .int .i64 sd, shD sh, rlD rl, lkD lk, .int .i64 cell, .int .i64 mi, .int .i64 ev, .int .i64 en, inD af, msD (l.filter p), .int .i64 now])]) (nid := 3) (n := 36) ?_))) ?_
  ·simp [headW, heapW, envW, blkLt, D.ltL, D.lt, look, hget, frzHH, frzBlk, herase, fz_int, fz_sl, fz_ref, fz_ptr, fz_osl, fzC_arr, fzC_some, fz_bool, fz_nils, fz_agg, fzP]
  refine awp_rest (T := [(6, [(11, false, false, [])])]) oNone_ok (by kernel_rfl) (by kernel_rfl) ?_
  simp only [RT, FS, ↓RE, okR, argEnv, Nat.reduceAdd, Nat.reduceSub, Nat.reduceLT, Nat.reduceLeDiff, Nat.reduceEqDiff, reduceIte, RM]
end Go.Sx

namespace Go.Sx
open Go.Proofs
set_option maxRecDepth 10000

def contactI (mn : Int) (kn : List MsgW) : Int := kn.foldl (fun o m => max o m.t) mn
def lateB (w : WatchW) (ct now a : Int) : Bool := decide (a ≤ now - ct - w.every)
def stageI (w : WatchW) (kn : List MsgW) (now : Int) : Int := if kn.any (·.d) then 0 else ((w.aft.filter (lateB w (contactI w.min kn) now)).length : Int)
theorem contact_b : ∀ (kn : List MsgW) (mn : Int), (0 ≤ mn ∧ mn ≤ 1440) → (∀ m ∈ kn, 0 ≤ m.t ∧ m.t ≤ 1440) → 0 ≤ contactI mn kn ∧ contactI mn kn ≤ 1440
 | [], mn, h, _ => h
 | m :: kn, mn, h, hk => contact_b kn (max mn m.t) (by have := hk m (by simp); omega) fun x hx => hk x (by simp [hx])
set_option maxHeartbeats 1000000 in
theorem stage_t {w : WatchW} (hw : WatchOk w) {l : List MsgW} {now : Int} (hl : l.length ≤ 1000) (hk : ∀ m ∈ l, 0 ≤ m.t ∧ m.t ≤ 1440) (hnow : 0 ≤ now ∧ now ≤ 1440) :
  Pure Tryz.prog 52 [.ref (folC w l now) 0] (.int .i64 (stageI w (knownL l now) now)) := by
 have hkl : (knownL l now).length ≤ 1000 := Nat.le_trans (List.length_filter_le _ _) hl
 have hkk : ∀ m ∈ knownL l now, 0 ≤ m.t ∧ m.t ≤ 1440 := fun m hm => hk m (List.mem_filter.1 hm).1
 have hm := hw.m
 have he := hw.e
 have ha := hw.a
 unfold folC stageI
 generalize knownL l now = kn at *
 have hcb := contact_b kn w.min hm hkk
 obtain ⟨q, hq⟩ : ∃ q, q = lateB w (contactI w.min kn) now := ⟨_, rfl⟩
 have hqa : ∀ a : Int, decide (a ≤ now - contactI w.min kn - w.every) = q a := fun a => by rw [hq]; rfl
 rw [← hq]
 clear hq hk hl
 have hct : contactI w.min kn = kn.foldl (fun o m => max o m.t) w.min := rfl
 generalize contactI w.min kn = ct at *
 obtain ⟨⟨sw, sd, sh⟩, ⟨rl, lk⟩, cell, mi, ev, en, af⟩ := w
 simp only [WatchW.c, SkyW.c, NetW.c, List.cons_append, List.nil_append] at *
 refine pure_of_wc (rs := [.tmp 2]) (m := 58) [(13, [(14, false, false, [])])] oNone_ok (by kernel_rfl) Tryz.func52 rfl (by kernel_rfl) rfl rfl (by kernel_rfl) ?_
 simp only [RT, FS, ↓RE, okR, argEnv, Nat.reduceAdd, Nat.reduceSub, Nat.reduceLT, Nat.reduceLeDiff, Nat.reduceEqDiff, reduceIte, RM, List.length_map]
 refine loopV (ι := Nat × Int) oNone_ok [(13, [(14, false, false, [])])] (fun i => [(0, .ref [.int .i64 sw, .int .i64 sd, shD sh, rlD rl, lkD lk, .int .i64 cell, .int .i64 mi, .int .i64 ev, .int .i64 en, inD af, msD kn, .int .i64 now] 0), (3, .int .i64 i.2), (17, msD kn), (18, .int .i64 (kn.length : Int)), (19, .int .i64 (i.1 : Int))])
  (fun i => []) 0 (fun i => i.1 ≤ kn.length ∧ (kn.take i.1).all (fun m => !m.d) = true ∧ (kn.drop i.1).foldl (fun o m => max o m.t) i.2 = ct) (fun i => kn.length - i.1) (0, mi) (by kernel_rfl) (by kernel_rfl) ⟨Nat.zero_le _, by simp, hct.symm⟩ ?_ ?_
 ·simp [headW, heapW, envW, blkLt, D.ltL, D.lt, look, hget]
 rintro ⟨i, o⟩ ⟨hil, hok, hfo⟩
 dsimp only at hil hok hfo ⊢
 rcases Nat.lt_or_ge i kn.length with hlt | hge
 ·have hc := nat_lt_true hlt
  obtain ⟨⟨t, c, d, came⟩, hr⟩ : ∃ r, kn[i]? = some r := ⟨kn[i], by simp [hlt]⟩
  have hix := msD_ix hr
  have hw1 := wrap_i64 (z := (i : Int) + 1) (by omega) (by omega)
  rw [drop_fold hr] at hfo
  dsimp only at hix hfo
  cases d
  ·simp only [RT, FS, ↓RE, okR, argEnv, Nat.reduceAdd, Nat.reduceSub, Nat.reduceLT, Nat.reduceLeDiff, Nat.reduceEqDiff, reduceIte, RM, hc, decide_true, hix, hw1]
   exact ⟨(i + 1, max o t), ⟨by simp only; omega, all_cut hr hok rfl, hfo⟩, by simp only; omega, by simp [headW, heapW, envW, blkLt, D.ltL, D.lt, look, hget]⟩
  ·simp only [RT, FS, ↓RE, okR, argEnv, Nat.reduceAdd, Nat.reduceSub, Nat.reduceLT, Nat.reduceLeDiff, Nat.reduceEqDiff, reduceIte, RM, hc, decide_true, hix, hw1]
   rw [any_out hr rfl]; rfl
 have hc := nat_lt_false hge
 have : i = kn.length := by omega
 subst this
 rw [List.take_length] at hok
 rw [List.drop_length] at hfo
 have ho : o = ct := hfo
 subst ho
 have hany : kn.any (·.d) = false := any_none hok
 rw [hany]
 simp only [Bool.false_eq_true, if_false]
 simp only [RT, FS, ↓RE, okR, argEnv, Nat.reduceAdd, Nat.reduceSub, Nat.reduceLT, Nat.reduceLeDiff, Nat.reduceEqDiff, reduceIte, RM, hc, decide_false, List.length_map]
 have hw2 := wrap_i64 (z := now - o) (by omega) (by omega)
 have hw3 := wrap_i64 (z := now - o - ev) (by omega) (by omega)
 refine loopV (ι := Nat) oNone_ok [(13, [(14, false, false, [])])] (fun i => [(0, .ref [.int .i64 sw, .int .i64 sd, shD sh, rlD rl, lkD lk, .int .i64 cell, .int .i64 mi, .int .i64 ev, .int .i64 en, inD af, msD kn, .int .i64 now] 0), (3, .int .i64 o), (6, .int .i64 (((af.take i).filter q).length : Int)), (34, inD af), (35, .int .i64 (af.length : Int)), (36, .int .i64 (i : Int))])
  (fun i => []) 0 (fun i => i ≤ af.length) (fun i => af.length - i) 0 (by kernel_rfl) (by kernel_rfl) (Nat.zero_le _) ?_ ?_
 ·simp [headW, heapW, envW, blkLt, D.ltL, D.lt, look, hget]
 intro i hil2
 rcases Nat.lt_or_ge i af.length with hlt | hge2
 ·have hc := nat_lt_true hlt
  obtain ⟨x, hr⟩ : ∃ r, af[i]? = some r := ⟨af[i], by simp [hlt]⟩
  have hix := aft_ix hr
  have hw1 := wrap_i64 (z := (i : Int) + 1) (by omega) (by omega)
  have hft := filter_take (p := q) hr
  have hqx := hqa x
  have hfl : ((af.take i).filter q).length ≤ i := Nat.le_trans (List.length_filter_le _ _) (by rw [List.length_take]; omega)
  have hw4 := wrap_i64 (z := (((af.take i).filter q).length : Int) + 1) (by omega) (by omega)
  cases hx : q x
  ·rw [hx] at hft hqx
   simp only [Bool.false_eq_true, if_false, List.append_nil] at hft
   simp only [RT, FS, ↓RE, okR, argEnv, Nat.reduceAdd, Nat.reduceSub, Nat.reduceLT, Nat.reduceLeDiff, Nat.reduceEqDiff, reduceIte, RM, hc, decide_true, hix, hw1, hw2, hw3, hqx]
   exact ⟨i + 1, by omega, by omega, by rw [hft]; simp [headW, heapW, envW, blkLt, D.ltL, D.lt, look, hget]⟩
  ·rw [hx] at hft hqx
   simp only [if_true] at hft
   simp only [RT, FS, ↓RE, okR, argEnv, Nat.reduceAdd, Nat.reduceSub, Nat.reduceLT, Nat.reduceLeDiff, Nat.reduceEqDiff, reduceIte, RM, hc, decide_true, hix, hw1, hw2, hw3, hw4, hqx]
   exact ⟨i + 1, by omega, by omega, by rw [hft]; simp [headW, heapW, envW, blkLt, D.ltL, D.lt, look, hget]⟩
 ·have hc := nat_lt_false hge2
  have : i = af.length := by omega
  subst this
  rw [List.take_length]
  simp only [RT, FS, ↓RE, okR, argEnv, Nat.reduceAdd, Nat.reduceSub, Nat.reduceLT, Nat.reduceLeDiff, Nat.reduceEqDiff, reduceIte, RM, hc, decide_false]
end Go.Sx

namespace Go.Sx
open Go.Proofs
set_option maxRecDepth 10000

def askedI (w : WatchW) (l : List MsgW) (now : Int) : Int := if 60 < l.length then 3 else if (watchB w && (mailB w l && rI now w.min 1440)) = true then 0 else 2
noncomputable def gMail : List D → Option D := orcF (fun p : WatchW × List MsgW => WatchL p.1 ∧ BL p.2) (fun p => [.agg p.1.c, msD p.2]) (fun p => .bool (mailB p.1 p.2))
theorem gMail_eq {w : WatchW} (hw : WatchL w) {l : List MsgW} (hl : BL l) : gMail [.agg w.c, msD l] = some (.bool (mailB w l)) :=
 orcF_eq (ok := fun p : WatchW × List MsgW => WatchL p.1 ∧ BL p.2) (dsf := fun p => [.agg p.1.c, msD p.2]) (rf := fun p => .bool (mailB p.1 p.2)) (w, l) ⟨hw, hl⟩ fun q hq => by
  simp only [List.cons.injEq, D.agg.injEq, and_true] at hq
  rw [WatchW.c_inj hq.1, En.map_inj (E := enMs) hq.2]
noncomputable abbrev e22 : List (FuncId × (List D → Option D)) := (44, gMail) :: (18, gMail) :: e13
theorem e22_ok : OkO Tryz.prog (mkO e22) := mkO_ok (orcF_ok fun p h => mail_t p.1 h.1 p.2 h.2) <| mkO_ok (orcF_ok fun p h => r_Mail_t p.1 h.1 p.2 h.2) e13_ok
theorem asked_t {w : WatchW} (hw : WatchL w) {l : List MsgW} (hl : BL l) (now : Int) : Pure Tryz.prog 25 [.agg w.c, msD l, .int .i64 now] (.int .i64 (askedI w l now)) := by
 have oW := gWatch_eq hw
 have oM := gMail_eq hw hl
 unfold askedI
 generalize watchB w = B at *
 generalize mailB w l = M at *
 obtain ⟨⟨sw, sd, sh⟩, ⟨rl, lk⟩, cell, mi, ev, en, af⟩ := w
 simp only [WatchW.c, SkyW.c, NetW.c, List.cons_append, List.nil_append] at *
 refine pure_of_wc (rs := [.tmp 6]) (m := 26) [] e22_ok (by kernel_rfl) Tryz.func25 rfl (by kernel_rfl) rfl rfl (by kernel_rfl) ?_
 by_cases h60 : 60 < l.length
 ·have q : decide ((60 : Int) < (l.length : Int)) = true := by simp; omega
  rw [if_pos h60]
  simp only [RT, FS, ↓RE, okR, argEnv, Nat.reduceAdd, Nat.reduceSub, Nat.reduceLT, Nat.reduceLeDiff, Nat.reduceEqDiff, reduceIte, List.length_map, q]
 have q : decide ((60 : Int) < (l.length : Int)) = false := by simp; omega
 rw [if_neg h60]
 cases B
 ·simp only [RT, FS, ↓RE, okR, argEnv, Nat.reduceAdd, Nat.reduceSub, Nat.reduceLT, Nat.reduceLeDiff, Nat.reduceEqDiff, reduceIte, List.length_map, q, oW, Bool.not_false]
  simp
 cases M
 ·simp only [RT, FS, ↓RE, okR, argEnv, Nat.reduceAdd, Nat.reduceSub, Nat.reduceLT, Nat.reduceLeDiff, Nat.reduceEqDiff, reduceIte, List.length_map, q, oW, oM, Bool.not_false, Bool.not_true]
  simp
 cases hM : rI now mi 1440
 ·simp only [RT, FS, ↓RE, okR, argEnv, Nat.reduceAdd, Nat.reduceSub, Nat.reduceLT, Nat.reduceLeDiff, Nat.reduceEqDiff, reduceIte, List.length_map, q, oW, oM, gI3_eq, hM, Bool.not_false, Bool.not_true]
  simp
 simp only [RT, FS, ↓RE, okR, argEnv, Nat.reduceAdd, Nat.reduceSub, Nat.reduceLT, Nat.reduceLeDiff, Nat.reduceEqDiff, reduceIte, List.length_map, q, oW, oM, gI3_eq, hM, Bool.not_false, Bool.not_true]
structure AskOk (w : WatchW) (l : List MsgW) (now : Int) : Prop where
 ok : WatchOk w
 n : l.length ≤ 60
 b : w.min ≤ now ∧ now ≤ 1440
 m : ∀ m ∈ l, freeB w.s.sh m.c = true ∧ w.min ≤ m.t ∧ m.t ≤ m.came ∧ m.came ≤ 1440
theorem asked_ok {w : WatchW} {l : List MsgW} {now : Int} (h : askedI w l now = 0) : AskOk w l now := by
 unfold askedI at h
 split at h
 ·cases h
 ·split at h
  ·rename_i h1 h2
   simp only [Bool.and_eq_true] at h2
   refine ⟨watch_ok h2.1, by omega, rI_le h2.2.2, fun m hm => ?_⟩
   have := h2.2.1
   simp only [mailB, Bool.not_eq_true'] at this
   have := List.any_eq_false.1 this m hm
   simp only [mBad, Bool.or_eq_true, Bool.not_eq_true', decide_eq_true_eq, not_or, Bool.not_eq_false] at this
   exact ⟨this.1, by omega, by omega, by omega⟩
  ·cases h
theorem AskOk.t {w : WatchW} {l : List MsgW} {now : Int} (h : AskOk w l now) : ∀ m ∈ l, 0 ≤ m.t ∧ m.t ≤ 1440 := fun m hm => by
 have := h.m m hm; have := h.ok.m; omega
theorem folC_lt (w : WatchW) (l : List MsgW) (now : Int) (m : Nat) : D.ltL m (folC w l now) = true := by
 obtain ⟨⟨sw, sd, sh⟩, ⟨rl, lk⟩, cell, mi, ev, en, af⟩ := w
 simp [folC, WatchW.c, SkyW.c, NetW.c, D.ltL, D.lt]
end Go.Sx

namespace Go.Sx
open Go.Proofs
set_option maxRecDepth 10000

def prL (l : List (Int × Int)) : List (List D) := l.map enS.d
theorem prL_len (l : List (Int × Int)) : (prL l).length = l.length := by simp [prL]
theorem prL_ok (l : List (Int × Int)) : okSrc 2 (prL l) = true := by
 unfold okSrc prL
 rw [List.all_eq_true]
 intro e he
 obtain ⟨x, _, rfl⟩ := List.mem_map.1 he
 rfl
theorem oC_app {h : H} {b n b2 n2 : Nat} {l r : List (Int × Int)} (hb : hget h b = some (.arr 66 2 (prL l))) (hn : l.length = n) (hb2 : hget h b2 = some (.arr 66 2 (prL r))) (hn2 : r.length = n2) (nid : Nat) (hc : l.length + r.length ≤ 100000000000) :
  appE Tryz.prog h nid 57 57 (.osl b n) (.osl b2 n2) = some (.osl b (n + n2), hset h b (.arr 66 2 (prL (l ++ r))), nid) := by
 rw [app_osl Fz.und_57 Fz.size_66 Fz.zero_66 rfl (by omega) Fz.bytes_66_57 h nid b n b2 n2 hb (by rw [prL_len, hn]) hb2 (by rw [prL_len, hn2]) (prL_ok r) (by rw [prL_len, prL_len]; omega) (by rw [prL_len, prL_len]; omega), prL_len, prL_len, hn, hn2]
 simp [prL]
theorem litC_1 (h : H) (nid : Nat) (a b : Int) : litOpD Tryz.prog h nid 57 1 [(0, .agg [.int .i64 a, .int .i64 b])] = some (.osl nid 1, (nid, .arr 66 2 (prL [(a, b)])) :: h, nid + 1) := by kernel_rfl
def blkF (st : Int → Int) (mn : Int) (last : Int) (j : Nat) : List (Int × Int) := (List.range (st (mn + j) - last).toNat).map fun k : Nat => (mn + (j : Int), last + 1 + (k : Int))
def lastF (st : Int → Int) (mn : Int) : Nat → Int
 | 0 => 0
 | j + 1 => st (mn + j)
def callsF (st : Int → Int) (mn : Int) (n : Nat) : List (Int × Int) := (List.range n).flatMap fun j => blkF st mn (lastF st mn j) j
theorem callsF_succ (st : Int → Int) (mn : Int) (n : Nat) : callsF st mn (n + 1) = callsF st mn n ++ blkF st mn (lastF st mn n) n := by
 simp [callsF, List.range_succ, List.flatMap_append]
theorem callsF_len {st : Int → Int} {mn : Int} (hs : ∀ t, 0 ≤ st t ∧ st t ≤ 8) : ∀ n, (callsF st mn n).length ≤ 8 * n
 | 0 => by simp [callsF]
 | n + 1 => by
  rw [callsF_succ, List.length_append]
  have := callsF_len (mn := mn) hs n
  have h1 : 0 ≤ lastF st mn n := by cases n with
   | zero => exact Int.le_refl _
   | succ n => exact (hs _).1
  have h2 := (hs (mn + n)).2
  simp only [blkF, List.length_map, List.length_range]
  omega
def stF (w : WatchW) (l : List MsgW) (t : Int) : Int := stageI w (knownL l t) t
theorem stF_b {w : WatchW} (hw : WatchOk w) (l : List MsgW) (t : Int) : 0 ≤ stF w l t ∧ stF w l t ≤ 8 := by
 unfold stF stageI
 split
 ·omega
 ·have := List.length_filter_le (lateB w (contactI w.min (knownL l t)) t) w.aft
  have := hw.a
  omega
def CallsR (w : WatchW) (l : List MsgW) (now : Int) : D := if askedI w l now = 0 then .tup [.sl (prL (callsF (stF w l) w.min (now - w.min + 1).toNat)), .int .i64 0] else .tup [.nils, .int .i64 (askedI w l now)]
set_option maxHeartbeats 2000000 in
theorem Calls_t {w : WatchW} (hw : WatchL w) {l : List MsgW} (hl : BL l) (now : Int) : Pure Tryz.prog 22 [.agg w.c, msD l, .int .i64 now] (CallsR w l now) := by
 have pa := asked_t hw hl now
 unfold CallsR
 by_cases h0 : askedI w l now = 0
 ·have ho := asked_ok h0
  have hm := ho.ok.m
  have hb := ho.b
  have hnl := ho.n
  have pf := fun t => follow_t w l (by omega) t
  have ps := fun t (h : 0 ≤ t ∧ t ≤ 1440) => stage_t ho.ok (l := l) (by omega) ho.t (now := t) h
  have hst := fun t => stF_b ho.ok l t
  have hstd : ∀ t, stageI w (knownL l t) t = stF w l t := fun _ => rfl
  simp only [hstd] at ps
  rw [if_pos h0]
  rw [h0] at pa
  have hz : ((0 : Int) != 0) = false := rfl
  generalize folC w l = FC at *
  generalize stF w l = st at *
  obtain ⟨⟨sw, sd, sh⟩, ⟨rl, lk⟩, cell, mi, ev, en, af⟩ := w
  dsimp only at hm hb
  simp only [WatchW.c, SkyW.c, NetW.c, List.cons_append, List.nil_append] at pa pf ps ⊢
  clear hstd h0 hw hl ho
  obtain ⟨N, hN⟩ : ∃ N : Nat, now = mi + N := ⟨(now - mi).toNat, by omega⟩
  subst hN
  rw [show (mi + (N : Int) - mi + 1).toNat = N + 1 by omega]
  refine pure_of_wc (rs := [.tmp 6, .tmp 7]) (m := 48) [] oNone_ok (by kernel_rfl) Tryz.func22 rfl (by kernel_rfl) rfl rfl (by kernel_rfl) ?_
  simp only [RT, FS, ↓RE, okR, argEnv, Nat.reduceAdd, Nat.reduceSub, Nat.reduceLT, Nat.reduceLeDiff, Nat.reduceEqDiff, reduceIte]
  refine call_of_pure pa rfl ?_
  simp only [RT, FS, ↓RE, okR, argEnv, Nat.reduceAdd, Nat.reduceSub, Nat.reduceLT, Nat.reduceLeDiff, Nat.reduceEqDiff, reduceIte, hz]
  refine loopNil 9 66 2 rfl ?_
  refine loopV (ι := Nat) oNone_ok [] (fun i => [(1, msD l), (2, .int .i64 (mi + (N : Int))), (3, .ptr 0 0), (9, .osl 1 (callsF st mi i).length), (10, .int .i64 (lastF st mi i)), (11, .int .i64 (mi + (i : Int)))])
   (fun i => [(1, .arr 66 2 (prL (callsF st mi i))), (0, .box [.int .i64 sw, .int .i64 sd, shD sh, rlD rl, lkD lk, .int .i64 cell, .int .i64 mi, .int .i64 ev, .int .i64 en, inD af])]) 2 (fun i => i ≤ N + 1) (fun i => N + 1 - i) 0 (by kernel_rfl) (by kernel_rfl) (Nat.zero_le _) ?_ ?_
  ·simp [headW, heapW, envW, blkLt, D.ltL, D.lt, look, hget, hset, eset_cons, eset_nil, callsF, lastF, prL]
  intro i hil
  rcases Nat.lt_or_ge i (N + 1) with hlt | hge
  ·have hc : (mi + (i : Int) ≤ mi + (N : Int)) = True := by simp; omega
   have hw1 : IntKind.i64.wrap (mi + (i : Int) + 1) = mi + ((i + 1 : Nat) : Int) := by rw [wrap_i64 (by omega) (by omega)]; omega
   have pf1 := pf (mi + i)
   have ps1 := ps (mi + i) ⟨by omega, by omega⟩
   have hb1 := hst (mi + i)
   have hlast : 0 ≤ lastF st mi i ∧ lastF st mi i ≤ 8 := by cases i with
    | zero => simp [lastF]
    | succ i => exact hst _
   have hS := callsF_succ st mi i
   have hln := callsF_len (mn := mi) hst i
   have hl1 : lastF st mi (i + 1) = st (mi + i) := rfl
   simp only [blkF] at hS
   generalize lastF st mi i = la at *
   generalize callsF st mi i = C at *
   generalize hstn : st (mi + i) = sn at *
   have hw2 := wrap_i64 (z := la + 1) (by omega) (by omega)
   simp only [RT, FS, ↓RE, okR, argEnv, Nat.reduceAdd, Nat.reduceSub, Nat.reduceLT, Nat.reduceLeDiff, Nat.reduceEqDiff, reduceIte, hc, decide_true]
   refine call_of_pure' pf1 (by simp [D.ltL, D.lt]) (by simp [D.lt]) ?_
   simp only [RT, FS, ↓RE, okR, argEnv, Nat.reduceAdd, Nat.reduceSub, Nat.reduceLT, Nat.reduceLeDiff, Nat.reduceEqDiff, reduceIte]
   refine call_of_pure' ps1 (by simp [D.ltL, D.lt]) (by simp [D.lt]) ?_
   simp only [RT, FS, ↓RE, okR, argEnv, Nat.reduceAdd, Nat.reduceSub, Nat.reduceLT, Nat.reduceLeDiff, Nat.reduceEqDiff, reduceIte, hw2]
   obtain ⟨G, hG⟩ : ∃ G : Nat → List (Int × Int), G = fun k => C ++ (List.range k).map fun k : Nat => (mi + (i : Int), la + 1 + (k : Int)) := ⟨_, rfl⟩
   have hG0 : G 0 = C := by rw [hG]; simp
   have hGS : ∀ k, G (k + 1) = G k ++ [(mi + (i : Int), la + 1 + (k : Int))] := fun k => by rw [hG]; simp [List.range_succ]
   have hGl : ∀ k, (G k).length = C.length + k := fun k => by rw [hG]; simp
   have hGe : callsF st mi (i + 1) = G (sn - la).toNat := by rw [hG, hS]
   refine loopV (ι := Nat) oNone_ok [] (fun k => [(1, msD l), (2, .int .i64 (mi + (N : Int))), (3, .ptr 0 0), (9, .osl 1 (G k).length), (11, .int .i64 (mi + (i : Int))), (12, .int .i64 sn), (13, .int .i64 (la + 1 + (k : Int)))])
    (fun k => [(1, .arr 66 2 (prL (G k))), (0, .box [.int .i64 sw, .int .i64 sd, shD sh, rlD rl, lkD lk, .int .i64 cell, .int .i64 mi, .int .i64 ev, .int .i64 en, inD af])]) 2 (fun k => k ≤ (sn - la).toNat) (fun k => (sn - la).toNat - k) 0 (by kernel_rfl) (by kernel_rfl) (Nat.zero_le _) ?_ ?_
   ·rw [hG0]
    simp [headW, heapW, envW, blkLt, D.ltL, D.lt, look, hget]
   intro k hkl
   rcases Nat.lt_or_ge k (sn - la).toNat with hlt2 | hge2
   ·have hc2 : (la + 1 + (k : Int) ≤ sn) = True := by simp; omega
    have hw3 : IntKind.i64.wrap (la + 1 + (k : Int) + 1) = la + 1 + ((k + 1 : Nat) : Int) := by rw [wrap_i64 (by omega) (by omega)]; omega
    have hgl := hGl k
    have hgs := hGS k
    generalize G k = S at *
    have hl2 := fun h nid => litC_1 h nid (mi + i) (la + 1 + k)
    have a7 := fun h nid (hb : hget h 1 = some (.arr 66 2 (prL S))) (hb2 : hget h 2 = some (.arr 66 2 (prL [(mi + (i : Int), la + 1 + (k : Int))]))) => oC_app (n := S.length) (n2 := 1) (r := [(mi + (i : Int), la + 1 + (k : Int))]) hb rfl hb2 rfl nid (by simp; omega)
    simp only [RT, FS, ↓RE, okR, argEnv, Nat.reduceAdd, Nat.reduceSub, Nat.reduceLT, Nat.reduceLeDiff, Nat.reduceEqDiff, reduceIte, RM, hc2, decide_true, hl2, a7, hw3]
    exact ⟨k + 1, by omega, by omega, by rw [hgs]; simp [headW, heapW, envW, blkLt, D.ltL, D.lt, look, hget]⟩
   ·have hc2 : (la + 1 + (k : Int) ≤ sn) = False := by simp; omega
    have hk : k = (sn - la).toNat := by omega
    subst hk
    simp only [RT, FS, ↓RE, okR, argEnv, Nat.reduceAdd, Nat.reduceSub, Nat.reduceLT, Nat.reduceLeDiff, Nat.reduceEqDiff, reduceIte, RM, hc2, decide_false, hw1]
    exact ⟨i + 1, by omega, by omega, by rw [hGe, hl1]; simp [headW, heapW, envW, blkLt, D.ltL, D.lt, look, hget]⟩
  ·have hc : (mi + (i : Int) ≤ mi + (N : Int)) = False := by simp; omega
   have : i = N + 1 := by omega
   subst this
   simp only [RT, FS, ↓RE, okR, argEnv, Nat.reduceAdd, Nat.reduceSub, Nat.reduceLT, Nat.reduceLeDiff, Nat.reduceEqDiff, reduceIte, RM, hc, decide_false]
   simp [viewA, prL_len]
 ·rw [if_neg h0]
  have hz : (askedI w l now != 0) = true := by simpa using h0
  generalize askedI w l now = e at *
  obtain ⟨⟨sw, sd, sh⟩, ⟨rl, lk⟩, cell, mi, ev, en, af⟩ := w
  simp only [WatchW.c, SkyW.c, NetW.c, List.cons_append, List.nil_append] at pa ⊢
  refine pure_of_wc (rs := [.tmp 6, .tmp 7]) (m := 48) [] oNone_ok (by kernel_rfl) Tryz.func22 rfl (by kernel_rfl) rfl rfl (by kernel_rfl) ?_
  simp only [RT, FS, ↓RE, okR, argEnv, Nat.reduceAdd, Nat.reduceSub, Nat.reduceLT, Nat.reduceLeDiff, Nat.reduceEqDiff, reduceIte]
  refine call_of_pure pa rfl ?_
  simp only [RT, FS, ↓RE, okR, argEnv, Nat.reduceAdd, Nat.reduceSub, Nat.reduceLT, Nat.reduceLeDiff, Nat.reduceEqDiff, reduceIte, hz]
end Go.Sx
