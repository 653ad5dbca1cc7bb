/- Own work: a calculus of contracts for the programs of this kit: parts SxW24v, SxW25v, SxW26v, SxW27v, SxW28v, SxW29v, SxW30v. -/
import Derived.Test.YtljkgnicmlhipaaGreatSxWfv
set_option linter.unusedVariables false
set_option linter.unusedSimpArgs false
namespace Go.Sx
open Go.Proofs
set_option maxRecDepth 10000

def sendsB (w : WatchW) (t : Int) : Bool := decide (w.min < t) && decide ((t - w.min) % w.every = 0)
def sayB (t pc : Int) (pd : Bool) (m : MsgW) : Bool := decide (m.t = t) && (!(decide (m.c = pc)) || !(m.d == pd))
def saidB (kn : List MsgW) (t pc : Int) (pd : Bool) : Bool := !(kn.any (sayB t pc pd))
def seenB (t c : Int) (m : MsgW) : Bool := decide (m.t = t) && decide (m.c = c)
def silentB (w : WatchW) (kn : List MsgW) (now t c : Int) : Bool := !(!(sendsB w t) || kn.any (seenB t c)) && (decide (0 ≤ arrivesI w c t) && decide (arrivesI w c t ≤ now))
theorem sends_t {w : WatchW} (hw : WatchOk w) (l : List MsgW) (now t : Int) (ht : 0 ≤ t ∧ t ≤ 3000) : Pure Tryz.prog 80 [.ref (folC w l now) 0, .int .i64 t] (.bool (sendsB w t)) := by
 have hm := hw.m
 have he := hw.e
 unfold folC sendsB
 obtain ⟨⟨sw, sd, sh⟩, ⟨rl, lk⟩, cell, mi, ev, en, af⟩ := w
 dsimp only at hm he ⊢
 simp only [WatchW.c, SkyW.c, NetW.c, List.cons_append, List.nil_append]
 refine pure_of_wc (rs := [.tmp 4]) (m := 28) [(1, [(24, false, false, [])])] oNone_ok (by kernel_rfl) Tryz.func80 rfl (by kernel_rfl) rfl rfl (by kernel_rfl) ?_
 cases q1 : decide (mi < t)
 ·simp only [RT, FS, ↓RE, okR, argEnv, Nat.reduceAdd, Nat.reduceSub, Nat.reduceLT, Nat.reduceLeDiff, Nat.reduceEqDiff, reduceIte, q1, Bool.false_and]
 have q1' : mi < t := by simpa using q1
 have w1 := wrap_i64 (z := t - mi) (by omega) (by omega)
 have z1 := a_rem' (k := .i64) (x := t - mi) (y := ev) (by omega)
 have z2 : (t - mi).tmod ev = (t - mi) % ev := Int.tmod_eq_emod_of_nonneg (by omega)
 simp only [RT, FS, ↓RE, okR, argEnv, Nat.reduceAdd, Nat.reduceSub, Nat.reduceLT, Nat.reduceLeDiff, Nat.reduceEqDiff, reduceIte, q1, w1, z1, z2, beq_dec, Bool.true_and]
theorem said1_t (m : MsgW) (t pc : Int) (pd : Bool) : Pure Tryz.prog 78 [.agg (enMs.d m), .ref [.int .i64 t] 0, .ref [.int .i64 pc, .bool pd] 0] (.bool (sayB t pc pd m)) := by
 obtain ⟨mt, mc, md, me⟩ := m
 simp only [enMs, sayB]
 have hbn := fun a b => binB_ne (P := Tryz.prog) Fz.und_4 a b
 refine pure_of_wc (rs := [.tmp 4]) (m := 23) [] oNone_ok (by kernel_rfl) Tryz.func78 rfl (by kernel_rfl) rfl rfl (by kernel_rfl) ?_
 cases q1 : decide (mt = t)
 ·simp only [RT, FS, ↓RE, okR, argEnv, Nat.reduceAdd, Nat.reduceSub, Nat.reduceLT, Nat.reduceLeDiff, Nat.reduceEqDiff, reduceIte, beq_dec, q1, Bool.false_and]
 cases q2 : decide (mc = pc)
 ·simp only [RT, FS, ↓RE, okR, argEnv, Nat.reduceAdd, Nat.reduceSub, Nat.reduceLT, Nat.reduceLeDiff, Nat.reduceEqDiff, reduceIte, beq_dec, bne_dec, q1, q2, Bool.true_and, Bool.not_false, Bool.true_or]
 ·simp only [RT, FS, ↓RE, okR, argEnv, Nat.reduceAdd, Nat.reduceSub, Nat.reduceLT, Nat.reduceLeDiff, Nat.reduceEqDiff, reduceIte, beq_dec, bne_dec, hbn, q1, q2, Bool.true_and, Bool.not_true, Bool.false_or]
theorem said_t (w : WatchW) (l : List MsgW) (hl : l.length ≤ 1000) (now t pc : Int) (pd : Bool) : Pure Tryz.prog 60 [.ref (folC w l now) 0, .int .i64 t, .agg [.int .i64 pc, .bool pd]] (.bool (saidB (knownL l now) t pc pd)) := by
 have hkl : (knownL l now).length ≤ 1000 := Nat.le_trans (List.length_filter_le _ _) hl
 have hp := wms_has (knownL l now) (msD (knownL l now)) (En.sl_map (E := enMs) _) 78 [.ref [.int .i64 t] 0, .ref [.int .i64 pc, .bool pd] 0] (sayB t pc pd) (by omega) (fun _ => by simp [D.ltL, D.lt]) (fun _ => rfl) (fun m _ => said1_t m t pc pd)
 unfold folC saidB
 generalize knownL l now = kn at *
 obtain ⟨⟨sw, sd, sh⟩, ⟨rl, lk⟩, cell, mi, ev, en, af⟩ := w
 simp only [WatchW.c, SkyW.c, NetW.c, List.cons_append, List.nil_append]
 refine pure_of_wc (rs := [.tmp 6]) (m := 14) [] oNone_ok (by kernel_rfl) Tryz.func60 rfl (by kernel_rfl) rfl rfl (by kernel_rfl) ?_
 simp only [RT, FS, ↓RE, okR, argEnv, Nat.reduceAdd, Nat.reduceSub, Nat.reduceLT, Nat.reduceLeDiff, Nat.reduceEqDiff, reduceIte]
 refine call_of_pure hp rfl ?_
 simp only [RT, FS, ↓RE, okR, argEnv, Nat.reduceAdd, Nat.reduceSub, Nat.reduceLT, Nat.reduceLeDiff, Nat.reduceEqDiff, reduceIte]
theorem silent1_t (m : MsgW) (t c : Int) : Pure Tryz.prog 81 [.agg (enMs.d m), .ref [.int .i64 t] 0, .ref [.int .i64 c] 0] (.bool (seenB t c m)) := by
 obtain ⟨mt, mc, md, me⟩ := m
 simp only [enMs, seenB]
 refine pure_of_wc (rs := [.tmp 4]) (m := 15) [] oNone_ok (by kernel_rfl) Tryz.func81 rfl (by kernel_rfl) rfl rfl (by kernel_rfl) ?_
 cases q1 : decide (mt = t)
 ·simp only [RT, FS, ↓RE, okR, argEnv, Nat.reduceAdd, Nat.reduceSub, Nat.reduceLT, Nat.reduceLeDiff, Nat.reduceEqDiff, reduceIte, beq_dec, q1, Bool.false_and]
 ·simp only [RT, FS, ↓RE, okR, argEnv, Nat.reduceAdd, Nat.reduceSub, Nat.reduceLT, Nat.reduceLeDiff, Nat.reduceEqDiff, reduceIte, beq_dec, q1, Bool.true_and]
theorem silent_t {w : WatchW} (hw : WatchOk w) (l : List MsgW) (hl : l.length ≤ 1000) (now : Int) {t c : Int} (hc : InS w.s c) (ht : 0 ≤ t ∧ t ≤ 1440) : Pure Tryz.prog 64 [.ref (folC w l now) 0, .int .i64 t, .int .i64 c] (.bool (silentB w (knownL l now) now t c)) := by
 have hkl : (knownL l now).length ≤ 1000 := Nat.le_trans (List.length_filter_le _ _) hl
 have hp := wms_has (knownL l now) (msD (knownL l now)) (En.sl_map (E := enMs) _) 81 [.ref [.int .i64 t] 0, .ref [.int .i64 c] 0] (seenB t c) (by omega) (fun _ => by simp [D.ltL, D.lt]) (fun _ => rfl) (fun m _ => silent1_t m t c)
 have ps := sends_t hw l now t (by omega)
 have pa := arrives_t hw hc ht
 unfold folC at *
 unfold silentB
 generalize knownL l now = kn at *
 generalize sendsB w t = sb at *
 generalize arrivesI w c t = a at *
 obtain ⟨⟨sw, sd, sh⟩, ⟨rl, lk⟩, cell, mi, ev, en, af⟩ := w
 simp only [WatchW.c, SkyW.c, NetW.c, List.cons_append, List.nil_append] at *
 refine pure_of_wc (rs := [.tmp 6]) (m := 37) [(3, [(8, false, false, [])])] oNone_ok (by kernel_rfl) Tryz.func64 rfl (by kernel_rfl) rfl rfl (by kernel_rfl) ?_
 simp only [RT, FS, ↓RE, okR, argEnv, Nat.reduceAdd, Nat.reduceSub, Nat.reduceLT, Nat.reduceLeDiff, Nat.reduceEqDiff, reduceIte]
 refine call_of_pure' ps (by simp [D.ltL, D.lt]) (by simp [D.lt]) ?_
 cases sb
 ·simp only [RT, FS, ↓RE, okR, argEnv, Nat.reduceAdd, Nat.reduceSub, Nat.reduceLT, Nat.reduceLeDiff, Nat.reduceEqDiff, reduceIte, Bool.not_false]
  simp
 simp only [RT, FS, ↓RE, okR, argEnv, Nat.reduceAdd, Nat.reduceSub, Nat.reduceLT, Nat.reduceLeDiff, Nat.reduceEqDiff, reduceIte, Bool.not_true]
 refine call_of_pure hp rfl ?_
 cases kn.any (seenB t c)
 case true =>
  simp only [RT, FS, ↓RE, okR, argEnv, Nat.reduceAdd, Nat.reduceSub, Nat.reduceLT, Nat.reduceLeDiff, Nat.reduceEqDiff, reduceIte]
  simp
 simp only [RT, FS, ↓RE, okR, argEnv, Nat.reduceAdd, Nat.reduceSub, Nat.reduceLT, Nat.reduceLeDiff, Nat.reduceEqDiff, reduceIte]
 refine call_of_pure' pa (by simp [D.ltL, D.lt]) (by simp [D.lt]) ?_
 cases q1 : decide (0 ≤ a)
 ·simp only [RT, FS, ↓RE, okR, argEnv, Nat.reduceAdd, Nat.reduceSub, Nat.reduceLT, Nat.reduceLeDiff, Nat.reduceEqDiff, reduceIte, q1]
  simp
 ·simp only [RT, FS, ↓RE, okR, argEnv, Nat.reduceAdd, Nat.reduceSub, Nat.reduceLT, Nat.reduceLeDiff, Nat.reduceEqDiff, reduceIte, q1]
  simp
end Go.Sx

namespace Go.Sx
open Go.Proofs
set_option maxRecDepth 10000

set_option maxHeartbeats 1000000 in
theorem r_Known_t (l : List MsgW) (hl : l.length ≤ 1000) (now : Int) : Pure Tryz.prog 32 [msD l, .int .i64 now] (msD (knownL l now)) := by
 unfold knownL
 obtain ⟨p, hp⟩ : ∃ p, p = knB now := ⟨_, rfl⟩
 have hpm : ∀ m : MsgW, decide (m.came ≤ now) = p m := fun m => by rw [hp]; rfl
 rw [← hp]
 refine pure_of_wc (rs := [.tmp 4]) (m := 28) [] oNone_ok (by kernel_rfl) Tryz.func32 rfl (by kernel_rfl) rfl rfl (by kernel_rfl) ?_
 simp only [RT, FS, ↓RE, okR, argEnv, Nat.reduceAdd, Nat.reduceSub, Nat.reduceLT, Nat.reduceLeDiff, Nat.reduceEqDiff, reduceIte, RM]
 refine loopNil 5 61 4 rfl ?_
 refine loopV (ι := Nat) oNone_ok [] (fun i => [(0, msD l), (1, .int .i64 now), (5, .osl 0 ((l.take i).filter p).length), (6, .int .i64 (i : Int))])
  (fun i => [(0, .arr 61 4 (((l.take i).filter p).map enMs.d))]) 1 (fun i => i ≤ l.length) (fun i => l.length - i) 0 (by kernel_rfl) (by kernel_rfl) (Nat.zero_le _) ?_ ?_
 ·simp [headW, heapW, envW, blkLt, D.ltL, D.lt, look, hget, hset, eset_cons, eset_nil]
 intro i hil
 rcases Nat.lt_or_ge i l.length with hlt | hge
 ·have hc := nat_lt_true hlt
  obtain ⟨⟨t, c, d, came⟩, hr⟩ : ∃ r, l[i]? = some r := ⟨l[i], by simp [hlt]⟩
  have hix := msD_ix hr
  have hw1 := wrap_i64 (z := (i : Int) + 1) (by omega) (by omega)
  have hft := filter_take (p := p) hr
  have hpm1 := hpm ⟨t, c, d, came⟩
  dsimp only at hix hpm1
  have hfl : ((l.take i).filter p).length ≤ i := Nat.le_trans (List.length_filter_le _ _) (by rw [List.length_take]; omega)
  cases hq : p ⟨t, c, d, came⟩
  ·rw [hq] at hft hpm1
   simp only [Bool.false_eq_true, if_false, List.append_nil] at hft
   simp only [RT, FS, ↓RE, okR, argEnv, Nat.reduceAdd, Nat.reduceSub, Nat.reduceLT, Nat.reduceLeDiff, Nat.reduceEqDiff, reduceIte, RM, List.length_map, hc, decide_true, hix, hpm1, hw1]
   exact ⟨i + 1, by omega, by omega, by rw [hft]; simp [headW, heapW, envW, blkLt, D.ltL, D.lt, look, hget]⟩
  ·rw [hq] at hft hpm1
   simp only [if_true] at hft
   have hli : ∀ h nid, litOpD Tryz.prog h nid 32 1 [(0, .agg [.int .i64 t, .int .i64 c, .bool d, .int .i64 came])] = some (.osl nid 1, (nid, .arr 61 4 [[.int .i64 t, .int .i64 c, .bool d, .int .i64 came]]) :: h, nid + 1) := fun h nid => by kernel_rfl
   have ha := fun h nid (hb : hget h 0 = some (.arr 61 4 (((l.take i).filter p).map enMs.d))) (hb2 : hget h 1 = some (.arr 61 4 [[.int .i64 t, .int .i64 c, .bool d, .int .i64 came]])) => app_osl (P := Tryz.prog) Fz.und_32 Fz.size_61 Fz.zero_61 rfl (by omega) Fz.bytes_61_32 h nid 0 ((l.take i).filter p).length 1 1 hb (List.length_map _).symm hb2 rfl rfl (by simp; omega) (by simp; omega)
   simp only [RT, FS, ↓RE, okR, argEnv, Nat.reduceAdd, Nat.reduceSub, Nat.reduceLT, Nat.reduceLeDiff, Nat.reduceEqDiff, reduceIte, RM, List.length_map, hc, decide_true, hix, hpm1, hw1, hli, ha]
   exact ⟨i + 1, by omega, by omega, by rw [hft]; simp [headW, heapW, envW, blkLt, D.ltL, D.lt, look, hget, enMs]⟩
 ·have hc := nat_lt_false hge
  have : i = l.length := by omega
  subst this
  rw [List.take_length]
  simp only [RT, FS, ↓RE, okR, argEnv, Nat.reduceAdd, Nat.reduceSub, Nat.reduceLT, Nat.reduceLeDiff, Nat.reduceEqDiff, reduceIte, RM, List.length_map, hc, decide_false]
end Go.Sx

namespace Go.Sx
open Go.Proofs
set_option maxRecDepth 10000

end Go.Sx

namespace Go.Sx
open Go.Proofs
set_option maxRecDepth 10000

end Go.Sx

namespace Go.Sx
open Go.Proofs
set_option maxRecDepth 10000

def nAt (l : List Int) (i : Nat) : Int := l.getD i 0
theorem nAt_get {l : List Int} {i : Nat} (h : i < l.length) : l[i]? = some (nAt l i) := by simp [nAt, List.getD, h]
def lexB : List Int → List Int → Bool
 | x :: a, y :: b => if x = y then lexB a b else decide (x < y)
 | _, _ => false
def lessB (a b : List Int) : Bool := if a.length = b.length then lexB a b else decide (a.length < b.length)
theorem lexB_drop : ∀ (a b : List Int) (i : Nat), i < a.length → i < b.length → lexB (a.drop i) (b.drop i) = if nAt a i = nAt b i then lexB (a.drop (i + 1)) (b.drop (i + 1)) else decide (nAt a i < nAt b i) := fun a b i h1 h2 => by
 rw [List.drop_eq_getElem_cons h1, List.drop_eq_getElem_cons h2]
 simp [lexB, nAt, h1, h2]
theorem r_Less_t (a b : List Int) (ha : a.length ≤ 9223372036854775807) (hb : b.length ≤ 9223372036854775807) : Pure Tryz.prog 36 [.sl (intL a), .sl (intL b)] (.bool (lessB a b)) := by
 unfold lessB
 by_cases hlen : a.length = b.length
 rotate_left
 ·have q2 : ((a.length : Int) != (b.length : Int)) = true := by simp; omega
  rw [if_neg hlen]
  refine pure_of_wc (rs := [.tmp 4]) (m := 40) [(6, [(9, false, false, [])]), (7, [(10, false, false, [])])] oNone_ok (by kernel_rfl) Tryz.func36 rfl (by kernel_rfl) rfl rfl (by kernel_rfl) ?_
  simp only [RT, FS, ↓RE, okR, argEnv, Nat.reduceAdd, Nat.reduceSub, Nat.reduceLT, Nat.reduceLeDiff, Nat.reduceEqDiff, reduceIte, q2, intL_len]
  congr 1
  simp
 have q2 : ((a.length : Int) != (b.length : Int)) = false := by simp; omega
 rw [if_pos hlen]
 refine pure_of_wc (rs := [.tmp 4]) (m := 40) [(6, [(9, false, false, [])]), (7, [(10, false, false, [])])] oNone_ok (by kernel_rfl) Tryz.func36 rfl (by kernel_rfl) rfl rfl (by kernel_rfl) ?_
 simp only [RT, FS, ↓RE, okR, argEnv, Nat.reduceAdd, Nat.reduceSub, Nat.reduceLT, Nat.reduceLeDiff, Nat.reduceEqDiff, reduceIte, q2, intL_len]
 refine loopV (ι := Nat) oNone_ok [(6, [(9, false, false, [])]), (7, [(10, false, false, [])])] (fun i => [(0, .sl (intL a)), (1, .sl (intL b)), (5, .int .i64 (i : Int))])
  (fun i => []) 0 (fun i => i ≤ a.length ∧ lexB a b = lexB (a.drop i) (b.drop i)) (fun i => a.length - i) 0 (by kernel_rfl) (by kernel_rfl) ⟨Nat.zero_le _, by simp⟩ ?_ ?_
 ·simp [headW, heapW, envW, blkLt, D.ltL, D.lt, look, hget]
 rintro i ⟨hi, he⟩
 rcases Nat.lt_or_ge i a.length with hlt | hge
 rotate_left
 ·have hq : ((i : Int) < (a.length : Int)) = False := by simp; omega
  have hn : a.drop i = [] := List.drop_of_length_le hge
  simp only [RT, FS, ↓RE, okR, argEnv, Nat.reduceAdd, Nat.reduceSub, Nat.reduceLT, Nat.reduceLeDiff, Nat.reduceEqDiff, reduceIte, intL_len, hq, decide_false]
  rw [he, hn]
  simp [lexB]
 have hq : ((i : Int) < (a.length : Int)) = True := by simp [hlt]
 have wi := wrap_i64 (z := (i : Int) + 1) (by omega) (by omega)
 have ixa := sI_ix (nAt_get hlt)
 have ixb := sI_ix (nAt_get (show i < b.length by omega))
 have hld := lexB_drop a b i hlt (by omega)
 by_cases heq : nAt a i = nAt b i
 ·have qe : (nAt a i != nAt b i) = false := by simpa using heq
  rw [if_pos heq] at hld
  simp only [RT, FS, ↓RE, okR, argEnv, Nat.reduceAdd, Nat.reduceSub, Nat.reduceLT, Nat.reduceLeDiff, Nat.reduceEqDiff, reduceIte, intL_len, hq, decide_true, ixa, ixb, qe, wi]
  exact ⟨i + 1, ⟨by omega, by rw [he, hld]⟩, by omega, by simp [headW, heapW, envW, blkLt, D.ltL, D.lt, look, hget]⟩
 ·have qe : (nAt a i != nAt b i) = true := by simpa using heq
  rw [if_neg heq] at hld
  simp only [RT, FS, ↓RE, okR, argEnv, Nat.reduceAdd, Nat.reduceSub, Nat.reduceLT, Nat.reduceLeDiff, Nat.reduceEqDiff, reduceIte, intL_len, hq, decide_true, ixa, ixb, qe, wi]
  rw [he, hld]
def sameB (a b : List Int) : Bool := !(lessB a b) && !(lessB b a)
theorem r_Same_t (a b : List Int) (ha : a.length ≤ 9223372036854775807) (hb : b.length ≤ 9223372036854775807) : Pure Tryz.prog 12 [.sl (intL a), .sl (intL b)] (.bool (sameB a b)) := by
 have p1 := r_Less_t a b ha hb
 have p2 := r_Less_t b a hb ha
 unfold sameB
 refine pure_of_wc (rs := [.tmp 4]) (m := 15) [] oNone_ok (by kernel_rfl) Tryz.func12 rfl (by kernel_rfl) rfl rfl (by kernel_rfl) ?_
 simp only [RT, FS, ↓RE, okR, argEnv, Nat.reduceAdd, Nat.reduceSub, Nat.reduceLT, Nat.reduceLeDiff, Nat.reduceEqDiff, reduceIte]
 refine call_of_pure' p1 (by simp [D.ltL, D.lt]) (by simp [D.lt]) ?_
 cases lessB a b
 case true => simp only [RT, FS, ↓RE, okR, argEnv, Nat.reduceAdd, Nat.reduceSub, Nat.reduceLT, Nat.reduceLeDiff, Nat.reduceEqDiff, reduceIte, Bool.not_true, Bool.false_and]
 simp only [RT, FS, ↓RE, okR, argEnv, Nat.reduceAdd, Nat.reduceSub, Nat.reduceLT, Nat.reduceLeDiff, Nat.reduceEqDiff, reduceIte, Bool.not_false, Bool.true_and]
 refine call_of_pure' p2 (by simp [D.ltL, D.lt]) (by simp [D.lt]) ?_
 simp only [RT, FS, ↓RE, okR, argEnv, Nat.reduceAdd, Nat.reduceSub, Nat.reduceLT, Nat.reduceLeDiff, Nat.reduceEqDiff, reduceIte, Bool.not_false, Bool.true_and]
theorem lexB_eq : ∀ {a b : List Int}, a.length = b.length → lexB a b = false → lexB b a = false → a = b
 | [], [], _, _, _ => rfl
 | x :: a, y :: b, h, h1, h2 => by
  simp only [lexB] at h1 h2
  by_cases e : x = y
  ·subst e
   rw [if_pos rfl] at h1 h2
   rw [lexB_eq (by simpa using h) h1 h2]
  ·rw [if_neg e] at h1
   rw [if_neg (Ne.symm e)] at h2
   simp at h1 h2; omega
 | [], _ :: _, h, _, _ => by simp at h
 | _ :: _, [], h, _, _ => by simp at h
theorem lexB_self : ∀ a : List Int, lexB a a = false
 | [] => rfl
 | x :: a => by simp [lexB, lexB_self a]
theorem sameB_eq (a b : List Int) : sameB a b = decide (a = b) := by
 unfold sameB lessB
 by_cases hl : a.length = b.length
 ·rw [if_pos hl, if_pos hl.symm]
  by_cases e : a = b
  ·subst e; simp [lexB_self]
  ·rw [Bool.eq_iff_iff]
   simp only [Bool.and_eq_true, Bool.not_eq_true', decide_eq_true_eq]
   exact ⟨fun h => lexB_eq hl h.1 h.2, fun h => absurd h e⟩
 ·rw [if_neg hl, if_neg (Ne.symm hl)]
  have : a ≠ b := fun e => hl (by rw [e])
  rw [Bool.eq_iff_iff]
  simp [this]
  omega
end Go.Sx

namespace Go.Sx
open Go.Proofs
set_option maxRecDepth 10000

theorem pr_und0 : (match Program.underlying Tryz.prog 66 with | some (.struct fs) => pairT Tryz.prog 66 fs.toList .i64 .i64 | _ => false) = true := by kernel_rfl
theorem pr_und : ∃ fs, Program.underlying Tryz.prog 66 = some (.struct fs) ∧ pairT Tryz.prog 66 fs.toList .i64 .i64 = true := by
 have h := pr_und0
 split at h
 ·rename_i fs hu; exact ⟨fs, hu, h⟩
 ·cases h
theorem pr_ne (a b a' b' : Int) : binD Tryz.prog .neq 66 (.agg [.int .i64 a, .int .i64 b]) (.agg [.int .i64 a', .int .i64 b']) = some (.bool (!(a == a' && b == b'))) := by
 obtain ⟨fs, hu, hp⟩ := pr_und
 have hg : Program.eqGuardType Tryz.prog (Program.depth Tryz.prog) 66 = false := by kernel_rfl
 simp only [binD, hg, pair_eqT hu hp, Bool.false_eq_true, if_false]
theorem prD_ix {l : List (Int × Int)} {i : Nat} {a b : Int} (hb : l[i]? = some (a, b)) (h : H) : indexAddrD Tryz.prog h 57 (.sl (prL l)) (.int .i64 (i : Int)) = some (.ref [.int .i64 a, .int .i64 b] 0) := En.ix (P := Tryz.prog) Fz.und_57 Fz.size_66 (E := enS) (En.sl_map (E := enS) l) hb h .i64
theorem r_SameCalls_t (a b : List (Int × Int)) (ha : BL a) (hb : BL b) : Pure Tryz.prog 24 [.sl (prL a), .sl (prL b)] (.bool (decide (a = b))) := by
 by_cases hlen : a.length = b.length
 rotate_left
 ·have q2 : ((a.length : Int) != (b.length : Int)) = true := by simp; omega
  have hne : decide (a = b) = false := by simp; intro e; exact hlen (by rw [e])
  rw [hne]
  refine pure_of_wc (rs := [.tmp 4]) (m := 26) [(6, [(9, false, false, [])])] oNone_ok (by kernel_rfl) Tryz.func24 rfl (by kernel_rfl) rfl rfl (by kernel_rfl) ?_
  simp only [RT, FS, ↓RE, okR, argEnv, Nat.reduceAdd, Nat.reduceSub, Nat.reduceLT, Nat.reduceLeDiff, Nat.reduceEqDiff, reduceIte, q2, prL_len]
 have q2 : ((a.length : Int) != (b.length : Int)) = false := by simp; omega
 refine pure_of_wc (rs := [.tmp 4]) (m := 26) [(6, [(9, false, false, [])])] oNone_ok (by kernel_rfl) Tryz.func24 rfl (by kernel_rfl) rfl rfl (by kernel_rfl) ?_
 simp only [RT, FS, ↓RE, okR, argEnv, Nat.reduceAdd, Nat.reduceSub, Nat.reduceLT, Nat.reduceLeDiff, Nat.reduceEqDiff, reduceIte, q2, prL_len]
 refine loopV (ι := Nat) oNone_ok [(6, [(9, false, false, [])])] (fun i => [(0, .sl (prL a)), (1, .sl (prL b)), (5, .int .i64 (i : Int))])
  (fun i => []) 0 (fun i => i ≤ a.length ∧ a.take i = b.take i) (fun i => a.length - i) 0 (by kernel_rfl) (by kernel_rfl) ⟨Nat.zero_le _, by simp⟩ ?_ ?_
 ·simp [headW, heapW, envW, blkLt, D.ltL, D.lt, look, hget]
 rintro i ⟨hi, he⟩
 rcases Nat.lt_or_ge i a.length with hlt | hge
 ·have hc := nat_lt_true hlt
  obtain ⟨⟨x, y⟩, hx⟩ : ∃ r, a[i]? = some r := ⟨a[i], by simp [hlt]⟩
  obtain ⟨⟨u, v⟩, hy⟩ : ∃ r, b[i]? = some r := ⟨b[i]'(by omega), by simp [show i < b.length by omega]⟩
  have ix1 := prD_ix hx
  have ix2 := prD_ix hy
  have hw1 := wrap_i64 (z := (i : Int) + 1) (by omega) (by omega)
  have hn := pr_ne x y u v
  by_cases e : x = u ∧ y = v
  ·have hq : (!(x == u && y == v)) = false := by simp [e]
   rw [hq] at hn
   simp only [RT, FS, ↓RE, okR, argEnv, Nat.reduceAdd, Nat.reduceSub, Nat.reduceLT, Nat.reduceLeDiff, Nat.reduceEqDiff, reduceIte, prL_len, hc, decide_true, ix1, ix2, hn, hw1]
   exact ⟨i + 1, ⟨by omega, by rw [List.take_add_one, List.take_add_one, he, hx, hy, e.1, e.2]⟩, by omega, by simp [headW, heapW, envW, blkLt, D.ltL, D.lt, look, hget]⟩
  ·have hq : (!(x == u && y == v)) = true := by
    rw [Bool.eq_iff_iff]; simp
    by_cases h1 : x = u
    ·exact .inr fun h2 => e ⟨h1, h2⟩
    ·exact .inl h1
   rw [hq] at hn
   have hne : decide (a = b) = false := by
    simp; intro e2; subst e2
    rw [hx] at hy; cases hy; exact e ⟨rfl, rfl⟩
   rw [hne]
   simp only [RT, FS, ↓RE, okR, argEnv, Nat.reduceAdd, Nat.reduceSub, Nat.reduceLT, Nat.reduceLeDiff, Nat.reduceEqDiff, reduceIte, prL_len, hc, decide_true, ix1, ix2, hn, hw1]
 ·have hc := nat_lt_false hge
  rw [List.take_of_length_le hge, List.take_of_length_le (by omega)] at he
  have hd : decide (a = b) = true := by simp [he]
  rw [hd]
  simp only [RT, FS, ↓RE, okR, argEnv, Nat.reduceAdd, Nat.reduceSub, Nat.reduceLT, Nat.reduceLeDiff, Nat.reduceEqDiff, reduceIte, prL_len, hc, decide_false]
end Go.Sx

namespace Go.Sx
open Go.Proofs
set_option maxRecDepth 10000

theorem r_Has_t (l : List Int) (hl : BL l) (n : Int) : Pure Tryz.prog 19 [.sl (intL l), .int .i64 n] (.bool (l.any fun x => decide (x = n))) := by
 refine pure_of_wc (rs := [.tmp 4]) (m := 18) [] oNone_ok (by kernel_rfl) Tryz.func19 rfl (by kernel_rfl) rfl rfl (by kernel_rfl) ?_
 simp only [RT, FS, ↓RE, okR, argEnv, Nat.reduceAdd, Nat.reduceSub, Nat.reduceLT, Nat.reduceLeDiff, Nat.reduceEqDiff, reduceIte]
 refine loopV (ι := Nat) oNone_ok [] (fun i => [(0, .sl (intL l)), (1, .int .i64 n), (5, .int .i64 (i : Int))]) (fun i => []) 0 (fun i => i ≤ l.length ∧ (l.take i).all (fun x => !(decide (x = n))) = true) (fun i => l.length - i) 0 (by kernel_rfl) (by kernel_rfl) ⟨Nat.zero_le _, by simp⟩ ?_ ?_
 ·simp [headW, heapW, envW, blkLt, D.ltL, D.lt, look, hget]
 rintro i ⟨hil, hok⟩
 rcases Nat.lt_or_ge i l.length with hlt | hge
 ·have hc := nat_lt_true hlt
  obtain ⟨x, hr⟩ : ∃ r, l[i]? = some r := ⟨l[i], by simp [hlt]⟩
  have hix := sI_ix hr
  have hw1 := wrap_i64 (z := (i : Int) + 1) (by omega) (by omega)
  cases hq : decide (x = n)
  ·simp only [RT, FS, ↓RE, okR, argEnv, Nat.reduceAdd, Nat.reduceSub, Nat.reduceLT, Nat.reduceLeDiff, Nat.reduceEqDiff, reduceIte, intL_len, hix, hc, decide_true, beq_dec, hq, hw1]
   exact ⟨i + 1, ⟨by omega, all_cut hr hok (by simp [hq])⟩, by omega, by simp [headW, heapW, envW, blkLt, D.ltL, D.lt, look, hget]⟩
  ·simp only [RT, FS, ↓RE, okR, argEnv, Nat.reduceAdd, Nat.reduceSub, Nat.reduceLT, Nat.reduceLeDiff, Nat.reduceEqDiff, reduceIte, intL_len, hix, hc, decide_true, beq_dec, hq, hw1]
   rw [any_out hr hq]
 ·have hc := nat_lt_false hge
  have : i = l.length := by omega
  subst this
  rw [List.take_length] at hok
  simp only [RT, FS, ↓RE, okR, argEnv, Nat.reduceAdd, Nat.reduceSub, Nat.reduceLT, Nat.reduceLeDiff, Nat.reduceEqDiff, reduceIte, intL_len, hc, decide_false]
  rw [any_none hok]
theorem r_Sends_t {w : WatchW} (hw : WatchOk w) (t : Int) (ht : -5000 ≤ t ∧ t ≤ 5000) : Pure Tryz.prog 34 [.agg w.c, .int .i64 t] (.bool (sendsB w t)) := by
 have hm := hw.m
 have he := hw.e
 unfold sendsB
 obtain ⟨⟨sw, sd, sh⟩, ⟨rl, lk⟩, cell, mi, ev, en, af⟩ := w
 dsimp only at hm he ⊢
 simp only [WatchW.c, SkyW.c, NetW.c, List.cons_append, List.nil_append]
 refine pure_of_wc (rs := [.tmp 4]) (m := 19) [] oNone_ok (by kernel_rfl) Tryz.func34 rfl (by kernel_rfl) rfl rfl (by kernel_rfl) ?_
 cases q1 : decide (mi < t)
 ·simp only [RT, FS, ↓RE, okR, argEnv, Nat.reduceAdd, Nat.reduceSub, Nat.reduceLT, Nat.reduceLeDiff, Nat.reduceEqDiff, reduceIte, q1, Bool.false_and]
 have q1' : mi < t := by simpa using q1
 have w1 := wrap_i64 (z := t - mi) (by omega) (by omega)
 have z1 := a_rem' (k := .i64) (x := t - mi) (y := ev) (by omega)
 have z2 : (t - mi).tmod ev = (t - mi) % ev := Int.tmod_eq_emod_of_nonneg (by omega)
 simp only [RT, FS, ↓RE, okR, argEnv, Nat.reduceAdd, Nat.reduceSub, Nat.reduceLT, Nat.reduceLeDiff, Nat.reduceEqDiff, reduceIte, q1, w1, z1, z2, beq_dec, Bool.true_and]
end Go.Sx
