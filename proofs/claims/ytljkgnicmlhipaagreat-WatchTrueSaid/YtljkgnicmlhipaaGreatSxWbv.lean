/- Own work: a calculus of contracts for the programs of this kit: parts SxW4v, SxW5v, SxW6v, SxW7v, SxW8v. -/
import Derived.Test.YtljkgnicmlhipaaGreatSxWav
set_option linter.unusedVariables false
set_option linter.unusedSimpArgs false
namespace Go.Sx
open Go.Proofs
set_option maxRecDepth 10000

set_option maxHeartbeats 2000000 in
theorem r_Net_t (s : SkyW) (hs : BL s.sh) (n : NetW) (hn : NetL n) : Pure Tryz.prog 40 [.agg s.c, .agg n.c] (.bool (netB s.sh n)) := by
 obtain ⟨w, d, sh⟩ := s
 obtain ⟨rl, lk⟩ := n
 obtain ⟨h1, h2, h3, h4⟩ := hn
 dsimp only at hs h1 h2 h3 h4
 have hsl := shD_len sh
 have hw0 := wrap_i64 (z := (sh.length : Int) - 1) (by omega) (by omega)
 have hw9 := wrap_i64 (z := (rl.length : Int) - 1) (by omega) (by omega)
 simp only [SkyW.c, NetW.c, netB]
 refine pure_of_wc (rs := [.tmp 4]) (m := 101) [] e3_ok (by kernel_rfl) Tryz.func40 rfl (by kernel_rfl) rfl rfl (by kernel_rfl) ?_
 cases p1 : rI (rl.length : Int) 1 8
 ·simp only [RT, FS, ↓RE, okR, argEnv, Nat.reduceAdd, Nat.reduceSub, Nat.reduceLT, Nat.reduceLeDiff, Nat.reduceEqDiff, reduceIte, List.length_map, gI3_eq, p1, Bool.not_false, Bool.not_true]
  simp
 cases p2 : decide ((20 : Int) < lk.length)
 case true =>
  have p3 : decide ((lk.length : Int) ≤ 20) = false := by simp at p2 ⊢; omega
  simp only [RT, FS, ↓RE, okR, argEnv, Nat.reduceAdd, Nat.reduceSub, Nat.reduceLT, Nat.reduceLeDiff, Nat.reduceEqDiff, reduceIte, List.length_map, gI3_eq, p1, p2, p3, Bool.not_false, Bool.not_true]
  simp
 have p3 : decide ((lk.length : Int) ≤ 20) = true := by simp at p2 ⊢; omega
 simp only [p3, Bool.and_true]
 simp only [RT, FS, ↓RE, okR, argEnv, Nat.reduceAdd, Nat.reduceSub, Nat.reduceLT, Nat.reduceLeDiff, Nat.reduceEqDiff, reduceIte, List.length_map, gI3_eq, p1, p2, Bool.not_false, Bool.not_true]
 refine loopV (ι := Nat) e3_ok [] (fun i => [(2, .ptr 0 0), (3, .ptr 1 0), (5, .int .i64 (i : Int))])
  (fun i => [(1, .box [rlD rl, lkD lk]), (0, .box [.int .i64 w, .int .i64 d, shD sh])]) 2 (fun i => i ≤ rl.length ∧ (rl.take i).all (relayB sh.length) = true) (fun i => rl.length - i) 0 (by kernel_rfl) (by kernel_rfl) ⟨Nat.zero_le _, by simp⟩ ?_ ?_
 ·simp [headW, heapW, envW, blkLt, D.ltL, D.lt, look, hget, shD]
 rintro i ⟨hil, hok⟩
 rcases Nat.lt_or_ge i rl.length with hlt | hge
 ·have hc := nat_lt_true hlt
  obtain ⟨r, hr⟩ : ∃ r, rl[i]? = some r := ⟨rl[i], by simp [hlt]⟩
  have hix := rlD_ix hr
  have hop := gOpen_eq (h3 r (List.mem_of_getElem? hr))
  have hw1 := wrap_i64 (z := (i : Int) + 1) (by omega) (by omega)
  cases hq : relayB sh.length r
  ·rw [all_out hr hq]
   simp only [Bool.false_and]
   cases q1 : rI r.c 0 ((sh.length : Int) - 1)
   ·simp only [RT, FS, ↓RE, okR, argEnv, Nat.reduceAdd, Nat.reduceSub, Nat.reduceLT, Nat.reduceLeDiff, Nat.reduceEqDiff, reduceIte, hix, hc, decide_true, List.length_map, hw0, gI3_eq, q1, Bool.not_false, Bool.not_true]
   cases q2 : rI r.r 0 12
   ·simp only [RT, FS, ↓RE, okR, argEnv, Nat.reduceAdd, Nat.reduceSub, Nat.reduceLT, Nat.reduceLeDiff, Nat.reduceEqDiff, reduceIte, hix, hc, decide_true, List.length_map, hw0, gI3_eq, q1, q2, Bool.not_false, Bool.not_true]
   have q3 : openB r.l = false := by simpa [relayB, q1, q2] using hq
   simp only [RT, FS, ↓RE, okR, argEnv, Nat.reduceAdd, Nat.reduceSub, Nat.reduceLT, Nat.reduceLeDiff, Nat.reduceEqDiff, reduceIte, hix, hc, decide_true, List.length_map, hw0, gI3_eq, q1, q2, q3, hop, Bool.not_false, Bool.not_true]
  ·have hq' := hq
   simp only [relayB, Bool.and_eq_true] at hq'
   simp only [RT, FS, ↓RE, okR, argEnv, Nat.reduceAdd, Nat.reduceSub, Nat.reduceLT, Nat.reduceLeDiff, Nat.reduceEqDiff, reduceIte, hix, hc, decide_true, List.length_map, hw0, gI3_eq, hq'.1, hq'.2.1, hq'.2.2, hop, hw1, Bool.not_false, Bool.not_true]
   exact ⟨i + 1, ⟨by omega, all_cut hr hok hq⟩, by omega, by simp [headW, heapW, envW, blkLt, D.ltL, D.lt, look, hget, shD]⟩
 have hc := nat_lt_false hge
 have : i = rl.length := by omega
 subst this
 rw [List.take_length] at hok
 rw [hok, Bool.true_and]
 simp only [RT, FS, ↓RE, okR, argEnv, Nat.reduceAdd, Nat.reduceSub, Nat.reduceLT, Nat.reduceLeDiff, Nat.reduceEqDiff, reduceIte, hc, decide_false, List.length_map]
 refine loopV (ι := Nat) e3_ok [] (fun i => [(2, .ptr 0 0), (3, .ptr 1 0), (7, .int .i64 (i : Int))])
  (fun i => [(1, .box [rlD rl, lkD lk]), (0, .box [.int .i64 w, .int .i64 d, shD sh])]) 2 (fun i => i ≤ lk.length ∧ (lk.take i).all (linkB rl.length) = true) (fun i => lk.length - i) 0 (by kernel_rfl) (by kernel_rfl) ⟨Nat.zero_le _, by simp⟩ ?_ ?_
 ·simp [headW, heapW, envW, blkLt, D.ltL, D.lt, look, hget, shD]
 rintro i ⟨hil, hok2⟩
 rcases Nat.lt_or_ge i lk.length with hlt | hge
 ·have hc := nat_lt_true hlt
  obtain ⟨r, hr⟩ : ∃ r, lk[i]? = some r := ⟨lk[i], by simp [hlt]⟩
  have hix := lkD_ix hr
  have hop := gOpen_eq (h4 r (List.mem_of_getElem? hr))
  have hw1 := wrap_i64 (z := (i : Int) + 1) (by omega) (by omega)
  cases hq : linkB rl.length r
  ·rw [all_out hr hq]
   cases q1 : rI r.f 0 ((rl.length : Int) - 1)
   ·simp only [RT, FS, ↓RE, okR, argEnv, Nat.reduceAdd, Nat.reduceSub, Nat.reduceLT, Nat.reduceLeDiff, Nat.reduceEqDiff, reduceIte, hix, hc, decide_true, List.length_map, hw9, gI3_eq, q1, Bool.not_false, Bool.not_true]
   cases q2 : rI r.t 0 ((rl.length : Int) - 1)
   ·simp only [RT, FS, ↓RE, okR, argEnv, Nat.reduceAdd, Nat.reduceSub, Nat.reduceLT, Nat.reduceLeDiff, Nat.reduceEqDiff, reduceIte, hix, hc, decide_true, List.length_map, hw9, gI3_eq, q1, q2, Bool.not_false, Bool.not_true]
   cases q3 : decide (r.f = r.t)
   case true => simp only [RT, FS, ↓RE, okR, argEnv, Nat.reduceAdd, Nat.reduceSub, Nat.reduceLT, Nat.reduceLeDiff, Nat.reduceEqDiff, reduceIte, hix, hc, decide_true, List.length_map, hw9, gI3_eq, q1, q2, q3, beq_dec, Bool.not_false, Bool.not_true]
   cases q4 : rI r.d 0 1440
   ·simp only [RT, FS, ↓RE, okR, argEnv, Nat.reduceAdd, Nat.reduceSub, Nat.reduceLT, Nat.reduceLeDiff, Nat.reduceEqDiff, reduceIte, hix, hc, decide_true, List.length_map, hw9, gI3_eq, gMin_eq, q1, q2, q3, q4, beq_dec, Bool.not_false, Bool.not_true]
   have q5 : openB r.l = false := by simpa [linkB, q1, q2, q3, q4] using hq
   simp only [RT, FS, ↓RE, okR, argEnv, Nat.reduceAdd, Nat.reduceSub, Nat.reduceLT, Nat.reduceLeDiff, Nat.reduceEqDiff, reduceIte, hix, hc, decide_true, List.length_map, hw9, gI3_eq, gMin_eq, q1, q2, q3, q4, q5, hop, beq_dec, Bool.not_false, Bool.not_true]
  ·have hq' := hq
   simp only [linkB, Bool.and_eq_true, Bool.not_eq_true'] at hq'
   simp only [RT, FS, ↓RE, okR, argEnv, Nat.reduceAdd, Nat.reduceSub, Nat.reduceLT, Nat.reduceLeDiff, Nat.reduceEqDiff, reduceIte, hix, hc, decide_true, List.length_map, hw9, gI3_eq, gMin_eq, hq'.1, hq'.2.1, hq'.2.2.1, hq'.2.2.2.1, hq'.2.2.2.2, hop, hw1, beq_dec, Bool.not_false, Bool.not_true]
   exact ⟨i + 1, ⟨by omega, all_cut hr hok2 hq⟩, by omega, by simp [headW, heapW, envW, blkLt, D.ltL, D.lt, look, hget, shD]⟩
 have hc := nat_lt_false hge
 have : i = lk.length := by omega
 subst this
 rw [List.take_length] at hok2
 simp only [RT, FS, ↓RE, okR, argEnv, Nat.reduceAdd, Nat.reduceSub, Nat.reduceLT, Nat.reduceLeDiff, Nat.reduceEqDiff, reduceIte, hc, decide_false, List.length_map]
 rw [hok2]

structure WatchW where
 s : SkyW
 n : NetW
 cell : Int
 min : Int
 every : Int
 endu : Int
 aft : List Int
def WatchW.c (w : WatchW) : List D := w.s.c ++ (w.n.c ++ [.int .i64 w.cell, .int .i64 w.min, .int .i64 w.every, .int .i64 w.endu, .sl (w.aft.map enI.d)])
structure WatchL (w : WatchW) : Prop where
 s : BL w.s.sh
 n : NetL w.n
 a : BL w.aft
def aftB : Option Int → List Int → Bool
 | _, [] => true
 | none, x :: l => rI x 0 1440 && aftB (some x) l
 | some p, x :: l => (rI x 0 1440 && !(decide (x ≤ p))) && aftB (some x) l
def watchB (w : WatchW) : Bool := skyB w.s && (netB w.s.sh w.n && (freeB w.s.sh w.cell && (rI w.min 0 1440 && (rI w.every 1 1440 && (rI w.endu 1 1440 && (decide ((w.aft.length : Int) ≤ 8) && aftB none w.aft))))))
def aftAt (l : List Int) : Nat → Option Int
 | 0 => none
 | i + 1 => l[i]?
theorem aftB_at {l : List Int} {i : Nat} {x : Int} (hx : l[i]? = some x) : aftB (aftAt l i) (l.drop i) = ((rI x 0 1440 && !(match aftAt l i with | some p => decide (x ≤ p) | none => false)) && aftB (aftAt l (i + 1)) (l.drop (i + 1))) := by
 have hi := lt_of_getElem? hx
 rw [List.drop_eq_getElem_cons hi]
 have : l[i] = x := by rw [List.getElem?_eq_getElem hi] at hx; exact Option.some.inj hx
 rw [this, show aftAt l (i + 1) = some x from hx]
 cases aftAt l i <;> simp [aftB]
theorem aftAt_pred {l : List Int} {i : Nat} (h0 : 0 < i) (hi : i < l.length) : ∃ p, aftAt l i = some p ∧ l[i - 1]? = some p := by
 obtain ⟨j, rfl⟩ : ∃ j, i = j + 1 := ⟨i - 1, by omega⟩
 exact ⟨l[j], by simp [aftAt, show j < l.length by omega], by simp [show j < l.length by omega]⟩
def decSky : List D → Option SkyW
 | [.agg [.int .i64 w, .int .i64 d, .sl es]] => match enB.decL es with
  | some l => some ⟨w, d, l⟩
  | none => none
 | _ => none
theorem decSky_eq (s : SkyW) : decSky [.agg s.c] = some s := by simp only [decSky, SkyW.c, shD, En.decL_map]
theorem decSky_inv {ds : List D} {s : SkyW} (h : decSky ds = some s) : ds = [.agg s.c] := by
 unfold decSky at h
 split at h
 ·split at h
  ·rename_i l hl
   cases h
   rw [En.decL_inv hl]; rfl
  ·cases h
 ·cases h
def gSky : List D → Option D := orc decSky (fun _ => true) (fun s => .bool (skyB s))
theorem gSky_eq (s : SkyW) : gSky [.agg s.c] = some (.bool (skyB s)) := orc_eq (decSky_eq s) rfl
noncomputable def gFree : List D → Option D := orcF (fun p : SkyW × Int => BL p.1.sh) (fun p => [.agg p.1.c, .int .i64 p.2]) (fun p => .bool (freeB p.1.sh p.2))
theorem SkyW.c_inj {a b : SkyW} (h : a.c = b.c) : a = b := by
 have := decSky_eq a
 rw [h, decSky_eq] at this
 exact (Option.some.inj this).symm
theorem gFree_eq {s : SkyW} (h : BL s.sh) (c : Int) : gFree [.agg s.c, .int .i64 c] = some (.bool (freeB s.sh c)) :=
 orcF_eq (ok := fun p : SkyW × Int => BL p.1.sh) (dsf := fun p => [.agg p.1.c, .int .i64 p.2]) (rf := fun p => .bool (freeB p.1.sh p.2)) (s, c) h fun b hb => by
  simp only [List.cons.injEq, D.agg.injEq, D.int.injEq, true_and, and_true] at hb
  rw [SkyW.c_inj hb.1, hb.2]
theorem enS_inj {a b : List (Int × Int)} (h : spD a = spD b) : a = b := by
 have h1 := En.decL_map (E := enS) a
 simp only [spD, D.sl.injEq] at h
 rw [h, En.decL_map] at h1
 exact (Option.some.inj h1).symm
theorem En.map_inj {α : Type} {E : En α} {a b : List α} (h : (D.sl (a.map E.d)) = .sl (b.map E.d)) : a = b := by
 have h1 := En.decL_map (E := E) a
 simp only [D.sl.injEq] at h
 rw [h, En.decL_map] at h1
 exact (Option.some.inj h1).symm
theorem NetW.c_inj {a b : NetW} (h : a.c = b.c) : a = b := by
 simp only [NetW.c, List.cons.injEq, and_true] at h
 obtain ⟨ar, al⟩ := a
 obtain ⟨br, bl⟩ := b
 have e1 := En.map_inj h.1
 have e2 := En.map_inj h.2
 simp only at e1 e2
 rw [e1, e2]
noncomputable def gNet : List D → Option D := orcF (fun p : SkyW × NetW => BL p.1.sh ∧ NetL p.2) (fun p => [.agg p.1.c, .agg p.2.c]) (fun p => .bool (netB p.1.sh p.2))
theorem gNet_eq {s : SkyW} (h : BL s.sh) {n : NetW} (hn : NetL n) : gNet [.agg s.c, .agg n.c] = some (.bool (netB s.sh n)) :=
 orcF_eq (ok := fun p : SkyW × NetW => BL p.1.sh ∧ NetL p.2) (dsf := fun p => [.agg p.1.c, .agg p.2.c]) (rf := fun p => .bool (netB p.1.sh p.2)) (s, n) ⟨h, hn⟩ fun b hb => by
  simp only [List.cons.injEq, D.agg.injEq, and_true] at hb
  rw [SkyW.c_inj hb.1, NetW.c_inj hb.2]
noncomputable abbrev e4 : List (FuncId × (List D → Option D)) :=
 (53, gSky) :: (39, gSky) :: (47, gFree) :: (37, gFree) :: (69, gNet) :: (40, gNet) :: e3
theorem e4_ok : OkO Tryz.prog (mkO e4) :=
 mkO_ok (orc_ok fun ds s h _ => by rw [decSky_inv h]; exact w_sky_t s) <| mkO_ok (orc_ok fun ds s h _ => by rw [decSky_inv h]; exact r_Sky_t s) <|
 mkO_ok (orcF_ok fun p h => w_free_t p.1 h p.2) <| mkO_ok (orcF_ok fun p h => r_Free_t p.1 h p.2) <|
 mkO_ok (orcF_ok fun p h => w_net_t p.1 h.1 p.2 h.2) <| mkO_ok (orcF_ok fun p h => r_Net_t p.1 h.1 p.2 h.2) e3_ok
end Go.Sx

namespace Go.Sx
open Go.Proofs
set_option maxRecDepth 10000

abbrev inD (l : List Int) : D := .sl (l.map enI.d)
theorem aft_ix {l : List Int} {i : Nat} {x : Int} (hb : l[i]? = some x) (h : H) : indexAddrD Tryz.prog h 29 (inD l) (.int .i64 (i : Int)) = some (.ref [.int .i64 x] 0) := En.ix (P := Tryz.prog) Fz.und_29 Fz.size_3 (E := enI) (En.sl_map (E := enI) l) hb h .i64
set_option maxHeartbeats 4000000 in
theorem w_watched_t (w : WatchW) (hl : WatchL w) : Pure Tryz.prog 43 [.agg w.c] (.bool (watchB w)) := by
 obtain ⟨⟨sw, sd, sh⟩, ⟨rl, lk⟩, cell, mi, ev, en, af⟩ := w
 obtain ⟨h1, h2, h3⟩ := hl
 dsimp only at h1 h2 h3
 have oS := gSky_eq ⟨sw, sd, sh⟩
 have oN := gNet_eq (s := ⟨sw, sd, sh⟩) h1 h2
 have oF := gFree_eq (s := ⟨sw, sd, sh⟩) h1 cell
 simp only [WatchW.c, watchB, SkyW.c, NetW.c, List.cons_append, List.nil_append] at oS oN oF ⊢
 generalize hR : (skyB ⟨sw, sd, sh⟩ && (netB sh ⟨rl, lk⟩ && (freeB sh cell && (rI mi 0 1440 && (rI ev 1 1440 && (rI en 1 1440 && (decide ((af.length : Int) ≤ 8) && aftB none af))))))) = R
 refine pure_of_wc (rs := [.tmp 2]) (m := 75) [] e4_ok (by kernel_rfl) Tryz.func43 rfl (by kernel_rfl) rfl rfl (by kernel_rfl) ?_
 cases p1 : skyB ⟨sw, sd, sh⟩
 ·simp only [RT, FS, ↓RE, okR, argEnv, Nat.reduceAdd, Nat.reduceSub, Nat.reduceLT, Nat.reduceLeDiff, Nat.reduceEqDiff, reduceIte, oS, p1, Bool.not_false, Bool.not_true, Bool.false_and]
  rw [← hR, p1]; rfl
 cases p2 : netB sh ⟨rl, lk⟩
 ·simp only [RT, FS, ↓RE, okR, argEnv, Nat.reduceAdd, Nat.reduceSub, Nat.reduceLT, Nat.reduceLeDiff, Nat.reduceEqDiff, reduceIte, oS, oN, p1, p2, Bool.not_false, Bool.not_true, Bool.false_and, Bool.true_and]
  rw [← hR, p1, p2]; rfl
 cases p3 : freeB sh cell
 ·simp only [RT, FS, ↓RE, okR, argEnv, Nat.reduceAdd, Nat.reduceSub, Nat.reduceLT, Nat.reduceLeDiff, Nat.reduceEqDiff, reduceIte, oS, oN, oF, p1, p2, p3, Bool.not_false, Bool.not_true, Bool.false_and, Bool.true_and]
  rw [← hR, p1, p2, p3]; rfl
 cases p4 : rI mi 0 1440
 ·simp only [RT, FS, ↓RE, okR, argEnv, Nat.reduceAdd, Nat.reduceSub, Nat.reduceLT, Nat.reduceLeDiff, Nat.reduceEqDiff, reduceIte, oS, oN, oF, p1, p2, p3, p4, gMin_eq, Bool.not_false, Bool.not_true, Bool.false_and, Bool.true_and]
  rw [← hR, p1, p2, p3, p4]; rfl
 cases p5 : rI ev 1 1440
 ·simp only [RT, FS, ↓RE, okR, argEnv, Nat.reduceAdd, Nat.reduceSub, Nat.reduceLT, Nat.reduceLeDiff, Nat.reduceEqDiff, reduceIte, oS, oN, oF, p1, p2, p3, p4, p5, gI3_eq, gMin_eq, Bool.not_false, Bool.not_true, Bool.false_and, Bool.true_and]
  rw [← hR, p1, p2, p3, p4, p5]; rfl
 cases p6 : rI en 1 1440
 ·simp only [RT, FS, ↓RE, okR, argEnv, Nat.reduceAdd, Nat.reduceSub, Nat.reduceLT, Nat.reduceLeDiff, Nat.reduceEqDiff, reduceIte, oS, oN, oF, p1, p2, p3, p4, p5, p6, gI3_eq, gMin_eq, Bool.not_false, Bool.not_true, Bool.false_and, Bool.true_and]
  rw [← hR, p1, p2, p3, p4, p5, p6]; rfl
 cases p7 : decide ((8 : Int) < af.length)
 case true =>
  have p8 : decide ((af.length : Int) ≤ 8) = false := by simp at p7 ⊢; omega
  simp only [RT, FS, ↓RE, okR, argEnv, Nat.reduceAdd, Nat.reduceSub, Nat.reduceLT, Nat.reduceLeDiff, Nat.reduceEqDiff, reduceIte, oS, oN, oF, p1, p2, p3, p4, p5, p6, p7, p8, List.length_map, gI3_eq, gMin_eq, Bool.not_false, Bool.not_true, Bool.false_and, Bool.true_and]
  rw [← hR, p1, p2, p3, p4, p5, p6, p8]; rfl
 have p8 : decide ((af.length : Int) ≤ 8) = true := by simp at p7 ⊢; omega
 simp only [RT, FS, ↓RE, okR, argEnv, Nat.reduceAdd, Nat.reduceSub, Nat.reduceLT, Nat.reduceLeDiff, Nat.reduceEqDiff, reduceIte, oS, oN, oF, p1, p2, p3, p4, p5, p6, p7, p8, List.length_map, gI3_eq, gMin_eq, Bool.not_false, Bool.not_true, Bool.false_and, Bool.true_and]
 have hR' : R = aftB none af := by rw [← hR, p1, p2, p3, p4, p5, p6, p8]; rfl
 clear hR
 refine loopV (ι := Nat) e4_ok [] (fun i => [(1, .ptr 0 0), (50, inD af), (51, .int .i64 (af.length : Int)), (52, .int .i64 (i : Int))])
  (fun i => [(0, .box [.int .i64 sw, .int .i64 sd, shD sh, rlD rl, lkD lk, .int .i64 cell, .int .i64 mi, .int .i64 ev, .int .i64 en, .sl (af.map enI.d)])]) 1 (fun i => i ≤ af.length ∧ aftB none af = aftB (aftAt af i) (af.drop i)) (fun i => af.length - i) 0 (by kernel_rfl) (by kernel_rfl) ⟨Nat.zero_le _, rfl⟩ ?_ ?_
 ·simp [headW, heapW, envW, blkLt, D.ltL, D.lt, look, hget, shD]
 rintro i ⟨hil, hok⟩
 rcases Nat.lt_or_ge i af.length with hlt | hge
 ·have hc := nat_lt_true hlt
  obtain ⟨x, hr⟩ : ∃ r, af[i]? = some r := ⟨af[i], by simp [hlt]⟩
  have hix := aft_ix hr
  have hw1 := wrap_i64 (z := (i : Int) + 1) (by omega) (by omega)
  rw [aftB_at hr] at hok
  cases q1 : rI x 0 1440
  ·simp only [RT, FS, ↓RE, okR, argEnv, Nat.reduceAdd, Nat.reduceSub, Nat.reduceLT, Nat.reduceLeDiff, Nat.reduceEqDiff, reduceIte, hix, hc, decide_true, gMin_eq, q1, List.length_map, Bool.not_false, Bool.not_true, Bool.false_and]
   rw [hR', hok, q1]; rfl
  rcases Nat.eq_zero_or_pos i with h0 | h0
  ·subst h0
   have hz : ((0 : Int) < ((0 : Nat) : Int)) = False := by simp
   simp only [RT, FS, ↓RE, okR, argEnv, Nat.reduceAdd, Nat.reduceSub, Nat.reduceLT, Nat.reduceLeDiff, Nat.reduceEqDiff, reduceIte, hix, hc, hz, decide_true, decide_false, gMin_eq, q1, hw1, List.length_map, Bool.not_false, Bool.not_true, Bool.true_and]
   exact ⟨1, ⟨by omega, by rw [hok, q1]; rfl⟩, by omega, by simp [headW, heapW, envW, blkLt, D.ltL, D.lt, look, hget, shD]⟩
  obtain ⟨p, hp, hp2⟩ := aftAt_pred h0 hlt
  have hix2 := aft_ix hp2
  have hz : ((0 : Int) < (i : Int)) = True := by simp; omega
  have hw2 : IntKind.i64.wrap ((i : Int) - 1) = ((i - 1 : Nat) : Int) := by rw [wrap_i64 (by omega) (by omega)]; omega
  rw [hp] at hok
  cases q2 : decide (x ≤ p)
  ·simp only [RT, FS, ↓RE, okR, argEnv, Nat.reduceAdd, Nat.reduceSub, Nat.reduceLT, Nat.reduceLeDiff, Nat.reduceEqDiff, reduceIte, hix, hix2, hc, hz, hw2, decide_true, decide_false, gMin_eq, q1, q2, hw1, List.length_map, Bool.not_false, Bool.not_true, Bool.true_and]
   exact ⟨i + 1, ⟨by omega, by rw [hok, q1]; simp [q2]⟩, by omega, by simp [headW, heapW, envW, blkLt, D.ltL, D.lt, look, hget, shD]⟩
  ·simp only [RT, FS, ↓RE, okR, argEnv, Nat.reduceAdd, Nat.reduceSub, Nat.reduceLT, Nat.reduceLeDiff, Nat.reduceEqDiff, reduceIte, hix, hix2, hc, hz, hw2, decide_true, decide_false, gMin_eq, q1, q2, hw1, List.length_map, Bool.not_false, Bool.not_true, Bool.true_and]
   rw [hR', hok, q1]; simp [q2]
 ·have hc := nat_lt_false hge
  have : i = af.length := by omega
  subst this
  rw [List.drop_length] at hok
  simp only [RT, FS, ↓RE, okR, argEnv, Nat.reduceAdd, Nat.reduceSub, Nat.reduceLT, Nat.reduceLeDiff, Nat.reduceEqDiff, reduceIte, hc, decide_false, List.length_map]
  rw [hR', hok]
  cases aftAt af af.length <;> rfl
set_option maxHeartbeats 4000000 in
theorem r_Watch_t (w : WatchW) (hl : WatchL w) : Pure Tryz.prog 16 [.agg w.c] (.bool (watchB w)) := by
 obtain ⟨⟨sw, sd, sh⟩, ⟨rl, lk⟩, cell, mi, ev, en, af⟩ := w
 obtain ⟨h1, h2, h3⟩ := hl
 dsimp only at h1 h2 h3
 have oS := gSky_eq ⟨sw, sd, sh⟩
 have oN := gNet_eq (s := ⟨sw, sd, sh⟩) h1 h2
 have oF := gFree_eq (s := ⟨sw, sd, sh⟩) h1 cell
 simp only [WatchW.c, watchB, SkyW.c, NetW.c, List.cons_append, List.nil_append] at oS oN oF ⊢
 generalize hR : (skyB ⟨sw, sd, sh⟩ && (netB sh ⟨rl, lk⟩ && (freeB sh cell && (rI mi 0 1440 && (rI ev 1 1440 && (rI en 1 1440 && (decide ((af.length : Int) ≤ 8) && aftB none af))))))) = R
 refine pure_of_wc (rs := [.tmp 2]) (m := 80) [(6, [(25, false, false, [])])] e4_ok (by kernel_rfl) Tryz.func16 rfl (by kernel_rfl) rfl rfl (by kernel_rfl) ?_
 cases p1 : skyB ⟨sw, sd, sh⟩
 ·simp only [RT, FS, ↓RE, okR, argEnv, Nat.reduceAdd, Nat.reduceSub, Nat.reduceLT, Nat.reduceLeDiff, Nat.reduceEqDiff, reduceIte, oS, p1, Bool.not_false, Bool.not_true, Bool.false_and]
  rw [← hR, p1]; rfl
 cases p2 : netB sh ⟨rl, lk⟩
 ·simp only [RT, FS, ↓RE, okR, argEnv, Nat.reduceAdd, Nat.reduceSub, Nat.reduceLT, Nat.reduceLeDiff, Nat.reduceEqDiff, reduceIte, oS, oN, p1, p2, Bool.not_false, Bool.not_true, Bool.false_and, Bool.true_and]
  rw [← hR, p1, p2]; rfl
 cases p3 : freeB sh cell
 ·simp only [RT, FS, ↓RE, okR, argEnv, Nat.reduceAdd, Nat.reduceSub, Nat.reduceLT, Nat.reduceLeDiff, Nat.reduceEqDiff, reduceIte, oS, oN, oF, p1, p2, p3, Bool.not_false, Bool.not_true, Bool.false_and, Bool.true_and]
  rw [← hR, p1, p2, p3]; rfl
 cases p4 : rI mi 0 1440
 ·simp only [RT, FS, ↓RE, okR, argEnv, Nat.reduceAdd, Nat.reduceSub, Nat.reduceLT, Nat.reduceLeDiff, Nat.reduceEqDiff, reduceIte, oS, oN, oF, p1, p2, p3, p4, gMin_eq, Bool.not_false, Bool.not_true, Bool.false_and, Bool.true_and]
  rw [← hR, p1, p2, p3, p4]; rfl
 cases p5 : rI ev 1 1440
 ·simp only [RT, FS, ↓RE, okR, argEnv, Nat.reduceAdd, Nat.reduceSub, Nat.reduceLT, Nat.reduceLeDiff, Nat.reduceEqDiff, reduceIte, oS, oN, oF, p1, p2, p3, p4, p5, gI3_eq, gMin_eq, Bool.not_false, Bool.not_true, Bool.false_and, Bool.true_and]
  rw [← hR, p1, p2, p3, p4, p5]; rfl
 cases p6 : rI en 1 1440
 ·simp only [RT, FS, ↓RE, okR, argEnv, Nat.reduceAdd, Nat.reduceSub, Nat.reduceLT, Nat.reduceLeDiff, Nat.reduceEqDiff, reduceIte, oS, oN, oF, p1, p2, p3, p4, p5, p6, gI3_eq, gMin_eq, Bool.not_false, Bool.not_true, Bool.false_and, Bool.true_and]
  rw [← hR, p1, p2, p3, p4, p5, p6]; rfl
 cases p7 : decide ((8 : Int) < af.length)
 case true =>
  have p8 : decide ((af.length : Int) ≤ 8) = false := by simp at p7 ⊢; omega
  simp only [RT, FS, ↓RE, okR, argEnv, Nat.reduceAdd, Nat.reduceSub, Nat.reduceLT, Nat.reduceLeDiff, Nat.reduceEqDiff, reduceIte, oS, oN, oF, p1, p2, p3, p4, p5, p6, p7, p8, List.length_map, gI3_eq, gMin_eq, Bool.not_false, Bool.not_true, Bool.false_and, Bool.true_and]
  rw [← hR, p1, p2, p3, p4, p5, p6, p8]; rfl
 have p8 : decide ((af.length : Int) ≤ 8) = true := by simp at p7 ⊢; omega
 simp only [RT, FS, ↓RE, okR, argEnv, Nat.reduceAdd, Nat.reduceSub, Nat.reduceLT, Nat.reduceLeDiff, Nat.reduceEqDiff, reduceIte, oS, oN, oF, p1, p2, p3, p4, p5, p6, p7, p8, List.length_map, gI3_eq, gMin_eq, Bool.not_false, Bool.not_true, Bool.false_and, Bool.true_and]
 have hR' : R = aftB none af := by rw [← hR, p1, p2, p3, p4, p5, p6, p8]; rfl
 clear hR
 refine loopV (ι := Nat) e4_ok [(6, [(25, false, false, [])])] (fun i => [(1, .ptr 0 0), (3, .int .i64 (i : Int))])
  (fun i => [(0, .box [.int .i64 sw, .int .i64 sd, shD sh, rlD rl, lkD lk, .int .i64 cell, .int .i64 mi, .int .i64 ev, .int .i64 en, .sl (af.map enI.d)])]) 1 (fun i => i ≤ af.length ∧ aftB none af = aftB (aftAt af i) (af.drop i)) (fun i => af.length - i) 0 (by kernel_rfl) (by kernel_rfl) ⟨Nat.zero_le _, rfl⟩ ?_ ?_
 ·simp [headW, heapW, envW, blkLt, D.ltL, D.lt, look, hget, shD]
 rintro i ⟨hil, hok⟩
 rcases Nat.lt_or_ge i af.length with hlt | hge
 ·have hc := nat_lt_true hlt
  obtain ⟨x, hr⟩ : ∃ r, af[i]? = some r := ⟨af[i], by simp [hlt]⟩
  have hix := aft_ix hr
  have hw1 := wrap_i64 (z := (i : Int) + 1) (by omega) (by omega)
  rw [aftB_at hr] at hok
  cases q1 : rI x 0 1440
  ·simp only [RT, FS, ↓RE, okR, argEnv, Nat.reduceAdd, Nat.reduceSub, Nat.reduceLT, Nat.reduceLeDiff, Nat.reduceEqDiff, reduceIte, hix, hc, decide_true, gMin_eq, q1, List.length_map, Bool.not_false, Bool.not_true, Bool.false_and]
   rw [hR', hok, q1]; rfl
  rcases Nat.eq_zero_or_pos i with h0 | h0
  ·subst h0
   have hz : ((0 : Int) < ((0 : Nat) : Int)) = False := by simp
   simp only [RT, FS, ↓RE, okR, argEnv, Nat.reduceAdd, Nat.reduceSub, Nat.reduceLT, Nat.reduceLeDiff, Nat.reduceEqDiff, reduceIte, hix, hc, hz, decide_true, decide_false, gMin_eq, q1, hw1, List.length_map, Bool.not_false, Bool.not_true, Bool.true_and]
   exact ⟨1, ⟨by omega, by rw [hok, q1]; rfl⟩, by omega, by simp [headW, heapW, envW, blkLt, D.ltL, D.lt, look, hget, shD]⟩
  obtain ⟨p, hp, hp2⟩ := aftAt_pred h0 hlt
  have hix2 := aft_ix hp2
  have hz : ((0 : Int) < (i : Int)) = True := by simp; omega
  have hw2 : IntKind.i64.wrap ((i : Int) - 1) = ((i - 1 : Nat) : Int) := by rw [wrap_i64 (by omega) (by omega)]; omega
  rw [hp] at hok
  cases q2 : decide (x ≤ p)
  ·simp only [RT, FS, ↓RE, okR, argEnv, Nat.reduceAdd, Nat.reduceSub, Nat.reduceLT, Nat.reduceLeDiff, Nat.reduceEqDiff, reduceIte, hix, hix2, hc, hz, hw2, decide_true, decide_false, gMin_eq, q1, q2, hw1, List.length_map, Bool.not_false, Bool.not_true, Bool.true_and]
   exact ⟨i + 1, ⟨by omega, by rw [hok, q1]; simp [q2]⟩, by omega, by simp [headW, heapW, envW, blkLt, D.ltL, D.lt, look, hget, shD]⟩
  ·simp only [RT, FS, ↓RE, okR, argEnv, Nat.reduceAdd, Nat.reduceSub, Nat.reduceLT, Nat.reduceLeDiff, Nat.reduceEqDiff, reduceIte, hix, hix2, hc, hz, hw2, decide_true, decide_false, gMin_eq, q1, q2, hw1, List.length_map, Bool.not_false, Bool.not_true, Bool.true_and]
   rw [hR', hok, q1]; simp [q2]
 ·have hc := nat_lt_false hge
  have : i = af.length := by omega
  subst this
  rw [List.drop_length] at hok
  simp only [RT, FS, ↓RE, okR, argEnv, Nat.reduceAdd, Nat.reduceSub, Nat.reduceLT, Nat.reduceLeDiff, Nat.reduceEqDiff, reduceIte, hc, decide_false, List.length_map]
  rw [hR', hok]
  cases aftAt af af.length <;> rfl

theorem WatchW.c_inj {a b : WatchW} (h : a.c = b.c) : a = b := by
 obtain ⟨⟨aw, ad, ash⟩, ⟨ar, al⟩, a1, a2, a3, a4, a5⟩ := a
 obtain ⟨⟨bw, bd, bsh⟩, ⟨br, bl⟩, b1, b2, b3, b4, b5⟩ := b
 simp only [WatchW.c, SkyW.c, NetW.c, List.cons_append, List.nil_append, List.cons.injEq, D.int.injEq, true_and, and_true] at h
 obtain ⟨rfl, rfl, e1, e2, e3, rfl, rfl, rfl, rfl, e4⟩ := h
 have e1' : ash = bsh := En.map_inj (E := enB) e1
 have e2' : ar = br := En.map_inj (E := enRl) e2
 have e3' : al = bl := En.map_inj (E := enLk) e3
 have e4' : a5 = b5 := En.map_inj (E := enI) e4
 subst e1'; subst e2'; subst e3'; subst e4'
 rfl
noncomputable def gWatch : List D → Option D := orcF (fun w : WatchW => WatchL w) (fun w => [.agg w.c]) (fun w => .bool (watchB w))
theorem gWatch_eq {w : WatchW} (h : WatchL w) : gWatch [.agg w.c] = some (.bool (watchB w)) :=
 orcF_eq (ok := fun w : WatchW => WatchL w) (dsf := fun w => [.agg w.c]) (rf := fun w => .bool (watchB w)) w h fun b hb => by
  simp only [List.cons.injEq, D.agg.injEq, and_true] at hb
  rw [WatchW.c_inj hb]
noncomputable abbrev e5 : List (FuncId × (List D → Option D)) := (43, gWatch) :: (16, gWatch) :: e4
theorem e5_ok : OkO Tryz.prog (mkO e5) := mkO_ok (orcF_ok fun w h => w_watched_t w h) <| mkO_ok (orcF_ok fun w h => r_Watch_t w h) e4_ok
end Go.Sx

namespace Go.Sx
open Go.Proofs
set_option maxRecDepth 10000

theorem max_int4 (k : IntKind) (a b c d : Int) : maxOpD [.int k a, .int k b, .int k c, .int k d] = some (.int k (max (max (max a b) c) d)) := by
 have e : ∀ a b : Int, (if a < b then b else a) = max a b := fun a b => by omega
 simp only [maxOpD, maxL, e]
structure SkyOk (s : SkyW) : Prop where
 w : 1 ≤ s.w ∧ s.w ≤ 12
 d : 1 ≤ s.d ∧ s.d ≤ 12
 n : (s.sh.length : Int) = s.w * s.d
theorem sky_ok {s : SkyW} (h : skyB s = true) : SkyOk s := by
 simp only [skyB, Bool.and_eq_true, decide_eq_true_eq] at h
 exact ⟨rI_le h.1, rI_le h.2.1, h.2.2⟩
theorem SkyOk.b {s : SkyW} (h : SkyOk s) : skyB s = true := by
 have := h.w; have := h.d
 simp only [skyB, rI, Bool.and_eq_true, decide_eq_true_eq]
 exact ⟨⟨by omega, by omega⟩, ⟨by omega, by omega⟩, h.n⟩
theorem SkyOk.le {s : SkyW} (h : SkyOk s) : (s.sh.length : Int) ≤ 144 ∧ 1 ≤ (s.sh.length : Int) := by
 have := mul_le h.w h.d; rw [h.n]; omega
def InS (s : SkyW) (c : Int) : Prop := 0 ≤ c ∧ c < (s.sh.length : Int)
def distI (w a b : Int) : Int := max (max (a % w - b % w) (-(a % w - b % w))) (max (a / w - b / w) (-(a / w - b / w)))
theorem cell_b {s : SkyW} (h : SkyOk s) {c : Int} (hc : InS s c) : (0 ≤ c % s.w ∧ c % s.w < s.w) ∧ (0 ≤ c / s.w ∧ c / s.w < s.d) := by
 have hw := h.w
 refine ⟨⟨Int.emod_nonneg _ (by omega), Int.emod_lt_of_pos _ (by omega)⟩, Int.ediv_nonneg hc.1 (by omega), ?_⟩
 refine Int.ediv_lt_of_lt_mul (by omega) ?_
 rw [Int.mul_comm, ← h.n]; exact hc.2
theorem cell_ar {s : SkyW} (h : SkyOk s) {c : Int} (hc : InS s c) : c.tmod s.w = c % s.w ∧ IntKind.i64.wrap (c.tdiv s.w) = c / s.w := by
 have := h.d
 have := cell_b h hc
 exact ⟨Int.tmod_eq_emod_of_nonneg hc.1, by rw [Int.tdiv_eq_ediv_of_nonneg hc.1]; exact wrap_i64 (by omega) (by omega)⟩
section
variable {s : SkyW} (hs : SkyOk s) {a b : Int} (ha : InS s a) (hb : InS s b)
include hs ha hb
theorem w_distance_t : Pure Tryz.prog 72 [.agg s.c, .int .i64 a, .int .i64 b] (.int .i64 (distI s.w a b)) := by
 have hw := hs.w
 have hd := hs.d
 obtain ⟨a1, a2⟩ := cell_ar hs ha
 obtain ⟨b1, b2⟩ := cell_ar hs hb
 have ka := cell_b hs ha
 have kb := cell_b hs hb
 obtain ⟨w, d, sh⟩ := s
 dsimp only at *
 have z1 := a_rem' (k := .i64) (x := a) (y := w) (by omega)
 have z2 := a_rem' (k := .i64) (x := b) (y := w) (by omega)
 have z3 := a_quo' (k := .i64) (x := a) (y := w) (by omega)
 have z4 := a_quo' (k := .i64) (x := b) (y := w) (by omega)
 unfold distI
 generalize a % w = p at *
 generalize b % w = q at *
 generalize a / w = u at *
 generalize b / w = v at *
 have w1 := wrap_i64 (z := p - q) (by omega) (by omega)
 have w2 := wrap_i64 (z := u - v) (by omega) (by omega)
 have w3 : IntKind.i64.wrap (0 - (p - q)) = -(p - q) := by rw [wrap_i64 (by omega) (by omega)]; omega
 have w4 : IntKind.i64.wrap (0 - (u - v)) = -(u - v) := by rw [wrap_i64 (by omega) (by omega)]; omega
 simp only [SkyW.c]
 refine pure_of_wc (rs := [.tmp 6]) (m := 34) [(1, [(20, false, false, [])])] oNone_ok (by kernel_rfl) Tryz.func72 rfl (by kernel_rfl) rfl rfl (by kernel_rfl) ?_
 simp only [RT, FS, ↓RE, okR, argEnv, Nat.reduceAdd, Nat.reduceSub, Nat.reduceLT, Nat.reduceLeDiff, Nat.reduceEqDiff, reduceIte, z1, z2, z3, z4, a1, a2, b1, b2, w1, w2, w3, w4, max_int4]
 rw [show max (max (max (p - q) (-(p - q))) (u - v)) (-(u - v)) = max (max (p - q) (-(p - q))) (max (u - v) (-(u - v))) by omega]
theorem r_Distance_t : Pure Tryz.prog 38 [.agg s.c, .int .i64 a, .int .i64 b] (.int .i64 (distI s.w a b)) := by
 have hw := hs.w
 have hd := hs.d
 obtain ⟨a1, a2⟩ := cell_ar hs ha
 obtain ⟨b1, b2⟩ := cell_ar hs hb
 have ka := cell_b hs ha
 have kb := cell_b hs hb
 obtain ⟨w, d, sh⟩ := s
 dsimp only at *
 have z1 := a_rem' (k := .i64) (x := a) (y := w) (by omega)
 have z2 := a_rem' (k := .i64) (x := b) (y := w) (by omega)
 have z3 := a_quo' (k := .i64) (x := a) (y := w) (by omega)
 have z4 := a_quo' (k := .i64) (x := b) (y := w) (by omega)
 unfold distI
 generalize a % w = p at *
 generalize b % w = q at *
 generalize a / w = u at *
 generalize b / w = v at *
 have w1 := wrap_i64 (z := p - q) (by omega) (by omega)
 have w2 := wrap_i64 (z := u - v) (by omega) (by omega)
 have w3 : IntKind.i64.wrap (0 - (p - q)) = -(p - q) := by rw [wrap_i64 (by omega) (by omega)]; omega
 have w4 : IntKind.i64.wrap (0 - (u - v)) = -(u - v) := by rw [wrap_i64 (by omega) (by omega)]; omega
 simp only [SkyW.c]
 refine pure_of_wc (rs := [.tmp 6]) (m := 36) [(1, [(20, false, false, [])])] oNone_ok (by kernel_rfl) Tryz.func38 rfl (by kernel_rfl) rfl rfl (by kernel_rfl) ?_
 simp only [RT, FS, ↓RE, okR, argEnv, Nat.reduceAdd, Nat.reduceSub, Nat.reduceLT, Nat.reduceLeDiff, Nat.reduceEqDiff, reduceIte, z1, z2, z3, z4, a1, a2, b1, b2, w1, w2, w3, w4]
end
noncomputable def gDist : List D → Option D := orcF (fun p : SkyW × Int × Int => SkyOk p.1 ∧ InS p.1 p.2.1 ∧ InS p.1 p.2.2) (fun p => [.agg p.1.c, .int .i64 p.2.1, .int .i64 p.2.2]) (fun p => .int .i64 (distI p.1.w p.2.1 p.2.2))
theorem gDist_eq {s : SkyW} (hs : SkyOk s) {a b : Int} (ha : InS s a) (hb : InS s b) : gDist [.agg s.c, .int .i64 a, .int .i64 b] = some (.int .i64 (distI s.w a b)) :=
 orcF_eq (ok := fun p : SkyW × Int × Int => SkyOk p.1 ∧ InS p.1 p.2.1 ∧ InS p.1 p.2.2) (dsf := fun p => [.agg p.1.c, .int .i64 p.2.1, .int .i64 p.2.2]) (rf := fun p => .int .i64 (distI p.1.w p.2.1 p.2.2)) (s, a, b) ⟨hs, ha, hb⟩ fun q hq => by
  simp only [List.cons.injEq, D.agg.injEq, D.int.injEq, true_and, and_true] at hq
  rw [SkyW.c_inj hq.1, hq.2.1, hq.2.2]

def upM (o v : Int) : Int := if o < 0 ∨ v < o then v else o
def mnL (vs : List Int) : Int := vs.foldl upM (-1)
def cand (m : Int) (s : Int × Int) : Option Int := if max s.1 m ≤ s.2 then some (max s.1 m) else none
def fstI (l : List (Int × Int)) (m : Int) : Int := mnL (l.filterMap (cand m))
def fstStep (m o : Int) (s : Int × Int) : Int := match cand m s with | some v => upM o v | none => o
theorem foldl_fm {α : Type} (f : α → Option Int) (o : Int) : ∀ l : List α, (l.filterMap f).foldl upM o = l.foldl (fun o s => match f s with | some v => upM o v | none => o) o
 | [] => rfl
 | s :: l => by
  rw [List.foldl_cons, ← foldl_fm f _ l]
  cases h : f s <;> simp [h]
theorem fst_fold (l : List (Int × Int)) (m : Int) : fstI l m = l.foldl (fstStep m) (-1) := foldl_fm _ _ _
theorem mnL_go : ∀ (vs : List Int) (o : Int), (∀ v ∈ vs, 0 ≤ v) → (vs = [] ∧ vs.foldl upM o = o) ∨ (o < 0 ∧ vs.foldl upM o ∈ vs ∧ ∀ v ∈ vs, vs.foldl upM o ≤ v) ∨ (0 ≤ o ∧ (vs.foldl upM o = o ∨ vs.foldl upM o ∈ vs) ∧ vs.foldl upM o ≤ o ∧ ∀ v ∈ vs, vs.foldl upM o ≤ v)
 | [], o, _ => .inl ⟨rfl, rfl⟩
 | v :: vs, o, h => by
  right
  have hv := h v (by simp)
  have ih := mnL_go vs (upM o v) (fun x hx => h x (by simp [hx]))
  rw [List.foldl_cons]
  generalize hr : vs.foldl upM (upM o v) = r at *
  have hu : upM o v = v ∨ upM o v = o := by unfold upM; split <;> simp
  have hu2 : 0 ≤ upM o v ∧ upM o v ≤ v ∧ (0 ≤ o → upM o v ≤ o) ∧ (o < 0 → upM o v = v) := by
   unfold upM
   split <;> refine ⟨by omega, by omega, fun _ => by omega, fun _ => by omega⟩
  rcases ih with ⟨rfl, ih⟩ | ⟨h1, _⟩ | ⟨h1, h2, h3, h4⟩
  ·simp only [List.foldl_nil] at hr
   rcases Int.lt_or_le o 0 with ho | ho
   ·left; refine ⟨ho, ?_, ?_⟩ <;> rw [ih, hu2.2.2.2 ho] <;> simp
   ·right
    refine ⟨ho, ?_, by rw [ih]; exact hu2.2.2.1 ho, by simp; rw [ih]; exact hu2.2.1⟩
    rw [ih]; rcases hu with e | e <;> simp [e]
  ·omega
  ·rcases Int.lt_or_le o 0 with ho | ho
   ·left
    refine ⟨ho, ?_, fun x hx => ?_⟩
    ·rw [hu2.2.2.2 ho] at h2
     rcases h2 with e | e <;> simp [e]
    ·rcases List.mem_cons.1 hx with rfl | hx
     ·exact Int.le_trans h3 hu2.2.1
     ·exact h4 x hx
   ·right
    refine ⟨ho, ?_, Int.le_trans h3 (hu2.2.2.1 ho), fun x hx => ?_⟩
    ·rcases h2 with e | e
     ·rcases hu with e2 | e2
      ·right; rw [e, e2]; simp
      ·left; rw [e, e2]
     ·right; simp [e]
    ·rcases List.mem_cons.1 hx with rfl | hx
     ·exact Int.le_trans h3 hu2.2.1
     ·exact h4 x hx
theorem mnL_spec (vs : List Int) (h : ∀ v ∈ vs, 0 ≤ v) : (vs = [] ∧ mnL vs = -1) ∨ (mnL vs ∈ vs ∧ ∀ v ∈ vs, mnL vs ≤ v) := by
 rcases mnL_go vs (-1) h with h | ⟨_, h1, h2⟩ | ⟨h1, _⟩
 ·exact .inl h
 ·exact .inr ⟨h1, h2⟩
 ·omega
theorem mnL_eq {vs us : List Int} (hv : ∀ v ∈ vs, 0 ≤ v) (hu : ∀ u ∈ us, 0 ≤ u) (h1 : ∀ v ∈ vs, ∃ u ∈ us, u ≤ v) (h2 : ∀ u ∈ us, ∃ v ∈ vs, v ≤ u) : mnL vs = mnL us := by
 rcases mnL_spec vs hv with ⟨e1, m1⟩ | ⟨m1, k1⟩ <;> rcases mnL_spec us hu with ⟨e2, m2⟩ | ⟨m2, k2⟩
 ·rw [m1, m2]
 ·obtain ⟨v, h, _⟩ := h2 _ m2; rw [e1] at h; simp at h
 ·obtain ⟨v, h, _⟩ := h1 _ m1; rw [e2] at h; simp at h
 ·obtain ⟨u, q1, q2⟩ := h1 _ m1
  obtain ⟨v, q3, q4⟩ := h2 _ m2
  have := k2 u q1
  have := k1 v q3
  omega
theorem drop_fold {α β : Type} {f : β → α → β} {l : List α} {i : Nat} {x : α} (hx : l[i]? = some x) (o : β) : (l.drop i).foldl f o = (l.drop (i + 1)).foldl f (f o x) := by
 have hi := lt_of_getElem? hx
 rw [List.drop_eq_getElem_cons hi, List.foldl_cons]
 have : l[i] = x := by rw [List.getElem?_eq_getElem hi] at hx; exact Option.some.inj hx
 rw [this]
theorem w_first_t (l : List (Int × Int)) (h : BL l) (m : Int) : Pure Tryz.prog 88 [spD l, .int .i64 m] (.int .i64 (fstI l m)) := by
 rw [fst_fold]
 refine pure_of_wc (rs := [.tmp 4]) (m := 35) [] oNone_ok (by kernel_rfl) Tryz.func88 rfl (by kernel_rfl) rfl rfl (by kernel_rfl) ?_
 simp only [RT, FS, ↓RE, okR, argEnv, Nat.reduceAdd, Nat.reduceSub, Nat.reduceLT, Nat.reduceLeDiff, Nat.reduceEqDiff, reduceIte, List.length_map]
 refine loopV (ι := Nat × Int) oNone_ok [] (fun i => [(1, .int .i64 m), (5, .int .i64 i.2), (9, spD l), (10, .int .i64 (l.length : Int)), (11, .int .i64 (i.1 : Int))]) (fun i => []) 0
  (fun i => i.1 ≤ l.length ∧ (l.drop i.1).foldl (fstStep m) i.2 = l.foldl (fstStep m) (-1)) (fun i => l.length - i.1) (0, -1) (by kernel_rfl) (by kernel_rfl) ⟨Nat.zero_le _, rfl⟩ ?_ ?_
 ·simp [headW, heapW, envW, blkLt, D.ltL, D.lt, look, hget]
 rintro ⟨i, o⟩ ⟨hil, hok⟩
 dsimp only at hil hok ⊢
 rcases Nat.lt_or_ge i l.length with hlt | hge
 ·have hc := nat_lt_true hlt
  obtain ⟨⟨a, b⟩, hr⟩ : ∃ r, l[i]? = some r := ⟨l[i], by simp [hlt]⟩
  have hix := spD_ix hr
  have hw1 := wrap_i64 (z := (i : Int) + 1) (by omega) (by omega)
  rw [drop_fold hr] at hok
  simp only [fstStep, cand, upM] at hok
  cases q1 : decide (max a m ≤ b)
  ·have q1' : ¬ max a m ≤ b := by simpa using q1
   rw [if_neg q1'] at hok
   simp only [RT, FS, ↓RE, okR, argEnv, Nat.reduceAdd, Nat.reduceSub, Nat.reduceLT, Nat.reduceLeDiff, Nat.reduceEqDiff, reduceIte, hix, hc, decide_true, q1, hw1]
   exact ⟨(i + 1, o), ⟨by simp only; omega, hok⟩, by simp only; omega, by simp [headW, heapW, envW, blkLt, D.ltL, D.lt, look, hget]⟩
  have q1' : max a m ≤ b := by simpa using q1
  rw [if_pos q1'] at hok
  dsimp only at hok
  cases q2 : decide (o < 0)
  ·have q2' : ¬ o < 0 := by simpa using q2
   cases q3 : decide (max a m < o)
   ·have q3' : ¬ max a m < o := by simpa using q3
    rw [if_neg (by omega)] at hok
    simp only [RT, FS, ↓RE, okR, argEnv, Nat.reduceAdd, Nat.reduceSub, Nat.reduceLT, Nat.reduceLeDiff, Nat.reduceEqDiff, reduceIte, hix, hc, decide_true, q1, q2, q3, hw1]
    exact ⟨(i + 1, o), ⟨by simp only; omega, hok⟩, by simp only; omega, by simp [headW, heapW, envW, blkLt, D.ltL, D.lt, look, hget]⟩
   ·have q3' : max a m < o := by simpa using q3
    rw [if_pos (by omega)] at hok
    simp only [RT, FS, ↓RE, okR, argEnv, Nat.reduceAdd, Nat.reduceSub, Nat.reduceLT, Nat.reduceLeDiff, Nat.reduceEqDiff, reduceIte, hix, hc, decide_true, q1, q2, q3, hw1]
    exact ⟨(i + 1, max a m), ⟨by simp only; omega, hok⟩, by simp only; omega, by simp [headW, heapW, envW, blkLt, D.ltL, D.lt, look, hget]⟩
  ·have q2' : o < 0 := by simpa using q2
   rw [if_pos (by omega)] at hok
   simp only [RT, FS, ↓RE, okR, argEnv, Nat.reduceAdd, Nat.reduceSub, Nat.reduceLT, Nat.reduceLeDiff, Nat.reduceEqDiff, reduceIte, hix, hc, decide_true, q1, q2, hw1]
   exact ⟨(i + 1, max a m), ⟨by simp only; omega, hok⟩, by simp only; omega, by simp [headW, heapW, envW, blkLt, D.ltL, D.lt, look, hget]⟩
 ·have hc := nat_lt_false hge
  rw [List.drop_eq_nil_of_le hge] at hok
  simp only [RT, FS, ↓RE, okR, argEnv, Nat.reduceAdd, Nat.reduceSub, Nat.reduceLT, Nat.reduceLeDiff, Nat.reduceEqDiff, reduceIte, hc, decide_false]
  rw [← hok]; rfl
end Go.Sx

namespace Go.Sx
open Go.Proofs
set_option maxRecDepth 10000

def hasB (l : List (Int × Int)) (m : Int) : Bool := l.any fun s => rI m s.1 s.2
structure SpOk (l : List (Int × Int)) : Prop where
 n : l.length ≤ 6
 b : ∀ s ∈ l, 0 ≤ s.1 ∧ s.1 ≤ s.2 ∧ s.2 ≤ 1440
theorem open_ok {l : List (Int × Int)} (h : openB l = true) : SpOk l := by
 simp only [openB, Bool.and_eq_true, decide_eq_true_eq, Bool.not_eq_true'] at h
 refine ⟨by omega, fun s hs => ?_⟩
 have := List.any_eq_false.1 h.2 s hs
 simp [spBad] at this
 omega
theorem cand_b {l : List (Int × Int)} (h : SpOk l) (m : Int) : ∀ v ∈ l.filterMap (cand m), 0 ≤ v ∧ v ≤ 1440 ∧ m ≤ v := fun v hv => by
 obtain ⟨s, hs, e⟩ := List.mem_filterMap.1 hv
 have := h.b s hs
 unfold cand at e
 split at e
 ·cases e; omega
 ·cases e
theorem fstI_b {l : List (Int × Int)} (h : SpOk l) (m : Int) : -1 ≤ fstI l m ∧ fstI l m ≤ 1440 := by
 rcases mnL_spec (l.filterMap (cand m)) (fun v hv => (cand_b h m v hv).1) with ⟨_, e⟩ | ⟨e, _⟩
 ·unfold fstI; omega
 ·have := cand_b h m _ e
  unfold fstI; omega
theorem fst_has {l : List (Int × Int)} (h : SpOk l) {m : Int} (hm : 0 ≤ m) : decide (fstI l m = m) = hasB l m := by
 have hb := cand_b h m
 rw [Bool.eq_iff_iff]
 simp only [decide_eq_true_eq, hasB, List.any_eq_true]
 rcases mnL_spec (l.filterMap (cand m)) (fun v hv => (hb v hv).1) with ⟨e0, e⟩ | ⟨e, k⟩
 ·constructor
  ·intro q; unfold fstI at q; omega
  ·rintro ⟨s, hs, q⟩
   have q := rI_le q
   have : m ∈ l.filterMap (cand m) := List.mem_filterMap.2 ⟨s, hs, by simp [cand]; omega⟩
   rw [e0] at this; simp at this
 ·constructor
  ·intro q
   obtain ⟨s, hs, q2⟩ := List.mem_filterMap.1 e
   unfold fstI at q
   rw [q] at q2
   unfold cand at q2
   split at q2
   ·rename_i hle
    simp only [Option.some.injEq] at q2
    exact ⟨s, hs, by simp [rI]; omega⟩
   ·cases q2
  ·rintro ⟨s, hs, q⟩
   have q := rI_le q
   have hmm : m ∈ l.filterMap (cand m) := List.mem_filterMap.2 ⟨s, hs, by simp [cand]; omega⟩
   have := k m hmm
   have := (hb _ e).2.2
   unfold fstI; omega
theorem r_has_t (l : List (Int × Int)) (h : BL l) (m : Int) : Pure Tryz.prog 92 [spD l, .int .i64 m] (.bool (hasB l m)) := by
 refine pure_of_wc (rs := [.tmp 4]) (m := 24) [(4, [(12, false, false, [])])] e5_ok (by kernel_rfl) Tryz.func92 rfl (by kernel_rfl) rfl rfl (by kernel_rfl) ?_
 simp only [RT, FS, ↓RE, okR, argEnv, Nat.reduceAdd, Nat.reduceSub, Nat.reduceLT, Nat.reduceLeDiff, Nat.reduceEqDiff, reduceIte]
 refine loopV (ι := Nat) e5_ok [(4, [(12, false, false, [])])] (fun i => [(0, spD l), (1, .int .i64 m), (5, .int .i64 (i : Int))]) (fun i => []) 0 (fun i => i ≤ l.length ∧ (l.take i).all (fun s => !rI m s.1 s.2) = true) (fun i => l.length - i) 0 (by kernel_rfl) (by kernel_rfl) ⟨Nat.zero_le _, by simp⟩ ?_ ?_
 ·simp [headW, heapW, envW, blkLt, D.ltL, D.lt, look, hget]
 rintro i ⟨hil, hok⟩
 rcases Nat.lt_or_ge i l.length with hlt | hge
 ·have hc := nat_lt_true hlt
  obtain ⟨⟨a, b⟩, hr⟩ : ∃ r, l[i]? = some r := ⟨l[i], by simp [hlt]⟩
  have hix := spD_ix hr
  have hw1 := wrap_i64 (z := (i : Int) + 1) (by omega) (by omega)
  cases hq : rI m a b
  ·simp only [RT, FS, ↓RE, okR, argEnv, Nat.reduceAdd, Nat.reduceSub, Nat.reduceLT, Nat.reduceLeDiff, Nat.reduceEqDiff, reduceIte, List.length_map, hix, hc, decide_true, gI3_eq, hq, hw1]
   exact ⟨i + 1, ⟨by omega, all_cut hr hok (by simp [hq])⟩, by omega, by simp [headW, heapW, envW, blkLt, D.ltL, D.lt, look, hget]⟩
  ·simp only [RT, FS, ↓RE, okR, argEnv, Nat.reduceAdd, Nat.reduceSub, Nat.reduceLT, Nat.reduceLeDiff, Nat.reduceEqDiff, reduceIte, List.length_map, hix, hc, decide_true, gI3_eq, hq, hw1]
   rw [hasB, any_out hr (by simpa using hq)]
 ·have hc := nat_lt_false hge
  have : i = l.length := by omega
  subst this
  rw [List.take_length] at hok
  simp only [RT, FS, ↓RE, okR, argEnv, Nat.reduceAdd, Nat.reduceSub, Nat.reduceLT, Nat.reduceLeDiff, Nat.reduceEqDiff, reduceIte, List.length_map, hc, decide_false]
  rw [hasB, any_none hok]

noncomputable def gFst : List D → Option D := orcF (fun p : List (Int × Int) × Int => BL p.1) (fun p => [spD p.1, .int .i64 p.2]) (fun p => .int .i64 (fstI p.1 p.2))
theorem gFst_eq {l : List (Int × Int)} (h : BL l) (m : Int) : gFst [spD l, .int .i64 m] = some (.int .i64 (fstI l m)) :=
 orcF_eq (ok := fun p : List (Int × Int) × Int => BL p.1) (dsf := fun p => [spD p.1, .int .i64 p.2]) (rf := fun p => .int .i64 (fstI p.1 p.2)) (l, m) h fun q hq => by
  simp only [List.cons.injEq, D.int.injEq, true_and, and_true] at hq
  rw [enS_inj hq.1, hq.2]
noncomputable def gHas : List D → Option D := orcF (fun p : List (Int × Int) × Int => BL p.1) (fun p => [spD p.1, .int .i64 p.2]) (fun p => .bool (hasB p.1 p.2))
theorem gHas_eq {l : List (Int × Int)} (h : BL l) (m : Int) : gHas [spD l, .int .i64 m] = some (.bool (hasB l m)) :=
 orcF_eq (ok := fun p : List (Int × Int) × Int => BL p.1) (dsf := fun p => [spD p.1, .int .i64 p.2]) (rf := fun p => .bool (hasB p.1 p.2)) (l, m) h fun q hq => by
  simp only [List.cons.injEq, D.int.injEq, true_and, and_true] at hq
  rw [enS_inj hq.1, hq.2]
noncomputable abbrev e7 : List (FuncId × (List D → Option D)) :=
 (72, gDist) :: (38, gDist) :: (88, gFst) :: (92, gHas) :: e5
theorem e7_ok : OkO Tryz.prog (mkO e7) :=
 mkO_ok (orcF_ok fun p h => w_distance_t h.1 h.2.1 h.2.2) <| mkO_ok (orcF_ok fun p h => r_Distance_t h.1 h.2.1 h.2.2) <| mkO_ok (orcF_ok fun p h => w_first_t p.1 h p.2) <| mkO_ok (orcF_ok fun p h => r_has_t p.1 h p.2) e5_ok

def hearsB (s : SkyW) (r : RelayW) (c m : Int) : Bool := decide (distI s.w r.c c ≤ r.r) && hasB r.l m
theorem SpOk.bl {l : List (Int × Int)} (h : SpOk l) : BL l := by have := h.n; simp only [BL]; omega
structure RelOk (s : SkyW) (r : RelayW) : Prop where
 c : InS s r.c
 o : SpOk r.l
 g : 0 ≤ r.r ∧ r.r ≤ 12
theorem w_hears_t {s : SkyW} (hs : SkyOk s) {r : RelayW} (hr : RelOk s r) {c m : Int} (hc : InS s c) (hm : 0 ≤ m) : Pure Tryz.prog 74 [.agg s.c, .agg (enRl.d r), .int .i64 c, .int .i64 m] (.bool (hearsB s r c m)) := by
 have o1 := gDist_eq hs hr.c hc
 have o2 := gFst_eq hr.o.bl m
 have hh := fst_has hr.o hm
 obtain ⟨w, d, sh⟩ := s
 obtain ⟨rc, rr, rl⟩ := r
 simp only [SkyW.c, enRl, hearsB] at *
 rw [← hh]
 cases q1 : decide (distI w rc c ≤ rr)
 ·refine pure_of_wc (rs := [.tmp 8]) (m := 25) [(1, [(17, false, false, [])])] e7_ok (by kernel_rfl) Tryz.func74 rfl (by kernel_rfl) rfl rfl (by kernel_rfl) ?_
  simp only [RT, FS, ↓RE, okR, argEnv, Nat.reduceAdd, Nat.reduceSub, Nat.reduceLT, Nat.reduceLeDiff, Nat.reduceEqDiff, reduceIte, o1, q1, Bool.false_and]
 ·refine pure_of_wc (rs := [.tmp 8]) (m := 25) [(1, [(17, false, false, [])])] e7_ok (by kernel_rfl) Tryz.func74 rfl (by kernel_rfl) rfl rfl (by kernel_rfl) ?_
  simp only [RT, FS, ↓RE, okR, argEnv, Nat.reduceAdd, Nat.reduceSub, Nat.reduceLT, Nat.reduceLeDiff, Nat.reduceEqDiff, reduceIte, o1, o2, q1, beq_dec, Bool.true_and]
theorem r_Hears_t {s : SkyW} (hs : SkyOk s) {r : RelayW} (hr : RelOk s r) {c m : Int} (hc : InS s c) : Pure Tryz.prog 84 [.agg s.c, .agg (enRl.d r), .int .i64 c, .int .i64 m] (.bool (hearsB s r c m)) := by
 have o1 := gDist_eq hs hr.c hc
 have o2 := gHas_eq hr.o.bl m
 obtain ⟨w, d, sh⟩ := s
 obtain ⟨rc, rr, rl⟩ := r
 simp only [SkyW.c, enRl, hearsB] at *
 cases q1 : decide (distI w rc c ≤ rr)
 ·refine pure_of_wc (rs := [.tmp 8]) (m := 23) [(1, [(15, false, false, [])])] e7_ok (by kernel_rfl) Tryz.func84 rfl (by kernel_rfl) rfl rfl (by kernel_rfl) ?_
  simp only [RT, FS, ↓RE, okR, argEnv, Nat.reduceAdd, Nat.reduceSub, Nat.reduceLT, Nat.reduceLeDiff, Nat.reduceEqDiff, reduceIte, o1, q1, Bool.false_and]
 ·refine pure_of_wc (rs := [.tmp 8]) (m := 23) [(1, [(15, false, false, [])])] e7_ok (by kernel_rfl) Tryz.func84 rfl (by kernel_rfl) rfl rfl (by kernel_rfl) ?_
  simp only [RT, FS, ↓RE, okR, argEnv, Nat.reduceAdd, Nat.reduceSub, Nat.reduceLT, Nat.reduceLeDiff, Nat.reduceEqDiff, reduceIte, o1, o2, q1, Bool.true_and]
end Go.Sx

namespace Go.Sx
open Go.Proofs
set_option maxRecDepth 10000

structure LnkOk (k : LinkW) : Prop where
 d : 0 ≤ k.d ∧ k.d ≤ 1440
 o : SpOk k.l
def acand (f t m : Int) (k : LinkW) : Option Int := if k.f = f ∧ k.t = t then (if 0 ≤ fstI k.l m ∧ fstI k.l m + k.d ≤ 1440 then some (fstI k.l m + k.d) else none) else none
def alongI (ls : List LinkW) (f t m : Int) : Int := mnL (ls.filterMap (acand f t m))
def aStep (f t m o : Int) (k : LinkW) : Int := match acand f t m k with | some v => upM o v | none => o
theorem along_fold (ls : List LinkW) (f t m : Int) : alongI ls f t m = ls.foldl (aStep f t m) (-1) := foldl_fm _ _ _
theorem acand_b {ls : List LinkW} (h : ∀ k ∈ ls, LnkOk k) (f t m : Int) : ∀ v ∈ ls.filterMap (acand f t m), 0 ≤ v ∧ v ≤ 1440 ∧ m ≤ v := fun v hv => by
 obtain ⟨k, hk, e⟩ := List.mem_filterMap.1 hv
 obtain ⟨h1, h2⟩ := h k hk
 unfold acand at e
 split at e
 ·split at e
  ·rename_i h3
   cases e
   have hb := cand_b h2 m
   rcases mnL_spec (k.l.filterMap (cand m)) (fun v hv => (hb v hv).1) with ⟨_, q⟩ | ⟨q, _⟩
   ·have : fstI k.l m = -1 := q
    omega
   ·have := hb _ q
    have e2 : mnL (k.l.filterMap (cand m)) = fstI k.l m := rfl
    rw [e2] at this
    omega
  ·cases e
 ·cases e
def istep (m d o : Int) (s : Int × Int) : Int := if max m s.1 ≤ s.2 ∧ max m s.1 + d ≤ 1440 then upM o (max m s.1 + d) else o
def ostep (f t m o : Int) (k : LinkW) : Int := if k.f = f ∧ k.t = t then k.l.foldl (istep m k.d) o else o
def icand (m d : Int) (s : Int × Int) : Option Int := if max m s.1 ≤ s.2 ∧ max m s.1 + d ≤ 1440 then some (max m s.1 + d) else none
theorem istep_fold (m d o : Int) (l : List (Int × Int)) : l.foldl (istep m d) o = (l.filterMap (icand m d)).foldl upM o := by
 rw [foldl_fm]
 congr 1
 funext o s
 unfold istep icand
 split <;> rfl
theorem ostep_fold (f t m : Int) : ∀ (ls : List LinkW) (o : Int), ls.foldl (ostep f t m) o = (ls.flatMap fun k => if k.f = f ∧ k.t = t then k.l.filterMap (icand m k.d) else []).foldl upM o
 | [], o => rfl
 | k :: ls, o => by
  rw [List.foldl_cons, List.flatMap_cons, List.foldl_append, ostep_fold f t m ls]
  congr 1
  unfold ostep
  split
  ·rw [istep_fold]
  ·rfl
theorem along_ref {ls : List LinkW} (h : ∀ k ∈ ls, LnkOk k) (f t m : Int) : ls.foldl (ostep f t m) (-1) = alongI ls f t m := by
 rw [ostep_fold]
 refine mnL_eq (fun v hv => ?_) (fun v hv => (acand_b h f t m v hv).1) (fun v hv => ?_) (fun v hv => ?_)
 ·obtain ⟨k, hk, hv⟩ := List.mem_flatMap.1 hv
  split at hv
  ·obtain ⟨s, hs, e⟩ := List.mem_filterMap.1 hv
   have := (h k hk).o.b s hs
   have := (h k hk).d
   unfold icand at e
   split at e
   ·cases e; omega
   ·cases e
  ·simp at hv
 ·obtain ⟨k, hk, hv⟩ := List.mem_flatMap.1 hv
  split at hv
  ·rename_i hm
   obtain ⟨s, hs, e⟩ := List.mem_filterMap.1 hv
   have hb := (h k hk).o.b s hs
   unfold icand at e
   split at e
   ·rename_i hc
    cases e
    have hcb := cand_b (h k hk).o m
    have hin : max s.1 m ∈ k.l.filterMap (cand m) := List.mem_filterMap.2 ⟨s, hs, by rw [cand, if_pos (by omega)]⟩
    rcases mnL_spec (k.l.filterMap (cand m)) (fun v hv => (hcb v hv).1) with ⟨q, _⟩ | ⟨q, q2⟩
    ·rw [q] at hin; simp at hin
    ·have q3 : fstI k.l m ≤ max s.1 m := q2 _ hin
     have q4 : 0 ≤ fstI k.l m := (hcb _ q).1
     exact ⟨fstI k.l m + k.d, List.mem_filterMap.2 ⟨k, hk, by rw [acand, if_pos hm, if_pos ⟨q4, by omega⟩]⟩, by omega⟩
   ·cases e
  ·simp at hv
 ·obtain ⟨k, hk, e⟩ := List.mem_filterMap.1 hv
  unfold acand at e
  split at e
  ·rename_i hm
   split at e
   ·rename_i hc
    cases e
    have hcb := cand_b (h k hk).o m
    rcases mnL_spec (k.l.filterMap (cand m)) (fun v hv => (hcb v hv).1) with ⟨_, q⟩ | ⟨q, _⟩
    ·have : fstI k.l m = -1 := q
     omega
    ·obtain ⟨s, hs, q2⟩ := List.mem_filterMap.1 q
     have e2 : mnL (k.l.filterMap (cand m)) = fstI k.l m := rfl
     rw [e2] at q2
     generalize fstI k.l m = u at *
     unfold cand at q2
     split at q2
     ·simp only [Option.some.injEq] at q2
      exact ⟨max m s.1 + k.d, List.mem_flatMap.2 ⟨k, hk, by rw [if_pos hm]; exact List.mem_filterMap.2 ⟨s, hs, by rw [icand, if_pos (by omega)]⟩⟩, by omega⟩
     ·cases q2
   ·cases e
  ·cases e
structure NetOk (s : SkyW) (n : NetW) : Prop where
 rn : 1 ≤ n.r.length ∧ n.r.length ≤ 8
 ln : n.l.length ≤ 20
 r : ∀ x ∈ n.r, RelOk s x
 l : ∀ k ∈ n.l, LnkOk k ∧ ((0 ≤ k.f ∧ k.f < n.r.length) ∧ (0 ≤ k.t ∧ k.t < n.r.length) ∧ k.f ≠ k.t)
theorem net_ok {s : SkyW} {n : NetW} (h : netB s.sh n = true) : NetOk s n := by
 simp only [netB, Bool.and_eq_true, decide_eq_true_eq] at h
 obtain ⟨h1, h2, h3, h4⟩ := h
 have h3 := rI_le h3
 refine ⟨by omega, by omega, fun x hx => ?_, fun k hk => ?_⟩
 ·have := List.all_eq_true.1 h1 x hx
  simp only [relayB, Bool.and_eq_true] at this
  have c := rI_le this.1
  exact ⟨⟨c.1, by omega⟩, open_ok this.2.2, rI_le this.2.1⟩
 ·have := List.all_eq_true.1 h2 k hk
  simp only [linkB, Bool.and_eq_true, Bool.not_eq_true', decide_eq_false_iff_not] at this
  have c := rI_le this.1
  have d := rI_le this.2.1
  exact ⟨⟨rI_le this.2.2.2.1, open_ok this.2.2.2.2⟩, ⟨c.1, by omega⟩, ⟨d.1, by omega⟩, this.2.2.1⟩
set_option maxHeartbeats 2000000 in
theorem w_along_t {n : NetW} (hn : ∀ k ∈ n.l, LnkOk k) (hl : n.l.length ≤ 20) (f t m : Int) : Pure Tryz.prog 75 [.agg n.c, .int .i64 f, .int .i64 t, .int .i64 m] (.int .i64 (alongI n.l f t m)) := by
 obtain ⟨rl, lk⟩ := n
 dsimp only at hn hl
 rw [along_fold]
 simp only [NetW.c]
 refine pure_of_wc (rs := [.tmp 8]) (m := 61) [] e7_ok (by kernel_rfl) Tryz.func75 rfl (by kernel_rfl) rfl rfl (by kernel_rfl) ?_
 simp only [RT, FS, ↓RE, okR, argEnv, Nat.reduceAdd, Nat.reduceSub, Nat.reduceLT, Nat.reduceLeDiff, Nat.reduceEqDiff, reduceIte, List.length_map]
 refine loopV (ι := Nat × Int) e7_ok [] (fun i => [(1, .int .i64 f), (2, .int .i64 t), (3, .int .i64 m), (4, .ptr 0 0), (9, .int .i64 i.2), (14, lkD lk), (15, .int .i64 (lk.length : Int)), (16, .int .i64 (i.1 : Int))]) (fun i => [(0, .box [rlD rl, lkD lk])]) 1
  (fun i => i.1 ≤ lk.length ∧ (lk.drop i.1).foldl (aStep f t m) i.2 = lk.foldl (aStep f t m) (-1)) (fun i => lk.length - i.1) (0, -1) (by kernel_rfl) (by kernel_rfl) ⟨Nat.zero_le _, rfl⟩ ?_ ?_
 ·simp [headW, heapW, envW, blkLt, D.ltL, D.lt, look, hget]
 rintro ⟨i, o⟩ ⟨hil, hok⟩
 dsimp only at hil hok ⊢
 rcases Nat.lt_or_ge i lk.length with hlt | hge
 ·have hc := nat_lt_true hlt
  obtain ⟨⟨kf, kt, kd, kl⟩, hr⟩ : ∃ r, lk[i]? = some r := ⟨lk[i], by simp [hlt]⟩
  have hk := hn _ (List.mem_of_getElem? hr)
  have hix := lkD_ix hr
  have hof := gFst_eq hk.o.bl m
  have hfb := fstI_b hk.o m
  have hd := hk.d
  dsimp only at hix hof hfb hd
  have hw1 := wrap_i64 (z := (i : Int) + 1) (by omega) (by omega)
  have hw2 := wrap_i64 (z := fstI kl m + kd) (by omega) (by omega)
  rw [drop_fold hr] at hok
  simp only [aStep, acand] at hok
  generalize fstI kl m = u at *
  cases q1 : decide (kf = f)
  ·have q1' : ¬ kf = f := by simpa using q1
   rw [if_neg (by simp [q1'])] at hok
   simp only [RT, FS, ↓RE, okR, argEnv, Nat.reduceAdd, Nat.reduceSub, Nat.reduceLT, Nat.reduceLeDiff, Nat.reduceEqDiff, reduceIte, hix, hc, decide_true, bne_dec, q1, hw1, Bool.not_false, Bool.not_true]
   exact ⟨(i + 1, o), ⟨by simp only; omega, hok⟩, by simp only; omega, by simp [headW, heapW, envW, blkLt, D.ltL, D.lt, look, hget]⟩
  cases q2 : decide (kt = t)
  ·have q2' : ¬ kt = t := by simpa using q2
   rw [if_neg (by simp [q2'])] at hok
   simp only [RT, FS, ↓RE, okR, argEnv, Nat.reduceAdd, Nat.reduceSub, Nat.reduceLT, Nat.reduceLeDiff, Nat.reduceEqDiff, reduceIte, hix, hc, decide_true, bne_dec, q1, q2, hw1, Bool.not_false, Bool.not_true]
   exact ⟨(i + 1, o), ⟨by simp only; omega, hok⟩, by simp only; omega, by simp [headW, heapW, envW, blkLt, D.ltL, D.lt, look, hget]⟩
  have q1' : kf = f := by simpa using q1
  have q2' : kt = t := by simpa using q2
  rw [if_pos ⟨q1', q2'⟩] at hok
  cases q3 : decide (0 ≤ u)
  ·have q3' : ¬ 0 ≤ u := by simpa using q3
   rw [if_neg (by simp [q3'])] at hok
   simp only [RT, FS, ↓RE, okR, argEnv, Nat.reduceAdd, Nat.reduceSub, Nat.reduceLT, Nat.reduceLeDiff, Nat.reduceEqDiff, reduceIte, hix, hc, decide_true, bne_dec, hof, q1, q2, q3, hw1, hw2, Bool.not_false, Bool.not_true]
   exact ⟨(i + 1, o), ⟨by simp only; omega, hok⟩, by simp only; omega, by simp [headW, heapW, envW, blkLt, D.ltL, D.lt, look, hget]⟩
  cases q4 : decide (u + kd ≤ 1440)
  ·have q4' : ¬ u + kd ≤ 1440 := by simpa using q4
   rw [if_neg (fun h => q4' h.2)] at hok
   simp only [RT, FS, ↓RE, okR, argEnv, Nat.reduceAdd, Nat.reduceSub, Nat.reduceLT, Nat.reduceLeDiff, Nat.reduceEqDiff, reduceIte, hix, hc, decide_true, bne_dec, hof, q1, q2, q3, q4, hw1, hw2, Bool.not_false, Bool.not_true]
   exact ⟨(i + 1, o), ⟨by simp only; omega, hok⟩, by simp only; omega, by simp [headW, heapW, envW, blkLt, D.ltL, D.lt, look, hget]⟩
  have q3' : 0 ≤ u := by simpa using q3
  have q4' : u + kd ≤ 1440 := by simpa using q4
  rw [if_pos ⟨q3', q4'⟩] at hok
  simp only [upM] at hok
  cases q5 : decide (o < 0)
  ·have q5' : ¬ o < 0 := by simpa using q5
   cases q6 : decide (u + kd < o)
   ·have q6' : ¬ u + kd < o := by simpa using q6
    rw [if_neg (by omega)] at hok
    simp only [RT, FS, ↓RE, okR, argEnv, Nat.reduceAdd, Nat.reduceSub, Nat.reduceLT, Nat.reduceLeDiff, Nat.reduceEqDiff, reduceIte, hix, hc, decide_true, bne_dec, hof, q1, q2, q3, q4, q5, q6, hw1, hw2, Bool.not_false, Bool.not_true]
    exact ⟨(i + 1, o), ⟨by simp only; omega, hok⟩, by simp only; omega, by simp [headW, heapW, envW, blkLt, D.ltL, D.lt, look, hget]⟩
   ·have q6' : u + kd < o := by simpa using q6
    rw [if_pos (by omega)] at hok
    simp only [RT, FS, ↓RE, okR, argEnv, Nat.reduceAdd, Nat.reduceSub, Nat.reduceLT, Nat.reduceLeDiff, Nat.reduceEqDiff, reduceIte, hix, hc, decide_true, bne_dec, hof, q1, q2, q3, q4, q5, q6, hw1, hw2, Bool.not_false, Bool.not_true]
    exact ⟨(i + 1, u + kd), ⟨by simp only; omega, hok⟩, by simp only; omega, by simp [headW, heapW, envW, blkLt, D.ltL, D.lt, look, hget]⟩
  ·have q5' : o < 0 := by simpa using q5
   rw [if_pos (by omega)] at hok
   simp only [RT, FS, ↓RE, okR, argEnv, Nat.reduceAdd, Nat.reduceSub, Nat.reduceLT, Nat.reduceLeDiff, Nat.reduceEqDiff, reduceIte, hix, hc, decide_true, bne_dec, hof, q1, q2, q3, q4, q5, hw1, hw2, Bool.not_false, Bool.not_true]
   exact ⟨(i + 1, u + kd), ⟨by simp only; omega, hok⟩, by simp only; omega, by simp [headW, heapW, envW, blkLt, D.ltL, D.lt, look, hget]⟩
 ·have hc := nat_lt_false hge
  rw [List.drop_eq_nil_of_le hge] at hok
  simp only [RT, FS, ↓RE, okR, argEnv, Nat.reduceAdd, Nat.reduceSub, Nat.reduceLT, Nat.reduceLeDiff, Nat.reduceEqDiff, reduceIte, hc, decide_false]
  rw [← hok]; rfl
set_option maxHeartbeats 2000000 in
theorem r_Along_t {n : NetW} (hn : ∀ k ∈ n.l, LnkOk k) (hl : n.l.length ≤ 20) (f t m : Int) : Pure Tryz.prog 85 [.agg n.c, .int .i64 f, .int .i64 t, .int .i64 m] (.int .i64 (alongI n.l f t m)) := by
 rw [← along_ref hn]
 obtain ⟨rl, lk⟩ := n
 dsimp only at hn hl ⊢
 simp only [NetW.c]
 refine pure_of_wc (rs := [.tmp 8]) (m := 83) [] e7_ok (by kernel_rfl) Tryz.func85 rfl (by kernel_rfl) rfl rfl (by kernel_rfl) ?_
 simp only [RT, FS, ↓RE, okR, argEnv, Nat.reduceAdd, Nat.reduceSub, Nat.reduceLT, Nat.reduceLeDiff, Nat.reduceEqDiff, reduceIte, List.length_map]
 refine loopV (ι := Nat × Int) e7_ok [] (fun i => [(1, .int .i64 f), (2, .int .i64 t), (3, .int .i64 m), (4, .ptr 0 0), (9, .int .i64 i.2), (10, .int .i64 (i.1 : Int))]) (fun i => [(0, .box [rlD rl, lkD lk])]) 1
  (fun i => i.1 ≤ lk.length ∧ (lk.drop i.1).foldl (ostep f t m) i.2 = lk.foldl (ostep f t m) (-1)) (fun i => lk.length - i.1) (0, -1) (by kernel_rfl) (by kernel_rfl) ⟨Nat.zero_le _, rfl⟩ ?_ ?_
 ·simp [headW, heapW, envW, blkLt, D.ltL, D.lt, look, hget]
 rintro ⟨i, o⟩ ⟨hil, hok⟩
 dsimp only at hil hok ⊢
 rcases Nat.lt_or_ge i lk.length with hlt | hge
 ·have hc := nat_lt_true hlt
  obtain ⟨⟨kf, kt, kd, kl⟩, hr⟩ : ∃ r, lk[i]? = some r := ⟨lk[i], by simp [hlt]⟩
  have hk := hn _ (List.mem_of_getElem? hr)
  have hix := lkD_ix hr
  have hd := hk.d
  have hkn := hk.o.n
  have hkb := hk.o.b
  dsimp only at hix hd hkn hkb
  have hw1 := wrap_i64 (z := (i : Int) + 1) (by omega) (by omega)
  rw [drop_fold hr] at hok
  simp only [ostep] at hok
  cases q1 : decide (kf = f)
  ·have q1' : ¬ kf = f := by simpa using q1
   rw [if_neg (by simp [q1'])] at hok
   simp only [RT, FS, ↓RE, okR, argEnv, Nat.reduceAdd, Nat.reduceSub, Nat.reduceLT, Nat.reduceLeDiff, Nat.reduceEqDiff, reduceIte, List.length_map, hix, hc, decide_true, bne_dec, q1, hw1, Bool.not_false, Bool.not_true]
   exact ⟨(i + 1, o), ⟨by simp only; omega, hok⟩, by simp only; omega, by simp [headW, heapW, envW, blkLt, D.ltL, D.lt, look, hget]⟩
  cases q2 : decide (kt = t)
  ·have q2' : ¬ kt = t := by simpa using q2
   rw [if_neg (by simp [q2'])] at hok
   simp only [RT, FS, ↓RE, okR, argEnv, Nat.reduceAdd, Nat.reduceSub, Nat.reduceLT, Nat.reduceLeDiff, Nat.reduceEqDiff, reduceIte, List.length_map, hix, hc, decide_true, bne_dec, q1, q2, hw1, Bool.not_false, Bool.not_true]
   exact ⟨(i + 1, o), ⟨by simp only; omega, hok⟩, by simp only; omega, by simp [headW, heapW, envW, blkLt, D.ltL, D.lt, look, hget]⟩
  have q1' : kf = f := by simpa using q1
  have q2' : kt = t := by simpa using q2
  rw [if_pos ⟨q1', q2'⟩] at hok
  simp only [RT, FS, ↓RE, okR, argEnv, Nat.reduceAdd, Nat.reduceSub, Nat.reduceLT, Nat.reduceLeDiff, Nat.reduceEqDiff, reduceIte, List.length_map, hix, hc, decide_true, bne_dec, q1, q2, hw1, Bool.not_false, Bool.not_true]
  refine loopV (ι := Nat × Int) e7_ok [] (fun j => [(1, .int .i64 f), (2, .int .i64 t), (3, .int .i64 m), (4, .ptr 0 0), (9, .int .i64 j.2), (10, .int .i64 (i : Int)), (11, .ptr 1 0), (12, .int .i64 (j.1 : Int))])
   (fun j => [(1, .box [.int .i64 kf, .int .i64 kt, .int .i64 kd, spD kl]), (0, .box [rlD rl, lkD lk])]) 2
   (fun j => j.1 ≤ kl.length ∧ (kl.drop j.1).foldl (istep m kd) j.2 = kl.foldl (istep m kd) o) (fun j => kl.length - j.1) (0, o) (by kernel_rfl) (by kernel_rfl) ⟨Nat.zero_le _, rfl⟩ ?_ ?_
  ·simp [headW, heapW, envW, blkLt, D.ltL, D.lt, look, hget]
  rintro ⟨j, p⟩ ⟨hjl, hpk⟩
  dsimp only at hjl hpk ⊢
  rcases Nat.lt_or_ge j kl.length with hlt2 | hge2
  ·have hc2 := nat_lt_true hlt2
   obtain ⟨⟨a, b⟩, hs⟩ : ∃ r, kl[j]? = some r := ⟨kl[j], by simp [hlt2]⟩
   have hix2 := spD_ix hs
   have hsb := hkb _ (List.mem_of_getElem? hs)
   dsimp only at hsb
   have hw3 := wrap_i64 (z := (j : Int) + 1) (by omega) (by omega)
   rw [drop_fold hs] at hpk
   simp only [istep] at hpk
   obtain ⟨u, hu⟩ : ∃ u, max m a = u := ⟨_, rfl⟩
   rw [hu] at hpk
   have hu0 : 0 ≤ u := by omega
   cases q3 : decide (u ≤ b)
   ·have q3' : ¬ u ≤ b := by simpa using q3
    rw [if_neg (by simp [q3'])] at hpk
    simp only [RT, FS, ↓RE, okR, argEnv, Nat.reduceAdd, Nat.reduceSub, Nat.reduceLT, Nat.reduceLeDiff, Nat.reduceEqDiff, reduceIte, List.length_map, hix2, hc2, hu, decide_true, q3, hw3]
    exact ⟨(j + 1, p), ⟨by simp only; omega, hpk⟩, by simp only; omega, by simp [headW, heapW, envW, blkLt, D.ltL, D.lt, look, hget]⟩
   have q3' : u ≤ b := by simpa using q3
   have hw4 := wrap_i64 (z := u + kd) (by omega) (by omega)
   cases q4 : decide (u + kd ≤ 1440)
   ·have q4' : ¬ u + kd ≤ 1440 := by simpa using q4
    rw [if_neg (fun h => q4' h.2)] at hpk
    simp only [RT, FS, ↓RE, okR, argEnv, Nat.reduceAdd, Nat.reduceSub, Nat.reduceLT, Nat.reduceLeDiff, Nat.reduceEqDiff, reduceIte, List.length_map, hix2, hc2, hu, decide_true, q3, q4, hw3, hw4]
    exact ⟨(j + 1, p), ⟨by simp only; omega, hpk⟩, by simp only; omega, by simp [headW, heapW, envW, blkLt, D.ltL, D.lt, look, hget]⟩
   have q4' : u + kd ≤ 1440 := by simpa using q4
   rw [if_pos ⟨q3', q4'⟩] at hpk
   simp only [upM] at hpk
   cases q5 : decide (p < 0)
   ·have q5' : ¬ p < 0 := by simpa using q5
    cases q6 : decide (u + kd < p)
    ·have q6' : ¬ u + kd < p := by simpa using q6
     rw [if_neg (by omega)] at hpk
     simp only [RT, FS, ↓RE, okR, argEnv, Nat.reduceAdd, Nat.reduceSub, Nat.reduceLT, Nat.reduceLeDiff, Nat.reduceEqDiff, reduceIte, List.length_map, hix2, hc2, hu, decide_true, q3, q4, q5, q6, hw3, hw4]
     exact ⟨(j + 1, p), ⟨by simp only; omega, hpk⟩, by simp only; omega, by simp [headW, heapW, envW, blkLt, D.ltL, D.lt, look, hget]⟩
    ·have q6' : u + kd < p := by simpa using q6
     rw [if_pos (by omega)] at hpk
     simp only [RT, FS, ↓RE, okR, argEnv, Nat.reduceAdd, Nat.reduceSub, Nat.reduceLT, Nat.reduceLeDiff, Nat.reduceEqDiff, reduceIte, List.length_map, hix2, hc2, hu, decide_true, q3, q4, q5, q6, hw3, hw4]
     exact ⟨(j + 1, u + kd), ⟨by simp only; omega, hpk⟩, by simp only; omega, by simp [headW, heapW, envW, blkLt, D.ltL, D.lt, look, hget]⟩
   ·have q5' : p < 0 := by simpa using q5
    rw [if_pos (by omega)] at hpk
    simp only [RT, FS, ↓RE, okR, argEnv, Nat.reduceAdd, Nat.reduceSub, Nat.reduceLT, Nat.reduceLeDiff, Nat.reduceEqDiff, reduceIte, List.length_map, hix2, hc2, hu, decide_true, q3, q4, q5, hw3, hw4]
    exact ⟨(j + 1, u + kd), ⟨by simp only; omega, hpk⟩, by simp only; omega, by simp [headW, heapW, envW, blkLt, D.ltL, D.lt, look, hget]⟩
  ·have hc2 := nat_lt_false hge2
   rw [List.drop_eq_nil_of_le hge2] at hpk
   simp only [RT, FS, ↓RE, okR, argEnv, Nat.reduceAdd, Nat.reduceSub, Nat.reduceLT, Nat.reduceLeDiff, Nat.reduceEqDiff, reduceIte, List.length_map, hc2, decide_false, hw1]
   exact ⟨(i + 1, p), ⟨by simp only; omega, by simp only; rw [← hok, ← hpk]; rfl⟩, by simp only; omega, by simp [headW, heapW, envW, blkLt, D.ltL, D.lt, look, hget]⟩
 ·have hc := nat_lt_false hge
  rw [List.drop_eq_nil_of_le hge] at hok
  simp only [RT, FS, ↓RE, okR, argEnv, Nat.reduceAdd, Nat.reduceSub, Nat.reduceLT, Nat.reduceLeDiff, Nat.reduceEqDiff, reduceIte, List.length_map, hc, decide_false]
  rw [← hok]; rfl
end Go.Sx
