/- Own work: contracts of functions, used in the proof of a law. -/
import Derived.Test.YtljkgnicmlhipaaGreatSxW74v
set_option linter.unusedVariables false
set_option linter.unusedSimpArgs false
namespace Go.Sx
open Go.Proofs
set_option maxRecDepth 10000

def decPl : List D → Option PlW
 | [.int .i64 c, .bool d] => some (c, d)
 | _ => none
def enP : En PlW where
 d p := [.int .i64 p.1, .bool p.2]
 dec := decPl
 h1 _ := rfl
 h2 c a h := by
  unfold decPl at h
  split at h
  ·cases h; rfl
  ·cases h
 sz := 2
 hsz _ := rfl
abbrev plD (x : List PlW) : D := .sl (x.map enP.d)
theorem plD_ix {x : List PlW} {i : Nat} (hi : i < x.length) (h : H) : indexAddrD Tryz.prog h 45 (plD x) (.int .i64 (i : Int)) = some (.ref [.int .i64 (nP x i).1, .bool (nP x i).2] 0) :=
 En.ix (P := Tryz.prog) Fz.und_45 Fz.size_44 (E := enP) (a := nP x i) (En.sl_map (E := enP) x) (nP_get hi) h .i64
noncomputable abbrev e75 : List (FuncId × (List D → Option D)) := (35, gSil) :: (34, gSnd) :: e7
theorem e75_ok : OkO Tryz.prog (mkO e75) := mkO_ok (orcF_ok fun p h => r_Silent_t h p.2.2.2.2) <| mkO_ok (orcF_ok fun p h => r_Sends_t h.1 p.2 h.2) <| e7_ok
structure AgOk (w : WatchW) (l : List MsgW) (x : List PlW) : Prop where
 ok : WatchOk w
 n : l.length ≤ 60
 m : ∀ m ∈ l, w.min ≤ m.t ∧ m.t ≤ m.came
 x : x.length ≤ 2000
theorem all_range_cut {f : Nat → Bool} {i : Nat} (h : (List.range i).all f = true) (h2 : f i = true) : (List.range (i + 1)).all f = true := by
 rw [List.range_succ, List.all_append, h]; simp [h2]
theorem all_range_out {f : Nat → Bool} {i n : Nat} (hi : i < n) (h2 : f i = false) : (List.range n).all f = false := by
 rw [Bool.eq_false_iff]
 intro h
 have := List.all_eq_true.1 h i (List.mem_range.2 hi)
 rw [h2] at this; cases this
theorem pl_neq (a c : Int) (b d : Bool) : binD Tryz.prog .neq 44 (.agg [.int .i64 a, .bool b]) (.agg [.int .i64 c, .bool d]) = some (.bool (!(decide ((a, b) = (c, d))))) := by
 have h : binD Tryz.prog .neq 44 (.agg [.int .i64 a, .bool b]) (.agg [.int .i64 c, .bool d]) = some (.bool (!((a == c) && ((b == d) && true)))) := by kernel_rfl
 rw [h, Bool.and_true]
 congr 3
 rw [Bool.eq_iff_iff]
 simp
set_option maxHeartbeats 4000000 in
theorem r_Agrees_t {w : WatchW} {l : List MsgW} {x : List PlW} (h : AgOk w l x) : Pure Tryz.prog 13 [.agg w.c, msD l, plD x] (.bool (agB w (knownL l (w.min + x.length - 1)) (w.min + x.length - 1) x)) := by
 have hwo := h.ok
 have hs := hwo.s
 have hmi := hwo.m
 have hu := hwo.u
 have hxl := h.x
 have hbl : BL w.s.sh := by have := hs.le; simp only [BL]; omega
 have hln := h.n
 obtain ⟨now, hnow⟩ : ∃ now, now = w.min + (x.length : Int) - 1 := ⟨_, rfl⟩
 rw [← hnow]
 have pK := r_Known_t l (by omega) now
 have hkm : ∀ m ∈ knownL l now, 0 ≤ m.t - w.min ∧ m.t - w.min ≤ now - w.min := fun m hm => by
  simp only [knownL, List.mem_filter] at hm
  have h1 := h.m m hm.1
  have h2 : m.came ≤ now := by simpa [knB] using hm.2
  omega
 have hknl : (knownL l now).length ≤ 60 := Nat.le_trans (List.length_filter_le _ _) h.n
 generalize knownL l now = kn at *
 have oF := fun c => gFree_eq (s := w.s) hbl c
 have oD := fun a b (ha : InS w.s a) (hb : InS w.s b) => gDist_eq hs ha hb
 have oSi := fun c t (h1 : InS w.s c) (h2 : 0 ≤ t ∧ t ≤ 1440) => gSil_eq (w := w) (kn := kn) ⟨hwo, by omega, h1, h2⟩ now
 have oSn := fun t (h : -5000 ≤ t ∧ t ≤ 5000) => gSnd_eq hwo h
 have hag : ∀ i, agI w kn now x i = ((!(!(freeB w.s.sh (nP x i).1) || (!(nP x i).2 && decide (w.endu < (i : Int)))) && !((!(nP x i).2 && sendsB w (w.min + i)) && silX w kn now (w.min + i) (nP x i).1)) &&
  (decide (i = 0) || !(((((nP x (i - 1)).2 || (nP x i).2) && !(decide ((nP x i).1 = (nP x (i - 1)).1))) || ((nP x (i - 1)).2 && !(nP x i).2)) || decide (1 < distI w.s.w (nP x i).1 (nP x (i - 1)).1)))) := fun _ => rfl
 have hkp : ∀ m, knP w x m = decide (nP x (m.t - w.min).toNat = (m.c, m.d)) := fun _ => rfl
 have hfin : ∀ c, freeB w.s.sh c = true → InS w.s c := fun c hp => free_ins (s := w.s) hp
 unfold agB
 have ixP := fun i (hi : i < x.length) h => plD_ix hi h
 generalize agI w kn now x = AG at *
 generalize knP w x = KP at *
 generalize sendsB w = SB at *
 generalize silX w kn now = SX at *
 clear h hwo
 obtain ⟨⟨sw, sd, sh⟩, ⟨rl, lk⟩, cell, mi, ev, en, af⟩ := w
 dsimp only at *
 simp only [WatchW.c, SkyW.c, NetW.c, List.cons_append, List.nil_append] at oF oD oSi oSn ⊢
 refine pure_of_wc (rs := [.tmp 6]) (m := 152) [(2, [(16, false, false, [])]), (21, [(14, false, false, [])])] e75_ok (by kernel_rfl) Tryz.func13 rfl (by kernel_rfl) rfl rfl (by kernel_rfl) ?_
 have w1 := wrap_i64 (z := mi + (x.length : Int)) (by omega) (by omega)
 have w2 : IntKind.i64.wrap (mi + (x.length : Int) - 1) = now := by rw [wrap_i64 (by omega) (by omega)]; omega
 by_cases hx0 : x.length = 0
 ·have q : ((x.length : Int) == 0) = true := by rw [hx0]; rfl
  simp only [FS, ↓RE, okR, argEnv, Nat.reduceAdd, Nat.reduceSub, Nat.reduceLT, Nat.reduceLeDiff, Nat.reduceEqDiff, reduceIte, RM, List.length_map, w1, w2, q]
  rw [decide_eq_true hx0]; rfl
 have q : ((x.length : Int) == 0) = false := by simp only [beq_eq_false_iff_ne]; omega
 cases q2 : decide (1440 < now)
 case true =>
  simp only [FS, ↓RE, okR, argEnv, Nat.reduceAdd, Nat.reduceSub, Nat.reduceLT, Nat.reduceLeDiff, Nat.reduceEqDiff, reduceIte, RM, List.length_map, w1, w2, q, q2]
  rfl
 have ix0 : ∀ h, indexAddrD Tryz.prog h 45 (plD x) (.int .i64 0) = some (.ref [.int .i64 (nP x 0).1, .bool (nP x 0).2] 0) := ixP 0 (by omega)
 have ne0 := pl_neq (nP x 0).1 cell (nP x 0).2 false
 rw [show ((nP x 0).1, (nP x 0).2) = nP x 0 from rfl] at ne0
 rw [decide_eq_false hx0]
 cases q3 : decide (nP x 0 = (cell, false))
 ·rw [q3] at ne0
  simp only [FS, ↓RE, okR, argEnv, Nat.reduceAdd, Nat.reduceSub, Nat.reduceLT, Nat.reduceLeDiff, Nat.reduceEqDiff, reduceIte, RM, List.length_map, w1, w2, q, q2, ix0, ne0, Bool.not_false]
  rfl
 rw [q3] at ne0
 simp only [FS, ↓RE, okR, argEnv, Nat.reduceAdd, Nat.reduceSub, Nat.reduceLT, Nat.reduceLeDiff, Nat.reduceEqDiff, reduceIte, RM, List.length_map, w1, w2, q, q2, ix0, ne0, Bool.not_true]
 refine call_of_pure' pK (by simp [D.ltL, D.lt]) (by simp [D.ltL, D.lt]) ?_
 simp only [FS, ↓RE, okR, argEnv, Nat.reduceAdd, Nat.reduceSub, Nat.reduceLT, Nat.reduceLeDiff, Nat.reduceEqDiff, reduceIte, RM]
 refine loopV (ι := Nat) e75_ok [(2, [(16, false, false, [])]), (21, [(14, false, false, [])])] (fun i => [(2, plD x), (3, .ptr 0 0), (7, .int .i64 now), (8, msD kn), (9, .int .i64 (i : Int))]) (fun i => [(0, .box [.int .i64 sw, .int .i64 sd, shD sh, rlD rl, lkD lk, .int .i64 cell, .int .i64 mi, .int .i64 ev, .int .i64 en, inD af])]) 1
  (fun i => i ≤ x.length ∧ (List.range i).all AG = true) (fun i => x.length - i) 0 (by kernel_rfl) (by kernel_rfl) ⟨Nat.zero_le _, by simp⟩ ?_ ?_
 ·simp [headW, heapW, envW, blkLt, D.ltL, D.lt, look, hget, Sx.hset, shD, inD]
 rintro i ⟨hil, hok⟩
 rcases Nat.lt_or_ge i x.length with hlt | hge
 ·have hc := nat_lt_true hlt
  have wi := wrap_i64 (z := (i : Int) + 1) (by omega) (by omega)
  have wm := wrap_i64 (z := mi + (i : Int)) (by omega) (by omega)
  have hpi := hag i
  have ixi := ixP i hlt
  have hfi := oF (nP x i).1
  have oSn := oSn (mi + (i : Int)) (by omega)
  have oSi := fun hf => oSi (nP x i).1 (mi + (i : Int)) (hfin _ hf) (by simp at q2; omega)
  have oDi := fun b hf hb => oD (nP x i).1 b (hfin _ hf) (hfin _ hb)
  generalize nP x i = p at *
  obtain ⟨pc, pd⟩ := p
  dsimp only at hpi ixi hfi oSi oDi
  cases q1 : freeB sh pc
  ·rw [q1] at hfi
   simp only [FS, ↓RE, okR, argEnv, Nat.reduceAdd, Nat.reduceSub, Nat.reduceLT, Nat.reduceLeDiff, Nat.reduceEqDiff, reduceIte, RM, List.length_map, hc, decide_true, ixi, hfi, Bool.not_false]
   have hA : AG i = false := by rw [hpi]; simp [q1]
   rw [all_range_out hlt hA]
   simp
  rw [q1] at hfi
  have oSi := oSi q1
  have oDi := fun b => oDi b q1
  cases q4 : !pd && decide (en < (i : Int))
  case true =>
   simp only [Bool.and_eq_true, Bool.not_eq_true'] at q4
   obtain ⟨rfl, q4⟩ := q4
   simp only [FS, ↓RE, okR, argEnv, Nat.reduceAdd, Nat.reduceSub, Nat.reduceLT, Nat.reduceLeDiff, Nat.reduceEqDiff, reduceIte, RM, List.length_map, hc, decide_true, ixi, hfi, Bool.not_true, Bool.not_false, q4]
   have hA : AG i = false := by rw [hpi]; simp [q1, q4]
   rw [all_range_out hlt hA]
   simp
  have q4n : pd = false → decide (en < (i : Int)) = false := fun h => by subst h; simpa using q4
  clear q4
  by_cases hi0 : i = 0
  ·have g0 : ((0 : Int) < (i : Int)) = False := by simp; omega
   cases pd
   ·have q4n := q4n rfl
    cases q5 : SB (mi + (i : Int))
    ·rw [q5] at oSn
     simp only [FS, ↓RE, okR, argEnv, Nat.reduceAdd, Nat.reduceSub, Nat.reduceLT, Nat.reduceLeDiff, Nat.reduceEqDiff, reduceIte, RM, List.length_map, hc, decide_true, ixi, hfi, q4n, g0, decide_false, Bool.not_false, Bool.not_true, wm, oSn, wi]
     have hA : AG i = true := by rw [hpi]; rw [decide_eq_true hi0]; simp [q1, q4n, q5]
     exact ⟨i + 1, ⟨by omega, all_range_cut hok hA⟩, by omega, by simp [headW, heapW, envW, blkLt, D.ltL, D.lt, look, hget, Sx.hset, shD, inD]⟩
    rw [q5] at oSn
    cases q6 : SX (mi + (i : Int)) pc
    ·rw [q6] at oSi
     simp only [FS, ↓RE, okR, argEnv, Nat.reduceAdd, Nat.reduceSub, Nat.reduceLT, Nat.reduceLeDiff, Nat.reduceEqDiff, reduceIte, RM, List.length_map, hc, decide_true, ixi, hfi, q4n, g0, decide_false, Bool.not_false, Bool.not_true, wm, oSn, oSi, wi]
     have hA : AG i = true := by rw [hpi]; rw [decide_eq_true hi0]; simp [q1, q4n, q5, q6]
     exact ⟨i + 1, ⟨by omega, all_range_cut hok hA⟩, by omega, by simp [headW, heapW, envW, blkLt, D.ltL, D.lt, look, hget, Sx.hset, shD, inD]⟩
    ·rw [q6] at oSi
     simp only [FS, ↓RE, okR, argEnv, Nat.reduceAdd, Nat.reduceSub, Nat.reduceLT, Nat.reduceLeDiff, Nat.reduceEqDiff, reduceIte, RM, List.length_map, hc, decide_true, ixi, hfi, q4n, g0, decide_false, Bool.not_false, Bool.not_true, wm, oSn, oSi]
     have hA : AG i = false := by rw [hpi]; rw [decide_eq_true hi0]; simp [q1, q4n, q5, q6]
     rw [all_range_out hlt hA]
     simp
   ·clear q4n
    simp only [FS, ↓RE, okR, argEnv, Nat.reduceAdd, Nat.reduceSub, Nat.reduceLT, Nat.reduceLeDiff, Nat.reduceEqDiff, reduceIte, RM, List.length_map, hc, decide_true, ixi, hfi, g0, decide_false, Bool.not_true, Bool.false_and, wi]
    have hA : AG i = true := by rw [hpi]; simp [hi0, q1]
    exact ⟨i + 1, ⟨by omega, all_range_cut hok hA⟩, by omega, by simp [headW, heapW, envW, blkLt, D.ltL, D.lt, look, hget, Sx.hset, shD, inD]⟩
  have g0 : ((0 : Int) < (i : Int)) = True := by simp; omega
  have wb : IntKind.i64.wrap ((i : Int) - 1) = ((i - 1 : Nat) : Int) := by rw [wrap_i64 (by omega) (by omega)]; omega
  have ixb := ixP (i - 1) (by omega)
  have hfb : freeB sh (nP x (i - 1)).1 = true := by
   have h := List.all_eq_true.1 hok (i - 1) (List.mem_range.2 (by omega))
   rw [hag] at h
   simp only [Bool.and_eq_true, Bool.not_eq_true', Bool.or_eq_false_iff, Bool.not_eq_false'] at h
   exact h.1.1.1
  have oDi := oDi _ hfb
  generalize nP x (i - 1) = b at *
  obtain ⟨bc, bd⟩ := b
  dsimp only at hpi ixb hfb oDi
  generalize distI sw pc bc = dd at *
  cases q8 : decide (pc = bc)
  ·have b8 : (pc != bc) = true := by simpa using q8
   cases pd
   ·have q4n := q4n rfl
    cases bd
    ·cases q9 : decide (1 < dd)
     case true =>
      simp only [FS, ↓RE, okR, argEnv, Nat.reduceAdd, Nat.reduceSub, Nat.reduceLT, Nat.reduceLeDiff, Nat.reduceEqDiff, reduceIte, RM, List.length_map, hc, decide_true, ixi, hfi, q4n, g0, wb, ixb, oDi, q9, Bool.not_false, Bool.not_true]
      have hA : AG i = false := by rw [hpi]; simp [hi0, q1, q9]
      rw [all_range_out hlt hA]
      simp
     have q8' : True := trivial
     cases q5 : SB (mi + (i : Int))
     ·rw [q5] at oSn
      simp only [FS, ↓RE, okR, argEnv, Nat.reduceAdd, Nat.reduceSub, Nat.reduceLT, Nat.reduceLeDiff, Nat.reduceEqDiff, reduceIte, RM, List.length_map, hc, decide_true, ixi, hfi, q4n, g0, wb, ixb, oDi, q9, Bool.not_false, Bool.not_true, wm, oSn, wi]
      have hA : AG i = true := by rw [hpi]; simp [hi0, q1, q4n, q9, q5]
      exact ⟨i + 1, ⟨by omega, all_range_cut hok hA⟩, by omega, by simp [headW, heapW, envW, blkLt, D.ltL, D.lt, look, hget, Sx.hset, shD, inD]⟩
     rw [q5] at oSn
     cases q6 : SX (mi + (i : Int)) pc
     ·rw [q6] at oSi
      simp only [FS, ↓RE, okR, argEnv, Nat.reduceAdd, Nat.reduceSub, Nat.reduceLT, Nat.reduceLeDiff, Nat.reduceEqDiff, reduceIte, RM, List.length_map, hc, decide_true, ixi, hfi, q4n, g0, wb, ixb, oDi, q9, Bool.not_false, Bool.not_true, wm, oSn, oSi, wi]
      have hA : AG i = true := by rw [hpi]; simp [hi0, q1, q4n, q9, q5, q6]
      exact ⟨i + 1, ⟨by omega, all_range_cut hok hA⟩, by omega, by simp [headW, heapW, envW, blkLt, D.ltL, D.lt, look, hget, Sx.hset, shD, inD]⟩
     ·rw [q6] at oSi
      simp only [FS, ↓RE, okR, argEnv, Nat.reduceAdd, Nat.reduceSub, Nat.reduceLT, Nat.reduceLeDiff, Nat.reduceEqDiff, reduceIte, RM, List.length_map, hc, decide_true, ixi, hfi, q4n, g0, wb, ixb, oDi, q9, Bool.not_false, Bool.not_true, wm, oSn, oSi]
      have hA : AG i = false := by rw [hpi]; simp [hi0, q1, q4n, q9, q5, q6]
      rw [all_range_out hlt hA]
      simp
    ·skip
     simp only [FS, ↓RE, okR, argEnv, Nat.reduceAdd, Nat.reduceSub, Nat.reduceLT, Nat.reduceLeDiff, Nat.reduceEqDiff, reduceIte, RM, List.length_map, hc, decide_true, ixi, hfi, q4n, g0, wb, ixb, b8, Bool.not_false, Bool.not_true]
     have hA : AG i = false := by rw [hpi]; simp [hi0, q1, q8]
     rw [all_range_out hlt hA]
     simp
   ·cases bd
    ·skip
     simp only [FS, ↓RE, okR, argEnv, Nat.reduceAdd, Nat.reduceSub, Nat.reduceLT, Nat.reduceLeDiff, Nat.reduceEqDiff, reduceIte, RM, List.length_map, hc, decide_true, ixi, hfi, g0, wb, ixb, b8, Bool.not_false, Bool.not_true]
     have hA : AG i = false := by rw [hpi]; simp [hi0, q1, q8]
     rw [all_range_out hlt hA]
     simp
    ·skip
     simp only [FS, ↓RE, okR, argEnv, Nat.reduceAdd, Nat.reduceSub, Nat.reduceLT, Nat.reduceLeDiff, Nat.reduceEqDiff, reduceIte, RM, List.length_map, hc, decide_true, ixi, hfi, g0, wb, ixb, b8, Bool.not_false, Bool.not_true]
     have hA : AG i = false := by rw [hpi]; simp [hi0, q1, q8]
     rw [all_range_out hlt hA]
     simp
  have b8 : (pc != bc) = false := by simpa using q8
  cases pd
  ·have q4n := q4n rfl
   cases bd
   ·cases q9 : decide (1 < dd)
    case true =>
     simp only [FS, ↓RE, okR, argEnv, Nat.reduceAdd, Nat.reduceSub, Nat.reduceLT, Nat.reduceLeDiff, Nat.reduceEqDiff, reduceIte, RM, List.length_map, hc, decide_true, ixi, hfi, q4n, g0, wb, ixb, oDi, q9, Bool.not_false, Bool.not_true]
     have hA : AG i = false := by rw [hpi]; simp [hi0, q1, q9]
     rw [all_range_out hlt hA]
     simp
    have q8' : True := trivial
    cases q5 : SB (mi + (i : Int))
    ·rw [q5] at oSn
     simp only [FS, ↓RE, okR, argEnv, Nat.reduceAdd, Nat.reduceSub, Nat.reduceLT, Nat.reduceLeDiff, Nat.reduceEqDiff, reduceIte, RM, List.length_map, hc, decide_true, ixi, hfi, q4n, g0, wb, ixb, oDi, q9, Bool.not_false, Bool.not_true, wm, oSn, wi]
     have hA : AG i = true := by rw [hpi]; simp [hi0, q1, q4n, q9, q5]
     exact ⟨i + 1, ⟨by omega, all_range_cut hok hA⟩, by omega, by simp [headW, heapW, envW, blkLt, D.ltL, D.lt, look, hget, Sx.hset, shD, inD]⟩
    rw [q5] at oSn
    cases q6 : SX (mi + (i : Int)) pc
    ·rw [q6] at oSi
     simp only [FS, ↓RE, okR, argEnv, Nat.reduceAdd, Nat.reduceSub, Nat.reduceLT, Nat.reduceLeDiff, Nat.reduceEqDiff, reduceIte, RM, List.length_map, hc, decide_true, ixi, hfi, q4n, g0, wb, ixb, oDi, q9, Bool.not_false, Bool.not_true, wm, oSn, oSi, wi]
     have hA : AG i = true := by rw [hpi]; simp [hi0, q1, q4n, q9, q5, q6]
     exact ⟨i + 1, ⟨by omega, all_range_cut hok hA⟩, by omega, by simp [headW, heapW, envW, blkLt, D.ltL, D.lt, look, hget, Sx.hset, shD, inD]⟩
    ·rw [q6] at oSi
     simp only [FS, ↓RE, okR, argEnv, Nat.reduceAdd, Nat.reduceSub, Nat.reduceLT, Nat.reduceLeDiff, Nat.reduceEqDiff, reduceIte, RM, List.length_map, hc, decide_true, ixi, hfi, q4n, g0, wb, ixb, oDi, q9, Bool.not_false, Bool.not_true, wm, oSn, oSi]
     have hA : AG i = false := by rw [hpi]; simp [hi0, q1, q4n, q9, q5, q6]
     rw [all_range_out hlt hA]
     simp
   ·skip
    simp only [FS, ↓RE, okR, argEnv, Nat.reduceAdd, Nat.reduceSub, Nat.reduceLT, Nat.reduceLeDiff, Nat.reduceEqDiff, reduceIte, RM, List.length_map, hc, decide_true, ixi, hfi, q4n, g0, wb, ixb, b8, Bool.not_false, Bool.not_true]
    have hA : AG i = false := by rw [hpi]; simp [hi0, q1, q8]
    rw [all_range_out hlt hA]
    simp
  ·clear q4n
   cases bd
   ·cases q9 : decide (1 < dd)
    case true =>
     simp only [FS, ↓RE, okR, argEnv, Nat.reduceAdd, Nat.reduceSub, Nat.reduceLT, Nat.reduceLeDiff, Nat.reduceEqDiff, reduceIte, RM, List.length_map, hc, decide_true, ixi, hfi, g0, wb, ixb, b8, oDi, q9, Bool.not_false, Bool.not_true]
     have hA : AG i = false := by rw [hpi]; simp [hi0, q1, q8, q9]
     rw [all_range_out hlt hA]
     simp
    have q8' : True := trivial
    simp only [FS, ↓RE, okR, argEnv, Nat.reduceAdd, Nat.reduceSub, Nat.reduceLT, Nat.reduceLeDiff, Nat.reduceEqDiff, reduceIte, RM, List.length_map, hc, decide_true, ixi, hfi, g0, wb, ixb, b8, oDi, q9, Bool.not_true, Bool.false_and, wi]
    have hA : AG i = true := by rw [hpi]; simp [hi0, q1, q8, q9]
    exact ⟨i + 1, ⟨by omega, all_range_cut hok hA⟩, by omega, by simp [headW, heapW, envW, blkLt, D.ltL, D.lt, look, hget, Sx.hset, shD, inD]⟩
   ·cases q9 : decide (1 < dd)
    case true =>
     simp only [FS, ↓RE, okR, argEnv, Nat.reduceAdd, Nat.reduceSub, Nat.reduceLT, Nat.reduceLeDiff, Nat.reduceEqDiff, reduceIte, RM, List.length_map, hc, decide_true, ixi, hfi, g0, wb, ixb, b8, oDi, q9, Bool.not_false, Bool.not_true]
     have hA : AG i = false := by rw [hpi]; simp [hi0, q1, q8, q9]
     rw [all_range_out hlt hA]
     simp
    have q8' : True := trivial
    simp only [FS, ↓RE, okR, argEnv, Nat.reduceAdd, Nat.reduceSub, Nat.reduceLT, Nat.reduceLeDiff, Nat.reduceEqDiff, reduceIte, RM, List.length_map, hc, decide_true, ixi, hfi, g0, wb, ixb, b8, oDi, q9, Bool.not_true, Bool.false_and, wi]
    have hA : AG i = true := by rw [hpi]; simp [hi0, q1, q8, q9]
    exact ⟨i + 1, ⟨by omega, all_range_cut hok hA⟩, by omega, by simp [headW, heapW, envW, blkLt, D.ltL, D.lt, look, hget, Sx.hset, shD, inD]⟩
 have hc := nat_lt_false hge
 have : i = x.length := by omega
 subst this
 simp only [FS, ↓RE, okR, argEnv, Nat.reduceAdd, Nat.reduceSub, Nat.reduceLT, Nat.reduceLeDiff, Nat.reduceEqDiff, reduceIte, RM, List.length_map, hc, decide_false]
 refine loopV (ι := Nat) e75_ok [(2, [(16, false, false, [])]), (21, [(14, false, false, [])])] (fun j => [(2, plD x), (3, .ptr 0 0), (7, .int .i64 now), (8, msD kn), (12, .int .i64 (j : Int))]) (fun j => [(0, .box [.int .i64 sw, .int .i64 sd, shD sh, rlD rl, lkD lk, .int .i64 cell, .int .i64 mi, .int .i64 ev, .int .i64 en, inD af])]) 1
  (fun j => j ≤ kn.length ∧ (kn.take j).all KP = true) (fun j => kn.length - j) 0 (by kernel_rfl) (by kernel_rfl) ⟨Nat.zero_le _, by simp⟩ ?_ ?_
 ·simp [headW, heapW, envW, blkLt, D.ltL, D.lt, look, hget, Sx.hset, shD, inD]
 rintro j ⟨hjl, hokj⟩
 rcases Nat.lt_or_ge j kn.length with hlt | hge
 ·have hc := nat_lt_true hlt
  obtain ⟨m, hr⟩ : ∃ r, kn[j]? = some r := ⟨kn[j], by simp [hlt]⟩
  have hix := msD_ix hr
  have hm := hkm m (List.mem_of_getElem? hr)
  have hkpm := hkp m
  obtain ⟨mt, mc, md, came⟩ := m
  dsimp only at hix hm hkpm
  have wj := wrap_i64 (z := (j : Int) + 1) (by omega) (by omega)
  obtain ⟨k, hk⟩ : ∃ k : Nat, (mt - mi).toNat = k := ⟨_, rfl⟩
  rw [hk] at hkpm
  have wk : IntKind.i64.wrap (mt - mi) = (k : Int) := by rw [wrap_i64 (by omega) (by omega)]; omega
  have ixk := ixP k (by omega)
  have nek := pl_neq (nP x k).1 mc (nP x k).2 md
  rw [show ((nP x k).1, (nP x k).2) = nP x k from rfl, ← hkpm] at nek
  cases q5 : KP ⟨mt, mc, md, came⟩
  ·rw [q5] at nek
   simp only [FS, ↓RE, okR, argEnv, Nat.reduceAdd, Nat.reduceSub, Nat.reduceLT, Nat.reduceLeDiff, Nat.reduceEqDiff, reduceIte, RM, List.length_map, hc, decide_true, hix, wk, ixk, nek, Bool.not_false]
   have hA : kn.all KP = false := by
    rw [Bool.eq_false_iff]
    intro h
    have := List.all_eq_true.1 h _ (List.mem_of_getElem? hr)
    rw [q5] at this; cases this
   rw [hA]
   simp
  ·rw [q5] at nek
   simp only [FS, ↓RE, okR, argEnv, Nat.reduceAdd, Nat.reduceSub, Nat.reduceLT, Nat.reduceLeDiff, Nat.reduceEqDiff, reduceIte, RM, List.length_map, hc, decide_true, hix, wk, ixk, nek, Bool.not_true, wj]
   exact ⟨j + 1, ⟨by omega, by rw [List.take_add_one, hr, Option.toList_some, List.all_append, hokj]; simp [q5]⟩, by omega, by simp [headW, heapW, envW, blkLt, D.ltL, D.lt, look, hget, Sx.hset, shD, inD]⟩
 have hc := nat_lt_false hge
 have : j = kn.length := by omega
 subst this
 rw [List.take_length] at hokj
 simp only [FS, ↓RE, okR, argEnv, Nat.reduceAdd, Nat.reduceSub, Nat.reduceLT, Nat.reduceLeDiff, Nat.reduceEqDiff, reduceIte, RM, List.length_map, hc, decide_false]
 rw [hok, hokj]
 rfl
end Go.Sx
