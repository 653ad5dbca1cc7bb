/- Own work: contracts of functions, used in the proof of a law. -/
import Derived.Test.YtljkgnicmlhipaaGreatSxW69v
set_option linter.unusedVariables false
set_option linter.unusedSimpArgs false
namespace Go.Sx
open Go.Proofs
set_option maxRecDepth 10000

theorem awp_seqF {P : Program} {n0 n nid : Nat} {ro : Option Nat} {ι : Type} {x y : Code} {s : St} {Q : Ex → St → Prop} (E : ι → Env) (V : ι → H) (I : ι → Prop)
  (h : AWp P n0 ro x s (thenQ (fun s' => ∃ i, I i ∧ headW n0 s' (E i) (V i) nid n) Q)) (h2 : ∀ i, I i → AWp P n0 ro y ⟨E i, V i, nid, n⟩ Q) : AWp P n0 ro (.seq x y) s Q :=
 awp_seq (awp_mono h fun e s' h' => by
  cases e with
  | normal => obtain ⟨i, hi, hw⟩ := h'; exact awp_weak (weak_of hw) (h2 i hi)
  | exit => exact h'
  | ret => exact h')
theorem make_i (h : H) (nid n : Nat) (hn : n ≤ 1000000) : makeD Tryz.prog h nid 29 (.int .i64 (n : Int)) (.int .i64 (n : Int)) = some (.osl nid n, (nid, .arr 3 1 (intL (List.replicate n 0))) :: h, nid + 1) := by
 have h1 : n ≤ 1125899906842624 := by omega
 have hb : Tryz.prog.bytesOf 3 = 8 := by kernel_rfl
 have h2 : n * 8 ≤ 140737488355328 := by omega
 simp [makeD, Fz.und_29, Fz.size_3, Fz.zero_3, hb, h1, h2, intL, enI]
 omega
def upL (K : Nat) (f : Nat → Int) (i : Nat) : List Int := (List.range K).map fun j => if j < i then f j else 0
theorem upL_len (K : Nat) (f : Nat → Int) (i : Nat) : (upL K f i).length = K := by simp [upL]
theorem upL_set (K : Nat) (f : Nat → Int) {i : Nat} (hi : i < K) : (upL K f i).set i (f i) = upL K f (i + 1) := by
 apply List.ext_getElem?
 intro j
 rw [List.getElem?_set]
 unfold upL
 by_cases hj : j < K
 ·by_cases h : i = j
  ·subst h; simp [hj]
  ·simp only [h, if_false, List.getElem?_map, List.getElem?_range hj, Option.map_some]
   have : (j < i) ↔ (j < i + 1) := by omega
   simp [this]
 ·simp only [List.length_map, List.length_range]
  have h1 : i ≠ j := by omega
  simp [h1, List.getElem?_eq_none (show (List.range K).length ≤ j by simp; omega)]
set_option maxHeartbeats 4000000 in
theorem r_First_t {w : WatchW} (hw : WatchOk w) {c m : Int} (hc : InS w.s c) (hm : 0 ≤ m ∧ m ≤ 1440) : Pure Tryz.prog 67 [.agg w.c, .int .i64 c, .int .i64 m] (.int .i64 (arrivesI w c m)) := by
 have hs := hw.s
 have hrel := hw.n.r
 have hrn := hw.n.rn
 have hln := hw.n.ln
 have hA := along_ok hw.n
 have hnl := hw.n.l
 have oA := fun f t x => gAlong_eq (n := w.n) (fun k hk => (hw.n.l k hk).1) hw.n.ln f t x
 have oH : ∀ k, k < w.n.r.length → ∃ r, w.n.r[k]? = some r ∧ gHears [.agg w.s.c, .agg (enRl.d r), .int .i64 c, .int .i64 m] = some (.bool (hAt w.s w.n.r c m k)) := fun k hk => by
  obtain ⟨r, hr⟩ : ∃ r, w.n.r[k]? = some r := ⟨w.n.r[k], by simp [hk]⟩
  refine ⟨r, hr, ?_⟩
  rw [gHears_eq hs (hrel r (List.mem_of_getElem? hr)) hc hm.1]
  simp only [hAt, hr]
 have hini := first_ini hw (c := c) hm
 have hend := fun L h hcl => first_end hw (c := c) hm (L := L) h hcl
 have hstep := fun L (h : FOk (alongI w.n.l) w.n.r.length (heardM w.s w.n.r c m) L) k hf ht hst => FOk.step hA h (k := k) hf ht hst
 have hflen := fun L (h : FOk (alongI w.n.l) w.n.r.length (heardM w.s w.n.r c m) L) => h.len
 have hfv := fun L (h : FOk (alongI w.n.l) w.n.r.length (heardM w.s w.n.r c m) L) i hi => h.v i hi
 generalize FOk (alongI w.n.l) w.n.r.length (heardM w.s w.n.r c m) = FO at *
 generalize arrivesI w c m = AR at *
 generalize hAt w.s w.n.r c m = Hh at *
 obtain ⟨⟨sw, sd, sh⟩, ⟨rl, lk⟩, cell, mi, ev, en, af⟩ := w
 dsimp only at hs hrel hrn hln oH hc hini hend hstep hflen hfv hnl oA hA
 generalize alongI lk = A at *
 simp only [WatchW.c, SkyW.c, NetW.c, List.cons_append, List.nil_append] at oA oH ⊢
 obtain ⟨f, hf⟩ : ∃ f : Nat → Int, f = fun i => if Hh i = true then m else -1 := ⟨_, rfl⟩
 have hini : FO (upL rl.length f rl.length) := by
  have e : upL rl.length f rl.length = (List.range rl.length).map fun i => if Hh i = true then m else -1 := by
   unfold upL
   apply List.map_congr_left
   intro i hi
   rw [if_pos (List.mem_range.1 hi), hf]
  rw [e]; exact hini
 have mk := fun h nid => make_i h nid rl.length (by omega)
 have hrep : List.replicate rl.length (0 : Int) = upL rl.length f 0 := by
  unfold upL
  simp [List.map_const']
 refine pure_of_pieces (rs := [.tmp 6]) (m := 108) [(6, [(11, false, false, [])]), (14, [(16, false, false, [])]), (16, [(10, false, false, [])])] e13_ok (by kernel_rfl) Tryz.func67 rfl (by kernel_rfl) rfl rfl (by kernel_rfl) ?_
 refine awp_peel (T := [(6, [(11, false, false, [])]), (14, [(16, false, false, [])]), (16, [(10, false, false, [])])]) e13_ok (by kernel_rfl) (by kernel_rfl) ?_
 simp only [RT, FS, ↓RE, okR, argEnv, Nat.reduceAdd, Nat.reduceSub, Nat.reduceLT, Nat.reduceLeDiff, Nat.reduceEqDiff, reduceIte, RM]
 refine awp_peel (T := [(6, [(11, false, false, [])]), (14, [(16, false, false, [])]), (16, [(10, false, false, [])])]) e13_ok (by kernel_rfl) (by kernel_rfl) ?_
 simp only [RT, FS, ↓RE, okR, argEnv, Nat.reduceAdd, Nat.reduceSub, Nat.reduceLT, Nat.reduceLeDiff, Nat.reduceEqDiff, reduceIte, RM, List.length_map, mk]
 rw [hrep]
 refine awp_seqF (ι := Unit) (nid := 2) (n := 108) (fun _ => [(3, .ptr 0 0), (7, .osl 1 rl.length)]) (fun _ => [(1, .arr 3 1 (intL (upL rl.length f rl.length))), (0, .box [.int .i64 sw, .int .i64 sd, shD sh, rlD rl, lkD lk, .int .i64 cell, .int .i64 mi, .int .i64 ev, .int .i64 en, inD af])]) (fun _ => True) ?_ ?_
 ·refine awp_peel (T := [(6, [(11, false, false, [])]), (14, [(16, false, false, [])]), (16, [(10, false, false, [])])]) e13_ok (by kernel_rfl) (by kernel_rfl) ?_
  simp only [RT, FS, ↓RE, okR, argEnv, Nat.reduceAdd, Nat.reduceSub, Nat.reduceLT, Nat.reduceLeDiff, Nat.reduceEqDiff, reduceIte, RM]
  refine awp_block (awp_loopH (ι := Nat) (fun i => [(1, .int .i64 c), (2, .int .i64 m), (3, .ptr 0 0), (7, .osl 1 rl.length), (8, .int .i64 (i : Int))]) (fun i => [(1, .arr 3 1 (intL (upL rl.length f i))), (0, .box [.int .i64 sw, .int .i64 sd, shD sh, rlD rl, lkD lk, .int .i64 cell, .int .i64 mi, .int .i64 ev, .int .i64 en, inD af])]) 2 (fun i => i ≤ rl.length) (fun i => rl.length - i) 0 (Nat.zero_le _) ?_ ?_)
  ·simp [headW, heapW, envW, blkLt, D.ltL, D.lt, look, hget, Sx.hset, shD, inD]
  intro i hil
  have hul := upL_len rl.length f i
  have ql := fun h (hb : hget h 1 = some (.arr 3 1 (intL (upL rl.length f i)))) => oI_len (n := rl.length) hb hul
  refine awp_peel (T := [(6, [(11, false, false, [])]), (14, [(16, false, false, [])]), (16, [(10, false, false, [])])]) e13_ok (by kernel_rfl) (by kernel_rfl) ?_
  rcases Nat.lt_or_ge i rl.length with hlt | hge
  rotate_left
  ·have hq := nat_lt_false hge
   have : i = rl.length := by omega
   subst this
   simp only [RT, FS, ↓RE, okR, argEnv, Nat.reduceAdd, Nat.reduceSub, Nat.reduceLT, Nat.reduceLeDiff, Nat.reduceEqDiff, reduceIte, RM, ql, hq, decide_false]
   simp [headW, heapW, envW, blkLt, D.ltL, D.lt, look, hget, Sx.hset, shD, inD]
  have hq := nat_lt_true hlt
  simp only [RT, FS, ↓RE, okR, argEnv, Nat.reduceAdd, Nat.reduceSub, Nat.reduceLT, Nat.reduceLeDiff, Nat.reduceEqDiff, reduceIte, RM, ql, hq, decide_true]
  have hus := upL_set rl.length f hlt
  have hug := nAt_get (l := upL rl.length f i) (i := i) (by rw [hul]; exact hlt)
  have hfi : f i = if Hh i = true then m else -1 := by rw [hf]
  have hfin : ∀ x, ((upL rl.length f i).set i (-1)).set i x = (upL rl.length f i).set i x := fun x => List.set_set ..
  refine awp_seqF (ι := Unit) (nid := 2) (n := 108) (fun _ => [(1, .int .i64 c), (2, .int .i64 m), (3, .ptr 0 0), (7, .osl 1 rl.length), (8, .int .i64 (i : Int))]) (fun _ => [(1, .arr 3 1 (intL (upL rl.length f (i + 1)))), (0, .box [.int .i64 sw, .int .i64 sd, shD sh, rlD rl, lkD lk, .int .i64 cell, .int .i64 mi, .int .i64 ev, .int .i64 en, inD af])]) (fun _ => True) ?_ ?_
  rotate_left
  ·rintro _ _
   have wi := wrap_i64 (z := (i : Int) + 1) (by omega) (by omega)
   refine awp_rest (T := [(6, [(11, false, false, [])]), (14, [(16, false, false, [])]), (16, [(10, false, false, [])])]) e13_ok (by kernel_rfl) (by kernel_rfl) ?_
   simp only [RT, FS, ↓RE, okR, argEnv, Nat.reduceAdd, Nat.reduceSub, Nat.reduceLT, Nat.reduceLeDiff, Nat.reduceEqDiff, reduceIte, RM, wi]
   exact ⟨i + 1, by omega, by omega, by simp [headW, heapW, envW, blkLt, D.ltL, D.lt, look, hget, Sx.hset, shD, inD]⟩
  refine awp_block ?_
  rw [← hus, hfi]
  have ix := fun h (hb : hget h 1 = some (.arr 3 1 (intL (upL rl.length f i)))) => oI_ix (n := rl.length) (i := i) hb hul hlt
  have st := fun h nid (hb : hget h 1 = some (.arr 3 1 (intL (upL rl.length f i)))) => oI_store (n := rl.length) (i := i) hb hul hug nid (-1)
  have hul2 : ((upL rl.length f i).set i (-1)).length = rl.length := by rw [List.length_set]; exact hul
  have ix2 := fun h (hb : hget h 1 = some (.arr 3 1 (intL ((upL rl.length f i).set i (-1))))) => oI_ix (n := rl.length) (i := i) hb hul2 hlt
  have st2 := fun h nid (hb : hget h 1 = some (.arr 3 1 (intL ((upL rl.length f i).set i (-1))))) => oI_store (n := rl.length) (i := i) (x := -1) hb hul2 (by rw [List.getElem?_set]; simp [hul, hlt]) nid m
  rw [hfin] at st2
  obtain ⟨r, hr, oHr⟩ := oH i hlt
  have hix := rlD_ix hr
  simp only [enRl] at oHr
  refine awp_peel (T := [(6, [(11, false, false, [])]), (14, [(16, false, false, [])]), (16, [(10, false, false, [])])]) e13_ok (by kernel_rfl) (by kernel_rfl) ?_
  simp only [RT, FS, ↓RE, okR, argEnv, Nat.reduceAdd, Nat.reduceSub, Nat.reduceLT, Nat.reduceLeDiff, Nat.reduceEqDiff, reduceIte, RM, ix, st]
  refine awp_rest (T := [(6, [(11, false, false, [])]), (14, [(16, false, false, [])]), (16, [(10, false, false, [])])]) e13_ok (by kernel_rfl) (by kernel_rfl) ?_
  cases hh : Hh i
  ·rw [hh] at oHr
   simp only [RT, FS, ↓RE, okR, argEnv, Nat.reduceAdd, Nat.reduceSub, Nat.reduceLT, Nat.reduceLeDiff, Nat.reduceEqDiff, reduceIte, RM, hix, oHr]
   try rw [if_neg (by simp)]
   simp [headW, heapW, envW, blkLt, D.ltL, D.lt, look, hget, Sx.hset, shD, inD]
  ·rw [hh] at oHr
   simp only [RT, FS, ↓RE, okR, argEnv, Nat.reduceAdd, Nat.reduceSub, Nat.reduceLT, Nat.reduceLeDiff, Nat.reduceEqDiff, reduceIte, RM, hix, oHr, ix2, st2]
   try rw [if_pos rfl]
   simp [headW, heapW, envW, blkLt, D.ltL, D.lt, look, hget, Sx.hset, shD, inD]
 rintro _ _
 generalize upL rl.length f rl.length = L0 at *
 clear hf
 refine awp_peel (T := [(6, [(11, false, false, [])]), (14, [(16, false, false, [])]), (16, [(10, false, false, [])])]) e13_ok (by kernel_rfl) (by kernel_rfl) ?_
 simp only [RT, FS, ↓RE, okR, argEnv, Nat.reduceAdd, Nat.reduceSub, Nat.reduceLT, Nat.reduceLeDiff, Nat.reduceEqDiff, reduceIte, RM]
 refine awp_seqF (ι := List Int) (nid := 2) (n := 108) (fun L => [(7, .osl 1 rl.length)]) (fun L => [(1, .arr 3 1 (intL L)), (0, .box [.int .i64 sw, .int .i64 sd, shD sh, rlD rl, lkD lk, .int .i64 cell, .int .i64 mi, .int .i64 ev, .int .i64 en, inD af])]) (fun L => FO L ∧ ∀ k ∈ lk, FCl A L k) ?_ ?_
 rotate_left
 ·rintro L ⟨hL, hcl⟩
  have hll := hflen L hL
  have ix := fun h (hb : hget h 1 = some (.arr 3 1 (intL L))) => oI_ix0 (n := rl.length) hb hll (by omega)
  have ld := fun h (hb : hget h 1 = some (.arr 3 1 (intL L))) => oI_load (n := rl.length) (i := 0) hb hll (nAt_get (by omega))
  refine awp_rest (T := [(6, [(11, false, false, [])]), (14, [(16, false, false, [])]), (16, [(10, false, false, [])])]) e13_ok (by kernel_rfl) (by kernel_rfl) ?_
  simp only [RT, FS, ↓RE, okR, argEnv, Nat.reduceAdd, Nat.reduceSub, Nat.reduceLT, Nat.reduceLeDiff, Nat.reduceEqDiff, reduceIte, RM, ix, ld]
  rw [hend L hL hcl]
 refine awp_block (awp_loopH (ι := List Int × Bool) (fun s => [(3, .ptr 0 0), (7, .osl 1 rl.length), (9, .bool s.2)]) (fun s => [(1, .arr 3 1 (intL s.1)), (0, .box [.int .i64 sw, .int .i64 sd, shD sh, rlD rl, lkD lk, .int .i64 cell, .int .i64 mi, .int .i64 ev, .int .i64 en, inD af])]) 2 (fun s => FO s.1 ∧ (s.2 = false → ∀ k ∈ lk, FCl A s.1 k)) (fun s => 2 * phiF rl.length s.1 + if s.2 then 1 else 0) (L0, true) ⟨hini, fun h => by cases h⟩ ?_ ?_)
 ·simp [headW, heapW, envW, blkLt, D.ltL, D.lt, look, hget, Sx.hset, shD, inD]
 rintro ⟨Lo, ch⟩ ⟨hLo, hch⟩
 dsimp only at hLo hch ⊢
 refine awp_peel (T := [(6, [(11, false, false, [])]), (14, [(16, false, false, [])]), (16, [(10, false, false, [])])]) e13_ok (by kernel_rfl) (by kernel_rfl) ?_
 cases ch
 ·simp only [RT, FS, ↓RE, okR, argEnv, Nat.reduceAdd, Nat.reduceSub, Nat.reduceLT, Nat.reduceLeDiff, Nat.reduceEqDiff, reduceIte, RM]
  exact ⟨Lo, ⟨hLo, hch rfl⟩, by simp [headW, heapW, envW, blkLt, D.ltL, D.lt, look, hget, Sx.hset, shD, inD]⟩
 simp only [RT, FS, ↓RE, okR, argEnv, Nat.reduceAdd, Nat.reduceSub, Nat.reduceLT, Nat.reduceLeDiff, Nat.reduceEqDiff, reduceIte, RM]
 refine awp_block ?_
 refine awp_peel (T := [(6, [(11, false, false, [])]), (14, [(16, false, false, [])]), (16, [(10, false, false, [])])]) e13_ok (by kernel_rfl) (by kernel_rfl) ?_
 simp only [RT, FS, ↓RE, okR, argEnv, Nat.reduceAdd, Nat.reduceSub, Nat.reduceLT, Nat.reduceLeDiff, Nat.reduceEqDiff, reduceIte, RM]
 refine awp_rest (T := [(6, [(11, false, false, [])]), (14, [(16, false, false, [])]), (16, [(10, false, false, [])])]) e13_ok (by kernel_rfl) (by kernel_rfl) ?_
 simp only [RT, FS, ↓RE, okR, argEnv, Nat.reduceAdd, Nat.reduceSub, Nat.reduceLT, Nat.reduceLeDiff, Nat.reduceEqDiff, reduceIte, RM]
 refine loopV (ι := Nat × List Int × Bool) e13_ok [(6, [(11, false, false, [])]), (14, [(16, false, false, [])]), (16, [(10, false, false, [])])] (fun s => [(3, .ptr 0 0), (7, .osl 1 rl.length), (9, .bool s.2.2), (10, .int .i64 (s.1 : Int))])
  (fun s => [(1, .arr 3 1 (intL s.2.1)), (0, .box [.int .i64 sw, .int .i64 sd, shD sh, rlD rl, lkD lk, .int .i64 cell, .int .i64 mi, .int .i64 ev, .int .i64 en, inD af])]) 2 (fun s => s.1 ≤ lk.length ∧ FO s.2.1 ∧ phiF rl.length s.2.1 ≤ phiF rl.length Lo ∧ (s.2.2 = true → phiF rl.length s.2.1 < phiF rl.length Lo) ∧ (s.2.2 = false → s.2.1 = Lo ∧ ∀ j, j < s.1 → ∀ k, lk[j]? = some k → FCl A s.2.1 k)) (fun s => lk.length - s.1) (0, Lo, false) (by kernel_rfl) (by kernel_rfl) ⟨Nat.zero_le _, hLo, Nat.le_refl _, fun h => (by cases h), fun _ => ⟨rfl, fun j hj => by simp at hj⟩⟩ ?_ ?_
 ·simp [headW, heapW, envW, blkLt, D.ltL, D.lt, look, hget, Sx.hset, shD, inD]
 rintro ⟨i, L, chh⟩ ⟨hil, hL, hph, hc1, hc2⟩
 dsimp only at hil hL hph hc1 hc2 ⊢
 rcases Nat.lt_or_ge i lk.length with hlt | hge
 rotate_left
 ·have hq := nat_lt_false hge
  simp only [RT, FS, ↓RE, okR, argEnv, Nat.reduceAdd, Nat.reduceSub, Nat.reduceLT, Nat.reduceLeDiff, Nat.reduceEqDiff, reduceIte, RM, List.length_map, hq, decide_false]
  have hie : i = lk.length := by omega
  refine ⟨(L, chh), ⟨hL, fun h k hk => ?_⟩, ?_, by simp [headW, heapW, envW, blkLt, D.ltL, D.lt, look, hget, Sx.hset, shD, inD]⟩
  ·obtain ⟨j, hj, rfl⟩ := List.getElem_of_mem hk
   exact (hc2 h).2 j (by omega) _ (by simp [hj])
  ·simp only
   cases chh
   ·rw [(hc2 rfl).1]; simp
   ·have := hc1 rfl; simp; omega
 have hq := nat_lt_true hlt
 obtain ⟨⟨kf, kt, kd, kl⟩, hk'⟩ : ∃ k, lk[i]? = some k := ⟨lk[i], by simp [hlt]⟩
 obtain ⟨_, hkf, hkt, _⟩ := hnl _ (List.mem_of_getElem? hk')
 dsimp only at hkf hkt
 obtain ⟨an, han⟩ : ∃ an : Nat, kf = (an : Int) := ⟨kf.toNat, by omega⟩
 obtain ⟨bn, hbn⟩ : ∃ bn : Nat, kt = (bn : Int) := ⟨kt.toNat, by omega⟩
 subst han hbn
 have hix := lkD_ix hk'
 dsimp only at hix
 have hll := hflen L hL
 have hw1 := wrap_i64 (z := (i : Int) + 1) (by omega) (by omega)
 have ixa := fun h (hb : hget h 1 = some (.arr 3 1 (intL L))) => oI_ix (n := rl.length) (i := an) hb hll (by omega)
 have lda := fun h (hb : hget h 1 = some (.arr 3 1 (intL L))) => oI_load (n := rl.length) (i := an) hb hll (nAt_get (by omega))
 have ixb := fun h (hb : hget h 1 = some (.arr 3 1 (intL L))) => oI_ix (n := rl.length) (i := bn) hb hll (by omega)
 have ldb := fun h (hb : hget h 1 = some (.arr 3 1 (intL L))) => oI_load (n := rl.length) (i := bn) hb hll (nAt_get (by omega))
 have oAx := oA (an : Int) (bn : Int) (nAt L an)
 have stb := fun h nid (hb : hget h 1 = some (.arr 3 1 (intL L))) => oI_store (n := rl.length) (i := bn) hb hll (nAt_get (by omega)) nid (A (an : Int) (bn : Int) (nAt L an))
 cases c1 : decide (nAt L an < 0)
 case true =>
  have hno : FCl A L ⟨(an : Int), (bn : Int), kd, kl⟩ := by
   unfold FCl fstepB
   simp only [Int.toNat_natCast]
   rw [c1]; rfl
  simp only [RT, FS, ↓RE, okR, argEnv, Nat.reduceAdd, Nat.reduceSub, Nat.reduceLT, Nat.reduceLeDiff, Nat.reduceEqDiff, reduceIte, RM, List.length_map, hq, decide_true, hix, ixa, lda, c1, hw1]
  exact ⟨(i + 1, L, chh), ⟨by simp only; omega, hL, hph, hc1, fun h => ⟨(hc2 h).1, fun j hj k hk => by
     by_cases e : j = i
     ·subst e; rw [hk'] at hk; cases hk; exact hno
     ·exact (hc2 h).2 j (by simp only at hj; omega) k hk⟩⟩, by simp only; omega, by simp [headW, heapW, envW, blkLt, D.ltL, D.lt, look, hget, Sx.hset, shD, inD]⟩
 cases c2 : decide ((an : Int) = 0)
 case true =>
  have hb2 : ((an : Int) == 0) = true := by simpa using c2
  have hno : FCl A L ⟨(an : Int), (bn : Int), kd, kl⟩ := by
   unfold FCl fstepB
   simp only [Int.toNat_natCast]
   rw [c1, c2]; rfl
  simp only [RT, FS, ↓RE, okR, argEnv, Nat.reduceAdd, Nat.reduceSub, Nat.reduceLT, Nat.reduceLeDiff, Nat.reduceEqDiff, reduceIte, RM, List.length_map, hq, decide_true, hix, ixa, lda, c1, hb2, hw1]
  exact ⟨(i + 1, L, chh), ⟨by simp only; omega, hL, hph, hc1, fun h => ⟨(hc2 h).1, fun j hj k hk => by
     by_cases e : j = i
     ·subst e; rw [hk'] at hk; cases hk; exact hno
     ·exact (hc2 h).2 j (by simp only at hj; omega) k hk⟩⟩, by simp only; omega, by simp [headW, heapW, envW, blkLt, D.ltL, D.lt, look, hget, Sx.hset, shD, inD]⟩
 have hb2 : ((an : Int) == 0) = false := by simpa using c2
 cases c3 : decide (0 ≤ A (an : Int) (bn : Int) (nAt L an))
 ·have hno : FCl A L ⟨(an : Int), (bn : Int), kd, kl⟩ := by
   unfold FCl fstepB
   simp only [Int.toNat_natCast]
   rw [c1, c2, c3]; rfl
  simp only [RT, FS, ↓RE, okR, argEnv, Nat.reduceAdd, Nat.reduceSub, Nat.reduceLT, Nat.reduceLeDiff, Nat.reduceEqDiff, reduceIte, RM, List.length_map, hq, decide_true, hix, ixa, lda, c1, hb2, oAx, c3, hw1]
  exact ⟨(i + 1, L, chh), ⟨by simp only; omega, hL, hph, hc1, fun h => ⟨(hc2 h).1, fun j hj k hk => by
     by_cases e : j = i
     ·subst e; rw [hk'] at hk; cases hk; exact hno
     ·exact (hc2 h).2 j (by simp only at hj; omega) k hk⟩⟩, by simp only; omega, by simp [headW, heapW, envW, blkLt, D.ltL, D.lt, look, hget, Sx.hset, shD, inD]⟩
 cases c4 : decide (nAt L bn < 0)
 case true =>
  have hyes : fstepB A L ⟨(an : Int), (bn : Int), kd, kl⟩ = true := by
   unfold fstepB
   simp only [Int.toNat_natCast]
   rw [c1, c2, c3, c4]; rfl
  obtain ⟨n1, n2⟩ := hstep L hL ⟨(an : Int), (bn : Int), kd, kl⟩ hkf hkt hyes
  simp only [Int.toNat_natCast] at n1 n2
  simp only [RT, FS, ↓RE, okR, argEnv, Nat.reduceAdd, Nat.reduceSub, Nat.reduceLT, Nat.reduceLeDiff, Nat.reduceEqDiff, reduceIte, RM, List.length_map, hq, decide_true, hix, ixa, lda, c1, hb2, oAx, c3, ixb, ldb, c4, stb, hw1]
  exact ⟨(i + 1, _, true), ⟨by simp only; omega, n1, by simp only; omega, fun _ => by simp only; omega, fun h => by cases h⟩, by simp only; omega, by simp [headW, heapW, envW, blkLt, D.ltL, D.lt, look, hget, Sx.hset, shD, inD]⟩
 cases c5 : decide (A (an : Int) (bn : Int) (nAt L an) < nAt L bn)
 ·have hno : FCl A L ⟨(an : Int), (bn : Int), kd, kl⟩ := by
   unfold FCl fstepB
   simp only [Int.toNat_natCast]
   rw [c1, c2, c3, c4, c5]; rfl
  simp only [RT, FS, ↓RE, okR, argEnv, Nat.reduceAdd, Nat.reduceSub, Nat.reduceLT, Nat.reduceLeDiff, Nat.reduceEqDiff, reduceIte, RM, List.length_map, hq, decide_true, hix, ixa, lda, c1, hb2, oAx, c3, ixb, ldb, c4, c5, hw1]
  exact ⟨(i + 1, L, chh), ⟨by simp only; omega, hL, hph, hc1, fun h => ⟨(hc2 h).1, fun j hj k hk => by
     by_cases e : j = i
     ·subst e; rw [hk'] at hk; cases hk; exact hno
     ·exact (hc2 h).2 j (by simp only at hj; omega) k hk⟩⟩, by simp only; omega, by simp [headW, heapW, envW, blkLt, D.ltL, D.lt, look, hget, Sx.hset, shD, inD]⟩
 have hyes : fstepB A L ⟨(an : Int), (bn : Int), kd, kl⟩ = true := by
  unfold fstepB
  simp only [Int.toNat_natCast]
  rw [c1, c2, c3, c4, c5]; rfl
 obtain ⟨n1, n2⟩ := hstep L hL ⟨(an : Int), (bn : Int), kd, kl⟩ hkf hkt hyes
 simp only [Int.toNat_natCast] at n1 n2
 simp only [RT, FS, ↓RE, okR, argEnv, Nat.reduceAdd, Nat.reduceSub, Nat.reduceLT, Nat.reduceLeDiff, Nat.reduceEqDiff, reduceIte, RM, List.length_map, hq, decide_true, hix, ixa, lda, c1, hb2, oAx, c3, ixb, ldb, c4, c5, stb, hw1]
 exact ⟨(i + 1, _, true), ⟨by simp only; omega, n1, by simp only; omega, fun _ => by simp only; omega, fun h => by cases h⟩, by simp only; omega, by simp [headW, heapW, envW, blkLt, D.ltL, D.lt, look, hget, Sx.hset, shD, inD]⟩
end Go.Sx
