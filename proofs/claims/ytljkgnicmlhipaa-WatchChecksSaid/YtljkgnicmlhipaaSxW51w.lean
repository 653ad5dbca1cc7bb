/- Own work: contracts of functions, used in the proof of a law. -/
import Derived.Test.YtljkgnicmlhipaaSxW50w
set_option linter.unusedVariables false
set_option linter.unusedSimpArgs false
namespace Go.Sx
open Go.Proofs
set_option maxRecDepth 10000

/-! Own lists of truth values -/
theorem boolL_get {l : List Bool} {i : Nat} {x : Bool} (h : l[i]? = some x) : (boolL l)[i]? = some [.bool x] := by simp [boolL, h, enB]
theorem oB_ix {h : H} {b n : Nat} {l : List Bool} (hb : hget h b = some (.arr 4 1 (boolL l))) (hn : l.length = n) {i : Nat} (hi : i < n) : indexAddrD Try.prog h 22 (.osl b n) (.int .i64 (i : Int)) = some (.eptr b n 1 i 0) :=
  own_ix Fz.und_22 Fz.size_4 hb (by rw [boolL_len, hn]) hi .i64
theorem oB_store {h : H} {b n : Nat} {l : List Bool} (hb : hget h b = some (.arr 4 1 (boolL l))) (hn : l.length = n) {i : Nat} (hi : i < n) (nid : Nat) (y : Bool) :
    storeD Try.prog h nid 4 (.eptr b n 1 i 0) (.bool y) = some (.any, hset h b (.arr 4 1 (boolL (l.set i y))), nid) := by
  obtain ⟨x, hx⟩ : ∃ x, l[i]? = some x := ⟨l[i]'(by omega), by simp [hn, hi]⟩
  rw [own_store (ds := [.bool y]) hb (by rw [boolL_len, hn]) (boolL_get hx) 0 nid Fz.size_4 rfl rfl (by omega) rfl rfl]
  simp [boolL, List.map_set, enB, putL]
theorem make_b (h : H) (nid n : Nat) (hn : n ≤ 1000000) : makeD Try.prog h nid 22 (.int .i64 (n : Int)) (.int .i64 (n : Int)) = some (.osl nid n, (nid, .arr 4 1 (boolL (List.replicate n false))) :: h, nid + 1) := by
  have h1 : n ≤ 1125899906842624 := by omega
  have hb : Try.prog.bytesOf 4 = 1 := by kernel_rfl
  have h2 : n ≤ 140737488355328 := by omega
  simp [makeD, Fz.und_22, Fz.size_4, Fz.zero_4, hb, h1, h2, boolL, enB]
  omega
theorem boolsF_set {N : Nat} (p : Int → Bool) {i : Nat} (v : Bool) : (boolsF N p).set i v = boolsF N fun c => if c = (i : Int) then v else p c := by
  refine boolsF_ext (by rw [List.length_set, boolsF_len]) fun j hj => ?_
  rw [List.getElem?_set]
  by_cases e : i = j
  · subst e
    simp [boolsF_len, hj]
  · rw [if_neg e, boolsF_get p hj, if_neg (by omega)]

/-! What lies around, in the document -/
def anyTo (s : SkyW) (p : Int → Bool) (i : Int) (k : Nat) : Bool := (List.range k).any fun j : Nat => p (j : Int) && (freeB s.sh i && decide (distI s.w i (j : Int) ≤ 1))
theorem anyTo_succ (s : SkyW) (p : Int → Bool) (i : Int) (k : Nat) : anyTo s p i (k + 1) = (anyTo s p i k || (p (k : Int) && (freeB s.sh i && decide (distI s.w i (k : Int) ≤ 1)))) := by
  simp [anyTo, List.range_succ, List.any_append]
theorem anyTo_all (s : SkyW) (p : Int → Bool) (i : Int) : anyTo s p i s.sh.length = arF s p i := by
  rw [Bool.eq_iff_iff, arF_iff]
  simp only [anyTo, List.any_eq_true, List.mem_range, Bool.and_eq_true, decide_eq_true_eq]
  constructor
  · rintro ⟨j, hj, h1, h2, h3⟩
    exact ⟨h2, (j : Int), ⟨by omega, by omega⟩, h1, h3⟩
  · rintro ⟨h2, k, hk, h1, h3⟩
    have e : ((k.toNat : Nat) : Int) = k := by have := hk.1; omega
    exact ⟨k.toNat, by have := hk.2; omega, by rw [e]; exact h1, h2, by rw [e]; exact h3⟩
set_option maxHeartbeats 2000000 in
theorem r_around_t {s : SkyW} (hs : SkyOk s) (p : Int → Bool) : Pure Try.prog 72 [.agg s.c, shD (boolsF s.sh.length p)] (shD (boolsF s.sh.length (arF s p))) := by
  have hle := hs.le
  have oF := fun c => gFree_eq (s := s) (by simp only [BL]; omega) c
  have oD := fun a b (ha : InS s a) (hb : InS s b) => gDist_eq hs ha hb
  have hall := anyTo_all s p
  have hsucc := anyTo_succ s p
  have hz : ∀ i, anyTo s p i 0 = false := fun i => rfl
  generalize anyTo s p = T at *
  have hR : ∀ i, arF s p i = T i s.sh.length := fun i => (hall i).symm
  rw [show arF s p = fun i => T i s.sh.length from funext hR]
  obtain ⟨w, d, sh⟩ := s
  dsimp only at hle ⊢
  simp only [SkyW.c] at *
  have mk := fun h nid => make_b h nid sh.length (by omega)
  have hbl := boolsF_len sh.length p
  have hbg := fun i hi => boolsF_get (N := sh.length) p (i := i) hi
  generalize boolsF sh.length p = bs at *
  refine pure_of_wc (rs := [.tmp 4]) (m := 43) [] e13_ok (by kernel_rfl) Try.func72 rfl (by kernel_rfl) rfl rfl (by kernel_rfl) ?_
  simp only [RT, FS, ↓RE, okR, argEnv, Nat.reduceAdd, Nat.reduceSub, Nat.reduceLT, Nat.reduceLeDiff, Nat.reduceEqDiff, reduceIte, RM, List.length_map, hbl, mk]
  refine loopV (ι := Nat) e13_ok [] (fun i => [(1, shD bs), (2, .ptr 0 0), (5, .osl 1 sh.length), (6, .int .i64 (i : Int))])
    (fun i => [(1, .arr 4 1 (boolL (boolsF sh.length fun c => decide (c < (i : Int)) && T c sh.length))), (0, .box [.int .i64 w, .int .i64 d, shD sh])]) 2 (fun i => i ≤ sh.length) (fun i => sh.length - i) 0 (by kernel_rfl) (by kernel_rfl) (Nat.zero_le _) ?_ ?_
  · have e : List.replicate sh.length false = boolsF sh.length fun c => decide (c < ((0 : Nat) : Int)) && T c sh.length := by
      refine boolsF_ext (by simp) fun i hi => ?_
      have : ¬ ((i : Int) < ((0 : Nat) : Int)) := by omega
      simp [hi]
      omega
    rw [← e]
    simp [headW, heapW, envW, blkLt, D.ltL, D.lt, look, hget, shD]
  intro i hil
  rcases Nat.lt_or_ge i sh.length with hlt | hge
  · have hc := nat_lt_true hlt
    have hw1 := wrap_i64 (z := (i : Int) + 1) (by omega) (by omega)
    simp only [RT, FS, ↓RE, okR, argEnv, Nat.reduceAdd, Nat.reduceSub, Nat.reduceLT, Nat.reduceLeDiff, Nat.reduceEqDiff, reduceIte, RM, List.length_map, hbl, hc, decide_true]
    refine loopV (ι := Nat) e13_ok [] (fun k => [(1, shD bs), (2, .ptr 0 0), (5, .osl 1 sh.length), (6, .int .i64 (i : Int)), (7, .int .i64 (k : Int))])
      (fun k => [(1, .arr 4 1 (boolL (boolsF sh.length fun c => if c = (i : Int) then T i k else decide (c < (i : Int)) && T c sh.length))), (0, .box [.int .i64 w, .int .i64 d, shD sh])]) 2 (fun k => k ≤ sh.length) (fun k => sh.length - k) 0 (by kernel_rfl) (by kernel_rfl) (Nat.zero_le _) ?_ ?_
    · have e : (fun c => decide (c < (i : Int)) && T c sh.length) = fun c => if c = (i : Int) then T i 0 else decide (c < (i : Int)) && T c sh.length := funext fun c => by
        by_cases e : c = (i : Int)
        · subst e; simp [hz]
        · simp [e]
      rw [← e]
      simp [headW, heapW, envW, blkLt, D.ltL, D.lt, look, hget, shD]
    intro k hkl
    rcases Nat.lt_or_ge k sh.length with hlt2 | hge2
    · have hc2 := nat_lt_true hlt2
      have hw2 := wrap_i64 (z := (k : Int) + 1) (by omega) (by omega)
      have hix := shD_ix (hbg k hlt2)
      have hS := hsucc i k
      have oFi := oF i
      have oDi := oD i k ⟨by omega, by simp only; omega⟩ ⟨by omega, by simp only; omega⟩
      have hln := boolsF_len sh.length fun c => if c = (i : Int) then T i k else decide (c < (i : Int)) && T c sh.length
      have hset := boolsF_set (N := sh.length) (fun c => if c = (i : Int) then T i k else decide (c < (i : Int)) && T c sh.length) (i := i) true
      have hsame : T i (k + 1) = T i k → (fun c => if c = (i : Int) then T i (k + 1) else decide (c < (i : Int)) && T c sh.length) = fun c => if c = (i : Int) then T i k else decide (c < (i : Int)) && T c sh.length := fun e => by rw [e]
      have hnew : T i (k + 1) = true → (fun c => if c = (i : Int) then T i (k + 1) else decide (c < (i : Int)) && T c sh.length) = fun c => if c = (i : Int) then true else (if c = (i : Int) then T i k else decide (c < (i : Int)) && T c sh.length) := fun e => funext fun c => by
        rw [e]
        by_cases e2 : c = (i : Int)
        · simp [e2]
        · simp [e2]
      generalize (fun c => if c = (i : Int) then T i k else decide (c < (i : Int)) && T c sh.length) = F at *
      have ix := fun h (hb : hget h 1 = some (.arr 4 1 (boolL (boolsF sh.length F)))) => oB_ix (n := sh.length) hb hln hlt
      have st := fun h nid (hb : hget h 1 = some (.arr 4 1 (boolL (boolsF sh.length F)))) => oB_store (n := sh.length) hb hln hlt nid true
      cases q1 : p (k : Int)
      · rw [q1] at hix hS
        simp only [RT, FS, ↓RE, okR, argEnv, Nat.reduceAdd, Nat.reduceSub, Nat.reduceLT, Nat.reduceLeDiff, Nat.reduceEqDiff, reduceIte, RM, List.length_map, hbl, hc2, decide_true, hix, hw2]
        exact ⟨k + 1, by omega, by omega, by rw [hsame (by rw [hS]; simp)]; simp [headW, heapW, envW, blkLt, D.ltL, D.lt, look, hget, shD]⟩
      rw [q1] at hix hS
      cases q2 : freeB sh (i : Int)
      · rw [q2] at oFi hS
        simp only [RT, FS, ↓RE, okR, argEnv, Nat.reduceAdd, Nat.reduceSub, Nat.reduceLT, Nat.reduceLeDiff, Nat.reduceEqDiff, reduceIte, RM, List.length_map, hbl, hc2, decide_true, hix, hw2, oFi]
        exact ⟨k + 1, by omega, by omega, by rw [hsame (by rw [hS]; simp)]; simp [headW, heapW, envW, blkLt, D.ltL, D.lt, look, hget, shD]⟩
      rw [q2] at oFi hS
      cases q3 : decide (distI w (i : Int) (k : Int) ≤ 1)
      · rw [q3] at hS
        simp only [RT, FS, ↓RE, okR, argEnv, Nat.reduceAdd, Nat.reduceSub, Nat.reduceLT, Nat.reduceLeDiff, Nat.reduceEqDiff, reduceIte, RM, List.length_map, hbl, hc2, decide_true, hix, hw2, oFi, oDi, q3]
        exact ⟨k + 1, by omega, by omega, by rw [hsame (by rw [hS]; simp)]; simp [headW, heapW, envW, blkLt, D.ltL, D.lt, look, hget, shD]⟩
      · rw [q3] at hS
        simp only [RT, FS, ↓RE, okR, argEnv, Nat.reduceAdd, Nat.reduceSub, Nat.reduceLT, Nat.reduceLeDiff, Nat.reduceEqDiff, reduceIte, RM, List.length_map, hbl, hc2, decide_true, hix, hw2, oFi, oDi, q3, ix, st]
        exact ⟨k + 1, by omega, by omega, by rw [hnew (by rw [hS]; simp), ← hset]; simp [headW, heapW, envW, blkLt, D.ltL, D.lt, look, hget, shD]⟩
    · have hc2 := nat_lt_false hge2
      have : k = sh.length := by omega
      subst this
      simp only [RT, FS, ↓RE, okR, argEnv, Nat.reduceAdd, Nat.reduceSub, Nat.reduceLT, Nat.reduceLeDiff, Nat.reduceEqDiff, reduceIte, RM, List.length_map, hbl, hc2, decide_false, hw1]
      refine ⟨i + 1, by omega, by omega, ?_⟩
      have e : (fun c => decide (c < ((i + 1 : Nat) : Int)) && T c sh.length) = fun c => if c = (i : Int) then T i sh.length else decide (c < (i : Int)) && T c sh.length := funext fun c => by
        by_cases e : c = (i : Int)
        · subst e; simp; omega
        · rw [if_neg e]
          congr 1
          rw [Bool.eq_iff_iff]; simp; omega
      rw [e]
      simp [headW, heapW, envW, blkLt, D.ltL, D.lt, look, hget, shD]
  · have hc := nat_lt_false hge
    have : i = sh.length := by omega
    subst this
    simp only [RT, FS, ↓RE, okR, argEnv, Nat.reduceAdd, Nat.reduceSub, Nat.reduceLT, Nat.reduceLeDiff, Nat.reduceEqDiff, reduceIte, RM, List.length_map, hbl, hc, decide_false]
    have e : boolsF sh.length (fun c => decide (c < (sh.length : Int)) && T c sh.length) = boolsF sh.length fun i => T i sh.length := boolsF_congr fun c h0 h1 => by simp [h1]
    rw [e]
    simp [viewA, boolL_len, boolsF_len]
    rfl
set_option maxHeartbeats 2000000 in
theorem r_Reach_t {s : SkyW} (hs : SkyOk s) {c : Int} (hc : freeB s.sh c = true) {n : Int} (hn : 0 ≤ n ∧ n ≤ 1440) : Pure Try.prog 40 [.agg s.c, .int .i64 c, .int .i64 n] (.sl (intL (cellsF s.sh.length (itF s (oneF c) n.toNat)))) := by
  have hle := hs.le
  have hin := free_ins (s := s) hc
  have pa := fun k => r_around_t hs (itF s (oneF c) k)
  have pc := fun p => r_Cells_t (boolsF s.sh.length p) (by rw [boolsF_len]; omega)
  have hit : ∀ k, arF s (itF s (oneF c) k) = itF s (oneF c) (k + 1) := fun k => (aF_arF hs (itF_free hs (one_free hc) k)).symm
  simp only [hit] at pa
  simp only [boolsF_len, cellsN_bools] at pc
  rw [← reach_ref hs hc n.toNat]
  have h0 : itF s (oneF c) 0 = oneF c := rfl
  generalize itF s (oneF c) = I at *
  obtain ⟨w, d, sh⟩ := s
  dsimp only at hle hin ⊢
  simp only [SkyW.c] at *
  obtain ⟨ci, hci⟩ : ∃ ci : Nat, c = (ci : Int) := ⟨c.toNat, by have := hin.1; omega⟩
  subst hci
  obtain ⟨m, hm⟩ : ∃ m : Nat, n = (m : Int) := ⟨n.toNat, by omega⟩
  subst hm
  rw [Int.toNat_natCast]
  have hcl : ci < sh.length := by have := hin.2; simp only at this; omega
  have mk := fun h nid => make_b h nid sh.length (by omega)
  have ix := fun h (hb : hget h 1 = some (.arr 4 1 (boolL (List.replicate sh.length false)))) => oB_ix (n := sh.length) (i := ci) hb (by simp) hcl
  have st := fun h nid (hb : hget h 1 = some (.arr 4 1 (boolL (List.replicate sh.length false)))) => oB_store (n := sh.length) (i := ci) hb (by simp) hcl nid true
  have e0 : (List.replicate sh.length false).set ci true = boolsF sh.length (I 0) := by
    rw [h0]
    refine boolsF_ext (by simp) fun i hi => ?_
    rw [List.getElem?_set]
    by_cases e : ci = i
    · subst e; simp [hi, oneF]
    · rw [if_neg e]
      have : ¬ ((i : Int) = (ci : Int)) := by omega
      simp [hi, oneF, this]
  refine pure_of_pieces (rs := [.tmp 6]) (m := 32) [] oNone_ok (by kernel_rfl) Try.func40 rfl (by kernel_rfl) rfl rfl (by kernel_rfl) ?_
  refine awp_peel (T := []) oNone_ok (by kernel_rfl) (by kernel_rfl) ?_
  simp only [RT, FS, ↓RE, okR, argEnv, Nat.reduceAdd, Nat.reduceSub, Nat.reduceLT, Nat.reduceLeDiff, Nat.reduceEqDiff, reduceIte, RM]
  refine awp_peel (T := []) oNone_ok (by kernel_rfl) (by kernel_rfl) ?_
  simp only [RT, FS, ↓RE, okR, argEnv, Nat.reduceAdd, Nat.reduceSub, Nat.reduceLT, Nat.reduceLeDiff, Nat.reduceEqDiff, reduceIte, RM, List.length_map, mk]
  refine awp_peel (T := []) oNone_ok (by kernel_rfl) (by kernel_rfl) ?_
  simp only [RT, FS, ↓RE, okR, argEnv, Nat.reduceAdd, Nat.reduceSub, Nat.reduceLT, Nat.reduceLeDiff, Nat.reduceEqDiff, reduceIte, RM, ix, st]
  rw [e0]
  refine awp_imp (imp_thaw 1 (.weak (weak_of (e := [(2, .int .i64 (m : Int)), (3, .ptr 0 0), (7, shD (boolsF sh.length (I 0)))]) (h := [(0, .box [.int .i64 w, .int .i64 d, shD sh])]) (nid := 2) (n := 32) ?_))) ?_
  · simp [headW, heapW, envW, blkLt, D.ltL, D.lt, look, hget, frzHH, frzBlk, herase, fz_int, fz_ref, fz_ptr, fz_bool, fz_sl, fz_osl, fzC_some, fzC_arr, fzP_some, boolL_len, boolsF_len, shD, boolL]
  refine awp_peel (T := []) oNone_ok (by kernel_rfl) (by kernel_rfl) ?_
  simp only [RT, FS, ↓RE, okR, argEnv, Nat.reduceAdd, Nat.reduceSub, Nat.reduceLT, Nat.reduceLeDiff, Nat.reduceEqDiff, reduceIte, RM]
  refine loopV (ι := Nat) oNone_ok [] (fun i => [(2, .int .i64 (m : Int)), (3, .ptr 0 0), (7, shD (boolsF sh.length (I i))), (8, .int .i64 (i : Int))])
    (fun i => [(0, .box [.int .i64 w, .int .i64 d, shD sh])]) 2 (fun i => i ≤ min m sh.length) (fun i => m - i) 0 (by kernel_rfl) (by kernel_rfl) (by omega) ?_ ?_
  · simp [headW, heapW, envW, blkLt, D.ltL, D.lt, look, hget, shD]
  intro i hil
  have hbl := boolsF_len sh.length (I i)
  rcases Nat.lt_or_ge i (min m sh.length) with hlt | hge
  · have c1 : ((i : Int) < (m : Int)) = True := by simp; omega
    have c2 : ((i : Int) < (sh.length : Int)) = True := by simp; omega
    have hw1 := wrap_i64 (z := (i : Int) + 1) (by omega) (by omega)
    simp only [RT, FS, ↓RE, okR, argEnv, Nat.reduceAdd, Nat.reduceSub, Nat.reduceLT, Nat.reduceLeDiff, Nat.reduceEqDiff, reduceIte, RM, List.length_map, hbl, c1, c2, decide_true]
    refine call_of_pure' (pa i) (by simp [D.ltL, D.lt]) (by simp [D.lt]) ?_
    simp only [RT, FS, ↓RE, okR, argEnv, Nat.reduceAdd, Nat.reduceSub, Nat.reduceLT, Nat.reduceLeDiff, Nat.reduceEqDiff, reduceIte, RM, hw1]
    exact ⟨i + 1, by omega, by omega, by simp [headW, heapW, envW, blkLt, D.ltL, D.lt, look, hget, shD]⟩
  · have hi : i = min m sh.length := by omega
    subst hi
    have hend : ∀ (s : St), look s.env 7 = shD (boolsF sh.length (I (min m sh.length))) → True := fun _ _ => trivial
    by_cases c0 : min m sh.length < m
    · have c1 : (((min m sh.length : Nat) : Int) < (m : Int)) = True := by simp; omega
      have c2 : (((min m sh.length : Nat) : Int) < (sh.length : Int)) = False := by simp; omega
      simp only [RT, FS, ↓RE, okR, argEnv, Nat.reduceAdd, Nat.reduceSub, Nat.reduceLT, Nat.reduceLeDiff, Nat.reduceEqDiff, reduceIte, RM, List.length_map, hbl, c1, c2, decide_true, decide_false]
      refine awp_rest (T := []) oNone_ok (by kernel_rfl) (by kernel_rfl) ?_
      simp only [RT, FS, ↓RE, okR, argEnv, Nat.reduceAdd, Nat.reduceSub, Nat.reduceLT, Nat.reduceLeDiff, Nat.reduceEqDiff, reduceIte, RM]
      refine call_of_pure' (pc (I (min m sh.length))) (by simp [D.ltL, D.lt]) (by simp [D.lt]) ?_
      simp only [RT, FS, ↓RE, okR, argEnv, Nat.reduceAdd, Nat.reduceSub, Nat.reduceLT, Nat.reduceLeDiff, Nat.reduceEqDiff, reduceIte, RM]
    · have c1 : (((min m sh.length : Nat) : Int) < (m : Int)) = False := by simp; omega
      simp only [RT, FS, ↓RE, okR, argEnv, Nat.reduceAdd, Nat.reduceSub, Nat.reduceLT, Nat.reduceLeDiff, Nat.reduceEqDiff, reduceIte, RM, List.length_map, hbl, c1, decide_true, decide_false]
      refine awp_rest (T := []) oNone_ok (by kernel_rfl) (by kernel_rfl) ?_
      simp only [RT, FS, ↓RE, okR, argEnv, Nat.reduceAdd, Nat.reduceSub, Nat.reduceLT, Nat.reduceLeDiff, Nat.reduceEqDiff, reduceIte, RM]
      refine call_of_pure' (pc (I (min m sh.length))) (by simp [D.ltL, D.lt]) (by simp [D.lt]) ?_
      simp only [RT, FS, ↓RE, okR, argEnv, Nat.reduceAdd, Nat.reduceSub, Nat.reduceLT, Nat.reduceLeDiff, Nat.reduceEqDiff, reduceIte, RM]
end Go.Sx
