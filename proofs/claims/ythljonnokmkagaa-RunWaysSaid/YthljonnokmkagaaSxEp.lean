/- Own work: a calculus of contracts for the programs of this kit: parts SxE87r, SxE88r. -/
import Derived.Test.YthljonnokmkagaaSxEo
set_option linter.unusedVariables false
set_option linter.unusedSimpArgs false
namespace Go.Sx
open Go.Proofs
set_option maxRecDepth 10000

theorem awp_seqE {P : Program} {n0 n nid : Nat} {ro : Option Nat} {ι : Type} {x y : Code} {s : St} {Q : Ex → St → Prop} (E : ι → Env) (V : ι → H) (I : ι → Prop)
    (h : AWp P n0 ro x s (thenQ (fun s' => ∃ i, I i ∧ headW n0 s' (E i) (V i) nid n) Q)) (h2 : ∀ i, I i → AWp P n0 ro y ⟨E i, V i, nid, n⟩ Q) : AWp P n0 ro (.seq x y) s Q :=
  awp_seq (awp_mono h fun e s' h' => by
    cases e with
    | normal => obtain ⟨i, hi, hw⟩ := h'; exact awp_weak (weak_of hw) (h2 i hi)
    | exit => exact h'
    | ret => exact h')
/-! Ways of all cells, as data -/
def wD : Option (List Int) → D
  | none => .nils
  | some p => .sl (intL p)
def wsD (l : List (Option (List Int))) : List (List D) := l.map fun o => [wD o]
theorem wsD_len (l : List (Option (List Int))) : (wsD l).length = l.length := by simp [wsD]
theorem oW_len {h : H} {b n : Nat} {l : List (Option (List Int))} (hb : hget h b = some (.arr 25 1 (wsD l))) (hn : l.length = n) : lenOpD Try.prog h 110 (.osl b n) = some (.int .i64 n) :=
  own_len Fz.und_110 hb (by rw [wsD_len, hn])
theorem oW_ix {h : H} {b n : Nat} {l : List (Option (List Int))} (hb : hget h b = some (.arr 25 1 (wsD l))) (hn : l.length = n) {i : Nat} (hi : i < n) : indexAddrD Try.prog h 110 (.osl b n) (.int .i64 (i : Int)) = some (.eptr b n 1 i 0) :=
  own_ix Fz.und_110 Fz.size_25 hb (by rw [wsD_len, hn]) hi .i64
theorem oW_load {h : H} {b n : Nat} {l : List (Option (List Int))} (hb : hget h b = some (.arr 25 1 (wsD l))) (hn : l.length = n) {i : Nat} (hi : i < n) : loadAtD Try.prog h 25 (.eptr b n 1 i 0) = some (wD ((l[i]?).getD none)) := by
  obtain ⟨o, ho⟩ : ∃ o, l[i]? = some o := ⟨l[i], by simp [hn, hi]⟩
  rw [own_load hb (by rw [wsD_len, hn]) (show (wsD l)[i]? = some [wD o] by simp [wsD, ho]) 0, ho]
  exact loadD_one Fz.agg_25 Fz.size_25 _ _ |>.trans rfl
theorem oW_store {h : H} {b n : Nat} {l : List (Option (List Int))} (hb : hget h b = some (.arr 25 1 (wsD l))) (hn : l.length = n) {i : Nat} (hi : i < n) (nid : Nat) (p : List Int) :
    storeD Try.prog h nid 25 (.eptr b n 1 i 0) (.sl (intL p)) = some (.any, hset h b (.arr 25 1 (wsD (l.set i (some p)))), nid) := by
  obtain ⟨o, ho⟩ : ∃ o, l[i]? = some o := ⟨l[i], by simp [hn, hi]⟩
  rw [own_store hb (by rw [wsD_len, hn]) (show (wsD l)[i]? = some [wD o] by simp [wsD, ho]) 0 nid Fz.size_25 (x := .sl (intL p)) (ds := [.sl (intL p)]) rfl rfl (by omega) rfl (by simp [D.ltL, D.lt])]
  simp [putL, wsD, wD, List.map_set]
theorem make_w (h : H) (nid n : Nat) (hn : n ≤ 1000) : makeD Try.prog h nid 110 (.int .i64 (n : Int)) (.int .i64 (n : Int)) = some (.osl nid n, (nid, .arr 25 1 (wsD (List.replicate n none))) :: h, nid + 1) := by
  have h1 : n ≤ 1125899906842624 := by omega
  have hb : Try.prog.bytesOf 25 = 24 := by kernel_rfl
  have h2 : n * 24 ≤ 140737488355328 := by omega
  simp [makeD, Fz.und_110, Fz.size_25, Fz.zero_25, hb, h1, h2, wsD, wD]
  omega
theorem path_ub {al : Int → Bool} {L : Int → List Stp} : ∀ {p : List Int} {v : Cst}, PathC al L p v → v.len ≤ 14 * (v.cells - 1)
  | [x], v, h => by rw [h.2]; simp
  | x :: y :: r, v, h => by
    obtain ⟨_, s, _, _, u, hu, rfl⟩ := h
    have := path_ub hu
    have := lenS_b s.dx s.dy
    simp only [addC]; omega
theorem Wk.ub {al : Int → Bool} {L : Int → List Stp} {frm : Int} {p : List Int} {m k : Int} (h : Wk al L frm p m k) : 0 ≤ m ∧ m ≤ 14 * ((p.length : Int) - 1) := by
  obtain ⟨r, rfl, h1, _⟩ := h
  exact ⟨(path_pos h1).1, path_ub h1⟩
def BestD (l : LandM) (nd : List Int) (frm to h : Int) : D := match mget (farA (allowB l nd h) (stepsL l.wide l.deep) to) frm with
  | none => .tup [.nils, .int .i64 0]
  | some v => .tup [.sl (intL (alongA (farA (allowB l nd h) (stepsL l.wide l.deep) to) (stepsL l.wide l.deep) frm to)), .int .i64 v.len]
def stpW (l : LandM) (j v : Nat) : Option Stp := wayAt l (j : Int) v
set_option maxHeartbeats 8000000 in
theorem ref3_Best_t (l : LandM) (hl : LandOk l) (nd : List Int) (hnd : nd.length = l.ground.length) (frm to : Nat) (hf : frm < l.ground.length) (ht : to < l.ground.length) (h : Int) :
    Pure Try.prog 61 [.agg l.c, .sl (intL nd), .int .i64 (frm : Int), .int .i64 (to : Int), .int .i64 h] (BestD l nd frm to h) := by
  have hnet := net_steps hl
  have hfr : (0 : Int) ≤ (frm : Int) ∧ (frm : Int) < (l.ground.length : Int) := by omega
  have htr : (0 : Int) ≤ (to : Int) ∧ (to : Int) < (l.ground.length : Int) := by omega
  have oF := fun (x : Int) (hx : cellI l x) => gFree_eq hl hnd hx h
  have oN := fun (i w : Nat) (hi : i < l.ground.length) (hw : w < 8) => gNext_eq hl (cell := (i : Int)) (way_rI hw) ⟨by omega, by omega⟩
  have hsm := hl.small
  have hmem : ∀ j, j < l.ground.length → ∀ s, s ∈ stepsL l.wide l.deep j ↔ ∃ v, v < 8 ∧ stpW l j v = some s := fun j hj s => by
    rw [← mem_ways hl.wide.1]
    simp [waysN, List.mem_filterMap, stpW]
  have mkW := fun h nid => make_w h nid l.ground.length (by omega)
  have mkI := fun h nid => make_int h nid l.ground.length (by omega)
  have hlc : l.c = [.int .i64 l.wide, .int .i64 l.deep, .sl (intL l.ground), .sl (boolL l.water), .int .i64 l.clear] := rfl
  have oFf := oF (frm : Int) (by unfold cellI; omega)
  have oFt := oF (to : Int) (by unfold cellI; omega)
  rw [hlc] at oFf oFt
  simp only [hlc] at oF oN
  unfold BestD
  refine pure_of_pieces (rs := [.tmp 10, .tmp 11]) (m := 130) [(17, [(16, false, true, [(9, 12), (5, 12), (5, 9), (4, 12), (4, 9)]), (1, false, false, [])]), (18, [(19, false, false, [])]), (20, [(10, false, false, [])])] nI_ok (by kernel_rfl) Try.func61 rfl (by kernel_rfl) rfl rfl (by kernel_rfl) ?_
  refine awp_peel (T := [(17, [(16, false, true, [(9, 12), (5, 12), (5, 9), (4, 12), (4, 9)]), (1, false, false, [])]), (18, [(19, false, false, [])]), (20, [(10, false, false, [])])]) nI_ok (by kernel_rfl) (by kernel_rfl) ?_
  rw [hlc]
  simp only [RT, FS, ↓RE, okR, argEnv, Nat.reduceAdd, Nat.reduceSub, Nat.reduceLT, Nat.reduceLeDiff, Nat.reduceEqDiff, reduceIte, RM]
  refine awp_peel (T := [(17, [(16, false, true, [(9, 12), (5, 12), (5, 9), (4, 12), (4, 9)]), (1, false, false, [])]), (18, [(19, false, false, [])]), (20, [(10, false, false, [])])]) nI_ok (by kernel_rfl) (by kernel_rfl) ?_
  simp only [RT, FS, ↓RE, okR, argEnv, Nat.reduceAdd, Nat.reduceSub, Nat.reduceLT, Nat.reduceLeDiff, Nat.reduceEqDiff, reduceIte, RM, intL_len, mkW]
  refine awp_peel (T := [(17, [(16, false, true, [(9, 12), (5, 12), (5, 9), (4, 12), (4, 9)]), (1, false, false, [])]), (18, [(19, false, false, [])]), (20, [(10, false, false, [])])]) nI_ok (by kernel_rfl) (by kernel_rfl) ?_
  simp only [RT, FS, ↓RE, okR, argEnv, Nat.reduceAdd, Nat.reduceSub, Nat.reduceLT, Nat.reduceLeDiff, Nat.reduceEqDiff, reduceIte, RM, intL_len, mkI]
  refine awp_peel (T := [(17, [(16, false, true, [(9, 12), (5, 12), (5, 9), (4, 12), (4, 9)]), (1, false, false, [])]), (18, [(19, false, false, [])]), (20, [(10, false, false, [])])]) nI_ok (by kernel_rfl) (by kernel_rfl) ?_
  have hnone : ∀ {k : Nat}, k < l.ground.length → (∀ p m, ¬Wk (allowB l nd h) (stepsL l.wide l.deep) frm p m (k : Int)) → mget (farA (allowB l nd h) (stepsL l.wide l.deep) k) frm = none := fun {k} hk hno => by
    cases hm : mget (farA (allowB l nd h) (stepsL l.wide l.deep) k) frm with
    | none => rfl
    | some v => exact absurd (oq_some hnet hfr ⟨by omega, by omega⟩ hm).1.1 (hno _ _)
  cases af : allowB l nd h frm
  · rw [af] at oFf
    simp only [RT, FS, ↓RE, okR, argEnv, Nat.reduceAdd, Nat.reduceSub, Nat.reduceLT, Nat.reduceLeDiff, Nat.reduceEqDiff, reduceIte, RM, oFf]
    rw [hnone ht fun p m ⟨r, e, h1, _⟩ => by subst e; rw [path_al h1 frm (by simp)] at af; cases af]
  rw [af] at oFf
  cases at_ : allowB l nd h to
  · rw [at_] at oFt
    simp only [RT, FS, ↓RE, okR, argEnv, Nat.reduceAdd, Nat.reduceSub, Nat.reduceLT, Nat.reduceLeDiff, Nat.reduceEqDiff, reduceIte, RM, oFf, oFt]
    rw [hnone ht fun p m hw => by rw [hw.fine] at at_; cases at_]
  rw [at_] at oFt
  simp only [RT, FS, ↓RE, okR, argEnv, Nat.reduceAdd, Nat.reduceSub, Nat.reduceLT, Nat.reduceLeDiff, Nat.reduceEqDiff, reduceIte, RM, oFf, oFt]
  clear hnone oFf oFt
  have hfin : ∀ S : BSt, BInv l.ground.length (allowB l nd h) (stepsL l.wide l.deep) frm S → (∀ (k : Nat) p m, Oq (allowB l nd h) (stepsL l.wide l.deep) frm p m (k : Int) → S.w k = some p ∧ nAt S.ls k = m) →
      D.tup [wD (S.w to), .int .i64 (nAt S.ls to)] = (match mget (farA (allowB l nd h) (stepsL l.wide l.deep) to) frm with
        | none => .tup [.nils, .int .i64 0]
        | some v => .tup [.sl (intL (alongA (farA (allowB l nd h) (stepsL l.wide l.deep) to) (stepsL l.wide l.deep) frm to)), .int .i64 v.len]) := fun S hS hf => by
    cases hm : mget (farA (allowB l nd h) (stepsL l.wide l.deep) to) frm with
    | none =>
      cases hw : S.w to with
      | none => rw [hS.zero to hw]; rfl
      | some p => exact absurd (hS.walk to p hw) (oq_none hnet hfr htr hm)
    | some v =>
      obtain ⟨h1, h2⟩ := hf to _ _ (oq_some hnet hfr htr hm).1
      rw [h1, h2]; rfl
  generalize (match mget (farA (allowB l nd h) (stepsL l.wide l.deep) to) frm with
        | none => D.tup [.nils, .int .i64 0]
        | some v => .tup [.sl (intL (alongA (farA (allowB l nd h) (stepsL l.wide l.deep) to) (stepsL l.wide l.deep) frm to)), .int .i64 v.len]) = RES at *
  generalize hAL : allowB l nd h = al at *
  generalize hLL : stepsL l.wide l.deep = L at *
  -- the beginning
  obtain ⟨S0, hS0⟩ : ∃ S0 : BSt, S0 = ⟨(List.replicate l.ground.length none).set frm (some [(frm : Int)]), List.replicate l.ground.length 0⟩ := ⟨_, rfl⟩
  have hw0 : ∀ k, S0.w k = if k = frm then some [(frm : Int)] else none := fun k => by
    subst hS0
    simp only [BSt.w, List.getElem?_set, List.length_replicate, List.getElem?_replicate]
    by_cases hk : k = frm
    · subst hk; simp [hf]
    · have : ¬frm = k := fun e => hk e.symm
      simp only [this, if_false, hk]
      split <;> rfl
  have hl0 : ∀ k, nAt S0.ls k = 0 := fun k => by
    subst hS0
    simp only [nAt, List.getElem?_replicate]
    split <;> rfl
  have hB0 : BInv l.ground.length al L frm S0 := ⟨by simp [hS0], by simp [hS0], fun k p hp => by
      rw [hw0] at hp
      by_cases e : k = frm
      · subst e
        rw [if_pos rfl] at hp
        cases hp; rw [hl0]; exact Wk.one af
      · rw [if_neg e] at hp
        exact absurd hp (by simp), ⟨by rw [hw0, if_pos rfl], hl0 _⟩, fun k _ => hl0 k⟩
  have hlen0 : ∀ (k : Nat) p, S0.w k = some p → p.length ≤ 1 := fun k p hp => by
    rw [hw0] at hp
    split at hp
    · cases hp; simp
    · cases hp
  have i1 := fun h (hb : hget h 1 = some (.arr 25 1 (wsD (List.replicate l.ground.length none)))) => oW_ix (n := l.ground.length) hb (by simp) hf
  have s1 := fun h nid (hb : hget h 1 = some (.arr 25 1 (wsD (List.replicate l.ground.length none)))) => oW_store (n := l.ground.length) hb (by simp) hf nid [(frm : Int)]
  refine awp_seq (awp_region (aops_cut (m := 3) nI_ok rfl rfl ?_))
  simp only [RT, FS, ↓RE, okR, argEnv, Nat.reduceAdd, Nat.reduceSub, Nat.reduceLT, Nat.reduceLeDiff, Nat.reduceEqDiff, reduceIte, RM, List.take_succ_cons, List.take_zero, List.drop_succ_cons, List.drop_zero]
  refine opOk_lit rfl (litD_1 _ (frm : Int)) ?_
  simp only [RT, FS, ↓RE, okR, argEnv, Nat.reduceAdd, Nat.reduceSub, Nat.reduceLT, Nat.reduceLeDiff, Nat.reduceEqDiff, reduceIte, RM, i1, s1]
  refine awp_peel (T := [(17, [(16, false, true, [(9, 12), (5, 12), (5, 9), (4, 12), (4, 9)]), (1, false, false, [])]), (18, [(19, false, false, [])]), (20, [(10, false, false, [])])]) nI_ok (by kernel_rfl) (by kernel_rfl) ?_
  simp only [RT, FS, ↓RE, okR, argEnv, Nat.reduceAdd, Nat.reduceSub, Nat.reduceLT, Nat.reduceLeDiff, Nat.reduceEqDiff, reduceIte, RM]
  have hUB : ∀ S : BSt, unB l.ground.length al L frm S ≤ l.ground.length := fun S => by
    have h1 := List.length_filter_le (fun (k : Nat) => (open Classical in decide ((∃ q m, Wk al L frm q m (k : Int)) ∧ ¬OptB al L frm S k))) (List.range l.ground.length)
    unfold unB
    simpa using h1
  refine awp_seqE (ι := BSt) (nid := 3) (n := 130) (fun S => [(3, .int .i64 (to : Int)), (12, .osl 1 l.ground.length), (13, .osl 2 l.ground.length)]) (fun S => [(2, .arr 3 1 (intL S.ls)), (1, .arr 25 1 (wsD S.ws)), (0, .box l.c)])
    (fun S => BInv l.ground.length al L frm S ∧ ∀ (k : Nat) p m, Oq al L frm p m (k : Int) → S.w k = some p ∧ nAt S.ls k = m) ?_ ?_
  rotate_left
  · rintro S ⟨hS, hf⟩
    have hr := hfin S hS hf
    have i1 := fun h (hb : hget h 1 = some (.arr 25 1 (wsD S.ws))) => oW_ix (n := l.ground.length) hb hS.n1 ht
    have l1 := fun h (hb : hget h 1 = some (.arr 25 1 (wsD S.ws))) => oW_load (n := l.ground.length) hb hS.n1 ht
    have i2 := fun h (hb : hget h 2 = some (.arr 3 1 (intL S.ls))) => oI_ix (n := l.ground.length) hb hS.n2 ht
    have l2 := fun h (hb : hget h 2 = some (.arr 3 1 (intL S.ls))) => oI_load (n := l.ground.length) hb hS.n2 (nAt_get (by rw [hS.n2]; exact ht))
    have e1 : (S.ws[to]?).getD none = S.w to := rfl
    rw [e1] at l1
    refine awp_rest (T := [(17, [(16, false, true, [(9, 12), (5, 12), (5, 9), (4, 12), (4, 9)]), (1, false, false, [])]), (18, [(19, false, false, [])]), (20, [(10, false, false, [])])]) nI_ok (by kernel_rfl) (by kernel_rfl) ?_
    cases hw : S.w to with
    | none =>
      rw [hw] at hr l1
      simp only [wD] at hr l1
      simp only [RT, FS, ↓RE, okR, argEnv, Nat.reduceAdd, Nat.reduceSub, Nat.reduceLT, Nat.reduceLeDiff, Nat.reduceEqDiff, reduceIte, RM, i1, l1, i2, l2]
      exact hr
    | some p =>
      rw [hw] at hr l1
      simp only [wD] at hr l1
      simp only [RT, FS, ↓RE, okR, argEnv, Nat.reduceAdd, Nat.reduceSub, Nat.reduceLT, Nat.reduceLeDiff, Nat.reduceEqDiff, reduceIte, RM, i1, l1, i2, l2]
      exact hr
  refine awp_block (awp_loopH (ι := BSt × Bool) (fun s => [(1, .sl (intL nd)), (3, .int .i64 (to : Int)), (4, .int .i64 h), (5, .ptr 0 0), (12, .osl 1 l.ground.length), (13, .osl 2 l.ground.length), (14, .bool s.2)]) (fun s => [(2, .arr 3 1 (intL s.1.ls)), (1, .arr 25 1 (wsD s.1.ws)), (0, .box l.c)]) 3
    (fun s => BInv l.ground.length al L frm s.1 ∧ (∀ (k : Nat) p, s.1.w k = some p → p.length ≤ 1 + 8 * l.ground.length * (l.ground.length - unB l.ground.length al L frm s.1)) ∧ (s.2 = false → ∀ (k : Nat) p m, Oq al L frm p m (k : Int) → s.1.w k = some p ∧ nAt s.1.ls k = m))
    (fun s => 2 * unB l.ground.length al L frm s.1 + (if s.2 = true then 1 else 0)) (S0, true) ⟨hB0, fun k p hp => by have := hlen0 k p hp; omega, fun h => by cases h⟩ ?_ ?_)
  · subst hS0
    simp [headW, heapW, envW, blkLt, D.ltL, D.lt, look, hget, Sx.hset, hlc]
  rintro ⟨S, ch⟩ ⟨hS, hlen, hfx⟩
  dsimp only at hS hlen hfx ⊢
  refine awp_peel (T := [(17, [(16, false, true, [(9, 12), (5, 12), (5, 9), (4, 12), (4, 9)]), (1, false, false, [])]), (18, [(19, false, false, [])]), (20, [(10, false, false, [])])]) nI_ok (by kernel_rfl) (by kernel_rfl) ?_
  cases ch
  · simp only [RT, FS, ↓RE, okR, argEnv, Nat.reduceAdd, Nat.reduceSub, Nat.reduceLT, Nat.reduceLeDiff, Nat.reduceEqDiff, reduceIte, RM]
    refine ⟨S, ⟨hS, hfx rfl⟩, ?_⟩
    simp [headW, heapW, envW, blkLt, D.ltL, D.lt, look, hget, Sx.hset, hlc]
  simp only [RT, FS, ↓RE, okR, argEnv, Nat.reduceAdd, Nat.reduceSub, Nat.reduceLT, Nat.reduceLeDiff, Nat.reduceEqDiff, reduceIte, RM]
  refine awp_block ?_
  refine awp_peel (T := [(17, [(16, false, true, [(9, 12), (5, 12), (5, 9), (4, 12), (4, 9)]), (1, false, false, [])]), (18, [(19, false, false, [])]), (20, [(10, false, false, [])])]) nI_ok (by kernel_rfl) (by kernel_rfl) ?_
  simp only [RT, FS, ↓RE, okR, argEnv, Nat.reduceAdd, Nat.reduceSub, Nat.reduceLT, Nat.reduceLeDiff, Nat.reduceEqDiff, reduceIte, RM]
  have hst0 := sw_start (al := al) (L := L) (stp := stpW l) hS hlen
  have hB1 : 1 + 8 * l.ground.length * (l.ground.length - unB l.ground.length al L frm S) + (8 * l.ground.length + 8) ≤ 500000 := by
    have h1 : 8 * l.ground.length * (l.ground.length - unB l.ground.length al L frm S) ≤ 8 * 144 * 144 := Nat.mul_le_mul (by omega) (by omega)
    omega
  have hend : ∀ (S1 : BSt) (c1 : Bool), SwInv l.ground.length al L frm (stpW l) (1 + 8 * l.ground.length * (l.ground.length - unB l.ground.length al L frm S)) S l.ground.length 0 S1 c1 →
      (BInv l.ground.length al L frm S1 ∧ (∀ (k : Nat) p, S1.w k = some p → p.length ≤ 1 + 8 * l.ground.length * (l.ground.length - unB l.ground.length al L frm S1)) ∧ (c1 = false → ∀ (k : Nat) p m, Oq al L frm p m (k : Int) → S1.w k = some p ∧ nAt S1.ls k = m)) ∧
      2 * unB l.ground.length al L frm S1 + (if c1 = true then 1 else 0) < 2 * unB l.ground.length al L frm S + 1 := fun S1 c1 hsw => by
    have he := sw_end hnet hf hmem hsw
    cases c1
    · obtain ⟨e, _⟩ := hsw.fix rfl
      refine ⟨⟨hsw.b, ?_, he.1⟩, by rw [e]; simp⟩
      rw [e]; exact hlen
    · have hlt := un_lt hsw.keep (he.2 rfl)
      refine ⟨⟨hsw.b, fun k p hp => ?_, fun h => by cases h⟩, by simp; omega⟩
      have h1 := hsw.len k p hp
      have h2 := hUB S
      have h3 : 8 * l.ground.length * (l.ground.length - unB l.ground.length al L frm S) + 8 * l.ground.length ≤ 8 * l.ground.length * (l.ground.length - unB l.ground.length al L frm S1) := by
        rw [← Nat.mul_succ]
        exact Nat.mul_le_mul_left _ (by omega)
      omega
  generalize 1 + 8 * l.ground.length * (l.ground.length - unB l.ground.length al L frm S) = B0 at *
  refine awp_headW [(1, .sl (intL nd)), (3, .int .i64 (to : Int)), (4, .int .i64 h), (5, .ptr 0 0), (12, .osl 1 l.ground.length), (13, .osl 2 l.ground.length), (14, .bool false)] [(2, .arr 3 1 (intL S.ls)), (1, .arr 25 1 (wsD S.ws)), (0, .box l.c)] 3 130 (by simp [headW, heapW, envW, blkLt, D.ltL, D.lt, look, hget, Sx.hset, hlc]) ?_
  refine awp_peel (T := [(17, [(16, false, true, [(9, 12), (5, 12), (5, 9), (4, 12), (4, 9)]), (1, false, false, [])]), (18, [(19, false, false, [])]), (20, [(10, false, false, [])])]) nI_ok (by kernel_rfl) (by kernel_rfl) ?_
  simp only [RT, FS, ↓RE, okR, argEnv, Nat.reduceAdd, Nat.reduceSub, Nat.reduceLT, Nat.reduceLeDiff, Nat.reduceEqDiff, reduceIte, RM]
  refine awp_block (awp_loopH (ι := BSt × Bool × Nat) (fun s => [(1, .sl (intL nd)), (3, .int .i64 (to : Int)), (4, .int .i64 h), (5, .ptr 0 0), (12, .osl 1 l.ground.length), (13, .osl 2 l.ground.length), (14, .bool s.2.1), (15, .int .i64 (s.2.2 : Int))]) (fun s => [(2, .arr 3 1 (intL s.1.ls)), (1, .arr 25 1 (wsD s.1.ws)), (0, .box l.c)]) 3
    (fun s => s.2.2 ≤ l.ground.length ∧ SwInv l.ground.length al L frm (stpW l) B0 S s.2.2 0 s.1 s.2.1) (fun s => l.ground.length - s.2.2) (S, false, 0) ⟨Nat.zero_le _, hst0⟩ ?_ ?_)
  · simp [headW, heapW, envW, blkLt, D.ltL, D.lt, look, hget, Sx.hset, hlc]
  rintro ⟨S1, c1, i⟩ ⟨hi, hsw⟩
  dsimp only at hi hsw ⊢
  have oL := fun h (hb : hget h 1 = some (.arr 25 1 (wsD S1.ws))) => oW_len (n := l.ground.length) hb hsw.b.n1
  refine awp_peel (T := [(17, [(16, false, true, [(9, 12), (5, 12), (5, 9), (4, 12), (4, 9)]), (1, false, false, [])]), (18, [(19, false, false, [])]), (20, [(10, false, false, [])])]) nI_ok (by kernel_rfl) (by kernel_rfl) ?_
  rcases Nat.lt_or_ge i l.ground.length with hlt | hge
  rotate_left
  · have hq : ((i : Int) < (l.ground.length : Int)) = False := by simp; omega
    simp only [RT, FS, ↓RE, okR, argEnv, Nat.reduceAdd, Nat.reduceSub, Nat.reduceLT, Nat.reduceLeDiff, Nat.reduceEqDiff, reduceIte, RM, oL, hq, decide_false]
    have hie : i = l.ground.length := by omega
    rw [hie] at hsw
    obtain ⟨h1, h2⟩ := hend S1 c1 hsw
    refine ⟨(S1, c1), h1, h2, ?_⟩
    simp [headW, heapW, envW, blkLt, D.ltL, D.lt, look, hget, Sx.hset, hlc]
  have hq : ((i : Int) < (l.ground.length : Int)) = True := by simp [hlt]
  simp only [RT, FS, ↓RE, okR, argEnv, Nat.reduceAdd, Nat.reduceSub, Nat.reduceLT, Nat.reduceLeDiff, Nat.reduceEqDiff, reduceIte, RM, oL, hq, decide_true]
  refine awp_seqE (ι := BSt × Bool) (nid := 3) (n := 130) (fun s => [(1, .sl (intL nd)), (3, .int .i64 (to : Int)), (4, .int .i64 h), (5, .ptr 0 0), (12, .osl 1 l.ground.length), (13, .osl 2 l.ground.length), (14, .bool s.2), (15, .int .i64 (i : Int))]) (fun s => [(2, .arr 3 1 (intL s.1.ls)), (1, .arr 25 1 (wsD s.1.ws)), (0, .box l.c)]) (fun s => SwInv l.ground.length al L frm (stpW l) B0 S (i + 1) 0 s.1 s.2) ?_ ?_
  rotate_left
  · rintro ⟨S2, c2⟩ hsw2
    dsimp only at hsw2 ⊢
    have wi := wrap_i64 (z := (i : Int) + 1) (by omega) (by omega)
    refine awp_rest (T := [(17, [(16, false, true, [(9, 12), (5, 12), (5, 9), (4, 12), (4, 9)]), (1, false, false, [])]), (18, [(19, false, false, [])]), (20, [(10, false, false, [])])]) nI_ok (by kernel_rfl) (by kernel_rfl) ?_
    simp only [RT, FS, ↓RE, okR, argEnv, Nat.reduceAdd, Nat.reduceSub, Nat.reduceLT, Nat.reduceLeDiff, Nat.reduceEqDiff, reduceIte, RM, wi]
    refine ⟨(S2, c2, i + 1), ⟨by simp only; omega, hsw2⟩, by simp only; omega, ?_⟩
    simp [headW, heapW, envW, blkLt, D.ltL, D.lt, look, hget, Sx.hset, hlc]
  refine awp_block ?_
  refine awp_peel (T := [(17, [(16, false, true, [(9, 12), (5, 12), (5, 9), (4, 12), (4, 9)]), (1, false, false, [])]), (18, [(19, false, false, [])]), (20, [(10, false, false, [])])]) nI_ok (by kernel_rfl) (by kernel_rfl) ?_
  simp only [RT, FS, ↓RE, okR, argEnv, Nat.reduceAdd, Nat.reduceSub, Nat.reduceLT, Nat.reduceLeDiff, Nat.reduceEqDiff, reduceIte, RM]
  refine awp_block (awp_loopH (ι := BSt × Bool × Nat) (fun s => [(1, .sl (intL nd)), (3, .int .i64 (to : Int)), (4, .int .i64 h), (5, .ptr 0 0), (12, .osl 1 l.ground.length), (13, .osl 2 l.ground.length), (14, .bool s.2.1), (15, .int .i64 (i : Int)), (16, .int .i64 ((s.2.2 : Int) + 1))]) (fun s => [(2, .arr 3 1 (intL s.1.ls)), (1, .arr 25 1 (wsD s.1.ws)), (0, .box l.c)]) 3
    (fun s => s.2.2 ≤ 8 ∧ SwInv l.ground.length al L frm (stpW l) B0 S i s.2.2 s.1 s.2.1) (fun s => 8 - s.2.2) (S1, c1, 0) ⟨Nat.zero_le _, hsw⟩ ?_ ?_)
  · simp [headW, heapW, envW, blkLt, D.ltL, D.lt, look, hget, Sx.hset, hlc]
  rintro ⟨S2, c2, w⟩ ⟨hw, hs2⟩
  dsimp only at hw hs2 ⊢
  refine awp_peel (T := [(17, [(16, false, true, [(9, 12), (5, 12), (5, 9), (4, 12), (4, 9)]), (1, false, false, [])]), (18, [(19, false, false, [])]), (20, [(10, false, false, [])])]) nI_ok (by kernel_rfl) (by kernel_rfl) ?_
  rcases Nat.lt_or_ge w 8 with hwl | hwg
  rotate_left
  · have hq : (((w : Int) + 1) ≤ 8) = False := by simp; omega
    simp only [RT, FS, ↓RE, okR, argEnv, Nat.reduceAdd, Nat.reduceSub, Nat.reduceLT, Nat.reduceLeDiff, Nat.reduceEqDiff, reduceIte, RM, hq, decide_false]
    have hwe : w = 8 := by omega
    subst hwe
    refine ⟨(S2, c2), sw_next hs2, ?_⟩
    simp [headW, heapW, envW, blkLt, D.ltL, D.lt, look, hget, Sx.hset, hlc]
  have hq : (((w : Int) + 1) ≤ 8) = True := by simp; omega
  simp only [RT, FS, ↓RE, okR, argEnv, Nat.reduceAdd, Nat.reduceSub, Nat.reduceLT, Nat.reduceLeDiff, Nat.reduceEqDiff, reduceIte, RM, hq, decide_true]
  refine awp_seqE (ι := BSt × Bool) (nid := 3) (n := 130) (fun s => [(1, .sl (intL nd)), (3, .int .i64 (to : Int)), (4, .int .i64 h), (5, .ptr 0 0), (12, .osl 1 l.ground.length), (13, .osl 2 l.ground.length), (14, .bool s.2), (15, .int .i64 (i : Int)), (16, .int .i64 ((w : Int) + 1))]) (fun s => [(2, .arr 3 1 (intL s.1.ls)), (1, .arr 25 1 (wsD s.1.ws)), (0, .box l.c)]) (fun s => SwInv l.ground.length al L frm (stpW l) B0 S i (w + 1) s.1 s.2) ?_ ?_
  rotate_left
  · rintro ⟨S3, c3⟩ hs3
    dsimp only at hs3 ⊢
    have wi : IntKind.i64.wrap ((w : Int) + 1 + 1) = ((w + 1 : Nat) : Int) + 1 := by rw [wrap_i64 (by omega) (by omega)]; omega
    refine awp_rest (T := [(17, [(16, false, true, [(9, 12), (5, 12), (5, 9), (4, 12), (4, 9)]), (1, false, false, [])]), (18, [(19, false, false, [])]), (20, [(10, false, false, [])])]) nI_ok (by kernel_rfl) (by kernel_rfl) ?_
    simp only [RT, FS, ↓RE, okR, argEnv, Nat.reduceAdd, Nat.reduceSub, Nat.reduceLT, Nat.reduceLeDiff, Nat.reduceEqDiff, reduceIte, RM, wi]
    refine ⟨(S3, c3, w + 1), ⟨by simp only; omega, hs3⟩, by simp only; omega, ?_⟩
    simp [headW, heapW, envW, blkLt, D.ltL, D.lt, look, hget, Sx.hset, hlc]
  -- one direction
  have hb2 := hs2.b
  have oNi := oN i w hlt hwl
  have iW := fun h (hb : hget h 1 = some (.arr 25 1 (wsD S2.ws))) => oW_ix (n := l.ground.length) hb hb2.n1 hlt
  have lW := fun h (hb : hget h 1 = some (.arr 25 1 (wsD S2.ws))) => oW_load (n := l.ground.length) hb hb2.n1 hlt
  have eW : (S2.ws[i]?).getD none = S2.w i := rfl
  rw [eW] at lW
  refine awp_block ?_
  refine awp_peel (T := [(17, [(16, false, true, [(9, 12), (5, 12), (5, 9), (4, 12), (4, 9)]), (1, false, false, [])]), (18, [(19, false, false, [])]), (20, [(10, false, false, [])])]) nI_ok (by kernel_rfl) (by kernel_rfl) ?_
  simp only [RT, FS, ↓RE, okR, argEnv, Nat.reduceAdd, Nat.reduceSub, Nat.reduceLT, Nat.reduceLeDiff, Nat.reduceEqDiff, reduceIte, RM, hlc, oNi]
  refine awp_peel (T := [(17, [(16, false, true, [(9, 12), (5, 12), (5, 9), (4, 12), (4, 9)]), (1, false, false, [])]), (18, [(19, false, false, [])]), (20, [(10, false, false, [])])]) nI_ok (by kernel_rfl) (by kernel_rfl) ?_
  cases hwi : S2.w i with
  | none =>
    rw [hwi] at lW
    simp only [wD] at lW
    have hz0 : ((0 : Int) == 0) = true := rfl
    simp only [RT, FS, ↓RE, okR, argEnv, Nat.reduceAdd, Nat.reduceSub, Nat.reduceLT, Nat.reduceLeDiff, Nat.reduceEqDiff, reduceIte, RM, iW, lW, hz0]
    refine ⟨(S2, c2), sw_skip hs2 fun _ _ _ => hwi, ?_⟩
    simp [headW, heapW, envW, blkLt, D.ltL, D.lt, look, hget, Sx.hset, hlc]
  | some p =>
    rw [hwi] at lW
    simp only [wD] at lW
    have hwp := hb2.walk i p hwi
    have hp1 : 1 ≤ p.length := List.length_pos_iff.2 hwp.ne
    have hpl := hs2.len i p hwi
    have hz : ((p.length : Int) == 0) = false := beq_eq_false_iff_ne.2 (by omega)
    by_cases hneg : nextI l (i : Int) ((w : Int) + 1) < 0
    · have hq : (nextI l (i : Int) ((w : Int) + 1) < 0) = True := by simp [hneg]
      simp only [RT, FS, ↓RE, okR, argEnv, Nat.reduceAdd, Nat.reduceSub, Nat.reduceLT, Nat.reduceLeDiff, Nat.reduceEqDiff, reduceIte, RM, iW, lW, intL_len, hz, hq, decide_true]
      refine ⟨(S2, c2), sw_skip hs2 fun s hs _ => ?_, ?_⟩
      · simp [stpW, wayAt, hneg] at hs
      simp [headW, heapW, envW, blkLt, D.ltL, D.lt, look, hget, Sx.hset, hlc]
    have hq : (nextI l (i : Int) ((w : Int) + 1) < 0) = False := by simp; omega
    obtain ⟨s, hs⟩ : ∃ s : Stp, s = ⟨nextI l (i : Int) ((w : Int) + 1), dxW ((w : Int) + 1), dyW ((w : Int) + 1)⟩ := ⟨_, rfl⟩
    have hst : stpW l i w = some s := by simp only [stpW, wayAt, if_neg hneg, hs]
    have hsl : s ∈ L i := (hmem i hlt s).2 ⟨w, hwl, hst⟩
    obtain ⟨c0, cN, cE⟩ := stp_in hnet hf hlt hsl
    have hcell : nextI l (i : Int) ((w : Int) + 1) = s.cell := by rw [hs]
    have hlenS : lenS (dxW ((w : Int) + 1)) (dyW ((w : Int) + 1)) = lenS s.dx s.dy := by rw [hs]
    have oFn := oF s.cell (by unfold cellI; omega)
    rw [hcell] at hq
    rw [hcell]
    cases haln : al s.cell
    · rw [haln] at oFn
      simp only [RT, FS, ↓RE, okR, argEnv, Nat.reduceAdd, Nat.reduceSub, Nat.reduceLT, Nat.reduceLeDiff, Nat.reduceEqDiff, reduceIte, RM, iW, lW, intL_len, hz, hq, decide_false, hlc, oFn]
      refine ⟨(S2, c2), sw_skip hs2 fun s' hs' ha' => ?_, ?_⟩
      · rw [hst] at hs'; cases hs'; rw [haln] at ha'; cases ha'
      simp [headW, heapW, envW, blkLt, D.ltL, D.lt, look, hget, Sx.hset, hlc]
    rw [haln] at oFn
    simp only [RT, FS, ↓RE, okR, argEnv, Nat.reduceAdd, Nat.reduceSub, Nat.reduceLT, Nat.reduceLeDiff, Nat.reduceEqDiff, reduceIte, RM, iW, lW, intL_len, hz, hq, decide_false, hlc, oFn]
    obtain ⟨n, hnn⟩ : ∃ n : Nat, s.cell = (n : Int) := ⟨s.cell.toNat, cE.symm⟩
    have hnlt : n < l.ground.length := by rw [hnn] at cN; simpa using cN
    have htn : s.cell.toNat = n := by rw [hnn]; rfl
    rw [hnn]
    have hub := hwp.ub
    have hlb := lenS_b s.dx s.dy
    have oS := gSteps_eq (way_rI hwl)
    rw [hlenS] at oS
    have i2 := fun h (hb : hget h 2 = some (.arr 3 1 (intL S2.ls))) => oI_ix (n := l.ground.length) hb hb2.n2 hlt
    have l2 := fun h (hb : hget h 2 = some (.arr 3 1 (intL S2.ls))) => oI_load (n := l.ground.length) hb hb2.n2 (nAt_get (by rw [hb2.n2]; exact hlt))
    have mkA := fun h nid => app_nils_int p h nid (by omega)
    have apA := fun h nid (hb : hget h 3 = some (.arr 3 1 (intL p))) => oI_appD (n := p.length) (r := [(n : Int)]) hb rfl nid (by simp; omega)
    have wm := wrap_i64 (z := nAt S2.ls i + lenS s.dx s.dy) (by omega) (by omega)
    refine awp_peel (T := [(17, [(16, false, true, [(9, 12), (5, 12), (5, 9), (4, 12), (4, 9)]), (1, false, false, [])]), (18, [(19, false, false, [])]), (20, [(10, false, false, [])])]) nI_ok (by kernel_rfl) (by kernel_rfl) ?_
    simp only [RT, FS, ↓RE, okR, argEnv, Nat.reduceAdd, Nat.reduceSub, Nat.reduceLT, Nat.reduceLeDiff, Nat.reduceEqDiff, reduceIte, RM, iW, lW, i2, l2, mkA, apA, litD_1, hlc, oS, wm]
    obtain ⟨m, hm⟩ : ∃ m, m = nAt S2.ls i + lenS s.dx s.dy := ⟨_, rfl⟩
    rw [← hm]
    refine awp_imp (imp_thaw 3 (.weak (weak_of (e := [(1, .sl (intL nd)), (3, .int .i64 (to : Int)), (4, .int .i64 h), (5, .ptr 0 0), (12, .osl 1 l.ground.length), (13, .osl 2 l.ground.length), (14, .bool c2), (15, .int .i64 (i : Int)), (16, .int .i64 ((w : Int) + 1)), (17, .int .i64 (n : Int)), (18, .sl (intL (p ++ [(n : Int)]))), (19, .int .i64 m)]) (h := [(2, .arr 3 1 (intL S2.ls)), (1, .arr 25 1 (wsD S2.ws)), (0, .box l.c)]) (nid := 3) (n := 130) ?_))) ?_
    · simp [headW, heapW, envW, blkLt, D.ltL, D.lt, look, hget, frzHH, herase, frzBlk, frzD, intL_len, hlc]
    have iN := fun h (hb : hget h 1 = some (.arr 25 1 (wsD S2.ws))) => oW_ix (n := l.ground.length) hb hb2.n1 hnlt
    have lN := fun h (hb : hget h 1 = some (.arr 25 1 (wsD S2.ws))) => oW_load (n := l.ground.length) hb hb2.n1 hnlt
    have eN : (S2.ws[n]?).getD none = S2.w n := rfl
    rw [eN] at lN
    have sN := fun h nid (hb : hget h 1 = some (.arr 25 1 (wsD S2.ws))) => oW_store (n := l.ground.length) hb hb2.n1 hnlt nid (p ++ [(n : Int)])
    have j2 := fun h (hb : hget h 2 = some (.arr 3 1 (intL S2.ls))) => oI_ix (n := l.ground.length) hb hb2.n2 hnlt
    have k2 := fun h (hb : hget h 2 = some (.arr 3 1 (intL S2.ls))) => oI_load (n := l.ground.length) hb hb2.n2 (nAt_get (by rw [hb2.n2]; exact hnlt))
    have t2 := fun h nid (hb : hget h 2 = some (.arr 3 1 (intL S2.ls))) => oI_store (n := l.ground.length) hb hb2.n2 (nAt_get (by rw [hb2.n2]; exact hnlt)) nid m
    have hput : impB S2 m (p ++ [(n : Int)]) n = true → SwInv l.ground.length al L frm (stpW l) B0 S i (w + 1) (S2.put n (p ++ [(n : Int)]) m) true := fun hb => by
      have := sw_put hnet hf hmem hs2 hlt hwl hst haln hwi (by rw [htn, hnn, ← hm]; exact hb)
      rw [htn, hnn, ← hm] at this
      exact this
    have hsame : impB S2 m (p ++ [(n : Int)]) n = false → SwInv l.ground.length al L frm (stpW l) B0 S i (w + 1) S2 c2 := fun hb =>
      sw_same hnet hf hmem hs2 hlt hwl hst hwi (by rw [htn, hnn, ← hm]; exact hb)
    cases hwn : S2.w n with
    | none =>
      rw [hwn] at lN
      simp only [wD] at lN
      have hz0 : ((0 : Int) == 0) = true := rfl
      refine awp_rest (T := [(17, [(16, false, true, [(9, 12), (5, 12), (5, 9), (4, 12), (4, 9)]), (1, false, false, [])]), (18, [(19, false, false, [])]), (20, [(10, false, false, [])])]) nI_ok (by kernel_rfl) (by kernel_rfl) ?_
      simp only [RT, FS, ↓RE, okR, argEnv, Nat.reduceAdd, Nat.reduceSub, Nat.reduceLT, Nat.reduceLeDiff, Nat.reduceEqDiff, reduceIte, RM, iN, lN, hz0, sN, j2, t2]
      refine ⟨(S2.put n (p ++ [(n : Int)]) m, true), hput (by simp [impB, hwn]), ?_⟩
      simp [headW, heapW, envW, blkLt, D.ltL, D.lt, look, hget, Sx.hset, hlc, BSt.put]
    | some y =>
      rw [hwn] at lN
      simp only [wD] at lN
      have hwy := hb2.walk n y hwn
      have hy1 : 1 ≤ y.length := List.length_pos_iff.2 hwy.ne
      have hyl := hs2.len n y hwn
      have hzy : ((y.length : Int) == 0) = false := beq_eq_false_iff_ne.2 (by omega)
      have oLs := gLess_eq m (nAt S2.ls n) (a := p ++ [(n : Int)]) (b := y) (by simp; omega) (by omega)
      cases hls : lessL m (p ++ [(n : Int)]) (nAt S2.ls n) y
      · rw [hls] at oLs
        refine awp_rest (T := [(17, [(16, false, true, [(9, 12), (5, 12), (5, 9), (4, 12), (4, 9)]), (1, false, false, [])]), (18, [(19, false, false, [])]), (20, [(10, false, false, [])])]) nI_ok (by kernel_rfl) (by kernel_rfl) ?_
        simp only [RT, FS, ↓RE, okR, argEnv, Nat.reduceAdd, Nat.reduceSub, Nat.reduceLT, Nat.reduceLeDiff, Nat.reduceEqDiff, reduceIte, RM, iN, lN, intL_len, hzy, j2, k2, oLs]
        refine ⟨(S2, c2), hsame (by simp [impB, hwn, hls]), ?_⟩
        simp [headW, heapW, envW, blkLt, D.ltL, D.lt, look, hget, Sx.hset, hlc]
      · rw [hls] at oLs
        refine awp_rest (T := [(17, [(16, false, true, [(9, 12), (5, 12), (5, 9), (4, 12), (4, 9)]), (1, false, false, [])]), (18, [(19, false, false, [])]), (20, [(10, false, false, [])])]) nI_ok (by kernel_rfl) (by kernel_rfl) ?_
        simp only [RT, FS, ↓RE, okR, argEnv, Nat.reduceAdd, Nat.reduceSub, Nat.reduceLT, Nat.reduceLeDiff, Nat.reduceEqDiff, reduceIte, RM, iN, lN, intL_len, hzy, j2, k2, oLs, sN, t2]
        refine ⟨(S2.put n (p ++ [(n : Int)]) m, true), hput (by simp [impB, hwn, hls]), ?_⟩
        simp [headW, heapW, envW, blkLt, D.ltL, D.lt, look, hget, Sx.hset, hlc, BSt.put]
end Go.Sx

namespace Go.Sx
open Go.Proofs
set_option maxRecDepth 10000

/-! ref.Lowest -/
def lowN (l : LandM) (nd : List Int) (frm to : Int) : Int := bisI (fun h => (mget (farA (allowB l nd h) (stepsL l.wide l.deep) to) frm).isSome) 20 0 20001
theorem lowN_spec {l : LandM} (hl : LandOk l) (nd : List Int) {frm to : Int} (ht : cellI l to) :
    (0 ≤ lowN l nd frm to ∧ lowN l nd frm to ≤ 20001) ∧ (∀ h, 0 ≤ h → h < lowN l nd frm to → mget (farA (allowB l nd h) (stepsL l.wide l.deep) to) frm = none) ∧ ∀ h, lowN l nd frm to ≤ h → h ≤ 20000 → ∃ v, mget (farA (allowB l nd h) (stepsL l.wide l.deep) to) frm = some v := by
  have hr := bisI_range (fun h => (mget (farA (allowB l nd h) (stepsL l.wide l.deep) to) frm).isSome) 20 0 20001 (by omega)
  have hm := bisI_mono (fun h => (mget (farA (allowB l nd h) (stepsL l.wide l.deep) to) frm).isSome) 20 0 20001 (by omega) (by omega) fun i j _ hij _ hp => way_mono hl _ ht (fun x hx => allow_mono hij x hx) hp
  refine ⟨hr, fun h h0 hlt => ?_, fun h hge hle => ?_⟩
  · have := hm.1 h h0 hlt
    simpa using this
  · have := hm.2 h hge (by omega)
    exact Option.isSome_iff_exists.1 this
noncomputable def gBest : List D → Option D := orcF (fun p : LandM × List Int × Int × Int × Int => LandOk p.1 ∧ p.2.1.length = p.1.ground.length ∧ cellI p.1 p.2.2.1 ∧ cellI p.1 p.2.2.2.1) (fun p => [.agg p.1.c, .sl (intL p.2.1), .int .i64 p.2.2.1, .int .i64 p.2.2.2.1, .int .i64 p.2.2.2.2]) (fun p => BestD p.1 p.2.1 p.2.2.1 p.2.2.2.1 p.2.2.2.2)
theorem gBest_eq {l : LandM} (hl : LandOk l) {nd : List Int} (hn : nd.length = l.ground.length) {frm to : Int} (hf : cellI l frm) (ht : cellI l to) (h : Int) : gBest [.agg l.c, .sl (intL nd), .int .i64 frm, .int .i64 to, .int .i64 h] = some (BestD l nd frm to h) :=
  orcF_eq (ok := fun p : LandM × List Int × Int × Int × Int => LandOk p.1 ∧ p.2.1.length = p.1.ground.length ∧ cellI p.1 p.2.2.1 ∧ cellI p.1 p.2.2.2.1) (dsf := fun p => [.agg p.1.c, .sl (intL p.2.1), .int .i64 p.2.2.1, .int .i64 p.2.2.2.1, .int .i64 p.2.2.2.2]) (rf := fun p => BestD p.1 p.2.1 p.2.2.1 p.2.2.2.1 p.2.2.2.2) (l, nd, frm, to, h) ⟨hl, hn, hf, ht⟩ fun b hb => by
    simp only [List.cons.injEq, D.agg.injEq, D.int.injEq, D.sl.injEq, true_and, and_true] at hb
    rw [LandM.c_inj hb.1, intL_inj hb.2.1, hb.2.2.1, hb.2.2.2.1, hb.2.2.2.2]
noncomputable abbrev nL : List (FuncId × (List D → Option D)) := (61, gBest) :: nK
theorem nL_ok : OkO Try.prog (mkO nL) := mkO_ok (orcF_ok fun p h => by
  obtain ⟨h1, h2, h3, h4⟩ := h
  obtain ⟨a, ha⟩ : ∃ a : Nat, p.2.2.1 = (a : Int) := ⟨p.2.2.1.toNat, by unfold cellI at h3; omega⟩
  obtain ⟨b, hb⟩ : ∃ b : Nat, p.2.2.2.1 = (b : Int) := ⟨p.2.2.2.1.toNat, by unfold cellI at h4; omega⟩
  have := ref3_Best_t p.1 h1 p.2.1 h2 a b (by unfold cellI at h3; omega) (by unfold cellI at h4; omega) p.2.2.2.2
  rw [ha, hb]
  exact this) <| nK_ok
theorem BestD_none {l : LandM} {nd : List Int} {frm to h : Int} (hm : mget (farA (allowB l nd h) (stepsL l.wide l.deep) to) frm = none) : BestD l nd frm to h = .tup [.nils, .int .i64 0] := by rw [BestD, hm]
theorem BestD_some {l : LandM} {nd : List Int} {frm to h : Int} {v : Cst} (hm : mget (farA (allowB l nd h) (stepsL l.wide l.deep) to) frm = some v) : BestD l nd frm to h = .tup [.sl (intL (alongA (farA (allowB l nd h) (stepsL l.wide l.deep) to) (stepsL l.wide l.deep) frm to)), .int .i64 v.len] := by rw [BestD, hm]
theorem best_len {l : LandM} (hl : LandOk l) {al : Int → Bool} {frm to : Int} (hf : cellI l frm) (ht : cellI l to) {v : Cst} (hm : mget (farA al (stepsL l.wide l.deep) to) frm = some v) :
    1 ≤ (alongA (farA al (stepsL l.wide l.deep) to) (stepsL l.wide l.deep) frm to).length ∧ (alongA (farA al (stepsL l.wide l.deep) to) (stepsL l.wide l.deep) frm to).length ≤ 203 := by
  have h := oq_some (al := al) (net_steps hl) hf ht hm
  exact ⟨List.length_pos_iff.2 h.1.1.ne, h.2⟩
set_option maxHeartbeats 4000000 in
theorem ref3_Lowest_t (l : LandM) (hl : LandOk l) (nd : List Int) (hnd : nd.length = l.ground.length) (frm to : Int) (hf : cellI l frm) (ht : cellI l to) :
    Pure Try.prog 60 [.agg l.c, .sl (intL nd), .int .i64 frm, .int .i64 to] (.int .i64 (if 20000 < lowN l nd frm to then -1 else lowN l nd frm to)) := by
  have oB := fun h => gBest_eq hl hnd hf ht h
  have hlc : l.c = [.int .i64 l.wide, .int .i64 l.deep, .sl (intL l.ground), .sl (boolL l.water), .int .i64 l.clear] := rfl
  obtain ⟨hr, hno, hyes⟩ := lowN_spec hl nd (frm := frm) ht
  generalize lowN l nd frm to = B at *
  rw [hlc] at oB ⊢
  refine pure_of_wc (rs := [.tmp 8]) (m := 39) [] nL_ok (by kernel_rfl) Try.func60 rfl (by kernel_rfl) rfl rfl (by kernel_rfl) ?_
  simp only [RT, FS, ↓RE, okR, argEnv, Nat.reduceAdd, Nat.reduceSub, Nat.reduceLT, Nat.reduceLeDiff, Nat.reduceEqDiff, reduceIte, RM]
  refine loopV (ι := Int × Int) nL_ok [] (fun s => [(1, .sl (intL nd)), (2, .int .i64 frm), (3, .int .i64 to), (4, .ptr 0 0), (9, .int .i64 s.1), (10, .int .i64 s.2)])
    (fun s => [(0, .box l.c)]) 1 (fun s => 0 ≤ s.1 ∧ s.1 ≤ B ∧ B ≤ s.2 ∧ s.2 ≤ 20001) (fun s => (s.2 - s.1).toNat) (0, 20001) (by kernel_rfl) (by kernel_rfl) ⟨by omega, hr.1, hr.2, by omega⟩ ?_ ?_
  · simp [headW, heapW, envW, blkLt, D.ltL, D.lt, look, hget, hlc]
  rintro ⟨lo, hi⟩ ⟨h1, h2, h3, h4⟩
  dsimp only at h1 h2 h3 h4 ⊢
  by_cases hlt : lo < hi
  rotate_left
  · have hq : (lo < hi) = False := by simp [hlt]
    have e : lo = B := by omega
    subst e
    by_cases hb : 20000 < lo
    · have hb' : (20000 < lo) = True := by simp [hb]
      simp only [RT, FS, ↓RE, okR, argEnv, Nat.reduceAdd, Nat.reduceSub, Nat.reduceLT, Nat.reduceLeDiff, Nat.reduceEqDiff, reduceIte, RM, hq, decide_false, hb', decide_true]
    · have hb' : (20000 < lo) = False := by simp [hb]
      simp only [RT, FS, ↓RE, okR, argEnv, Nat.reduceAdd, Nat.reduceSub, Nat.reduceLT, Nat.reduceLeDiff, Nat.reduceEqDiff, reduceIte, RM, hq, decide_false, hb']
  have hq : (lo < hi) = True := by simp [hlt]
  have w1 := wrap_i64 (z := lo + hi) (by omega) (by omega)
  have hd := a_quo' (k := .i64) (x := lo + hi) (y := 2) (by omega)
  have he : (lo + hi).tdiv 2 = (lo + hi) / 2 := Int.tdiv_eq_ediv_of_nonneg (by omega)
  have w2 := wrap_i64 (z := (lo + hi) / 2) (by omega) (by omega)
  have w3 := wrap_i64 (z := (lo + hi) / 2 + 1) (by omega) (by omega)
  obtain ⟨mid, hmid⟩ : ∃ mid, mid = (lo + hi) / 2 := ⟨_, rfl⟩
  rw [← hmid] at he w2 w3
  have oBm := oB mid
  cases hm : mget (farA (allowB l nd mid) (stepsL l.wide l.deep) to) frm with
  | none =>
    rw [BestD_none hm] at oBm
    have hlow : mid < B := Int.not_le.1 fun hge => by
      obtain ⟨v, hv⟩ := hyes mid hge (by omega)
      rw [hm] at hv; cases hv
    have hz : ((0 : Int) < 0) = False := by simp
    simp only [RT, FS, ↓RE, okR, argEnv, Nat.reduceAdd, Nat.reduceSub, Nat.reduceLT, Nat.reduceLeDiff, Nat.reduceEqDiff, reduceIte, RM, hq, decide_true, w1, hd, he, w2, hlc, oBm, ex_tup, hz, decide_false, w3]
    refine ⟨(mid + 1, hi), ⟨by simp only; omega, by simp only; omega, h3, h4⟩, by simp only; omega, ?_⟩
    simp [headW, heapW, envW, blkLt, D.ltL, D.lt, look, hget, hlc]
  | some v =>
    rw [BestD_some hm] at oBm
    have hlen := best_len hl hf ht hm
    have hhigh : B ≤ mid := Int.not_lt.1 fun hl' => by
      rw [hno mid (by omega) hl'] at hm; cases hm
    generalize alongA (farA (allowB l nd mid) (stepsL l.wide l.deep) to) (stepsL l.wide l.deep) frm to = A at *
    have hz : ((0 : Int) < (A.length : Int)) = True := by simp; omega
    simp only [RT, FS, ↓RE, okR, argEnv, Nat.reduceAdd, Nat.reduceSub, Nat.reduceLT, Nat.reduceLeDiff, Nat.reduceEqDiff, reduceIte, RM, hq, decide_true, w1, hd, he, w2, hlc, oBm, ex_tup, intL_len, hz]
    refine ⟨(lo, mid), ⟨h1, h2, hhigh, by simp only; omega⟩, by simp only; omega, ?_⟩
    simp [headW, heapW, envW, blkLt, D.ltL, D.lt, look, hget, hlc]
noncomputable def gRLow : List D → Option D := orcF (fun p : LandM × List Int × Int × Int => LandOk p.1 ∧ p.2.1.length = p.1.ground.length ∧ cellI p.1 p.2.2.1 ∧ cellI p.1 p.2.2.2) (fun p => [.agg p.1.c, .sl (intL p.2.1), .int .i64 p.2.2.1, .int .i64 p.2.2.2]) (fun p => .int .i64 (if 20000 < lowN p.1 p.2.1 p.2.2.1 p.2.2.2 then -1 else lowN p.1 p.2.1 p.2.2.1 p.2.2.2))
theorem gRLow_eq {l : LandM} (hl : LandOk l) {nd : List Int} (hn : nd.length = l.ground.length) {frm to : Int} (hf : cellI l frm) (ht : cellI l to) : gRLow [.agg l.c, .sl (intL nd), .int .i64 frm, .int .i64 to] = some (.int .i64 (if 20000 < lowN l nd frm to then -1 else lowN l nd frm to)) :=
  orcF_eq (ok := fun p : LandM × List Int × Int × Int => LandOk p.1 ∧ p.2.1.length = p.1.ground.length ∧ cellI p.1 p.2.2.1 ∧ cellI p.1 p.2.2.2) (dsf := fun p => [.agg p.1.c, .sl (intL p.2.1), .int .i64 p.2.2.1, .int .i64 p.2.2.2]) (rf := fun p => .int .i64 (if 20000 < lowN p.1 p.2.1 p.2.2.1 p.2.2.2 then -1 else lowN p.1 p.2.1 p.2.2.1 p.2.2.2)) (l, nd, frm, to) ⟨hl, hn, hf, ht⟩ fun b hb => by
    simp only [List.cons.injEq, D.agg.injEq, D.int.injEq, D.sl.injEq, true_and, and_true] at hb
    rw [LandM.c_inj hb.1, intL_inj hb.2.1, hb.2.2.1, hb.2.2.2]
end Go.Sx
