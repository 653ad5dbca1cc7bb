/- Own work: contracts of functions, used in the proof of a law. -/
import Derived.Test.YtljkgnicmlhipaaSxW64w
import Derived.Test.YtljkgnicmlhipaaSxW63w
set_option linter.unusedVariables false
set_option linter.unusedSimpArgs false
namespace Go.Sx
open Go.Proofs
set_option maxRecDepth 10000

def rowsD (ll : List (List Int)) : List (List D) := ll.map fun r => [.sl (intL r)]
theorem rowsD_len (l : List (List Int)) : (rowsD l).length = l.length := by simp [rowsD]
def enR1 : En (List Int) where
  d x := [.sl (intL x)]
  dec c := match c with
    | [.sl es] => enI.decL es
    | _ => none
  h1 x := by simp only [intL, En.decL_map]
  h2 c a h := by
    split at h
    · rw [En.decL_inv h]; rfl
    · cases h
  sz := 1
  hsz _ := rfl
theorem rows_ix {l : List (List Int)} {i : Nat} {x : List Int} (hx : l[i]? = some x) (h : H) : indexAddrD Try.prog h 90 (.sl (rowsD l)) (.int .i64 (i : Int)) = some (.ref [.sl (intL x)] 0) :=
  En.ix (P := Try.prog) Fz.und_90 Fz.size_29 (E := enR1) (a := x) (En.sl_map (E := enR1) l) hx h .i64
theorem oR_app {h : H} {b n b2 : Nat} {L : List (List Int)} {r : List Int} (hb : hget h b = some (.arr 29 1 (rowsD L))) (hn : L.length = n) (hb2 : hget h b2 = some (.arr 29 1 [[.sl (intL r)]])) (nid : Nat) (hc : L.length ≤ 100000000000) :
    appE Try.prog h nid 90 90 (.osl b n) (.osl b2 1) = some (.osl b (n + 1), hset h b (.arr 29 1 (rowsD (L ++ [r]))), nid) := by
  rw [app_osl Fz.und_90 Fz.size_29 Fz.zero_29 rfl (by omega) Fz.bytes_29_90 h nid b n b2 1 hb (by rw [rowsD_len, hn]) hb2 rfl rfl (by simp [rowsD_len]; omega) (by simp [rowsD_len]; omega)]
  simp [rowsD, hn]
theorem oR_appD {h : H} {b n : Nat} {L : List (List Int)} {r : List Int} (hb : hget h b = some (.arr 29 1 (rowsD L))) (hn : L.length = n) (nid : Nat) (hc : L.length ≤ 100000000000) :
    appE Try.prog h nid 90 90 (.osl b n) (.sl [[.sl (intL r)]]) = some (.osl b (n + 1), hset h b (.arr 29 1 (rowsD (L ++ [r]))), nid) := by
  rw [app_sl Fz.und_90 Fz.size_29 Fz.zero_29 rfl (by omega) Fz.bytes_29_90 h nid b n hb (by rw [rowsD_len, hn]) rfl (by simp [rowsD_len]; omega) (by simp [rowsD_len]; omega)]
  simp [rowsD, hn]
theorem litR (h : H) (nid : Nat) (x : List (List D)) : litOpD Try.prog h nid 90 1 [(0, .sl x)] = some (.osl nid 1, (nid, .arr 29 1 [[.sl x]]) :: h, nid + 1) := by kernel_rfl
theorem litRD (h : H) (x : List (List D)) : litD Try.prog h 90 1 [(0, .sl x)] = some (.sl [[.sl x]]) := by kernel_rfl
def rtD : Option (List Int) → D
  | some r => .sl (intL r)
  | none => .nils
theorem rtD_some (x : List Int) : rtD (some x) = .sl (intL x) := (rfl)
theorem rtD_lt (k : Nat) (o : Option (List Int)) : D.lt k (rtD o) = true := by cases o <;> simp [rtD, D.lt]
theorem rtD_fz (h h' : H) (o : Option (List Int)) : frzD h h' (rtD o) = rtD o := by cases o <;> rfl
def BForm (s : Int × Option (List Int)) : Prop := s.1 < 0 ∨ ∃ r, s.2 = some r ∧ r.length ≤ 8
theorem bst_form {T : List Int → Int} {s : Int × Option (List Int)} (h : BForm s) {x : List Int} (hx : x.length ≤ 8) : BForm (bst T s x) := by
  unfold bst
  split
  · split
    · exact .inr ⟨x, rfl, hx⟩
    · exact h
  · exact h
theorem bst_forms {T : List Int → Int} : ∀ (l : List (List Int)) {s : Int × Option (List Int)}, BForm s → (∀ x ∈ l, x.length ≤ 8) → BForm (l.foldl (bst T) s)
  | [], _, h, _ => h
  | x :: l, _, h, hl => bst_forms l (bst_form h (hl x (by simp))) fun y hy => hl y (by simp [hy])
theorem lay_len8 {K : Nat} (hK : K ≤ 8) {H : Nat → Bool} {n : Nat} {x : List Int} (hx : x ∈ layL K H n) : x.length ≤ 8 := by
  obtain ⟨h1, h2, h3⟩ := lay_ok n x hx
  have := nodup_len K x h2 h3
  omega
theorem bstN_form {T : List Int → Int} {K : Nat} (hK : K ≤ 8) {H : Nat → Bool} : ∀ n, BForm (bstN T K H n)
  | 0 => .inl (show (-1 : Int) < 0 by decide)
  | n + 1 => bst_forms _ (bstN_form hK n) fun x hx => lay_len8 hK hx
noncomputable abbrev e65 : List (FuncId × (List D → Option D)) := (20, gRArr) :: (21, gLess) :: (51, gHasL) :: e13
theorem e65_ok : OkO Try.prog (mkO e65) :=
  mkO_ok (orcF_ok fun p h => r_Arrives_t h.wo h.c h.m p.2.1 h.p) <| mkO_ok (orcF_ok fun p h => r_Less_t p.1 p.2 h.1 h.2) <| mkO_ok (orcF_ok fun p h => r_Has_t p.1 h p.2) e13_ok
set_option maxHeartbeats 4000000 in
theorem r_Arrive_t {w : WatchW} (hw : WatchOk w) {c m : Int} (hc : InS w.s c) (hm : 0 ≤ m ∧ m ≤ 1440) : Pure Try.prog 18 [.agg w.c, .int .i64 c, .int .i64 m]
    (.tup [.int .i64 (bstN (fun p => rArrI w p c m) w.n.r.length (hAt w.s w.n.r c m) w.n.r.length).1, rtD (bstN (fun p => rArrI w p c m) w.n.r.length (hAt w.s w.n.r c m) w.n.r.length).2]) := by
  have hs := hw.s
  have hrel := hw.n.r
  have hrn := hw.n.rn
  have oH : ∀ k, k < w.n.r.length → ∃ r, w.n.r[k]? = some r ∧ gHears [.agg w.s.c, .agg (enRl.d r), .int .i64 c, .int .i64 m] = some (.bool (hAt w.s w.n.r c m k)) := fun k hk => by
    obtain ⟨r, hr⟩ : ∃ r, w.n.r[k]? = some r := ⟨w.n.r[k], by simp [hk]⟩
    refine ⟨r, hr, ?_⟩
    rw [gHears_eq hs (hrel r (List.mem_of_getElem? hr)) hc hm.1]
    simp only [hAt, hr]
  have oT := fun p (hp : BL p) => gRArr_eq (w := w) (c := c) (m := m) (p := p) ⟨hw, hc, hm, hp⟩
  obtain ⟨TT, hTT⟩ : ∃ TT, TT = fun p => rArrI w p c m := ⟨_, rfl⟩
  have hTe : ∀ p, rArrI w p c m = TT p := fun p => by rw [hTT]
  rw [← hTT]
  simp only [hTe] at oT
  clear hTe hTT
  generalize hAt w.s w.n.r c m = Hh at *
  obtain ⟨⟨sw, sd, sh⟩, ⟨rl, lk⟩, cell, mi, ev, en, af⟩ := w
  dsimp only at hs hrel hrn oH hc ⊢
  simp only [WatchW.c, SkyW.c, NetW.c, List.cons_append, List.nil_append] at oT oH ⊢
  refine pure_of_pieces (rs := [.tmp 6, .tmp 7]) (m := 112) [(5, [(11, false, false, [])])] e65_ok (by kernel_rfl) Try.func18 rfl (by kernel_rfl) rfl rfl (by kernel_rfl) ?_
  refine awp_peel (T := [(5, [(11, false, false, [])])]) e65_ok (by kernel_rfl) (by kernel_rfl) ?_
  simp only [RT, FS, ↓RE, okR, argEnv, Nat.reduceAdd, Nat.reduceSub, Nat.reduceLT, Nat.reduceLeDiff, Nat.reduceEqDiff, reduceIte, RM]
  refine awp_peel (T := [(5, [(11, false, false, [])])]) e65_ok (by kernel_rfl) (by kernel_rfl) ?_
  simp only [RT, FS, ↓RE, okR, argEnv, Nat.reduceAdd, Nat.reduceSub, Nat.reduceLT, Nat.reduceLeDiff, Nat.reduceEqDiff, reduceIte, RM]
  refine awp_nil 8 29 1 rfl ?_
  refine awp_headW [(1, .int .i64 c), (2, .int .i64 m), (3, .ptr 0 0), (8, .osl 1 (([] : List (List Int)).length))] [(1, .arr 29 1 (rowsD [])), (0, .box [.int .i64 sw, .int .i64 sd, shD sh, rlD rl, lkD lk, .int .i64 cell, .int .i64 mi, .int .i64 ev, .int .i64 en, inD af])] 2 112 (by simp [headW, heapW, envW, blkLt, D.ltL, D.lt, look, hget, Sx.hset, eset_nil, eset_cons, rowsD, shD, inD]) ?_
  refine awp_seqE (ι := Unit) (nid := 2) (n := 112) (fun _ => [(1, .int .i64 c), (2, .int .i64 m), (3, .ptr 0 0), (8, .osl 1 (layL rl.length Hh 0).length)]) (fun _ => [(1, .arr 29 1 (rowsD (layL rl.length Hh 0))), (0, .box [.int .i64 sw, .int .i64 sd, shD sh, rlD rl, lkD lk, .int .i64 cell, .int .i64 mi, .int .i64 ev, .int .i64 en, inD af])]) (fun _ => True) ?_ ?_
  · refine awp_peel (T := [(5, [(11, false, false, [])])]) e65_ok (by kernel_rfl) (by kernel_rfl) ?_
    simp only [RT, FS, ↓RE, okR, argEnv, Nat.reduceAdd, Nat.reduceSub, Nat.reduceLT, Nat.reduceLeDiff, Nat.reduceEqDiff, reduceIte, RM]
    obtain ⟨L0, hL0⟩ : ∃ L0 : Nat → List (List Int), L0 = fun i => ((List.range i).filter Hh).map fun i : Nat => [(i : Int)] := ⟨_, rfl⟩
    have hL00 : L0 0 = [] := by rw [hL0]; rfl
    have hL0S : ∀ i, L0 (i + 1) = L0 i ++ if Hh i = true then [[(i : Int)]] else [] := fun i => by
      rw [hL0]
      simp only [List.range_succ, List.filter_append, List.map_append]
      congr 1
      by_cases h : Hh i = true
      · simp [h]
      · simp [h]
    have hL0l : ∀ i, (L0 i).length ≤ i := fun i => by rw [hL0]; simp only [List.length_map]; exact Nat.le_trans (List.length_filter_le _ _) (by simp)
    rw [show layL rl.length Hh 0 = L0 rl.length by rw [hL0]; rfl]
    clear hL0
    refine awp_block (awp_loopH (ι := Nat) (fun i => [(1, .int .i64 c), (2, .int .i64 m), (3, .ptr 0 0), (8, .osl 1 (L0 i).length), (9, .int .i64 (i : Int))]) (fun i => [(1, .arr 29 1 (rowsD (L0 i))), (0, .box [.int .i64 sw, .int .i64 sd, shD sh, rlD rl, lkD lk, .int .i64 cell, .int .i64 mi, .int .i64 ev, .int .i64 en, inD af])]) 2 (fun i => i ≤ rl.length) (fun i => rl.length - i) 0 (Nat.zero_le _) ?_ ?_)
    · rw [hL00]; simp [headW, heapW, envW, blkLt, D.ltL, D.lt, look, hget, Sx.hset, shD, inD, rtD_lt, rtD_some]
    intro i hil
    refine awp_peel (T := [(5, [(11, false, false, [])])]) e65_ok (by kernel_rfl) (by kernel_rfl) ?_
    rcases Nat.lt_or_ge i rl.length with hlt | hge
    rotate_left
    · have hq := nat_lt_false hge
      have : i = rl.length := by omega
      subst this
      simp only [RT, FS, ↓RE, okR, argEnv, Nat.reduceAdd, Nat.reduceSub, Nat.reduceLT, Nat.reduceLeDiff, Nat.reduceEqDiff, reduceIte, RM, List.length_map, hq, decide_false]
      simp [headW, heapW, envW, blkLt, D.ltL, D.lt, look, hget, Sx.hset, shD, inD, rtD_lt, rtD_some]
    have hq := nat_lt_true hlt
    simp only [RT, FS, ↓RE, okR, argEnv, Nat.reduceAdd, Nat.reduceSub, Nat.reduceLT, Nat.reduceLeDiff, Nat.reduceEqDiff, reduceIte, RM, List.length_map, hq, decide_true]
    refine awp_seqE (ι := Unit) (nid := 2) (n := 112) (fun _ => [(1, .int .i64 c), (2, .int .i64 m), (3, .ptr 0 0), (8, .osl 1 (L0 (i + 1)).length), (9, .int .i64 (i : Int))]) (fun _ => [(1, .arr 29 1 (rowsD (L0 (i + 1)))), (0, .box [.int .i64 sw, .int .i64 sd, shD sh, rlD rl, lkD lk, .int .i64 cell, .int .i64 mi, .int .i64 ev, .int .i64 en, inD af])]) (fun _ => True) ?_ ?_
    rotate_left
    · rintro _ _
      have wi := wrap_i64 (z := (i : Int) + 1) (by omega) (by omega)
      refine awp_rest (T := [(5, [(11, false, false, [])])]) e65_ok (by kernel_rfl) (by kernel_rfl) ?_
      simp only [RT, FS, ↓RE, okR, argEnv, Nat.reduceAdd, Nat.reduceSub, Nat.reduceLT, Nat.reduceLeDiff, Nat.reduceEqDiff, reduceIte, RM, wi]
      exact ⟨i + 1, by omega, by omega, by simp [headW, heapW, envW, blkLt, D.ltL, D.lt, look, hget, Sx.hset, shD, inD, rtD_lt, rtD_some]⟩
    refine awp_block ?_
    obtain ⟨r, hr, oHr⟩ := oH i hlt
    have hix := rlD_ix hr
    simp only [enRl] at oHr
    refine awp_seq ?_
    refine awp_rest (T := [(5, [(11, false, false, [])])]) e65_ok (by kernel_rfl) (by kernel_rfl) ?_
    cases hh : Hh i
    · rw [hh] at oHr
      simp only [RT, FS, ↓RE, okR, argEnv, Nat.reduceAdd, Nat.reduceSub, Nat.reduceLT, Nat.reduceLeDiff, Nat.reduceEqDiff, reduceIte, RM, hix, oHr]
      refine awp_rest (T := [(5, [(11, false, false, [])])]) e65_ok (by kernel_rfl) (by kernel_rfl) ?_
      simp only [RT, FS, ↓RE, okR, argEnv, Nat.reduceAdd, Nat.reduceSub, Nat.reduceLT, Nat.reduceLeDiff, Nat.reduceEqDiff, reduceIte, RM]
      rw [hL0S, if_neg (by rw [hh]; simp), List.append_nil]
      simp [headW, heapW, envW, blkLt, D.ltL, D.lt, look, hget, Sx.hset, shD, inD, rtD_lt, rtD_some]
    · rw [hh] at oHr
      simp only [RT, FS, ↓RE, okR, argEnv, Nat.reduceAdd, Nat.reduceSub, Nat.reduceLT, Nat.reduceLeDiff, Nat.reduceEqDiff, reduceIte, RM, hix, oHr]
      refine awp_cond (t := true) rfl (fun _ => ?_) (fun h => by cases h)
      have li := hL0l i
      have d1 := fun h => litD_1 h (i : Int)
      have ap := fun h nid (hb : hget h 1 = some (.arr 29 1 (rowsD (L0 i)))) => oR_appD (n := (L0 i).length) (r := [(i : Int)]) hb rfl nid (by omega)
      obtain ⟨si, hsi⟩ : ∃ si, si = [(i : Int)] := ⟨_, rfl⟩
      rw [← hsi] at d1 ap
      refine awp_regionD e65_ok ?_
      simp only [RT, FS, ↓RE, okR, argEnv, Nat.reduceAdd, Nat.reduceSub, Nat.reduceLT, Nat.reduceLeDiff, Nat.reduceEqDiff, reduceIte, RM, d1, litRD, ap]
      rw [hL0S, if_pos hh, ← hsi]
      simp [headW, heapW, envW, blkLt, D.ltL, D.lt, look, hget, Sx.hset, shD, inD]
  rintro _ _
  refine awp_imp (imp_thaw 1 (.weak (weak_of (e := [(1, .int .i64 c), (2, .int .i64 m), (3, .ptr 0 0), (8, .sl (rowsD (layL rl.length Hh 0)))]) (h := [(0, .box [.int .i64 sw, .int .i64 sd, shD sh, rlD rl, lkD lk, .int .i64 cell, .int .i64 mi, .int .i64 ev, .int .i64 en, inD af])]) (nid := 1) (n := 112) ?_))) ?_
  · simp [headW, heapW, envW, blkLt, D.ltL, D.lt, look, hget, frzHH, frzBlk, herase, fz_int, fz_ref, fz_ptr, fz_bool, fz_sl, fz_nils, fz_osl, fzC_some, fzC_arr, fzP_some, rowsD_len, shD, inD, rtD_lt, rtD_fz]
  refine awp_peel (T := [(5, [(11, false, false, [])])]) e65_ok (by kernel_rfl) (by kernel_rfl) ?_
  simp only [RT, FS, ↓RE, okR, argEnv, Nat.reduceAdd, Nat.reduceSub, Nat.reduceLT, Nat.reduceLeDiff, Nat.reduceEqDiff, reduceIte, RM]
  refine awp_peel (T := [(5, [(11, false, false, [])])]) e65_ok (by kernel_rfl) (by kernel_rfl) ?_
  simp only [RT, FS, ↓RE, okR, argEnv, Nat.reduceAdd, Nat.reduceSub, Nat.reduceLT, Nat.reduceLeDiff, Nat.reduceEqDiff, reduceIte, RM]
  refine awp_seqE (ι := Unit) (nid := 1) (n := 112) (fun _ => [(10, .int .i64 (bstN TT rl.length Hh rl.length).1), (11, rtD (bstN TT rl.length Hh rl.length).2)]) (fun _ => [(0, .box [.int .i64 sw, .int .i64 sd, shD sh, rlD rl, lkD lk, .int .i64 cell, .int .i64 mi, .int .i64 ev, .int .i64 en, inD af])]) (fun _ => True) ?_ ?_
  rotate_left
  · rintro _ _
    refine awp_rest (T := [(5, [(11, false, false, [])])]) e65_ok (by kernel_rfl) (by kernel_rfl) ?_
    simp only [RT, FS, ↓RE, okR, argEnv, Nat.reduceAdd, Nat.reduceSub, Nat.reduceLT, Nat.reduceLeDiff, Nat.reduceEqDiff, reduceIte, RM]
    cases (bstN TT rl.length Hh rl.length).2 <;> rfl
  refine awp_block (awp_loopH (ι := Nat) (fun n => [(1, .int .i64 c), (2, .int .i64 m), (3, .ptr 0 0), (8, .sl (rowsD (layL rl.length Hh n))), (10, .int .i64 (bstN TT rl.length Hh n).1), (11, rtD (bstN TT rl.length Hh n).2)]) (fun n => [(0, .box [.int .i64 sw, .int .i64 sd, shD sh, rlD rl, lkD lk, .int .i64 cell, .int .i64 mi, .int .i64 ev, .int .i64 en, inD af])]) 1
    (fun n => n ≤ rl.length) (fun n => rl.length - n) 0 (Nat.zero_le _) ?_ ?_)
  · simp [headW, heapW, envW, blkLt, D.ltL, D.lt, look, hget, Sx.hset, shD, inD, rtD_lt, bstN, rtD]
  intro n hn
  obtain ⟨now, hnow⟩ : ∃ now, now = layL rl.length Hh n := ⟨_, rfl⟩
  rw [← hnow]
  refine awp_peel (T := [(5, [(11, false, false, [])])]) e65_ok (by kernel_rfl) (by kernel_rfl) ?_
  by_cases hne : now = []
  · have hq : ((0 : Int) < ((now.length : Nat) : Int)) = False := by rw [hne]; simp
    simp only [RT, FS, ↓RE, okR, argEnv, Nat.reduceAdd, Nat.reduceSub, Nat.reduceLT, Nat.reduceLeDiff, Nat.reduceEqDiff, reduceIte, RM, rowsD_len, hq, decide_false]
    rw [(bstN_end (T := TT) (hnow.symm.trans hne) rl.length hn).1]
    simp [headW, heapW, envW, blkLt, D.ltL, D.lt, look, hget, Sx.hset, shD, inD, rtD_lt, rtD_some]
  have hnl := List.length_pos_iff.2 hne
  have hq : ((0 : Int) < ((now.length : Nat) : Int)) = True := by simp only [eq_iff_iff, iff_true]; omega
  have hnK : n < rl.length := Classical.byContradiction fun h => hne (hnow.trans (lay_nil (by omega)))
  have hnl2 : now.length ≤ 134217728 := by rw [hnow]; exact lay_len2 (by omega) n
  have hnx : ∀ x ∈ now, x.length ≤ 8 ∧ 1 ≤ x.length := fun x hx => by
    rw [hnow] at hx
    have := (lay_ok n x hx).1
    exact ⟨lay_len8 (by omega) hx, by omega⟩
  obtain ⟨B, hB⟩ : ∃ B : Nat → Int × Option (List Int), B = fun i => (now.take i).foldl (bst TT) (bstN TT rl.length Hh n) := ⟨_, rfl⟩
  obtain ⟨N, hN⟩ : ∃ N : Nat → List (List Int), N = fun i => (now.take i).flatMap (expL rl.length) := ⟨_, rfl⟩
  have hB0 : B 0 = bstN TT rl.length Hh n := by rw [hB]; rfl
  have hN0 : N 0 = [] := by rw [hN]; rfl
  have hBE : B now.length = bstN TT rl.length Hh (n + 1) := by rw [hB]; simp only [List.take_length, bstN]; rw [hnow]
  have hNE : N now.length = layL rl.length Hh (n + 1) := by rw [hN]; simp only [List.take_length, layL]; rw [hnow]
  have hBSx : ∀ i x, now[i]? = some x → B (i + 1) = bst TT (B i) x := fun i x hx => by rw [hB]; simp only [List.take_add_one, hx, Option.toList_some, List.foldl_append]; rfl
  have hNSx : ∀ i x, now[i]? = some x → N (i + 1) = N i ++ expL rl.length x := fun i x hx => by rw [hN]; simp only [List.take_add_one, hx, Option.toList_some, List.flatMap_append]; simp
  have hBF : ∀ i, BForm (B i) := fun i => by rw [hB]; exact bst_forms _ (bstN_form (by omega) n) fun x hx => (hnx x (List.mem_of_mem_take hx)).1
  have hNl : ∀ i, (N i).length ≤ 1073741824 := fun i => by
    rw [hN]
    have h1 := flat_len (expL_len rl.length) (now.take i)
    have h2 : (now.take i).length ≤ 134217728 := by rw [List.length_take]; omega
    have h3 : (now.take i).length * rl.length ≤ 134217728 * 8 := Nat.mul_le_mul h2 (by omega)
    simp only; omega
  clear hB hN
  simp only [RT, FS, ↓RE, okR, argEnv, Nat.reduceAdd, Nat.reduceSub, Nat.reduceLT, Nat.reduceLeDiff, Nat.reduceEqDiff, reduceIte, RM, rowsD_len, hq, decide_true]
  refine awp_block ?_
  refine awp_peel (T := [(5, [(11, false, false, [])])]) e65_ok (by kernel_rfl) (by kernel_rfl) ?_
  simp only [RT, FS, ↓RE, okR, argEnv, Nat.reduceAdd, Nat.reduceSub, Nat.reduceLT, Nat.reduceLeDiff, Nat.reduceEqDiff, reduceIte, RM]
  refine awp_nil 12 29 1 rfl ?_
  refine awp_headW [(1, .int .i64 c), (2, .int .i64 m), (3, .ptr 0 0), (8, .sl (rowsD now)), (10, .int .i64 (B 0).1), (11, rtD (B 0).2), (12, .osl 1 (N 0).length)] [(1, .arr 29 1 (rowsD (N 0))), (0, .box [.int .i64 sw, .int .i64 sd, shD sh, rlD rl, lkD lk, .int .i64 cell, .int .i64 mi, .int .i64 ev, .int .i64 en, inD af])] 2 112 (by rw [hB0, hN0]; simp [headW, heapW, envW, blkLt, D.ltL, D.lt, look, hget, Sx.hset, eset_nil, eset_cons, rowsD, shD, inD, rtD_lt]) ?_
  refine awp_seqE (ι := Unit) (nid := 2) (n := 112) (fun _ => [(1, .int .i64 c), (2, .int .i64 m), (3, .ptr 0 0), (10, .int .i64 (B now.length).1), (11, rtD (B now.length).2), (12, .osl 1 (N now.length).length)]) (fun _ => [(1, .arr 29 1 (rowsD (N now.length))), (0, .box [.int .i64 sw, .int .i64 sd, shD sh, rlD rl, lkD lk, .int .i64 cell, .int .i64 mi, .int .i64 ev, .int .i64 en, inD af])]) (fun _ => True) ?_ ?_
  rotate_left
  · rintro _ _
    refine awp_imp (imp_thaw 1 (.weak (weak_of (e := [(1, .int .i64 c), (2, .int .i64 m), (3, .ptr 0 0), (10, .int .i64 (B now.length).1), (11, rtD (B now.length).2), (12, .sl (rowsD (N now.length)))]) (h := [(0, .box [.int .i64 sw, .int .i64 sd, shD sh, rlD rl, lkD lk, .int .i64 cell, .int .i64 mi, .int .i64 ev, .int .i64 en, inD af])]) (nid := 1) (n := 112) ?_))) ?_
    · simp [headW, heapW, envW, blkLt, D.ltL, D.lt, look, hget, frzHH, frzBlk, herase, fz_int, fz_ref, fz_ptr, fz_bool, fz_sl, fz_nils, fz_osl, fzC_some, fzC_arr, fzP_some, rowsD_len, shD, inD, rtD_lt, rtD_fz]
    rw [hBE, hNE]
    refine awp_rest (T := [(5, [(11, false, false, [])])]) e65_ok (by kernel_rfl) (by kernel_rfl) ?_
    simp only [RT, FS, ↓RE, okR, argEnv, Nat.reduceAdd, Nat.reduceSub, Nat.reduceLT, Nat.reduceLeDiff, Nat.reduceEqDiff, reduceIte, RM]
    exact ⟨n + 1, by omega, by omega, by simp [headW, heapW, envW, blkLt, D.ltL, D.lt, look, hget, Sx.hset, shD, inD, rtD_lt, rtD_some]⟩
  refine awp_peel (T := [(5, [(11, false, false, [])])]) e65_ok (by kernel_rfl) (by kernel_rfl) ?_
  simp only [RT, FS, ↓RE, okR, argEnv, Nat.reduceAdd, Nat.reduceSub, Nat.reduceLT, Nat.reduceLeDiff, Nat.reduceEqDiff, reduceIte, RM]
  refine awp_block (awp_loopH (ι := Nat) (fun i => [(1, .int .i64 c), (2, .int .i64 m), (3, .ptr 0 0), (8, .sl (rowsD now)), (10, .int .i64 (B i).1), (11, rtD (B i).2), (12, .osl 1 (N i).length), (13, .int .i64 (i : Int))]) (fun i => [(1, .arr 29 1 (rowsD (N i))), (0, .box [.int .i64 sw, .int .i64 sd, shD sh, rlD rl, lkD lk, .int .i64 cell, .int .i64 mi, .int .i64 ev, .int .i64 en, inD af])]) 2
    (fun i => i ≤ now.length) (fun i => now.length - i) 0 (Nat.zero_le _) ?_ ?_)
  · simp [headW, heapW, envW, blkLt, D.ltL, D.lt, look, hget, Sx.hset, shD, inD, rtD_lt, rtD_some]
  intro i hi
  refine awp_peel (T := [(5, [(11, false, false, [])])]) e65_ok (by kernel_rfl) (by kernel_rfl) ?_
  rcases Nat.lt_or_ge i now.length with hlt | hge
  rotate_left
  · have hq := nat_lt_false hge
    simp only [RT, FS, ↓RE, okR, argEnv, Nat.reduceAdd, Nat.reduceSub, Nat.reduceLT, Nat.reduceLeDiff, Nat.reduceEqDiff, reduceIte, RM, rowsD_len, hq, decide_false]
    have hie : i = now.length := by omega
    subst hie
    simp [headW, heapW, envW, blkLt, D.ltL, D.lt, look, hget, Sx.hset, shD, inD, rtD_lt, rtD_some]
  have hq := nat_lt_true hlt
  simp only [RT, FS, ↓RE, okR, argEnv, Nat.reduceAdd, Nat.reduceSub, Nat.reduceLT, Nat.reduceLeDiff, Nat.reduceEqDiff, reduceIte, RM, rowsD_len, hq, decide_true]
  refine awp_seqE (ι := Unit) (nid := 2) (n := 112) (fun _ => [(1, .int .i64 c), (2, .int .i64 m), (3, .ptr 0 0), (8, .sl (rowsD now)), (10, .int .i64 (B (i + 1)).1), (11, rtD (B (i + 1)).2), (12, .osl 1 (N (i + 1)).length), (13, .int .i64 (i : Int))]) (fun _ => [(1, .arr 29 1 (rowsD (N (i + 1)))), (0, .box [.int .i64 sw, .int .i64 sd, shD sh, rlD rl, lkD lk, .int .i64 cell, .int .i64 mi, .int .i64 ev, .int .i64 en, inD af])]) (fun _ => True) ?_ ?_
  rotate_left
  · rintro _ _
    have wi := wrap_i64 (z := (i : Int) + 1) (by omega) (by omega)
    refine awp_rest (T := [(5, [(11, false, false, [])])]) e65_ok (by kernel_rfl) (by kernel_rfl) ?_
    simp only [RT, FS, ↓RE, okR, argEnv, Nat.reduceAdd, Nat.reduceSub, Nat.reduceLT, Nat.reduceLeDiff, Nat.reduceEqDiff, reduceIte, RM, wi]
    exact ⟨i + 1, by omega, by omega, by simp [headW, heapW, envW, blkLt, D.ltL, D.lt, look, hget, Sx.hset, shD, inD, rtD_lt, rtD_some]⟩
  refine awp_block ?_
  obtain ⟨x, hx⟩ : ∃ x, now[i]? = some x := ⟨now[i], by simp [hlt]⟩
  obtain ⟨hxl, hxl1⟩ := hnx x (List.mem_of_getElem? hx)
  have hBS := hBSx i x hx
  have hNS := hNSx i x hx
  have ixR := rows_ix hx
  have wl : IntKind.i64.wrap ((x.length : Int) - 1) = ((x.length - 1 : Nat) : Int) := by rw [wrap_i64 (by omega) (by omega)]; omega
  have ixl := sI_ix (nAt_get (l := x) (i := x.length - 1) (by omega))
  have oTx := oT x (by simp only [BL]; omega)
  have hNi := hNl i
  refine awp_peel (T := [(5, [(11, false, false, [])])]) e65_ok (by kernel_rfl) (by kernel_rfl) ?_
  simp only [RT, FS, ↓RE, okR, argEnv, Nat.reduceAdd, Nat.reduceSub, Nat.reduceLT, Nat.reduceLeDiff, Nat.reduceEqDiff, reduceIte, RM, ixR]
  refine awp_peel (T := [(5, [(11, false, false, [])])]) e65_ok (by kernel_rfl) (by kernel_rfl) ?_
  by_cases hl0 : lst x = 0
  · have hlq : (nAt x (x.length - 1) == 0) = true := by simpa [lst] using hl0
    have hex : expL rl.length x = [] := by unfold expL; rw [if_pos hl0]
    have hsame : ¬ (0 ≤ TT x ∧ ((B i).1 < 0 ∨ (TT x < (B i).1 ∨ (TT x = (B i).1 ∧ lessB x ((B i).2.getD []) = true)))) → bst TT (B i) x = B i := fun h => by unfold bst; rw [if_pos hl0, if_neg h]
    have hnew : (0 ≤ TT x ∧ ((B i).1 < 0 ∨ (TT x < (B i).1 ∨ (TT x = (B i).1 ∧ lessB x ((B i).2.getD []) = true)))) → bst TT (B i) x = (TT x, some x) := fun h => by unfold bst; rw [if_pos hl0, if_pos h]
    have hBf := hBF i
    generalize TT x = tt at *
    cases c1 : decide (0 ≤ tt)
    · have hb := hsame (fun h => by simp at c1; omega)
      simp only [RT, FS, ↓RE, okR, argEnv, Nat.reduceAdd, Nat.reduceSub, Nat.reduceLT, Nat.reduceLeDiff, Nat.reduceEqDiff, reduceIte, RM, intL_len, wl, ixl, hlq, oTx, c1]
      rw [hBS, hNS, hex, List.append_nil, hb]
      simp [headW, heapW, envW, blkLt, D.ltL, D.lt, look, hget, Sx.hset, shD, inD, rtD_lt, rtD_some]
    have c1' : 0 ≤ tt := by simpa using c1
    cases c2 : decide ((B i).1 < 0)
    case true =>
      have hb := hnew ⟨c1', .inl (by simpa using c2)⟩
      simp only [RT, FS, ↓RE, okR, argEnv, Nat.reduceAdd, Nat.reduceSub, Nat.reduceLT, Nat.reduceLeDiff, Nat.reduceEqDiff, reduceIte, RM, intL_len, wl, ixl, hlq, oTx, c1, c2]
      rw [hBS, hNS, hex, List.append_nil, hb]
      simp [headW, heapW, envW, blkLt, D.ltL, D.lt, look, hget, Sx.hset, shD, inD, rtD_lt, rtD_some]
    have c2' : ¬ (B i).1 < 0 := by simpa using c2
    cases c3 : decide (tt < (B i).1)
    case true =>
      have hb := hnew ⟨c1', .inr (.inl (by simpa using c3))⟩
      simp only [RT, FS, ↓RE, okR, argEnv, Nat.reduceAdd, Nat.reduceSub, Nat.reduceLT, Nat.reduceLeDiff, Nat.reduceEqDiff, reduceIte, RM, intL_len, wl, ixl, hlq, oTx, c1, c2, c3]
      rw [hBS, hNS, hex, List.append_nil, hb]
      simp [headW, heapW, envW, blkLt, D.ltL, D.lt, look, hget, Sx.hset, shD, inD, rtD_lt, rtD_some]
    have c3' : ¬ tt < (B i).1 := by simpa using c3
    cases c4 : (tt == (B i).1)
    · have c4' : ¬ tt = (B i).1 := by simpa using c4
      have hb := hsame (fun h => by omega)
      simp only [RT, FS, ↓RE, okR, argEnv, Nat.reduceAdd, Nat.reduceSub, Nat.reduceLT, Nat.reduceLeDiff, Nat.reduceEqDiff, reduceIte, RM, intL_len, wl, ixl, hlq, oTx, c1, c2, c3, c4]
      rw [hBS, hNS, hex, List.append_nil, hb]
      simp [headW, heapW, envW, blkLt, D.ltL, D.lt, look, hget, Sx.hset, shD, inD, rtD_lt, rtD_some]
    have c4' : tt = (B i).1 := by simpa using c4
    obtain ⟨r, hr, hrl⟩ : ∃ r, (B i).2 = some r ∧ r.length ≤ 8 := hBf.resolve_left c2'
    have oL := gLess_eq (a := x) (b := r) (by simp only [BL]; omega) (by simp only [BL]; omega)
    rw [hr] at hsame hnew
    simp only [Option.getD_some] at hsame hnew
    have hrt : rtD (B i).2 = .sl (intL r) := by rw [hr]; rfl
    rw [hrt]
    cases c5 : lessB x r
    · rw [c5] at oL
      have hb := hsame (fun h => by rcases h.2 with h | h | h <;> first | omega | (rw [c5] at h; cases h.2))
      simp only [RT, FS, ↓RE, okR, argEnv, Nat.reduceAdd, Nat.reduceSub, Nat.reduceLT, Nat.reduceLeDiff, Nat.reduceEqDiff, reduceIte, RM, intL_len, wl, ixl, hlq, oTx, c1, c2, c3, c4, oL]
      rw [hBS, hNS, hex, List.append_nil, hb]
      simp [headW, heapW, envW, blkLt, D.ltL, D.lt, look, hget, Sx.hset, shD, inD, rtD_lt, hrt]
    · rw [c5] at oL
      have hb := hnew ⟨c1', .inr (.inr ⟨c4', c5⟩)⟩
      simp only [RT, FS, ↓RE, okR, argEnv, Nat.reduceAdd, Nat.reduceSub, Nat.reduceLT, Nat.reduceLeDiff, Nat.reduceEqDiff, reduceIte, RM, intL_len, wl, ixl, hlq, oTx, c1, c2, c3, c4, oL]
      rw [hBS, hNS, hex, List.append_nil, hb]
      simp [headW, heapW, envW, blkLt, D.ltL, D.lt, look, hget, Sx.hset, shD, inD, rtD_lt, rtD_some]
  have hlq : (nAt x (x.length - 1) == 0) = false := by simpa [lst] using hl0
  have hex : expL rl.length x = extL rl.length x rl.length := by unfold expL; rw [if_neg hl0]
  have hbs : bst TT (B i) x = B i := by unfold bst; rw [if_neg hl0]
  rw [hex] at hNS
  rw [hbs] at hBS
  simp only [RT, FS, ↓RE, okR, argEnv, Nat.reduceAdd, Nat.reduceSub, Nat.reduceLT, Nat.reduceLeDiff, Nat.reduceEqDiff, reduceIte, RM, intL_len, wl, ixl, hlq]
  refine awp_peel (T := [(5, [(11, false, false, [])])]) e65_ok (by kernel_rfl) (by kernel_rfl) ?_
  simp only [RT, FS, ↓RE, okR, argEnv, Nat.reduceAdd, Nat.reduceSub, Nat.reduceLT, Nat.reduceLeDiff, Nat.reduceEqDiff, reduceIte, RM]
  obtain ⟨G, hG⟩ : ∃ G : Nat → List (List Int), G = fun k => N i ++ extL rl.length x k := ⟨_, rfl⟩
  have hG0 : G 0 = N i := by rw [hG]; simp [extL]
  have hGE : G rl.length = N (i + 1) := by rw [hNS, hG]
  have hGS : ∀ k : Nat, G (k + 1) = G k ++ if (k : Int) ∈ x then [] else [x ++ [(k : Int)]] := fun k => by rw [hG]; simp only [extL_succ, List.append_assoc]
  have hGl : ∀ k, (G k).length ≤ 1073741824 + k := fun k => by
    rw [hG]
    have := extL_len rl.length x k
    simp only [List.length_append]; omega
  clear hG
  rw [hBS]
  refine awp_block (awp_loopH (ι := Nat) (fun k => [(1, .int .i64 c), (2, .int .i64 m), (3, .ptr 0 0), (8, .sl (rowsD now)), (10, .int .i64 (B i).1), (11, rtD (B i).2), (12, .osl 1 (G k).length), (13, .int .i64 (i : Int)), (14, .sl (intL x)), (16, .int .i64 (k : Int))]) (fun k => [(1, .arr 29 1 (rowsD (G k))), (0, .box [.int .i64 sw, .int .i64 sd, shD sh, rlD rl, lkD lk, .int .i64 cell, .int .i64 mi, .int .i64 ev, .int .i64 en, inD af])]) 2 (fun k => k ≤ rl.length) (fun k => rl.length - k) 0 (Nat.zero_le _) ?_ ?_)
  · rw [hG0]; simp [headW, heapW, envW, blkLt, D.ltL, D.lt, look, hget, Sx.hset, shD, inD, rtD_lt]
  intro k hkl
  refine awp_peel (T := [(5, [(11, false, false, [])])]) e65_ok (by kernel_rfl) (by kernel_rfl) ?_
  rcases Nat.lt_or_ge k rl.length with hlk | hgk
  rotate_left
  · have hq := nat_lt_false hgk
    simp only [RT, FS, ↓RE, okR, argEnv, Nat.reduceAdd, Nat.reduceSub, Nat.reduceLT, Nat.reduceLeDiff, Nat.reduceEqDiff, reduceIte, RM, List.length_map, hq, decide_false]
    have hke : k = rl.length := by omega
    subst hke
    rw [hGE]
    simp [headW, heapW, envW, blkLt, D.ltL, D.lt, look, hget, Sx.hset, shD, inD, rtD_lt]
  have hq := nat_lt_true hlk
  simp only [RT, FS, ↓RE, okR, argEnv, Nat.reduceAdd, Nat.reduceSub, Nat.reduceLT, Nat.reduceLeDiff, Nat.reduceEqDiff, reduceIte, RM, List.length_map, hq, decide_true]
  refine awp_seqE (ι := Unit) (nid := 2) (n := 112) (fun _ => [(1, .int .i64 c), (2, .int .i64 m), (3, .ptr 0 0), (8, .sl (rowsD now)), (10, .int .i64 (B i).1), (11, rtD (B i).2), (12, .osl 1 (G (k + 1)).length), (13, .int .i64 (i : Int)), (14, .sl (intL x)), (16, .int .i64 (k : Int))]) (fun _ => [(1, .arr 29 1 (rowsD (G (k + 1)))), (0, .box [.int .i64 sw, .int .i64 sd, shD sh, rlD rl, lkD lk, .int .i64 cell, .int .i64 mi, .int .i64 ev, .int .i64 en, inD af])]) (fun _ => True) ?_ ?_
  rotate_left
  · rintro _ _
    have wi := wrap_i64 (z := (k : Int) + 1) (by omega) (by omega)
    refine awp_rest (T := [(5, [(11, false, false, [])])]) e65_ok (by kernel_rfl) (by kernel_rfl) ?_
    simp only [RT, FS, ↓RE, okR, argEnv, Nat.reduceAdd, Nat.reduceSub, Nat.reduceLT, Nat.reduceLeDiff, Nat.reduceEqDiff, reduceIte, RM, wi]
    exact ⟨k + 1, by omega, by omega, by simp [headW, heapW, envW, blkLt, D.ltL, D.lt, look, hget, Sx.hset, shD, inD, rtD_lt]⟩
  refine awp_block ?_
  have oHk := gHasL_eq (l := x) (by simp only [BL]; omega) (k : Int)
  have hany : (x.any fun y => decide (y = (k : Int))) = decide ((k : Int) ∈ x) := by
    rw [Bool.eq_iff_iff, List.any_eq_true, decide_eq_true_eq]
    exact ⟨fun ⟨y, h1, h2⟩ => by have h2 : y = (k : Int) := by simpa using h2
                                 rw [← h2]; exact h1, fun h => ⟨_, h, by simp⟩⟩
  rw [hany] at oHk
  have hkG := hGl k
  refine awp_seq ?_
  refine awp_rest (T := [(5, [(11, false, false, [])])]) e65_ok (by kernel_rfl) (by kernel_rfl) ?_
  by_cases hmem : (k : Int) ∈ x
  · rw [decide_eq_true hmem] at oHk
    simp only [RT, FS, ↓RE, okR, argEnv, Nat.reduceAdd, Nat.reduceSub, Nat.reduceLT, Nat.reduceLeDiff, Nat.reduceEqDiff, reduceIte, RM, oHk, Bool.not_true]
    refine awp_rest (T := [(5, [(11, false, false, [])])]) e65_ok (by kernel_rfl) (by kernel_rfl) ?_
    simp only [RT, FS, ↓RE, okR, argEnv, Nat.reduceAdd, Nat.reduceSub, Nat.reduceLT, Nat.reduceLeDiff, Nat.reduceEqDiff, reduceIte, RM]
    rw [hGS, if_pos hmem, List.append_nil]
    simp [headW, heapW, envW, blkLt, D.ltL, D.lt, look, hget, Sx.hset, shD, inD, rtD_lt]
  rw [decide_eq_false hmem] at oHk
  simp only [RT, FS, ↓RE, okR, argEnv, Nat.reduceAdd, Nat.reduceSub, Nat.reduceLT, Nat.reduceLeDiff, Nat.reduceEqDiff, reduceIte, RM, oHk, Bool.not_false]
  refine awp_cond (t := true) rfl (fun _ => ?_) (fun h => by cases h)
  refine awp_headW [(1, .int .i64 c), (2, .int .i64 m), (3, .ptr 0 0), (8, .sl (rowsD now)), (10, .int .i64 (B i).1), (11, rtD (B i).2), (12, .osl 1 (G k).length), (13, .int .i64 (i : Int)), (14, .sl (intL x)), (16, .int .i64 (k : Int))] [(1, .arr 29 1 (rowsD (G k))), (0, .box [.int .i64 sw, .int .i64 sd, shD sh, rlD rl, lkD lk, .int .i64 cell, .int .i64 mi, .int .i64 ev, .int .i64 en, inD af])] 2 112 (by simp [headW, heapW, envW, blkLt, D.ltL, D.lt, look, hget, Sx.hset, shD, inD, rtD_lt]) ?_
  have mkA := fun h nid => int_nils x h nid (by omega)
  have apA := fun h nid (hb : hget h 2 = some (.arr 3 1 (intL x))) (hb2 : hget h 3 = some (.arr 3 1 [[.int .i64 (k : Int)]])) => oI_app (n := x.length) (n2 := 1) (r := [(k : Int)]) hb rfl hb2 rfl nid (by simp; omega)
  obtain ⟨xk, hxk⟩ : ∃ xk, xk = x ++ [(k : Int)] := ⟨_, rfl⟩
  have hxkl : xk.length = x.length + 1 := by rw [hxk]; simp
  rw [← hxk] at apA
  have apR := fun h nid (hb : hget h 1 = some (.arr 29 1 (rowsD (G k)))) (hb2 : hget h 2 = some (.arr 29 1 [[.sl (intL xk)]])) => oR_app (n := (G k).length) hb rfl hb2 nid (by omega)
  refine awp_region (aops_mid e65_ok 6 (by decide) ?_)
  simp only [RT, FS, ↓RE, okR, argEnv, Nat.reduceAdd, Nat.reduceSub, Nat.reduceLT, Nat.reduceLeDiff, Nat.reduceEqDiff, reduceIte, RM, List.take_succ_cons, List.take_zero, mkA, lit_1, apA]
  refine ⟨⟨[(1, .int .i64 c), (2, .int .i64 m), (3, .ptr 0 0), (8, .sl (rowsD now)), (10, .int .i64 (B i).1), (11, rtD (B i).2), (12, .osl 1 (G k).length), (13, .int .i64 (i : Int)), (14, .sl (intL x)), (16, .int .i64 (k : Int)), (101, .osl 1 (G k).length), (106, .sl (intL xk))], [(1, .arr 29 1 (rowsD (G k))), (0, .box [.int .i64 sw, .int .i64 sd, shD sh, rlD rl, lkD lk, .int .i64 cell, .int .i64 mi, .int .i64 ev, .int .i64 en, inD af])], 2, 112⟩, imp_thaw 2 (.weak (weak_of ?_)), ?_⟩
  · simp [headW, heapW, envW, blkLt, D.ltL, D.lt, look, hget, frzHH, herase, frzBlk, fz_int, fz_ref, fz_ptr, fz_bool, fz_sl, fz_nils, fz_osl, fzC_some, fzC_arr, fzP_some, intL_len, hxkl, shD, inD, rtD_lt, rtD_fz]
  simp only [RT, FS, ↓RE, okR, argEnv, Nat.reduceAdd, Nat.reduceSub, Nat.reduceLT, Nat.reduceLeDiff, Nat.reduceEqDiff, reduceIte, RM, List.drop_succ_cons, List.drop_zero, litR, apR]
  rw [hGS, if_neg hmem, ← hxk]
  simp [headW, heapW, envW, blkLt, D.ltL, D.lt, look, hget, Sx.hset, shD, inD, rtD_lt]
end Go.Sx
