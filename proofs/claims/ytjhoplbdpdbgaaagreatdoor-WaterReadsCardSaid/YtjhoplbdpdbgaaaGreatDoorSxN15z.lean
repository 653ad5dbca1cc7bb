/- Own work: contracts of functions, used in the proof of a law. -/
import Derived.Test.YtjhoplbdpdbgaaaGreatDoorSxN14z
set_option linter.unusedVariables false
set_option linter.unusedSimpArgs false
namespace Go.Sx
open Go.Proofs Go.Lib
set_option maxRecDepth 10000
variable {P : Program} {w0 : World}

theorem pcallg_rel {f : FuncId} {ds : List D} {h : H} {nid : Nat} {Q Q' : D → H → Nat → Prop} {R : List PanicEntry → H → Nat → Prop} (hp : PCallG P w0 f ds h nid Q R) (hq : ∀ r h n, Q r h n → ∃ r', Q' r' h n ∧ ∀ X m v, Rel X m v r → Rel X m v r') : PCallG P w0 f ds h nid Q' R :=
 ⟨hp.1, fun X k vs hfr hh hn hg hr => (hp.2 X k vs hfr hh hn hg hr).mono fun e w' ⟨k', hw, hg', hle, hres⟩ => ⟨k', hw, hg', hle, hres.elim (fun ⟨v, r, he, hQ, hrel⟩ => by
  obtain ⟨r', h1, h2⟩ := hq r _ _ hQ
  exact .inl ⟨v, r', he, h1, h2 _ _ _ hrel⟩) fun h => .inr h⟩⟩
def unN : D → D
 | .nils => .sl []
 | d => d
theorem rel_unN {X : Rx} {n : Nat} {v : Value} {d : D} (h : Rel X n v d) : Rel X n v (unN d) := by
 cases d with
 | nils => cases h; exact .sln _
 | _ => exact h
theorem rel_aggN {X : Rx} {n : Nat} {v : Value} {ds : List D} (h : Rel X n v (.agg ds)) : Rel X n v (.agg (ds.map unN)) := by
 cases h with
 | agg _ vs _ h1 h2 =>
  exact .agg _ vs _ (by rw [h1, List.length_map]) fun i v d e1 e2 => by
   rw [List.getElem?_map, Option.map_eq_some_iff] at e2
   obtain ⟨d0, e3, rfl⟩ := e2
   exact rel_unN (h2 i v d0 e1 e3)
theorem rel_tupN {X : Rx} {n : Nat} {v : Value} {ds : List D} {e : D} (h : Rel X n v (.tup [.agg ds, e])) : Rel X n v (.tup [.agg (ds.map unN), e]) := by
 cases h with
 | tup _ vs _ h1 h2 =>
  exact .tup _ vs _ (by rw [h1]; rfl) fun i v d e1 e2 => by
   match i with
   | 0 => simp at e2; subst e2; exact rel_aggN (h2 0 v _ e1 rfl)
   | i + 1 => exact h2 (i + 1) v d e1 (by simpa using e2)

def wx0 : Wx := wxOf []
theorem wx0_c : (wcL []).map unN = wx0.c [] := rfl
theorem clos_nil {c2 : Code} {gid : Nat} {go : Oper} (hc : Tryz.f100.body = some (.seq (.region gid #[go] false) c2)) (h : H) (nid b1 b : Nat) :
  AWG Tryz.prog w0 nid (true, []) c2 ⟨[(5, .nili), (0, .ptr b1 0), (1, .ptr b 0)], h, nid, 12⟩ fun x s' => (x = .ex .normal ∨ x = .ex .ret) ∧ s'.h = h ∧ s'.nid = nid := by
 have hc := Option.some.inj hc
 injection hc with _ hc
 subst hc
 refine awg_block ?_
 refine awg_seq ?_
 refine awg_region (aops_cons rfl rfl (opOk_eqnil (b := true) rfl ⟨_, Tryz.underlying20⟩ (.inl ⟨by kernel_rfl, rfl⟩) (aops_nil ?_)))
 simp only [List.getElem_toArray, List.getElem_cons_zero, List.getElem_cons_succ]
 refine awg_restT (T := []) oNone_ok rfl ?_
 simp only [FS, ↓RE, okR, argEnv, Nat.reduceAdd, Nat.reduceSub, Nat.reduceLT, Nat.reduceLeDiff, Nat.reduceEqDiff, reduceIte, RT, RM, RG]
 simp
theorem clos_wrong {c2 : Code} {gid : Nat} {go : Oper} (hc : Tryz.f100.body = some (.seq (.region gid #[go] false) c2)) (d : ByteArray) (e : D) (cs : List D) (hcs : cs.length = 20) :
  AWG Tryz.prog w0 2 (true, []) c2 ⟨[(5, .ifc 150 (.agg [.str d])), (0, .ptr 0 0), (1, .ptr 1 0)], [(1, .box [e]), (0, .box cs)], 2, 12⟩ fun x s' => (x = .ex .normal ∨ x = .ex .ret) ∧ hget s'.h 0 = some (.box (wcL [])) ∧ hget s'.h 1 = some (.box [.int .i64 4]) := by
 have hc := Option.some.inj hc
 injection hc with _ hc
 subst hc
 refine awg_block ?_
 refine awg_seq ?_
 refine awg_region (aops_cons rfl rfl (opOk_eqnil (b := false) rfl ⟨_, Tryz.underlying20⟩ (.inr ⟨⟨150, .agg [.str d], by kernel_rfl⟩, rfl⟩) (aops_nil ?_)))
 simp only [List.getElem_toArray, List.getElem_cons_zero, List.getElem_cons_succ]
 refine awg_cond (t := false) (by kernel_rfl) (fun h => by cases h) fun _ => ?_
 refine awg_seq ?_
 refine awg_region (aops_cons rfl rfl (opOk_assert (d := .agg [.str d]) rfl ⟨_, Tryz.underlying150⟩ (by kernel_rfl) (aops_cons rfl rfl (opOk_read (d := .bool true) (by kernel_rfl) (aops_cons rfl rfl (opOk_read (d := .agg [.str d]) (by kernel_rfl) (aops_nil ?_)))))))
 simp only [List.getElem_toArray, List.getElem_cons_zero, List.getElem_cons_succ]
 have hp : ∀ l : List D, l.length = 20 → putL cs 0 l = l := fun l h => by
  unfold putL
  rw [List.drop_of_length_le (by omega)]
  simp
 refine awg_restT (T := []) oNone_ok rfl ?_
 simp only [FS, ↓RE, okR, argEnv, Nat.reduceAdd, Nat.reduceSub, Nat.reduceLT, Nat.reduceLeDiff, Nat.reduceEqDiff, reduceIte, RT, RM, RG, hcs]
 rw [hp _ rfl]
 exact ⟨.inl trivial, rfl⟩

def readR (t : Bs) : D := if 20000 < t.length then .tup [.agg (wx0.c []), .int .i64 3] else match readB t with
 | none => .tup [.agg (wx0.c []), .int .i64 4]
 | some gs => if okWx (wxOf gs) = true then .tup [.agg ((wxOf gs).c []), .int .i64 0] else .tup [.agg (wx0.c []), .int .i64 2]
theorem flat_ge : ∀ ls : List Bs, ls.length ≤ (flatB ls).length
 | [] => Nat.zero_le _
 | s :: r => by
  have := flat_ge r
  simp only [flatB, List.flatMap_cons, List.length_append, List.length_cons] at this ⊢
  omega
theorem wxl_of {t : Bs} {gs : List Ga} (ht : t.length ≤ 1000000) (h : readB t = some gs) : WxL (wxOf gs) := by
 obtain ⟨rfl, h5, _⟩ := (read_iff _ _).1 h
 match gs, h5 with
 | [a, b, c, d, e], _ =>
  have := flat_ge (fileLines [a, b, c, d, e])
  have h2 : (fileLines [a, b, c, d, e]).length = a.rs.length + b.rs.length + c.rs.length + d.rs.length + e.rs.length + 6 := by
   simp [fileLines, gasLines, namesB, gaLines]; omega
  have h3 : (flatB (fileLines [a, b, c, d, e])).length ≤ 1000000 := ht
  exact ⟨by show a.rs.length ≤ _; omega, by show b.rs.length ≤ _; omega, by show c.rs.length ≤ _; omega, by show d.rs.length ≤ _; omega, by show e.rs.length ≤ _; omega⟩
def readQ (RR r : D) : Prop := (∃ e, r = .tup [.agg (wcL []), .int .i64 e] ∧ RR = .tup [.agg (wx0.c []), .int .i64 e]) ∨ ∃ gs, r = .tup [.agg ((wxOf gs).c []), .int .i64 0] ∧ RR = r
theorem Read_g (hT : TabsT w0) (t : Bs) (ht : t.length ≤ 1000000) : PCallG Tryz.prog w0 44 [stD t] [] 0 (fun r _ _ => r = readR t) NoP := by
 refine pcallg_rel (Q := fun r _ _ => readQ (readR t) r) ?_ ?_
 rotate_left
 ·rintro r h n (⟨e, rfl, he⟩ | ⟨gs, rfl, he⟩)
  ·exact ⟨_, rfl, fun X m v hr => by rw [he, ← wx0_c]; exact rel_tupN hr⟩
  ·exact ⟨_, rfl, fun X m v hr => by rw [he]; exact hr⟩
 have pR := read_g hT t ht
 have hR : readR t = if 20000 < t.length then .tup [.agg (wx0.c []), .int .i64 3] else match readB t with
 | none => .tup [.agg (wx0.c []), .int .i64 4]
 | some gs => if okWx (wxOf gs) = true then .tup [.agg ((wxOf gs).c []), .int .i64 0] else .tup [.agg (wx0.c []), .int .i64 2] := rfl
 have hwl := fun gs => wxl_of (gs := gs) ht
 generalize readR t = RR at *
 refine pcallg_of_bwg Tryz.func44 rfl (by kernel_rfl) ?_
 show BWg _ _ _ _ _ _ ⟨_, _, _, 16⟩
 refine bwg_peel (T := []) (rs := [.cell 2 29, .cell 3 39]) oNone_ok rfl rfl ?_
 simp only [FS, ↓RE, okR, argEnv, Nat.reduceAdd, Nat.reduceSub, Nat.reduceLT, Nat.reduceLeDiff, Nat.reduceEqDiff, reduceIte, RT, RM, RG]
 refine bwg_peel (T := []) (rs := [.cell 2 29, .cell 3 39]) oNone_ok rfl rfl ?_
 cases q1 : decide ((20000 : Int) < (t.length : Int))
 case true =>
  simp only [FS, ↓RE, okR, argEnv, Nat.reduceAdd, Nat.reduceSub, Nat.reduceLT, Nat.reduceLeDiff, Nat.reduceEqDiff, reduceIte, RT, RM, RG, s_len, q1]
  exact .inl ⟨3, rfl, by rw [hR, if_pos (by simp at q1; omega)]⟩
 rw [if_neg (by simp at q1; omega)] at hR
 simp only [FS, ↓RE, okR, argEnv, Nat.reduceAdd, Nat.reduceSub, Nat.reduceLT, Nat.reduceLeDiff, Nat.reduceEqDiff, reduceIte, RT, RM, RG, s_len, q1]
 refine bwg_defer2 (g := 100) (gn := Tryz.f100) (t5 := 2) (t6 := 3) (t41 := 8) (t4 := 5) (b1 := 0) (b := 1) rfl rfl rfl rfl rfl rfl (by kernel_rfl) (by kernel_rfl) (show 8 < 16 by decide) Tryz.func100 rfl rfl rfl rfl rfl (by decide) (by kernel_rfl) fun d => ?_
 refine awg_seq (awg_from (ra_data oNone_ok 1 (Nat.le_of_ble_eq_true rfl) ?_))
 simp only [FS, ↓RE, okR, argEnv, Nat.reduceAdd, Nat.reduceSub, Nat.reduceLT, Nat.reduceLeDiff, Nat.reduceEqDiff, reduceIte, RT, RM, RG, List.take_succ_cons, List.take_zero, List.drop_zero, List.drop_succ_cons, Nat.reduceAdd, List.getElem_toArray, List.getElem_cons_zero, List.getElem_cons_succ]
 refine ra_call rfl (.inl rfl) rfl rfl ((pcallg_data (A := fun r => ∃ gs, readB t = some gs ∧ r = .agg ((wxOf gs).c [])) (R := fun ch => WrongP ch ∧ readB t = none) pR rfl ?_).mono ?_ fun ch h nid hq => ?_)
 ·rintro r ⟨gs, _, rfl⟩
  simp [Wx.c, gaC, D.fr, D.frL]
 rotate_left
 ·obtain ⟨⟨⟨v, sd, rfl, hv⟩, hno⟩, rfl, rfl⟩ := hq
  rw [hno] at hR
  refine ⟨⟨show 0 < 2 by decide, show 1 < 2 by decide⟩, v, _, fun h _ => hget h 0 = some (.box (wcL [])) ∧ hget h 1 = some (.box [.int .i64 4]), rfl, hv, clos_wrong rfl sd _ _ rfl, fun h nid hk => ⟨[.agg (wcL []), .int .i64 4], ?_, .inl ⟨4, rfl, hR⟩⟩⟩
  show resD _ ⟨_, _, _, _⟩ [.cell 2 29, .cell 3 39] = _
  simp only [FS, ↓RE, okR, argEnv, Nat.reduceAdd, Nat.reduceSub, Nat.reduceLT, Nat.reduceLeDiff, Nat.reduceEqDiff, reduceIte, RT, RM, res_cell, hk.1, hk.2, wc_zero]
 rintro r h nid ⟨⟨gs, hgs, rfl⟩, rfl, rfl⟩
 rw [hgs] at hR
 dsimp only at hR
 have pW := weather_t _ (hwl gs hgs)
 refine ra_data oNone_ok 1 (Nat.le_of_ble_eq_true rfl) ?_
 have hexp : ∀ w : Wx, w.c [] = [.int .i64 w.tide.rate, .int .i64 w.tide.least, .int .i64 w.tide.most, .sl (w.tide.rs.map Rd.d), .int .i64 w.east.rate, .int .i64 w.east.least, .int .i64 w.east.most, .sl (w.east.rs.map Rd.d), .int .i64 w.north.rate, .int .i64 w.north.least, .int .i64 w.north.most, .sl (w.north.rs.map Rd.d),
  .int .i64 w.wave.rate, .int .i64 w.wave.least, .int .i64 w.wave.most, .sl (w.wave.rs.map Rd.d), .int .i64 w.swell.rate, .int .i64 w.swell.least, .int .i64 w.swell.most, .sl (w.swell.rs.map Rd.d)] := fun _ => rfl
 have hfin : ∀ w : Wx, ∀ gs, w = wxOf gs → okWx w = true → RR = (if okWx w = true then .tup [.agg (w.c []), .int .i64 0] else .tup [.agg (wx0.c []), .int .i64 2]) → readQ RR (.tup [.agg (w.c []), .int .i64 0]) := fun w gs hg hk h => .inr ⟨gs, by rw [hg], by rw [h, if_pos hk]⟩
 have hbad : ∀ w : Wx, okWx w = false → RR = (if okWx w = true then .tup [.agg (w.c []), .int .i64 0] else .tup [.agg (wx0.c []), .int .i64 2]) → readQ RR (.tup [.agg (wcL []), .int .i64 2]) := fun w hk h => .inl ⟨2, rfl, by rw [h, if_neg (by rw [hk]; simp)]⟩
 have hfin := hfin _ gs rfl
 generalize wxOf gs = w at *
 have hbad := hbad w
 have hexp := hexp w
 generalize hwc : w.c [] = WC at *
 subst hexp
 generalize readQ RR = QQ at *
 simp only [FS, ↓RE, okR, argEnv, Nat.reduceAdd, Nat.reduceSub, Nat.reduceLT, Nat.reduceLeDiff, Nat.reduceEqDiff, reduceIte, RT, RM, RG, List.take_succ_cons, List.take_zero, List.drop_zero, List.drop_succ_cons, Nat.reduceAdd, List.getElem_toArray, List.getElem_cons_zero, List.getElem_cons_succ]
 refine ra_end rfl ?_
 simp only [FS, ↓RE, okR, argEnv, Nat.reduceAdd, Nat.reduceSub, Nat.reduceLT, Nat.reduceLeDiff, Nat.reduceEqDiff, reduceIte, RT, RM, RG, List.take_succ_cons, List.take_zero, List.drop_zero, List.drop_succ_cons, Nat.reduceAdd, List.getElem_toArray, List.getElem_cons_zero, List.getElem_cons_succ]
 refine awg_seq ?_
 cases hk : okWx w
 ·rw [hk] at pW
  have hb := hbad hk hR
  refine awg_peelT (T := []) oNone_ok rfl ?_
  simp only [FS, ↓RE, okR, argEnv, Nat.reduceAdd, Nat.reduceSub, Nat.reduceLT, Nat.reduceLeDiff, Nat.reduceEqDiff, reduceIte, RT, RM, RG]
  refine call_of_pure pW rfl ?_
  simp only [FS, ↓RE, okR, argEnv, Nat.reduceAdd, Nat.reduceSub, Nat.reduceLT, Nat.reduceLeDiff, Nat.reduceEqDiff, reduceIte, RT, RM, RG, Bool.not_false]
  refine awg_restT (T := []) oNone_ok rfl ?_
  simp only [FS, ↓RE, okR, argEnv, Nat.reduceAdd, Nat.reduceSub, Nat.reduceLT, Nat.reduceLeDiff, Nat.reduceEqDiff, reduceIte, RT, RM, RG]
  refine ⟨⟨[.agg (wcL []), .int .i64 2], ?_, hb⟩, ⟨show 0 < 2 by decide, show 1 < 2 by decide⟩, clos_nil rfl _ _ _ _⟩
  show resD _ ⟨_, _, _, _⟩ [.cell 2 29, .cell 3 39] = _
  simp only [FS, ↓RE, okR, argEnv, Nat.reduceAdd, Nat.reduceSub, Nat.reduceLT, Nat.reduceLeDiff, Nat.reduceEqDiff, reduceIte, RT, RM, res_cell, wc_zero]
 ·rw [hk] at pW
  have hb := hfin hk hR
  refine awg_peelT (T := []) oNone_ok rfl ?_
  simp only [FS, ↓RE, okR, argEnv, Nat.reduceAdd, Nat.reduceSub, Nat.reduceLT, Nat.reduceLeDiff, Nat.reduceEqDiff, reduceIte, RT, RM, RG]
  refine call_of_pure pW rfl ?_
  simp only [FS, ↓RE, okR, argEnv, Nat.reduceAdd, Nat.reduceSub, Nat.reduceLT, Nat.reduceLeDiff, Nat.reduceEqDiff, reduceIte, RT, RM, RG, Bool.not_true]
  refine awg_restT (T := []) oNone_ok rfl ?_
  simp only [FS, ↓RE, okR, argEnv, Nat.reduceAdd, Nat.reduceSub, Nat.reduceLT, Nat.reduceLeDiff, Nat.reduceEqDiff, reduceIte, RT, RM, RG]
  refine awg_restT (T := []) oNone_ok rfl ?_
  simp only [FS, ↓RE, okR, argEnv, Nat.reduceAdd, Nat.reduceSub, Nat.reduceLT, Nat.reduceLeDiff, Nat.reduceEqDiff, reduceIte, RT, RM, RG]
  refine ⟨⟨[.agg _, .int .i64 0], ?_, hb⟩, ⟨show 0 < 2 by decide, show 1 < 2 by decide⟩, clos_nil rfl _ _ _ _⟩
  show resD _ ⟨_, _, _, _⟩ [.cell 2 29, .cell 3 39] = _
  simp only [FS, ↓RE, okR, argEnv, Nat.reduceAdd, Nat.reduceSub, Nat.reduceLT, Nat.reduceLeDiff, Nat.reduceEqDiff, reduceIte, RT, RM, res_cell]
end Go.Sx
