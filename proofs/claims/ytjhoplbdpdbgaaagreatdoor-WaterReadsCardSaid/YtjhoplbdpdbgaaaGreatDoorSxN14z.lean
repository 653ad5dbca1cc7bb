/- Own work: contracts of functions, used in the proof of a law. -/
import Derived.Test.YtjhoplbdpdbgaaaGreatDoorSxNC
import Derived.Test.YtjhoplbdpdbgaaaGreatDoorSxN11z
set_option linter.unusedVariables false
set_option linter.unusedSimpArgs false
namespace Go.Sx
open Go.Proofs Go.Lib
set_option maxRecDepth 10000
variable {w0 : World}

theorem suf_10 (t : Bs) : hasSuffix t [10] = decide (t.getLast? = some 10) := by
 unfold hasSuffix
 rw [Bool.eq_iff_iff, List.isSuffixOf_iff_suffix, decide_eq_true_eq]
 constructor
 ·rintro ⟨r, rfl⟩; simp
 ·intro h
  obtain ⟨r, rfl⟩ := List.getLast?_eq_some_iff.1 h
  exact ⟨r, rfl⟩
theorem trim_10 {t : Bs} (h : t.getLast? = some 10) : trimSuffix t [10] = t.dropLast := by
 unfold trimSuffix
 rw [suf_10, decide_eq_true h]
 obtain ⟨r, rfl⟩ := List.getLast?_eq_some_iff.1 h
 simp
def zG : List D := [.int .i64 0, .int .i64 0, .int .i64 0, .nils]
def wcL (gs : List Ga) : List D := gs.flatMap Ga.c ++ (List.replicate (5 - gs.length) zG).flatten
theorem wc_len {gs : List Ga} (h : gs.length ≤ 5) : (wcL gs).length = 20 := by
 have h1 : ∀ l : List Ga, (l.flatMap Ga.c).length = 4 * l.length := fun l => by
  induction l with
  | nil => rfl
  | cons a r ih => rw [List.flatMap_cons, List.length_append, ih]; simp [Ga.c]; omega
 have h2 : ∀ n, ((List.replicate n zG).flatten).length = 4 * n := fun n => by
  induction n with
  | zero => rfl
  | succ n ih => rw [List.replicate_succ, List.flatten_cons, List.length_append, ih]; simp [zG]; omega
 unfold wcL
 rw [List.length_append, h1, h2]
 omega
theorem names_lk2 {i : Nat} {n : Bs} (h : namesB[i]? = some n) (RC WC : List D) : lookupD Tryz.prog [(2, .map [(.str ⟨#[116, 105, 100, 101]⟩, .ptr 0 0), (.str ⟨#[101, 97, 115, 116]⟩, .ptr 0 4), (.str ⟨#[110, 111, 114, 116, 104]⟩, .ptr 0 8), (.str ⟨#[119, 97, 118, 101]⟩, .ptr 0 12), (.str ⟨#[115, 119, 101, 108, 108]⟩, .ptr 0 16)]), (1, .box RC), (0, .box WC)] 142 (.mp 2) (stD n) false = some (.ptr 0 (4 * i)) :=
 names_i (P := fun i n => lookupD Tryz.prog [(2, .map [(.str ⟨#[116, 105, 100, 101]⟩, .ptr 0 0), (.str ⟨#[101, 97, 115, 116]⟩, .ptr 0 4), (.str ⟨#[110, 111, 114, 116, 104]⟩, .ptr 0 8), (.str ⟨#[119, 97, 118, 101]⟩, .ptr 0 12), (.str ⟨#[115, 119, 101, 108, 108]⟩, .ptr 0 16)]), (1, .box RC), (0, .box WC)] 142 (.mp 2) (stD n) false = some (.ptr 0 (4 * i))) (by kernel_rfl) (by kernel_rfl) (by kernel_rfl) (by kernel_rfl) (by kernel_rfl) h
theorem wc_zero : wcL [] = [.int .i64 0, .int .i64 0, .int .i64 0, .nils, .int .i64 0, .int .i64 0, .int .i64 0, .nils, .int .i64 0, .int .i64 0, .int .i64 0, .nils, .int .i64 0, .int .i64 0, .int .i64 0, .nils, .int .i64 0, .int .i64 0, .int .i64 0, .nils] := rfl
theorem ltL_app2 (m : Nat) : ∀ (a b : List D), D.ltL m (a ++ b) = (D.ltL m a && D.ltL m b)
 | [], b => by simp [D.ltL]
 | x :: a, b => by simp only [List.cons_append, D.ltL, ltL_app2 m a b, Bool.and_assoc]
theorem wc_lt (gs : List Ga) (m : Nat) : D.ltL m (wcL gs) = true := by
 have h1 : ∀ l : List Ga, D.ltL m (l.flatMap Ga.c) = true := fun l => by
  induction l with
  | nil => rfl
  | cons a r ih => rw [List.flatMap_cons, ltL_app2, ih]; simp [Ga.c, D.ltL, D.lt]
 have h2 : ∀ n, D.ltL m ((List.replicate n zG).flatten) = true := fun n => by
  induction n with
  | zero => rfl
  | succ n ih => rw [List.replicate_succ, List.flatten_cons, ltL_app2, ih]; simp [zG, D.ltL, D.lt]
 unfold wcL
 rw [ltL_app2, h1, h2]; rfl
theorem wc_U {gs : List Ga} (h : gs.length < 5) (a b c : Int) : ∃ U : D → List D, (∀ x, (U x).length = 20) ∧ (∀ x, (U x)[4 * gs.length + 3]? = some x) ∧ (∀ x y, putL (U x) (4 * gs.length + 3) [y] = U y) ∧ putL (wcL gs) (4 * gs.length) [.int .i64 a, .int .i64 b, .int .i64 c, .nils] = U .nils ∧
  (∀ rs : List Rd, U (.sl (rs.map Rd.d)) = wcL (gs ++ [⟨a, b, c, rs⟩])) ∧ (∀ m x, D.ltL m (U x) = D.lt m x) ∧ (∀ x y, (U x).set (4 * gs.length + 3) y = U y) ∧ ∀ g g' x, (U x).map (frzD g g') = U (frzD g g' x) := by
 have hl1 : ∀ l : List Ga, (l.flatMap Ga.c).length = 4 * l.length := fun l => by
  induction l with
  | nil => rfl
  | cons a r ih => rw [List.flatMap_cons, List.length_append, ih]; simp [Ga.c]; omega
 have hl2 : ∀ n, ((List.replicate n zG).flatten).length = 4 * n := fun n => by
  induction n with
  | zero => rfl
  | succ n ih => rw [List.replicate_succ, List.flatten_cons, List.length_append, ih]; simp [zG]; omega
 have hf1 : ∀ (g g' : H) (l : List Ga), (l.flatMap Ga.c).map (frzD g g') = l.flatMap Ga.c := fun g g' l => by
  induction l with
  | nil => rfl
  | cons a r ih => rw [List.flatMap_cons, List.map_append, ih]; rfl
 have hf2 : ∀ (g g' : H) (n : Nat), ((List.replicate n zG).flatten).map (frzD g g') = (List.replicate n zG).flatten := fun g g' n => by
  induction n with
  | zero => rfl
  | succ n ih => rw [List.replicate_succ, List.flatten_cons, List.map_append, ih]; rfl
 have ht1 : ∀ (m : Nat) (l : List Ga), D.ltL m (l.flatMap Ga.c) = true := fun m l => by
  induction l with
  | nil => rfl
  | cons a r ih => rw [List.flatMap_cons, ltL_app2, ih]; simp [Ga.c, D.ltL, D.lt]
 have ht2 : ∀ m n, D.ltL m ((List.replicate n zG).flatten) = true := fun m n => by
  induction n with
  | zero => rfl
  | succ n ih => rw [List.replicate_succ, List.flatten_cons, ltL_app2, ih]; simp [zG, D.ltL, D.lt]
 have hp := hl1 gs
 have hq := hl2 (4 - gs.length)
 have hw0 : wcL gs = gs.flatMap Ga.c ++ (zG ++ (List.replicate (4 - gs.length) zG).flatten) := by
  unfold wcL
  rw [show 5 - gs.length = (4 - gs.length) + 1 by omega, List.replicate_succ, List.flatten_cons]
 have hw1 : ∀ g, wcL (gs ++ [g]) = gs.flatMap Ga.c ++ (g.c ++ (List.replicate (4 - gs.length) zG).flatten) := fun g => by
  unfold wcL
  rw [List.length_append, List.length_singleton, show 5 - (gs.length + 1) = 4 - gs.length by omega, List.flatMap_append]
  simp
 have hf1 := fun g g' => hf1 g g' gs
 have hf2 := fun g g' => hf2 g g' (4 - gs.length)
 have ht1 := fun m => ht1 m gs
 have ht2 := fun m => ht2 m (4 - gs.length)
 rw [hw0]
 have hw1 := fun rs => hw1 ⟨a, b, c, rs⟩
 generalize gs.flatMap Ga.c = pre at *
 generalize (List.replicate (4 - gs.length) zG).flatten = post at *
 refine ⟨fun x => pre ++ ([.int .i64 a, .int .i64 b, .int .i64 c, x] ++ post), fun x => by simp; omega, fun x => ?_, fun x y => ?_, ?_, fun rs => (hw1 rs).symm, fun m x => by rw [ltL_app2, ltL_app2, ht1, ht2]; simp [D.ltL, D.lt], fun x y => ?_, fun g g' x => by rw [List.map_append, List.map_append, hf1, hf2]; rfl⟩
 ·rw [List.getElem?_append_right (by omega), show 4 * gs.length + 3 - pre.length = 3 by omega]; rfl
 ·unfold putL
  rw [List.take_append, List.drop_append, List.take_of_length_le (by omega), List.drop_of_length_le (by simp; omega), show 4 * gs.length + 3 - pre.length = 3 by omega, show 4 * gs.length + 3 + [y].length - pre.length = 4 by simp; omega]
  simp
 ·unfold putL
  rw [List.take_append, List.drop_append, List.take_of_length_le (by omega), List.drop_of_length_le (by simp; omega), show 4 * gs.length - pre.length = 0 by omega]
  simp only [List.length_cons, List.length_nil]
  rw [show 4 * gs.length + (0 + 1 + 1 + 1 + 1) - pre.length = 4 by omega]
  simp [zG]
 ·rw [List.set_append_right _ _ (by omega), show 4 * gs.length + 3 - pre.length = 3 by omega]; rfl
theorem tk_len {ls : List Bs} {word : Bs} {k : Nat} {xs : List Int} {rest : List Bs} (hw : 32 ∉ word) (h : tkB ls word k = some (xs, rest)) : xs.length = k ∧ ∃ s, ls = s :: rest ∧ takB s word k = some xs := by
 cases ls with
 | nil => cases h
 | cons s r =>
  simp only [tkB, Option.map_eq_some_iff, Prod.mk.injEq] at h
  obtain ⟨ys, h1, rfl, rfl⟩ := h
  exact ⟨take_len hw h1, s, rfl, h1⟩
theorem gas_no {ls : List Bs} {n : Bs} {ns : List Bs} (h : tkB ls n 3 = none) : gasB (n :: ns) ls = none := by
 cases ls with
 | nil => rfl
 | cons s r =>
  simp only [tkB, Option.map_eq_none_iff] at h
  simp only [gasB, gaB, h]
theorem gas_go {s n : Bs} {r : List Bs} {ns : List Bs} {a b c : Int} (h : takB s n 3 = some [a, b, c]) : gasB (n :: ns) (s :: r) = match rdsB r with
  | none => none
  | some (rs, q) => (gasB ns q).map fun p => (⟨a, b, c, rs⟩ :: p.1, p.2) := by
 simp only [gasB, gaB, h]
 cases rdsB r with
 | none => rfl
 | some p => rfl
theorem rds_stop {ls : List Bs} (h : hdB ls bRead = false) : rdsB ls = some ([], ls) := by
 cases ls with
 | nil => rfl
 | cons s r =>
  dsimp only [hdB] at h
  unfold rdsB
  rw [if_neg (by rw [h]; simp)]
theorem rds_no {ls : List Bs} (h : hdB ls bRead = true) (h2 : tkB ls bRead 4 = none) : rdsB ls = none := by
 cases ls with
 | nil => cases h
 | cons s r =>
  dsimp only [hdB] at h
  simp only [tkB, Option.map_eq_none_iff] at h2
  unfold rdsB
  rw [if_pos h, h2]
theorem rds_go {s : Bs} {r : List Bs} {a b c d : Int} (h : takB s bRead 4 = some [a, b, c, d]) : rdsB (s :: r) = (rdsB r).map fun p => (⟨a, b, c, d⟩ :: p.1, p.2) := by
 have e : rdsB (s :: r) = if isB s bRead = true then (match takB s bRead 4 with
   | some [a, b, c, d] => (rdsB r).map fun p => (⟨a, b, c, d⟩ :: p.1, p.2)
   | _ => none) else some ([], s :: r) := rfl
 rw [e, if_pos (tak_is bRead_32 h), h]
theorem read_g (hT : TabsT w0) (t : Bs) (ht : t.length ≤ 1000000) :
  PCallG Tryz.prog w0 101 [stD t] [] 0 (fun r _ _ => ∃ gs, readB t = some gs ∧ r = .agg ((wxOf gs).c [])) fun ch _ _ => WrongP ch ∧ readB t = none := by
 have pC := cutSuf_t t [10] ht
 rw [suf_10] at pC
 refine pcallg_of_pieces (rs := [.cell 2 29]) (m := 96) Tryz.func101 rfl (by kernel_rfl) rfl rfl ?_
 refine awg_peel (T := []) oNone_ok (by kernel_rfl) (by kernel_rfl) ?_
 simp only [FS, ↓RE, okR, argEnv, Nat.reduceAdd, Nat.reduceSub, Nat.reduceLT, Nat.reduceLeDiff, Nat.reduceEqDiff, reduceIte, RT, RM, RG]
 by_cases hs : t.getLast? = some 10
 rotate_left
 ·rw [decide_eq_false hs] at pC
  have hno : readB t = none := by
   unfold readB linesB
   rw [if_neg hs]
  refine awg_peel (T := []) oNone_ok (by kernel_rfl) (by kernel_rfl) ?_
  simp only [FS, ↓RE, okR, argEnv, Nat.reduceAdd, Nat.reduceSub, Nat.reduceLT, Nat.reduceLeDiff, Nat.reduceEqDiff, reduceIte, RT, RM, RG, show (⟨#[10]⟩ : ByteArray) = bS [10] from rfl]
  refine call_of_pure pC rfl ?_
  simp only [FS, ↓RE, okR, argEnv, Nat.reduceAdd, Nat.reduceSub, Nat.reduceLT, Nat.reduceLeDiff, Nat.reduceEqDiff, reduceIte, RT, RM, RG]
  refine awg_seq ?_
  refine awg_peel (T := []) oNone_ok (by kernel_rfl) (by kernel_rfl) ?_
  simp only [FS, ↓RE, okR, argEnv, Nat.reduceAdd, Nat.reduceSub, Nat.reduceLT, Nat.reduceLeDiff, Nat.reduceEqDiff, reduceIte, RT, RM, RG, Bool.not_false]
  refine awg_cond (t := true) (by kernel_rfl) (fun _ => ?_) (fun h => by cases h)
  refine awg_from (ra_data oNone_ok 3 (Nat.le_of_ble_eq_true rfl) ?_)
  simp only [FS, ↓RE, okR, argEnv, Nat.reduceAdd, Nat.reduceSub, Nat.reduceLT, Nat.reduceLeDiff, Nat.reduceEqDiff, reduceIte, RT, RM, RG, List.take_succ_cons, List.take_zero, List.drop_zero, List.drop_succ_cons, Nat.reduceAdd, List.getElem_toArray, List.getElem_cons_zero, List.getElem_cons_succ]
  refine ra_panic (t := 150) (d := .agg [stD t]) rfl rfl rfl (by kernel_rfl) fun v hv => ?_
  obtain ⟨R, n, hr⟩ := hv
  exact ⟨⟨_, _, rfl, rel_strv1 hr _⟩, hno⟩
 rw [decide_eq_true hs, trim_10 hs] at pC
 have hdl : t.dropLast.length ≤ 1000000 := by simp; omega
 have hrd : readB t = match gasB namesB (spl 10 t.dropLast) with
  | none => none
  | some (gs, r) => if endB gs r = true then some gs else none := by
  unfold readB linesB
  rw [if_pos hs]
  rfl
 generalize t.dropLast = body at *
 refine awg_peel (T := []) oNone_ok (by kernel_rfl) (by kernel_rfl) ?_
 simp only [FS, ↓RE, okR, argEnv, Nat.reduceAdd, Nat.reduceSub, Nat.reduceLT, Nat.reduceLeDiff, Nat.reduceEqDiff, reduceIte, RT, RM, RG, show (⟨#[10]⟩ : ByteArray) = bS [10] from rfl]
 refine call_of_pure pC rfl ?_
 simp only [FS, ↓RE, okR, argEnv, Nat.reduceAdd, Nat.reduceSub, Nat.reduceLT, Nat.reduceLeDiff, Nat.reduceEqDiff, reduceIte, RT, RM, RG]
 refine awg_seq ?_
 refine awg_peel (T := []) oNone_ok (by kernel_rfl) (by kernel_rfl) ?_
 simp only [FS, ↓RE, okR, argEnv, Nat.reduceAdd, Nat.reduceSub, Nat.reduceLT, Nat.reduceLeDiff, Nat.reduceEqDiff, reduceIte, RT, RM, RG, Bool.not_true]
 refine awg_cond (t := false) (by kernel_rfl) (fun h => by cases h) (fun _ => awg_skip ?_)
 simp only [FS, ↓RE, okR, argEnv, Nat.reduceAdd, Nat.reduceSub, Nat.reduceLT, Nat.reduceLeDiff, Nat.reduceEqDiff, reduceIte, RT, RM, RG, List.take_succ_cons, List.take_zero, List.drop_zero, List.drop_succ_cons, Nat.reduceAdd, List.getElem_toArray, List.getElem_cons_zero, List.getElem_cons_succ]
 have hsl : ∀ p ∈ spl 10 body, p.length ≤ 1000000 := fun p hp => Nat.le_trans (spl_le hp) hdl
 have hsn := spl_len (c := 10) body
 have pS := split_g hT body hdl 10 (R := fun _ _ _ => False)
 generalize spl 10 body = ls0 at *
 refine awg_seq (awg_from (ra_data oNone_ok 1 (Nat.le_of_ble_eq_true rfl) ?_))
 simp only [FS, ↓RE, okR, argEnv, Nat.reduceAdd, Nat.reduceSub, Nat.reduceLT, Nat.reduceLeDiff, Nat.reduceEqDiff, reduceIte, RT, RM, RG, List.take_succ_cons, List.take_zero, List.drop_zero, List.drop_succ_cons, Nat.reduceAdd, List.getElem_toArray, List.getElem_cons_zero, List.getElem_cons_succ]
 refine ra_call rfl (.inl rfl) rfl rfl ((pcallg_data (A := fun r => r = .sl (ls0.map enT.d)) (R := fun _ => False) pS rfl fun r hr => by subst hr; exact fr_strs _).mono ?_ fun _ _ _ h => h.1.elim)
 rintro r h nid ⟨rfl, rfl, rfl⟩
 refine ra_data oNone_ok 3 (Nat.le_of_ble_eq_true rfl) ?_
 simp only [FS, ↓RE, okR, argEnv, Nat.reduceAdd, Nat.reduceSub, Nat.reduceLT, Nat.reduceLeDiff, Nat.reduceEqDiff, reduceIte, RT, RM, RG, List.take_succ_cons, List.take_zero, List.drop_zero, List.drop_succ_cons, Nat.reduceAdd, List.getElem_toArray, List.getElem_cons_zero, List.getElem_cons_succ]
 refine ra_end rfl ?_
 simp only [FS, ↓RE, okR, argEnv, Nat.reduceAdd, Nat.reduceSub, Nat.reduceLT, Nat.reduceLeDiff, Nat.reduceEqDiff, reduceIte, RT, RM, RG, List.take_succ_cons, List.take_zero, List.drop_zero, List.drop_succ_cons, Nat.reduceAdd, List.getElem_toArray, List.getElem_cons_zero, List.getElem_cons_succ]
 refine awg_peel (T := []) oNone_ok (by kernel_rfl) (by kernel_rfl) ?_
 simp only [FS, ↓RE, okR, argEnv, Nat.reduceAdd, Nat.reduceSub, Nat.reduceLT, Nat.reduceLeDiff, Nat.reduceEqDiff, reduceIte, RT, RM, RG]
 refine awg_seq ?_
 refine awg_peel (T := []) oNone_ok (by kernel_rfl) (by kernel_rfl) ?_
 simp only [FS, ↓RE, okR, argEnv, Nat.reduceAdd, Nat.reduceSub, Nat.reduceLT, Nat.reduceLeDiff, Nat.reduceEqDiff, reduceIte, RT, RM, RG]
 refine call_of_pure' names_t rfl rfl ?_
 simp only [FS, ↓RE, okR, argEnv, Nat.reduceAdd, Nat.reduceSub, Nat.reduceLT, Nat.reduceLeDiff, Nat.reduceEqDiff, reduceIte, RT, RM, RG]
 refine awg_block ?_
 rw [← wc_zero]
 refine awg_loopI (ι := List Ga × List Bs) (fun p => ⟨[(0, stD t), (2, .ptr 0 0), (5, .ptr 1 0), (6, .int .i64 (manyB p.1 : Nat)), (26, .agg (namesB.map stD)), (27, .int .i64 (p.1.length : Int))], [(1, .box [.sl (p.2.map enT.d)]), (0, .box (wcL p.1))], 2, 96⟩)
  (fun p => p.1.length ≤ 5 ∧ gasB namesB ls0 = (gasB (namesB.drop p.1.length) p.2).map (fun q => (p.1 ++ q.1, q.2)) ∧ (∀ s ∈ p.2, s.length ≤ 1000000) ∧ manyB p.1 + p.2.length ≤ ls0.length) (fun p => 5 - p.1.length) ([], ls0) ⟨Nat.zero_le _, ?_, hsl, Nat.le_of_eq (Nat.zero_add _)⟩ (imp_head (by simp [headW, heapW, envW, blkLt, D.ltL, D.lt, look, hget, wc_lt, names_lt]; rfl)) ?_
 ·show gasB namesB ls0 = (gasB namesB ls0).map (fun q => (q.1, q.2))
  cases gasB namesB ls0 <;> rfl
 rintro ⟨gs, ls⟩ ⟨hgl, hga, hsl, hmn⟩
 dsimp only at hgl hga hsl hmn ⊢
 refine awg_peel (T := []) oNone_ok (by kernel_rfl) (by kernel_rfl) ?_
 rcases Nat.lt_or_ge gs.length 5 with hlt | hge
 ·have hc : ((gs.length : Int) < 5) = True := by simp; omega
  obtain ⟨n, hn⟩ : ∃ n, namesB[gs.length]? = some n := ⟨namesB[gs.length]'(by simp [namesB]; omega), by simp⟩
  have hn5 := names_5 n (List.mem_of_getElem? hn)
  have hn32 := (names_32 n (List.mem_of_getElem? hn)).1
  simp only [FS, ↓RE, okR, argEnv, Nat.reduceAdd, Nat.reduceSub, Nat.reduceLT, Nat.reduceLeDiff, Nat.reduceEqDiff, reduceIte, RT, RM, RG, hc, decide_true]
  refine awg_peel (T := []) oNone_ok (by kernel_rfl) (by kernel_rfl) ?_
  simp only [FS, ↓RE, okR, argEnv, Nat.reduceAdd, Nat.reduceSub, Nat.reduceLT, Nat.reduceLeDiff, Nat.reduceEqDiff, reduceIte, RT, RM, RG]
  refine awg_seq ?_
  refine awg_block ?_
  refine awg_peel (T := []) oNone_ok (by kernel_rfl) (by kernel_rfl) ?_
  simp only [FS, ↓RE, okR, argEnv, Nat.reduceAdd, Nat.reduceSub, Nat.reduceLT, Nat.reduceLeDiff, Nat.reduceEqDiff, reduceIte, RT, RM, RG, names_ix hn]
  have hdr : namesB.drop gs.length = n :: namesB.drop (gs.length + 1) := by
   rw [List.drop_eq_getElem_cons (by simp [namesB]; omega)]
   congr 1
   have : namesB[gs.length]? = some (namesB[gs.length]'(by simp [namesB]; omega)) := by simp
   rw [this] at hn; exact Option.some.inj hn
  rw [hdr] at hga
  have pT := take_g hT ls n 3 (by omega) hn32 (by omega) hsl
  refine awg_seq (awg_from (ra_data oNone_ok 2 (Nat.le_of_ble_eq_true rfl) ?_))
  simp only [FS, ↓RE, okR, argEnv, Nat.reduceAdd, Nat.reduceSub, Nat.reduceLT, Nat.reduceLeDiff, Nat.reduceEqDiff, reduceIte, RT, RM, RG, List.take_succ_cons, List.take_zero, List.drop_zero, List.drop_succ_cons, Nat.reduceAdd, List.getElem_toArray, List.getElem_cons_zero, List.getElem_cons_succ]
  refine ra_call rfl (.inl rfl) rfl rfl ((pcallg_lend (b := 1) (o := 0) (cs := [.sl (ls.map enT.d)]) (ds := [stD n, .int .i64 3]) (A := fun r cs' => ∃ xs rest, tkB ls n 3 = some (xs, rest) ∧ r = nmD xs ∧ cs' = [.sl (rest.map enT.d)]) (R := fun ch => WrongP ch ∧ tkB ls n 3 = none) rfl (by simp [D.ltL, D.lt]) rfl ?_ pT).mono ?_ fun ch h nid hq => ?_)
  rotate_left 2
  ·exact ⟨hq.1, by rw [hrd, hga, gas_no hq.2]; rfl⟩
  ·rintro r cs' ⟨xs, rest, _, rfl, rfl⟩
   exact ⟨by simp [D.fr, D.frL, enI], by simp [D.ltL, D.lt]⟩
  rintro r h nid ⟨cs', ⟨xs, rest, htk, rfl, rfl⟩, rfl, rfl⟩
  refine ra_data oNone_ok 1 (Nat.le_of_ble_eq_true rfl) ?_
  simp only [FS, ↓RE, okR, argEnv, Nat.reduceAdd, Nat.reduceSub, Nat.reduceLT, Nat.reduceLeDiff, Nat.reduceEqDiff, reduceIte, RT, RM, RG, List.take_succ_cons, List.take_zero, List.drop_zero, List.drop_succ_cons, Nat.reduceAdd, List.getElem_toArray, List.getElem_cons_zero, List.getElem_cons_succ]
  refine ra_end rfl ?_
  simp only [FS, ↓RE, okR, argEnv, Nat.reduceAdd, Nat.reduceSub, Nat.reduceLT, Nat.reduceLeDiff, Nat.reduceEqDiff, reduceIte, RT, RM, RG, List.take_succ_cons, List.take_zero, List.drop_zero, List.drop_succ_cons, Nat.reduceAdd, List.getElem_toArray, List.getElem_cons_zero, List.getElem_cons_succ]
  obtain ⟨h3, s, rfl, htk2⟩ := tk_len hn32 htk
  obtain ⟨a, b, c, rfl⟩ : ∃ a b c, xs = [a, b, c] := by
   match xs, h3 with
   | [a, b, c], _ => exact ⟨a, b, c, rfl⟩
  rw [gas_go htk2] at hga
  obtain ⟨U, u1, u2, u3, u4, u5, u6, u7, u8⟩ := wc_U hlt a b c
  have hwl := wc_len hgl
  have hwt := wc_lt gs
  generalize wcL gs = WC at *
  have hql : (4 * gs.length + 4 ≤ 20) = True := by simp; omega
  have i0 : ∀ h, indexAddrD Tryz.prog h 62 (nmD [a, b, c]) (.int .i64 0) = some (.ref [.int .i64 a] 0) := fun h => nm_ix (xs := [a, b, c]) (i := 0) rfl h
  have i1 : ∀ h, indexAddrD Tryz.prog h 62 (nmD [a, b, c]) (.int .i64 1) = some (.ref [.int .i64 b] 0) := fun h => nm_ix (xs := [a, b, c]) (i := 1) rfl h
  have i2 : ∀ h, indexAddrD Tryz.prog h 62 (nmD [a, b, c]) (.int .i64 2) = some (.ref [.int .i64 c] 0) := fun h => nm_ix (xs := [a, b, c]) (i := 2) rfl h
  refine awg_peelI (T := []) oNone_ok (by kernel_rfl) [(0, stD t), (2, .ptr 0 0), (5, .ptr 1 0), (6, .int .i64 (manyB gs : Nat)), (9, nmD [a, b, c]), (10, .ptr 0 (4 * gs.length)), (26, .agg (namesB.map stD)), (27, .int .i64 (gs.length : Int))] [(1, .box [.sl (rest.map enT.d)]), (0, .box WC)] 2 96 (by kernel_rfl) ?_ ?_
  ·simp only [FS, ↓RE, okR, argEnv, Nat.reduceAdd, Nat.reduceSub, Nat.reduceLT, Nat.reduceLeDiff, Nat.reduceEqDiff, reduceIte, RT, RM, RG]
   refine call_of_acall ((gauges_t 0 _ _).mono ?_)
   rintro r h' n' ⟨rfl, rfl, rfl⟩
   simp only [FS, ↓RE, okR, argEnv, Nat.reduceAdd, Nat.reduceSub, Nat.reduceLT, Nat.reduceLeDiff, Nat.reduceEqDiff, reduceIte, RT, RM, RG, names_lk2 hn]
   simp [headW, heapW, envW, blkLt, D.ltL, D.lt, look, hget, names_lt, hwt, enI]
  refine awg_peel (T := [(11, [(13, false, false, [])]), (14, [(24, false, false, [])])]) oNone_ok (by kernel_rfl) (by kernel_rfl) ?_
  simp only [FS, ↓RE, okR, argEnv, Nat.reduceAdd, Nat.reduceSub, Nat.reduceLT, Nat.reduceLeDiff, Nat.reduceEqDiff, reduceIte, RT, RM, RG, i0, i1, i2, hwl, hql, u4]
  refine awg_imp (by
   have := imp_nilB (n0 := 0) (env := [(0, stD t), (2, .ptr 0 0), (5, .ptr 1 0), (6, .int .i64 (manyB gs : Nat)), (10, .ptr 0 (4 * gs.length)), (26, .agg (namesB.map stD)), (27, .int .i64 (gs.length : Int))]) (h := [(1, .box [.sl (rest.map enT.d)]), (0, .box (U .nils))]) (nid := 2) (n := 96) 0 (4 * gs.length + 3) (U .nils) 75 4 rfl (u2 _)
   rw [u7] at this
   exact (imp_head (by simp [headW, heapW, envW, blkLt, D.ltL, D.lt, look, hget, names_lt, u6])).trans this) ?_
  refine awg_block ?_
  have hsr : ∀ p ∈ rest, p.length ≤ 1000000 := fun p hp => hsl p (List.mem_cons_of_mem _ hp)
  have hmr : manyB gs + rest.length ≤ ls0.length := by simp at hmn; omega
  refine awg_loopI (ι := List Rd × List Bs) (fun p => ⟨[(0, stD t), (2, .ptr 0 0), (5, .ptr 1 0), (6, .int .i64 ((manyB gs + p.1.length : Nat) : Int)), (10, .ptr 0 (4 * gs.length)), (26, .agg (namesB.map stD)), (27, .int .i64 (gs.length : Int))], [(2, .arr 75 4 (p.1.map Rd.d)), (1, .box [.sl (p.2.map enT.d)]), (0, .box (U (.osl 2 p.1.length)))], 3, 96⟩)
   (fun p => rdsB rest = (rdsB p.2).map (fun q => (p.1 ++ q.1, q.2)) ∧ (∀ s ∈ p.2, s.length ≤ 1000000) ∧ manyB gs + p.1.length + p.2.length ≤ ls0.length) (fun p => p.2.length) ([], rest) ⟨?_, hsr, hmr⟩ (imp_head (by simp [headW, heapW, envW, blkLt, D.ltL, D.lt, look, hget, Sx.hset, names_lt, u6])) ?_
  ·show rdsB rest = (rdsB rest).map (fun q => (q.1, q.2))
   cases rdsB rest <;> rfl
  clear hsr hmr
  rintro ⟨rs, ls⟩ ⟨hrd2, hsl, hmn⟩
  dsimp only at hrd2 hsl hmn ⊢
  have pI := is_t ls bRead (by decide)
  obtain ⟨bv, hbv⟩ : ∃ bv, hdB ls bRead = bv := ⟨_, rfl⟩
  rw [hbv] at pI
  cases bv
  ·rw [rds_stop hbv] at hrd2
   refine awg_peel (T := []) oNone_ok (by kernel_rfl) (by kernel_rfl) ?_
   simp only [FS, ↓RE, okR, argEnv, Nat.reduceAdd, Nat.reduceSub, Nat.reduceLT, Nat.reduceLeDiff, Nat.reduceEqDiff, reduceIte, RT, RM, RG]
   refine call_of_pure pI rfl ?_
   simp only [FS, ↓RE, okR, argEnv, Nat.reduceAdd, Nat.reduceSub, Nat.reduceLT, Nat.reduceLeDiff, Nat.reduceEqDiff, reduceIte, RT, RM, RG]
   have w16 := wrap_i64 (z := (gs.length : Int) + 1) (by omega) (by omega)
   refine awg_restT (T := []) oNone_ok rfl ?_
   simp only [FS, ↓RE, okR, argEnv, Nat.reduceAdd, Nat.reduceSub, Nat.reduceLT, Nat.reduceLeDiff, Nat.reduceEqDiff, reduceIte, RT, RM, RG, w16]
   refine ⟨(gs ++ [⟨a, b, c, rs⟩], ls), ⟨by simp; omega, ?_, hsl, by simp [manyB] at hmn ⊢; omega⟩, by simp; omega, imp_thaw 2 (imp_head ?_)⟩
   ·rw [hga, hrd2]
    simp only [Option.map_some, List.append_nil, Option.map_map, List.length_append, List.length_singleton]
    congr 1
    funext p
    simp
   ·have u9 := u5 rs
    simp [headW, heapW, envW, blkLt, D.ltL, D.lt, look, hget, names_lt, frzHH, frzBlk, herase, u8, fz_int, fz_sl, fz_ref, fz_ptr, fz_osl, fzC_arr, fzC_some, fz_bool, fz_nils, fz_agg, u6, ← u9, manyB]
    exact ⟨rfl, rfl, rfl⟩
  ·have pT2 := take_g hT ls bRead 4 (by decide) bRead_32 (by omega) hsl
   refine awg_peel (T := []) oNone_ok (by kernel_rfl) (by kernel_rfl) ?_
   simp only [FS, ↓RE, okR, argEnv, Nat.reduceAdd, Nat.reduceSub, Nat.reduceLT, Nat.reduceLeDiff, Nat.reduceEqDiff, reduceIte, RT, RM, RG]
   refine call_of_pure pI rfl ?_
   simp only [FS, ↓RE, okR, argEnv, Nat.reduceAdd, Nat.reduceSub, Nat.reduceLT, Nat.reduceLeDiff, Nat.reduceEqDiff, reduceIte, RT, RM, RG]
   refine awg_block ?_
   refine awg_seq (awg_from (ra_data oNone_ok 1 (Nat.le_of_ble_eq_true rfl) ?_))
   simp only [FS, ↓RE, okR, argEnv, Nat.reduceAdd, Nat.reduceSub, Nat.reduceLT, Nat.reduceLeDiff, Nat.reduceEqDiff, reduceIte, RT, RM, RG, List.take_succ_cons, List.take_zero, List.drop_zero, List.drop_succ_cons, Nat.reduceAdd, List.getElem_toArray, List.getElem_cons_zero, List.getElem_cons_succ]
   refine ra_call rfl (.inl rfl) rfl rfl ((pcallg_lend (b := 1) (o := 0) (cs := [.sl (ls.map enT.d)]) (ds := [stD bRead, .int .i64 4]) (A := fun r cs' => ∃ xs rest, tkB ls bRead 4 = some (xs, rest) ∧ r = nmD xs ∧ cs' = [.sl (rest.map enT.d)]) (R := fun ch => WrongP ch ∧ tkB ls bRead 4 = none) rfl (by simp [D.ltL, D.lt]) rfl ?_ pT2).mono ?_ fun ch h nid hq => ?_)
   rotate_left 2
   ·exact ⟨hq.1, by rw [hrd, hga, hrd2, rds_no hbv hq.2]; rfl⟩
   ·rintro r cs' ⟨xs, rest, _, rfl, rfl⟩
    exact ⟨by simp [D.fr, D.frL, enI], by simp [D.ltL, D.lt]⟩
   rintro r h nid ⟨cs', ⟨xs, rest2, htk3, rfl, rfl⟩, rfl, rfl⟩
   refine ra_data oNone_ok 1 (Nat.le_of_ble_eq_true rfl) ?_
   simp only [FS, ↓RE, okR, argEnv, Nat.reduceAdd, Nat.reduceSub, Nat.reduceLT, Nat.reduceLeDiff, Nat.reduceEqDiff, reduceIte, RT, RM, RG, List.take_succ_cons, List.take_zero, List.drop_zero, List.drop_succ_cons, Nat.reduceAdd, List.getElem_toArray, List.getElem_cons_zero, List.getElem_cons_succ]
   refine ra_end rfl ?_
   simp only [FS, ↓RE, okR, argEnv, Nat.reduceAdd, Nat.reduceSub, Nat.reduceLT, Nat.reduceLeDiff, Nat.reduceEqDiff, reduceIte, RT, RM, RG, List.take_succ_cons, List.take_zero, List.drop_zero, List.drop_succ_cons, Nat.reduceAdd, List.getElem_toArray, List.getElem_cons_zero, List.getElem_cons_succ]
   obtain ⟨h4, s2, rfl, htk4⟩ := tk_len bRead_32 htk3
   obtain ⟨x0, x1, x2, x3, rfl⟩ : ∃ x0 x1 x2 x3, xs = [x0, x1, x2, x3] := by
    match xs, h4 with
    | [x0, x1, x2, x3], _ => exact ⟨x0, x1, x2, x3, rfl⟩
   rw [rds_go htk4] at hrd2
   have hql3 : (4 * gs.length + 3 + 1 ≤ 20) = True := by simp; omega
   have hql4 : (4 * gs.length + (3 + 1) ≤ 20) = True := by simp; omega
   have j0 : ∀ h, indexAddrD Tryz.prog h 62 (nmD [x0, x1, x2, x3]) (.int .i64 0) = some (.ref [.int .i64 x0] 0) := fun h => nm_ix (xs := [x0, x1, x2, x3]) (i := 0) rfl h
   have j1 : ∀ h, indexAddrD Tryz.prog h 62 (nmD [x0, x1, x2, x3]) (.int .i64 1) = some (.ref [.int .i64 x1] 0) := fun h => nm_ix (xs := [x0, x1, x2, x3]) (i := 1) rfl h
   have j2 : ∀ h, indexAddrD Tryz.prog h 62 (nmD [x0, x1, x2, x3]) (.int .i64 2) = some (.ref [.int .i64 x2] 0) := fun h => nm_ix (xs := [x0, x1, x2, x3]) (i := 2) rfl h
   have j3 : ∀ h, indexAddrD Tryz.prog h 62 (nmD [x0, x1, x2, x3]) (.int .i64 3) = some (.ref [.int .i64 x3] 0) := fun h => nm_ix (xs := [x0, x1, x2, x3]) (i := 3) rfl h
   have li := fun h => litD_agg (P := Tryz.prog) Fz.und_25 Fz.size_75 Fz.zero_75 rfl (by omega) (by omega) h [.int .i64 x0, .int .i64 x1, .int .i64 x2, .int .i64 x3] rfl rfl
   have ha := fun h nid (hb : hget h 2 = some (.arr 75 4 (rs.map Rd.d))) => app_sl (P := Tryz.prog) (h := h) (nid := nid) (b := 2) (n := rs.length) (xs := [[.int .i64 x0, .int .i64 x1, .int .i64 x2, .int .i64 x3]]) Fz.und_25 Fz.size_75 Fz.zero_75 rfl (by omega) Fz.bytes_75_25 hb (List.length_map _).symm rfl (by simp at hmn ⊢; omega) (by simp at hmn ⊢; omega)
   refine awg_peel (T := [(11, [(13, false, false, [])]), (14, [(24, false, false, [])])]) oNone_ok (by kernel_rfl) (by kernel_rfl) ?_
   simp only [FS, ↓RE, okR, argEnv, Nat.reduceAdd, Nat.reduceSub, Nat.reduceLT, Nat.reduceLeDiff, Nat.reduceEqDiff, reduceIte, RT, RM, RG, j0, j1, j2, j3, u1, u2, u3, hql3, hql4, li, ha, cells_osl, cur_osl, curC_arr, List.length_append, List.length_map, List.length_cons, List.length_nil, decide_true]
   have w15 := wrap_i64 (z := ((manyB gs + rs.length : Nat) : Int) + 1) (by simp at hmn; omega) (by simp at hmn; omega)
   refine awg_restT (T := []) oNone_ok rfl ?_
   simp only [FS, ↓RE, okR, argEnv, Nat.reduceAdd, Nat.reduceSub, Nat.reduceLT, Nat.reduceLeDiff, Nat.reduceEqDiff, reduceIte, RT, RM, RG, w15]
   refine ⟨(rs ++ [⟨x0, x1, x2, x3⟩], rest2), ⟨?_, fun p hp => hsl p (List.mem_cons_of_mem _ hp), by simp at hmn ⊢; omega⟩, by simp, imp_head ?_⟩
   ·rw [hrd2, Option.map_map]
    congr 1
    funext p
    simp
   ·simp [headW, heapW, envW, blkLt, D.ltL, D.lt, look, hget, names_lt, u6, Rd.d]
    omega
 have hc : ((gs.length : Int) < 5) = False := by simp; omega
 have h5 : gs.length = 5 := by omega
 have hdr : namesB.drop gs.length = [] := List.drop_of_length_le (by simp [namesB]; omega)
 rw [hdr] at hga
 have hga : gasB namesB ls0 = some (gs ++ [], ls) := hga
 rw [List.append_nil] at hga
 rw [hga] at hrd
 dsimp only at hrd
 clear hga hdr
 have pT := take_g hT ls bEnd 1 (by decide) bEnd_32 (by omega) hsl
 simp only [FS, ↓RE, okR, argEnv, Nat.reduceAdd, Nat.reduceSub, Nat.reduceLT, Nat.reduceLeDiff, Nat.reduceEqDiff, reduceIte, RT, RM, RG, hc, decide_false]
 refine awg_peel (T := []) oNone_ok (by kernel_rfl) (by kernel_rfl) ?_
 simp only [FS, ↓RE, okR, argEnv, Nat.reduceAdd, Nat.reduceSub, Nat.reduceLT, Nat.reduceLeDiff, Nat.reduceEqDiff, reduceIte, RT, RM, RG]
 refine awg_seq (awg_seq (awg_from (ra_data oNone_ok 1 (Nat.le_of_ble_eq_true rfl) ?_)))
 simp only [FS, ↓RE, okR, argEnv, Nat.reduceAdd, Nat.reduceSub, Nat.reduceLT, Nat.reduceLeDiff, Nat.reduceEqDiff, reduceIte, RT, RM, RG, List.take_succ_cons, List.take_zero, List.drop_zero, List.drop_succ_cons, Nat.reduceAdd, List.getElem_toArray, List.getElem_cons_zero, List.getElem_cons_succ]
 refine ra_call rfl (.inl rfl) rfl rfl ((pcallg_lend (b := 1) (o := 0) (cs := [.sl (ls.map enT.d)]) (ds := [stD bEnd, .int .i64 1]) (A := fun r cs' => ∃ xs rest, tkB ls bEnd 1 = some (xs, rest) ∧ r = nmD xs ∧ cs' = [.sl (rest.map enT.d)]) (R := fun ch => WrongP ch ∧ tkB ls bEnd 1 = none) rfl (by simp [D.ltL, D.lt]) rfl ?_ pT).mono ?_ fun ch h nid hq => ?_)
 rotate_left 2
 ·refine ⟨hq.1, ?_⟩
  rw [hrd, if_neg]
  have h2 := hq.2
  match ls, h2 with
  | [], _ => simp [endB]
  | [s], h2 =>
   simp only [tkB, Option.map_eq_none_iff] at h2
   simp [endB, h2]
  | _ :: _ :: _, _ => simp [endB]
 ·rintro r cs' ⟨xs, rest, _, rfl, rfl⟩
  exact ⟨by simp [D.fr, D.frL, enI], by simp [D.ltL, D.lt]⟩
 rintro r h nid ⟨cs', ⟨xs, rest, htk, rfl, rfl⟩, rfl, rfl⟩
 obtain ⟨h1, s, rfl, htk2⟩ := tk_len bEnd_32 htk
 obtain ⟨z, rfl⟩ : ∃ z, xs = [z] := by
  match xs, h1 with
  | [z], _ => exact ⟨z, rfl⟩
 have k0 : ∀ h, indexAddrD Tryz.prog h 62 (nmD [z]) (.int .i64 0) = some (.ref [.int .i64 z] 0) := fun h => nm_ix (xs := [z]) (i := 0) rfl h
 by_cases hz : z = (manyB gs : Nat)
 rotate_left
 ·have q1 : (z != ((manyB gs : Nat) : Int)) = true := by simp [hz]
  have hno : readB t = none := by
   rw [hrd, if_neg]
   cases rest with
   | nil => simp [endB, htk2, hz]
   | cons a r => simp [endB]
  refine ra_data oNone_ok 12 (Nat.le_of_ble_eq_true rfl) ?_
  simp only [FS, ↓RE, okR, argEnv, Nat.reduceAdd, Nat.reduceSub, Nat.reduceLT, Nat.reduceLeDiff, Nat.reduceEqDiff, reduceIte, RT, RM, RG, List.take_succ_cons, List.take_zero, List.drop_zero, List.drop_succ_cons, Nat.reduceAdd, List.getElem_toArray, List.getElem_cons_zero, List.getElem_cons_succ, k0, q1]
  refine ra_end rfl ?_
  simp only [FS, ↓RE, okR, argEnv, Nat.reduceAdd, Nat.reduceSub, Nat.reduceLT, Nat.reduceLeDiff, Nat.reduceEqDiff, reduceIte, RT, RM, RG, List.take_succ_cons, List.take_zero, List.drop_zero, List.drop_succ_cons, Nat.reduceAdd, List.getElem_toArray, List.getElem_cons_zero, List.getElem_cons_succ]
  refine awg_cond (t := true) (by kernel_rfl) (fun _ => ?_) (fun h => by cases h)
  refine awg_from (ra_data oNone_ok 3 (Nat.le_of_ble_eq_true rfl) ?_)
  simp only [FS, ↓RE, okR, argEnv, Nat.reduceAdd, Nat.reduceSub, Nat.reduceLT, Nat.reduceLeDiff, Nat.reduceEqDiff, reduceIte, RT, RM, RG, List.take_succ_cons, List.take_zero, List.drop_zero, List.drop_succ_cons, Nat.reduceAdd, List.getElem_toArray, List.getElem_cons_zero, List.getElem_cons_succ]
  refine ra_panic (t := 150) (d := .agg [stD t]) rfl rfl rfl (by kernel_rfl) fun v hv => ?_
  obtain ⟨R, n, hr⟩ := hv
  exact ⟨⟨_, _, rfl, rel_strv1 hr _⟩, hno⟩
 have q1 : (z != ((manyB gs : Nat) : Int)) = false := by simp [hz]
 cases rest with
 | cons a r =>
  have hno : readB t = none := by
   rw [hrd, if_neg]
   simp [endB]
  have q2 : decide ((0 : Int) < (((r.map enT.d).length + 1 : Nat) : Int)) = true := by simp
  refine ra_data oNone_ok 12 (Nat.le_of_ble_eq_true rfl) ?_
  simp only [FS, ↓RE, okR, argEnv, Nat.reduceAdd, Nat.reduceSub, Nat.reduceLT, Nat.reduceLeDiff, Nat.reduceEqDiff, reduceIte, RT, RM, RG, List.take_succ_cons, List.take_zero, List.drop_zero, List.drop_succ_cons, Nat.reduceAdd, List.getElem_toArray, List.getElem_cons_zero, List.getElem_cons_succ, k0, q1, q2]
  refine ra_end rfl ?_
  simp only [FS, ↓RE, okR, argEnv, Nat.reduceAdd, Nat.reduceSub, Nat.reduceLT, Nat.reduceLeDiff, Nat.reduceEqDiff, reduceIte, RT, RM, RG, List.take_succ_cons, List.take_zero, List.drop_zero, List.drop_succ_cons, Nat.reduceAdd, List.getElem_toArray, List.getElem_cons_zero, List.getElem_cons_succ]
  refine awg_cond (t := true) (by kernel_rfl) (fun _ => ?_) (fun h => by cases h)
  refine awg_from (ra_data oNone_ok 3 (Nat.le_of_ble_eq_true rfl) ?_)
  simp only [FS, ↓RE, okR, argEnv, Nat.reduceAdd, Nat.reduceSub, Nat.reduceLT, Nat.reduceLeDiff, Nat.reduceEqDiff, reduceIte, RT, RM, RG, List.take_succ_cons, List.take_zero, List.drop_zero, List.drop_succ_cons, Nat.reduceAdd, List.getElem_toArray, List.getElem_cons_zero, List.getElem_cons_succ]
  refine ra_panic (t := 150) (d := .agg [stD t]) rfl rfl rfl (by kernel_rfl) fun v hv => ?_
  obtain ⟨R, n, hr⟩ := hv
  exact ⟨⟨_, _, rfl, rel_strv1 hr _⟩, hno⟩
 | nil =>
 have q2 : decide ((0 : Int) < ((0 : Nat) : Int)) = false := rfl
 refine ra_data oNone_ok 12 (Nat.le_of_ble_eq_true rfl) ?_
 simp only [FS, ↓RE, okR, argEnv, Nat.reduceAdd, Nat.reduceSub, Nat.reduceLT, Nat.reduceLeDiff, Nat.reduceEqDiff, reduceIte, RT, RM, RG, List.take_succ_cons, List.take_zero, List.drop_zero, List.drop_succ_cons, Nat.reduceAdd, List.getElem_toArray, List.getElem_cons_zero, List.getElem_cons_succ, k0, q1, q2]
 refine ra_end rfl ?_
 simp only [FS, ↓RE, okR, argEnv, Nat.reduceAdd, Nat.reduceSub, Nat.reduceLT, Nat.reduceLeDiff, Nat.reduceEqDiff, reduceIte, RT, RM, RG, List.take_succ_cons, List.take_zero, List.drop_zero, List.drop_succ_cons, Nat.reduceAdd, List.getElem_toArray, List.getElem_cons_zero, List.getElem_cons_succ]
 refine awg_cond (t := false) (by kernel_rfl) (fun h => by cases h) (fun _ => awg_skip ?_)
 simp only [FS, ↓RE, okR, argEnv, Nat.reduceAdd, Nat.reduceSub, Nat.reduceLT, Nat.reduceLeDiff, Nat.reduceEqDiff, reduceIte, RT, RM, RG, List.take_succ_cons, List.take_zero, List.drop_zero, List.drop_succ_cons, Nat.reduceAdd, List.getElem_toArray, List.getElem_cons_zero, List.getElem_cons_succ]
 have hyes : readB t = some gs := by
  rw [hrd, if_pos]
  simp [endB, htk2, hz]
 clear hrd hmn
 match gs, h5 with
 | [g0, g1, g2, g3, g4], _ =>
 rw [show wcL [g0, g1, g2, g3, g4] = (wxOf [g0, g1, g2, g3, g4]).c [] from rfl]
 refine awg_restT (T := []) oNone_ok rfl ?_
 simp only [FS, ↓RE, okR, argEnv, Nat.reduceAdd, Nat.reduceSub, Nat.reduceLT, Nat.reduceLeDiff, Nat.reduceEqDiff, reduceIte, RT, RM, RG, Wx.c, wxOf]
 exact ⟨_, hyes, rfl⟩
end Go.Sx
