/- Own work: a calculus of contracts for the programs of this kit: parts SxN24z, SxN25z. -/
import Derived.Test.YtjhoplbdpdbgaaaGreatDoorSxNE
import Derived.Test.YtjhoplbdpdbgaaaGreatDoorSxN20z
import Derived.Test.YtjhoplbdpdbgaaaGreatDoorSxMe
import Derived.Test.YtjhoplbdpdbgaaaGreatDoorRows
import Derived.Shelf.Vars
import Derived.Lib.LaidTab
import Derived.Stop.LaidErr
import Derived.LaidLaws
import Derived.MakeChecks
import Derived.SizedLaws
import Derived.Handed
import Derived.KernelRfl
set_option linter.unusedVariables false
set_option linter.unusedSimpArgs false
namespace Go.Sx
open Go.Proofs Go.Lib
set_option maxRecDepth 10000
variable {w0 : World}

theorem pure_weak {P : Program} {f : FuncId} {ds ds' : List D} {r : D} (hp : Pure P f ds' r) (hw : ∀ R n vs, RelL R n vs ds → RelL R n vs ds') : Pure P f ds r := ⟨hp.1, fun X k vs hh hn hg hr => hp.2 X k vs hh hn hg (hw _ _ _ hr)⟩
theorem same_zero : Pure Tryz.prog 45 [.agg (wx0.c []), .agg (wcL [])] (.bool true) := by
 have h := SameWeather_t wx0 wx0 ⟨by decide, by decide, by decide, by decide, by decide⟩ ⟨by decide, by decide, by decide, by decide, by decide⟩
 rw [(sameWx_iff _ _).2 rfl] at h
 refine pure_weak h fun R n vs hr => ⟨hr.1, fun i v d h1 h2 => ?_⟩
 match i with
 | 0 => exact hr.2 0 v d h1 h2
 | 1 =>
  simp at h2; subst h2
  rw [← wx0_c]
  exact rel_aggN (hr.2 1 v _ h1 rfl)
 | i + 2 => simp at h2
theorem wxs_of {t : Bs} {gs : List Ga} (ht : t.length ≤ 1000000) (h : readB t = some gs) : WxS (wxOf gs) := by
 obtain ⟨rfl, h5, _⟩ := (read_iff _ _).1 h
 match gs, h5 with
 | [a, b, c, d, e], _ =>
  have := flat_ge (fileLines [a, b, c, d, e])
  have h2 : (fileLines [a, b, c, d, e]).length = a.rs.length + b.rs.length + c.rs.length + d.rs.length + e.rs.length + 6 := by
   simp [fileLines, gasLines, namesB, gaLines]; omega
  have h3 : (flatB (fileLines [a, b, c, d, e])).length ≤ 1000000 := ht
  exact ⟨by show a.rs.length ≤ _; omega, by show b.rs.length ≤ _; omega, by show c.rs.length ≤ _; omega, by show d.rs.length ≤ _; omega, by show e.rs.length ≤ _; omega⟩
theorem gs_of {t : Bs} {gs : List Ga} (h : readB t = some gs) : (wxOf gs).gs = gs := by
 obtain ⟨_, h5, _⟩ := (read_iff _ _).1 h
 match gs, h5 with
 | [a, b, c, d, e], _ => rfl
theorem waterReads_at (hT : TabsT w0) (t : Bs) {R : List PanicEntry → H → Nat → Prop} : PCallG Tryz.prog w0 11 [stD t] [] 0 (fun r _ _ => r = .bool true) R := by
 have pK := known_t
 have hsz := s_len t
 by_cases hskip : (3000 < t.length ∧ t.length ≤ 20000) ∨ 20100 < t.length
 ·refine pcallg_of_pieces (rs := [.tmp 2]) (m := 79) Tryz.func11 rfl (by kernel_rfl) rfl rfl ?_
  refine awg_peel (T := []) oNone_ok (by kernel_rfl) (by kernel_rfl) ?_
  simp only [FS, ↓RE, okR, argEnv, Nat.reduceAdd, Nat.reduceSub, Nat.reduceLT, Nat.reduceLeDiff, Nat.reduceEqDiff, reduceIte, RT, RM, RG]
  refine awg_peel (T := []) oNone_ok (by kernel_rfl) (by kernel_rfl) ?_
  have q1 : decide ((3000 : Int) < (t.length : Int)) = true := by simp; omega
  by_cases h2 : t.length ≤ 20000
  ·have q2 : decide ((t.length : Int) ≤ 20000) = true := by simp; omega
   simp only [FS, ↓RE, okR, argEnv, Nat.reduceAdd, Nat.reduceSub, Nat.reduceLT, Nat.reduceLeDiff, Nat.reduceEqDiff, reduceIte, RT, RM, RG, hsz, q1, q2]
   refine call_of_pure pK rfl ?_
   simp only [FS, ↓RE, okR, argEnv, Nat.reduceAdd, Nat.reduceSub, Nat.reduceLT, Nat.reduceLeDiff, Nat.reduceEqDiff, reduceIte, RT, RM, RG]
  ·have q2 : decide ((t.length : Int) ≤ 20000) = false := by simp; omega
   have q3 : decide ((20100 : Int) < (t.length : Int)) = true := by simp; omega
   simp only [FS, ↓RE, okR, argEnv, Nat.reduceAdd, Nat.reduceSub, Nat.reduceLT, Nat.reduceLeDiff, Nat.reduceEqDiff, reduceIte, RT, RM, RG, hsz, q1, q2, q3]
   refine call_of_pure pK rfl ?_
   simp only [FS, ↓RE, okR, argEnv, Nat.reduceAdd, Nat.reduceSub, Nat.reduceLT, Nat.reduceLeDiff, Nat.reduceEqDiff, reduceIte, RT, RM, RG]
 have ht : t.length ≤ 20100 := by omega
 have q3 : decide ((20100 : Int) < (t.length : Int)) = false := by simp; omega
 have pR := Read_g hT t (by omega)
 have pX := rread_g (w0 := w0) t (by omega) (R := fun _ _ _ => False)
 have z0 : ((0 : Int) != 0) = false := rfl
 have z1 : ((0 : Int) == 0) = true := rfl
 have pZ := same_zero
 have hz : wx0.c [] = [.int .i64 0, .int .i64 0, .int .i64 0, .sl [], .int .i64 0, .int .i64 0, .int .i64 0, .sl [], .int .i64 0, .int .i64 0, .int .i64 0, .sl [], .int .i64 0, .int .i64 0, .int .i64 0, .sl [], .int .i64 0, .int .i64 0, .int .i64 0, .sl []] := rfl
 rw [hz, wc_zero] at pZ
 by_cases hbig : 20000 < t.length
 ·have q1 : decide ((3000 : Int) < (t.length : Int)) = true := by simp; omega
  have q2 : decide ((t.length : Int) ≤ 20000) = false := by simp; omega
  have q4 : decide ((20000 : Int) < (t.length : Int)) = true := by simp; omega
  have e3 : readR t = .tup [.agg (wx0.c []), .int .i64 3] := by unfold readR; rw [if_pos hbig]
  rw [e3, hz] at pR
  have ex : ∃ xs b, rreadR t = .tup [.agg xs, .bool b] ∧ xs.length = 20 ∧ (∀ h : H, xs.all (curD h) = true) ∧ D.frL xs = true := by
   unfold rreadR
   cases readB t with
   | none => exact ⟨_, _, rfl, rfl, fun _ => rfl, rfl⟩
   | some gs => exact ⟨_, _, rfl, rfl, fun _ => rfl, by simp [Wx.c, gaC, D.frL, D.fr]⟩
  obtain ⟨xs, b, ex, hxl, hxt, hxf⟩ := ex
  rw [ex] at pX
  have hpx : putL (wcL []) 0 xs = xs := by
   unfold putL
   rw [List.drop_of_length_le (by rw [hxl]; exact Nat.le_refl 20)]
   simp
  rw [wc_zero] at hpx
  refine pcallg_of_pieces (rs := [.tmp 2]) (m := 79) Tryz.func11 rfl (by kernel_rfl) rfl rfl ?_
  refine awg_peel (T := []) oNone_ok (by kernel_rfl) (by kernel_rfl) ?_
  simp only [FS, ↓RE, okR, argEnv, Nat.reduceAdd, Nat.reduceSub, Nat.reduceLT, Nat.reduceLeDiff, Nat.reduceEqDiff, reduceIte, RT, RM, RG]
  refine awg_peel (T := []) oNone_ok (by kernel_rfl) (by kernel_rfl) ?_
  simp only [FS, ↓RE, okR, argEnv, Nat.reduceAdd, Nat.reduceSub, Nat.reduceLT, Nat.reduceLeDiff, Nat.reduceEqDiff, reduceIte, RT, RM, RG, hsz, q1, q2, q3]
  refine awg_seq (awg_from (ra_data oNone_ok 1 (Nat.le_of_ble_eq_true rfl) ?_))
  simp only [FS, ↓RE, okR, argEnv, Nat.reduceAdd, Nat.reduceSub, Nat.reduceLT, Nat.reduceLeDiff, Nat.reduceEqDiff, reduceIte, RT, RM, RG, List.take_succ_cons, List.take_zero, List.drop_zero, List.drop_succ_cons, Nat.reduceAdd, List.getElem_toArray, List.getElem_cons_zero, List.getElem_cons_succ]
  refine ra_call rfl (.inl rfl) rfl rfl ((pcallg_data (A := fun r => r = _) (R := fun _ => False) pR rfl fun r hr => by subst hr; simp [D.frL, D.fr]).mono ?_ fun _ _ _ h => h.1.elim)
  rintro r h nid ⟨rfl, rfl, rfl⟩
  refine ra_data oNone_ok 6 (Nat.le_of_ble_eq_true rfl) ?_
  simp only [FS, ↓RE, okR, argEnv, Nat.reduceAdd, Nat.reduceSub, Nat.reduceLT, Nat.reduceLeDiff, Nat.reduceEqDiff, reduceIte, RT, RM, RG, List.take_succ_cons, List.take_zero, List.drop_zero, List.drop_succ_cons, Nat.reduceAdd, List.getElem_toArray, List.getElem_cons_zero, List.getElem_cons_succ]
  refine ra_end rfl ?_
  simp only [FS, ↓RE, okR, argEnv, Nat.reduceAdd, Nat.reduceSub, Nat.reduceLT, Nat.reduceLeDiff, Nat.reduceEqDiff, reduceIte, RT, RM, RG, List.take_succ_cons, List.take_zero, List.drop_zero, List.drop_succ_cons, Nat.reduceAdd, List.getElem_toArray, List.getElem_cons_zero, List.getElem_cons_succ]
  refine awg_peel (T := []) oNone_ok (by kernel_rfl) (by kernel_rfl) ?_
  simp only [FS, ↓RE, okR, argEnv, Nat.reduceAdd, Nat.reduceSub, Nat.reduceLT, Nat.reduceLeDiff, Nat.reduceEqDiff, reduceIte, RT, RM, RG]
  refine awg_seq (awg_from (ra_data oNone_ok 1 (Nat.le_of_ble_eq_true rfl) ?_))
  simp only [FS, ↓RE, okR, argEnv, Nat.reduceAdd, Nat.reduceSub, Nat.reduceLT, Nat.reduceLeDiff, Nat.reduceEqDiff, reduceIte, RT, RM, RG, List.take_succ_cons, List.take_zero, List.drop_zero, List.drop_succ_cons, Nat.reduceAdd, List.getElem_toArray, List.getElem_cons_zero, List.getElem_cons_succ]
  refine ra_call rfl (.inl rfl) rfl rfl ((pcallg_data (A := fun r => r = _) (R := fun _ => False) pX rfl fun r hr => by subst hr; simp [D.frL, D.fr, hxf]).mono ?_ fun _ _ _ h => h.1.elim)
  rintro r h nid ⟨rfl, rfl, rfl⟩
  refine ra_data oNone_ok 6 (Nat.le_of_ble_eq_true rfl) ?_
  simp only [FS, ↓RE, okR, argEnv, Nat.reduceAdd, Nat.reduceSub, Nat.reduceLT, Nat.reduceLeDiff, Nat.reduceEqDiff, reduceIte, RT, RM, RG, List.take_succ_cons, List.take_zero, List.drop_zero, List.drop_succ_cons, Nat.reduceAdd, List.getElem_toArray, List.getElem_cons_zero, List.getElem_cons_succ, hxl, hpx, hxt]
  refine ra_end rfl ?_
  simp only [FS, ↓RE, okR, argEnv, Nat.reduceAdd, Nat.reduceSub, Nat.reduceLT, Nat.reduceLeDiff, Nat.reduceEqDiff, reduceIte, RT, RM, RG, List.take_succ_cons, List.take_zero, List.drop_zero, List.drop_succ_cons, Nat.reduceAdd, List.getElem_toArray, List.getElem_cons_zero, List.getElem_cons_succ]
  refine awg_peel (T := []) oNone_ok (by kernel_rfl) (by kernel_rfl) ?_
  simp only [FS, ↓RE, okR, argEnv, Nat.reduceAdd, Nat.reduceSub, Nat.reduceLT, Nat.reduceLeDiff, Nat.reduceEqDiff, reduceIte, RT, RM, RG, hsz, q4]
  refine awg_peel (T := []) oNone_ok (by kernel_rfl) (by kernel_rfl) ?_
  simp only [FS, ↓RE, okR, argEnv, Nat.reduceAdd, Nat.reduceSub, Nat.reduceLT, Nat.reduceLeDiff, Nat.reduceEqDiff, reduceIte, RT, RM, RG, show ((3 : Int) != 0) = true from rfl, show ((3 : Int) == 3) = true from rfl]
  refine call_of_pure pZ rfl ?_
  simp only [FS, ↓RE, okR, argEnv, Nat.reduceAdd, Nat.reduceSub, Nat.reduceLT, Nat.reduceLeDiff, Nat.reduceEqDiff, reduceIte, RT, RM, RG]
  refine call_of_pure pK rfl ?_
  simp only [FS, ↓RE, okR, argEnv, Nat.reduceAdd, Nat.reduceSub, Nat.reduceLT, Nat.reduceLeDiff, Nat.reduceEqDiff, reduceIte, RT, RM, RG]
 have q1 : decide ((3000 : Int) < (t.length : Int)) = false := by simp; omega
 have q4 : decide ((20000 : Int) < (t.length : Int)) = false := by simp; omega
 have e3 : readR t = match readB t with
 | none => .tup [.agg (wx0.c []), .int .i64 4]
 | some gs => if okWx (wxOf gs) = true then .tup [.agg ((wxOf gs).c []), .int .i64 0] else .tup [.agg (wx0.c []), .int .i64 2] := by unfold readR; rw [if_neg hbig]; rfl
 unfold rreadR at pX
 rw [e3] at pR
 cases hrd : readB t with
 | none =>
  rw [hrd] at pR pX
  dsimp only at pR pX
  rw [hz] at pR
  rw [wc_zero] at pX
  refine pcallg_of_pieces (rs := [.tmp 2]) (m := 79) Tryz.func11 rfl (by kernel_rfl) rfl rfl ?_
  refine awg_peel (T := []) oNone_ok (by kernel_rfl) (by kernel_rfl) ?_
  simp only [FS, ↓RE, okR, argEnv, Nat.reduceAdd, Nat.reduceSub, Nat.reduceLT, Nat.reduceLeDiff, Nat.reduceEqDiff, reduceIte, RT, RM, RG]
  refine awg_peel (T := []) oNone_ok (by kernel_rfl) (by kernel_rfl) ?_
  simp only [FS, ↓RE, okR, argEnv, Nat.reduceAdd, Nat.reduceSub, Nat.reduceLT, Nat.reduceLeDiff, Nat.reduceEqDiff, reduceIte, RT, RM, RG, hsz, q1, q3]
  refine awg_seq (awg_from (ra_data oNone_ok 1 (Nat.le_of_ble_eq_true rfl) ?_))
  simp only [FS, ↓RE, okR, argEnv, Nat.reduceAdd, Nat.reduceSub, Nat.reduceLT, Nat.reduceLeDiff, Nat.reduceEqDiff, reduceIte, RT, RM, RG, List.take_succ_cons, List.take_zero, List.drop_zero, List.drop_succ_cons, Nat.reduceAdd, List.getElem_toArray, List.getElem_cons_zero, List.getElem_cons_succ]
  refine ra_call rfl (.inl rfl) rfl rfl ((pcallg_data (A := fun r => r = _) (R := fun _ => False) pR rfl fun r hr => by subst hr; simp [D.frL, D.fr]).mono ?_ fun _ _ _ h => h.1.elim)
  rintro r h nid ⟨rfl, rfl, rfl⟩
  refine ra_data oNone_ok 6 (Nat.le_of_ble_eq_true rfl) ?_
  simp only [FS, ↓RE, okR, argEnv, Nat.reduceAdd, Nat.reduceSub, Nat.reduceLT, Nat.reduceLeDiff, Nat.reduceEqDiff, reduceIte, RT, RM, RG, List.take_succ_cons, List.take_zero, List.drop_zero, List.drop_succ_cons, Nat.reduceAdd, List.getElem_toArray, List.getElem_cons_zero, List.getElem_cons_succ]
  refine ra_end rfl ?_
  simp only [FS, ↓RE, okR, argEnv, Nat.reduceAdd, Nat.reduceSub, Nat.reduceLT, Nat.reduceLeDiff, Nat.reduceEqDiff, reduceIte, RT, RM, RG, List.take_succ_cons, List.take_zero, List.drop_zero, List.drop_succ_cons, Nat.reduceAdd, List.getElem_toArray, List.getElem_cons_zero, List.getElem_cons_succ]
  refine awg_peel (T := []) oNone_ok (by kernel_rfl) (by kernel_rfl) ?_
  simp only [FS, ↓RE, okR, argEnv, Nat.reduceAdd, Nat.reduceSub, Nat.reduceLT, Nat.reduceLeDiff, Nat.reduceEqDiff, reduceIte, RT, RM, RG]
  refine awg_seq (awg_from (ra_data oNone_ok 1 (Nat.le_of_ble_eq_true rfl) ?_))
  simp only [FS, ↓RE, okR, argEnv, Nat.reduceAdd, Nat.reduceSub, Nat.reduceLT, Nat.reduceLeDiff, Nat.reduceEqDiff, reduceIte, RT, RM, RG, List.take_succ_cons, List.take_zero, List.drop_zero, List.drop_succ_cons, Nat.reduceAdd, List.getElem_toArray, List.getElem_cons_zero, List.getElem_cons_succ]
  refine ra_call rfl (.inl rfl) rfl rfl ((pcallg_data (A := fun r => r = _) (R := fun _ => False) pX rfl fun r hr => by subst hr; simp [D.frL, D.fr]).mono ?_ fun _ _ _ h => h.1.elim)
  rintro r h nid ⟨rfl, rfl, rfl⟩
  refine ra_data oNone_ok 6 (Nat.le_of_ble_eq_true rfl) ?_
  simp only [FS, ↓RE, okR, argEnv, Nat.reduceAdd, Nat.reduceSub, Nat.reduceLT, Nat.reduceLeDiff, Nat.reduceEqDiff, reduceIte, RT, RM, RG, List.take_succ_cons, List.take_zero, List.drop_zero, List.drop_succ_cons, Nat.reduceAdd, List.getElem_toArray, List.getElem_cons_zero, List.getElem_cons_succ]
  refine ra_end rfl ?_
  simp only [FS, ↓RE, okR, argEnv, Nat.reduceAdd, Nat.reduceSub, Nat.reduceLT, Nat.reduceLeDiff, Nat.reduceEqDiff, reduceIte, RT, RM, RG, List.take_succ_cons, List.take_zero, List.drop_zero, List.drop_succ_cons, Nat.reduceAdd, List.getElem_toArray, List.getElem_cons_zero, List.getElem_cons_succ]
  refine awg_peel (T := []) oNone_ok (by kernel_rfl) (by kernel_rfl) ?_
  simp only [FS, ↓RE, okR, argEnv, Nat.reduceAdd, Nat.reduceSub, Nat.reduceLT, Nat.reduceLeDiff, Nat.reduceEqDiff, reduceIte, RT, RM, RG, hsz, q4, Bool.not_false]
  refine awg_peel (T := []) oNone_ok (by kernel_rfl) (by kernel_rfl) ?_
  simp only [FS, ↓RE, okR, argEnv, Nat.reduceAdd, Nat.reduceSub, Nat.reduceLT, Nat.reduceLeDiff, Nat.reduceEqDiff, reduceIte, RT, RM, RG, show ((4 : Int) != 0) = true from rfl, show ((4 : Int) == 4) = true from rfl]
  refine call_of_pure pZ rfl ?_
  simp only [FS, ↓RE, okR, argEnv, Nat.reduceAdd, Nat.reduceSub, Nat.reduceLT, Nat.reduceLeDiff, Nat.reduceEqDiff, reduceIte, RT, RM, RG]
  refine call_of_pure pK rfl ?_
  simp only [FS, ↓RE, okR, argEnv, Nat.reduceAdd, Nat.reduceSub, Nat.reduceLT, Nat.reduceLeDiff, Nat.reduceEqDiff, reduceIte, RT, RM, RG]
 | some gs =>
 rw [hrd] at pR pX
 dsimp only at pR pX
 have hwl := wxl_of (by omega) hrd
 have hws := wxs_of (by omega) hrd
 have hgs := gs_of hrd
 have htp := ((read_iff _ _).1 hrd).1
 have pW := rweather_t _ hwl
 have pP := Print_g hT hwl (fun h => ok_gs h) (R := fun _ _ _ => False)
 have pS := SameWeather_t _ _ hws hws
 rw [(sameWx_iff _ _).2 rfl] at pS
 rw [hgs, ← htp] at pP
 have e2 : strOp .eql (bS t) (bS t) = some (.bool true) := by
  have := s_eq (P := Tryz.prog) 9 t t
  rw [decide_eq_true rfl] at this
  exact this
 generalize wxOf gs = w at *
 cases hk : okWx w
 ·rw [hk] at pR pW
  rw [if_neg (by simp), hz] at pR
  simp only [Wx.c, gaC] at pX pW
  refine pcallg_of_pieces (rs := [.tmp 2]) (m := 79) Tryz.func11 rfl (by kernel_rfl) rfl rfl ?_
  refine awg_peel (T := []) oNone_ok (by kernel_rfl) (by kernel_rfl) ?_
  simp only [FS, ↓RE, okR, argEnv, Nat.reduceAdd, Nat.reduceSub, Nat.reduceLT, Nat.reduceLeDiff, Nat.reduceEqDiff, reduceIte, RT, RM, RG]
  refine awg_peel (T := []) oNone_ok (by kernel_rfl) (by kernel_rfl) ?_
  simp only [FS, ↓RE, okR, argEnv, Nat.reduceAdd, Nat.reduceSub, Nat.reduceLT, Nat.reduceLeDiff, Nat.reduceEqDiff, reduceIte, RT, RM, RG, hsz, q1, q3]
  refine awg_seq (awg_from (ra_data oNone_ok 1 (Nat.le_of_ble_eq_true rfl) ?_))
  simp only [FS, ↓RE, okR, argEnv, Nat.reduceAdd, Nat.reduceSub, Nat.reduceLT, Nat.reduceLeDiff, Nat.reduceEqDiff, reduceIte, RT, RM, RG, List.take_succ_cons, List.take_zero, List.drop_zero, List.drop_succ_cons, Nat.reduceAdd, List.getElem_toArray, List.getElem_cons_zero, List.getElem_cons_succ]
  refine ra_call rfl (.inl rfl) rfl rfl ((pcallg_data (A := fun r => r = _) (R := fun _ => False) pR rfl fun r hr => by subst hr; simp [D.frL, D.fr]).mono ?_ fun _ _ _ h => h.1.elim)
  rintro r h nid ⟨rfl, rfl, rfl⟩
  refine ra_data oNone_ok 6 (Nat.le_of_ble_eq_true rfl) ?_
  simp only [FS, ↓RE, okR, argEnv, Nat.reduceAdd, Nat.reduceSub, Nat.reduceLT, Nat.reduceLeDiff, Nat.reduceEqDiff, reduceIte, RT, RM, RG, List.take_succ_cons, List.take_zero, List.drop_zero, List.drop_succ_cons, Nat.reduceAdd, List.getElem_toArray, List.getElem_cons_zero, List.getElem_cons_succ]
  refine ra_end rfl ?_
  simp only [FS, ↓RE, okR, argEnv, Nat.reduceAdd, Nat.reduceSub, Nat.reduceLT, Nat.reduceLeDiff, Nat.reduceEqDiff, reduceIte, RT, RM, RG, List.take_succ_cons, List.take_zero, List.drop_zero, List.drop_succ_cons, Nat.reduceAdd, List.getElem_toArray, List.getElem_cons_zero, List.getElem_cons_succ]
  refine awg_peel (T := []) oNone_ok (by kernel_rfl) (by kernel_rfl) ?_
  simp only [FS, ↓RE, okR, argEnv, Nat.reduceAdd, Nat.reduceSub, Nat.reduceLT, Nat.reduceLeDiff, Nat.reduceEqDiff, reduceIte, RT, RM, RG]
  refine awg_seq (awg_from (ra_data oNone_ok 1 (Nat.le_of_ble_eq_true rfl) ?_))
  simp only [FS, ↓RE, okR, argEnv, Nat.reduceAdd, Nat.reduceSub, Nat.reduceLT, Nat.reduceLeDiff, Nat.reduceEqDiff, reduceIte, RT, RM, RG, List.take_succ_cons, List.take_zero, List.drop_zero, List.drop_succ_cons, Nat.reduceAdd, List.getElem_toArray, List.getElem_cons_zero, List.getElem_cons_succ]
  refine ra_call rfl (.inl rfl) rfl rfl ((pcallg_data (A := fun r => r = _) (R := fun _ => False) pX rfl fun r hr => by subst hr; simp [D.frL, D.fr]).mono ?_ fun _ _ _ h => h.1.elim)
  rintro r h nid ⟨rfl, rfl, rfl⟩
  refine ra_data oNone_ok 6 (Nat.le_of_ble_eq_true rfl) ?_
  simp only [FS, ↓RE, okR, argEnv, Nat.reduceAdd, Nat.reduceSub, Nat.reduceLT, Nat.reduceLeDiff, Nat.reduceEqDiff, reduceIte, RT, RM, RG, List.take_succ_cons, List.take_zero, List.drop_zero, List.drop_succ_cons, Nat.reduceAdd, List.getElem_toArray, List.getElem_cons_zero, List.getElem_cons_succ]
  refine ra_end rfl ?_
  simp only [FS, ↓RE, okR, argEnv, Nat.reduceAdd, Nat.reduceSub, Nat.reduceLT, Nat.reduceLeDiff, Nat.reduceEqDiff, reduceIte, RT, RM, RG, List.take_succ_cons, List.take_zero, List.drop_zero, List.drop_succ_cons, Nat.reduceAdd, List.getElem_toArray, List.getElem_cons_zero, List.getElem_cons_succ]
  refine awg_peel (T := []) oNone_ok (by kernel_rfl) (by kernel_rfl) ?_
  simp only [FS, ↓RE, okR, argEnv, Nat.reduceAdd, Nat.reduceSub, Nat.reduceLT, Nat.reduceLeDiff, Nat.reduceEqDiff, reduceIte, RT, RM, RG, hsz, q4, Bool.not_true]
  refine call_of_pure pW rfl ?_
  simp only [FS, ↓RE, okR, argEnv, Nat.reduceAdd, Nat.reduceSub, Nat.reduceLT, Nat.reduceLeDiff, Nat.reduceEqDiff, reduceIte, RT, RM, RG, Bool.not_false]
  refine awg_peel (T := []) oNone_ok (by kernel_rfl) (by kernel_rfl) ?_
  simp only [FS, ↓RE, okR, argEnv, Nat.reduceAdd, Nat.reduceSub, Nat.reduceLT, Nat.reduceLeDiff, Nat.reduceEqDiff, reduceIte, RT, RM, RG, show ((2 : Int) != 0) = true from rfl, show ((2 : Int) == 2) = true from rfl]
  refine call_of_pure pZ rfl ?_
  simp only [FS, ↓RE, okR, argEnv, Nat.reduceAdd, Nat.reduceSub, Nat.reduceLT, Nat.reduceLeDiff, Nat.reduceEqDiff, reduceIte, RT, RM, RG]
  refine call_of_pure pK rfl ?_
  simp only [FS, ↓RE, okR, argEnv, Nat.reduceAdd, Nat.reduceSub, Nat.reduceLT, Nat.reduceLeDiff, Nat.reduceEqDiff, reduceIte, RT, RM, RG]
 ·rw [hk] at pR pW pP
  rw [if_pos rfl] at pR pP
  simp only [Wx.c, gaC] at pX pW pR pP pS
  refine pcallg_of_pieces (rs := [.tmp 2]) (m := 79) Tryz.func11 rfl (by kernel_rfl) rfl rfl ?_
  refine awg_peel (T := []) oNone_ok (by kernel_rfl) (by kernel_rfl) ?_
  simp only [FS, ↓RE, okR, argEnv, Nat.reduceAdd, Nat.reduceSub, Nat.reduceLT, Nat.reduceLeDiff, Nat.reduceEqDiff, reduceIte, RT, RM, RG]
  refine awg_peel (T := []) oNone_ok (by kernel_rfl) (by kernel_rfl) ?_
  simp only [FS, ↓RE, okR, argEnv, Nat.reduceAdd, Nat.reduceSub, Nat.reduceLT, Nat.reduceLeDiff, Nat.reduceEqDiff, reduceIte, RT, RM, RG, hsz, q1, q3]
  refine awg_seq (awg_from (ra_data oNone_ok 1 (Nat.le_of_ble_eq_true rfl) ?_))
  simp only [FS, ↓RE, okR, argEnv, Nat.reduceAdd, Nat.reduceSub, Nat.reduceLT, Nat.reduceLeDiff, Nat.reduceEqDiff, reduceIte, RT, RM, RG, List.take_succ_cons, List.take_zero, List.drop_zero, List.drop_succ_cons, Nat.reduceAdd, List.getElem_toArray, List.getElem_cons_zero, List.getElem_cons_succ]
  refine ra_call rfl (.inl rfl) rfl rfl ((pcallg_data (A := fun r => r = _) (R := fun _ => False) pR rfl fun r hr => by subst hr; simp [D.frL, D.fr]).mono ?_ fun _ _ _ h => h.1.elim)
  rintro r h nid ⟨rfl, rfl, rfl⟩
  refine ra_data oNone_ok 6 (Nat.le_of_ble_eq_true rfl) ?_
  simp only [FS, ↓RE, okR, argEnv, Nat.reduceAdd, Nat.reduceSub, Nat.reduceLT, Nat.reduceLeDiff, Nat.reduceEqDiff, reduceIte, RT, RM, RG, List.take_succ_cons, List.take_zero, List.drop_zero, List.drop_succ_cons, Nat.reduceAdd, List.getElem_toArray, List.getElem_cons_zero, List.getElem_cons_succ]
  refine ra_end rfl ?_
  simp only [FS, ↓RE, okR, argEnv, Nat.reduceAdd, Nat.reduceSub, Nat.reduceLT, Nat.reduceLeDiff, Nat.reduceEqDiff, reduceIte, RT, RM, RG, List.take_succ_cons, List.take_zero, List.drop_zero, List.drop_succ_cons, Nat.reduceAdd, List.getElem_toArray, List.getElem_cons_zero, List.getElem_cons_succ]
  refine awg_peel (T := []) oNone_ok (by kernel_rfl) (by kernel_rfl) ?_
  simp only [FS, ↓RE, okR, argEnv, Nat.reduceAdd, Nat.reduceSub, Nat.reduceLT, Nat.reduceLeDiff, Nat.reduceEqDiff, reduceIte, RT, RM, RG]
  refine awg_seq (awg_from (ra_data oNone_ok 1 (Nat.le_of_ble_eq_true rfl) ?_))
  simp only [FS, ↓RE, okR, argEnv, Nat.reduceAdd, Nat.reduceSub, Nat.reduceLT, Nat.reduceLeDiff, Nat.reduceEqDiff, reduceIte, RT, RM, RG, List.take_succ_cons, List.take_zero, List.drop_zero, List.drop_succ_cons, Nat.reduceAdd, List.getElem_toArray, List.getElem_cons_zero, List.getElem_cons_succ]
  refine ra_call rfl (.inl rfl) rfl rfl ((pcallg_data (A := fun r => r = _) (R := fun _ => False) pX rfl fun r hr => by subst hr; simp [D.frL, D.fr]).mono ?_ fun _ _ _ h => h.1.elim)
  rintro r h nid ⟨rfl, rfl, rfl⟩
  refine ra_data oNone_ok 6 (Nat.le_of_ble_eq_true rfl) ?_
  simp only [FS, ↓RE, okR, argEnv, Nat.reduceAdd, Nat.reduceSub, Nat.reduceLT, Nat.reduceLeDiff, Nat.reduceEqDiff, reduceIte, RT, RM, RG, List.take_succ_cons, List.take_zero, List.drop_zero, List.drop_succ_cons, Nat.reduceAdd, List.getElem_toArray, List.getElem_cons_zero, List.getElem_cons_succ]
  refine ra_end rfl ?_
  simp only [FS, ↓RE, okR, argEnv, Nat.reduceAdd, Nat.reduceSub, Nat.reduceLT, Nat.reduceLeDiff, Nat.reduceEqDiff, reduceIte, RT, RM, RG, List.take_succ_cons, List.take_zero, List.drop_zero, List.drop_succ_cons, Nat.reduceAdd, List.getElem_toArray, List.getElem_cons_zero, List.getElem_cons_succ]
  refine awg_peel (T := []) oNone_ok (by kernel_rfl) (by kernel_rfl) ?_
  simp only [FS, ↓RE, okR, argEnv, Nat.reduceAdd, Nat.reduceSub, Nat.reduceLT, Nat.reduceLeDiff, Nat.reduceEqDiff, reduceIte, RT, RM, RG, hsz, q4, Bool.not_true]
  refine call_of_pure pW rfl ?_
  simp only [FS, ↓RE, okR, argEnv, Nat.reduceAdd, Nat.reduceSub, Nat.reduceLT, Nat.reduceLeDiff, Nat.reduceEqDiff, reduceIte, RT, RM, RG, Bool.not_true]
  refine awg_peel (T := []) oNone_ok (by kernel_rfl) (by kernel_rfl) ?_
  simp only [FS, ↓RE, okR, argEnv, Nat.reduceAdd, Nat.reduceSub, Nat.reduceLT, Nat.reduceLeDiff, Nat.reduceEqDiff, reduceIte, RT, RM, RG, z0]
  refine awg_seq (awg_from (ra_data oNone_ok 1 (Nat.le_of_ble_eq_true rfl) ?_))
  simp only [FS, ↓RE, okR, argEnv, Nat.reduceAdd, Nat.reduceSub, Nat.reduceLT, Nat.reduceLeDiff, Nat.reduceEqDiff, reduceIte, RT, RM, RG, List.take_succ_cons, List.take_zero, List.drop_zero, List.drop_succ_cons, Nat.reduceAdd, List.getElem_toArray, List.getElem_cons_zero, List.getElem_cons_succ]
  refine ra_call rfl (.inl rfl) rfl rfl ((pcallg_data (A := fun r => r = _) (R := fun _ => False) pP (by simp [D.frL, D.fr]) fun r hr => by subst hr; rfl).mono ?_ fun _ _ _ h => h.1.elim)
  rintro r h nid ⟨rfl, rfl, rfl⟩
  refine ra_data oNone_ok 5 (Nat.le_of_ble_eq_true rfl) ?_
  simp only [FS, ↓RE, okR, argEnv, Nat.reduceAdd, Nat.reduceSub, Nat.reduceLT, Nat.reduceLeDiff, Nat.reduceEqDiff, reduceIte, RT, RM, RG, List.take_succ_cons, List.take_zero, List.drop_zero, List.drop_succ_cons, Nat.reduceAdd, List.getElem_toArray, List.getElem_cons_zero, List.getElem_cons_succ]
  refine ra_end rfl ?_
  simp only [FS, ↓RE, okR, argEnv, Nat.reduceAdd, Nat.reduceSub, Nat.reduceLT, Nat.reduceLeDiff, Nat.reduceEqDiff, reduceIte, RT, RM, RG, List.take_succ_cons, List.take_zero, List.drop_zero, List.drop_succ_cons, Nat.reduceAdd, List.getElem_toArray, List.getElem_cons_zero, List.getElem_cons_succ]
  refine awg_peel (T := []) oNone_ok (by kernel_rfl) (by kernel_rfl) ?_
  simp only [FS, ↓RE, okR, argEnv, Nat.reduceAdd, Nat.reduceSub, Nat.reduceLT, Nat.reduceLeDiff, Nat.reduceEqDiff, reduceIte, RT, RM, RG, z1]
  refine call_of_pure pS rfl ?_
  simp only [FS, ↓RE, okR, argEnv, Nat.reduceAdd, Nat.reduceSub, Nat.reduceLT, Nat.reduceLeDiff, Nat.reduceEqDiff, reduceIte, RT, RM, RG, e2, z1]
  refine call_of_pure pK rfl ?_
  simp only [FS, ↓RE, okR, argEnv, Nat.reduceAdd, Nat.reduceSub, Nat.reduceLT, Nat.reduceLeDiff, Nat.reduceEqDiff, reduceIte, RT, RM, RG]
  refine awg_restT (T := []) oNone_ok rfl ?_
  simp only [FS, ↓RE, okR, argEnv, Nat.reduceAdd, Nat.reduceSub, Nat.reduceLT, Nat.reduceLeDiff, Nat.reduceEqDiff, reduceIte, RT, RM, RG]
end Go.Sx

namespace Go.Sx
open Go Go.Proofs Go.Proofs.YtjhoplbdpdbgaaaGreatDoor Go.Lib Go.RowKit Go.ChangeShapes
set_option maxRecDepth 10000
set_option linter.unusedVariables false

theorem laid_if {P : Program} {n nm : String} {d : DataW Unit} {r : List (String × DataW Unit)} {W : World} {g : Nat} {ti : TypeId} {ms : Array (String × TypeId)}
  (h : laidMet P ((n, .iface nm d) :: r) W) (hg : P.globalNamed n = some g) (ht : (P.globals[g]?).map (·.type) = some ti) (hi : P.underlying ti = some (.interface ms)) : ∃ v, W.cell? ⟨g, 0, none⟩ = some v ∧ IfV v := by
 obtain ⟨ps, ⟨g0, t0, cs0, f0, p0, q0, hg0, ht0, hv0, hd0, _, e0⟩, _, hrows⟩ := h
 obtain rfl := Option.some.inj (hg.symm.trans hg0)
 obtain rfl := Option.some.inj (ht.symm.trans ht0)
 obtain ⟨f1, u, v, hcs, _, _⟩ := iface_of_trod hi hd0
 obtain ⟨l0⟩ := cs0
 have hcs : l0 = [.iface u v] := hcs
 subst hcs
 exact ⟨.iface u v, by simpa using World.var?_cell hg0 hv0 0, .inr ⟨u, v, rfl⟩⟩
theorem tabsT_of {W : World} (hL : laidMetH Tryz.prog Rows.waterFilesRow.laid W) (hS : W.ShapedOpen Tryz.prog) : TabsT W := by
 rw [Go.MakeChecks.laidMetH_plain _ _ _ (by kernel_rfl)] at hL
 have h3 := hL.tail.tail
 have h5 := h3.tail.tail
 have h6 := h5.tail
 have hp : TabIs Tryz.prog W (Rows.waterFilesRow.laid[2]'(by decide)).1 .u64 pow10Tab := tabIs_of_head (g := 0) (t := 208) (e := 197) (n := 20) (by kernel_rfl) (by kernel_rfl) Tryz.underlying208 (by kernel_rfl) (by kernel_rfl) (by kernel_rfl) h3
 exact {
  p := Eq.mp (congrArg (fun nm => TabIs Tryz.prog W nm .u64 pow10Tab) (by kernel_rfl)) hp
  m := cell_of_shapedOpen_int (t := 3) (zero := #[.int .i64 0]) (k := .i64) hS (by decide +kernel) (by kernel_rfl) rfl (by kernel_rfl) (by kernel_rfl) Fz.und_3
  s := laid_if (g := 4) (ti := 193) h6 (by kernel_rfl) (by kernel_rfl) Tryz.underlying193
  r := laid_if (g := 5) (ti := 193) h5 (by kernel_rfl) (by kernel_rfl) Tryz.underlying193 }
theorem law_callsG {P : Program} {H : Type} {enc : TypeId × Value → H} {w : World} {base : Nat} {spare : Nat → Bool} {held : Bool} (hdis : disjAll P = true) {f : FuncId} {ts : List TypeId} {args : Array Value} {ds : List (DataW H)} {ps : List MemPlace} {b0 : Nat} (hp : ∀ Ds, TyL P ts Ds → PCallG P w f Ds [] 0 (fun r _ _ => r = .bool true) NoP)
  (hA : DataW.TrodAll enc P w base spare held ts args.toList ds ps) (hv : ∀ (j : Nat) t v, ts[j]? = some t → args[j]? = some v → Value.okWide P w .any b0 t v) (hu : ∀ t ∈ ts, (P.underlying t).isSome = true) :
  Calls P f args w fun e w' => e = .returned (.bool true) ∧ Below w.heap.size w w' := by
 have hnm : ∀ b, ¬ Cx.Mut (⟨w, fun _ => 0, fun _ => undef, [], 0⟩ : Cx) b := fun b ⟨i, h⟩ => by simp [Cx.own, hget, ownOf] at h
 have hg : Good (fun _ => False) (⟨w, fun _ => 0, fun _ => undef, [], 0⟩ : Cx) := ⟨fun _ _ h => by simp [hget] at h, fun _ _ _ h => by simp [Cx.own, hget, ownOf] at h, fun _ _ h => by simp [Cx.own, hget, ownOf] at h, fun _ h => h.elim, fun _ _ h => by simp [hget] at h⟩
 obtain ⟨Ds, h1, h2⟩ := args_rel (R := Cx.R (fun _ => False) ⟨w, fun _ => 0, fun _ => undef, [], 0⟩) hdis rfl (fun b hb => ⟨hb, id, hnm b⟩) ts args.toList ds ps hA (fun j t v a b => hv j t v a (by simpa using b)) hu
 have := (hp Ds h2).2 (fun _ => False) ⟨w, fun _ => 0, fun _ => undef, [], 0⟩ args.toList (Fr.self (⟨w, fun _ => 0, fun _ => undef, [], 0⟩ : Cx) rfl) rfl rfl hg h1
 rw [Array.toArray_toList] at this
 refine this.mono ?_
 rintro e w' ⟨k', rfl, _, hle, ⟨v, r, rfl, rfl, hr⟩ | ⟨_, _, h⟩⟩
 ·cases hr
  exact ⟨rfl, hle.os, hle.tape, hle.output, hle.size, fun k hk => hle.heap k hk (hnm k)⟩
 ·exact h.elim
theorem change_and_shaped {H : Type} {enc : TypeId × Value → H} {a : Assume} {C : Checked} {os : Os} {f : FuncId} {fn : Func} {s : ChangeSpec} {conds : List PathCond} {apart fresh handsOn again : Bool} {X : World → Array Value → Prop}
  (hX : ∀ (w w' : World) (args : Array Value), w.heap = w'.heap → X w args → X w' args)
  (own : ownKnob C.prog.godebug = none) (started : os.Started) (noInit : C.prog.inits.idxOf? f = none) (hfn : C.prog.funcs[f]? = some fn)
  (witness : ∃ (w : World) (tape : Tape) (i : Input), w.os = os ∧ (w.forCall tape i).Shaped C.prog ∧ i.vars = [] ∧ Input.okWide C.prog (w.forCall tape i) .any w.heap.size f i ∧
   ((s.pre enc C.prog fn conds apart (w.forCall tape i).memory i.args ∧ X (w.forCall tape i).memory i.args) ∧ sizedMet enc C.prog fn (OpenSpec.ofChange s) apart (w.forCall tape i).memory i.args) ∧ a.holds C.prog (lone (Frame.enter C.prog f i.args .normal) [] (w.forCall tape i)))
  (contract : ∀ (W : World) (base : Nat) (args : Array Value) (ds gs : List (DataW H)) (before : List MemPlace),
   (∀ (j : Nat) t v, fn.params[j]? = some t → args[j]? = some v → Value.okWide C.prog W .any base t v) →
   DataW.Whole enc C.prog fn.params.toList s.vars apart W args.toList ds gs before → X W args → W.ShapedOpen C.prog →
   Calls C.prog f args W fun e W' => ∃ v, e = .returned v ∧ s.post enc C.prog fn apart fresh handsOn again W args v W') :
  ReturnsInHanded a C os f .any (fun w args => (s.pre enc C.prog fn conds apart w args ∧ X w args) ∧ sizedMet enc C.prog fn (OpenSpec.ofChange s) apart w args) (s.post enc C.prog fn apart fresh handsOn again) := by
 refine returnsInHanded_of_calls own started noInit witness ?_
 intro w tape i _ hsh _ hok hpre _
 obtain ⟨_, _, _, fn', hfn', _, _, _, _, hval⟩ := hok
 obtain rfl : fn' = fn := Option.some.inj (hfn'.symm.trans hfn)
 obtain ⟨⟨⟨ds, gs, before, hw, _⟩, hx⟩, _⟩ := hpre
 refine (contract (w.forCall tape i) w.heap.size i.args ds gs before hval (DataW.Whole.of_heap (w' := w.forCall tape i) (by rfl) hw) (hX _ _ _ (by rfl) hx) hsh).mono fun e W' ⟨v, he, hp⟩ => ?_
 subst he
 exact ChangeSpec.post_blind hp

theorem waterReads_law {w0 : World} (hT : TabsT w0) : ∀ Ds, TyL Tryz.prog Tryz.f11.params.toList Ds → PCallG Tryz.prog w0 11 Ds [] 0 (fun r _ _ => r = .bool true) NoP := by
 intro Ds h
 rw [Tryz.params11] at h
 match Ds, h with
 | [_], ⟨⟨n, _, hg, he⟩, _⟩ =>
  rw [Fz.und_9] at he
  dsimp only at he
  subst he
  cases n with
  | zero => cases hg
  | succ n =>
   simp only [TyD, Fz.und_9] at hg
   obtain ⟨s, hs, _⟩ := hg
   cases hs
   rw [bS_eta s]
   exact waterReads_at hT s.data.toList
end Go.Sx
