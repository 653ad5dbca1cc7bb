/- Own work: a calculus of contracts for the programs of this kit: parts SxN26z, SxN27z. -/
import Derived.Test.YtjhoplbdpdbgaaaGreatDoorSxNF
import Derived.Test.YtjhoplbdpdbgaaaGreatDoorSxMo
import Derived.Test.YtjhoplbdpdbgaaaGreatDoorSxMe
set_option linter.unusedVariables false
set_option linter.unusedSimpArgs false
namespace Go.Sx
open Go.Proofs Go.Lib
set_option maxRecDepth 10000
variable {w0 : World}

theorem waterSpoilt_at (hT : TabsT w0) (w : Wx) (hl : WxL w) (pos dg : Int) {R : List PanicEntry → H → Nat → Prop} : PCallG Tryz.prog w0 12 [.agg (w.c []), .int .i64 pos, .int .i64 dg] [] 0 (fun r _ _ => r = .bool true) R := by
 have pB := brief_t w
 have pP := Print_g hT hl (fun h => ok_gs h) (R := fun _ _ _ => False)
 have pW := rweather_t w hl
 have pK := known_t
 have pZ := same_zero
 have hz : wx0.c [] = [.int .i64 0, .int .i64 0, .int .i64 0, .sl [], .int .i64 0, .int .i64 0, .int .i64 0, .sl [], .int .i64 0, .int .i64 0, .int .i64 0, .sl [], .int .i64 0, .int .i64 0, .int .i64 0, .sl [], .int .i64 0, .int .i64 0, .int .i64 0, .sl []] := rfl
 rw [hz, wc_zero] at pZ
 have z0 : ((0 : Int) != 0) = false := rfl
 have hsp := fun (i : Nat) (o d : UInt8) => spoilt (gs := w.gs) (i := i) (o := o) (d := d)
 have hpl := fun h => print_len (w := w) h
 generalize printB w.gs = s at *
 simp only [Wx.c, gaC] at pB pP pW ⊢
 refine pcallg_of_piecesT (rs := [.tmp 6]) (m := 90) Tryz.func12 rfl (by kernel_rfl) rfl rfl ?_
 refine awg_peelT (T := []) oNone_ok rfl ?_
 simp only [FS, ↓RE, okR, argEnv, Nat.reduceAdd, Nat.reduceSub, Nat.reduceLT, Nat.reduceLeDiff, Nat.reduceEqDiff, reduceIte, RT, RM, RG]
 refine awg_peelT (T := []) oNone_ok rfl ?_
 simp only [FS, ↓RE, okR, argEnv, Nat.reduceAdd, Nat.reduceSub, Nat.reduceLT, Nat.reduceLeDiff, Nat.reduceEqDiff, reduceIte, RT, RM, RG]
 refine call_of_pure pB rfl ?_
 cases hb : briefB w
 ·simp only [FS, ↓RE, okR, argEnv, Nat.reduceAdd, Nat.reduceSub, Nat.reduceLT, Nat.reduceLeDiff, Nat.reduceEqDiff, reduceIte, RT, RM, RG, Bool.not_false]
  refine call_of_pure pK rfl ?_
  simp only [FS, ↓RE, okR, argEnv, Nat.reduceAdd, Nat.reduceSub, Nat.reduceLT, Nat.reduceLeDiff, Nat.reduceEqDiff, reduceIte, RT, RM, RG]
 simp only [FS, ↓RE, okR, argEnv, Nat.reduceAdd, Nat.reduceSub, Nat.reduceLT, Nat.reduceLeDiff, Nat.reduceEqDiff, reduceIte, RT, RM, RG, Bool.not_true]
 refine call_of_pure pW rfl ?_
 cases hk : okWx w
 ·simp only [FS, ↓RE, okR, argEnv, Nat.reduceAdd, Nat.reduceSub, Nat.reduceLT, Nat.reduceLeDiff, Nat.reduceEqDiff, reduceIte, RT, RM, RG, Bool.not_false]
  refine call_of_pure pK rfl ?_
  simp only [FS, ↓RE, okR, argEnv, Nat.reduceAdd, Nat.reduceSub, Nat.reduceLT, Nat.reduceLeDiff, Nat.reduceEqDiff, reduceIte, RT, RM, RG]
 rw [hk] at pP
 rw [if_pos rfl] at pP
 have hpl := hpl hk
 have hsz := s_len s
 by_cases hd0 : dg < 0
 ·have q1 : decide (dg < 0) = true := by simp [hd0]
  simp only [FS, ↓RE, okR, argEnv, Nat.reduceAdd, Nat.reduceSub, Nat.reduceLT, Nat.reduceLeDiff, Nat.reduceEqDiff, reduceIte, RT, RM, RG, Bool.not_true, q1]
  refine call_of_pure pK rfl ?_
  simp only [FS, ↓RE, okR, argEnv, Nat.reduceAdd, Nat.reduceSub, Nat.reduceLT, Nat.reduceLeDiff, Nat.reduceEqDiff, reduceIte, RT, RM, RG]
 have q1 : decide (dg < 0) = false := by simp; omega
 by_cases hd9 : 9 < dg
 ·have q2 : decide (9 < dg) = true := by simp [hd9]
  simp only [FS, ↓RE, okR, argEnv, Nat.reduceAdd, Nat.reduceSub, Nat.reduceLT, Nat.reduceLeDiff, Nat.reduceEqDiff, reduceIte, RT, RM, RG, Bool.not_true, q1, q2]
  refine call_of_pure pK rfl ?_
  simp only [FS, ↓RE, okR, argEnv, Nat.reduceAdd, Nat.reduceSub, Nat.reduceLT, Nat.reduceLeDiff, Nat.reduceEqDiff, reduceIte, RT, RM, RG]
 have q2 : decide (9 < dg) = false := by simp; omega
 simp only [FS, ↓RE, okR, argEnv, Nat.reduceAdd, Nat.reduceSub, Nat.reduceLT, Nat.reduceLeDiff, Nat.reduceEqDiff, reduceIte, RT, RM, RG, Bool.not_true, q1, q2]
 refine awg_seq (awg_from (ra_data oNone_ok 1 (Nat.le_of_ble_eq_true rfl) ?_))
 simp only [FS, ↓RE, okR, argEnv, Nat.reduceAdd, Nat.reduceSub, Nat.reduceLT, Nat.reduceLeDiff, Nat.reduceEqDiff, reduceIte, RT, RM, RG, List.take_succ_cons, List.take_zero, List.drop_zero, List.drop_succ_cons, Nat.reduceAdd, List.getElem_toArray, List.getElem_cons_zero, List.getElem_cons_succ]
 refine ra_call rfl (.inl rfl) rfl rfl ((pcallg_data (A := fun r => r = _) (R := fun _ => False) pP (by simp [D.frL, D.fr]) fun r hr => by subst hr; rfl).mono ?_ fun _ _ _ h => h.1.elim)
 rintro r h nid ⟨rfl, rfl, rfl⟩
 refine ra_data oNone_ok 5 (Nat.le_of_ble_eq_true rfl) ?_
 simp only [FS, ↓RE, okR, argEnv, Nat.reduceAdd, Nat.reduceSub, Nat.reduceLT, Nat.reduceLeDiff, Nat.reduceEqDiff, reduceIte, RT, RM, RG, List.take_succ_cons, List.take_zero, List.drop_zero, List.drop_succ_cons, Nat.reduceAdd, List.getElem_toArray, List.getElem_cons_zero, List.getElem_cons_succ]
 refine ra_end rfl ?_
 simp only [FS, ↓RE, okR, argEnv, Nat.reduceAdd, Nat.reduceSub, Nat.reduceLT, Nat.reduceLeDiff, Nat.reduceEqDiff, reduceIte, RT, RM, RG, List.take_succ_cons, List.take_zero, List.drop_zero, List.drop_succ_cons, Nat.reduceAdd, List.getElem_toArray, List.getElem_cons_zero, List.getElem_cons_succ]
 refine awg_peelT (T := []) oNone_ok rfl ?_
 simp only [FS, ↓RE, okR, argEnv, Nat.reduceAdd, Nat.reduceSub, Nat.reduceLT, Nat.reduceLeDiff, Nat.reduceEqDiff, reduceIte, RT, RM, RG, z0]
 refine awg_peelT (T := []) oNone_ok rfl ?_
 by_cases hp0 : pos < 0
 ·have q3 : decide (pos < 0) = true := by simp [hp0]
  simp only [FS, ↓RE, okR, argEnv, Nat.reduceAdd, Nat.reduceSub, Nat.reduceLT, Nat.reduceLeDiff, Nat.reduceEqDiff, reduceIte, RT, RM, RG, q3]
  refine call_of_pure pK rfl ?_
  simp only [FS, ↓RE, okR, argEnv, Nat.reduceAdd, Nat.reduceSub, Nat.reduceLT, Nat.reduceLeDiff, Nat.reduceEqDiff, reduceIte, RT, RM, RG]
 have q3 : decide (pos < 0) = false := by simp; omega
 by_cases hp1 : (s.length : Int) ≤ pos
 ·have q4 : decide ((s.length : Int) ≤ pos) = true := by simp [hp1]
  simp only [FS, ↓RE, okR, argEnv, Nat.reduceAdd, Nat.reduceSub, Nat.reduceLT, Nat.reduceLeDiff, Nat.reduceEqDiff, reduceIte, RT, RM, RG, hsz, q3, q4]
  refine call_of_pure pK rfl ?_
  simp only [FS, ↓RE, okR, argEnv, Nat.reduceAdd, Nat.reduceSub, Nat.reduceLT, Nat.reduceLeDiff, Nat.reduceEqDiff, reduceIte, RT, RM, RG]
 have q4 : decide ((s.length : Int) ≤ pos) = false := by simp; omega
 obtain ⟨i, rfl⟩ : ∃ i : Nat, pos = (i : Int) := ⟨pos.toNat, by omega⟩
 have hi : i < s.length := by omega
 obtain ⟨b, hbi⟩ : ∃ b, s[i]? = some b := ⟨s[i], by simp [hi]⟩
 have hix := s_ix (P := Tryz.prog) (t := 9) Fz.und_9 hbi
 have hbl := b.toNat_lt
 by_cases hb0 : b.toNat < 48
 ·have q5 : decide ((b.toNat : Int) < 48) = true := by simp; omega
  simp only [FS, ↓RE, okR, argEnv, Nat.reduceAdd, Nat.reduceSub, Nat.reduceLT, Nat.reduceLeDiff, Nat.reduceEqDiff, reduceIte, RT, RM, RG, hsz, q3, q4, hix, q5]
  refine call_of_pure pK rfl ?_
  simp only [FS, ↓RE, okR, argEnv, Nat.reduceAdd, Nat.reduceSub, Nat.reduceLT, Nat.reduceLeDiff, Nat.reduceEqDiff, reduceIte, RT, RM, RG]
 have q5 : decide ((b.toNat : Int) < 48) = false := by simp; omega
 by_cases hb9 : 57 < b.toNat
 ·have q6 : decide ((57 : Int) < (b.toNat : Int)) = true := by simp; omega
  simp only [FS, ↓RE, okR, argEnv, Nat.reduceAdd, Nat.reduceSub, Nat.reduceLT, Nat.reduceLeDiff, Nat.reduceEqDiff, reduceIte, RT, RM, RG, hsz, q3, q4, hix, q5, q6]
  refine call_of_pure pK rfl ?_
  simp only [FS, ↓RE, okR, argEnv, Nat.reduceAdd, Nat.reduceSub, Nat.reduceLT, Nat.reduceLeDiff, Nat.reduceEqDiff, reduceIte, RT, RM, RG]
 have q6 : decide ((57 : Int) < (b.toNat : Int)) = false := by simp; omega
 have w1 := wrap_i64 (z := 48 + dg) (by omega) (by omega)
 have w2 := wrap_i64 (z := (b.toNat : Int)) (by omega) (by omega)
 by_cases he : (b.toNat : Int) = 48 + dg
 ·have q7 : ((b.toNat : Int) == 48 + dg) = true := by simp [he]
  simp only [FS, ↓RE, okR, argEnv, Nat.reduceAdd, Nat.reduceSub, Nat.reduceLT, Nat.reduceLeDiff, Nat.reduceEqDiff, reduceIte, RT, RM, RG, hsz, q3, q4, hix, q5, q6, w1, w2, q7]
  refine call_of_pure pK rfl ?_
  simp only [FS, ↓RE, okR, argEnv, Nat.reduceAdd, Nat.reduceSub, Nat.reduceLT, Nat.reduceLeDiff, Nat.reduceEqDiff, reduceIte, RT, RM, RG]
 have q7 : ((b.toNat : Int) == 48 + dg) = false := by simp [he]
 simp only [FS, ↓RE, okR, argEnv, Nat.reduceAdd, Nat.reduceSub, Nat.reduceLT, Nat.reduceLeDiff, Nat.reduceEqDiff, reduceIte, RT, RM, RG, hsz, q3, q4, hix, q5, q6, w1, w2, q7]
 obtain ⟨n, rfl⟩ : ∃ n : Nat, dg = (n : Int) := ⟨dg.toNat, by omega⟩
 have hn : n < 10 := by omega
 have hdn := ofNat_dig hn
 have hrb : readB (s.set i (UInt8.ofNat (48 + n))) = none := hsp i b (UInt8.ofNat (48 + n)) hbi (by simp only [digB, Bool.and_eq_true, decide_eq_true_eq]; omega) (dig_of hn) (fun e => he (by rw [← e, hdn]; omega))
 have w3 := u8_wrap (z := 48 + (n : Int)) (by omega) (by omega)
 have pR := Read_g hT (s.set i (UInt8.ofNat (48 + n))) (by rw [List.length_set]; omega)
 have e3 : readR (s.set i (UInt8.ofNat (48 + n))) = .tup [.agg (wx0.c []), .int .i64 4] := by
  unfold readR
  rw [if_neg (by rw [List.length_set]; omega), hrb]
 rw [e3, hz] at pR
 have hst : (48 + (n : Int)) = ((UInt8.ofNat (48 + n)).toNat : Int) := by rw [hdn]; omega
 have hlen := (List.length_set : (s.set i (UInt8.ofNat (48 + n))).length = s.length)
 have z1 : ((4 : Int) == 4) = true := rfl
 refine awgp_seq (raP_data oNone_ok 1 (Nat.le_of_ble_eq_true rfl) ?_)
 simp only [FS, ↓RE, okR, argEnv, Nat.reduceAdd, Nat.reduceSub, Nat.reduceLT, Nat.reduceLeDiff, Nat.reduceEqDiff, reduceIte, RT, RM, RG, List.take_succ_cons, List.take_zero, List.drop_zero, List.drop_succ_cons, Nat.reduceAdd, List.getElem_toArray, List.getElem_cons_zero, List.getElem_cons_succ]
 refine raP_bytes (l := s) rfl rfl rfl Fz.und_9 Fz.und_98 Fz.und_5 rfl fun N cap => ?_
 simp only [FS, ↓RE, okR, argEnv, Nat.reduceAdd, Nat.reduceSub, Nat.reduceLT, Nat.reduceLeDiff, Nat.reduceEqDiff, reduceIte, RT, RM, RG, List.take_succ_cons, List.take_zero, List.drop_zero, List.drop_succ_cons, Nat.reduceAdd, List.getElem_toArray, List.getElem_cons_zero, List.getElem_cons_succ]
 refine raB_data oNone_ok 1 (Nat.le_of_ble_eq_true rfl) ?_
 simp only [FS, ↓RE, okR, argEnv, Nat.reduceAdd, Nat.reduceSub, Nat.reduceLT, Nat.reduceLeDiff, Nat.reduceEqDiff, reduceIte, RT, RM, RG, List.take_succ_cons, List.take_zero, List.drop_zero, List.drop_succ_cons, Nat.reduceAdd, List.getElem_toArray, List.getElem_cons_zero, List.getElem_cons_succ]
 refine raB_end rfl ?_
 refine awgb_seq (raB_data oNone_ok 5 (Nat.le_of_ble_eq_true rfl) ?_)
 simp only [FS, ↓RE, okR, argEnv, Nat.reduceAdd, Nat.reduceSub, Nat.reduceLT, Nat.reduceLeDiff, Nat.reduceEqDiff, reduceIte, RT, RM, RG, List.take_succ_cons, List.take_zero, List.drop_zero, List.drop_succ_cons, Nat.reduceAdd, List.getElem_toArray, List.getElem_cons_zero, List.getElem_cons_succ, w1, w3]
 refine raB_index (j := i) (n := s.length) (cap := cap) rfl rfl rfl Fz.und_98 Fz.size_5 rfl rfl hi ?_
 simp only [FS, ↓RE, okR, argEnv, Nat.reduceAdd, Nat.reduceSub, Nat.reduceLT, Nat.reduceLeDiff, Nat.reduceEqDiff, reduceIte, RT, RM, RG, List.take_succ_cons, List.take_zero, List.drop_zero, List.drop_succ_cons, Nat.reduceAdd, List.getElem_toArray, List.getElem_cons_zero, List.getElem_cons_succ]
 refine raB_store (j := i) (b := UInt8.ofNat (48 + n)) rfl rfl rfl rfl Fz.size_5 rfl (by rw [← hst]; rfl) hi ?_
 simp only [FS, ↓RE, okR, argEnv, Nat.reduceAdd, Nat.reduceSub, Nat.reduceLT, Nat.reduceLeDiff, Nat.reduceEqDiff, reduceIte, RT, RM, RG, List.take_succ_cons, List.take_zero, List.drop_zero, List.drop_succ_cons, Nat.reduceAdd, List.getElem_toArray, List.getElem_cons_zero, List.getElem_cons_succ]
 refine raB_end rfl ?_
 refine awgb_seq (raB_data oNone_ok 1 (Nat.le_of_ble_eq_true rfl) ?_)
 simp only [FS, ↓RE, okR, argEnv, Nat.reduceAdd, Nat.reduceSub, Nat.reduceLT, Nat.reduceLeDiff, Nat.reduceEqDiff, reduceIte, RT, RM, RG, List.take_succ_cons, List.take_zero, List.drop_zero, List.drop_succ_cons, Nat.reduceAdd, List.getElem_toArray, List.getElem_cons_zero, List.getElem_cons_succ]
 refine raB_str (cap := cap) rfl rfl rfl Fz.und_98 Fz.und_5 Fz.und_9 (by rw [hlen]; rfl) ?_
 refine raB_drop ?_
 simp only [FS, ↓RE, okR, argEnv, Nat.reduceAdd, Nat.reduceSub, Nat.reduceLT, Nat.reduceLeDiff, Nat.reduceEqDiff, reduceIte, RT, RM, RG, List.take_succ_cons, List.take_zero, List.drop_zero, List.drop_succ_cons, Nat.reduceAdd, List.getElem_toArray, List.getElem_cons_zero, List.getElem_cons_succ]
 refine ra_call rfl (.inl rfl) rfl rfl ((pcallg_data (A := fun r => r = _) (R := fun _ => False) pR rfl fun r hr => by subst hr; simp [D.frL, D.fr]).mono ?_ fun _ _ _ h => h.1.elim)
 rintro r h nid ⟨rfl, rfl, rfl⟩
 refine ra_data oNone_ok 6 (Nat.le_of_ble_eq_true rfl) ?_
 simp only [FS, ↓RE, okR, argEnv, Nat.reduceAdd, Nat.reduceSub, Nat.reduceLT, Nat.reduceLeDiff, Nat.reduceEqDiff, reduceIte, RT, RM, RG, List.take_succ_cons, List.take_zero, List.drop_zero, List.drop_succ_cons, Nat.reduceAdd, List.getElem_toArray, List.getElem_cons_zero, List.getElem_cons_succ]
 refine ra_end rfl ?_
 simp only [FS, ↓RE, okR, argEnv, Nat.reduceAdd, Nat.reduceSub, Nat.reduceLT, Nat.reduceLeDiff, Nat.reduceEqDiff, reduceIte, RT, RM, RG, List.take_succ_cons, List.take_zero, List.drop_zero, List.drop_succ_cons, Nat.reduceAdd, List.getElem_toArray, List.getElem_cons_zero, List.getElem_cons_succ]
 refine awg_peelT (T := []) oNone_ok rfl ?_
 simp only [FS, ↓RE, okR, argEnv, Nat.reduceAdd, Nat.reduceSub, Nat.reduceLT, Nat.reduceLeDiff, Nat.reduceEqDiff, reduceIte, RT, RM, RG, z1]
 refine call_of_pure pZ rfl ?_
 simp only [FS, ↓RE, okR, argEnv, Nat.reduceAdd, Nat.reduceSub, Nat.reduceLT, Nat.reduceLeDiff, Nat.reduceEqDiff, reduceIte, RT, RM, RG]
 refine call_of_pure pK rfl ?_
 simp only [FS, ↓RE, okR, argEnv, Nat.reduceAdd, Nat.reduceSub, Nat.reduceLT, Nat.reduceLeDiff, Nat.reduceEqDiff, reduceIte, RT, RM, RG]
 refine awg_restT (T := []) oNone_ok rfl ?_
 simp only [FS, ↓RE, okR, argEnv, Nat.reduceAdd, Nat.reduceSub, Nat.reduceLT, Nat.reduceLeDiff, Nat.reduceEqDiff, reduceIte, RT, RM, RG]
end Go.Sx

namespace Go.Sx
open Go Go.Proofs Go.Proofs.YtjhoplbdpdbgaaaGreatDoor Go.Lib Go.RowKit Go.ChangeShapes
set_option maxRecDepth 10000
set_option linter.unusedVariables false

theorem waterSpoilt_law {w0 : World} (hT : TabsT w0) : ∀ Ds, TyL Tryz.prog Tryz.f12.params.toList Ds → PCallG Tryz.prog w0 12 Ds [] 0 (fun r _ _ => r = .bool true) NoP := by
 intro Ds h
 rw [Tryz.params12] at h
 match Ds, h with
 | [_, _, _], ⟨⟨n, _, hg, he⟩, ⟨n1, _, hg1, he1⟩, ⟨n2, _, hg2, he2⟩, _⟩ =>
  rw [Tryz.underlying29] at he
  rw [Fz.und_3] at he1 he2
  dsimp only at he he1 he2
  obtain ⟨w, rfl, hl⟩ := tyWx' hg
  obtain ⟨x, rfl, _⟩ := tyInt Fz.und_3 hg1
  obtain ⟨y, rfl, _⟩ := tyInt Fz.und_3 hg2
  injection he1 with he1
  injection he2 with he2
  subst he he1 he2
  exact waterSpoilt_at hT w hl _ _
end Go.Sx
