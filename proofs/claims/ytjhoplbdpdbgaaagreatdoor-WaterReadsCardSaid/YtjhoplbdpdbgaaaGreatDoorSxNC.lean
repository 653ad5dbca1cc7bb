/- Own work: a calculus of contracts for the programs of this kit: parts SxN9z, SxN12z, SxN13z, SxN10z. -/
import Derived.Test.YtjhoplbdpdbgaaaGreatDoorSxNB
import Derived.Test.YtjhoplbdpdbgaaaGreatDoorSxNA
import Derived.Test.YtjhoplbdpdbgaaaGreatDoorSxMn
import Derived.Test.YtjhoplbdpdbgaaaGreatDoorSxNsz
import Derived.Test.YtjhoplbdpdbgaaaGreatDoorSxMo
import Derived.Laws.RangeAny
set_option linter.unusedVariables false
set_option linter.unusedSimpArgs false
namespace Go.Sx
open Go.Proofs Go.Lib Go.Shelf
open Go.RowKit (Below)
set_option maxRecDepth 10000
variable {w0 : World}

noncomputable def tabName : String := (((Tryz.prog).globals[Tryz.itoaA_ren.g 17]?).map (·.name)).getD ""
def IfV (v : Value) : Prop := v = .nilIface ∨ ∃ t p, v = .iface t p
structure TabsT (w : World) : Prop where
 p : TabIs Tryz.prog w tabName .u64 pow10Tab
 m : ∃ m, w.cell? ⟨Tryz.splitA_ren.g 1, 0, none⟩ = some (.int .i64 m)
 s : ∃ v, w.cell? ⟨Tryz.atoiA_ren.g 15, 0, none⟩ = some v ∧ IfV v
 r : ∃ v, w.cell? ⟨Tryz.atoiA_ren.g 16, 0, none⟩ = some v ∧ IfV v
theorem hasPre_t (a b : Bs) : Pure Tryz.prog 158 [stD a, stD b] (.bool (hasPrefix a b)) :=
 pure_str2 (by kernel_rfl) (fun w => Any.strings_HasPrefix Tryz.hasPreA (bS a) (bS b) w) fun _ _ => .bool _ _
theorem trimPre_t (a b : Bs) : Pure Tryz.prog 165 [stD a, stD b] (stD (trimPrefix a b)) :=
 pure_str2 (by kernel_rfl) (fun w => Any.strings_TrimPrefix Tryz.trimPreA (bS a) (bS b) w) fun _ _ => .str _ _
theorem cutSuf_t (a b : Bs) (ha : a.length ≤ 1000000) : Pure Tryz.prog 139 [stD a, stD b] (.tup [stD (trimSuffix a b), .bool (hasSuffix a b)]) :=
 pure_str2 (by kernel_rfl) (fun w => Any.strings_CutSuffix Tryz.cutSufA (bS a) (bS b) w (by rw [bS_size]; omega)) fun R n => .tup _ [.string _, .bool _] _ rfl fun i v d h1 h2 => by
  match i with
  | 0 => simp at h1 h2; subst h1 h2; exact .str _ _
  | 1 => simp at h1 h2; subst h1 h2; exact .bool _ _
  | i + 2 => simp at h1
theorem itoa_g (hT : TabsT w0) (n : Int) (h0 : -9223372036854775808 ≤ n) (h1 : n ≤ 9223372036854775807) {R : List PanicEntry → H → Nat → Prop} : PCallG Tryz.prog w0 134 [.int .i64 n] [] 0 (fun r _ _ => r = stD (itoa n)) R :=
 pcallg_mk (Q := fun r => r = stD (itoa n)) (by kernel_rfl) fun X k vs hfr hh hn hg hrel => by
  obtain rfl := rel_intv hrel
  have htab : TabIs Tryz.prog k.w tabName .u64 pow10Tab := fr_tab hfr hT.p
  have c := Any.strconv_Itoa Tryz.itoaA n h0 h1 k.w (Eq.mp (congrArg (a₁ := tabName) (fun nm => TabIs Tryz.prog k.w nm .u64 pow10Tab) (by kernel_rfl)) htab)
  change Calls _ 134 _ _ _ at c
  exact c.mono fun e w' ⟨he, j, os, hw⟩ => ⟨_, _, he, by rw [hw]; exact (show Below k.w.heap.size k.w (k.w.drewN j) from ⟨rfl, rfl, rfl, Nat.le_refl _, fun _ _ => rfl⟩).trans ((below_grow (k.w.drewN j) os).mono (Nat.le_refl _)), rfl, .str _ _⟩
theorem split_g (hT : TabsT w0) (a : Bs) (ha : a.length ≤ 1000000) (c : UInt8) {R : List PanicEntry → H → Nat → Prop} : PCallG Tryz.prog w0 140 [stD a, stD [c]] [] 0 (fun r _ _ => r = .sl ((spl c a).map enT.d)) R :=
 pcallg_mk (Q := fun r => r = .sl ((spl c a).map enT.d)) (by kernel_rfl) fun X k vs hfr hh hn hg hrel => by
  obtain rfl := rel_str2 hrel
  obtain ⟨m, hm⟩ := hT.m
  have cc := Any.strings_Split Tryz.splitA (by kernel_rfl) (bS a) (bS [c]) m k.w (by rw [bS_size]; omega) (fr_cell hfr hm) (by rw [bS_size]; simp)
  change Calls _ 140 _ _ _ at cc
  rw [splitB_spl] at cc
  have hlen : countB (bS a) (bS [c]) + 1 = ((spl c a).map bS).length := by
   have := splitB_all (bS [c]) (by rw [bS_size]; simp) 0 (countB (bS a) (bS [c])) (bS a) rfl
   rw [splitB_spl] at this; exact this.symm
  rw [hlen] at cc
  refine cc.mono fun e w' ⟨he, hw⟩ => ⟨_, _, he, ?_, rfl, ?_⟩
  ·rw [hw]; exact (Below.refl _ _).alloc (Nat.le_refl _) _
  ·subst hw
   have := rel_strs hg hh ((spl c a).map bS) (Tryz.splitA_ren.t 9)
   rw [show ((spl c a).map bS).map (fun b => [D.str b]) = (spl c a).map enT.d by rw [List.map_map]; rfl] at this
   exact this
theorem below_bytes (w : World) (e : TypeId) (s : ByteArray) : Below w.heap.size w (bytesWorld w e s) := by
 have h1 : Below w.heap.size w (w.drew.alloc (.cells (bytesCells w e s) e)) := (Below.refl _ w).drew.alloc (Nat.le_refl _) _
 refine h1.trans ⟨rfl, rfl, rfl, ?_, fun b hb => ?_⟩
 ·simp [bytesWorld, World.freeze]
 ·simp only [bytesWorld, World.freeze, if_neg (by decide : ¬ (1 : Nat) = 0), Array.getElem?_modify]
  rw [if_neg (by omega)]
theorem atoi_g (hT : TabsT w0) (l : Bs) (hl : l.length ≤ 1000000) {R : List PanicEntry → H → Nat → Prop} :
  PCallG Tryz.prog w0 166 [stD l] [] 0 (fun r _ _ => (∃ v, atoiAll l = .ok v ∧ r = .tup [.int .i64 v, .nili]) ∨ ((∀ v, atoiAll l ≠ .ok v) ∧ ∃ z t, r = .tup [.int .i64 z, .ifc t .any])) R :=
 pcallg_mk (Q := fun r => (∃ v, atoiAll l = .ok v ∧ r = .tup [.int .i64 v, .nili]) ∨ ((∀ v, atoiAll l ≠ .ok v) ∧ ∃ z t, r = .tup [.int .i64 z, .ifc t .any])) (by kernel_rfl) fun X k vs hfr hh hn hg hrel => by
  obtain rfl := rel_str1 hrel
  have two : ∀ (R : Rx) (a b : Value) (x y : D), Rel R 0 a x → Rel R 0 b y → Rel R 0 (.tuple #[a, b]) (.tup [x, y]) := fun R a b x y h1 h2 => .tup _ [a, b] [x, y] rfl fun i v d e1 e2 => by
   match i with
   | 0 => simp at e1 e2; subst e1 e2; exact h1
   | 1 => simp at e1 e2; subst e1 e2; exact h2
   | i + 2 => simp at e1
  rcases h : atoiAll l with v | _ | _
  ·have cc := Any.strconv_Atoi_ok Tryz.atoiA (bS l) (by rw [bS_size]; omega) v h k.w
   change Calls _ 166 _ _ _ at cc
   refine cc.mono fun e w' ⟨he, hw⟩ => ⟨_, _, he, ?_, .inl ⟨v, rfl, rfl⟩, two _ _ _ _ _ (.int _ _ _) (.nili _)⟩
   rcases hw with rfl | ⟨t, rfl⟩
   ·exact .refl _ _
   ·exact below_bytes _ _ _
  ·obtain ⟨v, hv, hi⟩ := hT.s
   have cc := Any.strconv_Atoi_syntax Tryz.atoiA (bS l) (by rw [bS_size]; omega) h v k.w (fr_cell hfr hv) hi
   change Calls _ 166 _ _ _ at cc
   exact cc.mono fun e w' ⟨N, he, _, _, hb⟩ => ⟨_, _, he, hb, .inr ⟨fun v e => (by cases e), _, _, rfl⟩, two _ _ _ _ _ (.int _ _ _) (.ifc _ _ _ _ (.any _ _))⟩
  ·obtain ⟨v, hv, hi⟩ := hT.r
   have cc := Any.strconv_Atoi_range Tryz.atoiA (bS l) (by rw [bS_size]; omega) h v k.w (fr_cell hfr hv) hi
   change Calls _ 166 _ _ _ at cc
   exact cc.mono fun e w' ⟨N, he, _, _, hb⟩ => ⟨_, _, he, hb, .inr ⟨fun v e => (by cases e), _, _, rfl⟩, two _ _ _ _ _ (.int _ _ _) (.ifc _ _ _ _ (.any _ _))⟩
end Go.Sx

namespace Go.Sx
open Go.Proofs Go.Lib
set_option maxRecDepth 10000
variable {w0 : World}

def WrongP (ch : List PanicEntry) : Prop := ∃ v d, ch = [{ v := v, recovered := false }] ∧ ∀ R n, Rel R n v (.ifc 150 (.agg [.str d]))
theorem trim_digs (w : Bs) : trimPrefix w [45] = digsB w := by
 unfold trimPrefix digsB hasPrefix
 cases w with
 | nil => rfl
 | cons a r =>
  by_cases h : a = 45
  ·subst h; rfl
  ·have h2 : ([45].isPrefixOf (a :: r)) = false := by simp [List.isPrefixOf, Ne.symm h]
   rw [h2]; simp [h]
theorem digs_len (w : Bs) : (digsB w).length ≤ w.length := by
 unfold digsB; split <;> simp
theorem dec_rune {l : Bs} {pos : Nat} (hp : pos < l.length) : ∃ c wd, Utf8.decode (bS l) pos = (c, wd) ∧ 0 < wd ∧ c ≤ 2147483647 ∧ ((48 ≤ c ∧ c ≤ 57) → wd = 1 ∧ digB l[pos] = true) ∧ (¬ (48 ≤ c ∧ c ≤ 57) → digB l[pos] = false) := by
 have hps : pos < (bS l).size := by rw [bS_size]; exact hp
 have hb : (bS l)[pos]'hps = l[pos] := rfl
 by_cases ha : (l[pos]).toNat < 128
 ·refine ⟨(l[pos]).toNat, 1, decode_ascii (bS l) pos hps ha, by omega, by omega, fun h => ⟨rfl, by simp [digB]; omega⟩, fun h => by simp [digB]; omega⟩
 ·have := decode_high (bS l) pos hps (by rw [hb]; omega)
  have h2 := decode_le (bS l) pos
  obtain ⟨c, wd, e⟩ : ∃ c wd, Utf8.decode (bS l) pos = (c, wd) := ⟨_, _, rfl⟩
  rw [e] at this h2
  dsimp only at this h2
  exact ⟨c, wd, e, by omega, by omega, fun h => absurd h (by omega), fun _ => by simp [digB]; omega⟩
theorem atoi_le {l : Bs} {v : Int} (h : atoiAll l = .ok v) : -9223372036854775808 ≤ v ∧ v ≤ 9223372036854775807 := by
 cases l with
 | nil => cases h
 | cons c r =>
  unfold atoiAll at h
  dsimp only at h
  generalize parseMag _ = p at h
  rcases p with u | _ | _
  rotate_left
  ·cases h
  ·cases h
  ·dsimp only at h
   by_cases hn : c.toNat = 45
   ·rw [if_neg (by simp [hn]), if_pos hn] at h
    split at h
    ·cases h
    ·rename_i h2
     injection h with h
     have : ¬ 9223372036854775808 < u := fun hh => h2 ⟨hn, hh⟩
     omega
   ·rw [if_neg (c := c.toNat = 45 ∧ _) (fun hh => hn hh.1), if_neg (c := c.toNat = 45) hn] at h
    split at h
    ·cases h
    ·rename_i h2
     injection h with h
     have : ¬ 9223372036854775808 ≤ u := fun hh => h2 ⟨hn, hh⟩
     omega
theorem number_g (hT : TabsT w0) (w : Bs) (hw : w.length ≤ 1000000) : PCallG Tryz.prog w0 157 [stD w] [] 0 (fun r _ _ => ∃ n, numB w = some n ∧ r = .int .i64 n) fun ch _ _ => numB w = none ∧ WrongP ch := by
 have pT := trimPre_t w [45]
 rw [trim_digs] at pT
 have hdl := digs_len w
 have hpn := prog_num w
 generalize digsB w = l at *
 have hfin : ∀ v, atoiAll w = .ok v → l.all digB = true → l.length ≤ 10 → itoa v = w → numB w = some v := fun v h1 h2 h3 h4 => (hpn v).1 ⟨h2, h1, h3, h4⟩
 have hno : (∀ n, (l.all digB = true ∧ atoiAll w = .ok n ∧ l.length ≤ 10 ∧ itoa n = w) → False) → numB w = none := fun h => by
  cases hq : numB w with
  | none => rfl
  | some n => exact (h n ((hpn n).2 hq)).elim
 refine pcallg_of_pieces' (rs := [.tmp 2]) (m := 46) Tryz.func157 rfl (by kernel_rfl) rfl rfl ?_
 refine awg_peelT (T := []) oNone_ok rfl ?_
 simp only [FS, ↓RE, okR, argEnv, Nat.reduceAdd, Nat.reduceSub, Nat.reduceLT, Nat.reduceLeDiff, Nat.reduceEqDiff, reduceIte, RT, RM, RG]
 refine awg_peelT (T := []) oNone_ok rfl ?_
 simp only [FS, ↓RE, okR, argEnv, Nat.reduceAdd, Nat.reduceSub, Nat.reduceLT, Nat.reduceLeDiff, Nat.reduceEqDiff, reduceIte, RT, RM, RG, show (⟨#[45]⟩ : ByteArray) = bS [45] from rfl]
 refine call_of_pure pT rfl ?_
 simp only [FS, ↓RE, okR, argEnv, Nat.reduceAdd, Nat.reduceSub, Nat.reduceLT, Nat.reduceLeDiff, Nat.reduceEqDiff, reduceIte, RT, RM, RG]
 refine awg_seq ?_
 refine awg_strRange (str := bS l) (fun pos => pos ≤ l.length ∧ (l.take pos).all digB = true) (opOk_read (d := stD l) (by kernel_rfl) (by kernel_rfl)) rfl rfl rfl rfl Fz.und_9 (by omega) rfl rfl rfl ⟨_, rfl, rfl⟩ rfl ⟨Nat.zero_le _, rfl⟩ (by omega) ?_ ?_
 ·rintro N pos ⟨hple, hall⟩ hp
  rw [bS_size] at hp
  obtain ⟨c, wd, hdec, hwd, hc, hy, hn⟩ := dec_rune hp
  refine ⟨c, wd, hdec, hwd, ?_⟩
  refine awg_peelT (T := []) oNone_ok rfl ?_
  simp only [FS, ↓RE, okR, argEnv, Nat.reduceAdd, Nat.reduceSub, Nat.reduceLT, Nat.reduceLeDiff, Nat.reduceEqDiff, reduceIte, RT, RM, RG]
  refine awg_block ?_
  refine awg_peelT (T := []) oNone_ok rfl ?_
  simp only [FS, ↓RE, okR, argEnv, Nat.reduceAdd, Nat.reduceSub, Nat.reduceLT, Nat.reduceLeDiff, Nat.reduceEqDiff, reduceIte, RT, RM, RG]
  by_cases hd : 48 ≤ c ∧ c ≤ 57
  ·obtain ⟨rfl, hdg⟩ := hy hd
   have q1 : decide ((c : Int) < 48) = false := by simp; omega
   have q2 : decide ((57 : Int) < (c : Int)) = false := by simp; omega
   refine awg_restT (T := []) oNone_ok rfl ?_
   simp only [FS, ↓RE, okR, argEnv, Nat.reduceAdd, Nat.reduceSub, Nat.reduceLT, Nat.reduceLeDiff, Nat.reduceEqDiff, reduceIte, RT, RM, RG, q1, q2]
   refine ⟨⟨by omega, ?_⟩, imp_head (by simp [headW, heapW, envW, blkLt, D.ltL, D.lt, look, hget, Sx.hset, itP])⟩
   have hlp : l[pos]? = some l[pos] := by simp [hp]
   rw [List.take_add_one, hlp, List.all_append, hall]
   simp [hdg]
  ·have hdg := hn hd
   have hnone : numB w = none := hno fun n ⟨h1, _⟩ => by
    have := List.all_eq_true.1 h1 l[pos] (List.getElem_mem _)
    rw [hdg] at this; cases this
   by_cases h1 : (c : Int) < 48
   ·have q1 : decide ((c : Int) < 48) = true := by simp; omega
    refine awg_peelT (T := []) oNone_ok rfl ?_
    simp only [FS, ↓RE, okR, argEnv, Nat.reduceAdd, Nat.reduceSub, Nat.reduceLT, Nat.reduceLeDiff, Nat.reduceEqDiff, reduceIte, RT, RM, RG, q1]
    refine awg_cond (t := true) (by kernel_rfl) (fun _ => ?_) (fun h => by cases h)
    refine awg_from (ra_data oNone_ok 3 (Nat.le_of_ble_eq_true rfl) ?_)
    simp only [FS, ↓RE, okR, argEnv, Nat.reduceAdd, Nat.reduceSub, Nat.reduceLT, Nat.reduceLeDiff, Nat.reduceEqDiff, reduceIte, RT, RM, RG, List.take_succ_cons, List.take_zero, List.drop_zero, List.drop_succ_cons, Nat.reduceAdd, List.getElem_toArray, List.getElem_cons_zero, List.getElem_cons_succ]
    refine ra_panic (t := 150) (d := .agg [stD w]) rfl rfl rfl (by kernel_rfl) fun v hv => ?_
    obtain ⟨R, n, hr⟩ := hv
    exact ⟨hnone, _, _, rfl, rel_strv1 hr _⟩
   ·have q1 : decide ((c : Int) < 48) = false := by simp; omega
    have q2 : decide ((57 : Int) < (c : Int)) = true := by simp; omega
    refine awg_peelT (T := []) oNone_ok rfl ?_
    simp only [FS, ↓RE, okR, argEnv, Nat.reduceAdd, Nat.reduceSub, Nat.reduceLT, Nat.reduceLeDiff, Nat.reduceEqDiff, reduceIte, RT, RM, RG, q1, q2]
    refine awg_cond (t := true) (by kernel_rfl) (fun _ => ?_) (fun h => by cases h)
    refine awg_from (ra_data oNone_ok 3 (Nat.le_of_ble_eq_true rfl) ?_)
    simp only [FS, ↓RE, okR, argEnv, Nat.reduceAdd, Nat.reduceSub, Nat.reduceLT, Nat.reduceLeDiff, Nat.reduceEqDiff, reduceIte, RT, RM, RG, List.take_succ_cons, List.take_zero, List.drop_zero, List.drop_succ_cons, Nat.reduceAdd, List.getElem_toArray, List.getElem_cons_zero, List.getElem_cons_succ]
    refine ra_panic (t := 150) (d := .agg [stD w]) rfl rfl rfl (by kernel_rfl) fun v hv => ?_
    obtain ⟨R, n, hr⟩ := hv
    exact ⟨hnone, _, _, rfl, rel_strv1 hr _⟩
 ·rintro N pos ⟨hple, hall⟩ hp
  rw [bS_size] at hp
  have : pos = l.length := by omega
  subst this
  rw [List.take_length] at hall
  refine awg_peelT (T := []) oNone_ok rfl ?_
  simp only [FS, ↓RE, okR, argEnv, Nat.reduceAdd, Nat.reduceSub, Nat.reduceLT, Nat.reduceLeDiff, Nat.reduceEqDiff, reduceIte, RT, RM, RG]
  refine awg_seq (awg_from (ra_data oNone_ok 1 (Nat.le_of_ble_eq_true rfl) ?_))
  simp only [FS, ↓RE, okR, argEnv, Nat.reduceAdd, Nat.reduceSub, Nat.reduceLT, Nat.reduceLeDiff, Nat.reduceEqDiff, reduceIte, RT, RM, RG, List.take_succ_cons, List.take_zero, List.drop_zero, List.drop_succ_cons, Nat.reduceAdd, List.getElem_toArray, List.getElem_cons_zero, List.getElem_cons_succ]
  refine ra_call rfl (.inl rfl) rfl rfl ((pcallg_data (R := fun _ => False) (atoi_g hT w hw) rfl fun r hr => ?_).mono ?_ fun _ _ _ h => h.1.elim)
  ·rcases hr with ⟨v, _, rfl⟩ | ⟨_, z, t, rfl⟩ <;> rfl
  rintro r h nid ⟨hA, rfl, rfl⟩
  rcases hA with ⟨v, hv, rfl⟩ | ⟨hno2, z, t, rfl⟩
  ·refine ra_data oNone_ok 5 (Nat.le_of_ble_eq_true rfl) ?_
   simp only [FS, ↓RE, okR, argEnv, Nat.reduceAdd, Nat.reduceSub, Nat.reduceLT, Nat.reduceLeDiff, Nat.reduceEqDiff, reduceIte, RT, RM, RG, List.take_succ_cons, List.take_zero, List.drop_zero, List.drop_succ_cons, Nat.reduceAdd, List.getElem_toArray, List.getElem_cons_zero, List.getElem_cons_succ]
   refine ra_end rfl ?_
   simp only [FS, ↓RE, okR, argEnv, Nat.reduceAdd, Nat.reduceSub, Nat.reduceLT, Nat.reduceLeDiff, Nat.reduceEqDiff, reduceIte, RT, RM, RG]
   refine awg_seq (awg_seq (awg_from (ra_data oNone_ok 1 (Nat.le_of_ble_eq_true rfl) ?_)))
   simp only [FS, ↓RE, okR, argEnv, Nat.reduceAdd, Nat.reduceSub, Nat.reduceLT, Nat.reduceLeDiff, Nat.reduceEqDiff, reduceIte, RT, RM, RG, List.take_succ_cons, List.take_zero, List.drop_zero, List.drop_succ_cons, Nat.reduceAdd, List.getElem_toArray, List.getElem_cons_zero, List.getElem_cons_succ]
   refine ra_op rfl rfl (opOk_nenil (b := false) rfl ⟨_, Tryz.underlying193⟩ (.inl ⟨by kernel_rfl, rfl⟩) ?_)
   by_cases h10 : l.length ≤ 10
   ·have q10 : decide ((10 : Int) < (l.length : Int)) = false := by simp; omega
    refine ra_data oNone_ok 7 (Nat.le_of_ble_eq_true rfl) ?_
    simp only [FS, ↓RE, okR, argEnv, Nat.reduceAdd, Nat.reduceSub, Nat.reduceLT, Nat.reduceLeDiff, Nat.reduceEqDiff, reduceIte, RT, RM, RG, List.take_succ_cons, List.take_zero, List.drop_zero, List.drop_succ_cons, Nat.reduceAdd, List.getElem_toArray, List.getElem_cons_zero, List.getElem_cons_succ, s_len, q10]
    have hvb := atoi_le hv
    refine ra_callG (j := 7) (t := 36) (want := false) rfl rfl rfl rfl (by rfl) (by kernel_rfl) ((pcallg_data (A := fun r => r = stD (itoa v)) (R := fun _ => False) (itoa_g hT v hvb.1 hvb.2) rfl fun r hr => by subst hr; rfl).mono ?_ fun _ _ _ h => h.1.elim)
    rintro r h nid ⟨rfl, rfl, rfl⟩
    by_cases hi : itoa v = w
    ·have hn := hfin v hv hall h10 hi
     have e := s_ne (P := Tryz.prog) 9 (itoa v) w
     rw [decide_eq_true hi] at e
     refine ra_data oNone_ok 3 (Nat.le_of_ble_eq_true rfl) ?_
     simp only [FS, ↓RE, okR, argEnv, Nat.reduceAdd, Nat.reduceSub, Nat.reduceLT, Nat.reduceLeDiff, Nat.reduceEqDiff, reduceIte, RT, RM, RG, List.take_succ_cons, List.take_zero, List.drop_zero, List.drop_succ_cons, Nat.reduceAdd, List.getElem_toArray, List.getElem_cons_zero, List.getElem_cons_succ, e, Bool.not_true]
     refine ra_end rfl ?_
     simp only [FS, ↓RE, okR, argEnv, Nat.reduceAdd, Nat.reduceSub, Nat.reduceLT, Nat.reduceLeDiff, Nat.reduceEqDiff, reduceIte, RT, RM, RG, List.take_succ_cons, List.take_zero, List.drop_zero, List.drop_succ_cons, Nat.reduceAdd, List.getElem_toArray, List.getElem_cons_zero, List.getElem_cons_succ]
     refine awg_cond (t := false) (by kernel_rfl) (fun h => by cases h) (fun _ => awg_skip ?_)
     simp only [FS, ↓RE, okR, argEnv, Nat.reduceAdd, Nat.reduceSub, Nat.reduceLT, Nat.reduceLeDiff, Nat.reduceEqDiff, reduceIte, RT, RM, RG, List.take_succ_cons, List.take_zero, List.drop_zero, List.drop_succ_cons, Nat.reduceAdd, List.getElem_toArray, List.getElem_cons_zero, List.getElem_cons_succ]
     refine awg_restT (T := []) oNone_ok rfl ?_
     simp only [FS, ↓RE, okR, argEnv, Nat.reduceAdd, Nat.reduceSub, Nat.reduceLT, Nat.reduceLeDiff, Nat.reduceEqDiff, reduceIte, RT, RM, RG, List.take_succ_cons, List.take_zero, List.drop_zero, List.drop_succ_cons, Nat.reduceAdd, List.getElem_toArray, List.getElem_cons_zero, List.getElem_cons_succ]
     exact ⟨v, hn, rfl⟩
    ·have hnone : numB w = none := hno fun n ⟨_, h1, _, h2⟩ => hi (by rw [hv] at h1; cases h1; exact h2)
     have e := s_ne (P := Tryz.prog) 9 (itoa v) w
     rw [decide_eq_false hi] at e
     refine ra_data oNone_ok 3 (Nat.le_of_ble_eq_true rfl) ?_
     simp only [FS, ↓RE, okR, argEnv, Nat.reduceAdd, Nat.reduceSub, Nat.reduceLT, Nat.reduceLeDiff, Nat.reduceEqDiff, reduceIte, RT, RM, RG, List.take_succ_cons, List.take_zero, List.drop_zero, List.drop_succ_cons, Nat.reduceAdd, List.getElem_toArray, List.getElem_cons_zero, List.getElem_cons_succ, e, Bool.not_false]
     refine ra_end rfl ?_
     simp only [FS, ↓RE, okR, argEnv, Nat.reduceAdd, Nat.reduceSub, Nat.reduceLT, Nat.reduceLeDiff, Nat.reduceEqDiff, reduceIte, RT, RM, RG, List.take_succ_cons, List.take_zero, List.drop_zero, List.drop_succ_cons, Nat.reduceAdd, List.getElem_toArray, List.getElem_cons_zero, List.getElem_cons_succ]
     refine awg_cond (t := true) (by kernel_rfl) (fun _ => ?_) (fun h => by cases h)
     refine awg_from (ra_data oNone_ok 3 (Nat.le_of_ble_eq_true rfl) ?_)
     simp only [FS, ↓RE, okR, argEnv, Nat.reduceAdd, Nat.reduceSub, Nat.reduceLT, Nat.reduceLeDiff, Nat.reduceEqDiff, reduceIte, RT, RM, RG, List.take_succ_cons, List.take_zero, List.drop_zero, List.drop_succ_cons, Nat.reduceAdd, List.getElem_toArray, List.getElem_cons_zero, List.getElem_cons_succ]
     refine ra_panic (t := 150) (d := .agg [stD w]) rfl rfl rfl (by kernel_rfl) fun v hv => ?_
     obtain ⟨R, n, hr⟩ := hv
     exact ⟨hnone, _, _, rfl, rel_strv1 hr _⟩
   ·have q10 : decide ((10 : Int) < (l.length : Int)) = true := by simp; omega
    refine ra_data oNone_ok 11 (Nat.le_of_ble_eq_true rfl) ?_
    simp only [FS, ↓RE, okR, argEnv, Nat.reduceAdd, Nat.reduceSub, Nat.reduceLT, Nat.reduceLeDiff, Nat.reduceEqDiff, reduceIte, RT, RM, RG, List.take_succ_cons, List.take_zero, List.drop_zero, List.drop_succ_cons, Nat.reduceAdd, List.getElem_toArray, List.getElem_cons_zero, List.getElem_cons_succ, s_len, q10]
    refine ra_end rfl ?_
    simp only [FS, ↓RE, okR, argEnv, Nat.reduceAdd, Nat.reduceSub, Nat.reduceLT, Nat.reduceLeDiff, Nat.reduceEqDiff, reduceIte, RT, RM, RG, List.take_succ_cons, List.take_zero, List.drop_zero, List.drop_succ_cons, Nat.reduceAdd, List.getElem_toArray, List.getElem_cons_zero, List.getElem_cons_succ]
    have hnone : numB w = none := hno fun n ⟨_, _, h, _⟩ => h10 h
    refine awg_cond (t := true) (by kernel_rfl) (fun _ => ?_) (fun h => by cases h)
    refine awg_from (ra_data oNone_ok 3 (Nat.le_of_ble_eq_true rfl) ?_)
    simp only [FS, ↓RE, okR, argEnv, Nat.reduceAdd, Nat.reduceSub, Nat.reduceLT, Nat.reduceLeDiff, Nat.reduceEqDiff, reduceIte, RT, RM, RG, List.take_succ_cons, List.take_zero, List.drop_zero, List.drop_succ_cons, Nat.reduceAdd, List.getElem_toArray, List.getElem_cons_zero, List.getElem_cons_succ]
    refine ra_panic (t := 150) (d := .agg [stD w]) rfl rfl rfl (by kernel_rfl) fun v hv => ?_
    obtain ⟨R, n, hr⟩ := hv
    exact ⟨hnone, _, _, rfl, rel_strv1 hr _⟩
  ·refine ra_data oNone_ok 5 (Nat.le_of_ble_eq_true rfl) ?_
   simp only [FS, ↓RE, okR, argEnv, Nat.reduceAdd, Nat.reduceSub, Nat.reduceLT, Nat.reduceLeDiff, Nat.reduceEqDiff, reduceIte, RT, RM, RG, List.take_succ_cons, List.take_zero, List.drop_zero, List.drop_succ_cons, Nat.reduceAdd, List.getElem_toArray, List.getElem_cons_zero, List.getElem_cons_succ]
   refine ra_end rfl ?_
   simp only [FS, ↓RE, okR, argEnv, Nat.reduceAdd, Nat.reduceSub, Nat.reduceLT, Nat.reduceLeDiff, Nat.reduceEqDiff, reduceIte, RT, RM, RG]
   refine awg_seq (awg_seq (awg_from (ra_data oNone_ok 1 (Nat.le_of_ble_eq_true rfl) ?_)))
   simp only [FS, ↓RE, okR, argEnv, Nat.reduceAdd, Nat.reduceSub, Nat.reduceLT, Nat.reduceLeDiff, Nat.reduceEqDiff, reduceIte, RT, RM, RG, List.take_succ_cons, List.take_zero, List.drop_zero, List.drop_succ_cons, Nat.reduceAdd, List.getElem_toArray, List.getElem_cons_zero, List.getElem_cons_succ]
   refine ra_op rfl rfl (opOk_nenil (b := true) rfl ⟨_, Tryz.underlying193⟩ (.inr ⟨⟨t, .any, by kernel_rfl⟩, rfl⟩) ?_)
   refine ra_data oNone_ok 11 (Nat.le_of_ble_eq_true rfl) ?_
   simp only [FS, ↓RE, okR, argEnv, Nat.reduceAdd, Nat.reduceSub, Nat.reduceLT, Nat.reduceLeDiff, Nat.reduceEqDiff, reduceIte, RT, RM, RG, List.take_succ_cons, List.take_zero, List.drop_zero, List.drop_succ_cons, Nat.reduceAdd, List.getElem_toArray, List.getElem_cons_zero, List.getElem_cons_succ]
   refine ra_end rfl ?_
   simp only [FS, ↓RE, okR, argEnv, Nat.reduceAdd, Nat.reduceSub, Nat.reduceLT, Nat.reduceLeDiff, Nat.reduceEqDiff, reduceIte, RT, RM, RG, List.take_succ_cons, List.take_zero, List.drop_zero, List.drop_succ_cons, Nat.reduceAdd, List.getElem_toArray, List.getElem_cons_zero, List.getElem_cons_succ]
   have hnone : numB w = none := hno fun n ⟨_, h, _⟩ => hno2 n h
   refine awg_cond (t := true) (by kernel_rfl) (fun _ => ?_) (fun h => by cases h)
   refine awg_from (ra_data oNone_ok 3 (Nat.le_of_ble_eq_true rfl) ?_)
   simp only [FS, ↓RE, okR, argEnv, Nat.reduceAdd, Nat.reduceSub, Nat.reduceLT, Nat.reduceLeDiff, Nat.reduceEqDiff, reduceIte, RT, RM, RG, List.take_succ_cons, List.take_zero, List.drop_zero, List.drop_succ_cons, Nat.reduceAdd, List.getElem_toArray, List.getElem_cons_zero, List.getElem_cons_succ]
   refine ra_panic (t := 150) (d := .agg [stD w]) rfl rfl rfl (by kernel_rfl) fun v hv => ?_
   obtain ⟨R, n, hr⟩ := hv
   exact ⟨hnone, _, _, rfl, rel_strv1 hr _⟩
def hdB (ls : List Bs) (word : Bs) : Bool := match ls with
 | [] => false
 | s :: _ => isB s word
theorem is_t (ls : List Bs) (word : Bs) (hw : word.length ≤ 100) : Pure Tryz.prog 142 [.ref [.sl (ls.map enT.d)] 0, stD word] (.bool (hdB ls word)) := by
 have a1 := s_add (P := Tryz.prog) 9 (a := word) (b := [32]) (by simp; omega)
 cases ls with
 | nil =>
  have q : decide ((0 : Int) < ((0 : Nat) : Int)) = false := rfl
  refine pure_of_pieces (rs := [.tmp 4]) (m := 22) [] oNone_ok (by kernel_rfl) Tryz.func142 rfl (by kernel_rfl) rfl rfl (by kernel_rfl) ?_
  refine awp_peel (T := []) oNone_ok (by kernel_rfl) (by kernel_rfl) ?_
  simp only [FS, ↓RE, okR, argEnv, Nat.reduceAdd, Nat.reduceSub, Nat.reduceLT, Nat.reduceLeDiff, Nat.reduceEqDiff, reduceIte, RT, RM]
  refine awp_rest (T := []) oNone_ok (by kernel_rfl) (by kernel_rfl) ?_
  simp only [FS, ↓RE, okR, argEnv, Nat.reduceAdd, Nat.reduceSub, Nat.reduceLT, Nat.reduceLeDiff, Nat.reduceEqDiff, reduceIte, RT, RM, q]
  rfl
 | cons s r =>
  have q : decide ((0 : Int) < (((List.map enT.d r).length + 1 : Nat) : Int)) = true := by simp
  have ix : indexAddrD Tryz.prog [] 147 (.sl (enT.d s :: List.map enT.d r)) (.int .i64 0) = some (.ref [stD s] 0) := tx_ix (ls := s :: r) (i := 0) rfl []
  refine pure_of_pieces (rs := [.tmp 4]) (m := 22) [] oNone_ok (by kernel_rfl) Tryz.func142 rfl (by kernel_rfl) rfl rfl (by kernel_rfl) ?_
  refine awp_peel (T := []) oNone_ok (by kernel_rfl) (by kernel_rfl) ?_
  simp only [FS, ↓RE, okR, argEnv, Nat.reduceAdd, Nat.reduceSub, Nat.reduceLT, Nat.reduceLeDiff, Nat.reduceEqDiff, reduceIte, RT, RM]
  refine awp_rest (T := []) oNone_ok (by kernel_rfl) (by kernel_rfl) ?_
  simp only [FS, ↓RE, okR, argEnv, Nat.reduceAdd, Nat.reduceSub, Nat.reduceLT, Nat.reduceLeDiff, Nat.reduceEqDiff, reduceIte, RT, RM, q, ix, show (⟨#[32]⟩ : ByteArray) = bS [32] from rfl, a1]
  refine call_of_pure (hasPre_t s (word ++ [32])) rfl ?_
  simp only [FS, ↓RE, okR, argEnv, Nat.reduceAdd, Nat.reduceSub, Nat.reduceLT, Nat.reduceLeDiff, Nat.reduceEqDiff, reduceIte, RT, RM]
  rfl
end Go.Sx

namespace Go.Sx
open Go.Proofs Go.Lib
set_option maxRecDepth 10000
variable {w0 : World}

def tkB (ls : List Bs) (word : Bs) (many : Nat) : Option (List Int × List Bs) := match ls with
 | [] => none
 | s :: r => (takB s word many).map fun xs => (xs, r)
theorem slc_lo {P : Program} {t e : TypeId} (hu : P.underlying t = some (.slice e)) {n : Nat} (hs : sizeT P e = some n) {es : List (List D)} (hl : ∀ c ∈ es, c.length = n) {k : Nat} (hk : k ≤ es.length) (kk : IntKind) : sliceD P t (.sl es) (some (.int kk (k : Int))) none = some (.sl (es.drop k)) := by
 have h1 : es.all (fun c => Nat.beq c.length n) = true := List.all_eq_true.2 fun c hc => by simp [hl c hc]
 have h2 : (0 : Int) ≤ (k : Int) ∧ (k : Int) ≤ (es.length : Int) := by omega
 simp only [sliceD, hu, hs, boundD, h1, if_true, h2, and_self, Int.toNat_natCast, List.take_length]
theorem fr_strs (ls : List Bs) : D.fr (.sl (ls.map enT.d)) = true := by
 simp [D.fr, D.frL, enT]
theorem nums_snoc : ∀ {ws : List Bs} {xs : List Int} {w : Bs} {n : Int}, numsB ws = some xs → numB w = some n → numsB (ws ++ [w]) = some (xs ++ [n]) := fun {ws xs w n} h1 h2 => by
 rw [nums_iff] at h1 ⊢
 rw [num_iff] at h2
 obtain ⟨rfl, h1⟩ := h1
 obtain ⟨rfl, h2⟩ := h2
 exact ⟨by simp, fun m hm => by rcases List.mem_append.1 hm with h | h; exact h1 m h; simp at h; subst h; exact h2⟩
theorem nums_no {ws : List Bs} {w : Bs} (hm : w ∈ ws) (h : numB w = none) : numsB ws = none := by
 cases hn : numsB ws with
 | none => rfl
 | some xs =>
  rw [nums_iff] at hn
  obtain ⟨rfl, hb⟩ := hn
  obtain ⟨n, hn, rfl⟩ := List.mem_map.1 hm
  have := (num_iff (itoa n) n).2 ⟨rfl, hb n hn⟩
  rw [h] at this; cases this
theorem take_g (hT : TabsT w0) (ls : List Bs) (word : Bs) (many : Nat) (hw : word.length ≤ 100) (h32 : 32 ∉ word) (hm : many ≤ 100) (hl : ∀ s ∈ ls, s.length ≤ 1000000) :
  PCallG Tryz.prog w0 141 [.ptr 0 0, stD word, .int .i64 (many : Int)] [(0, .box [.sl (ls.map enT.d)])] 1 (fun r h' _ => ∃ cs', hget h' 0 = some (.box cs') ∧ ∃ xs rest, tkB ls word many = some (xs, rest) ∧ r = nmD xs ∧ cs' = [.sl (rest.map enT.d)])
   fun ch _ _ => WrongP ch ∧ tkB ls word many = none := by
 have hdl : ∀ m, D.ltL m [.sl (ls.map enT.d)] = true := fun m => by simp [D.ltL, D.lt]
 cases ls with
 | nil =>
  have pI : Pure Tryz.prog 142 [.ref [.sl ([].map enT.d)] 0, stD word] (.bool false) := is_t [] word hw
  refine pcallg_of_pieces (rs := [.tmp 6]) (m := 79) Tryz.func141 rfl (by kernel_rfl) rfl rfl ?_
  refine awg_peel (T := []) oNone_ok (by kernel_rfl) (by kernel_rfl) ?_
  simp only [FS, ↓RE, okR, argEnv, Nat.reduceAdd, Nat.reduceSub, Nat.reduceLT, Nat.reduceLeDiff, Nat.reduceEqDiff, reduceIte, RT, RM, RG]
  refine awg_seq ?_
  refine awg_peel (T := []) oNone_ok (by kernel_rfl) (by kernel_rfl) ?_
  simp only [FS, ↓RE, okR, argEnv, Nat.reduceAdd, Nat.reduceSub, Nat.reduceLT, Nat.reduceLeDiff, Nat.reduceEqDiff, reduceIte, RT, RM, RG]
  refine call_of_pure pI rfl ?_
  simp only [FS, ↓RE, okR, argEnv, Nat.reduceAdd, Nat.reduceSub, Nat.reduceLT, Nat.reduceLeDiff, Nat.reduceEqDiff, reduceIte, RT, RM, RG, Bool.not_false]
  refine awg_cond (t := true) (by kernel_rfl) (fun _ => ?_) (fun h => by cases h)
  refine awg_from (ra_data oNone_ok 3 (Nat.le_of_ble_eq_true rfl) ?_)
  simp only [FS, ↓RE, okR, argEnv, Nat.reduceAdd, Nat.reduceSub, Nat.reduceLT, Nat.reduceLeDiff, Nat.reduceEqDiff, reduceIte, RT, RM, RG, List.take_succ_cons, List.take_zero, List.drop_zero, List.drop_succ_cons, Nat.reduceAdd, List.getElem_toArray, List.getElem_cons_zero, List.getElem_cons_succ]
  refine ra_panic (t := 150) (d := .agg [stD word]) rfl rfl rfl (by kernel_rfl) fun v hv => ?_
  obtain ⟨R, n, hr⟩ := hv
  exact ⟨⟨_, _, rfl, rel_strv1 hr _⟩, rfl⟩
 | cons s rest =>
 have hsl := hl s (by simp)
 have hrl := fun x hx => hl x (List.mem_cons_of_mem _ hx)
 have htk : tkB (s :: rest) word many = (takB s word many).map fun xs => (xs, rest) := rfl
 have pI : Pure Tryz.prog 142 [.ref [.sl ((s :: rest).map enT.d)] 0, stD word] (.bool (isB s word)) := is_t (s :: rest) word hw
 cases hI : isB s word with
 | false =>
  have hno : tkB (s :: rest) word many = none := by
   rw [htk]
   cases ht : takB s word many with
   | none => rfl
   | some xs => rw [tak_is h32 ht] at hI; cases hI
  rw [hI] at pI
  refine pcallg_of_pieces (rs := [.tmp 6]) (m := 79) Tryz.func141 rfl (by kernel_rfl) rfl rfl ?_
  refine awg_peel (T := []) oNone_ok (by kernel_rfl) (by kernel_rfl) ?_
  simp only [FS, ↓RE, okR, argEnv, Nat.reduceAdd, Nat.reduceSub, Nat.reduceLT, Nat.reduceLeDiff, Nat.reduceEqDiff, reduceIte, RT, RM, RG]
  refine awg_seq ?_
  refine awg_peel (T := []) oNone_ok (by kernel_rfl) (by kernel_rfl) ?_
  simp only [FS, ↓RE, okR, argEnv, Nat.reduceAdd, Nat.reduceSub, Nat.reduceLT, Nat.reduceLeDiff, Nat.reduceEqDiff, reduceIte, RT, RM, RG]
  refine call_of_pure pI rfl ?_
  simp only [FS, ↓RE, okR, argEnv, Nat.reduceAdd, Nat.reduceSub, Nat.reduceLT, Nat.reduceLeDiff, Nat.reduceEqDiff, reduceIte, RT, RM, RG, Bool.not_false]
  refine awg_cond (t := true) (by kernel_rfl) (fun _ => ?_) (fun h => by cases h)
  refine awg_from (ra_data oNone_ok 3 (Nat.le_of_ble_eq_true rfl) ?_)
  simp only [FS, ↓RE, okR, argEnv, Nat.reduceAdd, Nat.reduceSub, Nat.reduceLT, Nat.reduceLeDiff, Nat.reduceEqDiff, reduceIte, RT, RM, RG, List.take_succ_cons, List.take_zero, List.drop_zero, List.drop_succ_cons, Nat.reduceAdd, List.getElem_toArray, List.getElem_cons_zero, List.getElem_cons_succ]
  refine ra_panic (t := 150) (d := .agg [stD word]) rfl rfl rfl (by kernel_rfl) fun v hv => ?_
  obtain ⟨R, n, hr⟩ := hv
  exact ⟨⟨_, _, rfl, rel_strv1 hr _⟩, hno⟩
 | true =>
 rw [hI] at pI
 refine pcallg_of_pieces (rs := [.tmp 6]) (m := 79) Tryz.func141 rfl (by kernel_rfl) rfl rfl ?_
 refine awg_peel (T := []) oNone_ok (by kernel_rfl) (by kernel_rfl) ?_
 simp only [FS, ↓RE, okR, argEnv, Nat.reduceAdd, Nat.reduceSub, Nat.reduceLT, Nat.reduceLeDiff, Nat.reduceEqDiff, reduceIte, RT, RM, RG]
 refine awg_seq ?_
 refine awg_peel (T := []) oNone_ok (by kernel_rfl) (by kernel_rfl) ?_
 simp only [FS, ↓RE, okR, argEnv, Nat.reduceAdd, Nat.reduceSub, Nat.reduceLT, Nat.reduceLeDiff, Nat.reduceEqDiff, reduceIte, RT, RM, RG]
 refine call_of_pure pI rfl ?_
 simp only [FS, ↓RE, okR, argEnv, Nat.reduceAdd, Nat.reduceSub, Nat.reduceLT, Nat.reduceLeDiff, Nat.reduceEqDiff, reduceIte, RT, RM, RG, Bool.not_true]
 refine awg_cond (t := false) (by kernel_rfl) (fun h => by cases h) (fun _ => awg_skip ?_)
 simp only [FS, ↓RE, okR, argEnv, Nat.reduceAdd, Nat.reduceSub, Nat.reduceLT, Nat.reduceLeDiff, Nat.reduceEqDiff, reduceIte, RT, RM, RG, List.take_succ_cons, List.take_zero, List.drop_zero, List.drop_succ_cons, Nat.reduceAdd, List.getElem_toArray, List.getElem_cons_zero, List.getElem_cons_succ]
 have ix : indexAddrD Tryz.prog [(0, .box [.sl ((s :: rest).map enT.d)])] 147 (.sl (enT.d s :: rest.map enT.d)) (.int .i64 0) = some (.ref [stD s] 0) := tx_ix (ls := s :: rest) (i := 0) rfl _
 refine awg_peel (T := []) oNone_ok (by kernel_rfl) (by kernel_rfl) ?_
 simp only [FS, ↓RE, okR, argEnv, Nat.reduceAdd, Nat.reduceSub, Nat.reduceLT, Nat.reduceLeDiff, Nat.reduceEqDiff, reduceIte, RT, RM, RG, ix]
 have sl1 : sliceD Tryz.prog 147 (.sl (enT.d s :: rest.map enT.d)) (some (.int .i64 1)) none = some (.sl (rest.map enT.d)) :=
  slc_lo (k := 1) (es := enT.d s :: rest.map enT.d) Fz.und_147 Fz.size_9 (fun c hc => by rcases List.mem_cons.1 hc with rfl | hc; rfl; obtain ⟨x, _, rfl⟩ := List.mem_map.1 hc; rfl) (by simp) .i64
 refine awg_peel (T := []) oNone_ok (by kernel_rfl) (by kernel_rfl) ?_
 simp only [FS, ↓RE, okR, argEnv, Nat.reduceAdd, Nat.reduceSub, Nat.reduceLT, Nat.reduceLeDiff, Nat.reduceEqDiff, reduceIte, RT, RM, RG, sl1]
 have w1 := wrap_i64 (z := (s.length : Int) - 4) (by omega) (by omega)
 refine awg_peel (T := []) oNone_ok (by kernel_rfl) (by kernel_rfl) ?_
 simp only [FS, ↓RE, okR, argEnv, Nat.reduceAdd, Nat.reduceSub, Nat.reduceLT, Nat.reduceLeDiff, Nat.reduceEqDiff, reduceIte, RT, RM, RG, s_len, w1]
 refine awg_seq ?_
 by_cases h4 : s.length < 4
 ·have q4 : decide ((s.length : Int) - 4 < 0) = true := by simp; omega
  have hno : tkB (s :: rest) word many = none := by
   rw [htk]
   unfold takB bodyB
   rw [if_neg (by omega)]
   rfl
  refine awg_peel (T := [(6, [(13, false, false, [])])]) oNone_ok (by kernel_rfl) (by kernel_rfl) ?_
  simp only [FS, ↓RE, okR, argEnv, Nat.reduceAdd, Nat.reduceSub, Nat.reduceLT, Nat.reduceLeDiff, Nat.reduceEqDiff, reduceIte, RT, RM, RG, q4]
  refine awg_cond (t := true) (by kernel_rfl) (fun _ => ?_) (fun h => by cases h)
  refine awg_from (ra_data oNone_ok 3 (Nat.le_of_ble_eq_true rfl) ?_)
  simp only [FS, ↓RE, okR, argEnv, Nat.reduceAdd, Nat.reduceSub, Nat.reduceLT, Nat.reduceLeDiff, Nat.reduceEqDiff, reduceIte, RT, RM, RG, List.take_succ_cons, List.take_zero, List.drop_zero, List.drop_succ_cons, Nat.reduceAdd, List.getElem_toArray, List.getElem_cons_zero, List.getElem_cons_succ]
  refine ra_panic (t := 150) (d := .agg [stD s]) rfl rfl rfl (by kernel_rfl) fun v hv => ?_
  obtain ⟨R, n, hr⟩ := hv
  exact ⟨⟨_, _, rfl, rel_strv1 hr _⟩, hno⟩
 have q4 : decide ((s.length : Int) - 4 < 0) = false := by simp; omega
 have hn4 : (s.length : Int) - 4 = ((s.length - 4 : Nat) : Int) := by omega
 have d1 := s_drop (P := Tryz.prog) Fz.und_9 (l := s) (i := s.length - 4) (by omega)
 have t1 := s_take (P := Tryz.prog) Fz.und_9 (l := s) (i := s.length - 4) (by omega)
 have hbd : bodyB s = if s.drop (s.length - 4) = 32 :: 61 :: chkB (s.take (s.length - 4)) then some (s.take (s.length - 4)) else none := by
  unfold bodyB
  by_cases h : s.drop (s.length - 4) = 32 :: 61 :: chkB (s.take (s.length - 4))
  ·rw [if_pos h, if_pos ⟨by omega, h⟩]
  ·rw [if_neg h, if_neg (fun hh => h hh.2)]
 rw [← hn4] at d1 t1
 have pc := check_t (s.take (s.length - 4)) (by simp; omega)
 have htl : (s.take (s.length - 4)).length ≤ 1000000 := by simp; omega
 have hbm := fun b => is_first (s := s) (b := b) (word := word)
 generalize s.take (s.length - 4) = b at *
 generalize s.drop (s.length - 4) = d4 at *
 have a1 := s_add (P := Tryz.prog) 9 (a := [32, 61]) (b := chkB b) (by simp [chk_len])
 have e1 : strOp .neq (bS d4) (bS (32 :: 61 :: chkB b)) = some (.bool (!(decide (d4 = 32 :: 61 :: chkB b)))) := s_ne (P := Tryz.prog) 9 d4 (32 :: 61 :: chkB b)
 by_cases hd : d4 = 32 :: 61 :: chkB b
 rotate_left
 ·have hno : tkB (s :: rest) word many = none := by
   rw [htk]
   unfold takB
   rw [hbd, if_neg hd]
   rfl
  rw [decide_eq_false hd] at e1
  refine awg_peel (T := [(6, [(13, false, false, [])])]) oNone_ok (by kernel_rfl) (by kernel_rfl) ?_
  simp only [FS, ↓RE, okR, argEnv, Nat.reduceAdd, Nat.reduceSub, Nat.reduceLT, Nat.reduceLeDiff, Nat.reduceEqDiff, reduceIte, RT, RM, RG, q4, d1, t1]
  refine call_of_pure pc rfl ?_
  simp only [FS, ↓RE, okR, argEnv, Nat.reduceAdd, Nat.reduceSub, Nat.reduceLT, Nat.reduceLeDiff, Nat.reduceEqDiff, reduceIte, RT, RM, RG, show (⟨#[32, 61]⟩ : ByteArray) = bS [32, 61] from rfl, a1, e1, Bool.not_false]
  refine awg_cond (t := true) (by kernel_rfl) (fun _ => ?_) (fun h => by cases h)
  refine awg_from (ra_data oNone_ok 3 (Nat.le_of_ble_eq_true rfl) ?_)
  simp only [FS, ↓RE, okR, argEnv, Nat.reduceAdd, Nat.reduceSub, Nat.reduceLT, Nat.reduceLeDiff, Nat.reduceEqDiff, reduceIte, RT, RM, RG, List.take_succ_cons, List.take_zero, List.drop_zero, List.drop_succ_cons, Nat.reduceAdd, List.getElem_toArray, List.getElem_cons_zero, List.getElem_cons_succ]
  refine ra_panic (t := 150) (d := .agg [stD s]) rfl rfl rfl (by kernel_rfl) fun v hv => ?_
  obtain ⟨R, n, hr⟩ := hv
  exact ⟨⟨_, _, rfl, rel_strv1 hr _⟩, hno⟩
 rw [decide_eq_true hd] at e1
 rw [if_pos hd] at hbd
 have hhd := (hbm b hbd h32).1 hI
 refine awg_peel (T := [(6, [(13, false, false, [])])]) oNone_ok (by kernel_rfl) (by kernel_rfl) ?_
 simp only [FS, ↓RE, okR, argEnv, Nat.reduceAdd, Nat.reduceSub, Nat.reduceLT, Nat.reduceLeDiff, Nat.reduceEqDiff, reduceIte, RT, RM, RG, q4, d1, t1]
 refine call_of_pure pc rfl ?_
 simp only [FS, ↓RE, okR, argEnv, Nat.reduceAdd, Nat.reduceSub, Nat.reduceLT, Nat.reduceLeDiff, Nat.reduceEqDiff, reduceIte, RT, RM, RG, show (⟨#[32, 61]⟩ : ByteArray) = bS [32, 61] from rfl, a1, e1, Bool.not_true]
 refine awg_cond (t := false) (by kernel_rfl) (fun h => by cases h) (fun _ => awg_skip ?_)
 simp only [FS, ↓RE, okR, argEnv, Nat.reduceAdd, Nat.reduceSub, Nat.reduceLT, Nat.reduceLeDiff, Nat.reduceEqDiff, reduceIte, RT, RM, RG, List.take_succ_cons, List.take_zero, List.drop_zero, List.drop_succ_cons, Nat.reduceAdd, List.getElem_toArray, List.getElem_cons_zero, List.getElem_cons_succ]
 have hspl : ∀ p ∈ spl 32 b, p.length ≤ 1000000 := fun p hp => Nat.le_trans (spl_le hp) htl
 have pS := split_g hT b htl 32 (R := fun _ _ _ => False)
 have htk2 : takB s word many = if (spl 32 b).length = many + 1 ∧ (spl 32 b).head? = some word then numsB (spl 32 b).tail else none := by
  unfold takB
  rw [hbd]
 rw [htk2] at htk
 clear htk2
 obtain ⟨ws, hws⟩ : ∃ ws, spl 32 b = word :: ws := by
  cases h : spl 32 b with
  | nil => rw [h] at hhd; cases hhd
  | cons p q => rw [h] at hhd; cases hhd; exact ⟨q, rfl⟩
 rw [hws] at hspl pS htk
 simp only [List.length_cons, List.head?_cons, List.tail_cons, and_true, Nat.add_right_cancel_iff] at htk
 refine awg_seq (awg_from (ra_data oNone_ok 3 (Nat.le_of_ble_eq_true rfl) ?_))
 simp only [FS, ↓RE, okR, argEnv, Nat.reduceAdd, Nat.reduceSub, Nat.reduceLT, Nat.reduceLeDiff, Nat.reduceEqDiff, reduceIte, RT, RM, RG, List.take_succ_cons, List.take_zero, List.drop_zero, List.drop_succ_cons, Nat.reduceAdd, List.getElem_toArray, List.getElem_cons_zero, List.getElem_cons_succ, t1]
 refine ra_call rfl (.inl rfl) rfl rfl ((pcallg_data (A := fun r => r = .sl ((word :: ws).map enT.d)) (R := fun _ => False) pS rfl fun r hr => by subst hr; exact fr_strs _).mono ?_ fun _ _ _ h => h.1.elim)
 rintro r h nid ⟨rfl, rfl, rfl⟩
 refine ra_data oNone_ok 1 (Nat.le_of_ble_eq_true rfl) ?_
 simp only [FS, ↓RE, okR, argEnv, Nat.reduceAdd, Nat.reduceSub, Nat.reduceLT, Nat.reduceLeDiff, Nat.reduceEqDiff, reduceIte, RT, RM, RG, List.take_succ_cons, List.take_zero, List.drop_zero, List.drop_succ_cons, Nat.reduceAdd, List.getElem_toArray, List.getElem_cons_zero, List.getElem_cons_succ]
 refine ra_end rfl ?_
 simp only [FS, ↓RE, okR, argEnv, Nat.reduceAdd, Nat.reduceSub, Nat.reduceLT, Nat.reduceLeDiff, Nat.reduceEqDiff, reduceIte, RT, RM, RG, List.take_succ_cons, List.take_zero, List.drop_zero, List.drop_succ_cons, Nat.reduceAdd, List.getElem_toArray, List.getElem_cons_zero, List.getElem_cons_succ]
 have w2 := wrap_i64 (z := (many : Int) + 1) (by omega) (by omega)
 refine awg_seq ?_
 by_cases hlen : ws.length = many
 rotate_left
 ·have hne : ((((List.map enT.d ws).length + 1 : Nat) : Int) != (many : Int) + 1) = true := by simp; omega
  rw [if_neg hlen] at htk
  refine awg_peel (T := []) oNone_ok (by kernel_rfl) (by kernel_rfl) ?_
  simp only [FS, ↓RE, okR, argEnv, Nat.reduceAdd, Nat.reduceSub, Nat.reduceLT, Nat.reduceLeDiff, Nat.reduceEqDiff, reduceIte, RT, RM, RG, w2, hne]
  refine awg_cond (t := true) (by kernel_rfl) (fun _ => ?_) (fun h => by cases h)
  refine awg_from (ra_data oNone_ok 3 (Nat.le_of_ble_eq_true rfl) ?_)
  simp only [FS, ↓RE, okR, argEnv, Nat.reduceAdd, Nat.reduceSub, Nat.reduceLT, Nat.reduceLeDiff, Nat.reduceEqDiff, reduceIte, RT, RM, RG, List.take_succ_cons, List.take_zero, List.drop_zero, List.drop_succ_cons, Nat.reduceAdd, List.getElem_toArray, List.getElem_cons_zero, List.getElem_cons_succ]
  refine ra_panic (t := 150) (d := .agg [stD s]) rfl rfl rfl (by kernel_rfl) fun v hv => ?_
  obtain ⟨R, n, hr⟩ := hv
  exact ⟨⟨_, _, rfl, rel_strv1 hr _⟩, htk⟩
 have hne : ((((List.map enT.d ws).length + 1 : Nat) : Int) != (many : Int) + 1) = false := by simp; omega
 rw [if_pos hlen] at htk
 refine awg_peel (T := []) oNone_ok (by kernel_rfl) (by kernel_rfl) ?_
 simp only [FS, ↓RE, okR, argEnv, Nat.reduceAdd, Nat.reduceSub, Nat.reduceLT, Nat.reduceLeDiff, Nat.reduceEqDiff, reduceIte, RT, RM, RG, w2, hne]
 refine awg_cond (t := false) (by kernel_rfl) (fun h => by cases h) (fun _ => awg_skip ?_)
 simp only [FS, ↓RE, okR, argEnv, Nat.reduceAdd, Nat.reduceSub, Nat.reduceLT, Nat.reduceLeDiff, Nat.reduceEqDiff, reduceIte, RT, RM, RG, List.take_succ_cons, List.take_zero, List.drop_zero, List.drop_succ_cons, Nat.reduceAdd, List.getElem_toArray, List.getElem_cons_zero, List.getElem_cons_succ]
 have sl2 : sliceD Tryz.prog 147 (.sl (enT.d word :: ws.map enT.d)) (some (.int .i64 1)) none = some (.sl (ws.map enT.d)) :=
  slc_lo (k := 1) (es := enT.d word :: ws.map enT.d) Fz.und_147 Fz.size_9 (fun c hc => by rcases List.mem_cons.1 hc with rfl | hc; rfl; obtain ⟨x, _, rfl⟩ := List.mem_map.1 hc; rfl) (by simp) .i64
 refine awg_peel (T := []) oNone_ok (by kernel_rfl) (by kernel_rfl) ?_
 simp only [FS, ↓RE, okR, argEnv, Nat.reduceAdd, Nat.reduceSub, Nat.reduceLT, Nat.reduceLeDiff, Nat.reduceEqDiff, reduceIte, RT, RM, RG]
 refine awg_seq ?_
 refine awg_peel (T := []) oNone_ok (by kernel_rfl) (by kernel_rfl) ?_
 simp only [FS, ↓RE, okR, argEnv, Nat.reduceAdd, Nat.reduceSub, Nat.reduceLT, Nat.reduceLeDiff, Nat.reduceEqDiff, reduceIte, RT, RM, RG, sl2, List.length_map]
 refine awg_block ?_
 refine awg_imp (imp_nil 10 3 1 rfl) ?_
 have hlr : ∀ m, D.ltL m [.sl (rest.map enT.d)] = true := fun m => by simp [D.ltL, D.lt]
 refine awg_loopI (ι := List Int) (fun xs => ⟨[(10, .osl 1 xs.length), (66, .sl (ws.map enT.d)), (67, .int .i64 (ws.length : Int)), (68, .int .i64 (xs.length : Int))], [(1, .arr 3 1 (xs.map enI.d)), (0, .box [.sl (rest.map enT.d)])], 2, 79⟩)
  (fun xs => xs.length ≤ ws.length ∧ numsB (ws.take xs.length) = some xs) (fun xs => ws.length - xs.length) [] ⟨Nat.zero_le _, rfl⟩ (imp_head (by simp [headW, heapW, envW, blkLt, D.ltL, D.lt, look, hget, hlr, eset_nil, eset_cons])) ?_
 rintro xs ⟨hxl, hxs⟩
 refine awg_peel (T := []) oNone_ok (by kernel_rfl) (by kernel_rfl) ?_
 rcases Nat.lt_or_ge xs.length ws.length with hlt | hge
 ·have hc := natT hlt
  obtain ⟨w, hr⟩ : ∃ r, ws[xs.length]? = some r := ⟨ws[xs.length], by simp [hlt]⟩
  have ixw := fun h => tx_ix hr h
  have hwm : w ∈ ws := List.mem_of_getElem? hr
  have hwl := hspl w (by simp [hwm])
  have w3 := wrap_i64 (z := (xs.length : Int) + 1) (by omega) (by omega)
  simp only [FS, ↓RE, okR, argEnv, Nat.reduceAdd, Nat.reduceSub, Nat.reduceLT, Nat.reduceLeDiff, Nat.reduceEqDiff, reduceIte, RT, RM, RG, hc, decide_true]
  refine awg_peel (T := []) oNone_ok (by kernel_rfl) (by kernel_rfl) ?_
  simp only [FS, ↓RE, okR, argEnv, Nat.reduceAdd, Nat.reduceSub, Nat.reduceLT, Nat.reduceLeDiff, Nat.reduceEqDiff, reduceIte, RT, RM, RG]
  refine awg_seq ?_
  refine awg_block ?_
  refine awg_peel (T := []) oNone_ok (by kernel_rfl) (by kernel_rfl) ?_
  simp only [FS, ↓RE, okR, argEnv, Nat.reduceAdd, Nat.reduceSub, Nat.reduceLT, Nat.reduceLeDiff, Nat.reduceEqDiff, reduceIte, RT, RM, RG, ixw]
  refine awg_from (ra_data oNone_ok 2 (Nat.le_of_ble_eq_true rfl) ?_)
  simp only [FS, ↓RE, okR, argEnv, Nat.reduceAdd, Nat.reduceSub, Nat.reduceLT, Nat.reduceLeDiff, Nat.reduceEqDiff, reduceIte, RT, RM, RG, List.take_succ_cons, List.take_zero, List.drop_zero, List.drop_succ_cons, Nat.reduceAdd, List.getElem_toArray, List.getElem_cons_zero, List.getElem_cons_succ]
  refine ra_call rfl (.inl rfl) rfl rfl ((pcallg_data (A := fun r => ∃ n, numB w = some n ∧ r = .int .i64 n) (R := fun ch => numB w = none ∧ WrongP ch) (number_g hT w hwl) rfl fun r hr => by obtain ⟨n, _, rfl⟩ := hr; rfl).mono ?_ fun ch h nid hq => ?_)
  rotate_left
  ·exact ⟨hq.1.2, by rw [htk, nums_no hwm hq.1.1]; rfl⟩
  rintro r h nid ⟨⟨n, hn, rfl⟩, rfl, rfl⟩
  have li := fun h => litD_int (P := Tryz.prog) Fz.und_62 Fz.size_3 Fz.zero_3 h .i64 n
  have ha := fun h nid (hb : hget h 1 = some (.arr 3 1 (xs.map enI.d))) => app_sl (P := Tryz.prog) (h := h) (nid := nid) (b := 1) (n := xs.length) (xs := [[.int .i64 n]]) Fz.und_62 Fz.size_3 Fz.zero_3 rfl (by omega) Fz.bytes_3_62 hb (List.length_map _).symm rfl (by simp; omega) (by simp; omega)
  refine ra_data oNone_ok 3 (Nat.le_of_ble_eq_true rfl) ?_
  simp only [FS, ↓RE, okR, argEnv, Nat.reduceAdd, Nat.reduceSub, Nat.reduceLT, Nat.reduceLeDiff, Nat.reduceEqDiff, reduceIte, RT, RM, RG, List.take_succ_cons, List.take_zero, List.drop_zero, List.drop_succ_cons, Nat.reduceAdd, List.getElem_toArray, List.getElem_cons_zero, List.getElem_cons_succ, li, ha]
  refine ra_end rfl ?_
  simp only [FS, ↓RE, okR, argEnv, Nat.reduceAdd, Nat.reduceSub, Nat.reduceLT, Nat.reduceLeDiff, Nat.reduceEqDiff, reduceIte, RT, RM, RG, List.take_succ_cons, List.take_zero, List.drop_zero, List.drop_succ_cons, Nat.reduceAdd, List.getElem_toArray, List.getElem_cons_zero, List.getElem_cons_succ]
  refine awg_restT (T := []) oNone_ok rfl ?_
  simp only [FS, ↓RE, okR, argEnv, Nat.reduceAdd, Nat.reduceSub, Nat.reduceLT, Nat.reduceLeDiff, Nat.reduceEqDiff, reduceIte, RT, RM, RG, w3]
  refine ⟨xs ++ [n], ⟨by simp; omega, ?_⟩, by simp; omega, imp_head ?_⟩
  ·rw [List.length_append, List.length_singleton, List.take_add_one, hr]
   exact nums_snoc hxs hn
  ·simp [headW, heapW, envW, blkLt, D.ltL, D.lt, look, hget, Sx.hset, enI]
 have hc := natF hge
 have hle : xs.length = ws.length := by omega
 rw [hle, List.take_length] at hxs
 simp only [FS, ↓RE, okR, argEnv, Nat.reduceAdd, Nat.reduceSub, Nat.reduceLT, Nat.reduceLeDiff, Nat.reduceEqDiff, reduceIte, RT, RM, RG, hc, decide_false]
 refine awg_peel (T := []) oNone_ok (by kernel_rfl) (by kernel_rfl) ?_
 simp only [FS, ↓RE, okR, argEnv, Nat.reduceAdd, Nat.reduceSub, Nat.reduceLT, Nat.reduceLeDiff, Nat.reduceEqDiff, reduceIte, RT, RM, RG]
 refine awg_imp (imp_frz (e := [(10, nmD xs)]) (h' := [(0, .box [.sl (rest.map enT.d)])]) (nid' := 2) (n' := 79) 1 ?_) ?_
 ·simp [headW, heapW, envW, blkLt, D.ltL, D.lt, look, hget, frzD, herase, hlr]
 refine awg_restT (T := []) oNone_ok rfl ?_
 simp only [FS, ↓RE, okR, argEnv, Nat.reduceAdd, Nat.reduceSub, Nat.reduceLT, Nat.reduceLeDiff, Nat.reduceEqDiff, reduceIte, RT, RM, RG]
 exact ⟨_, rfl, xs, rest, by rw [htk, hxs]; rfl, rfl, rfl⟩
end Go.Sx

namespace Go.Sx
open Go.Proofs Go.Lib
set_option maxRecDepth 10000
variable {w0 : World}

theorem line_g (hT : TabsT w0) {w : Bs} {xs : List Int} (h : LnOk w xs) {R : List PanicEntry → H → Nat → Prop} : PCallG Tryz.prog w0 97 [stD w, nmD xs] [] 0 (fun r _ _ => r = stD (linB w xs ++ [10])) R := by
 have hw := h.w
 have hxl := h.l
 have hn := h.n
 have hwl := wrd_len hn
 have hsz : (xs.map enI.d).length = xs.length := List.length_map ..
 have hti : ∀ i, (wrdB (xs.take i)).length ≤ 120 := fun i => by
  have := wrd_len (xs := xs.take i) fun m hm => hn m (List.mem_of_mem_take hm)
  rw [List.length_take] at this; omega
 refine pcallg_of_pieces (rs := [.tmp 4]) (m := 25) Tryz.func97 rfl (by kernel_rfl) rfl rfl ?_
 refine awg_peel (T := []) oNone_ok (by kernel_rfl) (by kernel_rfl) ?_
 simp only [FS, ↓RE, okR, argEnv, Nat.reduceAdd, Nat.reduceSub, Nat.reduceLT, Nat.reduceLeDiff, Nat.reduceEqDiff, reduceIte, RT, RM, RG]
 refine awg_seq ?_
 refine awg_peelT (T := []) oNone_ok rfl ?_
 simp only [FS, ↓RE, okR, argEnv, Nat.reduceAdd, Nat.reduceSub, Nat.reduceLT, Nat.reduceLeDiff, Nat.reduceEqDiff, reduceIte, RT, RM, RG, hsz]
 refine awg_block ?_
 refine awg_loopI (ι := Nat) (fun i => ⟨[(0, stD (w ++ wrdB (xs.take i))), (7, nmD xs), (8, .int .i64 (xs.length : Int)), (9, .int .i64 (i : Int))], [], 0, 25⟩) (fun i => i ≤ xs.length) (fun i => xs.length - i) 0 (Nat.zero_le _) (imp_head (by simp [headW, heapW, envW, blkLt, D.ltL, D.lt, look, hget, wrdB])) ?_
 intro i hil
 refine awg_peelT (T := []) oNone_ok rfl ?_
 have hti := hti i
 rcases Nat.lt_or_ge i xs.length with hlt | hge
 ·have hc := natT hlt
  obtain ⟨n, hr⟩ : ∃ r, xs[i]? = some r := ⟨xs[i], by simp [hlt]⟩
  have hix := fun h => nm_ix hr h
  have hst := wrd_snoc hr
  have hsm := hn n (List.mem_of_getElem? hr)
  have hb := smN_i64 hsm
  have hil2 := itoa_len hsm
  have hw1 := wrap_i64 (z := (i : Int) + 1) (by omega) (by omega)
  have a1 := s_add (P := Tryz.prog) 9 (a := [32]) (b := itoa n) (by simp; omega)
  have a2 := s_add (P := Tryz.prog) 9 (a := w ++ wrdB (xs.take i)) (b := 32 :: itoa n) (by simp; omega)
  simp only [FS, ↓RE, okR, argEnv, Nat.reduceAdd, Nat.reduceSub, Nat.reduceLT, Nat.reduceLeDiff, Nat.reduceEqDiff, reduceIte, RT, RM, RG, hc, decide_true]
  refine awg_peelT (T := []) oNone_ok rfl ?_
  simp only [FS, ↓RE, okR, argEnv, Nat.reduceAdd, Nat.reduceSub, Nat.reduceLT, Nat.reduceLeDiff, Nat.reduceEqDiff, reduceIte, RT, RM, RG]
  refine awg_seq ?_
  refine awg_block ?_
  refine awg_peelT (T := []) oNone_ok rfl ?_
  simp only [FS, ↓RE, okR, argEnv, Nat.reduceAdd, Nat.reduceSub, Nat.reduceLT, Nat.reduceLeDiff, Nat.reduceEqDiff, reduceIte, RT, RM, RG, hix]
  refine awg_cutD oNone_ok 2 rfl rfl rfl ?_
  simp only [FS, ↓RE, okR, argEnv, Nat.reduceAdd, Nat.reduceSub, Nat.reduceLT, Nat.reduceLeDiff, Nat.reduceEqDiff, reduceIte, RT, RM, RG, List.take_succ_cons, List.take_zero]
  refine ⟨_, _, rfl, (pcallg_data (A := fun r => r = stD (itoa n)) (R := fun _ => False) (itoa_g hT n (by omega) (by omega)) rfl fun r hr => by subst hr; rfl).mono ?_ fun _ _ _ h => h.1.elim⟩
  rintro r h nid ⟨rfl, rfl, rfl⟩
  simp only [FS, ↓RE, okR, argEnv, Nat.reduceAdd, Nat.reduceSub, Nat.reduceLT, Nat.reduceLeDiff, Nat.reduceEqDiff, reduceIte, RT, RM, RG, List.drop_succ_cons, List.drop_zero, show (⟨#[32]⟩ : ByteArray) = bS [32] from rfl, a1, a2]
  refine awg_restT (T := []) oNone_ok rfl ?_
  simp only [FS, ↓RE, okR, argEnv, Nat.reduceAdd, Nat.reduceSub, Nat.reduceLT, Nat.reduceLeDiff, Nat.reduceEqDiff, reduceIte, RT, RM, RG, hw1]
  exact ⟨i + 1, by omega, by omega, imp_head (by rw [hst]; simp [headW, heapW, envW, blkLt, D.ltL, D.lt, look, hget])⟩
 have hc := natF hge
 have : i = xs.length := by omega
 subst this
 rw [List.take_length]
 simp only [FS, ↓RE, okR, argEnv, Nat.reduceAdd, Nat.reduceSub, Nat.reduceLT, Nat.reduceLeDiff, Nat.reduceEqDiff, reduceIte, RT, RM, RG, hc, decide_false]
 refine awg_peelT (T := []) oNone_ok rfl ?_
 simp only [FS, ↓RE, okR, argEnv, Nat.reduceAdd, Nat.reduceSub, Nat.reduceLT, Nat.reduceLeDiff, Nat.reduceEqDiff, reduceIte, RT, RM, RG]
 have pc := check_t (w ++ wrdB xs) (by simp; omega)
 have a1 := s_add (P := Tryz.prog) 9 (a := w ++ wrdB xs) (b := [32, 61]) (by simp; omega)
 have a2 := s_add (P := Tryz.prog) 9 (a := w ++ wrdB xs ++ [32, 61]) (b := chkB (w ++ wrdB xs)) (by simp [chk_len]; omega)
 have a3 := s_add (P := Tryz.prog) 9 (a := w ++ wrdB xs ++ [32, 61] ++ chkB (w ++ wrdB xs)) (b := [10]) (by simp [chk_len]; omega)
 refine awg_peelT (T := []) oNone_ok rfl ?_
 simp only [FS, ↓RE, okR, argEnv, Nat.reduceAdd, Nat.reduceSub, Nat.reduceLT, Nat.reduceLeDiff, Nat.reduceEqDiff, reduceIte, RT, RM, RG, show (⟨#[32, 61]⟩ : ByteArray) = bS [32, 61] from rfl, a1]
 refine call_of_pure pc rfl ?_
 simp only [FS, ↓RE, okR, argEnv, Nat.reduceAdd, Nat.reduceSub, Nat.reduceLT, Nat.reduceLeDiff, Nat.reduceEqDiff, reduceIte, RT, RM, RG, show (⟨#[10]⟩ : ByteArray) = bS [10] from rfl, a2, a3]
 refine awg_restT (T := []) oNone_ok rfl ?_
 simp only [FS, ↓RE, okR, argEnv, Nat.reduceAdd, Nat.reduceSub, Nat.reduceLT, Nat.reduceLeDiff, Nat.reduceEqDiff, reduceIte, RT, RM, RG]
 simp [linB, bdyB]
end Go.Sx
