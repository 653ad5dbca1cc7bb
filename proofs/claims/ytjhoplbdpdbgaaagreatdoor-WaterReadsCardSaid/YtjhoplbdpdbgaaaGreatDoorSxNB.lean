/- Own work: a calculus of contracts for the programs of this kit: parts SxN4z, SxN5z, SxN3z, SxN6z, SxN7z, SxN8z, SxN19z. -/
import Derived.Test.YtjhoplbdpdbgaaaGreatDoorSxC2z
import Derived.Test.YtjhoplbdpdbgaaaGreatDoorSxMn
import Derived.Test.YtjhoplbdpdbgaaaGreatDoorSxCb
import Derived.Test.YtjhoplbdpdbgaaaGreatDoorSxNA
set_option linter.unusedVariables false
set_option linter.unusedSimpArgs false
namespace Go.Sx
open Go.Proofs Go.Lib
set_option maxRecDepth 10000

theorem sumB_take {l : Bs} {i : Nat} {b : UInt8} (h : l[i]? = some b) : sumB (l.take (i + 1)) = sumB (l.take i) + b.toNat := by
 rw [List.take_add_one, h, Option.toList_some, sumB_app]; simp [sumB]
theorem sumB_le : ∀ l : Bs, sumB l ≤ 255 * l.length
 | [] => by simp [sumB]
 | b :: r => by
  have := sumB_le r
  have hb := b.toNat_lt
  simp only [sumB, List.map_cons, List.sum_cons, List.length_cons] at this ⊢; omega
theorem u8_wrap {z : Int} (h0 : 0 ≤ z) (h1 : z ≤ 255) : IntKind.u8.wrap z = z := by
 simp [IntKind.wrap, IntKind.bits, IntKind.signed]
 omega
theorem cv_bytes (h : H) (l : Bs) : cvD Tryz.prog h 9 98 (stD l) = some (.sl (l.map fun c => [.int .u8 c.toNat])) := by
 have e : cutD Tryz.prog 9 98 (stD l) = some (.sl (l.map fun c => [.int .u8 c.toNat])) := by
  unfold cutD
  rw [Fz.und_9, Fz.und_98]
  dsimp only
  rw [Fz.und_5]
  rfl
 unfold cvD
 rw [e]
theorem bytes_ix {l : Bs} {i : Nat} {b : UInt8} (hb : l[i]? = some b) (h : H) : indexAddrD Tryz.prog h 98 (.sl (l.map fun c => [.int .u8 c.toNat])) (.int .i64 (i : Int)) = some (.ref [.int .u8 b.toNat] 0) :=
 ix_sl Fz.und_98 Fz.size_5 (c := [.int .u8 (b.toNat : Int)]) (by simp [hb]) rfl h .i64
theorem chk_two (n : Nat) : ([48 + ((n % 100 / 10 : Nat) : Int), 48 + ((n % 10 : Nat) : Int)] : List Int).map (fun n => UInt8.ofNat n.toNat) = [UInt8.ofNat (48 + n % 100 / 10), UInt8.ofNat (48 + n % 10)] := by
 simp only [List.map_cons, List.map_nil]
 rw [show (48 + ((n % 100 / 10 : Nat) : Int)).toNat = 48 + n % 100 / 10 by omega, show (48 + ((n % 10 : Nat) : Int)).toNat = 48 + n % 10 by omega]
theorem lit_b2 (h : H) (a b : Int) : litD Tryz.prog h 98 2 [(0, .int .u8 a), (1, .int .u8 b)] = some (.sl [[.int .u8 a], [.int .u8 b]]) := by kernel_rfl
theorem check_t (l : Bs) (hl : l.length ≤ 1000000) : Pure Tryz.prog 135 [stD l] (stD (chkB l)) := by
 have hbl : (l.map (fun c => [D.int .u8 (c.toNat : Int)])).length = l.length := List.length_map ..
 have hsl := sumB_le l
 have cv := fun h => cv_bytes h l
 refine pure_of_pieces (rs := [.tmp 2]) (m := 31) [] oNone_ok (by kernel_rfl) Tryz.func135 rfl (by kernel_rfl) rfl rfl (by kernel_rfl) ?_
 refine awp_peel (T := []) oNone_ok (by kernel_rfl) (by kernel_rfl) ?_
 simp only [FS, ↓RE, okR, argEnv, Nat.reduceAdd, Nat.reduceSub, Nat.reduceLT, Nat.reduceLeDiff, Nat.reduceEqDiff, reduceIte, RT, RM]
 refine awp_peel (T := []) oNone_ok (by kernel_rfl) (by kernel_rfl) ?_
 simp only [FS, ↓RE, okR, argEnv, Nat.reduceAdd, Nat.reduceSub, Nat.reduceLT, Nat.reduceLeDiff, Nat.reduceEqDiff, reduceIte, RT, RM]
 refine awp_seq ?_
 refine awp_seq (awp_regionD oNone_ok ?_)
 simp only [FS, ↓RE, okR, argEnv, Nat.reduceAdd, Nat.reduceSub, Nat.reduceLT, Nat.reduceLeDiff, Nat.reduceEqDiff, reduceIte, RT, RM, cv, hbl]
 refine awp_rest (T := []) oNone_ok (by kernel_rfl) (by kernel_rfl) ?_
 simp only [FS, ↓RE, okR, argEnv, Nat.reduceAdd, Nat.reduceSub, Nat.reduceLT, Nat.reduceLeDiff, Nat.reduceEqDiff, reduceIte, RT, RM]
 refine loopV (ι := Nat) oNone_ok [] (fun i => [(3, .int .i64 (sumB (l.take i) : Nat)), (8, .sl (l.map fun c => [.int .u8 (c.toNat : Int)])), (9, .int .i64 (l.length : Int)), (10, .int .i64 (i : Int))]) (fun i => []) 0
  (fun i => i ≤ l.length) (fun i => l.length - i) 0 (by kernel_rfl) (by kernel_rfl) (Nat.zero_le _) ?_ ?_
 ·simp [headW, heapW, envW, blkLt, D.ltL, D.lt, look, hget, sumB]
 intro i hil
 rcases Nat.lt_or_ge i l.length with hlt | hge
 ·have hc := natT hlt
  obtain ⟨b, hr⟩ : ∃ r, l[i]? = some r := ⟨l[i], by simp [hlt]⟩
  have hix := fun h => bytes_ix hr h
  have hst := sumB_take hr
  have hsi := sumB_le (l.take i)
  have hti : (l.take i).length ≤ l.length := by simp; omega
  have hbt := b.toNat_lt
  have hw1 := wrap_i64 (z := (i : Int) + 1) (by omega) (by omega)
  have hw2 := wrap_i64 (z := (b.toNat : Int)) (by omega) (by omega)
  have hw3 := wrap_i64 (z := (sumB (l.take i) : Int) + (b.toNat : Int)) (by omega) (by omega)
  simp only [FS, ↓RE, okR, argEnv, Nat.reduceAdd, Nat.reduceSub, Nat.reduceLT, Nat.reduceLeDiff, Nat.reduceEqDiff, reduceIte, RT, RM, hc, decide_true, hix, hw1, hw2, hw3]
  exact ⟨i + 1, by omega, by omega, by rw [hst]; simp [headW, heapW, envW, blkLt, D.ltL, D.lt, look, hget]⟩
 have hc := natF hge
 have : i = l.length := by omega
 subst this
 rw [List.take_length]
 simp only [FS, ↓RE, okR, argEnv, Nat.reduceAdd, Nat.reduceSub, Nat.reduceLT, Nat.reduceLeDiff, Nat.reduceEqDiff, reduceIte, RT, RM, hc, decide_false]
 have z1 := a_rem' (k := .i64) (x := (sumB l : Int)) (y := 100) (by omega)
 have e1 : ((sumB l : Int)).tmod 100 = ((sumB l % 100 : Nat) : Int) := by rw [Int.tmod_eq_emod_of_nonneg (by omega)]; omega
 refine awp_peel (T := []) oNone_ok (by kernel_rfl) (by kernel_rfl) ?_
 simp only [FS, ↓RE, okR, argEnv, Nat.reduceAdd, Nat.reduceSub, Nat.reduceLT, Nat.reduceLeDiff, Nat.reduceEqDiff, reduceIte, RT, RM, z1, e1]
 have z2 := a_rem' (k := .i64) (x := ((sumB l % 100 : Nat) : Int)) (y := 10) (by omega)
 have e2 : (((sumB l % 100 : Nat) : Int)).tmod 10 = ((sumB l % 10 : Nat) : Int) := by rw [Int.tmod_eq_emod_of_nonneg (by omega)]; omega
 have z3 := a_quo' (k := .i64) (x := ((sumB l % 100 : Nat) : Int)) (y := 10) (by omega)
 have e3 : (((sumB l % 100 : Nat) : Int)).tdiv 10 = ((sumB l % 100 / 10 : Nat) : Int) := by rw [Int.tdiv_eq_ediv_of_nonneg (by omega)]; omega
 have w1 := wrap_i64 (z := ((sumB l % 100 / 10 : Nat) : Int)) (by omega) (by omega)
 have w2 := wrap_i64 (z := 48 + ((sumB l % 100 / 10 : Nat) : Int)) (by omega) (by omega)
 have w3 := wrap_i64 (z := 48 + ((sumB l % 10 : Nat) : Int)) (by omega) (by omega)
 have w4 := u8_wrap (z := 48 + ((sumB l % 100 / 10 : Nat) : Int)) (by omega) (by omega)
 have w5 := u8_wrap (z := 48 + ((sumB l % 10 : Nat) : Int)) (by omega) (by omega)
 have hli := lit_b2 [] (48 + ((sumB l % 100 / 10 : Nat) : Int)) (48 + ((sumB l % 10 : Nat) : Int))
 refine awp_seq (awp_cutD oNone_ok 9 rfl rfl ?_)
 simp only [FS, ↓RE, okR, argEnv, Nat.reduceAdd, Nat.reduceSub, Nat.reduceLT, Nat.reduceLeDiff, Nat.reduceEqDiff, reduceIte, RT, RM, z2, e2, z3, e3, w1, w2, w3, w4, w5, hli, List.take_succ_cons, List.take_zero]
 refine opOk_bstr (xs := [48 + ((sumB l % 100 / 10 : Nat) : Int), 48 + ((sumB l % 10 : Nat) : Int)]) rfl Fz.und_98 Fz.und_5 Fz.und_9 (by kernel_rfl) ?_
 rw [chk_two]
 simp only [FS, ↓RE, okR, argEnv, Nat.reduceAdd, Nat.reduceSub, Nat.reduceLT, Nat.reduceLeDiff, Nat.reduceEqDiff, reduceIte, RT, RM, List.drop_succ_cons, List.drop_zero]
 refine awp_rest (T := []) oNone_ok (by kernel_rfl) (by kernel_rfl) ?_
 simp only [FS, ↓RE, okR, argEnv, Nat.reduceAdd, Nat.reduceSub, Nat.reduceLT, Nat.reduceLeDiff, Nat.reduceEqDiff, reduceIte, RT, RM]
 rfl
end Go.Sx

namespace Go.Sx
open Go.Proofs Go.Lib
set_option maxRecDepth 10000

theorem rcheck_t (l : Bs) (hl : l.length ≤ 1000000) : Pure Tryz.prog 138 [stD l] (stD (chkB l)) := by
 have hsl := sumB_le l
 have hsz := s_len l
 refine pure_of_pieces (rs := [.tmp 2]) (m := 28) [] oNone_ok (by kernel_rfl) Tryz.func138 rfl (by kernel_rfl) rfl rfl (by kernel_rfl) ?_
 refine awp_peel (T := []) oNone_ok (by kernel_rfl) (by kernel_rfl) ?_
 simp only [FS, ↓RE, okR, argEnv, Nat.reduceAdd, Nat.reduceSub, Nat.reduceLT, Nat.reduceLeDiff, Nat.reduceEqDiff, reduceIte, RT, RM]
 refine awp_peel (T := []) oNone_ok (by kernel_rfl) (by kernel_rfl) ?_
 simp only [FS, ↓RE, okR, argEnv, Nat.reduceAdd, Nat.reduceSub, Nat.reduceLT, Nat.reduceLeDiff, Nat.reduceEqDiff, reduceIte, RT, RM]
 refine awp_peel (T := []) oNone_ok (by kernel_rfl) (by kernel_rfl) ?_
 simp only [FS, ↓RE, okR, argEnv, Nat.reduceAdd, Nat.reduceSub, Nat.reduceLT, Nat.reduceLeDiff, Nat.reduceEqDiff, reduceIte, RT, RM]
 refine loopV (ι := Nat) oNone_ok [] (fun i => [(0, stD l), (3, .int .i64 (sumB (l.take i) : Nat)), (4, .int .i64 (i : Int))]) (fun i => []) 0
  (fun i => i ≤ l.length) (fun i => l.length - i) 0 (by kernel_rfl) (by kernel_rfl) (Nat.zero_le _) ?_ ?_
 ·simp [headW, heapW, envW, blkLt, D.ltL, D.lt, look, hget, sumB]
 intro i hil
 rcases Nat.lt_or_ge i l.length with hlt | hge
 ·have hc := natT hlt
  obtain ⟨b, hr⟩ : ∃ r, l[i]? = some r := ⟨l[i], by simp [hlt]⟩
  have hix := s_ix (P := Tryz.prog) Fz.und_9 hr
  have hst := sumB_take hr
  have hsi := sumB_le (l.take i)
  have hti : (l.take i).length ≤ l.length := by simp; omega
  have hbt := b.toNat_lt
  have hw1 := wrap_i64 (z := (i : Int) + 1) (by omega) (by omega)
  have hw2 := wrap_i64 (z := (b.toNat : Int)) (by omega) (by omega)
  have hw3 := wrap_i64 (z := (sumB (l.take i) : Int) + (b.toNat : Int)) (by omega) (by omega)
  simp only [FS, ↓RE, okR, argEnv, Nat.reduceAdd, Nat.reduceSub, Nat.reduceLT, Nat.reduceLeDiff, Nat.reduceEqDiff, reduceIte, RT, RM, hsz, hc, decide_true, hix, hw1, hw2, hw3]
  exact ⟨i + 1, by omega, by omega, by rw [hst]; simp [headW, heapW, envW, blkLt, D.ltL, D.lt, look, hget]⟩
 have hc := natF hge
 have : i = l.length := by omega
 subst this
 rw [List.take_length]
 simp only [FS, ↓RE, okR, argEnv, Nat.reduceAdd, Nat.reduceSub, Nat.reduceLT, Nat.reduceLeDiff, Nat.reduceEqDiff, reduceIte, RT, RM, hsz, hc, decide_false]
 have z1 := a_quo' (k := .i64) (x := (sumB l : Int)) (y := 10) (by omega)
 have e1 : ((sumB l : Int)).tdiv 10 = ((sumB l / 10 : Nat) : Int) := by rw [Int.tdiv_eq_ediv_of_nonneg (by omega)]; omega
 have z2 := a_rem' (k := .i64) (x := ((sumB l / 10 : Nat) : Int)) (y := 10) (by omega)
 have e2 : (((sumB l / 10 : Nat) : Int)).tmod 10 = ((sumB l % 100 / 10 : Nat) : Int) := by rw [Int.tmod_eq_emod_of_nonneg (by omega)]; omega
 have z3 := a_rem' (k := .i64) (x := (sumB l : Int)) (y := 10) (by omega)
 have e3 : ((sumB l : Int)).tmod 10 = ((sumB l % 10 : Nat) : Int) := by rw [Int.tmod_eq_emod_of_nonneg (by omega)]; omega
 have w1 := wrap_i64 (z := ((sumB l / 10 : Nat) : Int)) (by omega) (by omega)
 have w2 := wrap_i64 (z := 48 + ((sumB l % 100 / 10 : Nat) : Int)) (by omega) (by omega)
 have w3 := wrap_i64 (z := 48 + ((sumB l % 10 : Nat) : Int)) (by omega) (by omega)
 have w4 := u8_wrap (z := 48 + ((sumB l % 100 / 10 : Nat) : Int)) (by omega) (by omega)
 have w5 := u8_wrap (z := 48 + ((sumB l % 10 : Nat) : Int)) (by omega) (by omega)
 have hli := lit_b2 [] (48 + ((sumB l % 100 / 10 : Nat) : Int)) (48 + ((sumB l % 10 : Nat) : Int))
 refine awp_seq (awp_cutD oNone_ok 10 rfl rfl ?_)
 simp only [FS, ↓RE, okR, argEnv, Nat.reduceAdd, Nat.reduceSub, Nat.reduceLT, Nat.reduceLeDiff, Nat.reduceEqDiff, reduceIte, RT, RM, z1, e1, z2, e2, z3, e3, w1, w2, w3, w4, w5, hli, List.take_succ_cons, List.take_zero]
 refine opOk_bstr (xs := [48 + ((sumB l % 100 / 10 : Nat) : Int), 48 + ((sumB l % 10 : Nat) : Int)]) rfl Fz.und_98 Fz.und_5 Fz.und_9 (by kernel_rfl) ?_
 rw [chk_two]
 simp only [FS, ↓RE, okR, argEnv, Nat.reduceAdd, Nat.reduceSub, Nat.reduceLT, Nat.reduceLeDiff, Nat.reduceEqDiff, reduceIte, RT, RM, List.drop_succ_cons, List.drop_zero]
 refine awp_rest (T := []) oNone_ok (by kernel_rfl) (by kernel_rfl) ?_
 simp only [FS, ↓RE, okR, argEnv, Nat.reduceAdd, Nat.reduceSub, Nat.reduceLT, Nat.reduceLeDiff, Nat.reduceEqDiff, reduceIte, RT, RM]
 rfl
end Go.Sx

namespace Go.Sx
open Go.Lib

def bRead : Bs := [114, 101, 97, 100]
def bEnd : Bs := [101, 110, 100]
def namesB : List Bs := [[116, 105, 100, 101], [101, 97, 115, 116], [110, 111, 114, 116, 104], [119, 97, 118, 101], [115, 119, 101, 108, 108]]
def Wx.gs (w : Wx) : List Ga := [w.tide, w.east, w.north, w.wave, w.swell]
def wxOf : List Ga → Wx
 | [a, b, c, d, e] => ⟨a, b, c, d, e⟩
 | _ => ⟨⟨0, 0, 0, []⟩, ⟨0, 0, 0, []⟩, ⟨0, 0, 0, []⟩, ⟨0, 0, 0, []⟩, ⟨0, 0, 0, []⟩⟩
def rdLine (r : Rd) : Bs := linB bRead [r.minute, r.lo, r.hi, r.src]
def gaLines (name : Bs) (g : Ga) : List Bs := linB name [g.rate, g.least, g.most] :: g.rs.map rdLine
def gasLines : List Bs → List Ga → List Bs
 | n :: ns, g :: gs => gaLines n g ++ gasLines ns gs
 | _, _ => []
def manyB (gs : List Ga) : Nat := (gs.map fun g => g.rs.length).sum
def fileLines (gs : List Ga) : List Bs := gasLines namesB gs ++ [linB bEnd [(manyB gs : Int)]]
def flatB (ls : List Bs) : Bs := ls.flatMap fun s => s ++ [10]
def printB (gs : List Ga) : Bs := flatB (fileLines gs)
def smN (n : Int) : Prop := n.natAbs < 10 ^ 10
def smR (r : Rd) : Prop := smN r.minute ∧ smN r.lo ∧ smN r.hi ∧ smN r.src
def smG (g : Ga) : Prop := smN g.rate ∧ smN g.least ∧ smN g.most ∧ ∀ r ∈ g.rs, smR r
def rdsB : List Bs → Option (List Rd × List Bs)
 | [] => some ([], [])
 | s :: r => if isB s bRead = true then (match takB s bRead 4 with
   | some [a, b, c, d] => (rdsB r).map fun p => (⟨a, b, c, d⟩ :: p.1, p.2)
   | _ => none) else some ([], s :: r)
def gaB (name : Bs) : List Bs → Option (Ga × List Bs)
 | [] => none
 | s :: r => match takB s name 3 with
  | some [a, b, c] => (rdsB r).map fun p => (⟨a, b, c, p.1⟩, p.2)
  | _ => none
def gasB : List Bs → List Bs → Option (List Ga × List Bs)
 | [], ls => some ([], ls)
 | n :: ns, ls => match gaB n ls with
  | none => none
  | some (g, r) => (gasB ns r).map fun p => (g :: p.1, p.2)
def linesB (t : Bs) : Option (List Bs) := if t.getLast? = some 10 then some (spl 10 t.dropLast) else none
def endB (gs : List Ga) : List Bs → Bool
 | [s] => decide (takB s bEnd 1 = some [(manyB gs : Int)])
 | _ => false
def readB (t : Bs) : Option (List Ga) := match linesB t with
 | none => none
 | some ls => match gasB namesB ls with
  | none => none
  | some (gs, r) => if endB gs r = true then some gs else none
theorem bRead_32 : (32 : UInt8) ∉ bRead := by decide
theorem bEnd_32 : (32 : UInt8) ∉ bEnd := by decide
theorem names_32 : ∀ n ∈ namesB, (32 : UInt8) ∉ n ∧ n ≠ bRead ∧ (10 : UInt8) ∉ n := by decide
theorem take4 {s : Bs} {a b c d : Int} : takB s bRead 4 = some [a, b, c, d] ↔ s = rdLine ⟨a, b, c, d⟩ ∧ smR ⟨a, b, c, d⟩ := by
 rw [tak_iff bRead_32]
 constructor
 ·rintro ⟨h1, _, h3⟩
  exact ⟨h1, h3 a (by simp), h3 b (by simp), h3 c (by simp), h3 d (by simp)⟩
 ·rintro ⟨h1, h2, h3, h4, h5⟩
  refine ⟨h1, rfl, fun n hn => ?_⟩
  simp only [List.mem_cons, List.not_mem_nil, or_false] at hn
  rcases hn with rfl | rfl | rfl | rfl <;> assumption
theorem take3 {s name : Bs} (hw : 32 ∉ name) {a b c : Int} : takB s name 3 = some [a, b, c] ↔ s = linB name [a, b, c] ∧ smN a ∧ smN b ∧ smN c := by
 rw [tak_iff hw]
 constructor
 ·rintro ⟨h1, _, h3⟩
  exact ⟨h1, h3 a (by simp), h3 b (by simp), h3 c (by simp)⟩
 ·rintro ⟨h1, h2, h3, h4⟩
  refine ⟨h1, rfl, fun n hn => ?_⟩
  simp only [List.mem_cons, List.not_mem_nil, or_false] at hn
  rcases hn with rfl | rfl | rfl <;> assumption
theorem take_len {s w : Bs} {k : Nat} {xs : List Int} (hw : 32 ∉ w) (h : takB s w k = some xs) : xs.length = k := ((tak_iff hw).1 h).2.1
def noRd (ls : List Bs) : Prop := ∀ s, ls.head? = some s → isB s bRead = false
theorem rds_iff : ∀ (ls : List Bs) (rs : List Rd) (r : List Bs), rdsB ls = some (rs, r) ↔ ls = rs.map rdLine ++ r ∧ (∀ x ∈ rs, smR x) ∧ noRd r
 | [], rs, r => by
  simp only [rdsB, Option.some.injEq, Prod.mk.injEq]
  constructor
  ·rintro ⟨rfl, rfl⟩; exact ⟨rfl, by simp, fun s h => by cases h⟩
  ·rintro ⟨h, _, _⟩
   have := h.symm
   rw [List.append_eq_nil_iff, List.map_eq_nil_iff] at this
   exact ⟨this.1.symm, this.2.symm⟩
 | s :: t, rs, r => by
  unfold rdsB
  constructor
  ·intro h
   split at h
   ·rename_i hi
    split at h
    ·rename_i a b c d ht
     obtain ⟨h1, h2⟩ := take4.1 ht
     cases hr : rdsB t with
     | none => rw [hr] at h; cases h
     | some p =>
      obtain ⟨ys, r'⟩ := p
      rw [hr] at h
      simp only [Option.map_some, Option.some.injEq, Prod.mk.injEq] at h
      obtain ⟨rfl, rfl⟩ := h
      obtain ⟨g1, g2, g3⟩ := (rds_iff t ys r').1 hr
      exact ⟨by rw [h1, g1]; rfl, fun x hx => by rcases List.mem_cons.1 hx with rfl | hx; exact h2; exact g2 x hx, g3⟩
    ·cases h
   ·rename_i hi
    simp only [Option.some.injEq, Prod.mk.injEq] at h
    obtain ⟨rfl, rfl⟩ := h
    exact ⟨rfl, by simp, fun x hx => by simp at hx; subst hx; simpa using hi⟩
  ·rintro ⟨h1, h2, h3⟩
   cases rs with
   | nil =>
    simp only [List.map_nil, List.nil_append] at h1
    subst h1
    rw [if_neg (by rw [h3 s rfl]; simp)]
   | cons x ys =>
    simp only [List.map_cons, List.cons_append, List.cons.injEq] at h1
    obtain ⟨rfl, h1⟩ := h1
    have ht : takB (rdLine x) bRead 4 = some [x.minute, x.lo, x.hi, x.src] := take4.2 ⟨rfl, h2 x (by simp)⟩
    rw [if_pos (tak_is bRead_32 ht), ht, (rds_iff t ys r).2 ⟨h1, fun y hy => h2 y (by simp [hy]), h3⟩]
    rfl
theorem gaB_cons (name s : Bs) (r : List Bs) : gaB name (s :: r) = match takB s name 3 with
  | some [a, b, c] => (rdsB r).map fun p => (⟨a, b, c, p.1⟩, p.2)
  | _ => none := rfl
theorem ga_iff {name : Bs} (hn : 32 ∉ name) (ls : List Bs) (g : Ga) (r : List Bs) : gaB name ls = some (g, r) ↔ ls = gaLines name g ++ r ∧ smG g ∧ noRd r := by
 cases ls with
 | nil =>
  simp only [gaB, reduceCtorEq, false_iff]
  rintro ⟨h, _, _⟩
  simp [gaLines] at h
 | cons s t =>
  rw [gaB_cons]
  constructor
  ·intro h
   split at h
   ·rename_i a b c ht
    obtain ⟨h1, h2⟩ := (take3 hn).1 ht
    cases hr : rdsB t with
    | none => rw [hr] at h; cases h
    | some p =>
     obtain ⟨ys, r'⟩ := p
     rw [hr] at h
     simp only [Option.map_some, Option.some.injEq, Prod.mk.injEq] at h
     obtain ⟨rfl, rfl⟩ := h
     obtain ⟨g1, g2, g3⟩ := (rds_iff t ys r').1 hr
     exact ⟨by rw [h1, g1]; rfl, ⟨h2.1, h2.2.1, h2.2.2, g2⟩, g3⟩
   ·cases h
  ·rintro ⟨h1, ⟨h2, h3, h4, h5⟩, h6⟩
   simp only [gaLines, List.cons_append, List.cons.injEq] at h1
   obtain ⟨rfl, h1⟩ := h1
   rw [(take3 hn).2 ⟨rfl, h2, h3, h4⟩]
   dsimp only
   rw [(rds_iff t g.rs r).2 ⟨h1, h5, h6⟩]
   rfl
theorem noRd_name {name : Bs} (h32 : 32 ∉ name) (hne : name ≠ bRead) (g : Ga) (ls : List Bs) : noRd (gaLines name g ++ ls) := fun s hs => by
 simp only [gaLines, List.cons_append, List.head?_cons, Option.some.injEq] at hs
 subst hs
 cases h : isB (linB name [g.rate, g.least, g.most]) bRead
 ·rfl
 ·have h1 := (is_first (b := bdyB name [g.rate, g.least, g.most]) ((body_iff _ _).2 rfl) bRead_32).1 h
  rw [spl_words _ _ h32] at h1
  simp at h1
  exact absurd h1 hne
theorem gas_to : ∀ (ns : List Bs) (ls : List Bs) (gs : List Ga) (r : List Bs), (∀ n ∈ ns, (32 : UInt8) ∉ n ∧ n ≠ bRead ∧ (10 : UInt8) ∉ n) → gasB ns ls = some (gs, r) → gs.length = ns.length ∧ ls = gasLines ns gs ++ r ∧ ∀ g ∈ gs, smG g
 | [], ls, gs, r, _, h => by
  simp only [gasB, Option.some.injEq, Prod.mk.injEq] at h
  obtain ⟨rfl, rfl⟩ := h
  exact ⟨rfl, rfl, by simp⟩
 | n :: ns, ls, gs, r, hn, h => by
  unfold gasB at h
  cases h1 : gaB n ls with
  | none => rw [h1] at h; cases h
  | some p =>
   obtain ⟨g, r1⟩ := p
   rw [h1] at h
   dsimp only at h
   cases h2 : gasB ns r1 with
   | none => rw [h2] at h; cases h
   | some q =>
    obtain ⟨gs', r'⟩ := q
    rw [h2] at h
    simp only [Option.map_some, Option.some.injEq, Prod.mk.injEq] at h
    obtain ⟨rfl, rfl⟩ := h
    obtain ⟨g1, g2, _⟩ := (ga_iff (hn n (by simp)).1 ls g r1).1 h1
    obtain ⟨k1, k2, k3⟩ := gas_to ns r1 gs' r' (fun m hm => hn m (by simp [hm])) h2
    refine ⟨by simp [k1], ?_, fun x hx => by rcases List.mem_cons.1 hx with rfl | hx; exact g2; exact k3 x hx⟩
    rw [g1, k2]; simp [gasLines]
theorem gas_of : ∀ (ns : List Bs) (gs : List Ga) (r : List Bs), (∀ n ∈ ns, (32 : UInt8) ∉ n ∧ n ≠ bRead ∧ (10 : UInt8) ∉ n) → gs.length = ns.length → (∀ g ∈ gs, smG g) → noRd r → gasB ns (gasLines ns gs ++ r) = some (gs, r)
 | [], gs, r, _, hl, _, _ => by
  obtain rfl : gs = [] := List.length_eq_zero_iff.1 hl
  rfl
 | n :: ns, [], r, _, hl, _, _ => by simp at hl
 | n :: ns, g :: gs, r, hn, hl, hs, hr => by
  have hno : noRd (gasLines ns gs ++ r) := by
   cases ns with
   | nil =>
    simp at hl; subst hl; exact hr
   | cons m ms =>
    cases gs with
    | nil => simp at hl
    | cons a xs =>
     have := hn m (by simp)
     simp only [gasLines, List.append_assoc]
     exact noRd_name this.1 this.2.1 a _
  unfold gasB
  rw [show gasLines (n :: ns) (g :: gs) ++ r = gaLines n g ++ (gasLines ns gs ++ r) by simp [gasLines], (ga_iff (hn n (by simp)).1 _ g (gasLines ns gs ++ r)).2 ⟨rfl, hs g (by simp), hno⟩]
  dsimp only
  rw [gas_of ns gs r (fun m hm => hn m (by simp [hm])) (by simpa using hl) (fun x hx => hs x (by simp [hx])) hr]
  rfl
theorem flat_join : ∀ {ls : List Bs}, ls ≠ [] → flatB ls = joinC 10 ls ++ [10]
 | [], h => absurd rfl h
 | [s], _ => by simp [flatB, joinC]
 | s :: a :: r, _ => by
  have ih := flat_join (ls := a :: r) (by simp)
  rw [joinC_cons 10 s (by simp)]
  simp only [flatB, List.flatMap_cons] at ih ⊢
  rw [ih]; simp
theorem spl_joinC : ∀ {ls : List Bs}, ls ≠ [] → (∀ s ∈ ls, (10 : UInt8) ∉ s) → spl 10 (joinC 10 ls) = ls
 | [], h, _ => absurd rfl h
 | [s], _, hs => spl_one (hs s (by simp))
 | s :: a :: r, _, hs => by
  rw [joinC_cons 10 s (by simp), spl_app (hs s (by simp)), spl_joinC (by simp) fun x hx => hs x (by simp [hx])]
theorem lines_iff (t : Bs) (ls : List Bs) : linesB t = some ls ↔ t = flatB ls ∧ ls ≠ [] ∧ ∀ s ∈ ls, (10 : UInt8) ∉ s := by
 unfold linesB
 constructor
 ·intro h
  split at h
  ·rename_i hc
   obtain rfl := Option.some.inj h
   have hne := spl_ne 10 t.dropLast
   refine ⟨?_, hne, fun s hs => spl_mem hs⟩
   rw [flat_join hne, spl_join]
   have ht : t ≠ [] := fun e => by subst e; cases hc
   have := List.dropLast_concat_getLast ht
   rw [List.getLast?_eq_some_getLast ht, Option.some.injEq] at hc
   rw [hc] at this
   exact this.symm
  ·cases h
 ·rintro ⟨rfl, hne, hs⟩
  rw [flat_join hne, if_pos (by simp), List.dropLast_concat, spl_joinC hne hs]
theorem dig_10 {l : Bs} (h : l.all digB = true) : (10 : UInt8) ∉ l := fun hm => by
 have := List.all_eq_true.1 h 10 hm
 cases this
theorem chk_dig (b : Bs) : (chkB b).all digB = true := by simp only [chkB, List.all_cons, List.all_nil, dig_of (by omega : sumB b % 100 / 10 < 10), dig_of (by omega : sumB b % 10 < 10), Bool.and_true]
theorem wrd_10 (xs : List Int) : (10 : UInt8) ∉ wrdB xs := by
 unfold wrdB
 rw [List.mem_flatMap]
 rintro ⟨n, _, h⟩
 rcases List.mem_cons.1 h with h | h
 ·cases h
 ·exact itoa_ne n 10 rfl (by decide) h
theorem lin_10 {w : Bs} (hw : (10 : UInt8) ∉ w) (xs : List Int) : (10 : UInt8) ∉ linB w xs := by
 unfold linB bdyB
 simp only [List.mem_append, List.mem_cons, not_or]
 exact ⟨⟨hw, wrd_10 xs⟩, by decide, by decide, dig_10 (chk_dig _)⟩
theorem gas_10 : ∀ (ns : List Bs) (gs : List Ga), (∀ n ∈ ns, (32 : UInt8) ∉ n ∧ n ≠ bRead ∧ (10 : UInt8) ∉ n) → ∀ s ∈ gasLines ns gs, (10 : UInt8) ∉ s
 | [], _, _, s, h => by simp [gasLines] at h
 | n :: ns, [], _, s, h => by simp [gasLines] at h
 | n :: ns, g :: gs, hn, s, h => by
  simp only [gasLines, gaLines, List.cons_append, List.mem_cons, List.mem_append, List.mem_map] at h
  rcases h with rfl | ⟨r, _, rfl⟩ | h
  ·exact lin_10 (hn n (by simp)).2.2 _
  ·exact lin_10 (by decide) _
  ·exact gas_10 ns gs (fun m hm => hn m (by simp [hm])) s h
theorem file_10 (gs : List Ga) : ∀ s ∈ fileLines gs, (10 : UInt8) ∉ s := fun s h => by
 simp only [fileLines, List.mem_append, List.mem_singleton] at h
 rcases h with h | rfl
 ·exact gas_10 _ _ names_32 s h
 ·exact lin_10 (by decide) _
theorem noRd_end (n : Int) : noRd [linB bEnd [n]] := fun s hs => by
 simp at hs; subst hs
 cases h : isB (linB bEnd [n]) bRead
 ·rfl
 ·have h1 := (is_first (b := bdyB bEnd [n]) ((body_iff _ _).2 rfl) bRead_32).1 h
  rw [spl_words _ _ bEnd_32] at h1
  simp [bEnd, bRead] at h1
theorem end_iff (gs : List Ga) (r : List Bs) : endB gs r = true ↔ r = [linB bEnd [(manyB gs : Int)]] ∧ smN (manyB gs : Int) := by
 constructor
 ·intro h
  match r, h with
  | [s], h =>
   simp only [endB, decide_eq_true_eq] at h
   obtain ⟨rfl, _, h3⟩ := (tak_iff bEnd_32).1 h
   exact ⟨rfl, h3 _ (by simp)⟩
 ·rintro ⟨rfl, h⟩
  simp only [endB, decide_eq_true_eq]
  exact (tak_iff bEnd_32).2 ⟨rfl, rfl, fun n hn => by simp at hn; subst hn; exact h⟩
theorem read_iff (t : Bs) (gs : List Ga) : readB t = some gs ↔ t = printB gs ∧ gs.length = 5 ∧ (∀ g ∈ gs, smG g) ∧ smN (manyB gs : Int) := by
 unfold readB
 constructor
 ·intro h
  cases h1 : linesB t with
  | none => rw [h1] at h; cases h
  | some ls =>
   rw [h1] at h
   dsimp only at h
   cases h2 : gasB namesB ls with
   | none => rw [h2] at h; cases h
   | some p =>
    obtain ⟨gs', r⟩ := p
    rw [h2] at h
    dsimp only at h
    split at h
    ·rename_i he
     obtain rfl := Option.some.inj h
     obtain ⟨rfl, h3⟩ := (end_iff _ _).1 he
     obtain ⟨k1, k2, k3⟩ := gas_to _ _ _ _ names_32 h2
     refine ⟨?_, k1, k3, h3⟩
     rw [((lines_iff t ls).1 h1).1, k2]; rfl
    ·cases h
 ·rintro ⟨rfl, h1, h2, h3⟩
  have hl : linesB (printB gs) = some (fileLines gs) := (lines_iff _ _).2 ⟨rfl, by simp [fileLines], file_10 gs⟩
  rw [hl]
  dsimp only
  rw [show fileLines gs = gasLines namesB gs ++ [linB bEnd [(manyB gs : Int)]] from rfl, gas_of namesB gs _ names_32 h1 h2 (noRd_end _)]
  dsimp only
  rw [if_pos ((end_iff _ _).2 ⟨rfl, h3⟩)]

end Go.Sx

namespace Go.Sx
open Go.Proofs Go.Lib
set_option maxRecDepth 10000

abbrev nmD (xs : List Int) : D := .sl (xs.map enI.d)
structure LnOk (w : Bs) (xs : List Int) : Prop where
 w : w.length ≤ 100
 l : xs.length ≤ 10
 n : ∀ n ∈ xs, smN n
theorem itoa_len {n : Int} (h : smN n) : (itoa n).length ≤ 11 := by
 have h1 := dec_len 9 n.natAbs h
 have h2 : n.toNat < 10 ^ 10 := by have h : n.natAbs < 10 ^ 10 := h; omega
 have h3 := dec_len 9 n.toNat h2
 unfold itoa
 split
 ·simp; omega
 ·omega
theorem wrd_len : ∀ {xs : List Int}, (∀ n ∈ xs, smN n) → (wrdB xs).length ≤ 12 * xs.length
 | [], _ => by simp [wrdB]
 | n :: xs, h => by
  have h1 := itoa_len (h n (by simp))
  have h2 := wrd_len (xs := xs) fun m hm => h m (by simp [hm])
  simp only [wrdB, List.flatMap_cons, List.length_append, List.length_cons] at h2 ⊢
  omega
theorem wrd_snoc {xs : List Int} {i : Nat} {n : Int} (h : xs[i]? = some n) : wrdB (xs.take (i + 1)) = wrdB (xs.take i) ++ 32 :: itoa n := by
 rw [List.take_add_one, h, Option.toList_some]; simp [wrdB]
theorem lin_len {w : Bs} {xs : List Int} (h : LnOk w xs) : (linB w xs).length ≤ w.length + 12 * xs.length + 4 := by
 have := wrd_len h.n
 simp only [linB, bdyB, List.length_append, List.length_cons, chk_len]
 omega
theorem nm_ix {xs : List Int} {i : Nat} {n : Int} (hb : xs[i]? = some n) (h : H) : indexAddrD Tryz.prog h 62 (nmD xs) (.int .i64 (i : Int)) = some (.ref [.int .i64 n] 0) :=
 En.ix (P := Tryz.prog) Fz.und_62 Fz.size_3 (E := enI) (En.sl_map (E := enI) xs) hb h .i64
theorem smN_i64 {n : Int} (h : smN n) : -9223372036854775807 ≤ n ∧ n ≤ 9223372036854775807 := by
 have h : n.natAbs < 10 ^ 10 := h
 omega
end Go.Sx

namespace Go.Sx
open Go.Proofs Go.Lib
set_option maxRecDepth 10000

structure GsOk (gs : List Ga) : Prop where
 l : gs.length = 5
 g : ∀ g ∈ gs, smG g ∧ g.rs.length ≤ 30
def prB (gs : List Ga) (i : Nat) : Bs := flatB (gasLines (namesB.take i) (gs.take i))
theorem gas_take : ∀ (ns : List Bs) (gs : List Ga) (i : Nat) (n : Bs) (g : Ga), ns[i]? = some n → gs[i]? = some g → gasLines (ns.take (i + 1)) (gs.take (i + 1)) = gasLines (ns.take i) (gs.take i) ++ gaLines n g
 | [], _, _, _, _, h, _ => by simp at h
 | _ :: _, [], _, _, _, _, h => by simp at h
 | m :: ns, a :: gs, 0, n, g, h1, h2 => by
  simp at h1 h2; subst h1 h2
  simp [gasLines]
 | m :: ns, a :: gs, i + 1, n, g, h1, h2 => by
  have := gas_take ns gs i n g (by simpa using h1) (by simpa using h2)
  simp only [List.take_succ_cons, gasLines] at this ⊢
  rw [this]; simp
theorem flat_app (a b : List Bs) : flatB (a ++ b) = flatB a ++ flatB b := by simp [flatB]
theorem flat_one (a : Bs) : flatB [a] = a ++ [10] := by simp [flatB]
theorem flat_cons (a : Bs) (b : List Bs) : flatB (a :: b) = a ++ [10] ++ flatB b := by simp [flatB]
theorem flat_len {k : Nat} : ∀ {ls : List Bs}, (∀ s ∈ ls, s.length ≤ k) → (flatB ls).length ≤ (k + 1) * ls.length
 | [], _ => by simp [flatB]
 | s :: r, h => by
  have h1 := h s (by simp)
  have h2 := flat_len (ls := r) fun x hx => h x (by simp [hx])
  rw [flat_cons]
  simp only [List.length_append, List.length_cons, List.length_nil, Nat.mul_add]
  omega
theorem rd_ok {r : Rd} (h : smR r) : LnOk bRead [r.minute, r.lo, r.hi, r.src] := ⟨by decide, by simp, fun n hn => by
 simp only [List.mem_cons, List.not_mem_nil, or_false] at hn
 obtain ⟨h1, h2, h3, h4⟩ := h
 rcases hn with rfl | rfl | rfl | rfl <;> assumption⟩
theorem ga_ok {n : Bs} {g : Ga} (hn : n.length ≤ 5) (h : smG g) : LnOk n [g.rate, g.least, g.most] := ⟨by omega, by simp, fun m hm => by
 simp only [List.mem_cons, List.not_mem_nil, or_false] at hm
 rcases hm with rfl | rfl | rfl
 ·exact h.1
 ·exact h.2.1
 ·exact h.2.2.1⟩
theorem gaLines_len {n : Bs} {g : Ga} (hn : n.length ≤ 5) (h : smG g) : ∀ s ∈ gaLines n g, s.length ≤ 60 := fun s hs => by
 simp only [gaLines, List.mem_cons, List.mem_map] at hs
 rcases hs with rfl | ⟨r, hr, rfl⟩
 ·have := lin_len (ga_ok hn h)
  simp at this; omega
 ·have := lin_len (rd_ok (h.2.2.2 r hr))
  simp [bRead] at this
  unfold rdLine bRead; omega
theorem gas_len : ∀ (ns : List Bs) (gs : List Ga), (∀ n ∈ ns, n.length ≤ 5) → (∀ g ∈ gs, smG g ∧ g.rs.length ≤ 30) → (flatB (gasLines ns gs)).length ≤ 2000 * ns.length
 | [], _, _, _ => by simp [gasLines, flatB]
 | n :: ns, [], _, _ => by simp [gasLines, flatB]
 | n :: ns, g :: gs, hn, hg => by
  have h1 := gas_len ns gs (fun m hm => hn m (by simp [hm])) fun x hx => hg x (by simp [hx])
  have h2 := flat_len (gaLines_len (hn n (by simp)) (hg g (by simp)).1)
  have h3 := (hg g (by simp)).2
  have h4 : (gaLines n g).length = g.rs.length + 1 := by simp [gaLines]
  rw [show gasLines (n :: ns) (g :: gs) = gaLines n g ++ gasLines ns gs from rfl, flat_app, List.length_append, List.length_cons]
  rw [h4] at h2
  omega
theorem names_5 : ∀ n ∈ namesB, n.length ≤ 5 := by decide
theorem pr_len {gs : List Ga} (h : GsOk gs) (i : Nat) : (prB gs i).length ≤ 10000 := by
 have := gas_len (namesB.take i) (gs.take i) (fun n hn => names_5 n (List.mem_of_mem_take hn)) fun g hg => h.g g (List.mem_of_mem_take hg)
 have h5 : (namesB.take i).length ≤ 5 := by simp [namesB]; omega
 unfold prB; omega
theorem pr_succ {gs : List Ga} {i : Nat} {n : Bs} {g : Ga} (h1 : namesB[i]? = some n) (h2 : gs[i]? = some g) : prB gs (i + 1) = prB gs i ++ (linB n [g.rate, g.least, g.most] ++ [10]) ++ flatB (g.rs.map rdLine) := by
 unfold prB
 rw [gas_take _ _ _ _ _ h1 h2, flat_app, gaLines, flat_cons]; simp
theorem rd_snoc {rs : List Rd} {k : Nat} {r : Rd} (h : rs[k]? = some r) : flatB ((rs.take (k + 1)).map rdLine) = flatB ((rs.take k).map rdLine) ++ (rdLine r ++ [10]) := by
 rw [List.take_add_one, h, Option.toList_some, List.map_append, flat_app]; simp [flatB]
theorem rds_len {rs : List Rd} (h : ∀ r ∈ rs, smR r) (hl : rs.length ≤ 30) (k : Nat) : (flatB ((rs.take k).map rdLine)).length ≤ 2000 := by
 have := flat_len (k := 60) (ls := (rs.take k).map rdLine) fun s hs => by
  obtain ⟨r, hr, rfl⟩ := List.mem_map.1 hs
  have := lin_len (rd_ok (h r (List.mem_of_mem_take hr)))
  simp [bRead] at this
  unfold rdLine bRead; omega
 rw [List.length_map, List.length_take] at this; omega
theorem many_snoc {gs : List Ga} {i : Nat} {g : Ga} (h : gs[i]? = some g) : manyB (gs.take (i + 1)) = manyB (gs.take i) + g.rs.length := by
 rw [List.take_add_one, h, Option.toList_some]; simp [manyB]
theorem many_le : ∀ (gs : List Ga), (∀ g ∈ gs, g.rs.length ≤ 30) → manyB gs ≤ 30 * gs.length
 | [], _ => by simp [manyB]
 | g :: gs, h => by
  have h1 := many_le gs fun x hx => h x (by simp [hx])
  have h2 := h g (by simp)
  simp only [manyB, List.map_cons, List.sum_cons, List.length_cons] at h1 ⊢; omega
def enT : En Bs where
 d l := [stD l]
 dec | [.str b] => some b.data.toList | _ => none
 h1 _ := rfl
 h2 c a h := by
  split at h
  ·cases h; rw [stD, ← bS_eta]
  ·cases h
 sz := 1
 hsz _ := rfl
theorem tx_ix {ls : List Bs} {i : Nat} {s : Bs} (hb : ls[i]? = some s) (h : H) : indexAddrD Tryz.prog h 147 (.sl (ls.map enT.d)) (.int .i64 (i : Int)) = some (.ref [stD s] 0) :=
 En.ix (P := Tryz.prog) Fz.und_147 Fz.size_9 (E := enT) (En.sl_map (E := enT) ls) hb h .i64
theorem lit_names (h : H) : litD Tryz.prog h 147 5 [(0, .str ⟨#[116, 105, 100, 101]⟩), (1, .str ⟨#[101, 97, 115, 116]⟩), (2, .str ⟨#[110, 111, 114, 116, 104]⟩), (3, .str ⟨#[119, 97, 118, 101]⟩), (4, .str ⟨#[115, 119, 101, 108, 108]⟩)] = some (.sl (namesB.map enT.d)) := by kernel_rfl
theorem lit_i1 (h : H) (a : Int) : litD Tryz.prog h 62 1 [(0, .int .i64 a)] = some (nmD [a]) := by kernel_rfl
theorem lit_i3 (h : H) (a b c : Int) : litD Tryz.prog h 62 3 [(0, .int .i64 a), (1, .int .i64 b), (2, .int .i64 c)] = some (nmD [a, b, c]) := by kernel_rfl
theorem lit_i4 (h : H) (a b c d : Int) : litD Tryz.prog h 62 4 [(0, .int .i64 a), (1, .int .i64 b), (2, .int .i64 c), (3, .int .i64 d)] = some (nmD [a, b, c, d]) := by kernel_rfl
theorem print_eq {gs : List Ga} (h : gs.length = 5) : printB gs = prB gs 5 ++ (linB bEnd [(manyB gs : Int)] ++ [10]) := by
 unfold printB fileLines prB
 rw [flat_app, flat_one, List.take_of_length_le (l := gs) (by omega), show namesB.take 5 = namesB from rfl]
end Go.Sx

namespace Go.Sx
open Go.Proofs Go.Lib
set_option maxRecDepth 10000

def mnB (gs : List Ga) (i : Nat) : Nat := manyB (gs.take i)
theorem mn_le {gs : List Ga} (h : GsOk gs) (i : Nat) : mnB gs i ≤ 150 := by
 have := many_le (gs.take i) fun g hg => (h.g g (List.mem_of_mem_take hg)).2
 have h5 := h.l
 unfold mnB
 rw [List.length_take] at this; omega
theorem mn_all {gs : List Ga} (h : GsOk gs) : mnB gs 5 = manyB gs := by
 unfold mnB
 rw [List.take_of_length_le (by rw [h.l]; exact Nat.le_refl _)]
theorem end_ok {n : Nat} (h : n ≤ 150) : LnOk bEnd [(n : Int)] := ⟨by decide, by simp, fun m hm => by simp at hm; subst hm; show Int.natAbs _ < 10 ^ 10; omega⟩
end Go.Sx

namespace Go.Sx

def rdsR : List Bs → List Rd × List Bs
 | [] => ([], [])
 | s :: r => match takB s bRead 4 with
  | some [a, b, c, d] => (⟨a, b, c, d⟩ :: (rdsR r).1, (rdsR r).2)
  | _ => ([], s :: r)
def gasR : List Bs → List Bs → Option (List Ga × List Bs)
 | [], ls => some ([], ls)
 | _ :: _, [] => none
 | n :: ns, s :: r => match takB s n 3 with
  | some [a, b, c] => (gasR ns (rdsR r).2).map fun p => (⟨a, b, c, (rdsR r).1⟩ :: p.1, p.2)
  | _ => none
def readS (t : Bs) : Option (List Ga) := if lastP 10 t ≠ [] ∨ outP 10 t = [] then none else match gasR namesB (outP 10 t) with
 | none => none
 | some (gs, r) => if endB gs r = true then some gs else none
theorem rdsR_cons (s : Bs) (r : List Bs) : rdsR (s :: r) = match takB s bRead 4 with
  | some [a, b, c, d] => (⟨a, b, c, d⟩ :: (rdsR r).1, (rdsR r).2)
  | _ => ([], s :: r) := rfl
theorem rdsB_cons (s : Bs) (r : List Bs) : rdsB (s :: r) = if isB s bRead = true then (match takB s bRead 4 with
   | some [a, b, c, d] => (rdsB r).map fun p => (⟨a, b, c, d⟩ :: p.1, p.2)
   | _ => none) else some ([], s :: r) := rfl
theorem tk_four {s : Bs} (h : takB s bRead 4 ≠ none) : ∃ a b c d, takB s bRead 4 = some [a, b, c, d] := by
 cases ht : takB s bRead 4 with
 | none => exact absurd ht h
 | some xs =>
  have := take_len bRead_32 ht
  match xs, this with
  | [a, b, c, d], _ => exact ⟨a, b, c, d, rfl⟩
theorem rds_rel : ∀ ls : List Bs, (∃ p, rdsB ls = some p ∧ rdsR ls = p) ∨ (rdsB ls = none ∧ ∃ rs s q, rdsR ls = (rs, s :: q) ∧ isB s bRead = true ∧ takB s bRead 4 = none)
 | [] => .inl ⟨_, rfl, rfl⟩
 | s :: r => by
  rw [rdsB_cons, rdsR_cons]
  by_cases h : takB s bRead 4 = none
  ·rw [h]
   by_cases hi : isB s bRead = true
   ·rw [if_pos hi]; exact .inr ⟨rfl, [], s, r, rfl, hi, h⟩
   ·rw [if_neg hi]; exact .inl ⟨_, rfl, rfl⟩
  ·obtain ⟨a, b, c, d, ht⟩ := tk_four h
   rw [if_pos (tak_is bRead_32 ht), ht]
   rcases rds_rel r with ⟨p, h1, h2⟩ | ⟨h1, rs, s', q, h2, h3, h4⟩
   ·rw [h1, h2]; exact .inl ⟨_, rfl, rfl⟩
   ·rw [h1, h2]; exact .inr ⟨rfl, _, s', q, rfl, h3, h4⟩
theorem is_tk {s w : Bs} {k : Nat} (h : isB s bRead = true) (hw : 32 ∉ w) (hn : w ≠ bRead) : takB s w k = none := by
 cases ht : takB s w k with
 | none => rfl
 | some xs => exact absurd (is_uniq hw bRead_32 (tak_is hw ht) h) hn
theorem gas_rel : ∀ (ns : List Bs), (∀ n ∈ ns, 32 ∉ n ∧ n ≠ bRead) → ∀ ls : List Bs, (∃ p, gasB ns ls = some p ∧ gasR ns ls = some p) ∨ (gasB ns ls = none ∧ (gasR ns ls = none ∨ ∃ gs s q, gasR ns ls = some (gs, s :: q) ∧ isB s bRead = true ∧ takB s bRead 4 = none))
 | [], _, ls => .inl ⟨_, rfl, rfl⟩
 | n :: ns, hns, [] => .inr ⟨rfl, .inl rfl⟩
 | n :: ns, hns, s :: r => by
  have hn := (hns n (by simp)).1
  have hns' : ∀ m ∈ ns, 32 ∉ m ∧ m ≠ bRead := fun m hm => hns m (List.mem_cons_of_mem _ hm)
  cases ht : takB s n 3 with
  | none => exact .inr ⟨by simp only [gasB, gaB, ht], .inl (by simp only [gasR, ht])⟩
  | some xs =>
   have hl := take_len hn ht
   obtain ⟨a, b, c, rfl⟩ : ∃ a b c, xs = [a, b, c] := by
    match xs, hl with
    | [a, b, c], _ => exact ⟨a, b, c, rfl⟩
   simp only [gasB, gaB, gasR, ht]
   rcases rds_rel r with ⟨p, h1, h2⟩ | ⟨h1, rs, s', q, h2, h3, h4⟩
   ·rw [h1, h2]
    simp only [Option.map_some]
    rcases gas_rel ns hns' p.2 with ⟨p2, g1, g2⟩ | ⟨g1, g2 | ⟨gs, s2, q2, g2, g3, g4⟩⟩
    ·rw [g1, g2]; exact .inl ⟨_, rfl, rfl⟩
    ·rw [g1, g2]; exact .inr ⟨rfl, .inl rfl⟩
    ·rw [g1, g2]; exact .inr ⟨rfl, .inr ⟨_, s2, q2, rfl, g3, g4⟩⟩
   ·rw [h1, h2]
    refine .inr ⟨rfl, ?_⟩
    cases ns with
    | nil => exact .inr ⟨_, s', q, rfl, h3, h4⟩
    | cons m ms =>
     left
     have hm := hns m (by simp)
     simp only [gasR, is_tk h3 hm.1 hm.2, Option.map_none]
theorem readS_eq (t : Bs) : readS t = readB t := by
 unfold readS readB linesB
 by_cases ht : t.getLast? = some 10
 ·rw [if_pos ht]
  obtain ⟨r, rfl⟩ := List.getLast?_eq_some_iff.1 ht
  rw [last_hit, out_hit, List.dropLast_concat, ← spl_last, if_neg (by simp [spl_ne])]
  dsimp only
  rcases gas_rel namesB (fun n hn => ⟨(names_32 n hn).1, (names_32 n hn).2.1⟩) (spl 10 r) with ⟨p, h1, h2⟩ | ⟨h1, h2 | ⟨gs, s, q, h2, h3, h4⟩⟩
  ·rw [h1, h2]
  ·rw [h1, h2]
  ·rw [h1, h2]
   dsimp only
   rw [if_neg]
   cases q with
   | nil => simp [endB, is_tk (w := bEnd) (k := 1) h3 bEnd_32 (by decide)]
   | cons a b => simp [endB]
 ·rw [if_neg ht]
  have : lastP 10 t ≠ [] ∨ outP 10 t = [] := by
   by_cases h0 : t = []
   ·subst h0; exact .inr rfl
   ·obtain ⟨r, b, rfl⟩ : ∃ r b, t = r ++ [b] := ⟨t.dropLast, t.getLast h0, (List.dropLast_concat_getLast h0).symm⟩
    have hb : b ≠ 10 := fun e => ht (by rw [e]; simp)
    left
    rw [last_miss hb]; simp
  rw [if_pos this]
end Go.Sx
