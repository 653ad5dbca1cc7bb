/- Own work: a calculus of contracts for the programs of this kit: parts SxE21t, SxE22t, SxE23t, SxE24t, SxE80t, SxE25t, SxE81t, SxT1t. -/
import Derived.Test.YtaifjmjooapmhaaGreatSxTg
import Derived.Test.YtaifjmjooapmhaaGreatSxMh
set_option linter.unusedVariables false
set_option linter.unusedSimpArgs false
namespace Go.Sx.E
set_option maxRecDepth 10000

def relaxF (al : Int → Bool) (c : Int) (st : Mp × List Int) (s : Stp) : Mp × List Int :=
 if al s.cell then
  match mget st.1 s.cell with
  | some old => if lessC ⟨((mget st.1 c).getD ⟨0, 0⟩).len + lenS s.dx s.dy, ((mget st.1 c).getD ⟨0, 0⟩).cells + 1⟩ old then (mput st.1 s.cell ⟨((mget st.1 c).getD ⟨0, 0⟩).len + lenS s.dx s.dy, ((mget st.1 c).getD ⟨0, 0⟩).cells + 1⟩, st.2 ++ [s.cell]) else st
  | none => (mput st.1 s.cell ⟨((mget st.1 c).getD ⟨0, 0⟩).len + lenS s.dx s.dy, ((mget st.1 c).getD ⟨0, 0⟩).cells + 1⟩, st.2 ++ [s.cell])
 else st
def farF (al : Int → Bool) (L : Int → List Stp) : Nat → Mp × List Int → Mp × List Int
 | 0, st => st
 | n + 1, st => match st.2 with
  | [] => st
  | c :: q => farF al L n ((L c).foldl (relaxF al c) (st.1, q))
def FUEL : Nat := 900000000
def farA (al : Int → Bool) (L : Int → List Stp) (to : Int) : Mp := if al to then (farF al L FUEL ([(to, ⟨0, 1⟩)], [to])).1 else []

def sumTo (f : Nat → Nat) : Nat → Nat
 | 0 => 0
 | n + 1 => sumTo f n + f n
theorem sumTo_congr {f g : Nat → Nat} : ∀ (n : Nat), (∀ j, j < n → g j = f j) → sumTo g n = sumTo f n
 | 0, _ => rfl
 | n + 1, h => by simp only [sumTo]; rw [sumTo_congr n fun j hj => h j (by omega), h n (by omega)]
theorem sumTo_upd {f g : Nat → Nat} {i : Nat} : ∀ (n : Nat), i < n → (∀ j, j ≠ i → g j = f j) → sumTo g n + f i = sumTo f n + g i
 | 0, h, _ => by omega
 | n + 1, h, hg => by
  simp only [sumTo]
  by_cases e : i = n
  ·subst e
   rw [sumTo_congr i fun j hj => hg j (by omega)]; omega
  ·have := sumTo_upd n (by omega) hg
   rw [hg n (by omega)]; omega
theorem sumTo_le {f : Nat → Nat} {b : Nat} (h : ∀ j, f j ≤ b) : ∀ n, sumTo f n ≤ n * b
 | 0 => by simp [sumTo]
 | n + 1 => by have := sumTo_le h n; have := h n; simp only [sumTo, Nat.add_mul]; omega
def wgt : Option Cst → Nat
 | none => 3000000
 | some v => (v.len * 1000 + v.cells).toNat
def one : Option Cst → Nat
 | none => 0
 | some _ => 1
def cntM (N : Nat) (m : Mp) : Nat := sumTo (fun k => one (mget m (k : Int))) N
def phiM (N : Nat) (m : Mp) : Nat := sumTo (fun k => wgt (mget m (k : Int))) N
theorem cntM_le (N : Nat) (m : Mp) : cntM N m ≤ N := by
 have := sumTo_le (f := fun k => one (mget m (k : Int))) (b := 1) (fun j => by cases mget m (j : Int) <;> simp [one]) N
 unfold cntM; omega
theorem cntM_put {N : Nat} (m : Mp) {k : Int} (hk : 0 ≤ k ∧ k < N) (v : Cst) : cntM N (mput m k v) + one (mget m k) = cntM N m + 1 := by
 obtain ⟨i, rfl⟩ : ∃ i : Nat, k = i := ⟨k.toNat, by omega⟩
 have := sumTo_upd (f := fun j => one (mget m (j : Int))) (g := fun j => one (mget (mput m i v) (j : Int))) (i := i) N (by omega) fun j hj => by
  simp only [mget_put]; rw [if_neg (by omega)]
 simp only [mget_put, if_true, one] at this
 unfold cntM
 simp only [mget_put]
 exact this
theorem phiM_put {N : Nat} (m : Mp) {k : Int} (hk : 0 ≤ k ∧ k < N) (v : Cst) : phiM N (mput m k v) + wgt (mget m k) = phiM N m + wgt (some v) := by
 obtain ⟨i, rfl⟩ : ∃ i : Nat, k = i := ⟨k.toNat, by omega⟩
 have := sumTo_upd (f := fun j => wgt (mget m (j : Int))) (g := fun j => wgt (mget (mput m i v) (j : Int))) (i := i) N (by omega) fun j hj => by
  simp only [mget_put]; rw [if_neg (by omega)]
 simp only [mget_put, if_true] at this
 unfold phiM
 simp only [mget_put]
 exact this

structure FarOk (N : Nat) (st : Mp × List Int) : Prop where
 key : ∀ k v, mget st.1 k = some v → (0 ≤ k ∧ k < N) ∧ 0 ≤ v.len ∧ v.len ≤ 14 * ((cntM N st.1 : Int) - 1) ∧ 1 ≤ v.cells ∧ 10 * (v.cells - 1) ≤ v.len
 q : ∀ c ∈ st.2, ∃ v, mget st.1 c = some v
theorem FarOk.b {N : Nat} (hN : N ≤ 144) {st : Mp × List Int} (h : FarOk N st) {k : Int} {v : Cst} (hv : mget st.1 k = some v) : 0 ≤ v.len ∧ v.len ≤ 2002 ∧ 1 ≤ v.cells ∧ v.cells ≤ 202 := by
 have := h.key k v hv
 have := cntM_le N st.1
 omega
theorem relax_ok {N : Nat} (hN : N ≤ 144) {st : Mp × List Int} (h : FarOk N st) (al : Int → Bool) {c : Int} {o : Cst} (ho : mget st.1 c = some o) {s : Stp} (hs : 0 ≤ s.cell ∧ s.cell < N) :
  FarOk N (relaxF al c st s) ∧ (∃ o', mget (relaxF al c st s).1 c = some o') ∧ 2 * phiM N (relaxF al c st s).1 + (relaxF al c st s).2.length ≤ 2 * phiM N st.1 + st.2.length := by
 have hob := h.b hN ho
 have hok := h.key c o ho
 have hl := lenS_b s.dx s.dy
 have hcn := cntM_le N st.1
 unfold relaxF
 rw [ho]
 simp only [Option.getD_some]
 have keyup : ∀ (x : Option Cst), mget st.1 s.cell = x → (∀ v, x = some v → lessC ⟨o.len + lenS s.dx s.dy, o.cells + 1⟩ v = true) →
   FarOk N (mput st.1 s.cell ⟨o.len + lenS s.dx s.dy, o.cells + 1⟩, st.2 ++ [s.cell]) ∧ (∃ o', mget (mput st.1 s.cell ⟨o.len + lenS s.dx s.dy, o.cells + 1⟩) c = some o') ∧
   2 * phiM N (mput st.1 s.cell ⟨o.len + lenS s.dx s.dy, o.cells + 1⟩) + (st.2 ++ [s.cell]).length ≤ 2 * phiM N st.1 + st.2.length := fun x hx hless => by
  have hc := cntM_put st.1 hs ⟨o.len + lenS s.dx s.dy, o.cells + 1⟩
  have hp := phiM_put st.1 hs ⟨o.len + lenS s.dx s.dy, o.cells + 1⟩
  rw [hx] at hc hp
  have hnew : ((0 : Int) ≤ o.len + lenS s.dx s.dy ∧ o.len + lenS s.dx s.dy ≤ 14 * ((cntM N (mput st.1 s.cell ⟨o.len + lenS s.dx s.dy, o.cells + 1⟩) : Int) - 1)) := by
   cases x with
   | none => simp only [one] at hc; omega
   | some v =>
    have hv := h.key s.cell v hx
    have hq : o.len + lenS s.dx s.dy < v.len ∨ (o.len + lenS s.dx s.dy = v.len ∧ o.cells + 1 < v.cells) := by simpa [lessC] using hless v rfl
    simp only [one] at hc; omega
  refine ⟨⟨fun k v hv => ?_, fun d hd => ?_⟩, ?_, ?_⟩
  ·rw [mget_put] at hv
   split at hv
   ·rename_i e; subst e; cases hv
    exact ⟨hs, hnew.1, hnew.2, by simp only; omega, by simp only; omega⟩
   ·have := h.key k v hv
    have : cntM N st.1 ≤ cntM N (mput st.1 s.cell ⟨o.len + lenS s.dx s.dy, o.cells + 1⟩) := by cases x <;> simp only [one] at hc <;> omega
    dsimp only
    omega
  ·rw [mget_put]
   split
   ·exact ⟨_, rfl⟩
   ·rcases List.mem_append.1 hd with hd | hd
    ·exact h.q d hd
    ·simp at hd; contradiction
  ·rw [mget_put]
   split
   ·exact ⟨_, rfl⟩
   ·exact ⟨o, ho⟩
  ·rw [List.length_append, List.length_singleton]
   cases x with
   | none => simp only [wgt] at hp; omega
   | some v =>
    have hv := h.b hN hx
    have hq : o.len + lenS s.dx s.dy < v.len ∨ (o.len + lenS s.dx s.dy = v.len ∧ o.cells + 1 < v.cells) := by simpa [lessC] using hless v rfl
    simp only [wgt] at hp; omega
 split
 ·cases hx : mget st.1 s.cell with
  | none => exact keyup none hx fun v e => by cases e
  | some v =>
   simp only
   split
   ·rename_i hl2; exact keyup (some v) hx fun v' e => by cases e; exact hl2
   ·exact ⟨h, ⟨o, ho⟩, Nat.le_refl _⟩
 ·exact ⟨h, ⟨o, ho⟩, Nat.le_refl _⟩
theorem relax_all {N : Nat} (hN : N ≤ 144) (al : Int → Bool) {c : Int} : ∀ (l : List Stp) {st : Mp × List Int} {o : Cst}, FarOk N st → mget st.1 c = some o → (∀ s ∈ l, 0 ≤ s.cell ∧ s.cell < N) →
  FarOk N (l.foldl (relaxF al c) st) ∧ (∃ o', mget (l.foldl (relaxF al c) st).1 c = some o') ∧ 2 * phiM N (l.foldl (relaxF al c) st).1 + (l.foldl (relaxF al c) st).2.length ≤ 2 * phiM N st.1 + st.2.length
 | [], st, o, h, ho, _ => ⟨h, ⟨o, ho⟩, Nat.le_refl _⟩
 | s :: l, st, o, h, ho, hs => by
  obtain ⟨h1, ⟨o', ho'⟩, h3⟩ := relax_ok hN h al ho (hs s (by simp))
  obtain ⟨a, b, d⟩ := relax_all hN al l h1 ho' fun s' hs' => hs s' (by simp [hs'])
  exact ⟨a, b, Nat.le_trans d h3⟩
theorem farF_nil (al : Int → Bool) (L : Int → List Stp) (n : Nat) (m : Mp) : farF al L n (m, []) = (m, []) := by cases n <;> rfl
theorem farOk_start {N : Nat} {to : Int} (hto : 0 ≤ to ∧ to < N) : FarOk N ([(to, ⟨0, 1⟩)], [to]) := by
 have hc : cntM N [(to, ⟨0, 1⟩)] = 1 := by
  have := cntM_put [] hto ⟨0, 1⟩
  have h0 : cntM N [] = 0 := by
   unfold cntM
   have : ∀ n, sumTo (fun k => one (mget [] (k : Int))) n = 0 := fun n => by induction n with | zero => rfl | succ n ih => simp only [sumTo]; rw [ih]; rfl
   exact this N
  simp [mput, mget, one, h0] at this
  exact this
 refine ⟨fun k v hv => ?_, fun c hq => ?_⟩
 ·simp only [mget] at hv
  split at hv
  ·rename_i e; subst e; cases hv; simp only [hc]; exact ⟨hto, by decide, by simp, by decide, by decide⟩
  ·cases hv
 ·simp at hq; subst hq; exact ⟨⟨0, 1⟩, by simp [mget]⟩
theorem phi_start {N : Nat} (hN : N ≤ 144) (m : Mp) (h : ∀ k v, mget m k = some v → 0 ≤ v.len ∧ v.len ≤ 2002 ∧ 1 ≤ v.cells ∧ v.cells ≤ 202) : phiM N m ≤ 432000000 := by
 obtain ⟨B, hB⟩ : ∃ B : Nat, B = 3000000 := ⟨_, rfl⟩
 have := sumTo_le (f := fun k => wgt (mget m (k : Int))) (b := B) (fun j => by
  cases hj : mget m (j : Int) with
  | none => simp [wgt, hB]
  | some v => have := h _ _ hj; simp only [wgt]; omega) N
 have h3 : N * B ≤ 144 * B := Nat.mul_le_mul_right _ hN
 unfold phiM; omega
end Go.Sx.E

namespace Go.Sx.E
open Go.Proofs
set_option maxRecDepth 10000

structure Walk (N : Nat) (al : Int → Bool) (L : Int → List Stp) (fa : FuncId) (afst acaps : List D) (gs : FuncId) (sfst scaps : List D) (gi : FuncId) (ic : Int → List D) : Prop where
 n : N ≤ 144
 afl : ∀ m, D.ltL m afst = true
 acl : ∀ m, D.ltL m acaps = true
 ava : ∀ h c, viewL h (afst ++ (.int .i64 c :: acaps)) = afst ++ (.int .i64 c :: acaps)
 a : ∀ c : Int, 0 ≤ c → c < (N : Int) → Pure Tryz.prog fa (afst ++ (.int .i64 c :: acaps)) (.bool (al c))
 sfl : ∀ m, D.ltL m sfst = true
 scl : ∀ m, D.ltL m scaps = true
 s : ∀ c : Int, 0 ≤ c → c < (N : Int) → Pure Tryz.prog gs (sfst ++ (.int .i64 c :: scaps)) (.fn (.func gi) [] (ic c))
 icl : ∀ c m, D.ltL m (ic c) = true
 cal : callable Tryz.prog gi = true
 q : ∀ c : Int, 0 ≤ c → c < (N : Int) → SeqX Tryz.prog gi (ic c) (fun x : { s : Stp // s ∈ L c } => stpV x.1) (fun xs => xs = (L c).attach) (fun pre => pre <+: (L c).attach) 9
 ok : ∀ c : Int, 0 ≤ c → c < (N : Int) → ∀ s ∈ L c, (0 ≤ s.cell ∧ s.cell < N) ∧ DirOk s
theorem ltL_app (m : Nat) : ∀ (a b : List D), D.ltL m (a ++ b) = (D.ltL m a && D.ltL m b)
 | [], b => by simp [D.ltL]
 | x :: a, b => by simp [D.ltL, ltL_app m a b, Bool.and_assoc]
theorem oI_tail {h : H} {b n : Nat} {x : Int} {l : List Int} (hb : hget h b = some (.arr 3 1 (intL (x :: l)))) (hn : (x :: l).length = n) (nid : Nat) : sliceO Tryz.prog h nid 34 b n (some (.int .i64 1)) none = some (.osl nid (n - 1), (nid, .arr 3 1 (intL l)) :: herase h b, nid + 1) := by
 subst hn
 have h1 : (1 : Int) ≤ (l.length : Int) + 1 := by omega
 have h2 : (List.map enI.d l).take l.length = List.map enI.d l := List.take_of_length_le (by simp)
 simp [sliceO, Fz.und_34, hb, Fz.size_3, boundD, intL, h1, h2]
theorem oI_ix0 {h : H} {b n : Nat} {l : List Int} (hb : hget h b = some (.arr 3 1 (intL l))) (hn : l.length = n) (hi : 0 < n) : indexAddrD Tryz.prog h 34 (.osl b n) (.int .i64 0) = some (.eptr b n 1 0 0) := oI_ix (i := 0) hb hn hi
theorem mkv_lt (k : Nat) : ∀ m : Mp, D.ltL k ((mkv m).map (·.2)) = true
 | [] => rfl
 | p :: m => by
  have := mkv_lt k m
  simp only [mkv, List.map_cons, D.ltL, D.lt, Cst.c, Bool.and_self, Bool.true_and] at this ⊢
  exact this
theorem mkv_ltA (m : Mp) : ((mkv m).all fun p => D.lt 0 p.2) = true := by
 simp [mkv, Cst.c, D.lt, D.ltL]
theorem mkv_view (m : Mp) (h : H) (b : Nat) (hb : hget h b = some (.map (mkv m))) : view h (.mp b) = .mpd (mkv m) := by
 simp only [view, hb]
 rw [if_pos (mkv_lt 0 m)]
theorem FarOk.tail {N : Nat} {m : Mp} {c : Int} {q : List Int} (h : FarOk N (m, c :: q)) : FarOk N (m, q) := ⟨h.key, fun d hd => h.q d (List.mem_cons_of_mem _ hd)⟩
set_option maxHeartbeats 2000000 in
theorem far_t {N : Nat} {al : Int → Bool} {L : Int → List Stp} {fa : FuncId} {afst acaps : List D} {gs : FuncId} {sfst scaps : List D} {gi : FuncId} {ic : Int → List D} (W : Walk N al L fa afst acaps gs sfst scaps gi ic) (to : Int) (hto : 0 ≤ to ∧ to < (N : Int)) :
  Pure Tryz.prog 35 [.int .i64 to, .fn (.func fa) afst acaps, .fn (.func gs) sfst scaps] (.mpd (mkv (farA al L to))) := by
 have hN := W.n
 have afl := W.afl
 have acl := W.acl
 have ava := W.ava
 have sfl := W.sfl
 have scl := W.scl
 have pto := W.a to hto.1 hto.2
 have hm1 : methD Tryz.prog 140 "windsock/run.put" = some 142 := by kernel_rfl
 have hm2 : methD Tryz.prog 140 "windsock/run.take" = some 143 := by kernel_rfl
 have i1 := fun h nid K d ds u => inv_ifc (P := Tryz.prog) (O := oNone) h nid K hm1 d ds u
 have i2 := fun h nid K d ds u => inv_ifc (P := Tryz.prog) (O := oNone) h nid K hm2 d ds u
 have hif : ∀ b o, ifaceD Tryz.prog 140 (.ptr b o) = some (.ifc 140 (.ptr b o)) := fun b o => by kernel_rfl
 unfold farA
 cases hal : al to
 ·rw [hal] at pto
  refine pure_of_wc (rs := [.tmp 6]) (m := 87) [(13, [(14, true, false, []), (1, false, false, [])])] oNone_ok (by kernel_rfl) Tryz.func35 rfl (by kernel_rfl) rfl rfl (by kernel_rfl) ?_
  simp only [RT, FS, ↓RE, okR, argEnv, Nat.reduceAdd, Nat.reduceSub, Nat.reduceLT, Nat.reduceLeDiff, Nat.reduceEqDiff, reduceIte, RM]
  refine call_of_pure (by simpa [ava] using pto) rfl ?_
  simp only [RT, FS, ↓RE, okR, argEnv, Nat.reduceAdd, Nat.reduceSub, Nat.reduceLT, Nat.reduceLeDiff, Nat.reduceEqDiff, reduceIte, RM]
  rfl
 rw [hal] at pto
 have u1 := fun h nid (hb : hget h 1 = some (.map [])) => mo_put (m := []) (h := h) (b := 1) hb nid to 0 1
 refine pure_of_wc (rs := [.tmp 6]) (m := 87) [(13, [(14, true, false, []), (1, false, false, [])])] oNone_ok (by kernel_rfl) Tryz.func35 rfl (by kernel_rfl) rfl rfl (by kernel_rfl) ?_
 simp only [RT, FS, ↓RE, okR, argEnv, Nat.reduceAdd, Nat.reduceSub, Nat.reduceLT, Nat.reduceLeDiff, Nat.reduceEqDiff, reduceIte, RM]
 refine call_of_pure (by simpa [ava] using pto) rfl ?_
 simp only [RT, FS, ↓RE, okR, argEnv, Nat.reduceAdd, Nat.reduceSub, Nat.reduceLT, Nat.reduceLeDiff, Nat.reduceEqDiff, reduceIte, RM, u1, i1, i2, hif]
 have hn0 : ∀ h nid, hget h 5 = some (.arr 3 1 [[.int .i64 to]]) → appE Tryz.prog h nid 34 34 .nils (.osl 5 1) = some (.osl nid 1, (nid, .arr 3 1 (intL [to])) :: h, nid + 1) := fun h nid hb =>
  app_nils (xs := [[.int .i64 to]]) Fz.und_34 Fz.size_3 Fz.zero_3 rfl (by omega) Fz.bytes_3_34 h nid (by simp [srcD, hb]) rfl (by simp) (by simp)
 refine call_of_acall ?_
 refine acall_of_wc (rs := []) (m := 14) [] oNone_ok (by kernel_rfl) Tryz.func142 rfl (by kernel_rfl) rfl rfl (by kernel_rfl) ?_
 simp only [RT, FS, ↓RE, okR, argEnv, Nat.reduceAdd, Nat.reduceSub, Nat.reduceLT, Nat.reduceLeDiff, Nat.reduceEqDiff, reduceIte, RM, hn0, intL_len, List.length_singleton, decide_true]
 simp only [RT, FS, ↓RE, okR, argEnv, Nat.reduceAdd, Nat.reduceSub, Nat.reduceLT, Nat.reduceLeDiff, Nat.reduceEqDiff, reduceIte, RM, i1, i2]
 have q6 := fun h (hb : hget h 6 = some (.arr 3 1 (intL [to]))) => oI_len (n := 1) hb rfl
 have x6 := fun h (hb : hget h 6 = some (.arr 3 1 (intL [to]))) => oI_ix0 (n := 1) hb rfl (by omega)
 have l6 := fun h (hb : hget h 6 = some (.arr 3 1 (intL [to]))) => oI_load (n := 1) (i := 0) hb rfl rfl
 have t6 := fun h nid (hb : hget h 6 = some (.arr 3 1 (intL [to]))) => oI_tail (n := 1) (l := []) hb rfl nid
 refine call_of_acall ?_
 refine acall_of_wc (rs := [.tmp 2, .tmp 3]) (m := 26) [] oNone_ok (by kernel_rfl) Tryz.func143 rfl (by kernel_rfl) rfl rfl (by kernel_rfl) ?_
 have hb10 : (((1 : Nat) : Int) == 0) = false := rfl
 simp only [RT, FS, ↓RE, okR, argEnv, Nat.reduceAdd, Nat.reduceSub, Nat.reduceLT, Nat.reduceLeDiff, Nat.reduceEqDiff, reduceIte, RM, q6, x6, l6, t6, hb10, intL_len, List.length_nil, Nat.sub_self, decide_true]
 -- the loop
 have hS0 := farOk_start (N := N) hto
 have hph0 := phi_start hN [(to, (⟨0, 1⟩ : Cst))] fun k v hv => hS0.b hN hv
 have afn := D.nmL_lt (afl 0)
 have acn := D.nmL_lt (acl 0)
 refine loopN (ι := Nat × Mp × List Int) oNone_ok [(13, [(14, true, false, []), (1, false, false, [])])] (fun s => [(2, .fn (.func gs) sfst scaps), (4, .ptr 0 0), (7, .ptr 2 0), (8, .ptr 4 0), (9, .ptr 8 0), (10, .bool (!s.2.2.isEmpty))])
  (fun s => [(8, .box [.int .i64 (s.2.2.headD 0)]), (7, .arr 3 1 (intL s.2.2.tail)), (4, .box [.ifc 140 (.ptr 3 0)]), (3, .box [.osl 7 s.2.2.tail.length]), (2, .box [.mp 1]), (1, .map (mkv s.2.1)), (0, .box [.fn (.func fa) afst acaps])]) (fun _ => 9)
  (fun s => FarOk N s.2 ∧ 2 * phiM N s.2.1 + s.2.2.length < s.1 ∧ 2 * phiM N s.2.1 + s.2.2.length ≤ 864000001 ∧ farF al L s.1 s.2 = farF al L FUEL ([(to, ⟨0, 1⟩)], [to])) (fun s => s.1) (FUEL, [(to, ⟨0, 1⟩)], [to]) (by kernel_rfl) (by kernel_rfl) ⟨hS0, by simp only [FUEL, List.length_singleton]; omega, by simp only [List.length_singleton]; omega, rfl⟩ ?_ ?_
 ·refine .weak (weak_of ?_)
  simp [headW, heapW, envW, blkLt, D.ltL, D.lt, look, hget, afl, acl, sfl, scl, mput, intL, herase]
  exact mkv_lt _ _
 rintro ⟨fu, M, Qf⟩ ⟨hok, hlt, hle, hres⟩
 dsimp only at hok hlt hle hres ⊢
 cases Qf with
 | nil =>
  have hv := mkv_view M [(8, .box [.int .i64 0]), (7, .arr 3 1 (intL [])), (4, .box [.ifc 140 (.ptr 3 0)]), (3, .box [.osl 7 0]), (2, .box [.mp 1]), (1, .map (mkv M)), (0, .box [.fn (.func fa) afst acaps])] 1 (by simp [hget])
  rw [farF_nil] at hres
  simp only [RT, FS, ↓RE, okR, argEnv, Nat.reduceAdd, Nat.reduceSub, Nat.reduceLT, Nat.reduceLeDiff, Nat.reduceEqDiff, reduceIte, RM, List.isEmpty_nil, Bool.not_true, List.headD_nil, List.tail_nil]
  rw [← hres]
  exact hv
 | cons c q =>
 obtain ⟨fv, rfl⟩ : ∃ fv, fu = fv + 1 := ⟨fu - 1, by omega⟩
 obtain ⟨o, ho⟩ := hok.q c (by simp)
 have hokt := hok.tail
 have hc := (hok.key c o ho).1
 have ps := W.s c hc.1 hc.2
 have hLv := fun s hs => W.ok c hc.1 hc.2 s hs
 simp only [RT, FS, ↓RE, okR, argEnv, Nat.reduceAdd, Nat.reduceSub, Nat.reduceLT, Nat.reduceLeDiff, Nat.reduceEqDiff, reduceIte, RM, List.isEmpty_cons, Bool.not_false, List.headD_cons, List.tail_cons]
 have ps' : Pure Tryz.prog gs (sfst ++ [.int .i64 c] ++ scaps) (.fn (.func gi) [] (ic c)) := by simpa using ps
 refine call_of_pure' ps' (by simp [ltL_app, D.ltL, D.lt, sfl, scl]) (by simp [D.lt, D.ltL, W.icl]) ?_
 simp only [RT, FS, ↓RE, okR, argEnv, Nat.reduceAdd, Nat.reduceSub, Nat.reduceLT, Nat.reduceLeDiff, Nat.reduceEqDiff, reduceIte, RM]
 obtain ⟨st, hst⟩ : ∃ st : List { s : Stp // s ∈ L c } → Mp × List Int, st = fun xs => (xs.map (·.1)).foldl (relaxF al c) (M, q) := ⟨_, rfl⟩
 have hst0 : st [] = (M, q) := by rw [hst]; rfl
 have hstS : ∀ xs x, st (xs ++ [x]) = relaxF al c (st xs) x.1 := fun xs x => by rw [hst]; simp [List.foldl_append]
 have hstK : ∀ xs, FarOk N (st xs) ∧ (∃ o', mget (st xs).1 c = some o') ∧ 2 * phiM N (st xs).1 + (st xs).2.length ≤ 2 * phiM N M + q.length := fun xs => by
  rw [hst]
  exact relax_all hN al _ hokt ho fun s hs => by
   obtain ⟨y, _, rfl⟩ := List.mem_map.1 hs
   exact (hLv y.1 y.2).1
 refine rangeX (α := { s : Stp // s ∈ L c }) oNone_ok [(13, [(14, true, false, []), (1, false, false, [])])] (by kernel_rfl) (by kernel_rfl) (by kernel_rfl) (W.q c hc.1 hc.2) W.cal (fun _ => rfl) (fun R n x => stp_enc R n x.1) (W.icl c 0)
  [(2, .fn (.func gs) sfst scaps), (4, .ptr 0 0), (7, .ptr 2 0), (8, .ptr 4 0), (9, .ptr 8 0), (43, .fn (.func gi) [] (ic c))]
  (fun xs => [(8, .box [.int .i64 c]), (7, .arr 3 1 (intL (st xs).2)), (4, .box [.ifc 140 (.ptr 3 0)]), (3, .box [.osl 7 (st xs).2.length]), (2, .box [.mp 1]), (1, .map (mkv (st xs).1)), (0, .box [.fn (.func fa) afst acaps])]) 9 (fun _ => True) trivial rfl ?_ ?_ ?_ ?_
 ·intro xs
  simp [mapsIn, mapIds, isMapAt, hget, boxNm, D.nm, D.nmL, afn, acn]
 ·rw [hst0]
  simp [headW, heapW, envW, blkLt, D.ltL, D.lt, look, hget, afl, acl, sfl, scl, W.icl, mkv_lt]
 ·intro lo pr x _ hlen'
  have hx := hLv x.1 x.2
  obtain ⟨hk1, ⟨o', ho'⟩, hk3⟩ := hstK pr
  have hob := hk1.b hN ho'
  have hl10 := lenS_b x.1.dx x.1.dy
  have pa := W.a x.1.cell hx.1.1 hx.1.2
  have pa' : Pure Tryz.prog fa (afst ++ [.int .i64 x.1.cell] ++ acaps) (.bool (al x.1.cell)) := by simpa using pa
  have plen := step_length_t x.1
  have hsn := hstS pr x
  unfold relaxF at hsn
  rw [ho'] at hsn
  simp only [Option.getD_some] at hsn
  generalize st pr = S at *
  obtain ⟨M', q'⟩ := S
  dsimp only at hsn ho' hk3 hk1 ⊢
  have hql : q'.length ≤ 1000000000 := by simp at hle; omega
  have w1 := wrap_i64 (z := o'.len + lenS x.1.dx x.1.dy) (by omega) (by omega)
  have w2 := wrap_i64 (z := o'.cells + 1) (by omega) (by omega)
  have g1 := fun h (hb : hget h 1 = some (.map (mkv M'))) => mo_get (k := c) hb
  have k1 := fun h (hb : hget h 1 = some (.map (mkv M'))) => mo_look (k := x.1.cell) hb
  have u3 := fun h nid (hb : hget h 1 = some (.map (mkv M'))) => mo_put hb nid x.1.cell (o'.len + lenS x.1.dx x.1.dy) (o'.cells + 1)
  rw [ho'] at g1
  simp only [valC, Cst.c] at g1
  obtain ⟨⟨xc, xdx, xdy⟩, hxm⟩ := x
  dsimp only at *
  simp only [Stp.c] at plen
  cases hax : al xc
  ·rw [hax] at pa' hsn
   simp only [RT, FS, ↓RE, okR, argEnv, Nat.reduceAdd, Nat.reduceSub, Nat.reduceLT, Nat.reduceLeDiff, Nat.reduceEqDiff, reduceIte, RM, pe_cons, pe_nil, Array.toList, stpD, Stp.c]
   refine call_of_pure (by simpa [ava] using pa') rfl ?_
   simp only [RT, FS, ↓RE, okR, argEnv, Nat.reduceAdd, Nat.reduceSub, Nat.reduceLT, Nat.reduceLeDiff, Nat.reduceEqDiff, reduceIte, RM]
   simp only [Bool.false_eq_true, if_false] at hsn
   rw [hsn]
   simp [headW, heapW, envW, blkLt, D.ltL, D.lt, look, hget, afl, acl, sfl, scl, W.icl, mkv_lt]
  rw [hax] at pa' hsn
  simp only [if_true] at hsn
  have a7 := fun h nid (hb : hget h 7 = some (.arr 3 1 (intL q'))) (hb2 : hget h 12 = some (.arr 3 1 [[.int .i64 xc]])) => oI_app (n := q'.length) (n2 := 1) (r := [xc]) hb rfl hb2 rfl nid (by simp; omega)
  have pless := fun old : Cst => less_t ⟨o'.len + lenS xdx xdy, o'.cells + 1⟩ old
  simp only [Cst.c] at pless
  cases hmx : mget M' xc with
  | none =>
   rw [hmx] at hsn k1
   simp only [valC, Option.isSome_none] at k1
   dsimp only at hsn
   simp only [RT, FS, ↓RE, okR, argEnv, Nat.reduceAdd, Nat.reduceSub, Nat.reduceLT, Nat.reduceLeDiff, Nat.reduceEqDiff, reduceIte, RM, pe_cons, pe_nil, Array.toList, stpD, Stp.c]
   refine call_of_pure (by simpa [ava] using pa') rfl ?_
   simp only [RT, FS, ↓RE, okR, argEnv, Nat.reduceAdd, Nat.reduceSub, Nat.reduceLT, Nat.reduceLeDiff, Nat.reduceEqDiff, reduceIte, RM, g1, k1, u3, w1, w2, i1, i2]
   refine call_of_pure plen rfl ?_
   simp only [RT, FS, ↓RE, okR, argEnv, Nat.reduceAdd, Nat.reduceSub, Nat.reduceLT, Nat.reduceLeDiff, Nat.reduceEqDiff, reduceIte, RM, g1, k1, u3, w1, w2, i1, i2]
   refine call_of_acall ?_
   refine acall_of_wc (rs := []) (m := 14) [] oNone_ok (by kernel_rfl) Tryz.func142 rfl (by kernel_rfl) rfl rfl (by kernel_rfl) ?_
   simp only [RT, FS, ↓RE, okR, argEnv, Nat.reduceAdd, Nat.reduceSub, Nat.reduceLT, Nat.reduceLeDiff, Nat.reduceEqDiff, reduceIte, RM, a7, intL_len, List.length_append, List.length_singleton, decide_true]
   rw [hsn]
   simp [headW, heapW, envW, blkLt, D.ltL, D.lt, look, hget, afl, acl, sfl, scl, W.icl, mkv_lt]
  | some old =>
   rw [hmx] at hsn k1
   simp only [valC, Option.isSome_some, Cst.c] at k1
   dsimp only at hsn
   simp only [RT, FS, ↓RE, okR, argEnv, Nat.reduceAdd, Nat.reduceSub, Nat.reduceLT, Nat.reduceLeDiff, Nat.reduceEqDiff, reduceIte, RM, pe_cons, pe_nil, Array.toList, stpD, Stp.c]
   refine call_of_pure (by simpa [ava] using pa') rfl ?_
   simp only [RT, FS, ↓RE, okR, argEnv, Nat.reduceAdd, Nat.reduceSub, Nat.reduceLT, Nat.reduceLeDiff, Nat.reduceEqDiff, reduceIte, RM, g1, k1, u3, w1, w2, i1, i2]
   refine call_of_pure plen rfl ?_
   simp only [RT, FS, ↓RE, okR, argEnv, Nat.reduceAdd, Nat.reduceSub, Nat.reduceLT, Nat.reduceLeDiff, Nat.reduceEqDiff, reduceIte, RM, g1, k1, u3, w1, w2, i1, i2]
   refine call_of_pure (pless old) rfl ?_
   cases hle2 : lessC ⟨o'.len + lenS xdx xdy, o'.cells + 1⟩ old
   ·rw [hle2] at hsn
    simp only [Bool.false_eq_true, if_false] at hsn
    simp only [RT, FS, ↓RE, okR, argEnv, Nat.reduceAdd, Nat.reduceSub, Nat.reduceLT, Nat.reduceLeDiff, Nat.reduceEqDiff, reduceIte, RM, g1, k1, u3, i1, i2]
    rw [hsn]
    simp [headW, heapW, envW, blkLt, D.ltL, D.lt, look, hget, afl, acl, sfl, scl, W.icl, mkv_lt]
   ·rw [hle2] at hsn
    simp only [if_true] at hsn
    simp only [RT, FS, ↓RE, okR, argEnv, Nat.reduceAdd, Nat.reduceSub, Nat.reduceLT, Nat.reduceLeDiff, Nat.reduceEqDiff, reduceIte, RM, g1, k1, u3, i1, i2]
    refine call_of_acall ?_
    refine acall_of_wc (rs := []) (m := 14) [] oNone_ok (by kernel_rfl) Tryz.func142 rfl (by kernel_rfl) rfl rfl (by kernel_rfl) ?_
    simp only [RT, FS, ↓RE, okR, argEnv, Nat.reduceAdd, Nat.reduceSub, Nat.reduceLT, Nat.reduceLeDiff, Nat.reduceEqDiff, reduceIte, RM, a7, intL_len, List.length_append, List.length_singleton, decide_true]
    rw [hsn]
    simp [headW, heapW, envW, blkLt, D.ltL, D.lt, look, hget, afl, acl, sfl, scl, W.icl, mkv_lt]
 ·intro xs hxs _
  subst hxs
  have hmap : ((L c).attach.map (·.1)) = L c := List.attach_map_subtype_val _
  obtain ⟨hk1, _, hk3⟩ := hstK (L c).attach
  have hfar : farF al L (fv + 1) (M, c :: q) = farF al L fv (st (L c).attach) := by rw [hst]; simp only [farF, hmap]
  rw [hfar] at hres
  generalize st (L c).attach = S at *
  obtain ⟨M', q'⟩ := S
  dsimp only at hk1 hk3 hres ⊢
  have hle' : 2 * phiM N M' + q'.length < fv ∧ 2 * phiM N M' + q'.length ≤ 864000001 := by
   simp only [List.length_cons] at hlt hle; omega
  cases q' with
  | nil =>
   have q7 := fun h (hb : hget h 7 = some (.arr 3 1 (intL []))) => oI_len (n := 0) hb rfl
   have hb10 : (((0 : Nat) : Int) == 0) = true := rfl
   simp only [RT, FS, ↓RE, okR, argEnv, Nat.reduceAdd, Nat.reduceSub, Nat.reduceLT, Nat.reduceLeDiff, Nat.reduceEqDiff, reduceIte, RM, i1, i2]
   refine call_of_acall ?_
   refine acall_of_wc (rs := [.tmp 2, .tmp 3]) (m := 26) [] oNone_ok (by kernel_rfl) Tryz.func143 rfl (by kernel_rfl) rfl rfl (by kernel_rfl) ?_
   simp only [RT, FS, ↓RE, okR, argEnv, Nat.reduceAdd, Nat.reduceSub, Nat.reduceLT, Nat.reduceLeDiff, Nat.reduceEqDiff, reduceIte, RM, q7, hb10, List.length_nil]
   refine ⟨(fv, M', []), ⟨hk1, hle'.1, hle'.2, hres⟩, by simp only; omega, ?_⟩
   refine (Imp.weak (weak_of (e := [(2, .fn (.func gs) sfst scaps), (4, .ptr 0 0), (7, .ptr 2 0), (8, .ptr 4 0), (9, .ptr 9 0), (10, .bool false)])
    (h := [(9, .box [.int .i64 0]), (7, .arr 3 1 (intL [])), (4, .box [.ifc 140 (.ptr 3 0)]), (3, .box [.osl 7 0]), (2, .box [.mp 1]), (1, .map (mkv M')), (0, .box [.fn (.func fa) afst acaps])]) (nid := 10) (n := 87) ?_)).trans (imp_move 9 8 (bi := .box [.int .i64 0]) (by omega) rfl rfl (by omega) (by omega) ?_ ?_ (.weak (weak_of ?_)))
   ·simp [headW, heapW, envW, blkLt, D.ltL, D.lt, look, hget, afl, acl, sfl, scl, W.icl, mkv_lt]
   ·simp [okMB, okM, mkv_ltA, D.lt, afl, acl]
   ·simp [okM, D.lt, sfl, scl]
   ·simp [headW, heapW, envW, blkLt, D.ltL, D.lt, look, hget, afl, acl, sfl, scl, mkv_lt, mvH, mvB, mvD]
  | cons c' q' =>
   have q7 := fun h (hb : hget h 7 = some (.arr 3 1 (intL (c' :: q')))) => oI_len (n := (c' :: q').length) hb rfl
   have hb10 : ((((c' :: q').length : Nat) : Int) == 0) = false := by simp; omega
   have x7 := fun h (hb : hget h 7 = some (.arr 3 1 (intL (c' :: q')))) => oI_ix0 (n := (c' :: q').length) hb rfl (by simp)
   have l7 := fun h (hb : hget h 7 = some (.arr 3 1 (intL (c' :: q')))) => oI_load (n := (c' :: q').length) (i := 0) hb rfl rfl
   have t7 := fun h nid (hb : hget h 7 = some (.arr 3 1 (intL (c' :: q')))) => oI_tail (n := (c' :: q').length) (l := q') hb rfl nid
   have hnd : ((c' :: q').length - 1 = q'.length) = True := by simp
   generalize hn : (c' :: q').length = n at *
   simp only [RT, FS, ↓RE, okR, argEnv, Nat.reduceAdd, Nat.reduceSub, Nat.reduceLT, Nat.reduceLeDiff, Nat.reduceEqDiff, reduceIte, RM, i1, i2]
   refine call_of_acall ?_
   refine acall_of_wc (rs := [.tmp 2, .tmp 3]) (m := 26) [] oNone_ok (by kernel_rfl) Tryz.func143 rfl (by kernel_rfl) rfl rfl (by kernel_rfl) ?_
   simp only [RT, FS, ↓RE, okR, argEnv, Nat.reduceAdd, Nat.reduceSub, Nat.reduceLT, Nat.reduceLeDiff, Nat.reduceEqDiff, reduceIte, RM, q7, x7, l7, t7, hb10, intL_len, hnd, decide_true]
   refine ⟨(fv, M', c' :: q'), ⟨hk1, by simp only; omega, by simp only; omega, hres⟩, by simp only; omega, ?_⟩
   have hn1 : n - 1 = q'.length := by simpa using hnd
   refine (Imp.weak (weak_of (e := [(2, .fn (.func gs) sfst scaps), (4, .ptr 0 0), (7, .ptr 2 0), (8, .ptr 4 0), (9, .ptr 9 0), (10, .bool true)])
    (h := [(10, .arr 3 1 (intL q')), (9, .box [.int .i64 c']), (4, .box [.ifc 140 (.ptr 3 0)]), (3, .box [.osl 10 q'.length]), (2, .box [.mp 1]), (1, .map (mkv M')), (0, .box [.fn (.func fa) afst acaps])]) (nid := 11) (n := 87) ?_)).trans
     (imp_move 9 8 (bi := .box [.int .i64 c']) (by omega) rfl rfl (by omega) (by omega) ?_ ?_ (imp_move 10 7 (bi := .arr 3 1 (intL q')) (by omega) ?_ ?_ (by omega) (by omega) ?_ ?_ (.weak (weak_of ?_))))
   ·rw [hn1]
    simp [headW, heapW, envW, blkLt, D.ltL, D.lt, look, hget, afl, acl, sfl, scl, W.icl, mkv_lt]
   ·simp [okMB, okM, mkv_ltA, D.lt, afl, acl]
   ·simp [okM, D.lt, sfl, scl]
   ·simp [mvH, mvB, mvD, hget]
   ·simp [mvH, mvB, mvD, hget]
   ·simp [okMB, okM, mkv_ltA, D.lt, afl, acl, mvH, mvB, mvD]
   ·simp [okM, D.lt, sfl, scl, mvD]
   ·simp [headW, heapW, envW, blkLt, D.ltL, D.lt, look, hget, afl, acl, sfl, scl, mkv_lt, mvH, mvB, mvD]
end Go.Sx.E

namespace Go.Sx.E
open Go.Proofs
set_option maxRecDepth 10000

def fits (m : Mp) (c : Int) (s : Stp) : Bool := match mget m s.cell with
 | some v => (v.len + lenS s.dx s.dy == ((mget m c).getD ⟨0, 0⟩).len) && (v.cells + 1 == ((mget m c).getD ⟨0, 0⟩).cells)
 | none => false
def nextW (m : Mp) (L : Int → List Stp) (c : Int) : Option Int := ((L c).find? (fits m c)).map (·.cell)
def alongF (m : Mp) (L : Int → List Stp) (to : Int) : Nat → Int → List Int
 | 0, c => [c]
 | n + 1, c => if c = to then [c] else match nextW m L c with
  | some d => c :: alongF m L to n d
  | none => [c]
def cellsN (m : Mp) (c : Int) : Nat := ((mget m c).getD ⟨0, 0⟩).cells.toNat
def alongA (m : Mp) (L : Int → List Stp) (frm to : Int) : List Int := alongF m L to (cellsN m frm + 1) frm
structure MapOk (N : Nat) (m : Mp) : Prop where
 b : ∀ k v, mget m k = some v → (0 ≤ k ∧ k < N) ∧ 0 ≤ v.len ∧ v.len ≤ 2002 ∧ 1 ≤ v.cells ∧ v.cells ≤ 202
theorem FarOk.map {N : Nat} (hN : N ≤ 144) {st : Mp × List Int} (h : FarOk N st) : MapOk N st.1 := ⟨fun k v hv => ⟨(h.key k v hv).1, h.b hN hv⟩⟩
theorem fits_cells {N : Nat} {m : Mp} (hm : MapOk N m) {c : Int} {s : Stp} (h : fits m c s = true) : cellsN m s.cell + 1 = cellsN m c ∧ (0 ≤ s.cell ∧ s.cell < N) := by
 unfold fits at h
 split at h
 ·rename_i v hv
  simp only [Bool.and_eq_true, beq_iff_eq] at h
  have := hm.b _ _ hv
  simp only [cellsN, hv, Option.getD_some]
  omega
 ·cases h
theorem find_pre {α : Type} {p : α → Bool} : ∀ {l pre : List α} {x : α}, pre ++ [x] <+: l → (∀ y ∈ pre, p y = false) → p x = true → l.find? p = some x
 | l, [], x, ⟨t, ht⟩, _, hx => by subst ht; simp [hx]
 | [], a :: pre, x, ⟨t, ht⟩, _, _ => by simp at ht
 | b :: l, a :: pre, x, ⟨t, ht⟩, hp, hx => by
  simp only [List.cons_append, List.cons.injEq] at ht
  obtain ⟨rfl, ht⟩ := ht
  simp only [List.find?_cons, hp a (by simp)]
  exact find_pre ⟨t, by simpa using ht⟩ (fun y hy => hp y (by simp [hy])) hx
theorem eql_cost (a b c d : Int) : binD Tryz.prog .eql 103 (.agg [.int .i64 a, .int .i64 b]) (.agg [.int .i64 c, .int .i64 d]) = some (.bool ((a == c) && ((b == d) && true))) := by kernel_rfl
theorem mr_load (h : H) (m : Mp) : loadAtD Tryz.prog h 100 (.refm (mkv m)) = some (.mpd (mkv m)) := (loadD_one Fz.agg_100 Fz.size_100 [.mpd (mkv m)] 0).trans rfl
theorem valC_getD (o : Option Cst) : valC o = .agg [.int .i64 (o.getD ⟨0, 0⟩).len, .int .i64 (o.getD ⟨0, 0⟩).cells] := by cases o <;> rfl
set_option maxHeartbeats 1000000 in
theorem along_t {N : Nat} (hN : N ≤ 144) {L : Int → List Stp} {gs : FuncId} {sfst scaps : List D} {gi : FuncId} {ic : Int → List D} {m : Mp} (hm : MapOk N m)
  (sfl : ∀ m, D.ltL m sfst = true) (scl : ∀ m, D.ltL m scaps = true) (ps : ∀ c : Int, 0 ≤ c → c < (N : Int) → Pure Tryz.prog gs (sfst ++ (.int .i64 c :: scaps)) (.fn (.func gi) [] (ic c))) (icl : ∀ c m, D.ltL m (ic c) = true) (cal : callable Tryz.prog gi = true)
  (hq : ∀ c : Int, 0 ≤ c → c < (N : Int) → SeqX Tryz.prog gi (ic c) (fun x : { s : Stp // s ∈ L c } => stpV x.1) (fun xs => xs = (L c).attach) (fun pre => pre <+: (L c).attach) 9)
  (frm to : Int) (hf : 0 ≤ frm ∧ frm < (N : Int)) :
  Pure Tryz.prog 38 [.int .i64 frm, .int .i64 to, .mpd (mkv m), .fn (.func gs) sfst scaps] (.sl (intL (alongA m L frm to))) := by
 refine pure_of_pieces (rs := [.tmp 8]) (m := 52) [(6, [(16, false, false, [])])] oNone_ok (by kernel_rfl) Tryz.func38 rfl (by kernel_rfl) rfl rfl (by kernel_rfl) ?_
 refine awp_peel (T := [(6, [(16, false, false, [])])]) oNone_ok (by kernel_rfl) (by kernel_rfl) ?_
 simp only [RT, FS, ↓RE, okR, argEnv, Nat.reduceAdd, Nat.reduceSub, Nat.reduceLT, Nat.reduceLeDiff, Nat.reduceEqDiff, reduceIte, RM]
 refine awp_imp (imp_thaw 1 (.weak (weak_of (e := [(1, .int .i64 to), (3, .fn (.func gs) sfst scaps), (4, .ptr 0 0), (6, .refm (mkv m))]) (h := [(0, .box [.int .i64 frm])]) (nid := 2) (n := 52) ?_))) ?_
 ·simp [headW, heapW, envW, blkLt, D.ltL, D.lt, look, hget, frzHH, herase, frzBlk, frzD, sfl, scl]
 have lit1 : ∀ h nid, litOpD Tryz.prog h nid 34 1 [(0, .int .i64 frm)] = some (.osl nid 1, (nid, .arr 3 1 (intL [frm])) :: h, nid + 1) := fun h nid => lit_1 h nid frm
 refine awp_scope ?_
 refine awp_peel (T := [(6, [(16, false, false, [])])]) oNone_ok (by kernel_rfl) (by kernel_rfl) ?_
 simp only [RT, FS, ↓RE, okR, argEnv, Nat.reduceAdd, Nat.reduceSub, Nat.reduceLT, Nat.reduceLeDiff, Nat.reduceEqDiff, reduceIte, RM, intL_len, List.length_cons, List.length_nil, decide_true]
 refine awp_peel (T := [(6, [(16, false, false, [])])]) oNone_ok (by kernel_rfl) (by kernel_rfl) ?_
 simp only [RT, FS, ↓RE, okR, argEnv, Nat.reduceAdd, Nat.reduceSub, Nat.reduceLT, Nat.reduceLeDiff, Nat.reduceEqDiff, reduceIte, RM]
 have hcb : ∀ c, cellsN m c ≤ 202 := fun c => by
  unfold cellsN
  cases hv : mget m c with
  | none => simp
  | some v => have := hm.b _ _ hv; simp; omega
 refine awp_cut oNone_ok (by kernel_rfl) [(9, .ptr 3 0)] [(3, .box [.osl 2 (alongA m L frm to).length]), (2, .arr 3 1 (intL (alongA m L frm to)))] 4 52 (T := [(6, [(16, false, false, [])])]) (by kernel_rfl) ?_ ?_
 ·simp only [RT, FS, ↓RE, okR, argEnv, Nat.reduceAdd, Nat.reduceSub, Nat.reduceLT, Nat.reduceLeDiff, Nat.reduceEqDiff, reduceIte]
  generalize hR : alongA m L frm to = R
  refine loopV (ι := Nat × List Int × Int) oNone_ok [(6, [(16, false, false, [])])] (fun s => [(1, .int .i64 to), (3, .fn (.func gs) sfst scaps), (4, .ptr 0 0), (6, .refm (mkv m)), (9, .ptr 3 0)])
   (fun s => [(3, .box [.osl 2 (s.2.1.length + 1)]), (2, .arr 3 1 (intL (s.2.1 ++ [s.2.2]))), (0, .box [.int .i64 s.2.2])]) 4
   (fun s => (0 ≤ s.2.2 ∧ s.2.2 < (N : Int)) ∧ cellsN m s.2.2 < s.1 ∧ s.2.1.length + s.1 ≤ 203 ∧ s.2.1 ++ alongF m L to s.1 s.2.2 = R) (fun s => s.1) (cellsN m frm + 1, [], frm) (by kernel_rfl) (by kernel_rfl) ⟨hf, by simp, by have := hcb frm; simp; omega, by simpa [alongA] using hR⟩ ?_ ?_
  ·simp [headW, heapW, envW, blkLt, D.ltL, D.lt, look, hget, sfl, scl, icl]
   try simp [intL, enI]
  rintro ⟨fu, dn, c⟩ ⟨hc, hfu, hb, htot⟩
  dsimp only at hc hfu hb htot ⊢
  obtain ⟨fv, rfl⟩ : ∃ fv, fu = fv + 1 := ⟨fu - 1, by omega⟩
  simp only [alongF] at htot
  by_cases hct : c = to
  ·have hb1 : (c != to) = false := by simpa using hct
   rw [if_pos hct] at htot
   simp only [RT, FS, ↓RE, okR, argEnv, Nat.reduceAdd, Nat.reduceSub, Nat.reduceLT, Nat.reduceLeDiff, Nat.reduceEqDiff, reduceIte, hb1]
   subst htot
   simp [headW, heapW, envW, blkLt, D.ltL, D.lt, look, hget, sfl, scl, icl]
  have hb1 : (c != to) = true := by simpa using hct
  rw [if_neg hct] at htot
  have ps' : Pure Tryz.prog gs (sfst ++ [.int .i64 c] ++ scaps) (.fn (.func gi) [] (ic c)) := by simpa using ps c hc.1 hc.2
  simp only [RT, FS, ↓RE, okR, argEnv, Nat.reduceAdd, Nat.reduceSub, Nat.reduceLT, Nat.reduceLeDiff, Nat.reduceEqDiff, reduceIte, hb1]
  refine call_of_pure' ps' (by simp [ltL_app, D.ltL, D.lt, sfl, scl]) (by simp [D.lt, D.ltL, icl]) ?_
  simp only [RT, FS, ↓RE, okR, argEnv, Nat.reduceAdd, Nat.reduceSub, Nat.reduceLT, Nat.reduceLeDiff, Nat.reduceEqDiff, reduceIte]
  refine rangeX (α := { s : Stp // s ∈ L c }) oNone_ok [(6, [(16, false, false, [])])] (by kernel_rfl) (by kernel_rfl) (by kernel_rfl) (hq c hc.1 hc.2) cal (fun _ => rfl) (fun R n x => stp_enc R n x.1) (icl c 0)
   [(1, .int .i64 to), (3, .fn (.func gs) sfst scaps), (4, .ptr 0 0), (6, .refm (mkv m)), (9, .ptr 3 0), (20, .fn (.func gi) [] (ic c))]
   (fun xs => [(3, .box [.osl 2 (dn.length + 1)]), (2, .arr 3 1 (intL (dn ++ [c]))), (0, .box [.int .i64 c])]) 4 (fun pre => ∀ x ∈ pre, fits m c x.1 = false) (fun x hx => by cases hx) rfl (fun _ => rfl) ?_ ?_ ?_
  ·simp [headW, heapW, envW, blkLt, D.ltL, D.lt, look, hget, sfl, scl, icl]
  ·intro lo pr x hI hlen'
   have hgc : ∀ h, lookupD Tryz.prog h 100 (.mpd (mkv m)) (.int .i64 c) false = some (.agg [.int .i64 ((mget m c).getD ⟨0, 0⟩).len, .int .i64 ((mget m c).getD ⟨0, 0⟩).cells]) := fun h => by rw [md_get, valC_getD]
   have hlx := fun h => md_look h m x.1.cell
   have plen := step_length_t x.1
   have hl10 := lenS_b x.1.dx x.1.dy
   have hsnoc : ∀ b, fits m c x.1 = b → b = false → ∀ y ∈ pr ++ [x], fits m c y.1 = false := fun b hb hbf y hy => by
    rcases List.mem_append.1 hy with h | h
    ·exact hI y h
    ·simp at h; subst h; rw [hb, hbf]
   obtain ⟨⟨xc, xdx, xdy⟩, hxm⟩ := x
   dsimp only at hlx plen hl10 hsnoc
   simp only [Stp.c] at plen
   cases hmx : mget m xc with
   | none =>
    have hft : fits m c ⟨xc, xdx, xdy⟩ = false := by simp [fits, hmx]
    simp only [hmx, valC, Option.isSome_none] at hlx
    simp only [RT, FS, ↓RE, okR, argEnv, Nat.reduceAdd, Nat.reduceSub, Nat.reduceLT, Nat.reduceLeDiff, Nat.reduceEqDiff, reduceIte, RM, pe_cons, pe_nil, Array.toList, stpD, Stp.c, mr_load, hlx]
    refine ⟨hsnoc false hft rfl, ?_⟩
    simp [headW, heapW, envW, blkLt, D.ltL, D.lt, look, hget, sfl, scl, icl]
   | some v =>
    have hvb := hm.b _ _ hmx
    have w1 := wrap_i64 (z := v.len + lenS xdx xdy) (by omega) (by omega)
    have w2 := wrap_i64 (z := v.cells + 1) (by omega) (by omega)
    simp only [hmx, valC, Option.isSome_some, Cst.c] at hlx
    have hfe : ((v.len + lenS xdx xdy == ((mget m c).getD ⟨0, 0⟩).len) && (v.cells + 1 == ((mget m c).getD ⟨0, 0⟩).cells)) = fits m c ⟨xc, xdx, xdy⟩ := by simp [fits, hmx]
    cases hft : fits m c ⟨xc, xdx, xdy⟩
    ·rw [hft] at hfe
     simp only [RT, FS, ↓RE, okR, argEnv, Nat.reduceAdd, Nat.reduceSub, Nat.reduceLT, Nat.reduceLeDiff, Nat.reduceEqDiff, reduceIte, RM, pe_cons, pe_nil, Array.toList, stpD, Stp.c, mr_load, hlx, hgc, w1, w2, eql_cost]
     refine call_of_pure plen rfl ?_
     simp only [RT, FS, ↓RE, okR, argEnv, Nat.reduceAdd, Nat.reduceSub, Nat.reduceLT, Nat.reduceLeDiff, Nat.reduceEqDiff, reduceIte, RM, mr_load, hlx, hgc, w1, w2, eql_cost, hfe]
     refine ⟨hsnoc false hft rfl, ?_⟩
     simp [headW, heapW, envW, blkLt, D.ltL, D.lt, look, hget, sfl, scl, icl]
    ·rw [hft] at hfe
     have a2 := fun h nid (hb : hget h 2 = some (.arr 3 1 (intL (dn ++ [c])))) (hb2 : hget h 6 = some (.arr 3 1 [[.int .i64 xc]])) => oI_app (n := dn.length + 1) (n2 := 1) (r := [xc]) hb (by simp) hb2 rfl nid (by simp; omega)
     simp only [RT, FS, ↓RE, okR, argEnv, Nat.reduceAdd, Nat.reduceSub, Nat.reduceLT, Nat.reduceLeDiff, Nat.reduceEqDiff, reduceIte, RM, pe_cons, pe_nil, Array.toList, stpD, Stp.c, mr_load, hlx, hgc, w1, w2, eql_cost]
     refine call_of_pure plen rfl ?_
     simp only [RT, FS, ↓RE, okR, argEnv, Nat.reduceAdd, Nat.reduceSub, Nat.reduceLT, Nat.reduceLeDiff, Nat.reduceEqDiff, reduceIte, RM, mr_load, hlx, hgc, w1, w2, eql_cost, hfe, a2, intL_len, List.length_append, List.length_cons, List.length_nil, decide_true]
     refine ⟨rfl, fun hpre => ?_⟩
     have hnx : nextW m L c = some xc := by
      have hp1 : (pr.map (·.1)) ++ [(⟨xc, xdx, xdy⟩ : Stp)] <+: L c := by
       have := hpre.map (·.1)
       rw [List.map_append] at this
       have hmap : ((L c).attach.map (·.1)) = L c := List.attach_map_subtype_val _
       rw [hmap] at this
       exact this
      have hfd := find_pre hp1 (fun y hy => by
       obtain ⟨z, hz, rfl⟩ := List.mem_map.1 hy
       exact hI z hz) hft
      simp [nextW, hfd]
     have hfc := fits_cells hm hft
     rw [hnx] at htot
     refine ⟨(fv, dn ++ [c], xc), ⟨hfc.2, by simp only at hfc ⊢; omega, by simp; omega, by simpa using htot⟩, by simp only; omega, ?_⟩
     simp [headW, heapW, envW, blkLt, D.ltL, D.lt, look, hget, sfl, scl, icl]
  ·intro xs hxs hI
   subst hxs
   have hnx : nextW m L c = none := by
    have : (L c).find? (fits m c) = none := by
     rw [List.find?_eq_none]
     intro s hs
     rw [hI ⟨s, hs⟩ (List.mem_attach _ _)]
     simp
    simp [nextW, this]
   rw [hnx] at htot
   simp only [RT, FS, ↓RE, okR, argEnv, Nat.reduceAdd, Nat.reduceSub, Nat.reduceLT, Nat.reduceLeDiff, Nat.reduceEqDiff, reduceIte]
   subst htot
   simp [headW, heapW, envW, blkLt, D.ltL, D.lt, look, hget, sfl, scl, icl]
 refine awp_rest (T := [(6, [(16, false, false, [])])]) oNone_ok (by kernel_rfl) (by kernel_rfl) ?_
 simp only [RT, FS, ↓RE, okR, argEnv, Nat.reduceAdd, Nat.reduceSub, Nat.reduceLT, Nat.reduceLeDiff, Nat.reduceEqDiff, reduceIte, RM]
 simp [viewA, intL_len]
end Go.Sx.E

namespace Go.Sx.E
open Go.Proofs
set_option maxRecDepth 10000

theorem farF_ok {N : Nat} (hN : N ≤ 144) (al : Int → Bool) (L : Int → List Stp) (hL : ∀ c : Int, 0 ≤ c → c < (N : Int) → ∀ s ∈ L c, 0 ≤ s.cell ∧ s.cell < (N : Int)) : ∀ (n : Nat) {st : Mp × List Int}, FarOk N st → FarOk N (farF al L n st)
 | 0, st, h => h
 | n + 1, (m, []), h => by simpa [farF] using h
 | n + 1, (m, c :: q), h => by
  simp only [farF]
  obtain ⟨o, ho⟩ := h.q c (by simp)
  have hc := (h.key c o ho).1
  exact farF_ok hN al L hL n (relax_all hN al _ h.tail ho fun s hs => hL c hc.1 hc.2 s hs).1
theorem farA_ok {N : Nat} (hN : N ≤ 144) (al : Int → Bool) (L : Int → List Stp) (hL : ∀ c : Int, 0 ≤ c → c < (N : Int) → ∀ s ∈ L c, 0 ≤ s.cell ∧ s.cell < (N : Int)) {to : Int} (hto : 0 ≤ to ∧ to < (N : Int)) : MapOk N (farA al L to) := by
 unfold farA; split
 ·exact (farF_ok hN al L hL FUEL (farOk_start hto)).map hN
 ·exact ⟨fun k v h => by cases h⟩
end Go.Sx.E

namespace Go.Sx.E
open Go.Proofs
set_option maxRecDepth 10000

def isStr (s : Stp) : Bool := lenS s.dx s.dy == 10
def strL (w d c : Int) : List Stp := (stepsL w d c).filter isStr
abbrev StrIn (w d c : Int) := { s : Stp // s ∈ strL w d c }
def selS (w d c : Int) (x : StpIn w d c) : Option (StrIn w d c) := if h : isStr x.1 = true then some ⟨x.1, List.mem_filter.2 ⟨x.2, h⟩⟩ else none
theorem val_inj {α : Type} {p : α → Prop} : ∀ {l r : List { x : α // p x }}, l.map (·.1) = r.map (·.1) → l = r := fun h => map_inj (fun _ _ e => Subtype.ext e) h
theorem selS_val (w d c : Int) : ∀ l : List (StpIn w d c), (l.filterMap (selS w d c)).map (·.1) = (l.map (·.1)).filter isStr
 | [] => rfl
 | x :: l => by
  simp only [List.filterMap_cons, List.map_cons, List.filter_cons]
  by_cases h : isStr x.1 = true
  ·simp [selS, h, selS_val w d c l]
  ·simp [selS, h, selS_val w d c l]
theorem selS_all (w d c : Int) : (stepsL w d c).attach.filterMap (selS w d c) = (strL w d c).attach := by
 refine val_inj ?_
 rw [selS_val, List.attach_map_subtype_val, List.attach_map_subtype_val]
 rfl
theorem selS_some {w d c : Int} {x : StpIn w d c} {y : StrIn w d c} (h : selS w d c x = some y) : isStr x.1 = true ∧ y.1 = x.1 := by
 unfold selS at h
 split at h
 ·rename_i hs; cases h; exact ⟨hs, rfl⟩
 ·cases h
theorem selS_none {w d c : Int} {x : StpIn w d c} (h : selS w d c x = none) : isStr x.1 = false := by
 unfold selS at h
 split at h
 ·cases h
 ·rename_i hs; simpa using hs
theorem straight_t (fl : List D) (cell : Int) : Pure Tryz.prog 31 [.int .i64 cell, .ref [.ref fl 0] 0] (.fn (.func 32) [] [.ref [.ref fl 0] 0, .ref [.int .i64 cell] 0]) := by
 refine pure_of_wc (rs := [.tmp 3]) (m := 5) [] oNone_ok (by kernel_rfl) Tryz.func31 rfl (by kernel_rfl) rfl rfl (by kernel_rfl) ?_
 simp only [RT, FS, ↓RE, okR, argEnv, Nat.reduceAdd, Nat.reduceSub, Nat.reduceLT, Nat.reduceLeDiff, Nat.reduceEqDiff, reduceIte]
theorem wet_t (l : LandM) (hl : LandOk l) (cell : Int) (hc : 0 ≤ cell ∧ cell < (l.ground.length : Int)) : Pure Tryz.prog 36 [.int .i64 cell, .ref l.c 0] (.bool (wAt l cell.toNat)) := by
 obtain ⟨k, rfl⟩ : ∃ k : Nat, cell = (k : Int) := ⟨cell.toNat, by omega⟩
 have hw := sB_ix (hl.w_at (i := k) (by omega))
 have hlc : l.c = [.int .i64 l.wide, .int .i64 l.deep, .sl (intL l.ground), .sl (boolL l.water), .int .i64 l.clear] := rfl
 rw [hlc]
 refine pure_of_wc (rs := [.tmp 3]) (m := 9) [] oNone_ok (by kernel_rfl) Tryz.func36 rfl (by kernel_rfl) rfl rfl (by kernel_rfl) ?_
 simp only [RT, FS, ↓RE, okR, argEnv, Nat.reduceAdd, Nat.reduceSub, Nat.reduceLT, Nat.reduceLeDiff, Nat.reduceEqDiff, reduceIte, hw]
 simp
def e1S (F : List D) (cell : Int) (l : Nat) : Env := [(3, .ref [.fn (.yield l) [] []] 0), (7, .fn (.func 63) [] [.ref [.int .i64 cell] 0, .ref [.ref F 0] 0])]
def e2S (w d c : Int) (l : Nat) (x : StpIn w d c) : Env := [(3, .ref [.fn (.yield l) [] []] 0), (4, .ref x.1.c 0)]
def e3S (w d c : Int) (l : Nat) (x : StpIn w d c) (y : StrIn w d c) : Env := [(12, .bool true), (13, .fn (.yield l) [] []), (14, .agg y.1.c)]
set_option maxHeartbeats 1000000 in
theorem straight_seq (F : List D) (w d : Int) (f1 : ∀ h, loadAtD Tryz.prog h 3 (.ref F 13) = some (.int .i64 w)) (f2 : ∀ h, loadAtD Tryz.prog h 3 (.ref F 14) = some (.int .i64 d)) (hw : 1 ≤ w ∧ w ≤ 12) (hd : 1 ≤ d ∧ d ≤ 12) (cell : Int) (hc : 0 ≤ cell ∧ cell ≤ 200) (hF : D.nmL F = true) (hF0 : D.ltL 0 F = true) :
  SeqX Tryz.prog 32 [.ref [.ref F 0] 0, .ref [.int .i64 cell] 0] (fun x : StrIn w d cell => stpV x.1) (fun xs => xs = (strL w d cell).attach) (fun pre => pre <+: (strL w d cell).attach) 9 := by
 refine seqX_nestF (dsf := fun x : StrIn w d cell => stpD x.1) (ds2 := fun x : StpIn w d cell => stpD x.1) (m := 6) (j := 3) (t := 12) (n1 := 18) Tryz.func32 rfl rfl rfl e3_ok (by kernel_rfl) []
  (by kernel_rfl) (by kernel_rfl) (by kernel_rfl) (by kernel_rfl) (by kernel_rfl) (by kernel_rfl) (fun R n vs x => stp_dec R n vs x.1) (e1S F cell) ?_ (fun l => rfl) (by kernel_rfl) (by kernel_rfl) (steps_seqF F w d f1 f2 hw hd cell hc) (fun _ => rfl) (fun R n x => stp_enc R n x.1)
  (e2S w d cell) ?_ ?_ (selS w d cell) (e3S w d cell) rfl rfl rfl ?_ ?_ (fun l x y h => rfl) ?_ ?_ (fun xs h => by subst h; exact selS_all w d cell) (fun pre h => by rw [← selS_all]; exact h.filterMap _) (Nat.le_refl _)
 ·intro l
  simp only [RT, FS, ↓RE, okR, argEnv, Nat.reduceAdd, Nat.reduceSub, Nat.reduceLT, Nat.reduceLeDiff, Nat.reduceEqDiff, reduceIte, e1S, true_and]
  refine call_of_pure' (steps_t F cell) (by simp [D.ltL, D.lt, hF0]) (by simp [D.ltL, D.lt, hF0]) ?_
  simp only [RT, FS, ↓RE, okR, argEnv, Nat.reduceAdd, Nat.reduceSub, Nat.reduceLT, Nat.reduceLeDiff, Nat.reduceEqDiff, reduceIte, true_and]
  simp [headW, heapW, envW, blkLt, D.ltL, D.lt, look, hget, view, viewL, hF0, e1S]
 ·intro l x i
  simp only [e2S, look]
  split
  ·rfl
  ·split
   ·rfl
   ·rfl
 ·intro l l' x
  simp only [RT, FS, ↓RE, okR, argEnv, Nat.reduceAdd, Nat.reduceSub, Nat.reduceLT, Nat.reduceLeDiff, Nat.reduceEqDiff, reduceIte, pe_cons, pe_nil, Array.toList, stpD, Stp.c, e1S, true_and]
  simp [headW, heapW, envW, blkLt, D.ltL, D.lt, look, hget, view, viewL, e2S, Stp.c]
 ·intro l x h
  have hs := selS_none h
  have plen := step_length_t x.1
  simp only [isStr] at hs
  simp only [Stp.c] at plen
  simp only [RT, FS, ↓RE, okR, argEnv, Nat.reduceAdd, Nat.reduceSub, Nat.reduceLT, Nat.reduceLeDiff, Nat.reduceEqDiff, reduceIte, e2S, Stp.c]
  refine call_of_pure plen rfl ?_
  simp only [RT, FS, ↓RE, okR, argEnv, Nat.reduceAdd, Nat.reduceSub, Nat.reduceLT, Nat.reduceLeDiff, Nat.reduceEqDiff, reduceIte, hs]
 ·intro l x y h
  have hs := (selS_some h).1
  have hy := (selS_some h).2
  have plen := step_length_t x.1
  simp only [isStr] at hs
  simp only [Stp.c] at plen
  simp only [RT, FS, ↓RE, okR, argEnv, Nat.reduceAdd, Nat.reduceSub, Nat.reduceLT, Nat.reduceLeDiff, Nat.reduceEqDiff, reduceIte, e2S, Stp.c, List.take_succ_cons, List.take_zero]
  refine call_of_pure plen rfl ?_
  simp only [RT, FS, ↓RE, okR, argEnv, Nat.reduceAdd, Nat.reduceSub, Nat.reduceLT, Nat.reduceLeDiff, Nat.reduceEqDiff, reduceIte, hs]
  simp [headW, heapW, envW, blkLt, D.ltL, D.lt, look, hget, view, viewL, e3S, hy, Stp.c]
 ·intro l x y h
  simp [yieldF, e3S, evO, look, stpD]
 ·intro l x y h r
  have hb : flat1 (.bool true) = true := rfl
  simp only [flS, e3S, List.map_cons, List.map_nil, hb, if_true]
  generalize (if flat1 (D.fn (.yield l) [] []) = true then D.fn (.yield l) [] [] else D.any) = A
  generalize (if flat1 (D.agg y.1.c) = true then D.agg y.1.c else D.any) = B
  simp only [RT, FS, ↓RE, okR, argEnv, Nat.reduceAdd, Nat.reduceSub, Nat.reduceLT, Nat.reduceLeDiff, Nat.reduceEqDiff, reduceIte, List.drop_succ_cons, List.drop_zero]
  try (cases r <;> rfl)
end Go.Sx.E

namespace Go.Sx.E
open Go.Proofs
set_option maxRecDepth 10000

noncomputable abbrev e4 : List (FuncId × (List D → Option D)) := (30, gCe) :: e3

theorem e4_ok : OkO Tryz.prog (mkO e4) := 
 mkO_ok (orcF_ok fun p h => run_cell_t p.1 h p.2) <| e3_ok

theorem cellB_ok {l : LandM} (hl : LandL l) {n : Int} (h : cellB l n = true) : 0 ≤ n ∧ n < (l.ground.length : Int) := by
 simp only [cellB, rI, Bool.and_eq_true, decide_eq_true_eq] at h; omega

end Go.Sx.E

namespace Go.Sx.E
open Go.Proofs
set_option maxRecDepth 10000

theorem clip_t (xs : List (List D)) (hx : xs.length ≤ 9223372036854775807) : Pure Tryz.prog 37 [.sl xs] (.sl xs) := by
 refine pure_of_pieces (rs := [.tmp 2]) (m := 9) [] oNone_ok (by kernel_rfl) Tryz.func37 rfl (by kernel_rfl) rfl rfl (by kernel_rfl) ?_
 refine awp_peel (T := []) oNone_ok (by kernel_rfl) (by kernel_rfl) ?_
 simp only [RT, FS, ↓RE, okR, argEnv, Nat.reduceAdd, Nat.reduceSub, Nat.reduceLT, Nat.reduceLeDiff, Nat.reduceEqDiff, reduceIte]
 refine awp_seq (awp_region (aops_cut (m := 5) oNone_ok rfl rfl ?_))
 simp only [RT, FS, ↓RE, okR, argEnv, Nat.reduceAdd, Nat.reduceSub, Nat.reduceLT, Nat.reduceLeDiff, Nat.reduceEqDiff, reduceIte, List.take_succ_cons, List.take_zero, List.drop_succ_cons, List.drop_zero]
 refine opOk_slice3 (es := xs) rfl Fz.und_34 Fz.size_3 rfl rfl rfl ?_
 simp only [RT, FS, ↓RE, okR, argEnv, Nat.reduceAdd, Nat.reduceSub, Nat.reduceLT, Nat.reduceLeDiff, Nat.reduceEqDiff, reduceIte]
 refine awp_rest (T := []) oNone_ok (by kernel_rfl) (by kernel_rfl) ?_
 simp only [RT, FS, ↓RE, okR, argEnv, Nat.reduceAdd, Nat.reduceSub, Nat.reduceLT, Nat.reduceLeDiff, Nat.reduceEqDiff, reduceIte]
def wetB (l : LandM) (x : Int) : Bool := wAt l x.toNat
def costsT (l : LandM) (to : Int) : Mp := farA (wetB l) (strL l.wide l.deep) to
def taxiA (l : LandM) (frm to : Int) : List Int := alongA (costsT l to) (strL l.wide l.deep) frm to
def TaxiD (l : LandM) (frm to : Int) : D := if (cellB l frm && cellB l to) = true then (match mget (costsT l to) frm with
 | none => .tup [.nils, .int .i64 5]
 | some _ => .tup [.sl (intL (taxiA l frm to)), .int .i64 0]) else .tup [.nils, .int .i64 2]
def flZ (l : LandM) : List D := [.nils, .nils, .int .i64 0, .int .i64 0, .int .i64 0, .int .i64 0, .int .i64 0, .int .i64 0, .int .i64 0, .int .i64 0, .int .i64 0, .nils, .int .i64 0, .int .i64 l.wide, .int .i64 l.deep, .sl (intL l.ground), .sl (boolL l.water), .int .i64 l.clear, .int .i64 0, .int .i64 0, .int .i64 0, .int .i64 0, .int .i64 0]
theorem str_ok {l : LandM} (hl : LandOk l) : ∀ c : Int, 0 ≤ c → c < (l.ground.length : Int) → ∀ s ∈ strL l.wide l.deep c, 0 ≤ s.cell ∧ s.cell < (l.ground.length : Int) := fun c h0 h1 s hs => by
 have hsz := hl.size
 obtain ⟨j, hj, he⟩ := mem_steps (List.mem_filter.1 hs).1
 have := stepAt_ok hl.wide.1 ⟨h0, by omega⟩ hj he
 omega
theorem walk_str (l : LandM) (hl : LandOk l) : Walk l.ground.length (wetB l) (strL l.wide l.deep) 36 [] [.ref l.c 0] 31 [] [.ref [.ref (flZ l) 0] 0] 32 (fun x => [.ref [.ref (flZ l) 0] 0, .ref [.int .i64 x] 0]) := by
 have hs := hl.small
 have hsz := hl.size
 refine ⟨hs.2, fun m => rfl, fun m => rfl, fun h c => rfl, fun x h0 h1 => wet_t l hl x ⟨h0, h1⟩, fun m => rfl, fun m => rfl, fun x _ _ => straight_t _ x, fun x m => rfl, by kernel_rfl, fun x h0 h1 => ?_, fun x h0 h1 s hsx => ?_⟩
 ·exact straight_seq (flZ l) l.wide l.deep (fun h => by kernel_rfl) (fun h => by kernel_rfl) hl.wide hl.deep x ⟨h0, by omega⟩ (by kernel_rfl) (by kernel_rfl)
 ·obtain ⟨j, hj, he⟩ := mem_steps (List.mem_filter.1 hsx).1
  have := stepAt_ok hl.wide.1 ⟨h0, by omega⟩ hj he
  exact ⟨by omega, this.2.1⟩
theorem alongF_len (m : Mp) (L : Int → List Stp) (to : Int) : ∀ (n : Nat) (c : Int), (alongF m L to n c).length ≤ n + 1
 | 0, c => by simp [alongF]
 | n + 1, c => by
  simp only [alongF]
  split
  ·simp
  ·split
   ·rename_i d _; have := alongF_len m L to n d; simp; omega
   ·simp
theorem along_len {N : Nat} {m : Mp} (hm : MapOk N m) (L : Int → List Stp) (frm to : Int) : (alongA m L frm to).length ≤ 204 := by
 have h := alongF_len m L to (cellsN m frm + 1) frm
 have hc : cellsN m frm ≤ 202 := by
  unfold cellsN
  cases hv : mget m frm with
  | none => simp
  | some v => have := hm.b _ _ hv; simp; omega
 unfold alongA; omega
set_option maxHeartbeats 4000000 in
theorem run_Taxi_t (l : LandM) (hl : LandL l) (frm to : Int) : Pure Tryz.prog 9 [.agg l.c, .int .i64 frm, .int .i64 to] (TaxiD l frm to) := by
 have oc1 := gCe_eq hl frm
 have oc2 := gCe_eq hl to
 have hlc : l.c = [.int .i64 l.wide, .int .i64 l.deep, .sl (intL l.ground), .sl (boolL l.water), .int .i64 l.clear] := rfl
 have ll : ∀ m, D.ltL m l.c = true := fun m => rfl
 unfold TaxiD
 rw [hlc] at oc1 oc2 ⊢
 cases h1 : cellB l frm
 ·rw [h1] at oc1
  refine pure_of_wc (rs := [.tmp 6, .tmp 7]) (m := 45) [] e4_ok (by kernel_rfl) Tryz.func9 rfl (by kernel_rfl) rfl rfl (by kernel_rfl) ?_
  simp only [RT, FS, ↓RE, okR, argEnv, Nat.reduceAdd, Nat.reduceSub, Nat.reduceLT, Nat.reduceLeDiff, Nat.reduceEqDiff, reduceIte, RM, oc1]
  simp
 rw [h1] at oc1
 cases h2 : cellB l to
 ·rw [h2] at oc2
  refine pure_of_wc (rs := [.tmp 6, .tmp 7]) (m := 45) [] e4_ok (by kernel_rfl) Tryz.func9 rfl (by kernel_rfl) rfl rfl (by kernel_rfl) ?_
  simp only [RT, FS, ↓RE, okR, argEnv, Nat.reduceAdd, Nat.reduceSub, Nat.reduceLT, Nat.reduceLeDiff, Nat.reduceEqDiff, reduceIte, RM, oc1, oc2]
  simp
 rw [h2] at oc2
 have hfr := cellB_ok hl h1
 have hto := cellB_ok hl h2
 have hb : landB l = true := by simp only [cellB, Bool.and_eq_true] at h1; exact h1.1
 have hk := land_ok hl hb
 have hs := hk.small
 have W := walk_str l hk
 have p2 := far_t W to hto
 have hmok : MapOk l.ground.length (costsT l to) := farA_ok W.n _ _ (str_ok hk) hto
 have p3 := along_t W.n (m := costsT l to) hmok W.sfl W.scl W.s W.icl W.cal W.q frm to hfr
 have e2 : farA (wetB l) (strL l.wide l.deep) to = costsT l to := rfl
 have e3 : alongA (costsT l to) (strL l.wide l.deep) frm to = taxiA l frm to := rfl
 rw [e2] at p2
 rw [e3] at p3
 have hlen : (taxiA l frm to).length ≤ 9223372036854775807 := by
  have := along_len hmok (strL l.wide l.deep) frm to
  unfold taxiA; omega
 have p4 := clip_t (intL (taxiA l frm to)) (by rw [intL_len]; exact hlen)
 generalize taxiA l frm to = R at *
 have hlk := fun hh => md_look hh (costsT l to) frm
 generalize costsT l to = M at *
 have hZ : [D.nils, .nils, .int .i64 0, .int .i64 0, .int .i64 0, .int .i64 0, .int .i64 0, .int .i64 0, .int .i64 0, .int .i64 0, .int .i64 0, .nils, .int .i64 0, .int .i64 l.wide, .int .i64 l.deep, .sl (intL l.ground), .sl (boolL l.water), .int .i64 l.clear, .int .i64 0, .int .i64 0, .int .i64 0, .int .i64 0, .int .i64 0] = flZ l := rfl
 refine pure_of_pieces (rs := [.tmp 6, .tmp 7]) (m := 45) [] e4_ok (by kernel_rfl) Tryz.func9 rfl (by kernel_rfl) rfl rfl (by kernel_rfl) ?_
 refine awp_peel (T := []) e4_ok (by kernel_rfl) (by kernel_rfl) ?_
 simp only [RT, FS, ↓RE, okR, argEnv, Nat.reduceAdd, Nat.reduceSub, Nat.reduceLT, Nat.reduceLeDiff, Nat.reduceEqDiff, reduceIte, RM]
 refine awp_peel (T := []) e4_ok (by kernel_rfl) (by kernel_rfl) ?_
 simp only [RT, FS, ↓RE, okR, argEnv, Nat.reduceAdd, Nat.reduceSub, Nat.reduceLT, Nat.reduceLeDiff, Nat.reduceEqDiff, reduceIte, RM, oc1, oc2]
 refine awp_peel (T := []) e4_ok (by kernel_rfl) (by kernel_rfl) ?_
 simp only [RT, FS, ↓RE, okR, argEnv, Nat.reduceAdd, Nat.reduceSub, Nat.reduceLT, Nat.reduceLeDiff, Nat.reduceEqDiff, reduceIte, RM]
 refine awp_imp (imp_thaw 1 (.weak (weak_of (e := [(1, .int .i64 frm), (2, .int .i64 to), (3, .ptr 0 0), (8, .ptr 2 0)]) (h := [(2, .box [.ref (flZ l) 0]), (0, .box l.c)]) (nid := 3) (n := 45) ?_))) ?_
 ·simp [headW, heapW, envW, blkLt, D.ltL, D.lt, look, hget, frzHH, herase, frzBlk, frzD, hlc, flZ]
 refine awp_imp (imp_view (e := [(1, .int .i64 frm), (2, .int .i64 to), (3, .ref l.c 0), (8, .ref [.ref (flZ l) 0] 0)]) (h' := []) (nid' := 0) (n' := 45) ?_) ?_
 ·simp [headW, heapW, envW, blkLt, D.ltL, D.lt, look, hget, view, viewL, hlc, flZ]
 refine awp_peel (T := []) e4_ok (by kernel_rfl) (by kernel_rfl) ?_
 simp only [RT, FS, ↓RE, okR, argEnv, Nat.reduceAdd, Nat.reduceSub, Nat.reduceLT, Nat.reduceLeDiff, Nat.reduceEqDiff, reduceIte, RM]
 refine awp_peel (T := []) e4_ok (by kernel_rfl) (by kernel_rfl) ?_
 simp only [RT, FS, ↓RE, okR, argEnv, Nat.reduceAdd, Nat.reduceSub, Nat.reduceLT, Nat.reduceLeDiff, Nat.reduceEqDiff, reduceIte, RM]
 refine call_of_free p2 (by simp [D.frL, D.fr, flZ, hlc]) (by simp [D.fr]) ?_
 simp only [RT, FS, ↓RE, okR, argEnv, Nat.reduceAdd, Nat.reduceSub, Nat.reduceLT, Nat.reduceLeDiff, Nat.reduceEqDiff, reduceIte, RM]
 cases hm : mget M frm with
 | none =>
  rw [hm] at hlk
  simp only [valC, Option.isSome_none] at hlk
  refine awp_rest (T := []) e4_ok (by kernel_rfl) (by kernel_rfl) ?_
  simp only [RT, FS, ↓RE, okR, argEnv, Nat.reduceAdd, Nat.reduceSub, Nat.reduceLT, Nat.reduceLeDiff, Nat.reduceEqDiff, reduceIte, RM, hlk]
 | some v =>
  rw [hm] at hlk
  simp only [valC, Option.isSome_some, Cst.c] at hlk
  refine awp_rest (T := []) e4_ok (by kernel_rfl) (by kernel_rfl) ?_
  simp only [RT, FS, ↓RE, okR, argEnv, Nat.reduceAdd, Nat.reduceSub, Nat.reduceLT, Nat.reduceLeDiff, Nat.reduceEqDiff, reduceIte, RM, hlk]
  refine call_of_free p3 (by simp [D.frL, D.fr, flZ]) (by simp [D.fr]) ?_
  simp only [RT, FS, ↓RE, okR, argEnv, Nat.reduceAdd, Nat.reduceSub, Nat.reduceLT, Nat.reduceLeDiff, Nat.reduceEqDiff, reduceIte, RM]
  refine call_of_free p4 (by simp [D.frL, D.fr]) (by simp [D.fr]) ?_
  simp only [RT, FS, ↓RE, okR, argEnv, Nat.reduceAdd, Nat.reduceSub, Nat.reduceLT, Nat.reduceLeDiff, Nat.reduceEqDiff, reduceIte, RM]
end Go.Sx.E

namespace Go.Sx.E
open Go.Proofs
set_option maxRecDepth 10000

theorem relaxF_al {al : Int → Bool} {c : Int} {st : Mp × List Int} {s : Stp} (h : ∀ k v, mget st.1 k = some v → al k = true) : ∀ k v, mget (relaxF al c st s).1 k = some v → al k = true := by
 intro k v
 unfold relaxF
 by_cases ha : al s.cell = true
 ·have key : ∀ x : Cst, mget (mput st.1 s.cell x) k = some v → al k = true := fun x hk => by
   rw [mget_put] at hk
   split at hk
   ·rename_i e; rw [e]; exact ha
   ·exact h k v hk
  rw [if_pos ha]
  split
  ·split
   ·exact key _
   ·exact h k v
  ·exact key _
 ·rw [if_neg ha]; exact h k v
theorem relaxL_al {al : Int → Bool} {c : Int} : ∀ (l : List Stp) {st : Mp × List Int}, (∀ k v, mget st.1 k = some v → al k = true) → ∀ k v, mget (l.foldl (relaxF al c) st).1 k = some v → al k = true
 | [], _, h => h
 | s :: l, _, h => relaxL_al l (relaxF_al (s := s) h)
theorem farF_al {al : Int → Bool} {L : Int → List Stp} : ∀ (n : Nat) {st : Mp × List Int}, (∀ k v, mget st.1 k = some v → al k = true) → ∀ k v, mget (farF al L n st).1 k = some v → al k = true
 | 0, _, h => h
 | n + 1, st, h => by
  unfold farF
  split
  ·exact h
  ·rename_i c q hq
   exact farF_al n (relaxL_al (L c) (st := (st.1, q)) h)
theorem farA_al {al : Int → Bool} {L : Int → List Stp} {to k : Int} {v : Cst} (h : mget (farA al L to) k = some v) : al k = true := by
 unfold farA at h
 split at h
 ·rename_i ha
  refine farF_al FUEL (fun k v hk => ?_) k v h
  simp only [mget] at hk
  split at hk
  ·rename_i e; rw [e]; exact ha
  ·cases hk
 ·cases h
theorem alongF_has {m : Mp} {L : Int → List Stp} {to : Int} : ∀ (n : Nat) {c : Int}, (∃ v, mget m c = some v) → ∀ x ∈ alongF m L to n c, ∃ v, mget m x = some v
 | 0, c, h, x, hx => by simp only [alongF, List.mem_singleton] at hx; subst hx; exact h
 | n + 1, c, h, x, hx => by
  simp only [alongF] at hx
  split at hx
  ·simp only [List.mem_singleton] at hx; subst hx; exact h
  ·split at hx
   ·rename_i d hd
    rcases List.mem_cons.1 hx with rfl | hx
    ·exact h
    ·refine alongF_has n ?_ x hx
     simp only [nextW, Option.map_eq_some_iff] at hd
     obtain ⟨s, hs, rfl⟩ := hd
     have := List.find?_some hs
     unfold fits at this
     split at this
     ·rename_i v hv; exact ⟨v, hv⟩
     ·cases this
   ·simp only [List.mem_singleton] at hx; subst hx; exact h
theorem taxi_cells {l : LandM} (hl : LandOk l) {frm to : Int} (hto : 0 ≤ to ∧ to < (l.ground.length : Int)) {v : Cst} (hv : mget (costsT l to) frm = some v) : ∀ x ∈ taxiA l frm to, (0 ≤ x ∧ x < (l.ground.length : Int)) ∧ wAt l x.toNat = true := by
 intro x hx
 obtain ⟨u, hu⟩ := alongF_has _ ⟨v, hv⟩ x hx
 have hm : MapOk l.ground.length (costsT l to) := farA_ok hl.small.2 _ _ (str_ok hl) hto
 exact ⟨(hm.b _ _ hu).1, farA_al hu⟩
end Go.Sx.E
