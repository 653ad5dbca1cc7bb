/- Own work: a calculus of contracts for the programs of this kit: parts SxE17t, SxE18t, SxE19t, SxE20t. -/
import Derived.Test.YtaifjmjooapmhaaGreatSxTf
import Derived.Test.YtaifjmjooapmhaaGreatSxMh
set_option linter.unusedVariables false
set_option linter.unusedSimpArgs false
namespace Go.Sx.E
open Go.Proofs
set_option maxRecDepth 10000

def foldMin (f : Stp → Option Int) (l : List Stp) (a : Int) : Int := l.foldl (fun acc s => match f s with | some v => min acc v | none => acc) a
theorem foldMin_le (f : Stp → Option Int) : ∀ (l : List Stp) (a : Int), foldMin f l a ≤ a
 | [], a => by simp [foldMin]
 | s :: l, a => by
  have := foldMin_le f l (match f s with | some v => min a v | none => a)
  simp only [foldMin, List.foldl_cons] at this ⊢
  refine Int.le_trans this ?_
  cases f s with
  | none => exact Int.le_refl _
  | some v => exact Int.min_le_left _ _
theorem foldMin_ge (f : Stp → Option Int) (b : Int) : ∀ (l : List Stp) (a : Int), b ≤ a → (∀ s ∈ l, ∀ v, f s = some v → b ≤ v) → b ≤ foldMin f l a
 | [], a, h, _ => by simpa [foldMin] using h
 | s :: l, a, h, hv => by
  simp only [foldMin, List.foldl_cons]
  refine foldMin_ge f b l _ ?_ fun s' hs' => hv s' (by simp [hs'])
  cases hf : f s with
  | none => exact h
  | some v => have := hv s (by simp) v hf; simp only; omega
theorem foldMin_snoc (f : Stp → Option Int) (l : List Stp) (s : Stp) (a : Int) : foldMin f (l ++ [s]) a = match f s with | some v => min (foldMin f l a) v | none => foldMin f l a := by
 simp [foldMin]
def roundsF (step : List Int → List Int) : Nat → List Int → List (List Int)
 | 0, now => [now]
 | n + 1, now => if step now = now then [now] else now :: roundsF step n (step now)
def sumN : List Int → Nat
 | [] => 0
 | x :: l => x.toNat + sumN l
def nAt (now : List Int) (i : Nat) : Int := now[i]?.getD 0
section
variable (c : Craft) (a : AirW) (ce : Int) (l : LandM)
def viaN (now : List Int) (i : Nat) (s : Stp) : Option Int := if nAt now s.cell.toNat < 1000000 then some (max (bareI l i) (needF c a ce s (nAt now s.cell.toNat))) else none
def cellN (now : List Int) (i : Nat) : Int := if wAt l i then nAt now i else foldMin (viaN c a ce l now i) (stepsL l.wide l.deep i) (nAt now i)
def stepN (now : List Int) : List Int := (List.range l.ground.length).map (cellN c a ce l now)
def startN : List Int := (List.range l.ground.length).map fun i => if wAt l i then bareI l i else 1000000
def withinF : List (List Int) := roundsF (stepN c a ce l) (sumN (startN l) + 1) (startN l)
def needsF : List Int := (withinF c a ce l).getLastD []
end
structure NowOk (l : LandM) (now : List Int) : Prop where
 len : now.length = l.ground.length
 b : ∀ i, i < l.ground.length → 0 ≤ nAt now i ∧ nAt now i ≤ 1000000
theorem NowOk.at_ {l : LandM} {now : List Int} (h : NowOk l now) {i : Nat} (hi : i < l.ground.length) : now[i]? = some (nAt now i) := by
 have : i < now.length := by rw [h.len]; exact hi
 simp [nAt, this]
theorem map_at {n : Nat} (f : Nat → Int) {i : Nat} (hi : i < n) : nAt ((List.range n).map f) i = f i := by simp [nAt, hi]
theorem LandOk.bound {l : LandM} (hl : LandOk l) {i : Nat} (hi : i < l.ground.length) : 0 ≤ (i : Int) ∧ (i : Int) < l.wide * l.deep := by
 have := hl.size; omega
theorem steps_in {l : LandM} (hl : LandOk l) {i : Nat} (hi : i < l.ground.length) {s : Stp} (h : s ∈ stepsL l.wide l.deep i) : s.cell.toNat < l.ground.length ∧ ((s.cell.toNat : Nat) : Int) = s.cell ∧ DirOk s := by
 obtain ⟨j, hj, he⟩ := mem_steps h
 have := stepAt_ok hl.wide.1 (hl.bound hi) hj he
 have hs := hl.size
 exact ⟨by omega, by omega, this.2.1⟩
section
variable {c : Craft} (hc : CraftOk c) {a : AirW} (ha : AirOk a) {l : LandM} (hl : LandOk l) (ce : Int)
include hl in
theorem startN_ok : NowOk l (startN l) := ⟨by simp [startN], fun i hi => by
 unfold startN
 rw [map_at _ hi]
 split
 ·have := bareI_b hl hi; omega
 ·omega⟩
include hl in
theorem viaN_ge {now : List Int} (hn : NowOk l now) {i : Nat} (hi : i < l.ground.length) {s : Stp} (hs : s ∈ stepsL l.wide l.deep i) {v : Int} (hv : viaN c a ce l now i s = some v) : 0 ≤ v := by
 obtain ⟨h1, h2, h3⟩ := steps_in hl hi hs
 unfold viaN at hv
 split at hv
 ·cases hv
  have := bareI_b hl hi
  omega
 ·cases hv
include hl in
theorem cellN_b {now : List Int} (hn : NowOk l now) {i : Nat} (hi : i < l.ground.length) : 0 ≤ cellN c a ce l now i ∧ cellN c a ce l now i ≤ nAt now i := by
 have hb := hn.b i hi
 unfold cellN
 split
 ·omega
 ·exact ⟨foldMin_ge _ 0 _ _ hb.1 fun s hs v hv => viaN_ge hl ce hn hi hs hv, foldMin_le _ _ _⟩
include hl in
theorem stepN_ok {now : List Int} (hn : NowOk l now) : NowOk l (stepN c a ce l now) := ⟨by simp [stepN], fun i hi => by
 unfold stepN
 rw [map_at _ hi]
 have h1 := cellN_b (c := c) (a := a) hl ce hn hi
 have h2 := hn.b i hi
 omega⟩
end
theorem sumN_le : ∀ {a b : List Int}, a.length = b.length → (∀ i, i < a.length → 0 ≤ nAt b i ∧ nAt b i ≤ nAt a i) → sumN b ≤ sumN a ∧ (b ≠ a → sumN b < sumN a)
 | [], [], _, _ => ⟨Nat.le_refl _, fun h => absurd rfl h⟩
 | x :: a, y :: b, hl, h => by
  have h0 := h 0 (by simp)
  simp [nAt] at h0
  have hr := sumN_le (a := a) (b := b) (by simpa using hl) fun i hi => by simpa [nAt] using h (i + 1) (by simpa using hi)
  simp only [sumN]
  refine ⟨by omega, fun hne => ?_⟩
  by_cases hxy : y = x
  ·have : b ≠ a := fun e => hne (by rw [hxy, e])
   have := hr.2 this
   omega
  ·omega
theorem roundsF_ne (step : List Int → List Int) : ∀ (n : Nat) (now : List Int), roundsF step n now ≠ []
 | 0, _ => by simp [roundsF]
 | n + 1, now => by simp only [roundsF]; split <;> simp
theorem sumN_bound : ∀ {l : List Int} {b : Nat}, (∀ x ∈ l, x ≤ b) → sumN l ≤ l.length * b
 | [], b, _ => by simp [sumN]
 | x :: l, b, h => by
  have h1 := h x (by simp)
  have h2 := sumN_bound (l := l) (b := b) fun y hy => h y (by simp [hy])
  simp only [sumN, List.length_cons, Nat.add_mul, Nat.one_mul]
  omega
end Go.Sx.E

namespace Go.Sx.E
open Go.Proofs
set_option maxRecDepth 10000

theorem make_int (h : H) (nid n : Nat) (hn : n ≤ 1000) : makeD Tryz.prog h nid 34 (.int .i64 (n : Int)) (.int .i64 (n : Int)) = some (.osl nid n, (nid, .arr 3 1 (intL (List.replicate n 0))) :: h, nid + 1) := by
 have hb : Tryz.prog.bytesOf 3 = 8 := Fz.bytes_3_34
 have h1 : (8 : Int) * (n : Int) ≤ 281474976710656 := by omega
 have h2 : (n : Int) ≤ 9223372036854775807 := by omega
 simp [makeD, Fz.und_34, Fz.size_3, Fz.zero_3, hb, h1, h2, intL, enI]
def rowsD (ll : List (List Int)) : List (List D) := ll.map fun r => [.sl (intL r)]
theorem range_upto (n : Nat) (f g : Nat → Int) {i : Nat} (hi : i < n) : ((List.range n).map fun j => if j < i then f j else g j).set i (f i) = (List.range n).map fun j => if j < i + 1 then f j else g j := by
 apply List.ext_getElem?
 intro j
 rw [List.getElem?_set]
 by_cases hj : j < n
 ·by_cases h : i = j
  ·subst h; simp [hj]
  ·simp only [h, if_false, List.getElem?_map, List.getElem?_range hj, Option.map_some]
   have : (j < i) ↔ (j < i + 1) := by omega
   simp [this]
 ·simp only [List.length_map, List.length_range]
  have h1 : i ≠ j := by omega
  simp [h1, List.getElem?_eq_none (show (List.range n).length ≤ j by simp; omega)]
theorem litR (h : H) (nid : Nat) (x : List (List D)) : litOpD Tryz.prog h nid 153 1 [(0, .sl x)] = some (.osl nid 1, (nid, .arr 34 1 [[.sl x]]) :: h, nid + 1) := by kernel_rfl
theorem rowsD_len (l : List (List Int)) : (rowsD l).length = l.length := by simp [rowsD]
theorem oR_app {h : H} {b n b2 : Nat} {L : List (List Int)} {r : List Int} (hb : hget h b = some (.arr 34 1 (rowsD L))) (hn : L.length = n) (hb2 : hget h b2 = some (.arr 34 1 [[.sl (intL r)]])) (nid : Nat) (hc : L.length ≤ 1000000000000) :
  appE Tryz.prog h nid 153 153 (.osl b n) (.osl b2 1) = some (.osl b (n + 1), hset h b (.arr 34 1 (rowsD (L ++ [r]))), nid) := by
 rw [app_osl Fz.und_153 Fz.size_34 Fz.zero_34 rfl (by omega) Fz.bytes_34_153 h nid b n b2 1 hb (by rw [rowsD_len, hn]) hb2 rfl rfl (by simp [rowsD_len]; omega) (by simp [rowsD_len]; omega)]
 simp [rowsD, hn]
theorem startN_sum {l : LandM} (hl : LandOk l) : sumN (startN l) ≤ 144000000 := by
 have hso := startN_ok hl
 obtain ⟨B, hB⟩ : ∃ B : Nat, B = 1000000 := ⟨_, rfl⟩
 have h1 := sumN_bound (l := startN l) (b := B) fun x hx => by
  obtain ⟨i, hi⟩ := List.getElem?_of_mem hx
  have hlt := lt_of_getElem? hi
  have := hso.b i (by rw [← hso.len]; exact hlt)
  simp only [nAt, hi, Option.getD_some] at this
  omega
 have h2 := hso.len
 have h4 := hl.small
 have h3 : (startN l).length * B ≤ 144 * B := Nat.mul_le_mul_right _ (by omega)
 omega
set_option maxHeartbeats 1000000 in
theorem within_t (c : Craft) (hc : CraftOk c) (l : LandM) (hl : LandOk l) (a : AirW) (ha : AirOk a) (ce : Int) :
  Pure Tryz.prog 69 [.ref (flO c l a ce) 0] (.sl (rowsD (withinF c a ce l))) := by
 have pb := fun i hi => bare_t c l hl a ce i hi
 generalize hF : flO c l a ce = F at *
 have f1 : ∀ h, loadAtD Tryz.prog h 34 (.ref F 15) = some (.sl (intL l.ground)) := fun h => by rw [← hF]; kernel_rfl
 have f2 : ∀ h, loadAtD Tryz.prog h 35 (.ref F 16) = some (.sl (boolL l.water)) := fun h => by rw [← hF]; kernel_rfl
 have hsm := hl.small
 generalize hn : l.ground.length = n at *
 have mk := fun h nid => make_int h nid n (by omega)
 refine pure_of_pieces (rs := [.tmp 2]) (m := 100) [(8, [(7, false, false, [])]), (15, [(8, false, false, [])]), (19, [(23, false, false, [])])] oNone_ok (by kernel_rfl) Tryz.func69 rfl (by kernel_rfl) rfl rfl (by kernel_rfl) ?_
 refine awp_peel (T := [(8, [(7, false, false, [])]), (15, [(8, false, false, [])]), (19, [(23, false, false, [])])]) oNone_ok (by kernel_rfl) (by kernel_rfl) ?_
 simp only [RT, FS, ↓RE, okR, argEnv, Nat.reduceAdd, Nat.reduceSub, Nat.reduceLT, Nat.reduceLeDiff, Nat.reduceEqDiff, reduceIte]
 refine awp_peel (T := [(8, [(7, false, false, [])]), (15, [(8, false, false, [])]), (19, [(23, false, false, [])])]) oNone_ok (by kernel_rfl) (by kernel_rfl) ?_
 simp only [RT, FS, ↓RE, okR, argEnv, Nat.reduceAdd, Nat.reduceSub, Nat.reduceLT, Nat.reduceLeDiff, Nat.reduceEqDiff, reduceIte, f1, intL_len, hn]
 refine awp_peel (T := [(8, [(7, false, false, [])]), (15, [(8, false, false, [])]), (19, [(23, false, false, [])])]) oNone_ok (by kernel_rfl) (by kernel_rfl) ?_
 simp only [RT, FS, ↓RE, okR, argEnv, Nat.reduceAdd, Nat.reduceSub, Nat.reduceLT, Nat.reduceLeDiff, Nat.reduceEqDiff, reduceIte, mk, cells_osl, cur_osl, curC_arr, intL_len, List.length_replicate, decide_true]
 -- the first loop
 refine awp_cut oNone_ok (by kernel_rfl) [(1, .ptr 0 0), (4, .ptr 2 0)] [(2, .box [.osl 1 n]), (1, .arr 3 1 (intL (startN l))), (0, .box [.ref F 0])] 3 100 (T := [(8, [(7, false, false, [])]), (15, [(8, false, false, [])]), (19, [(23, false, false, [])])]) (by kernel_rfl) ?_ ?_
 ·have o1 := fun h (x : List Int) (hx : x.length = n) (hb : hget h 1 = some (.arr 3 1 (intL x))) => oI_len (n := n) hb hx
  have o1 := fun h (hb : hget h 1 = some (.arr 3 1 (intL (List.replicate n 0)))) => o1 h _ (by simp) hb
  simp only [RT, FS, ↓RE, okR, argEnv, Nat.reduceAdd, Nat.reduceSub, Nat.reduceLT, Nat.reduceLeDiff, Nat.reduceEqDiff, reduceIte, o1]
  have hup : ∀ i : Nat, ((List.range n).map fun j => if j < i then (if wAt l j then bareI l j else 1000000) else 0).length = n := fun i => by simp
  refine loopV (ι := Nat) oNone_ok [(8, [(7, false, false, [])]), (15, [(8, false, false, [])]), (19, [(23, false, false, [])])] (fun i => [(1, .ptr 0 0), (4, .ptr 2 0), (19, .int .i64 (n : Int)), (20, .int .i64 (i : Int))])
   (fun i => [(2, .box [.osl 1 n]), (1, .arr 3 1 (intL ((List.range n).map fun j => if j < i then (if wAt l j then bareI l j else 1000000) else 0))), (0, .box [.ref F 0])]) 3 (fun i => i ≤ n) (fun i => n - i) 0 (by kernel_rfl) (by kernel_rfl) (Nat.zero_le _) ?_ ?_
  ·have h0 : ((List.range n).map fun j => if j < 0 then (if wAt l j then bareI l j else 1000000) else 0) = List.replicate n (0 : Int) := by
    apply List.ext_getElem <;> simp
   rw [h0]
   simp [headW, heapW, envW, blkLt, D.ltL, D.lt, look, hget]
  intro i hi
  rcases Nat.lt_or_ge i n with hlt | hge
  rotate_left
  ·have hq : ((i : Int) < (n : Int)) = False := by simp; omega
   have hin : i = n := by omega
   subst hin
   simp only [RT, FS, ↓RE, okR, argEnv, Nat.reduceAdd, Nat.reduceSub, Nat.reduceLT, Nat.reduceLeDiff, Nat.reduceEqDiff, reduceIte, hq, decide_false]
   have hs : ((List.range i).map fun j => if j < i then (if wAt l j then bareI l j else 1000000) else (0 : Int)) = startN l := by
    unfold startN; rw [hn]
    apply List.map_congr_left
    intro j hj
    simp at hj; simp [hj]
   rw [hs]
   simp [headW, heapW, envW, blkLt, D.ltL, D.lt, look, hget]
  have hq : ((i : Int) < (n : Int)) = True := by simp [hlt]
  have hw := wrap_i64 (z := (i : Int) + 1) (by omega) (by omega)
  have hwa := sB_ix (hl.w_at (i := i) (by omega))
  have hset := range_upto n (fun j => if wAt l j then bareI l j else 1000000) (fun _ => 0) hlt
  generalize hA : ((List.range n).map fun j => if j < i then (if wAt l j then bareI l j else 1000000) else (0 : Int)) = A at *
  have hAl : A.length = n := by rw [← hA]; exact hup i
  obtain ⟨z, hz⟩ : ∃ z, A[i]? = some z := ⟨A[i]'(by omega), by simp⟩
  have xa := fun h (hb : hget h 1 = some (.arr 3 1 (intL A))) => oI_ix (n := n) hb hAl hlt
  have sa := fun h nid (hb : hget h 1 = some (.arr 3 1 (intL A))) => oI_store (n := n) hb hAl hz nid 1000000
  have xb := fun h (hb : hget h 1 = some (.arr 3 1 (intL (A.set i 1000000)))) => oI_ix (n := n) hb (by simpa using hAl) hlt
  have sb := fun h nid y (hb : hget h 1 = some (.arr 3 1 (intL (A.set i 1000000)))) => oI_store (n := n) (x := 1000000) hb (by simpa using hAl) (by rw [List.getElem?_set_self (by omega)]) nid y
  cases hwt : wAt l i
  ·rw [hwt] at hwa hset
   simp only [RT, FS, ↓RE, okR, argEnv, Nat.reduceAdd, Nat.reduceSub, Nat.reduceLT, Nat.reduceLeDiff, Nat.reduceEqDiff, reduceIte, hq, decide_true, xa, sa, f2, hwa, hw]
   exact ⟨i + 1, by omega, by omega, by simp [headW, heapW, envW, blkLt, D.ltL, D.lt, look, hget, Sx.hset, ← hset]⟩
  ·rw [hwt] at hwa hset
   simp only [RT, FS, ↓RE, okR, argEnv, Nat.reduceAdd, Nat.reduceSub, Nat.reduceLT, Nat.reduceLeDiff, Nat.reduceEqDiff, reduceIte, hq, decide_true, xa, sa, f2, hwa]
   refine call_of_pure (pb i hlt) rfl ?_
   simp only [RT, FS, ↓RE, okR, argEnv, Nat.reduceAdd, Nat.reduceSub, Nat.reduceLT, Nat.reduceLeDiff, Nat.reduceEqDiff, reduceIte, xb, sb, hw, List.set_set]
   exact ⟨i + 1, by omega, by omega, by simp [headW, heapW, envW, blkLt, D.ltL, D.lt, look, hget, Sx.hset, ← hset]⟩
 refine awp_imp (imp_thaw 1 (.weak (weak_of (e := [(1, .ptr 0 0), (4, .ptr 2 0)]) (h := [(2, .box [.sl (intL (startN l))]), (0, .box [.ref F 0])]) (nid := 3) (n := 100) ?_))) ?_
 ·have hsl : (startN l).length = n := by simp [startN, hn]
  simp [headW, heapW, envW, blkLt, D.ltL, D.lt, look, hget, frzHH, herase, frzBlk, frzD, intL_len, hsl]
 refine awp_peel (T := [(8, [(7, false, false, [])]), (15, [(8, false, false, [])]), (19, [(23, false, false, [])])]) oNone_ok (by kernel_rfl) (by kernel_rfl) ?_
 simp only [RT, FS, ↓RE, okR, argEnv, Nat.reduceAdd, Nat.reduceSub, Nat.reduceLT, Nat.reduceLeDiff, Nat.reduceEqDiff, reduceIte, litR]
 have hso := startN_ok hl
 have hsb : sumN (startN l) ≤ 144000000 := startN_sum hl
 -- the rounds
 refine awp_block (awp_loopH (ι := Nat × List (List Int) × List Int) (fun s => [(1, .ptr 0 0), (4, .ptr 2 0), (6, .osl 3 (s.2.1.length + 1))]) (fun s => [(3, .arr 34 1 (rowsD (s.2.1 ++ [s.2.2]))), (2, .box [.sl (intL s.2.2)]), (0, .box [.ref F 0])]) 4
  (fun s => NowOk l s.2.2 ∧ sumN s.2.2 < s.1 ∧ s.2.1 ++ roundsF (stepN c a ce l) s.1 s.2.2 = withinF c a ce l ∧ s.2.1.length + s.1 ≤ 144000001) (fun s => s.1) (sumN (startN l) + 1, [], startN l) ⟨hso, by simp, by simp [withinF], by simp; omega⟩ ?_ ?_)
 ·simp [headW, heapW, envW, blkLt, D.ltL, D.lt, look, hget, rowsD]
 rintro ⟨fu, pre, now⟩ ⟨hno, hsu, htot, hlen⟩
 dsimp only at hno hsu htot hlen ⊢
 have hnl : now.length = n := by rw [hno.len, hn]
 refine awp_block ?_
 refine awp_peel (T := [(8, [(7, false, false, [])]), (15, [(8, false, false, [])]), (19, [(23, false, false, [])])]) oNone_ok (by kernel_rfl) (by kernel_rfl) ?_
 simp only [RT, FS, ↓RE, okR, argEnv, Nat.reduceAdd, Nat.reduceSub, Nat.reduceLT, Nat.reduceLeDiff, Nat.reduceEqDiff, reduceIte]
 refine call_of_acall (clone_a now (by omega) _ _ _ ?_)
 simp only [RT, FS, ↓RE, okR, argEnv, Nat.reduceAdd, Nat.reduceSub, Nat.reduceLT, Nat.reduceLeDiff, Nat.reduceEqDiff, reduceIte, cells_osl, cur_osl, curC_arr, intL_len, hnl, decide_true]
 -- one round
 have hnowAt : ∀ i, i < n → now[i]? = some (nAt now i) := fun i hi => hno.at_ (by omega)
 have hstl : (stepN c a ce l now).length = n := by simp [stepN, hn]
 refine awp_cut oNone_ok (by kernel_rfl) [(1, .ptr 0 0), (4, .ptr 2 0), (6, .osl 3 (pre.length + 1)), (7, .ptr 5 0)]
  [(5, .box [.osl 4 n]), (4, .arr 3 1 (intL (stepN c a ce l now))), (3, .arr 34 1 (rowsD (pre ++ [now]))), (2, .box [.sl (intL now)]), (0, .box [.ref F 0])] 6 100 (T := [(8, [(7, false, false, [])]), (15, [(8, false, false, [])]), (19, [(23, false, false, [])])]) (by kernel_rfl) ?_ ?_
 ·have o4 := fun h (hb : hget h 4 = some (.arr 3 1 (intL now))) => oI_len (n := n) hb hnl
  simp only [RT, FS, ↓RE, okR, argEnv, Nat.reduceAdd, Nat.reduceSub, Nat.reduceLT, Nat.reduceLeDiff, Nat.reduceEqDiff, reduceIte, o4]
  refine loopV (ι := Nat) oNone_ok [(8, [(7, false, false, [])]), (15, [(8, false, false, [])]), (19, [(23, false, false, [])])] (fun i => [(1, .ptr 0 0), (4, .ptr 2 0), (6, .osl 3 (pre.length + 1)), (7, .ptr 5 0), (46, .int .i64 (n : Int)), (47, .int .i64 (i : Int))])
   (fun i => [(5, .box [.osl 4 n]), (4, .arr 3 1 (intL ((List.range n).map fun j => if j < i then cellN c a ce l now j else nAt now j))), (3, .arr 34 1 (rowsD (pre ++ [now]))), (2, .box [.sl (intL now)]), (0, .box [.ref F 0])]) 6
   (fun i => i ≤ n) (fun i => n - i) 0 (by kernel_rfl) (by kernel_rfl) (Nat.zero_le _) ?_ ?_
  ·have h0 : ((List.range n).map fun j => if j < 0 then cellN c a ce l now j else nAt now j) = now := by
    apply List.ext_getElem?
    intro j
    by_cases hj : j < n
    ·simp [hj, hnowAt j hj]
    ·rw [List.getElem?_eq_none (by simp; omega), List.getElem?_eq_none (by omega)]
   rw [h0]
   simp [headW, heapW, envW, blkLt, D.ltL, D.lt, look, hget]
  intro i hi
  rcases Nat.lt_or_ge i n with hlt | hge
  rotate_left
  ·have hq : ((i : Int) < (n : Int)) = False := by simp; omega
   have hin : i = n := by omega
   subst hin
   simp only [RT, FS, ↓RE, okR, argEnv, Nat.reduceAdd, Nat.reduceSub, Nat.reduceLT, Nat.reduceLeDiff, Nat.reduceEqDiff, reduceIte, hq, decide_false]
   have hs : ((List.range i).map fun j => if j < i then cellN c a ce l now j else nAt now j) = stepN c a ce l now := by
    unfold stepN; rw [hn]
    apply List.map_congr_left
    intro j hj
    simp at hj; simp [hj]
   rw [hs]
   simp [headW, heapW, envW, blkLt, D.ltL, D.lt, look, hget]
  have hq : ((i : Int) < (n : Int)) = True := by simp [hlt]
  have hw := wrap_i64 (z := (i : Int) + 1) (by omega) (by omega)
  have hwa := sB_ix (hl.w_at (i := i) (by omega))
  have hset' := range_upto n (cellN c a ce l now) (nAt now) hlt
  generalize hA : ((List.range n).map fun j => if j < i then cellN c a ce l now j else nAt now j) = A at *
  have hAl : A.length = n := by rw [← hA]; simp
  have hAi : A[i]? = some (nAt now i) := by rw [← hA]; simp [hlt]
  cases hwt : wAt l i
  rotate_left
  ·rw [hwt] at hwa
   have hcn : cellN c a ce l now i = nAt now i := by simp [cellN, hwt]
   rw [hcn] at hset'
   have hAA : A.set i (nAt now i) = A := by
    apply List.ext_getElem?
    intro j
    rw [List.getElem?_set]
    by_cases hj : i = j
    ·subst hj; rw [if_pos rfl, if_pos (by omega), hAi]
    ·simp [hj]
   rw [hAA] at hset'
   simp only [RT, FS, ↓RE, okR, argEnv, Nat.reduceAdd, Nat.reduceSub, Nat.reduceLT, Nat.reduceLeDiff, Nat.reduceEqDiff, reduceIte, hq, decide_true, f2, hwa, hw]
   exact ⟨i + 1, by omega, by omega, by simp [headW, heapW, envW, blkLt, D.ltL, D.lt, look, hget, ← hset']⟩
  rw [hwt] at hwa
  have hcn : cellN c a ce l now i = foldMin (viaN c a ce l now i) (stepsL l.wide l.deep i) (nAt now i) := by simp [cellN, hwt]
  have pst := steps_t F (i : Int)
  simp only [RT, FS, ↓RE, okR, argEnv, Nat.reduceAdd, Nat.reduceSub, Nat.reduceLT, Nat.reduceLeDiff, Nat.reduceEqDiff, reduceIte, hq, decide_true, f2, hwa]
  refine call_of_pure' pst (by simp [D.ltL, D.lt]) (by simp [D.ltL, D.lt]) ?_
  simp only [RT, FS, ↓RE, okR, argEnv, Nat.reduceAdd, Nat.reduceSub, Nat.reduceLT, Nat.reduceLeDiff, Nat.reduceEqDiff, reduceIte]
  have hci : (i : Int) ≤ 200 := by omega
  have pseq := steps_seq c l.wide l.deep (.sl (intL l.ground)) (.sl (boolL l.water)) l.clear a ce hl.wide hl.deep (i : Int) ⟨by omega, hci⟩
  rw [show flD c l.wide l.deep (.sl (intL l.ground)) (.sl (boolL l.water)) l.clear a ce = F from hF] at pseq
  have hset0 : A.set i (nAt now i) = A := by
   apply List.ext_getElem?
   intro j
   rw [List.getElem?_set]
   by_cases hj : i = j
   ·subst hj; rw [if_pos rfl, if_pos (by omega), hAi]
   ·simp [hj]
  refine rangeQ (α := StpIn l.wide l.deep (i : Int)) oNone_ok [(8, [(7, false, false, [])]), (15, [(8, false, false, [])]), (19, [(23, false, false, [])])] (by kernel_rfl) (by kernel_rfl) (by kernel_rfl) pseq (by kernel_rfl) (fun _ => rfl) (fun R n x => stp_enc R n x.1) (by simp [D.ltL, D.lt])
   [(1, .ptr 0 0), (4, .ptr 2 0), (6, .osl 3 (pre.length + 1)), (7, .ptr 5 0), (8, .ptr 6 0), (46, .int .i64 (n : Int)), (47, .int .i64 (i : Int)), (60, .fn (.func 63) [] [.ref [.int .i64 (i : Int)] 0, .ref [.ref F 0] 0])]
   (fun xs => [(6, .box [.int .i64 (i : Int)]), (5, .box [.osl 4 n]), (4, .arr 3 1 (intL (A.set i (foldMin (viaN c a ce l now i) (xs.map (·.1)) (nAt now i))))), (3, .arr 34 1 (rowsD (pre ++ [now]))), (2, .box [.sl (intL now)]), (0, .box [.ref F 0])]) 7 (fun _ => True) trivial rfl (fun _ => rfl) ?_ ?_ ?_
  ·simp [headW, heapW, envW, blkLt, D.ltL, D.lt, look, hget, foldMin, hset0]
  ·intro lo pr x _ hlen'
   have hx := steps_in hl (by omega) x.2
   obtain ⟨k, hk⟩ : ∃ k, k = x.1.cell.toNat := ⟨_, rfl⟩
   have hkx : x.1.cell = (k : Int) := by omega
   have hkn : k < n := by omega
   have ixs := sI_ix (hnowAt k hkn)
   have hM : (A.set i (foldMin (viaN c a ce l now i) (pr.map (·.1)) (nAt now i)))[i]? = some (foldMin (viaN c a ce l now i) (pr.map (·.1)) (nAt now i)) := List.getElem?_set_self (by omega)
   have hMl : (A.set i (foldMin (viaN c a ce l now i) (pr.map (·.1)) (nAt now i))).length = n := by simpa using hAl
   have hsn : foldMin (viaN c a ce l now i) ((pr ++ [x]).map (·.1)) (nAt now i) = match viaN c a ce l now i x.1 with | some v => min (foldMin (viaN c a ce l now i) (pr.map (·.1)) (nAt now i)) v | none => foldMin (viaN c a ce l now i) (pr.map (·.1)) (nAt now i) := by
    rw [List.map_append]; exact foldMin_snoc _ _ _ _
   generalize hMv : foldMin (viaN c a ce l now i) (pr.map (·.1)) (nAt now i) = M at *
   have x4 := fun h (hb : hget h 4 = some (.arr 3 1 (intL (A.set i M)))) => oI_ix (n := n) hb hMl hlt
   have l4 := fun h (hb : hget h 4 = some (.arr 3 1 (intL (A.set i M)))) => oI_load (n := n) hb hMl hM
   have s4 := fun h nid y (hb : hget h 4 = some (.arr 3 1 (intL (A.set i M)))) => oI_store (n := n) hb hMl hM nid y
   have hnb := hno.b k (by omega)
   obtain ⟨⟨xc, xdx, xdy⟩, hxm⟩ := x
   dsimp only at hkx hx hsn hk
   have pn := need_t c hc l.wide l.deep (.sl (intL l.ground)) (.sl (boolL l.water)) l.clear a ha ce ⟨xc, xdx, xdy⟩ hx.2.2 (nAt now k) (by omega)
   have pw := way_t c hc l.wide l.deep (.sl (intL l.ground)) (.sl (boolL l.water)) l.clear a ce
   rw [show flD c l.wide l.deep (.sl (intL l.ground)) (.sl (boolL l.water)) l.clear a ce = F from hF] at pn pw
   have pbi := pb i hlt
   simp only [Stp.c] at pn
   subst hkx
   by_cases hlt2 : nAt now k < 1000000
   ·have hv : viaN c a ce l now i ⟨(k : Int), xdx, xdy⟩ = some (max (bareI l i) (needF c a ce ⟨(k : Int), xdx, xdy⟩ (nAt now k))) := by simp [viaN, hlt2]
    rw [hv] at hsn
    simp only [RT, FS, ↓RE, okR, argEnv, Nat.reduceAdd, Nat.reduceSub, Nat.reduceLT, Nat.reduceLeDiff, Nat.reduceEqDiff, reduceIte, pe_cons, pe_nil, Array.toList, stpD, Stp.c, ixs, hlt2, decide_true, x4, l4]
    refine call_of_pure pbi rfl ?_
    simp only [RT, FS, ↓RE, okR, argEnv, Nat.reduceAdd, Nat.reduceSub, Nat.reduceLT, Nat.reduceLeDiff, Nat.reduceEqDiff, reduceIte, ixs, x4, l4, s4]
    refine call_of_pure' pw (by simp [D.ltL, D.lt]) (by simp [D.ltL, D.lt]) ?_
    simp only [RT, FS, ↓RE, okR, argEnv, Nat.reduceAdd, Nat.reduceSub, Nat.reduceLT, Nat.reduceLeDiff, Nat.reduceEqDiff, reduceIte, ixs, x4, l4, s4]
    refine call_of_pure pn rfl ?_
    simp only [RT, FS, ↓RE, okR, argEnv, Nat.reduceAdd, Nat.reduceSub, Nat.reduceLT, Nat.reduceLeDiff, Nat.reduceEqDiff, reduceIte, ixs, x4, l4, s4, List.set_set]
    simp only [hsn]
    simp [headW, heapW, envW, blkLt, D.ltL, D.lt, look, hget, Sx.hset]
   ·have hv : viaN c a ce l now i ⟨(k : Int), xdx, xdy⟩ = none := by simp [viaN, hlt2]
    rw [hv] at hsn
    simp only [RT, FS, ↓RE, okR, argEnv, Nat.reduceAdd, Nat.reduceSub, Nat.reduceLT, Nat.reduceLeDiff, Nat.reduceEqDiff, reduceIte, pe_cons, pe_nil, Array.toList, stpD, Stp.c, ixs, hlt2, decide_false]
    simp only [hsn]
    simp [headW, heapW, envW, blkLt, D.ltL, D.lt, look, hget]
  ·intro xs hxs _
   subst hxs
   have hmap : ((stepsL l.wide l.deep (i : Int)).attach.map (·.1)) = stepsL l.wide l.deep (i : Int) := List.attach_map_subtype_val _
   rw [hmap, ← hcn, hset']
   simp only [RT, FS, ↓RE, okR, argEnv, Nat.reduceAdd, Nat.reduceSub, Nat.reduceLT, Nat.reduceLeDiff, Nat.reduceEqDiff, reduceIte, hw]
   exact ⟨i + 1, by omega, by omega, by simp [headW, heapW, envW, blkLt, D.ltL, D.lt, look, hget]⟩
 -- behind the round
 have hsto := stepN_ok (c := c) (a := a) hl ce hno
 have hsle := sumN_le (a := now) (b := stepN c a ce l now) (by omega) fun i hi => by
  have h1 := cellN_b (c := c) (a := a) hl ce hno (i := i) (by omega)
  have h2 : nAt (stepN c a ce l now) i = cellN c a ce l now i := by unfold stepN; exact map_at _ (by omega)
  rw [h2]; exact h1
 have peq := equal_t now (stepN c a ce l now) (by omega) (by omega)
 obtain ⟨fv, rfl⟩ : ∃ fv, fu = fv + 1 := ⟨fu - 1, by omega⟩
 by_cases heq : now = stepN c a ce l now
 ·have hd : decide (now = stepN c a ce l now) = true := by simpa using heq
  rw [hd] at peq
  refine awp_peel (T := [(8, [(7, false, false, [])]), (15, [(8, false, false, [])]), (19, [(23, false, false, [])])]) oNone_ok (by kernel_rfl) (by kernel_rfl) ?_
  simp only [RT, FS, ↓RE, okR, argEnv, Nat.reduceAdd, Nat.reduceSub, Nat.reduceLT, Nat.reduceLeDiff, Nat.reduceEqDiff, reduceIte, intL_len, hstl]
  refine call_of_pure peq rfl ?_
  simp only [RT, FS, ↓RE, okR, argEnv, Nat.reduceAdd, Nat.reduceSub, Nat.reduceLT, Nat.reduceLeDiff, Nat.reduceEqDiff, reduceIte]
  have hr : roundsF (stepN c a ce l) (fv + 1) now = [now] := by simp only [roundsF]; rw [if_pos heq.symm]
  rw [hr] at htot
  rw [← htot]
  simp [viewA, rowsD_len]
 have hd : decide (now = stepN c a ce l now) = false := by simpa using heq
 rw [hd] at peq
 have hr : roundsF (stepN c a ce l) (fv + 1) now = now :: roundsF (stepN c a ce l) fv (stepN c a ce l now) := by simp only [roundsF]; rw [if_neg fun e => heq e.symm]
 have hlt3 := hsle.2 fun e => heq e.symm
 refine awp_peel (T := [(8, [(7, false, false, [])]), (15, [(8, false, false, [])]), (19, [(23, false, false, [])])]) oNone_ok (by kernel_rfl) (by kernel_rfl) ?_
 simp only [RT, FS, ↓RE, okR, argEnv, Nat.reduceAdd, Nat.reduceSub, Nat.reduceLT, Nat.reduceLeDiff, Nat.reduceEqDiff, reduceIte, intL_len, hstl]
 refine call_of_pure peq rfl ?_
 simp only [RT, FS, ↓RE, okR, argEnv, Nat.reduceAdd, Nat.reduceSub, Nat.reduceLT, Nat.reduceLeDiff, Nat.reduceEqDiff, reduceIte]
 refine awp_peel (T := [(8, [(7, false, false, [])]), (15, [(8, false, false, [])]), (19, [(23, false, false, [])])]) oNone_ok (by kernel_rfl) (by kernel_rfl) ?_
 simp only [RT, FS, ↓RE, okR, argEnv, Nat.reduceAdd, Nat.reduceSub, Nat.reduceLT, Nat.reduceLeDiff, Nat.reduceEqDiff, reduceIte, cells_osl, cur_osl, curC_arr, intL_len, hstl, decide_true]
 refine awp_imp (imp_thaw 4 (.weak (weak_of (e := [(1, .ptr 0 0), (4, .ptr 2 0), (6, .osl 3 (pre.length + 1))]) (h := [(3, .arr 34 1 (rowsD (pre ++ [now]))), (2, .box [.sl (intL (stepN c a ce l now))]), (0, .box [.ref F 0])]) (nid := 6) (n := 100) ?_))) ?_
 ·simp [headW, heapW, envW, blkLt, D.ltL, D.lt, look, hget, frzHH, herase, frzBlk, frzD, intL_len, hstl]
 have hra := fun h nid (hb : hget h 3 = some (.arr 34 1 (rowsD (pre ++ [now])))) (hb2 : hget h 6 = some (.arr 34 1 [[.sl (intL (stepN c a ce l now))]])) => oR_app (n := pre.length + 1) hb (by simp) hb2 nid (by simp; omega)
 refine awp_rest (T := [(8, [(7, false, false, [])]), (15, [(8, false, false, [])]), (19, [(23, false, false, [])])]) oNone_ok (by kernel_rfl) (by kernel_rfl) ?_
 simp only [RT, FS, ↓RE, okR, argEnv, Nat.reduceAdd, Nat.reduceSub, Nat.reduceLT, Nat.reduceLeDiff, Nat.reduceEqDiff, reduceIte, litR, hra]
 refine ⟨(fv, pre ++ [now], stepN c a ce l now), ⟨hsto, by simp only; omega, by simp only; rw [← htot, hr]; simp, by simp; omega⟩, by simp only; omega, ?_⟩
 simp [headW, heapW, envW, blkLt, D.ltL, D.lt, look, hget, Sx.hset]
end Go.Sx.E

namespace Go.Sx.E
open Go.Proofs
set_option maxRecDepth 10000

theorem sR_ix {ll : List (List Int)} {i : Nat} {r : List Int} (hx : ll[i]? = some r) (h : H) : indexAddrD Tryz.prog h 153 (.sl (rowsD ll)) (.int .i64 (i : Int)) = some (.ref [.sl (intL r)] 0) := by
 have hi : i < (rowsD ll).length := by rw [rowsD_len]; exact lt_of_getElem? hx
 have hg : (rowsD ll)[i]? = some [.sl (intL r)] := by simp [rowsD, hx]
 have he : (rowsD ll)[i] = [.sl (intL r)] := by rw [List.getElem?_eq_getElem hi] at hg; exact Option.some.inj hg
 simp [indexAddrD, Fz.und_153, Fz.size_34, hi, he]
theorem withinF_ne (c : Craft) (a : AirW) (ce : Int) (l : LandM) : withinF c a ce l ≠ [] := roundsF_ne _ _ _
theorem roundsF_len (step : List Int → List Int) : ∀ (n : Nat) (now : List Int), (roundsF step n now).length ≤ n + 1
 | 0, now => by simp [roundsF]
 | n + 1, now => by
  simp only [roundsF]; split
  ·simp
  ·have := roundsF_len step n (step now); simp; omega
theorem withinF_len (c : Craft) (a : AirW) (ce : Int) {l : LandM} (hl : LandOk l) : (withinF c a ce l).length ≤ 144000002 := by
 have := roundsF_len (stepN c a ce l) (sumN (startN l) + 1) (startN l)
 have := startN_sum hl
 unfold withinF; omega
theorem needs_t (c : Craft) (hc : CraftOk c) (l : LandM) (hl : LandOk l) (a : AirW) (ha : AirOk a) (ce : Int) :
  Pure Tryz.prog 46 [.ref (flO c l a ce) 0] (.sl (intL (needsF c a ce l))) := by
 have pw := within_t c hc l hl a ha ce
 have hln := withinF_len c a ce hl
 have hne := withinF_ne c a ce l
 have hlast : (withinF c a ce l)[(withinF c a ce l).length - 1]? = some (needsF c a ce l) := by
  unfold needsF
  rw [← List.getLast?_eq_getElem?, List.getLast?_eq_some_getLast hne]
  simp [List.getLastD_eq_getLast?, List.getLast?_eq_some_getLast hne]
 have hpos : 1 ≤ (withinF c a ce l).length := by
  cases h : withinF c a ce l with
  | nil => exact absurd h hne
  | cons x xs => simp
 generalize withinF c a ce l = W at *
 have hix := sR_ix hlast
 have w1 : IntKind.i64.wrap ((W.length : Int) - 1) = ((W.length - 1 : Nat) : Int) := by rw [wrap_i64 (by omega) (by omega)]; omega
 refine pure_of_wc (rs := [.tmp 2]) (m := 12) [] oNone_ok (by kernel_rfl) Tryz.func46 rfl (by kernel_rfl) rfl rfl (by kernel_rfl) ?_
 simp only [RT, FS, ↓RE, okR, argEnv, Nat.reduceAdd, Nat.reduceSub, Nat.reduceLT, Nat.reduceLeDiff, Nat.reduceEqDiff, reduceIte]
 refine call_of_pure' pw (by simp [D.ltL, D.lt]) (by simp [D.lt]) ?_
 simp only [RT, FS, ↓RE, okR, argEnv, Nat.reduceAdd, Nat.reduceSub, Nat.reduceLT, Nat.reduceLeDiff, Nat.reduceEqDiff, reduceIte, rowsD_len, w1, hix]

theorem startE_ok {c : Craft} {l : LandM} {a : AirW} {w : Int} {fine : Bool} (hc : CraftL c) (hl : LandL l) (h : startE c l a w fine = 0) : CraftOk c ∧ LandOk l ∧ AirOk a ∧ fine = true ∧ (0 ≤ w ∧ w ≤ 100000) := by
 unfold startE at h
 split at h
 ·rename_i hb
  simp only [Bool.and_eq_true, rI, decide_eq_true_eq] at hb
  exact ⟨craft_ok hc hb.1, land_ok hl hb.2.1, air_ok hb.2.2.1, hb.2.2.2.2, hb.2.2.2.1⟩
 ·cases h
def NeedsR (c : Craft) (l : LandM) (a : AirW) (w : Int) : D := if startE c l a w true = 0 then .tup [.sl (intL (needsF c a (ceilI c w) l)), .int .i64 0] else .tup [.nils, .int .i64 (startE c l a w true)]
theorem run_Needs_t (c : Craft) (hc : CraftL c) (l : LandM) (hl : LandL l) (a : AirW) (w : Int) : Pure Tryz.prog 14 [.agg c.c, .agg l.c, .agg a.c, .int .i64 w] (NeedsR c l a w) := by
 have ps := run_start_t c hc l hl a w true
 have hz : ((0 : Int) != 0) = false := rfl
 unfold NeedsR
 by_cases h0 : startE c l a w true = 0
 ·obtain ⟨h1, h2, h3, _, _⟩ := startE_ok hc hl h0
  have pn := needs_t c h1 l h2 a h3 (ceilI c w)
  rw [if_pos h0]
  simp only [startR, if_pos h0] at ps
  rw [h0] at ps
  simp only [Craft.c, LandM.c, grD, waD, AirW.c] at ps ⊢
  refine pure_of_pieces (rs := [.tmp 8, .tmp 9]) (m := 25) [] oNone_ok (by kernel_rfl) Tryz.func14 rfl (by kernel_rfl) rfl rfl (by kernel_rfl) ?_
  refine awp_peel (T := []) oNone_ok (by kernel_rfl) (by kernel_rfl) ?_
  simp only [RT, FS, ↓RE, okR, argEnv, Nat.reduceAdd, Nat.reduceSub, Nat.reduceLT, Nat.reduceLeDiff, Nat.reduceEqDiff, reduceIte]
  refine awp_peel (T := []) oNone_ok (by kernel_rfl) (by kernel_rfl) ?_
  simp only [RT, FS, ↓RE, okR, argEnv, Nat.reduceAdd, Nat.reduceSub, Nat.reduceLT, Nat.reduceLeDiff, Nat.reduceEqDiff, reduceIte]
  refine call_of_pure' ps (by simp [D.ltL, D.lt]) (by simp [D.ltL, D.lt]) ?_
  simp only [RT, FS, ↓RE, okR, argEnv, Nat.reduceAdd, Nat.reduceSub, Nat.reduceLT, Nat.reduceLeDiff, Nat.reduceEqDiff, reduceIte]
  refine awp_headW [(10, .ref (flO c l a (ceilI c w)) 0), (11, .int .i64 0)] [] 3 25 (by simp [headW, heapW, envW, blkLt, D.ltL, D.lt, look, hget]) ?_
  refine awp_rest (T := []) oNone_ok (by kernel_rfl) (by kernel_rfl) ?_
  simp only [RT, FS, ↓RE, okR, argEnv, Nat.reduceAdd, Nat.reduceSub, Nat.reduceLT, Nat.reduceLeDiff, Nat.reduceEqDiff, reduceIte, hz]
  refine call_of_pure' pn (by simp [D.ltL, D.lt]) (by simp [D.lt]) ?_
  simp only [RT, FS, ↓RE, okR, argEnv, Nat.reduceAdd, Nat.reduceSub, Nat.reduceLT, Nat.reduceLeDiff, Nat.reduceEqDiff, reduceIte]
 ·rw [if_neg h0]
  simp only [startR, if_neg h0] at ps
  have hb : (startE c l a w true != 0) = true := by simpa using h0
  simp only [Craft.c, LandM.c, grD, waD, AirW.c] at ps ⊢
  refine pure_of_wc (rs := [.tmp 8, .tmp 9]) (m := 25) [] oNone_ok (by kernel_rfl) Tryz.func14 rfl (by kernel_rfl) rfl rfl (by kernel_rfl) ?_
  simp only [RT, FS, ↓RE, okR, argEnv, Nat.reduceAdd, Nat.reduceSub, Nat.reduceLT, Nat.reduceLeDiff, Nat.reduceEqDiff, reduceIte]
  refine call_of_pure' ps (by simp [D.ltL, D.lt]) (by simp [D.ltL, D.lt]) ?_
  simp only [RT, FS, ↓RE, okR, argEnv, Nat.reduceAdd, Nat.reduceSub, Nat.reduceLT, Nat.reduceLeDiff, Nat.reduceEqDiff, reduceIte, hb]
end Go.Sx.E

namespace Go.Sx.E
open Go.Proofs
set_option maxRecDepth 10000

structure Cst where
 len : Int
 cells : Int
 deriving DecidableEq
def Cst.c (c : Cst) : List D := [.int .i64 c.len, .int .i64 c.cells]
abbrev Mp := List (Int × Cst)
def mget : Mp → Int → Option Cst
 | [], _ => none
 | (a, v) :: r, k => if k = a then some v else mget r k
def mput : Mp → Int → Cst → Mp
 | [], k, v => [(k, v)]
 | (a, w) :: r, k, v => if k = a then (k, v) :: r else (a, w) :: mput r k v
theorem mget_put : ∀ (m : Mp) (k : Int) (v : Cst) (j : Int), mget (mput m k v) j = if j = k then some v else mget m j
 | [], k, v, j => by simp [mput, mget]
 | (a, w) :: r, k, v, j => by
  simp only [mput]
  by_cases h : k = a
  ·subst h
   simp only [if_true, mget]
   split <;> simp_all
  ·simp only [if_neg h, mget, mget_put r k v j]
   by_cases h2 : j = a
   ·subst h2
    have : ¬ j = k := fun e => h e.symm
    simp [this]
   ·simp [h2]
def mkv (m : Mp) : List (D × D) := m.map fun p => (.int .i64 p.1, .agg p.2.c)
theorem mkv_find (k : Int) : ∀ (m : Mp) (i : Nat), (findK (.int .i64 k) (mkv m) i = none ∧ mget m k = none ∧ ∀ v : Cst, mkv m ++ [(.int .i64 k, .agg v.c)] = mkv (mput m k v)) ∨
  ∃ j v0, findK (.int .i64 k) (mkv m) i = some (i + j, .agg v0.c) ∧ mget m k = some v0 ∧ ∀ v : Cst, (mkv m).set j (.int .i64 k, .agg v.c) = mkv (mput m k v)
 | [], i => .inl ⟨rfl, rfl, fun v => rfl⟩
 | (a, w) :: r, i => by
  by_cases h : k = a
  ·subst h
   refine .inr ⟨0, w, ?_, by simp [mget], fun v => by simp [mkv, mput]⟩
   simp [mkv, findK, keyEq]
  ·rcases mkv_find k r (i + 1) with ⟨h1, h2, h3⟩ | ⟨j, v0, h1, h2, h3⟩
   ·refine .inl ⟨?_, by simp [mget, h, h2], fun v => ?_⟩
    ·simp only [mkv, List.map_cons, findK]
     rw [if_neg (by simp [keyEq, h])]
     exact h1
    ·simp only [mput, if_neg h]
     have := h3 v
     simp only [mkv, List.map_cons, List.cons_append] at this ⊢
     rw [this]
   ·refine .inr ⟨j + 1, v0, ?_, by simp [mget, h, h2], fun v => ?_⟩
    ·simp only [mkv, List.map_cons, findK]
     rw [if_neg (by simp [keyEq, h])]
     have := h1
     simp only [mkv] at this
     rw [this, show i + 1 + j = i + (j + 1) by omega]
    ·simp only [mput, if_neg h]
     have := h3 v
     simp only [mkv, List.map_cons, List.set_cons_succ] at this ⊢
     rw [this]
theorem und_mp : Tryz.prog.underlying 100 = some (.map 3 103) := by kernel_rfl
theorem kfit (k : Int) : keyFit Tryz.prog 3 (.int .i64 k) = true := by kernel_rfl
theorem kfits (m : Mp) : ((mkv m).all fun p => keyFit Tryz.prog 3 p.1) = true := by
 simp [mkv, kfit]
def valC (o : Option Cst) : D := match o with | some v => .agg v.c | none => .agg [.int .i64 0, .int .i64 0]
theorem zeroC : zeroV Tryz.prog 103 = some (.agg [.int .i64 0, .int .i64 0]) := by kernel_rfl
theorem mo_look {h : H} {b : Nat} {m : Mp} (hb : hget h b = some (.map (mkv m))) (k : Int) : lookupD Tryz.prog h 100 (.mp b) (.int .i64 k) true = some (.tup [valC (mget m k), .bool (mget m k).isSome]) := by
 simp only [lookupD, und_mp, hb, kfit, kfits, Bool.and_self, if_true]
 rcases mkv_find k m 0 with ⟨h1, h2, _⟩ | ⟨j, v0, h1, h2, _⟩
 ·rw [h1, h2]; simp [lookR, zeroC, valC]
 ·rw [h1, h2]; simp [lookR, valC]
theorem mo_get {h : H} {b : Nat} {m : Mp} (hb : hget h b = some (.map (mkv m))) (k : Int) : lookupD Tryz.prog h 100 (.mp b) (.int .i64 k) false = some (valC (mget m k)) := by
 simp only [lookupD, und_mp, hb, kfit, kfits, Bool.and_self, if_true]
 rcases mkv_find k m 0 with ⟨h1, h2, _⟩ | ⟨j, v0, h1, h2, _⟩
 ·rw [h1, h2]; simp [lookR, zeroC, valC]
 ·rw [h1, h2]; simp [lookR, valC]
theorem md_look (h : H) (m : Mp) (k : Int) : lookupD Tryz.prog h 100 (.mpd (mkv m)) (.int .i64 k) true = some (.tup [valC (mget m k), .bool (mget m k).isSome]) := by
 simp only [lookupD, und_mp, kfit, kfits, Bool.and_self, if_true]
 rcases mkv_find k m 0 with ⟨h1, h2, _⟩ | ⟨j, v0, h1, h2, _⟩
 ·rw [h1, h2]; simp [lookR, zeroC, valC]
 ·rw [h1, h2]; simp [lookR, valC]
theorem md_get (h : H) (m : Mp) (k : Int) : lookupD Tryz.prog h 100 (.mpd (mkv m)) (.int .i64 k) false = some (valC (mget m k)) := by
 simp only [lookupD, und_mp, kfit, kfits, Bool.and_self, if_true]
 rcases mkv_find k m 0 with ⟨h1, h2, _⟩ | ⟨j, v0, h1, h2, _⟩
 ·rw [h1, h2]; simp [lookR, zeroC, valC]
 ·rw [h1, h2]; simp [lookR, valC]
theorem mo_put {h : H} {b : Nat} {m : Mp} (hb : hget h b = some (.map (mkv m))) (nid : Nat) (k x y : Int) :
  mapUpdD Tryz.prog h nid 100 (.mp b) (.int .i64 k) (.agg [.int .i64 x, .int .i64 y]) = some (.any, hset h b (.map (mkv (mput m k ⟨x, y⟩))), nid) := by
 simp only [mapUpdD, und_mp, hb, kfit, kfits, Bool.and_self, D.nm, D.nmL, if_true]
 rcases mkv_find k m 0 with ⟨h1, _, h3⟩ | ⟨j, v0, h1, _, h3⟩
 ·rw [h1]
  have := h3 ⟨x, y⟩
  simp only [Cst.c] at this
  simp only [this]
 ·rw [h1]
  have := h3 ⟨x, y⟩
  simp only [Cst.c] at this
  simp only [Nat.zero_add, this]
def lessC (a b : Cst) : Bool := decide (a.len < b.len) || (decide (a.len = b.len) && decide (a.cells < b.cells))
theorem less_t (a b : Cst) : Pure Tryz.prog 64 [.agg a.c, .agg b.c] (.bool (lessC a b)) := by
 simp only [Cst.c, lessC]
 cases h1 : decide (a.len < b.len)
 ·cases h2 : decide (a.len = b.len)
  ·refine pure_of_wc (rs := [.tmp 4]) (m := 24) [] oNone_ok (by kernel_rfl) Tryz.func64 rfl (by kernel_rfl) rfl rfl (by kernel_rfl) ?_
   simp only [RT, FS, ↓RE, okR, argEnv, Nat.reduceAdd, Nat.reduceSub, Nat.reduceLT, Nat.reduceLeDiff, Nat.reduceEqDiff, reduceIte, h1, h2, beq_dec]
   all_goals simp
  ·cases h3 : decide (a.cells < b.cells)
   ·refine pure_of_wc (rs := [.tmp 4]) (m := 24) [] oNone_ok (by kernel_rfl) Tryz.func64 rfl (by kernel_rfl) rfl rfl (by kernel_rfl) ?_
    simp only [RT, FS, ↓RE, okR, argEnv, Nat.reduceAdd, Nat.reduceSub, Nat.reduceLT, Nat.reduceLeDiff, Nat.reduceEqDiff, reduceIte, h1, h2, h3, beq_dec]
    all_goals simp
   ·refine pure_of_wc (rs := [.tmp 4]) (m := 24) [] oNone_ok (by kernel_rfl) Tryz.func64 rfl (by kernel_rfl) rfl rfl (by kernel_rfl) ?_
    simp only [RT, FS, ↓RE, okR, argEnv, Nat.reduceAdd, Nat.reduceSub, Nat.reduceLT, Nat.reduceLeDiff, Nat.reduceEqDiff, reduceIte, h1, h2, h3, beq_dec]
    all_goals simp
 ·refine pure_of_wc (rs := [.tmp 4]) (m := 24) [] oNone_ok (by kernel_rfl) Tryz.func64 rfl (by kernel_rfl) rfl rfl (by kernel_rfl) ?_
  simp only [RT, FS, ↓RE, okR, argEnv, Nat.reduceAdd, Nat.reduceSub, Nat.reduceLT, Nat.reduceLeDiff, Nat.reduceEqDiff, reduceIte, h1]
  all_goals simp
end Go.Sx.E
