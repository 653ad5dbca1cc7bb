/- Own work: a calculus of contracts for the programs of this kit: parts SxE20r, SxE21r, SxE22r, SxE23r, SxE24r. -/
import Derived.Test.YthljonnokmkagaaSxEc
import Derived.Test.YthljonnokmkagaaSxMh
set_option linter.unusedVariables false
set_option linter.unusedSimpArgs false
namespace Go.Sx
open Go.Proofs
set_option maxRecDepth 10000

/-! Costs, and maps of them -/
structure Cst where
  len : Int
  cells : Int
  deriving DecidableEq
def Cst.c (c : Cst) : List D := [.int .i64 c.len, .int .i64 c.cells]
abbrev Mp := List (Int × Cst)
def mget : Mp → Int → Option Cst
  | [], _ => none
  | (a, v) :: r, k => if k = a then some v else mget r k
def mput : Mp → Int → Cst → Mp
  | [], k, v => [(k, v)]
  | (a, w) :: r, k, v => if k = a then (k, v) :: r else (a, w) :: mput r k v
theorem mget_put : ∀ (m : Mp) (k : Int) (v : Cst) (j : Int), mget (mput m k v) j = if j = k then some v else mget m j
  | [], k, v, j => by simp [mput, mget]
  | (a, w) :: r, k, v, j => by
    simp only [mput]
    by_cases h : k = a
    · subst h
      simp only [if_true, mget]
      split <;> simp_all
    · simp only [if_neg h, mget, mget_put r k v j]
      by_cases h2 : j = a
      · subst h2
        have : ¬ j = k := fun e => h e.symm
        simp [this]
      · simp [h2]
def mkv (m : Mp) : List (D × D) := m.map fun p => (.int .i64 p.1, .agg p.2.c)
theorem mkv_find (k : Int) : ∀ (m : Mp) (i : Nat), (findK (.int .i64 k) (mkv m) i = none ∧ mget m k = none ∧ ∀ v : Cst, mkv m ++ [(.int .i64 k, .agg v.c)] = mkv (mput m k v)) ∨
    ∃ j v0, findK (.int .i64 k) (mkv m) i = some (i + j, .agg v0.c) ∧ mget m k = some v0 ∧ ∀ v : Cst, (mkv m).set j (.int .i64 k, .agg v.c) = mkv (mput m k v)
  | [], i => .inl ⟨rfl, rfl, fun v => rfl⟩
  | (a, w) :: r, i => by
    by_cases h : k = a
    · subst h
      refine .inr ⟨0, w, ?_, by simp [mget], fun v => by simp [mkv, mput]⟩
      simp [mkv, findK, keyEq]
    · rcases mkv_find k r (i + 1) with ⟨h1, h2, h3⟩ | ⟨j, v0, h1, h2, h3⟩
      · refine .inl ⟨?_, by simp [mget, h, h2], fun v => ?_⟩
        · simp only [mkv, List.map_cons, findK]
          rw [if_neg (by simp [keyEq, h])]
          exact h1
        · simp only [mput, if_neg h]
          have := h3 v
          simp only [mkv, List.map_cons, List.cons_append] at this ⊢
          rw [this]
      · refine .inr ⟨j + 1, v0, ?_, by simp [mget, h, h2], fun v => ?_⟩
        · simp only [mkv, List.map_cons, findK]
          rw [if_neg (by simp [keyEq, h])]
          have := h1
          simp only [mkv] at this
          rw [this, show i + 1 + j = i + (j + 1) by omega]
        · simp only [mput, if_neg h]
          have := h3 v
          simp only [mkv, List.map_cons, List.set_cons_succ] at this ⊢
          rw [this]
theorem und_mp : Try.prog.underlying 127 = some (.map 3 131) := by kernel_rfl
theorem kfit (k : Int) : keyFit Try.prog 3 (.int .i64 k) = true := by kernel_rfl
theorem kfits (m : Mp) : ((mkv m).all fun p => keyFit Try.prog 3 p.1) = true := by
  simp [mkv, kfit]
def valC (o : Option Cst) : D := match o with | some v => .agg v.c | none => .agg [.int .i64 0, .int .i64 0]
theorem zeroC : zeroV Try.prog 131 = some (.agg [.int .i64 0, .int .i64 0]) := by kernel_rfl
theorem mo_look {h : H} {b : Nat} {m : Mp} (hb : hget h b = some (.map (mkv m))) (k : Int) : lookupD Try.prog h 127 (.mp b) (.int .i64 k) true = some (.tup [valC (mget m k), .bool (mget m k).isSome]) := by
  simp only [lookupD, und_mp, hb, kfit, kfits, Bool.and_self, if_true]
  rcases mkv_find k m 0 with ⟨h1, h2, _⟩ | ⟨j, v0, h1, h2, _⟩
  · rw [h1, h2]; simp [lookR, zeroC, valC]
  · rw [h1, h2]; simp [lookR, valC]
theorem mo_get {h : H} {b : Nat} {m : Mp} (hb : hget h b = some (.map (mkv m))) (k : Int) : lookupD Try.prog h 127 (.mp b) (.int .i64 k) false = some (valC (mget m k)) := by
  simp only [lookupD, und_mp, hb, kfit, kfits, Bool.and_self, if_true]
  rcases mkv_find k m 0 with ⟨h1, h2, _⟩ | ⟨j, v0, h1, h2, _⟩
  · rw [h1, h2]; simp [lookR, zeroC, valC]
  · rw [h1, h2]; simp [lookR, valC]
theorem md_look (h : H) (m : Mp) (k : Int) : lookupD Try.prog h 127 (.mpd (mkv m)) (.int .i64 k) true = some (.tup [valC (mget m k), .bool (mget m k).isSome]) := by
  simp only [lookupD, und_mp, kfit, kfits, Bool.and_self, if_true]
  rcases mkv_find k m 0 with ⟨h1, h2, _⟩ | ⟨j, v0, h1, h2, _⟩
  · rw [h1, h2]; simp [lookR, zeroC, valC]
  · rw [h1, h2]; simp [lookR, valC]
theorem md_get (h : H) (m : Mp) (k : Int) : lookupD Try.prog h 127 (.mpd (mkv m)) (.int .i64 k) false = some (valC (mget m k)) := by
  simp only [lookupD, und_mp, kfit, kfits, Bool.and_self, if_true]
  rcases mkv_find k m 0 with ⟨h1, h2, _⟩ | ⟨j, v0, h1, h2, _⟩
  · rw [h1, h2]; simp [lookR, zeroC, valC]
  · rw [h1, h2]; simp [lookR, valC]
theorem mo_put {h : H} {b : Nat} {m : Mp} (hb : hget h b = some (.map (mkv m))) (nid : Nat) (k x y : Int) :
    mapUpdD Try.prog h nid 127 (.mp b) (.int .i64 k) (.agg [.int .i64 x, .int .i64 y]) = some (.any, hset h b (.map (mkv (mput m k ⟨x, y⟩))), nid) := by
  simp only [mapUpdD, und_mp, hb, kfit, kfits, Bool.and_self, D.nm, D.nmL, if_true]
  rcases mkv_find k m 0 with ⟨h1, _, h3⟩ | ⟨j, v0, h1, _, h3⟩
  · rw [h1]
    have := h3 ⟨x, y⟩
    simp only [Cst.c] at this
    simp only [this]
  · rw [h1]
    have := h3 ⟨x, y⟩
    simp only [Cst.c] at this
    simp only [Nat.zero_add, this]
def lessC (a b : Cst) : Bool := decide (a.len < b.len) || (decide (a.len = b.len) && decide (a.cells < b.cells))
theorem less_t (a b : Cst) : Pure Try.prog 120 [.agg a.c, .agg b.c] (.bool (lessC a b)) := by
  simp only [Cst.c, lessC]
  cases h1 : decide (a.len < b.len)
  · cases h2 : decide (a.len = b.len)
    · refine pure_of_wc (rs := [.tmp 4]) (m := 24) [] oNone_ok (by kernel_rfl) Try.func120 rfl (by kernel_rfl) rfl rfl (by kernel_rfl) ?_
      simp only [RT, FS, ↓RE, okR, argEnv, Nat.reduceAdd, Nat.reduceSub, Nat.reduceLT, Nat.reduceLeDiff, Nat.reduceEqDiff, reduceIte, h1, h2, beq_dec]
      all_goals simp
    · cases h3 : decide (a.cells < b.cells)
      · refine pure_of_wc (rs := [.tmp 4]) (m := 24) [] oNone_ok (by kernel_rfl) Try.func120 rfl (by kernel_rfl) rfl rfl (by kernel_rfl) ?_
        simp only [RT, FS, ↓RE, okR, argEnv, Nat.reduceAdd, Nat.reduceSub, Nat.reduceLT, Nat.reduceLeDiff, Nat.reduceEqDiff, reduceIte, h1, h2, h3, beq_dec]
        all_goals simp
      · refine pure_of_wc (rs := [.tmp 4]) (m := 24) [] oNone_ok (by kernel_rfl) Try.func120 rfl (by kernel_rfl) rfl rfl (by kernel_rfl) ?_
        simp only [RT, FS, ↓RE, okR, argEnv, Nat.reduceAdd, Nat.reduceSub, Nat.reduceLT, Nat.reduceLeDiff, Nat.reduceEqDiff, reduceIte, h1, h2, h3, beq_dec]
        all_goals simp
  · refine pure_of_wc (rs := [.tmp 4]) (m := 24) [] oNone_ok (by kernel_rfl) Try.func120 rfl (by kernel_rfl) rfl rfl (by kernel_rfl) ?_
    simp only [RT, FS, ↓RE, okR, argEnv, Nat.reduceAdd, Nat.reduceSub, Nat.reduceLT, Nat.reduceLeDiff, Nat.reduceEqDiff, reduceIte, h1]
    all_goals simp
end Go.Sx

namespace Go.Sx
set_option maxRecDepth 10000

/-! The search of the least costs, as it goes -/
def relaxF (al : Int → Bool) (c : Int) (st : Mp × List Int) (s : Stp) : Mp × List Int :=
  if al s.cell then
    match mget st.1 s.cell with
    | some old => if lessC ⟨((mget st.1 c).getD ⟨0, 0⟩).len + lenS s.dx s.dy, ((mget st.1 c).getD ⟨0, 0⟩).cells + 1⟩ old then (mput st.1 s.cell ⟨((mget st.1 c).getD ⟨0, 0⟩).len + lenS s.dx s.dy, ((mget st.1 c).getD ⟨0, 0⟩).cells + 1⟩, st.2 ++ [s.cell]) else st
    | none => (mput st.1 s.cell ⟨((mget st.1 c).getD ⟨0, 0⟩).len + lenS s.dx s.dy, ((mget st.1 c).getD ⟨0, 0⟩).cells + 1⟩, st.2 ++ [s.cell])
  else st
def farF (al : Int → Bool) (L : Int → List Stp) : Nat → Mp × List Int → Mp × List Int
  | 0, st => st
  | n + 1, st => match st.2 with
    | [] => st
    | c :: q => farF al L n ((L c).foldl (relaxF al c) (st.1, q))
def FUEL : Nat := 900000000
def farA (al : Int → Bool) (L : Int → List Stp) (to : Int) : Mp := if al to then (farF al L FUEL ([(to, ⟨0, 1⟩)], [to])).1 else []

/-! Sums -/
def sumTo (f : Nat → Nat) : Nat → Nat
  | 0 => 0
  | n + 1 => sumTo f n + f n
theorem sumTo_congr {f g : Nat → Nat} : ∀ (n : Nat), (∀ j, j < n → g j = f j) → sumTo g n = sumTo f n
  | 0, _ => rfl
  | n + 1, h => by simp only [sumTo]; rw [sumTo_congr n fun j hj => h j (by omega), h n (by omega)]
theorem sumTo_upd {f g : Nat → Nat} {i : Nat} : ∀ (n : Nat), i < n → (∀ j, j ≠ i → g j = f j) → sumTo g n + f i = sumTo f n + g i
  | 0, h, _ => by omega
  | n + 1, h, hg => by
    simp only [sumTo]
    by_cases e : i = n
    · subst e
      rw [sumTo_congr i fun j hj => hg j (by omega)]; omega
    · have := sumTo_upd n (by omega) hg
      rw [hg n (by omega)]; omega
theorem sumTo_le {f : Nat → Nat} {b : Nat} (h : ∀ j, f j ≤ b) : ∀ n, sumTo f n ≤ n * b
  | 0 => by simp [sumTo]
  | n + 1 => by have := sumTo_le h n; have := h n; simp only [sumTo, Nat.add_mul]; omega
def wgt : Option Cst → Nat
  | none => 3000000
  | some v => (v.len * 1000 + v.cells).toNat
def one : Option Cst → Nat
  | none => 0
  | some _ => 1
def cntM (N : Nat) (m : Mp) : Nat := sumTo (fun k => one (mget m (k : Int))) N
def phiM (N : Nat) (m : Mp) : Nat := sumTo (fun k => wgt (mget m (k : Int))) N
theorem cntM_le (N : Nat) (m : Mp) : cntM N m ≤ N := by
  have := sumTo_le (f := fun k => one (mget m (k : Int))) (b := 1) (fun j => by cases mget m (j : Int) <;> simp [one]) N
  unfold cntM; omega
theorem cntM_put {N : Nat} (m : Mp) {k : Int} (hk : 0 ≤ k ∧ k < N) (v : Cst) : cntM N (mput m k v) + one (mget m k) = cntM N m + 1 := by
  obtain ⟨i, rfl⟩ : ∃ i : Nat, k = i := ⟨k.toNat, by omega⟩
  have := sumTo_upd (f := fun j => one (mget m (j : Int))) (g := fun j => one (mget (mput m i v) (j : Int))) (i := i) N (by omega) fun j hj => by
    simp only [mget_put]; rw [if_neg (by omega)]
  simp only [mget_put, if_true, one] at this
  unfold cntM
  simp only [mget_put]
  exact this
theorem phiM_put {N : Nat} (m : Mp) {k : Int} (hk : 0 ≤ k ∧ k < N) (v : Cst) : phiM N (mput m k v) + wgt (mget m k) = phiM N m + wgt (some v) := by
  obtain ⟨i, rfl⟩ : ∃ i : Nat, k = i := ⟨k.toNat, by omega⟩
  have := sumTo_upd (f := fun j => wgt (mget m (j : Int))) (g := fun j => wgt (mget (mput m i v) (j : Int))) (i := i) N (by omega) fun j hj => by
    simp only [mget_put]; rw [if_neg (by omega)]
  simp only [mget_put, if_true] at this
  unfold phiM
  simp only [mget_put]
  exact this

/-- What holds of the search at any time. -/
structure FarOk (N : Nat) (st : Mp × List Int) : Prop where
  key : ∀ k v, mget st.1 k = some v → (0 ≤ k ∧ k < N) ∧ 0 ≤ v.len ∧ v.len ≤ 14 * ((cntM N st.1 : Int) - 1) ∧ 1 ≤ v.cells ∧ 10 * (v.cells - 1) ≤ v.len
  q : ∀ c ∈ st.2, ∃ v, mget st.1 c = some v
theorem FarOk.b {N : Nat} (hN : N ≤ 144) {st : Mp × List Int} (h : FarOk N st) {k : Int} {v : Cst} (hv : mget st.1 k = some v) : 0 ≤ v.len ∧ v.len ≤ 2002 ∧ 1 ≤ v.cells ∧ v.cells ≤ 202 := by
  have := h.key k v hv
  have := cntM_le N st.1
  omega
theorem relax_ok {N : Nat} (hN : N ≤ 144) {st : Mp × List Int} (h : FarOk N st) (al : Int → Bool) {c : Int} {o : Cst} (ho : mget st.1 c = some o) {s : Stp} (hs : 0 ≤ s.cell ∧ s.cell < N) :
    FarOk N (relaxF al c st s) ∧ (∃ o', mget (relaxF al c st s).1 c = some o') ∧ 2 * phiM N (relaxF al c st s).1 + (relaxF al c st s).2.length ≤ 2 * phiM N st.1 + st.2.length := by
  have hob := h.b hN ho
  have hok := h.key c o ho
  have hl := lenS_b s.dx s.dy
  have hcn := cntM_le N st.1
  unfold relaxF
  rw [ho]
  simp only [Option.getD_some]
  have keyup : ∀ (x : Option Cst), mget st.1 s.cell = x → (∀ v, x = some v → lessC ⟨o.len + lenS s.dx s.dy, o.cells + 1⟩ v = true) →
      FarOk N (mput st.1 s.cell ⟨o.len + lenS s.dx s.dy, o.cells + 1⟩, st.2 ++ [s.cell]) ∧ (∃ o', mget (mput st.1 s.cell ⟨o.len + lenS s.dx s.dy, o.cells + 1⟩) c = some o') ∧
      2 * phiM N (mput st.1 s.cell ⟨o.len + lenS s.dx s.dy, o.cells + 1⟩) + (st.2 ++ [s.cell]).length ≤ 2 * phiM N st.1 + st.2.length := fun x hx hless => by
    have hc := cntM_put st.1 hs ⟨o.len + lenS s.dx s.dy, o.cells + 1⟩
    have hp := phiM_put st.1 hs ⟨o.len + lenS s.dx s.dy, o.cells + 1⟩
    rw [hx] at hc hp
    have hnew : ((0 : Int) ≤ o.len + lenS s.dx s.dy ∧ o.len + lenS s.dx s.dy ≤ 14 * ((cntM N (mput st.1 s.cell ⟨o.len + lenS s.dx s.dy, o.cells + 1⟩) : Int) - 1)) := by
      cases x with
      | none => simp only [one] at hc; omega
      | some v =>
        have hv := h.key s.cell v hx
        have hq : o.len + lenS s.dx s.dy < v.len ∨ (o.len + lenS s.dx s.dy = v.len ∧ o.cells + 1 < v.cells) := by simpa [lessC] using hless v rfl
        simp only [one] at hc; omega
    refine ⟨⟨fun k v hv => ?_, fun d hd => ?_⟩, ?_, ?_⟩
    · rw [mget_put] at hv
      split at hv
      · rename_i e; subst e; cases hv
        exact ⟨hs, hnew.1, hnew.2, by simp only; omega, by simp only; omega⟩
      · have := h.key k v hv
        have : cntM N st.1 ≤ cntM N (mput st.1 s.cell ⟨o.len + lenS s.dx s.dy, o.cells + 1⟩) := by cases x <;> simp only [one] at hc <;> omega
        dsimp only
        omega
    · rw [mget_put]
      split
      · exact ⟨_, rfl⟩
      · rcases List.mem_append.1 hd with hd | hd
        · exact h.q d hd
        · simp at hd; contradiction
    · rw [mget_put]
      split
      · exact ⟨_, rfl⟩
      · exact ⟨o, ho⟩
    · rw [List.length_append, List.length_singleton]
      cases x with
      | none => simp only [wgt] at hp; omega
      | some v =>
        have hv := h.b hN hx
        have hq : o.len + lenS s.dx s.dy < v.len ∨ (o.len + lenS s.dx s.dy = v.len ∧ o.cells + 1 < v.cells) := by simpa [lessC] using hless v rfl
        simp only [wgt] at hp; omega
  split
  · cases hx : mget st.1 s.cell with
    | none => exact keyup none hx fun v e => by cases e
    | some v =>
      simp only
      split
      · rename_i hl2; exact keyup (some v) hx fun v' e => by cases e; exact hl2
      · exact ⟨h, ⟨o, ho⟩, Nat.le_refl _⟩
  · exact ⟨h, ⟨o, ho⟩, Nat.le_refl _⟩
theorem relax_all {N : Nat} (hN : N ≤ 144) (al : Int → Bool) {c : Int} : ∀ (l : List Stp) {st : Mp × List Int} {o : Cst}, FarOk N st → mget st.1 c = some o → (∀ s ∈ l, 0 ≤ s.cell ∧ s.cell < N) →
    FarOk N (l.foldl (relaxF al c) st) ∧ (∃ o', mget (l.foldl (relaxF al c) st).1 c = some o') ∧ 2 * phiM N (l.foldl (relaxF al c) st).1 + (l.foldl (relaxF al c) st).2.length ≤ 2 * phiM N st.1 + st.2.length
  | [], st, o, h, ho, _ => ⟨h, ⟨o, ho⟩, Nat.le_refl _⟩
  | s :: l, st, o, h, ho, hs => by
    obtain ⟨h1, ⟨o', ho'⟩, h3⟩ := relax_ok hN h al ho (hs s (by simp))
    obtain ⟨a, b, d⟩ := relax_all hN al l h1 ho' fun s' hs' => hs s' (by simp [hs'])
    exact ⟨a, b, Nat.le_trans d h3⟩
theorem farF_nil (al : Int → Bool) (L : Int → List Stp) (n : Nat) (m : Mp) : farF al L n (m, []) = (m, []) := by cases n <;> rfl
theorem farOk_start {N : Nat} {to : Int} (hto : 0 ≤ to ∧ to < N) : FarOk N ([(to, ⟨0, 1⟩)], [to]) := by
  have hc : cntM N [(to, ⟨0, 1⟩)] = 1 := by
    have := cntM_put [] hto ⟨0, 1⟩
    have h0 : cntM N [] = 0 := by
      unfold cntM
      have : ∀ n, sumTo (fun k => one (mget [] (k : Int))) n = 0 := fun n => by induction n with | zero => rfl | succ n ih => simp only [sumTo]; rw [ih]; rfl
      exact this N
    simp [mput, mget, one, h0] at this
    exact this
  refine ⟨fun k v hv => ?_, fun c hq => ?_⟩
  · simp only [mget] at hv
    split at hv
    · rename_i e; subst e; cases hv; simp only [hc]; exact ⟨hto, by decide, by simp, by decide, by decide⟩
    · cases hv
  · simp at hq; subst hq; exact ⟨⟨0, 1⟩, by simp [mget]⟩
theorem phi_start {N : Nat} (hN : N ≤ 144) (m : Mp) (h : ∀ k v, mget m k = some v → 0 ≤ v.len ∧ v.len ≤ 2002 ∧ 1 ≤ v.cells ∧ v.cells ≤ 202) : phiM N m ≤ 432000000 := by
  obtain ⟨B, hB⟩ : ∃ B : Nat, B = 3000000 := ⟨_, rfl⟩
  have := sumTo_le (f := fun k => wgt (mget m (k : Int))) (b := B) (fun j => by
    cases hj : mget m (j : Int) with
    | none => simp [wgt, hB]
    | some v => have := h _ _ hj; simp only [wgt]; omega) N
  have h3 : N * B ≤ 144 * B := Nat.mul_le_mul_right _ hN
  unfold phiM; omega
end Go.Sx

namespace Go.Sx
open Go.Proofs
set_option maxRecDepth 10000

/-- Cells that may be walked, and the steps from each of them. -/
structure Walk (N : Nat) (al : Int → Bool) (L : Int → List Stp) (fa : FuncId) (afst acaps : List D) (gs : FuncId) (sfst scaps : List D) (gi : FuncId) (ic : Int → List D) : Prop where
  n : N ≤ 144
  afl : ∀ m, D.ltL m afst = true
  acl : ∀ m, D.ltL m acaps = true
  ava : ∀ h c, viewL h (afst ++ (.int .i64 c :: acaps)) = afst ++ (.int .i64 c :: acaps)
  a : ∀ c : Int, 0 ≤ c → c < (N : Int) → Pure Try.prog fa (afst ++ (.int .i64 c :: acaps)) (.bool (al c))
  sfl : ∀ m, D.ltL m sfst = true
  scl : ∀ m, D.ltL m scaps = true
  s : ∀ c : Int, 0 ≤ c → c < (N : Int) → Pure Try.prog gs (sfst ++ (.int .i64 c :: scaps)) (.fn (.func gi) [] (ic c))
  icl : ∀ c m, D.ltL m (ic c) = true
  cal : callable Try.prog gi = true
  q : ∀ c : Int, 0 ≤ c → c < (N : Int) → SeqX Try.prog gi (ic c) (fun x : { s : Stp // s ∈ L c } => stpV x.1) (fun xs => xs = (L c).attach) (fun pre => pre <+: (L c).attach) 9
  ok : ∀ c : Int, 0 ≤ c → c < (N : Int) → ∀ s ∈ L c, (0 ≤ s.cell ∧ s.cell < N) ∧ DirOk s
theorem ltL_app (m : Nat) : ∀ (a b : List D), D.ltL m (a ++ b) = (D.ltL m a && D.ltL m b)
  | [], b => by simp [D.ltL]
  | x :: a, b => by simp [D.ltL, ltL_app m a b, Bool.and_assoc]
theorem oI_tail {h : H} {b n : Nat} {x : Int} {l : List Int} (hb : hget h b = some (.arr 3 1 (intL (x :: l)))) (hn : (x :: l).length = n) (nid : Nat) : sliceO Try.prog h nid 25 b n (some (.int .i64 1)) none = some (.osl nid (n - 1), (nid, .arr 3 1 (intL l)) :: herase h b, nid + 1) := by
  subst hn
  have h1 : (1 : Int) ≤ (l.length : Int) + 1 := by omega
  have h2 : (List.map enI.d l).take l.length = List.map enI.d l := List.take_of_length_le (by simp)
  simp [sliceO, Fz.und_25, hb, Fz.size_3, boundD, intL, h1, h2]
theorem oI_ix0 {h : H} {b n : Nat} {l : List Int} (hb : hget h b = some (.arr 3 1 (intL l))) (hn : l.length = n) (hi : 0 < n) : indexAddrD Try.prog h 25 (.osl b n) (.int .i64 0) = some (.eptr b n 1 0 0) := oI_ix (i := 0) hb hn hi
theorem mkv_lt (k : Nat) : ∀ m : Mp, D.ltL k ((mkv m).map (·.2)) = true
  | [] => rfl
  | p :: m => by
    have := mkv_lt k m
    simp only [mkv, List.map_cons, D.ltL, D.lt, Cst.c, Bool.and_self, Bool.true_and] at this ⊢
    exact this
theorem mkv_ltA (m : Mp) : ((mkv m).all fun p => D.lt 0 p.2) = true := by
  simp [mkv, Cst.c, D.lt, D.ltL]
theorem mkv_view (m : Mp) (h : H) (b : Nat) (hb : hget h b = some (.map (mkv m))) : view h (.mp b) = .mpd (mkv m) := by
  simp only [view, hb]
  rw [if_pos (mkv_lt 0 m)]
theorem FarOk.tail {N : Nat} {m : Mp} {c : Int} {q : List Int} (h : FarOk N (m, c :: q)) : FarOk N (m, q) := ⟨h.key, fun d hd => h.q d (List.mem_cons_of_mem _ hd)⟩
set_option maxHeartbeats 2000000 in
theorem far_t {N : Nat} {al : Int → Bool} {L : Int → List Stp} {fa : FuncId} {afst acaps : List D} {gs : FuncId} {sfst scaps : List D} {gi : FuncId} {ic : Int → List D} (W : Walk N al L fa afst acaps gs sfst scaps gi ic) (to : Int) (hto : 0 ≤ to ∧ to < (N : Int)) :
    Pure Try.prog 83 [.int .i64 to, .fn (.func fa) afst acaps, .fn (.func gs) sfst scaps] (.mpd (mkv (farA al L to))) := by
  have hN := W.n
  have afl := W.afl
  have acl := W.acl
  have ava := W.ava
  have sfl := W.sfl
  have scl := W.scl
  have pto := W.a to hto.1 hto.2
  have hm1 : methD Try.prog 158 "windsock/run.put" = some 145 := by kernel_rfl
  have hm2 : methD Try.prog 158 "windsock/run.take" = some 146 := by kernel_rfl
  have i1 := fun h nid K d ds u => inv_ifc (P := Try.prog) (O := oNone) h nid K hm1 d ds u
  have i2 := fun h nid K d ds u => inv_ifc (P := Try.prog) (O := oNone) h nid K hm2 d ds u
  have hif : ∀ b o, ifaceD Try.prog 158 (.ptr b o) = some (.ifc 158 (.ptr b o)) := fun b o => by kernel_rfl
  unfold farA
  cases hal : al to
  · rw [hal] at pto
    refine pure_of_wc (rs := [.tmp 6]) (m := 87) [(13, [(14, true, false, []), (1, false, false, [])])] oNone_ok (by kernel_rfl) Try.func83 rfl (by kernel_rfl) rfl rfl (by kernel_rfl) ?_
    simp only [RT, FS, ↓RE, okR, argEnv, Nat.reduceAdd, Nat.reduceSub, Nat.reduceLT, Nat.reduceLeDiff, Nat.reduceEqDiff, reduceIte, RM]
    refine call_of_pure (by simpa [ava] using pto) rfl ?_
    simp only [RT, FS, ↓RE, okR, argEnv, Nat.reduceAdd, Nat.reduceSub, Nat.reduceLT, Nat.reduceLeDiff, Nat.reduceEqDiff, reduceIte, RM]
    rfl
  rw [hal] at pto
  have u1 := fun h nid (hb : hget h 1 = some (.map [])) => mo_put (m := []) (h := h) (b := 1) hb nid to 0 1
  refine pure_of_wc (rs := [.tmp 6]) (m := 87) [(13, [(14, true, false, []), (1, false, false, [])])] oNone_ok (by kernel_rfl) Try.func83 rfl (by kernel_rfl) rfl rfl (by kernel_rfl) ?_
  simp only [RT, FS, ↓RE, okR, argEnv, Nat.reduceAdd, Nat.reduceSub, Nat.reduceLT, Nat.reduceLeDiff, Nat.reduceEqDiff, reduceIte, RM]
  refine call_of_pure (by simpa [ava] using pto) rfl ?_
  simp only [RT, FS, ↓RE, okR, argEnv, Nat.reduceAdd, Nat.reduceSub, Nat.reduceLT, Nat.reduceLeDiff, Nat.reduceEqDiff, reduceIte, RM, u1, i1, i2, hif]
  have hn0 : ∀ h nid, hget h 5 = some (.arr 3 1 [[.int .i64 to]]) → appE Try.prog h nid 25 25 .nils (.osl 5 1) = some (.osl nid 1, (nid, .arr 3 1 (intL [to])) :: h, nid + 1) := fun h nid hb =>
    app_nils (xs := [[.int .i64 to]]) Fz.und_25 Fz.size_3 Fz.zero_3 rfl (by omega) Fz.bytes_3_25 h nid (by simp [srcD, hb]) rfl (by simp) (by simp)
  refine call_of_acall ?_
  refine acall_of_wc (rs := []) (m := 14) [] oNone_ok (by kernel_rfl) Try.func145 rfl (by kernel_rfl) rfl rfl (by kernel_rfl) ?_
  simp only [RT, FS, ↓RE, okR, argEnv, Nat.reduceAdd, Nat.reduceSub, Nat.reduceLT, Nat.reduceLeDiff, Nat.reduceEqDiff, reduceIte, RM, hn0, intL_len, List.length_singleton, decide_true]
  simp only [RT, FS, ↓RE, okR, argEnv, Nat.reduceAdd, Nat.reduceSub, Nat.reduceLT, Nat.reduceLeDiff, Nat.reduceEqDiff, reduceIte, RM, i1, i2]
  have q6 := fun h (hb : hget h 6 = some (.arr 3 1 (intL [to]))) => oI_len (n := 1) hb rfl
  have x6 := fun h (hb : hget h 6 = some (.arr 3 1 (intL [to]))) => oI_ix0 (n := 1) hb rfl (by omega)
  have l6 := fun h (hb : hget h 6 = some (.arr 3 1 (intL [to]))) => oI_load (n := 1) (i := 0) hb rfl rfl
  have t6 := fun h nid (hb : hget h 6 = some (.arr 3 1 (intL [to]))) => oI_tail (n := 1) (l := []) hb rfl nid
  refine call_of_acall ?_
  refine acall_of_wc (rs := [.tmp 2, .tmp 3]) (m := 26) [] oNone_ok (by kernel_rfl) Try.func146 rfl (by kernel_rfl) rfl rfl (by kernel_rfl) ?_
  have hb10 : (((1 : Nat) : Int) == 0) = false := rfl
  simp only [RT, FS, ↓RE, okR, argEnv, Nat.reduceAdd, Nat.reduceSub, Nat.reduceLT, Nat.reduceLeDiff, Nat.reduceEqDiff, reduceIte, RM, q6, x6, l6, t6, hb10, intL_len, List.length_nil, Nat.sub_self, decide_true]
  -- the loop
  have hS0 := farOk_start (N := N) hto
  have hph0 := phi_start hN [(to, (⟨0, 1⟩ : Cst))] fun k v hv => hS0.b hN hv
  have afn := D.nmL_lt (afl 0)
  have acn := D.nmL_lt (acl 0)
  refine loopN (ι := Nat × Mp × List Int) oNone_ok [(13, [(14, true, false, []), (1, false, false, [])])] (fun s => [(2, .fn (.func gs) sfst scaps), (4, .ptr 0 0), (7, .ptr 2 0), (8, .ptr 4 0), (9, .ptr 8 0), (10, .bool (!s.2.2.isEmpty))])
    (fun s => [(8, .box [.int .i64 (s.2.2.headD 0)]), (7, .arr 3 1 (intL s.2.2.tail)), (4, .box [.ifc 158 (.ptr 3 0)]), (3, .box [.osl 7 s.2.2.tail.length]), (2, .box [.mp 1]), (1, .map (mkv s.2.1)), (0, .box [.fn (.func fa) afst acaps])]) (fun _ => 9)
    (fun s => FarOk N s.2 ∧ 2 * phiM N s.2.1 + s.2.2.length < s.1 ∧ 2 * phiM N s.2.1 + s.2.2.length ≤ 864000001 ∧ farF al L s.1 s.2 = farF al L FUEL ([(to, ⟨0, 1⟩)], [to])) (fun s => s.1) (FUEL, [(to, ⟨0, 1⟩)], [to]) (by kernel_rfl) (by kernel_rfl) ⟨hS0, by simp only [FUEL, List.length_singleton]; omega, by simp only [List.length_singleton]; omega, rfl⟩ ?_ ?_
  · refine .weak (weak_of ?_)
    simp [headW, heapW, envW, blkLt, D.ltL, D.lt, look, hget, afl, acl, sfl, scl, mput, intL, herase]
    exact mkv_lt _ _
  rintro ⟨fu, M, Qf⟩ ⟨hok, hlt, hle, hres⟩
  dsimp only at hok hlt hle hres ⊢
  cases Qf with
  | nil =>
    have hv := mkv_view M [(8, .box [.int .i64 0]), (7, .arr 3 1 (intL [])), (4, .box [.ifc 158 (.ptr 3 0)]), (3, .box [.osl 7 0]), (2, .box [.mp 1]), (1, .map (mkv M)), (0, .box [.fn (.func fa) afst acaps])] 1 (by simp [hget])
    rw [farF_nil] at hres
    simp only [RT, FS, ↓RE, okR, argEnv, Nat.reduceAdd, Nat.reduceSub, Nat.reduceLT, Nat.reduceLeDiff, Nat.reduceEqDiff, reduceIte, RM, List.isEmpty_nil, Bool.not_true, List.headD_nil, List.tail_nil]
    rw [← hres]
    exact hv
  | cons c q =>
  obtain ⟨fv, rfl⟩ : ∃ fv, fu = fv + 1 := ⟨fu - 1, by omega⟩
  obtain ⟨o, ho⟩ := hok.q c (by simp)
  have hokt := hok.tail
  have hc := (hok.key c o ho).1
  have ps := W.s c hc.1 hc.2
  have hLv := fun s hs => W.ok c hc.1 hc.2 s hs
  simp only [RT, FS, ↓RE, okR, argEnv, Nat.reduceAdd, Nat.reduceSub, Nat.reduceLT, Nat.reduceLeDiff, Nat.reduceEqDiff, reduceIte, RM, List.isEmpty_cons, Bool.not_false, List.headD_cons, List.tail_cons]
  have ps' : Pure Try.prog gs (sfst ++ [.int .i64 c] ++ scaps) (.fn (.func gi) [] (ic c)) := by simpa using ps
  refine call_of_pure' ps' (by simp [ltL_app, D.ltL, D.lt, sfl, scl]) (by simp [D.lt, D.ltL, W.icl]) ?_
  simp only [RT, FS, ↓RE, okR, argEnv, Nat.reduceAdd, Nat.reduceSub, Nat.reduceLT, Nat.reduceLeDiff, Nat.reduceEqDiff, reduceIte, RM]
  obtain ⟨st, hst⟩ : ∃ st : List { s : Stp // s ∈ L c } → Mp × List Int, st = fun xs => (xs.map (·.1)).foldl (relaxF al c) (M, q) := ⟨_, rfl⟩
  have hst0 : st [] = (M, q) := by rw [hst]; rfl
  have hstS : ∀ xs x, st (xs ++ [x]) = relaxF al c (st xs) x.1 := fun xs x => by rw [hst]; simp [List.foldl_append]
  have hstK : ∀ xs, FarOk N (st xs) ∧ (∃ o', mget (st xs).1 c = some o') ∧ 2 * phiM N (st xs).1 + (st xs).2.length ≤ 2 * phiM N M + q.length := fun xs => by
    rw [hst]
    exact relax_all hN al _ hokt ho fun s hs => by
      obtain ⟨y, _, rfl⟩ := List.mem_map.1 hs
      exact (hLv y.1 y.2).1
  refine rangeX (α := { s : Stp // s ∈ L c }) oNone_ok [(13, [(14, true, false, []), (1, false, false, [])])] (by kernel_rfl) (by kernel_rfl) (by kernel_rfl) (W.q c hc.1 hc.2) W.cal (fun _ => rfl) (fun R n x => stp_enc R n x.1) (W.icl c 0)
    [(2, .fn (.func gs) sfst scaps), (4, .ptr 0 0), (7, .ptr 2 0), (8, .ptr 4 0), (9, .ptr 8 0), (43, .fn (.func gi) [] (ic c))]
    (fun xs => [(8, .box [.int .i64 c]), (7, .arr 3 1 (intL (st xs).2)), (4, .box [.ifc 158 (.ptr 3 0)]), (3, .box [.osl 7 (st xs).2.length]), (2, .box [.mp 1]), (1, .map (mkv (st xs).1)), (0, .box [.fn (.func fa) afst acaps])]) 9 (fun _ => True) trivial rfl ?_ ?_ ?_ ?_
  · intro xs
    simp [mapsIn, mapIds, isMapAt, hget, boxNm, D.nm, D.nmL, afn, acn]
  · rw [hst0]
    simp [headW, heapW, envW, blkLt, D.ltL, D.lt, look, hget, afl, acl, sfl, scl, W.icl, mkv_lt]
  · intro lo pr x _ hlen'
    have hx := hLv x.1 x.2
    obtain ⟨hk1, ⟨o', ho'⟩, hk3⟩ := hstK pr
    have hob := hk1.b hN ho'
    have hl10 := lenS_b x.1.dx x.1.dy
    have pa := W.a x.1.cell hx.1.1 hx.1.2
    have pa' : Pure Try.prog fa (afst ++ [.int .i64 x.1.cell] ++ acaps) (.bool (al x.1.cell)) := by simpa using pa
    have plen := step_length_t x.1
    have hsn := hstS pr x
    unfold relaxF at hsn
    rw [ho'] at hsn
    simp only [Option.getD_some] at hsn
    generalize st pr = S at *
    obtain ⟨M', q'⟩ := S
    dsimp only at hsn ho' hk3 hk1 ⊢
    have hql : q'.length ≤ 1000000000 := by simp at hle; omega
    have w1 := wrap_i64 (z := o'.len + lenS x.1.dx x.1.dy) (by omega) (by omega)
    have w2 := wrap_i64 (z := o'.cells + 1) (by omega) (by omega)
    have g1 := fun h (hb : hget h 1 = some (.map (mkv M'))) => mo_get (k := c) hb
    have k1 := fun h (hb : hget h 1 = some (.map (mkv M'))) => mo_look (k := x.1.cell) hb
    have u3 := fun h nid (hb : hget h 1 = some (.map (mkv M'))) => mo_put hb nid x.1.cell (o'.len + lenS x.1.dx x.1.dy) (o'.cells + 1)
    rw [ho'] at g1
    simp only [valC, Cst.c] at g1
    obtain ⟨⟨xc, xdx, xdy⟩, hxm⟩ := x
    dsimp only at *
    simp only [Stp.c] at plen
    cases hax : al xc
    · rw [hax] at pa' hsn
      simp only [RT, FS, ↓RE, okR, argEnv, Nat.reduceAdd, Nat.reduceSub, Nat.reduceLT, Nat.reduceLeDiff, Nat.reduceEqDiff, reduceIte, RM, pe_cons, pe_nil, Array.toList, stpD, Stp.c]
      refine call_of_pure (by simpa [ava] using pa') rfl ?_
      simp only [RT, FS, ↓RE, okR, argEnv, Nat.reduceAdd, Nat.reduceSub, Nat.reduceLT, Nat.reduceLeDiff, Nat.reduceEqDiff, reduceIte, RM]
      simp only [Bool.false_eq_true, if_false] at hsn
      rw [hsn]
      simp [headW, heapW, envW, blkLt, D.ltL, D.lt, look, hget, afl, acl, sfl, scl, W.icl, mkv_lt]
    rw [hax] at pa' hsn
    simp only [if_true] at hsn
    have a7 := fun h nid (hb : hget h 7 = some (.arr 3 1 (intL q'))) (hb2 : hget h 12 = some (.arr 3 1 [[.int .i64 xc]])) => oI_app (n := q'.length) (n2 := 1) (r := [xc]) hb rfl hb2 rfl nid (by simp; omega)
    have pless := fun old : Cst => less_t ⟨o'.len + lenS xdx xdy, o'.cells + 1⟩ old
    simp only [Cst.c] at pless
    cases hmx : mget M' xc with
    | none =>
      rw [hmx] at hsn k1
      simp only [valC, Option.isSome_none] at k1
      dsimp only at hsn
      simp only [RT, FS, ↓RE, okR, argEnv, Nat.reduceAdd, Nat.reduceSub, Nat.reduceLT, Nat.reduceLeDiff, Nat.reduceEqDiff, reduceIte, RM, pe_cons, pe_nil, Array.toList, stpD, Stp.c]
      refine call_of_pure (by simpa [ava] using pa') rfl ?_
      simp only [RT, FS, ↓RE, okR, argEnv, Nat.reduceAdd, Nat.reduceSub, Nat.reduceLT, Nat.reduceLeDiff, Nat.reduceEqDiff, reduceIte, RM, g1, k1, u3, w1, w2, i1, i2]
      refine call_of_pure plen rfl ?_
      simp only [RT, FS, ↓RE, okR, argEnv, Nat.reduceAdd, Nat.reduceSub, Nat.reduceLT, Nat.reduceLeDiff, Nat.reduceEqDiff, reduceIte, RM, g1, k1, u3, w1, w2, i1, i2]
      refine call_of_acall ?_
      refine acall_of_wc (rs := []) (m := 14) [] oNone_ok (by kernel_rfl) Try.func145 rfl (by kernel_rfl) rfl rfl (by kernel_rfl) ?_
      simp only [RT, FS, ↓RE, okR, argEnv, Nat.reduceAdd, Nat.reduceSub, Nat.reduceLT, Nat.reduceLeDiff, Nat.reduceEqDiff, reduceIte, RM, a7, intL_len, List.length_append, List.length_singleton, decide_true]
      rw [hsn]
      simp [headW, heapW, envW, blkLt, D.ltL, D.lt, look, hget, afl, acl, sfl, scl, W.icl, mkv_lt]
    | some old =>
      rw [hmx] at hsn k1
      simp only [valC, Option.isSome_some, Cst.c] at k1
      dsimp only at hsn
      simp only [RT, FS, ↓RE, okR, argEnv, Nat.reduceAdd, Nat.reduceSub, Nat.reduceLT, Nat.reduceLeDiff, Nat.reduceEqDiff, reduceIte, RM, pe_cons, pe_nil, Array.toList, stpD, Stp.c]
      refine call_of_pure (by simpa [ava] using pa') rfl ?_
      simp only [RT, FS, ↓RE, okR, argEnv, Nat.reduceAdd, Nat.reduceSub, Nat.reduceLT, Nat.reduceLeDiff, Nat.reduceEqDiff, reduceIte, RM, g1, k1, u3, w1, w2, i1, i2]
      refine call_of_pure plen rfl ?_
      simp only [RT, FS, ↓RE, okR, argEnv, Nat.reduceAdd, Nat.reduceSub, Nat.reduceLT, Nat.reduceLeDiff, Nat.reduceEqDiff, reduceIte, RM, g1, k1, u3, w1, w2, i1, i2]
      refine call_of_pure (pless old) rfl ?_
      cases hle2 : lessC ⟨o'.len + lenS xdx xdy, o'.cells + 1⟩ old
      · rw [hle2] at hsn
        simp only [Bool.false_eq_true, if_false] at hsn
        simp only [RT, FS, ↓RE, okR, argEnv, Nat.reduceAdd, Nat.reduceSub, Nat.reduceLT, Nat.reduceLeDiff, Nat.reduceEqDiff, reduceIte, RM, g1, k1, u3, i1, i2]
        rw [hsn]
        simp [headW, heapW, envW, blkLt, D.ltL, D.lt, look, hget, afl, acl, sfl, scl, W.icl, mkv_lt]
      · rw [hle2] at hsn
        simp only [if_true] at hsn
        simp only [RT, FS, ↓RE, okR, argEnv, Nat.reduceAdd, Nat.reduceSub, Nat.reduceLT, Nat.reduceLeDiff, Nat.reduceEqDiff, reduceIte, RM, g1, k1, u3, i1, i2]
        refine call_of_acall ?_
        refine acall_of_wc (rs := []) (m := 14) [] oNone_ok (by kernel_rfl) Try.func145 rfl (by kernel_rfl) rfl rfl (by kernel_rfl) ?_
        simp only [RT, FS, ↓RE, okR, argEnv, Nat.reduceAdd, Nat.reduceSub, Nat.reduceLT, Nat.reduceLeDiff, Nat.reduceEqDiff, reduceIte, RM, a7, intL_len, List.length_append, List.length_singleton, decide_true]
        rw [hsn]
        simp [headW, heapW, envW, blkLt, D.ltL, D.lt, look, hget, afl, acl, sfl, scl, W.icl, mkv_lt]
  · intro xs hxs _
    subst hxs
    have hmap : ((L c).attach.map (·.1)) = L c := List.attach_map_subtype_val _
    obtain ⟨hk1, _, hk3⟩ := hstK (L c).attach
    have hfar : farF al L (fv + 1) (M, c :: q) = farF al L fv (st (L c).attach) := by rw [hst]; simp only [farF, hmap]
    rw [hfar] at hres
    generalize st (L c).attach = S at *
    obtain ⟨M', q'⟩ := S
    dsimp only at hk1 hk3 hres ⊢
    have hle' : 2 * phiM N M' + q'.length < fv ∧ 2 * phiM N M' + q'.length ≤ 864000001 := by
      simp only [List.length_cons] at hlt hle; omega
    cases q' with
    | nil =>
      have q7 := fun h (hb : hget h 7 = some (.arr 3 1 (intL []))) => oI_len (n := 0) hb rfl
      have hb10 : (((0 : Nat) : Int) == 0) = true := rfl
      simp only [RT, FS, ↓RE, okR, argEnv, Nat.reduceAdd, Nat.reduceSub, Nat.reduceLT, Nat.reduceLeDiff, Nat.reduceEqDiff, reduceIte, RM, i1, i2]
      refine call_of_acall ?_
      refine acall_of_wc (rs := [.tmp 2, .tmp 3]) (m := 26) [] oNone_ok (by kernel_rfl) Try.func146 rfl (by kernel_rfl) rfl rfl (by kernel_rfl) ?_
      simp only [RT, FS, ↓RE, okR, argEnv, Nat.reduceAdd, Nat.reduceSub, Nat.reduceLT, Nat.reduceLeDiff, Nat.reduceEqDiff, reduceIte, RM, q7, hb10, List.length_nil]
      refine ⟨(fv, M', []), ⟨hk1, hle'.1, hle'.2, hres⟩, by simp only; omega, ?_⟩
      refine (Imp.weak (weak_of (e := [(2, .fn (.func gs) sfst scaps), (4, .ptr 0 0), (7, .ptr 2 0), (8, .ptr 4 0), (9, .ptr 9 0), (10, .bool false)])
        (h := [(9, .box [.int .i64 0]), (7, .arr 3 1 (intL [])), (4, .box [.ifc 158 (.ptr 3 0)]), (3, .box [.osl 7 0]), (2, .box [.mp 1]), (1, .map (mkv M')), (0, .box [.fn (.func fa) afst acaps])]) (nid := 10) (n := 87) ?_)).trans (imp_move 9 8 (bi := .box [.int .i64 0]) (by omega) rfl rfl (by omega) (by omega) ?_ ?_ (.weak (weak_of ?_)))
      · simp [headW, heapW, envW, blkLt, D.ltL, D.lt, look, hget, afl, acl, sfl, scl, W.icl, mkv_lt]
      · simp [okMB, okM, mkv_ltA, D.lt, afl, acl]
      · simp [okM, D.lt, sfl, scl]
      · simp [headW, heapW, envW, blkLt, D.ltL, D.lt, look, hget, afl, acl, sfl, scl, mkv_lt, mvH, mvB, mvD]
    | cons c' q' =>
      have q7 := fun h (hb : hget h 7 = some (.arr 3 1 (intL (c' :: q')))) => oI_len (n := (c' :: q').length) hb rfl
      have hb10 : ((((c' :: q').length : Nat) : Int) == 0) = false := by simp; omega
      have x7 := fun h (hb : hget h 7 = some (.arr 3 1 (intL (c' :: q')))) => oI_ix0 (n := (c' :: q').length) hb rfl (by simp)
      have l7 := fun h (hb : hget h 7 = some (.arr 3 1 (intL (c' :: q')))) => oI_load (n := (c' :: q').length) (i := 0) hb rfl rfl
      have t7 := fun h nid (hb : hget h 7 = some (.arr 3 1 (intL (c' :: q')))) => oI_tail (n := (c' :: q').length) (l := q') hb rfl nid
      have hnd : ((c' :: q').length - 1 = q'.length) = True := by simp
      generalize hn : (c' :: q').length = n at *
      simp only [RT, FS, ↓RE, okR, argEnv, Nat.reduceAdd, Nat.reduceSub, Nat.reduceLT, Nat.reduceLeDiff, Nat.reduceEqDiff, reduceIte, RM, i1, i2]
      refine call_of_acall ?_
      refine acall_of_wc (rs := [.tmp 2, .tmp 3]) (m := 26) [] oNone_ok (by kernel_rfl) Try.func146 rfl (by kernel_rfl) rfl rfl (by kernel_rfl) ?_
      simp only [RT, FS, ↓RE, okR, argEnv, Nat.reduceAdd, Nat.reduceSub, Nat.reduceLT, Nat.reduceLeDiff, Nat.reduceEqDiff, reduceIte, RM, q7, x7, l7, t7, hb10, intL_len, hnd, decide_true]
      refine ⟨(fv, M', c' :: q'), ⟨hk1, by simp only; omega, by simp only; omega, hres⟩, by simp only; omega, ?_⟩
      have hn1 : n - 1 = q'.length := by simpa using hnd
      refine (Imp.weak (weak_of (e := [(2, .fn (.func gs) sfst scaps), (4, .ptr 0 0), (7, .ptr 2 0), (8, .ptr 4 0), (9, .ptr 9 0), (10, .bool true)])
        (h := [(10, .arr 3 1 (intL q')), (9, .box [.int .i64 c']), (4, .box [.ifc 158 (.ptr 3 0)]), (3, .box [.osl 10 q'.length]), (2, .box [.mp 1]), (1, .map (mkv M')), (0, .box [.fn (.func fa) afst acaps])]) (nid := 11) (n := 87) ?_)).trans
          (imp_move 9 8 (bi := .box [.int .i64 c']) (by omega) rfl rfl (by omega) (by omega) ?_ ?_ (imp_move 10 7 (bi := .arr 3 1 (intL q')) (by omega) ?_ ?_ (by omega) (by omega) ?_ ?_ (.weak (weak_of ?_))))
      · rw [hn1]
        simp [headW, heapW, envW, blkLt, D.ltL, D.lt, look, hget, afl, acl, sfl, scl, W.icl, mkv_lt]
      · simp [okMB, okM, mkv_ltA, D.lt, afl, acl]
      · simp [okM, D.lt, sfl, scl]
      · simp [mvH, mvB, mvD, hget]
      · simp [mvH, mvB, mvD, hget]
      · simp [okMB, okM, mkv_ltA, D.lt, afl, acl, mvH, mvB, mvD]
      · simp [okM, D.lt, sfl, scl, mvD]
      · simp [headW, heapW, envW, blkLt, D.ltL, D.lt, look, hget, afl, acl, sfl, scl, mkv_lt, mvH, mvB, mvD]
end Go.Sx

namespace Go.Sx
open Go.Proofs
set_option maxRecDepth 10000

/-! The way along the costs -/
def fits (m : Mp) (c : Int) (s : Stp) : Bool := match mget m s.cell with
  | some v => (v.len + lenS s.dx s.dy == ((mget m c).getD ⟨0, 0⟩).len) && (v.cells + 1 == ((mget m c).getD ⟨0, 0⟩).cells)
  | none => false
def nextW (m : Mp) (L : Int → List Stp) (c : Int) : Option Int := ((L c).find? (fits m c)).map (·.cell)
def alongF (m : Mp) (L : Int → List Stp) (to : Int) : Nat → Int → List Int
  | 0, c => [c]
  | n + 1, c => if c = to then [c] else match nextW m L c with
    | some d => c :: alongF m L to n d
    | none => [c]
def cellsN (m : Mp) (c : Int) : Nat := ((mget m c).getD ⟨0, 0⟩).cells.toNat
def alongA (m : Mp) (L : Int → List Stp) (frm to : Int) : List Int := alongF m L to (cellsN m frm + 1) frm
structure MapOk (N : Nat) (m : Mp) : Prop where
  b : ∀ k v, mget m k = some v → (0 ≤ k ∧ k < N) ∧ 0 ≤ v.len ∧ v.len ≤ 2002 ∧ 1 ≤ v.cells ∧ v.cells ≤ 202
theorem FarOk.map {N : Nat} (hN : N ≤ 144) {st : Mp × List Int} (h : FarOk N st) : MapOk N st.1 := ⟨fun k v hv => ⟨(h.key k v hv).1, h.b hN hv⟩⟩
theorem fits_cells {N : Nat} {m : Mp} (hm : MapOk N m) {c : Int} {s : Stp} (h : fits m c s = true) : cellsN m s.cell + 1 = cellsN m c ∧ (0 ≤ s.cell ∧ s.cell < N) := by
  unfold fits at h
  split at h
  · rename_i v hv
    simp only [Bool.and_eq_true, beq_iff_eq] at h
    have := hm.b _ _ hv
    simp only [cellsN, hv, Option.getD_some]
    omega
  · cases h
theorem find_pre {α : Type} {p : α → Bool} : ∀ {l pre : List α} {x : α}, pre ++ [x] <+: l → (∀ y ∈ pre, p y = false) → p x = true → l.find? p = some x
  | l, [], x, ⟨t, ht⟩, _, hx => by subst ht; simp [hx]
  | [], a :: pre, x, ⟨t, ht⟩, _, _ => by simp at ht
  | b :: l, a :: pre, x, ⟨t, ht⟩, hp, hx => by
    simp only [List.cons_append, List.cons.injEq] at ht
    obtain ⟨rfl, ht⟩ := ht
    simp only [List.find?_cons, hp a (by simp)]
    exact find_pre ⟨t, by simpa using ht⟩ (fun y hy => hp y (by simp [hy])) hx
theorem eql_cost (a b c d : Int) : binD Try.prog .eql 131 (.agg [.int .i64 a, .int .i64 b]) (.agg [.int .i64 c, .int .i64 d]) = some (.bool ((a == c) && ((b == d) && true))) := by kernel_rfl
theorem mr_load (h : H) (m : Mp) : loadAtD Try.prog h 127 (.refm (mkv m)) = some (.mpd (mkv m)) := (loadD_one Fz.agg_127 Fz.size_127 [.mpd (mkv m)] 0).trans rfl
theorem valC_getD (o : Option Cst) : valC o = .agg [.int .i64 (o.getD ⟨0, 0⟩).len, .int .i64 (o.getD ⟨0, 0⟩).cells] := by cases o <;> rfl
set_option maxHeartbeats 1000000 in
theorem along_t {N : Nat} (hN : N ≤ 144) {L : Int → List Stp} {gs : FuncId} {sfst scaps : List D} {gi : FuncId} {ic : Int → List D} {m : Mp} (hm : MapOk N m)
    (sfl : ∀ m, D.ltL m sfst = true) (scl : ∀ m, D.ltL m scaps = true) (ps : ∀ c : Int, 0 ≤ c → c < (N : Int) → Pure Try.prog gs (sfst ++ (.int .i64 c :: scaps)) (.fn (.func gi) [] (ic c))) (icl : ∀ c m, D.ltL m (ic c) = true) (cal : callable Try.prog gi = true)
    (hq : ∀ c : Int, 0 ≤ c → c < (N : Int) → SeqX Try.prog gi (ic c) (fun x : { s : Stp // s ∈ L c } => stpV x.1) (fun xs => xs = (L c).attach) (fun pre => pre <+: (L c).attach) 9)
    (frm to : Int) (hf : 0 ≤ frm ∧ frm < (N : Int)) :
    Pure Try.prog 85 [.int .i64 frm, .int .i64 to, .mpd (mkv m), .fn (.func gs) sfst scaps] (.sl (intL (alongA m L frm to))) := by
  refine pure_of_pieces (rs := [.tmp 8]) (m := 52) [(6, [(16, false, false, [])])] oNone_ok (by kernel_rfl) Try.func85 rfl (by kernel_rfl) rfl rfl (by kernel_rfl) ?_
  refine awp_peel (T := [(6, [(16, false, false, [])])]) oNone_ok (by kernel_rfl) (by kernel_rfl) ?_
  simp only [RT, FS, ↓RE, okR, argEnv, Nat.reduceAdd, Nat.reduceSub, Nat.reduceLT, Nat.reduceLeDiff, Nat.reduceEqDiff, reduceIte, RM]
  refine awp_imp (imp_thaw 1 (.weak (weak_of (e := [(1, .int .i64 to), (3, .fn (.func gs) sfst scaps), (4, .ptr 0 0), (6, .refm (mkv m))]) (h := [(0, .box [.int .i64 frm])]) (nid := 2) (n := 52) ?_))) ?_
  · simp [headW, heapW, envW, blkLt, D.ltL, D.lt, look, hget, frzHH, herase, frzBlk, frzD, sfl, scl]
  have lit1 : ∀ h nid, litOpD Try.prog h nid 25 1 [(0, .int .i64 frm)] = some (.osl nid 1, (nid, .arr 3 1 (intL [frm])) :: h, nid + 1) := fun h nid => lit_1 h nid frm
  refine awp_scope ?_
  refine awp_peel (T := [(6, [(16, false, false, [])])]) oNone_ok (by kernel_rfl) (by kernel_rfl) ?_
  simp only [RT, FS, ↓RE, okR, argEnv, Nat.reduceAdd, Nat.reduceSub, Nat.reduceLT, Nat.reduceLeDiff, Nat.reduceEqDiff, reduceIte, RM, intL_len, List.length_cons, List.length_nil, decide_true]
  refine awp_peel (T := [(6, [(16, false, false, [])])]) oNone_ok (by kernel_rfl) (by kernel_rfl) ?_
  simp only [RT, FS, ↓RE, okR, argEnv, Nat.reduceAdd, Nat.reduceSub, Nat.reduceLT, Nat.reduceLeDiff, Nat.reduceEqDiff, reduceIte, RM]
  have hcb : ∀ c, cellsN m c ≤ 202 := fun c => by
    unfold cellsN
    cases hv : mget m c with
    | none => simp
    | some v => have := hm.b _ _ hv; simp; omega
  refine awp_cut oNone_ok (by kernel_rfl) [(9, .ptr 3 0)] [(3, .box [.osl 2 (alongA m L frm to).length]), (2, .arr 3 1 (intL (alongA m L frm to)))] 4 52 (T := [(6, [(16, false, false, [])])]) (by kernel_rfl) ?_ ?_
  · simp only [RT, FS, ↓RE, okR, argEnv, Nat.reduceAdd, Nat.reduceSub, Nat.reduceLT, Nat.reduceLeDiff, Nat.reduceEqDiff, reduceIte]
    generalize hR : alongA m L frm to = R
    refine loopV (ι := Nat × List Int × Int) oNone_ok [(6, [(16, false, false, [])])] (fun s => [(1, .int .i64 to), (3, .fn (.func gs) sfst scaps), (4, .ptr 0 0), (6, .refm (mkv m)), (9, .ptr 3 0)])
      (fun s => [(3, .box [.osl 2 (s.2.1.length + 1)]), (2, .arr 3 1 (intL (s.2.1 ++ [s.2.2]))), (0, .box [.int .i64 s.2.2])]) 4
      (fun s => (0 ≤ s.2.2 ∧ s.2.2 < (N : Int)) ∧ cellsN m s.2.2 < s.1 ∧ s.2.1.length + s.1 ≤ 203 ∧ s.2.1 ++ alongF m L to s.1 s.2.2 = R) (fun s => s.1) (cellsN m frm + 1, [], frm) (by kernel_rfl) (by kernel_rfl) ⟨hf, by simp, by have := hcb frm; simp; omega, by simpa [alongA] using hR⟩ ?_ ?_
    · simp [headW, heapW, envW, blkLt, D.ltL, D.lt, look, hget, sfl, scl, icl]
      try simp [intL, enI]
    rintro ⟨fu, dn, c⟩ ⟨hc, hfu, hb, htot⟩
    dsimp only at hc hfu hb htot ⊢
    obtain ⟨fv, rfl⟩ : ∃ fv, fu = fv + 1 := ⟨fu - 1, by omega⟩
    simp only [alongF] at htot
    by_cases hct : c = to
    · have hb1 : (c != to) = false := by simpa using hct
      rw [if_pos hct] at htot
      simp only [RT, FS, ↓RE, okR, argEnv, Nat.reduceAdd, Nat.reduceSub, Nat.reduceLT, Nat.reduceLeDiff, Nat.reduceEqDiff, reduceIte, hb1]
      subst htot
      simp [headW, heapW, envW, blkLt, D.ltL, D.lt, look, hget, sfl, scl, icl]
    have hb1 : (c != to) = true := by simpa using hct
    rw [if_neg hct] at htot
    have ps' : Pure Try.prog gs (sfst ++ [.int .i64 c] ++ scaps) (.fn (.func gi) [] (ic c)) := by simpa using ps c hc.1 hc.2
    simp only [RT, FS, ↓RE, okR, argEnv, Nat.reduceAdd, Nat.reduceSub, Nat.reduceLT, Nat.reduceLeDiff, Nat.reduceEqDiff, reduceIte, hb1]
    refine call_of_pure' ps' (by simp [ltL_app, D.ltL, D.lt, sfl, scl]) (by simp [D.lt, D.ltL, icl]) ?_
    simp only [RT, FS, ↓RE, okR, argEnv, Nat.reduceAdd, Nat.reduceSub, Nat.reduceLT, Nat.reduceLeDiff, Nat.reduceEqDiff, reduceIte]
    refine rangeX (α := { s : Stp // s ∈ L c }) oNone_ok [(6, [(16, false, false, [])])] (by kernel_rfl) (by kernel_rfl) (by kernel_rfl) (hq c hc.1 hc.2) cal (fun _ => rfl) (fun R n x => stp_enc R n x.1) (icl c 0)
      [(1, .int .i64 to), (3, .fn (.func gs) sfst scaps), (4, .ptr 0 0), (6, .refm (mkv m)), (9, .ptr 3 0), (20, .fn (.func gi) [] (ic c))]
      (fun xs => [(3, .box [.osl 2 (dn.length + 1)]), (2, .arr 3 1 (intL (dn ++ [c]))), (0, .box [.int .i64 c])]) 4 (fun pre => ∀ x ∈ pre, fits m c x.1 = false) (fun x hx => by cases hx) rfl (fun _ => rfl) ?_ ?_ ?_
    · simp [headW, heapW, envW, blkLt, D.ltL, D.lt, look, hget, sfl, scl, icl]
    · intro lo pr x hI hlen'
      have hgc : ∀ h, lookupD Try.prog h 127 (.mpd (mkv m)) (.int .i64 c) false = some (.agg [.int .i64 ((mget m c).getD ⟨0, 0⟩).len, .int .i64 ((mget m c).getD ⟨0, 0⟩).cells]) := fun h => by rw [md_get, valC_getD]
      have hlx := fun h => md_look h m x.1.cell
      have plen := step_length_t x.1
      have hl10 := lenS_b x.1.dx x.1.dy
      have hsnoc : ∀ b, fits m c x.1 = b → b = false → ∀ y ∈ pr ++ [x], fits m c y.1 = false := fun b hb hbf y hy => by
        rcases List.mem_append.1 hy with h | h
        · exact hI y h
        · simp at h; subst h; rw [hb, hbf]
      obtain ⟨⟨xc, xdx, xdy⟩, hxm⟩ := x
      dsimp only at hlx plen hl10 hsnoc
      simp only [Stp.c] at plen
      cases hmx : mget m xc with
      | none =>
        have hft : fits m c ⟨xc, xdx, xdy⟩ = false := by simp [fits, hmx]
        simp only [hmx, valC, Option.isSome_none] at hlx
        simp only [RT, FS, ↓RE, okR, argEnv, Nat.reduceAdd, Nat.reduceSub, Nat.reduceLT, Nat.reduceLeDiff, Nat.reduceEqDiff, reduceIte, RM, pe_cons, pe_nil, Array.toList, stpD, Stp.c, mr_load, hlx]
        refine ⟨hsnoc false hft rfl, ?_⟩
        simp [headW, heapW, envW, blkLt, D.ltL, D.lt, look, hget, sfl, scl, icl]
      | some v =>
        have hvb := hm.b _ _ hmx
        have w1 := wrap_i64 (z := v.len + lenS xdx xdy) (by omega) (by omega)
        have w2 := wrap_i64 (z := v.cells + 1) (by omega) (by omega)
        simp only [hmx, valC, Option.isSome_some, Cst.c] at hlx
        have hfe : ((v.len + lenS xdx xdy == ((mget m c).getD ⟨0, 0⟩).len) && (v.cells + 1 == ((mget m c).getD ⟨0, 0⟩).cells)) = fits m c ⟨xc, xdx, xdy⟩ := by simp [fits, hmx]
        cases hft : fits m c ⟨xc, xdx, xdy⟩
        · rw [hft] at hfe
          simp only [RT, FS, ↓RE, okR, argEnv, Nat.reduceAdd, Nat.reduceSub, Nat.reduceLT, Nat.reduceLeDiff, Nat.reduceEqDiff, reduceIte, RM, pe_cons, pe_nil, Array.toList, stpD, Stp.c, mr_load, hlx, hgc, w1, w2, eql_cost]
          refine call_of_pure plen rfl ?_
          simp only [RT, FS, ↓RE, okR, argEnv, Nat.reduceAdd, Nat.reduceSub, Nat.reduceLT, Nat.reduceLeDiff, Nat.reduceEqDiff, reduceIte, RM, mr_load, hlx, hgc, w1, w2, eql_cost, hfe]
          refine ⟨hsnoc false hft rfl, ?_⟩
          simp [headW, heapW, envW, blkLt, D.ltL, D.lt, look, hget, sfl, scl, icl]
        · rw [hft] at hfe
          have a2 := fun h nid (hb : hget h 2 = some (.arr 3 1 (intL (dn ++ [c])))) (hb2 : hget h 6 = some (.arr 3 1 [[.int .i64 xc]])) => oI_app (n := dn.length + 1) (n2 := 1) (r := [xc]) hb (by simp) hb2 rfl nid (by simp; omega)
          simp only [RT, FS, ↓RE, okR, argEnv, Nat.reduceAdd, Nat.reduceSub, Nat.reduceLT, Nat.reduceLeDiff, Nat.reduceEqDiff, reduceIte, RM, pe_cons, pe_nil, Array.toList, stpD, Stp.c, mr_load, hlx, hgc, w1, w2, eql_cost]
          refine call_of_pure plen rfl ?_
          simp only [RT, FS, ↓RE, okR, argEnv, Nat.reduceAdd, Nat.reduceSub, Nat.reduceLT, Nat.reduceLeDiff, Nat.reduceEqDiff, reduceIte, RM, mr_load, hlx, hgc, w1, w2, eql_cost, hfe, a2, intL_len, List.length_append, List.length_cons, List.length_nil, decide_true]
          refine ⟨rfl, fun hpre => ?_⟩
          have hnx : nextW m L c = some xc := by
            have hp1 : (pr.map (·.1)) ++ [(⟨xc, xdx, xdy⟩ : Stp)] <+: L c := by
              have := hpre.map (·.1)
              rw [List.map_append] at this
              have hmap : ((L c).attach.map (·.1)) = L c := List.attach_map_subtype_val _
              rw [hmap] at this
              exact this
            have hfd := find_pre hp1 (fun y hy => by
              obtain ⟨z, hz, rfl⟩ := List.mem_map.1 hy
              exact hI z hz) hft
            simp [nextW, hfd]
          have hfc := fits_cells hm hft
          rw [hnx] at htot
          refine ⟨(fv, dn ++ [c], xc), ⟨hfc.2, by simp only at hfc ⊢; omega, by simp; omega, by simpa using htot⟩, by simp only; omega, ?_⟩
          simp [headW, heapW, envW, blkLt, D.ltL, D.lt, look, hget, sfl, scl, icl]
    · intro xs hxs hI
      subst hxs
      have hnx : nextW m L c = none := by
        have : (L c).find? (fits m c) = none := by
          rw [List.find?_eq_none]
          intro s hs
          rw [hI ⟨s, hs⟩ (List.mem_attach _ _)]
          simp
        simp [nextW, this]
      rw [hnx] at htot
      simp only [RT, FS, ↓RE, okR, argEnv, Nat.reduceAdd, Nat.reduceSub, Nat.reduceLT, Nat.reduceLeDiff, Nat.reduceEqDiff, reduceIte]
      subst htot
      simp [headW, heapW, envW, blkLt, D.ltL, D.lt, look, hget, sfl, scl, icl]
  refine awp_rest (T := [(6, [(16, false, false, [])])]) oNone_ok (by kernel_rfl) (by kernel_rfl) ?_
  simp only [RT, FS, ↓RE, okR, argEnv, Nat.reduceAdd, Nat.reduceSub, Nat.reduceLT, Nat.reduceLeDiff, Nat.reduceEqDiff, reduceIte, RM]
  simp [viewA, intL_len]
end Go.Sx

namespace Go.Sx
open Go.Proofs
set_option maxRecDepth 10000

/-- Whether a cell can be flown over at a height. -/
def allowB (l : LandM) (needs : List Int) (h : Int) (c : Int) : Bool := decide (gAt l c.toNat + l.clear ≤ h) && decide (nAt needs c.toNat ≤ h)
theorem allowed1_t (c : Craft) (l : LandM) (hl : LandOk l) (a : AirW) (ce : Int) (needs : List Int) (hn : needs.length = l.ground.length) (h : Int) (x : Int) (hx : 0 ≤ x ∧ x < (l.ground.length : Int)) :
    Pure Try.prog 121 [.int .i64 x, .ref [.ref (flO c l a ce) 0] 0, .ref [.int .i64 h] 0, .ref [.sl (intL needs)] 0] (.bool (allowB l needs h x)) := by
  obtain ⟨i, rfl⟩ : ∃ i : Nat, x = i := ⟨x.toNat, by omega⟩
  have hi : i < l.ground.length := by omega
  have h1 := hl.g_at hi
  have hg := sI_ix h1.1
  have hni : needs[i]? = some (nAt needs i) := by
    have : i < needs.length := by omega
    simp [nAt, this]
  have hnx := sI_ix hni
  have hc := hl.clear
  have w1 := wrap_i64 (z := gAt l i + l.clear) (by omega) (by omega)
  simp only [flO, flD, allowB, Int.toNat_natCast]
  cases q1 : decide (gAt l i + l.clear ≤ h)
  · refine pure_of_wc (rs := [.tmp 5]) (m := 30) [(1, [(25, false, false, [])])] oNone_ok (by kernel_rfl) Try.func121 rfl (by kernel_rfl) rfl rfl (by kernel_rfl) ?_
    simp only [RT, FS, ↓RE, okR, argEnv, Nat.reduceAdd, Nat.reduceSub, Nat.reduceLT, Nat.reduceLeDiff, Nat.reduceEqDiff, reduceIte, hg, hnx, w1, q1]
    all_goals simp
  · refine pure_of_wc (rs := [.tmp 5]) (m := 30) [(1, [(25, false, false, [])])] oNone_ok (by kernel_rfl) Try.func121 rfl (by kernel_rfl) rfl rfl (by kernel_rfl) ?_
    simp only [RT, FS, ↓RE, okR, argEnv, Nat.reduceAdd, Nat.reduceSub, Nat.reduceLT, Nat.reduceLeDiff, Nat.reduceEqDiff, reduceIte, hg, hnx, w1, q1]
    all_goals simp
def allowC (c : Craft) (l : LandM) (a : AirW) (ce h : Int) : List D := [.ref [.ref (flO c l a ce) 0] 0, .ref [.int .i64 h] 0, .ref [.sl (intL (needsF c a ce l))] 0]
theorem allowed_t (c : Craft) (hc : CraftOk c) (l : LandM) (hl : LandOk l) (a : AirW) (ha : AirOk a) (ce h : Int) :
    Pure Try.prog 84 [.ref (flO c l a ce) 0, .int .i64 h] (.fn (.func 121) [] (allowC c l a ce h)) := by
  have pn := needs_t c hc l hl a ha ce
  unfold allowC
  generalize flO c l a ce = F at *
  refine pure_of_wc (rs := [.tmp 4]) (m := 9) [] oNone_ok (by kernel_rfl) Try.func84 rfl (by kernel_rfl) rfl rfl (by kernel_rfl) ?_
  simp only [RT, FS, ↓RE, okR, argEnv, Nat.reduceAdd, Nat.reduceSub, Nat.reduceLT, Nat.reduceLeDiff, Nat.reduceEqDiff, reduceIte, RM]
  refine call_of_pure' pn (by simp [D.ltL, D.lt]) (by simp [D.lt]) ?_
  simp only [RT, FS, ↓RE, okR, argEnv, Nat.reduceAdd, Nat.reduceSub, Nat.reduceLT, Nat.reduceLeDiff, Nat.reduceEqDiff, reduceIte, RM]
theorem roundsF_ok {l : LandM} {step : List Int → List Int} (hs : ∀ now, NowOk l now → NowOk l (step now)) : ∀ (n : Nat) {now : List Int}, NowOk l now → ∀ r ∈ roundsF step n now, NowOk l r
  | 0, now, h, r, hr => by simp [roundsF] at hr; subst hr; exact h
  | n + 1, now, h, r, hr => by
    simp only [roundsF] at hr
    split at hr
    · simp at hr; subst hr; exact h
    · rcases List.mem_cons.1 hr with rfl | hr
      · exact h
      · exact roundsF_ok hs n (hs now h) r hr
theorem withinF_ok {c : Craft} (hc : CraftOk c) {a : AirW} (ha : AirOk a) {l : LandM} (hl : LandOk l) (ce : Int) : ∀ r ∈ withinF c a ce l, NowOk l r := roundsF_ok (fun now h => stepN_ok hl ce h) _ (startN_ok hl)
theorem needsF_ok {c : Craft} (hc : CraftOk c) {a : AirW} (ha : AirOk a) {l : LandM} (hl : LandOk l) (ce : Int) : NowOk l (needsF c a ce l) := by
  refine withinF_ok hc ha hl ce _ ?_
  have hne := withinF_ne c a ce l
  unfold needsF
  rw [List.getLastD_eq_getLast?, List.getLast?_eq_some_getLast hne]
  exact List.getLast_mem hne
/-- The steps of a flight over a map, as something to walk. -/
theorem walk_fl (c : Craft) (hc : CraftOk c) (l : LandM) (hl : LandOk l) (a : AirW) (ha : AirOk a) (ce h : Int) :
    Walk l.ground.length (allowB l (needsF c a ce l) h) (stepsL l.wide l.deep) 121 [] (allowC c l a ce h) 75 [.ref (flO c l a ce) 0] [] 115 (fun x => [.ref [.int .i64 x] 0, .ref [.ref (flO c l a ce) 0] 0]) := by
  have hs := hl.small
  have hsz := hl.size
  refine ⟨hs.2, fun m => rfl, fun m => rfl, fun h c => rfl, fun x h0 h1 => allowed1_t c l hl a ce _ (needsF_ok hc ha hl ce).len h x ⟨h0, h1⟩, fun m => rfl, fun m => rfl, fun x _ _ => steps_t _ x, fun x m => rfl, by kernel_rfl, fun x h0 h1 => ?_, fun x h0 h1 s hsx => ?_⟩
  · exact (steps_seq c l.wide l.deep (.sl (intL l.ground)) (.sl (boolL l.water)) l.clear a ce hl.wide hl.deep x ⟨h0, by omega⟩).toX
  · obtain ⟨j, hj, he⟩ := mem_steps hsx
    have := stepAt_ok hl.wide.1 ⟨h0, by omega⟩ hj he
    exact ⟨by omega, this.2.1⟩
theorem farF_ok {N : Nat} (hN : N ≤ 144) (al : Int → Bool) (L : Int → List Stp) (hL : ∀ c : Int, 0 ≤ c → c < (N : Int) → ∀ s ∈ L c, 0 ≤ s.cell ∧ s.cell < (N : Int)) : ∀ (n : Nat) {st : Mp × List Int}, FarOk N st → FarOk N (farF al L n st)
  | 0, st, h => h
  | n + 1, (m, []), h => by simpa [farF] using h
  | n + 1, (m, c :: q), h => by
    simp only [farF]
    obtain ⟨o, ho⟩ := h.q c (by simp)
    have hc := (h.key c o ho).1
    exact farF_ok hN al L hL n (relax_all hN al _ h.tail ho fun s hs => hL c hc.1 hc.2 s hs).1
theorem farA_ok {N : Nat} (hN : N ≤ 144) (al : Int → Bool) (L : Int → List Stp) (hL : ∀ c : Int, 0 ≤ c → c < (N : Int) → ∀ s ∈ L c, 0 ≤ s.cell ∧ s.cell < (N : Int)) {to : Int} (hto : 0 ≤ to ∧ to < (N : Int)) : MapOk N (farA al L to) := by
  unfold farA; split
  · exact (farF_ok hN al L hL FUEL (farOk_start hto)).map hN
  · exact ⟨fun k v h => by cases h⟩
/-- The costs of ways to a cell at a height. -/
def costsF (c : Craft) (a : AirW) (ce : Int) (l : LandM) (to h : Int) : Mp := farA (allowB l (needsF c a ce l) h) (stepsL l.wide l.deep) to
theorem lowest1_t (c : Craft) (hc : CraftOk c) (l : LandM) (hl : LandOk l) (a : AirW) (ha : AirOk a) (ce : Int) (frm to : Int) (hto : 0 ≤ to ∧ to < (l.ground.length : Int)) (h : Int) :
    Pure Try.prog 87 [.int .i64 h, .ref [.int .i64 to] 0, .ref [.ref (flO c l a ce) 0] 0, .ref [.int .i64 frm] 0] (.bool (mget (costsF c a ce l to h) frm).isSome) := by
  have p1 := allowed_t c hc l hl a ha ce h
  have p2 := far_t (walk_fl c hc l hl a ha ce h) to hto
  unfold costsF
  have hAC : ∀ m, D.ltL m (allowC c l a ce h) = true := fun m => rfl
  have hAF : D.frL (allowC c l a ce h) = true := rfl
  have hAV : ∀ hh, viewL hh (allowC c l a ce h) = allowC c l a ce h := fun hh => rfl
  generalize flO c l a ce = F at *
  generalize allowC c l a ce h = AC at *
  generalize farA (allowB l (needsF c a ce l) h) (stepsL l.wide l.deep) to = M at *
  have hlk := fun hh => md_look hh M frm
  rw [valC_getD] at hlk
  refine pure_of_wc (rs := [.tmp 5]) (m := 21) [(1, [(14, false, true, [(13, 1), (12, 1), (10, 1), (9, 1), (7, 1), (6, 1), (5, 1)]), (1, false, false, [])])] oNone_ok (by kernel_rfl) Try.func87 rfl (by kernel_rfl) rfl rfl (by kernel_rfl) ?_
  simp only [RT, FS, ↓RE, okR, argEnv, Nat.reduceAdd, Nat.reduceSub, Nat.reduceLT, Nat.reduceLeDiff, Nat.reduceEqDiff, reduceIte, RM]
  refine call_of_pure' p1 (by simp [D.ltL, D.lt]) (by simp [D.ltL, D.lt, hAC]) ?_
  simp only [RT, FS, ↓RE, okR, argEnv, Nat.reduceAdd, Nat.reduceSub, Nat.reduceLT, Nat.reduceLeDiff, Nat.reduceEqDiff, reduceIte, RM]
  refine call_of_free p2 (by simp [D.frL, D.fr, hAF]) (by simp [D.fr]) ?_
  simp only [RT, FS, ↓RE, okR, argEnv, Nat.reduceAdd, Nat.reduceSub, Nat.reduceLT, Nat.reduceLeDiff, Nat.reduceEqDiff, reduceIte, RM, hlk]
  simp [hAV]
end Go.Sx
