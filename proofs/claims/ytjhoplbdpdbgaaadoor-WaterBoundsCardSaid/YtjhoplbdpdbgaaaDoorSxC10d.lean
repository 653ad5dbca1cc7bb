/- Own work: contracts of functions, used in the proof of a law. -/
import Derived.Test.YtjhoplbdpdbgaaaDoorSxC9d
set_option linter.unusedVariables false
set_option linter.unusedSimpArgs false
namespace Go.Sx
open Go.Proofs
set_option maxRecDepth 10000

/-- A slice of numbers, maybe nil. -/
def isL (d : D) (l : List Int) : Prop := d = .sl (iL l) ∨ d = .nils ∧ l = []
def decL : D → Option (List Int)
  | .sl es => decIs es
  | .nils => some []
  | _ => none
theorem decL_sl (l : List Int) : decL (.sl (iL l)) = some l := decIs_map l
theorem decL_nils : decL .nils = some [] := (rfl)
theorem decL_inv {d : D} {l : List Int} (h : decL d = some l) : isL d l := by
  unfold decL at h
  split at h
  · exact .inl (by rw [decIs_inv h])
  · cases h; exact .inr ⟨rfl, rfl⟩
  · cases h

theorem decL_view {d : D} {l : List Int} (h : decL d = some l) (hp : H) : view hp d = d := by
  rcases decL_inv h with rfl | ⟨rfl, rfl⟩ <;> rfl
theorem decL_lt {d : D} {l : List Int} (h : decL d = some l) (m : Nat) : D.lt m d = true := by
  rcases decL_inv h with rfl | ⟨rfl, rfl⟩ <;> rfl
theorem Has_sl (l : List Int) (n : Int) (hl : l.length ≤ 9223372036854775807) : Pure Tryd.prog 45 [.sl (iL l), .int .i64 n] (.bool (l.contains n)) := by
  refine pure_of_wc (rs := [.tmp 4]) (m := 18) [] o9_ok (by kernel_rfl) Tryd.func45 rfl (by kernel_rfl) rfl rfl (by kernel_rfl) ?_
  simp only [FT, ↓RD, RU, okR, Bool.true_or, Bool.or_true, argEnv, List.length_cons, List.length_nil, List.map_cons, List.map_nil, List.getElem?_cons_zero, List.getElem?_cons_succ, List.drop_zero, List.drop_succ_cons, List.take_succ_cons, List.take_zero, List.all_cons, List.all_nil, Option.map_some, Bool.and_self, Bool.and_true, true_and, and_true, and_self, Nat.reduceAdd, Nat.reduceSub, Nat.reduceLT, Nat.reduceLeDiff, Nat.reduceEqDiff, Nat.zero_add, Nat.add_zero, ne_eq, not_false_eq_true, reduceIte, Bool.not_true, Bool.not_false, Nat.le_refl, iL_length]
  refine loopV (ι := Nat) o9_ok [] (fun i => [(0, .sl (iL l)), (1, .int .i64 n), (5, .int .i64 (i : Int))]) (fun i => []) 0
    (fun i => i ≤ l.length ∧ l.contains n = (l.drop i).contains n) (fun i => l.length - i) 0 (by kernel_rfl) (by kernel_rfl) ⟨Nat.zero_le _, rfl⟩ ?_ ?_
  · simp [headW, heapW, envW, blkLt, D.ltL, D.lt, look, hget]
  rintro i ⟨hil, hcl⟩
  rcases Nat.lt_or_ge i l.length with hlt | hge
  rotate_left
  · have hc : ((i : Int) < (l.length : Int)) = False := by simp; omega
    have : i = l.length := by omega
    subst this
    rw [List.drop_length] at hcl
    simp only [FT, ↓RD, RU, okR, Bool.true_or, Bool.or_true, argEnv, List.length_cons, List.length_nil, List.map_cons, List.map_nil, List.getElem?_cons_zero, List.getElem?_cons_succ, List.drop_zero, List.drop_succ_cons, List.take_succ_cons, List.take_zero, List.all_cons, List.all_nil, Option.map_some, Bool.and_self, Bool.and_true, true_and, and_true, and_self, Nat.reduceAdd, Nat.reduceSub, Nat.reduceLT, Nat.reduceLeDiff, Nat.reduceEqDiff, Nat.zero_add, Nat.add_zero, ne_eq, not_false_eq_true, reduceIte, Bool.not_true, Bool.not_false, Nat.le_refl, iL_length, hc, decide_false]
    rw [hcl]; rfl
  have hc : ((i : Int) < (l.length : Int)) = True := by simp [hlt]
  have hix := fun hp => ix_i Fz.und_25 Fz.size_3 (l := l) (m := (i : Int)) (by omega) (by omega) hp
  have hx : l[i]? = some (iAt l (i : Int)) := by simp [iAt, hlt, List.getD]
  rw [drop_at hx, List.contains_cons] at hcl
  have hw := wrap_i64 (z := (i : Int) + 1) (by omega) (by omega)
  cases he : (iAt l (i : Int) == n)
  · simp only [FT, ↓RD, RU, okR, Bool.true_or, Bool.or_true, argEnv, List.length_cons, List.length_nil, List.map_cons, List.map_nil, List.getElem?_cons_zero, List.getElem?_cons_succ, List.drop_zero, List.drop_succ_cons, List.take_succ_cons, List.take_zero, List.all_cons, List.all_nil, Option.map_some, Bool.and_self, Bool.and_true, true_and, and_true, and_self, Nat.reduceAdd, Nat.reduceSub, Nat.reduceLT, Nat.reduceLeDiff, Nat.reduceEqDiff, Nat.zero_add, Nat.add_zero, ne_eq, not_false_eq_true, reduceIte, Bool.not_true, Bool.not_false, Nat.le_refl, iL_length, hix, hc, decide_true, he, hw]
    have : (n == iAt l (i : Int)) = false := by simp at he ⊢; exact fun h => he h.symm
    rw [this, Bool.false_or] at hcl
    exact ⟨i + 1, ⟨by omega, hcl⟩, by omega, by simp [headW, heapW, envW, blkLt, D.ltL, D.lt, look, hget]⟩
  · simp only [FT, ↓RD, RU, okR, Bool.true_or, Bool.or_true, argEnv, List.length_cons, List.length_nil, List.map_cons, List.map_nil, List.getElem?_cons_zero, List.getElem?_cons_succ, List.drop_zero, List.drop_succ_cons, List.take_succ_cons, List.take_zero, List.all_cons, List.all_nil, Option.map_some, Bool.and_self, Bool.and_true, true_and, and_true, and_self, Nat.reduceAdd, Nat.reduceSub, Nat.reduceLT, Nat.reduceLeDiff, Nat.reduceEqDiff, Nat.zero_add, Nat.add_zero, ne_eq, not_false_eq_true, reduceIte, Bool.not_true, Bool.not_false, Nat.le_refl, iL_length, hix, hc, decide_true, he, hw]
    have : (n == iAt l (i : Int)) = true := by simp at he ⊢; exact he.symm
    rw [hcl, this]; rfl
theorem Has_nil (n : Int) : Pure Tryd.prog 45 [.nils, .int .i64 n] (.bool false) := by
  refine pure_of_wc (rs := [.tmp 4]) (m := 18) [] o9_ok (by kernel_rfl) Tryd.func45 rfl (by kernel_rfl) rfl rfl (by kernel_rfl) ?_
  simp only [FT, ↓RD, RU, okR, Bool.true_or, Bool.or_true, argEnv, List.length_cons, List.length_nil, List.map_cons, List.map_nil, List.getElem?_cons_zero, List.getElem?_cons_succ, List.drop_zero, List.drop_succ_cons, List.take_succ_cons, List.take_zero, List.all_cons, List.all_nil, Option.map_some, Bool.and_self, Bool.and_true, true_and, and_true, and_self, Nat.reduceAdd, Nat.reduceSub, Nat.reduceLT, Nat.reduceLeDiff, Nat.reduceEqDiff, Nat.zero_add, Nat.add_zero, ne_eq, not_false_eq_true, reduceIte, Bool.not_true, Bool.not_false, Nat.le_refl]
  refine loopV (ι := Unit) o9_ok [] (fun i => [(0, .nils), (1, .int .i64 n), (5, .int .i64 0)]) (fun i => []) 0 (fun _ => True) (fun _ => 0) () (by kernel_rfl) (by kernel_rfl) trivial ?_ ?_
  · simp [headW, heapW, envW, blkLt, D.ltL, D.lt, look, hget]
  intro _ _
  simp only [FT, ↓RD, RU, okR, Bool.true_or, Bool.or_true, argEnv, List.length_cons, List.length_nil, List.map_cons, List.map_nil, List.getElem?_cons_zero, List.getElem?_cons_succ, List.drop_zero, List.drop_succ_cons, List.take_succ_cons, List.take_zero, List.all_cons, List.all_nil, Option.map_some, Bool.and_self, Bool.and_true, true_and, and_true, and_self, Nat.reduceAdd, Nat.reduceSub, Nat.reduceLT, Nat.reduceLeDiff, Nat.reduceEqDiff, Nat.zero_add, Nat.add_zero, ne_eq, not_false_eq_true, reduceIte, Bool.not_true, Bool.not_false, Nat.le_refl, Int.lt_irrefl, decide_false]
def gHa : List D → Option D
  | [d, .int .i64 n] => match decL d with
    | some l => if l.length ≤ 9223372036854775807 then some (.bool (l.contains n)) else none
    | none => none
  | _ => none
theorem gHa_ok (ds : List D) (r : D) (h : gHa ds = some r) : Pure Tryd.prog 45 ds r := by
  unfold gHa at h
  split at h
  · split at h
    · rename_i d n l hd
      split at h
      · cases h
        rcases decL_inv hd with rfl | ⟨rfl, rfl⟩
        · exact Has_sl _ _ ‹_›
        · exact Has_nil _
      · cases h
    · cases h
  · cases h
theorem gHa_eq {d : D} {l : List Int} {n : Int} (h : decL d = some l) (hl : l.length ≤ 9223372036854775807) : gHa [d, .int .i64 n] = some (.bool (l.contains n)) := by
  simp [gHa, h, hl]
abbrev o10 : List (FuncId × (List D → Option D)) := (45, gHa) :: o9
theorem o10_ok : OkO Tryd.prog (mkO o10) := mkO_ok gHa_ok o9_ok

def igB (l : List Int) (r : Rd) : Bool := !l.contains r.src
def igG (g : Ga) (l : List Int) : Ga := { g with rs := g.rs.filter (igB l) }
theorem gaOk_sub {g : Ga} {p : Rd → Bool} (h : gaOk g = true) : gaOk { g with rs := g.rs.filter p } = true := by
  simp only [gaOk, Bool.and_eq_true, decide_eq_true_eq, List.all_eq_true] at h ⊢
  refine ⟨fun r hr => h.1 r (List.mem_filter.1 hr).1, h.2.1, h.2.2.1, Nat.le_trans (List.length_filter_le _ _) h.2.2.2⟩
theorem filter_take {p : Rd → Bool} {l : List Rd} {i : Nat} {r : Rd} (h : l[i]? = some r) : (l.take (i + 1)).filter p = (l.take i).filter p ++ (if p r then [r] else []) := by
  rw [List.take_add_one, h, List.filter_append]
  cases hp : p r <;> simp [hp]

theorem Ignored_t (g : Ga) (d : D) (l : List Int) (hd : decL d = some l) (hl : l.length ≤ 9223372036854775807) (hga : gaOk g = true) : Pure Tryd.prog 21 [.agg g.c, d] (.agg (igG g l).c) := by
  have hv := fun hp => decL_view hd hp
  have hn := fun m => decL_lt hd m
  obtain ⟨hrs, hrate, hspan, hlen⟩ := gaOk_inv hga
  obtain ⟨a, b, c, rs⟩ := g
  dsimp only at hrs hrate hspan hlen
  simp only [Ga.c]
  refine pure_of_wc (rs := [.cell 4 24]) (m := 41) [(6, [(11, false, false, [])])] o10_ok (by kernel_rfl) Tryd.func21 rfl (by kernel_rfl) rfl rfl (by kernel_rfl) ?_
  simp only [FT, ↓RD, RU, okR, Bool.true_or, Bool.or_true, argEnv, List.length_cons, List.length_nil, List.map_cons, List.map_nil, List.getElem?_cons_zero, List.getElem?_cons_succ, List.drop_zero, List.drop_succ_cons, List.take_succ_cons, List.take_zero, List.all_cons, List.all_nil, Option.map_some, Bool.and_self, Bool.and_true, true_and, and_true, and_self, Nat.reduceAdd, Nat.reduceSub, Nat.reduceLT, Nat.reduceLeDiff, Nat.reduceEqDiff, Nat.zero_add, Nat.add_zero, ne_eq, not_false_eq_true, reduceIte, Bool.not_true, Bool.not_false, Nat.le_refl]
  refine loopNilB 2 3 [.int .i64 a, .int .i64 b, .int .i64 c, .nils] 74 4 rfl rfl ?_
  refine loopV (ι := Nat) o10_ok [(6, [(11, false, false, [])])] (fun i => [(1, d), (2, .ptr 0 0), (4, .ptr 1 0), (5, .ptr 2 0), (6, .int .i64 (i : Int))])
    (fun i => [(3, .arr 74 4 (((rs.take i).filter (igB l)).map Rd.d)), (2, .box [.int .i64 a, .int .i64 b, .int .i64 c, .osl 3 ((rs.take i).filter (igB l)).length]), (1, .box [.int .i64 0, .int .i64 0, .int .i64 0, .nils]), (0, .box [.int .i64 a, .int .i64 b, .int .i64 c, .sl (rs.map Rd.d)])]) 4
    (fun i => i ≤ rs.length) (fun i => rs.length - i) 0 (by kernel_rfl) (by kernel_rfl) (Nat.zero_le _) ?_ ?_
  · simp [headW, heapW, envW, blkLt, D.ltL, D.lt, look, hget, hset]
    exact hn 4
  intro i hil
  rcases Nat.lt_or_ge i rs.length with hlt | hge
  rotate_left
  · have hc : ((i : Int) < (rs.length : Int)) = False := by simp; omega
    have : i = rs.length := by omega
    subst this
    simp only [FT, ↓RD, RU, okR, Bool.true_or, Bool.or_true, argEnv, List.length_cons, List.length_nil, List.map_cons, List.map_nil, List.getElem?_cons_zero, List.getElem?_cons_succ, List.drop_zero, List.drop_succ_cons, List.take_succ_cons, List.take_zero, List.all_cons, List.all_nil, Option.map_some, Bool.and_self, Bool.and_true, true_and, and_true, and_self, Nat.reduceAdd, Nat.reduceSub, Nat.reduceLT, Nat.reduceLeDiff, Nat.reduceEqDiff, Nat.zero_add, Nat.add_zero, ne_eq, not_false_eq_true, reduceIte, Bool.not_true, Bool.not_false, Nat.le_refl, hc, decide_false, List.length_map, cells_osl, cur_osl, curC_arr, decide_true, List.take_length, igG]
  have hc : ((i : Int) < (rs.length : Int)) = True := by simp [hlt]
  obtain ⟨r, hr⟩ : ∃ r, rs[i]? = some r := ⟨rs[i], by simp [hlt]⟩
  have hix := fun h => ix_rd Fz.und_22 Fz.size_74 hr h
  have hw := wrap_i64 (z := (i : Int) + 1) (by omega) (by omega)
  have hft := filter_take (p := igB l) hr
  have hfl : ((rs.take i).filter (igB l)).length ≤ i := Nat.le_trans (List.length_filter_le _ _) (by rw [List.length_take]; omega)
  cases hp : l.contains r.src
  · have hi : igB l r = true := by simp only [igB, hp]; rfl
    rw [hi] at hft
    have hd2 := fun h => litD_agg (P := Tryd.prog) Fz.und_22 Fz.size_74 Fz.zero_74 rfl (by omega) (by omega) h [.int .i64 r.minute, .int .i64 r.lo, .int .i64 r.hi, .int .i64 r.src] rfl rfl
    have ha := fun h nid (hb : hget h 3 = some (.arr 74 4 (((rs.take i).filter (igB l)).map Rd.d))) => app_sl (P := Tryd.prog) (h := h) (nid := nid) Fz.und_22 Fz.size_74 Fz.zero_74 rfl (by omega) Fz.bytes_74_22 (b := 3) (n := ((rs.take i).filter (igB l)).length) (xs := [[.int .i64 r.minute, .int .i64 r.lo, .int .i64 r.hi, .int .i64 r.src]]) hb (by simp) rfl (by simp; omega) (by simp; omega)
    simp only [FT, ↓RD, RU, okR, Bool.true_or, Bool.or_true, argEnv, List.length_cons, List.length_nil, List.map_cons, List.map_nil, List.getElem?_cons_zero, List.getElem?_cons_succ, List.drop_zero, List.drop_succ_cons, List.take_succ_cons, List.take_zero, List.all_cons, List.all_nil, Option.map_some, Bool.and_self, Bool.and_true, true_and, and_true, and_self, Nat.reduceAdd, Nat.reduceSub, Nat.reduceLT, Nat.reduceLeDiff, Nat.reduceEqDiff, Nat.zero_add, Nat.add_zero, ne_eq, not_false_eq_true, reduceIte, Bool.not_true, Bool.not_false, Nat.le_refl, hix, hc, decide_true, List.length_map, gHa_eq hd hl, hv, hn, hp, hd2, ha, hw, cells_osl, cur_osl, curC_arr, List.length_append]
    exact ⟨i + 1, by omega, by omega, by simp [headW, heapW, envW, blkLt, D.ltL, D.lt, look, hget, hft, hn, Rd.d]⟩
  · have hi : igB l r = false := by simp only [igB, hp]; rfl
    rw [hi] at hft
    simp only [FT, ↓RD, RU, okR, Bool.true_or, Bool.or_true, argEnv, List.length_cons, List.length_nil, List.map_cons, List.map_nil, List.getElem?_cons_zero, List.getElem?_cons_succ, List.drop_zero, List.drop_succ_cons, List.take_succ_cons, List.take_zero, List.all_cons, List.all_nil, Option.map_some, Bool.and_self, Bool.and_true, true_and, and_true, and_self, Nat.reduceAdd, Nat.reduceSub, Nat.reduceLT, Nat.reduceLeDiff, Nat.reduceEqDiff, Nat.zero_add, Nat.add_zero, ne_eq, not_false_eq_true, reduceIte, Bool.not_true, Bool.not_false, Nat.le_refl, hix, hc, decide_true, List.length_map, gHa_eq hd hl, hv, hn, hp, hw]
    exact ⟨i + 1, by omega, by omega, by simp [headW, heapW, envW, blkLt, D.ltL, D.lt, look, hget, hft, hn]⟩

def gIg : List D → Option D
  | [.agg [.int .i64 a, .int .i64 b, .int .i64 c, .sl es], d] => match decRds es, decL d with
    | some rs, some l => if gaOk ⟨a, b, c, rs⟩ = true ∧ l.length ≤ 9223372036854775807 then some (.agg (igG ⟨a, b, c, rs⟩ l).c) else none
    | _, _ => none
  | _ => none
theorem gIg_ok (ds : List D) (r : D) (h : gIg ds = some r) : Pure Tryd.prog 21 ds r := by
  unfold gIg at h
  split at h
  · split at h
    · rename_i rs l h1 h2
      split at h
      · rename_i hc
        cases h
        rw [decRds_inv h1]
        exact Ignored_t ⟨_, _, _, rs⟩ _ l h2 hc.2 hc.1
      · cases h
    · cases h
  · cases h
theorem gIg_eq {a b c : Int} {rs : List Rd} {d : D} {l : List Int} (hga : gaOk ⟨a, b, c, rs⟩ = true) (hd : decL d = some l) (hl : l.length ≤ 9223372036854775807) :
    gIg [.agg [.int .i64 a, .int .i64 b, .int .i64 c, .sl (rs.map Rd.d)], d] = some (.agg (igG ⟨a, b, c, rs⟩ l).c) := by
  simp [gIg, decRds_map, hd, hga, hl]

theorem Same_sl (l : List Int) (hl : l.length ≤ 9223372036854775807) : Pure Tryd.prog 16 [.sl (iL l), .sl (iL l)] (.bool true) := by
  refine pure_of_wc (rs := [.tmp 4]) (m := 26) [(6, [(9, false, false, [])])] o10_ok (by kernel_rfl) Tryd.func16 rfl (by kernel_rfl) rfl rfl (by kernel_rfl) ?_
  simp only [FT, ↓RD, RU, okR, Bool.true_or, Bool.or_true, argEnv, List.length_cons, List.length_nil, List.map_cons, List.map_nil, List.getElem?_cons_zero, List.getElem?_cons_succ, List.drop_zero, List.drop_succ_cons, List.take_succ_cons, List.take_zero, List.all_cons, List.all_nil, Option.map_some, Bool.and_self, Bool.and_true, true_and, and_true, and_self, Nat.reduceAdd, Nat.reduceSub, Nat.reduceLT, Nat.reduceLeDiff, Nat.reduceEqDiff, Nat.zero_add, Nat.add_zero, ne_eq, not_false_eq_true, reduceIte, Bool.not_true, Bool.not_false, Nat.le_refl, iL_length, bne_self_eq_false]
  refine loopV (ι := Nat) o10_ok [(6, [(9, false, false, [])])] (fun i => [(0, .sl (iL l)), (1, .sl (iL l)), (5, .int .i64 (i : Int))]) (fun i => []) 0
    (fun i => i ≤ l.length) (fun i => l.length - i) 0 (by kernel_rfl) (by kernel_rfl) (Nat.zero_le _) ?_ ?_
  · simp [headW, heapW, envW, blkLt, D.ltL, D.lt, look, hget]
  intro i hil
  rcases Nat.lt_or_ge i l.length with hlt | hge
  rotate_left
  · have hc : ((i : Int) < (l.length : Int)) = False := by simp; omega
    simp only [FT, ↓RD, RU, okR, Bool.true_or, Bool.or_true, argEnv, List.length_cons, List.length_nil, List.map_cons, List.map_nil, List.getElem?_cons_zero, List.getElem?_cons_succ, List.drop_zero, List.drop_succ_cons, List.take_succ_cons, List.take_zero, List.all_cons, List.all_nil, Option.map_some, Bool.and_self, Bool.and_true, true_and, and_true, and_self, Nat.reduceAdd, Nat.reduceSub, Nat.reduceLT, Nat.reduceLeDiff, Nat.reduceEqDiff, Nat.zero_add, Nat.add_zero, ne_eq, not_false_eq_true, reduceIte, Bool.not_true, Bool.not_false, Nat.le_refl, iL_length, hc, decide_false]
  have hc : ((i : Int) < (l.length : Int)) = True := by simp [hlt]
  have hix := fun hp => ix_i Fz.und_25 Fz.size_3 (l := l) (m := (i : Int)) (by omega) (by omega) hp
  have hw := wrap_i64 (z := (i : Int) + 1) (by omega) (by omega)
  simp only [FT, ↓RD, RU, okR, Bool.true_or, Bool.or_true, argEnv, List.length_cons, List.length_nil, List.map_cons, List.map_nil, List.getElem?_cons_zero, List.getElem?_cons_succ, List.drop_zero, List.drop_succ_cons, List.take_succ_cons, List.take_zero, List.all_cons, List.all_nil, Option.map_some, Bool.and_self, Bool.and_true, true_and, and_true, and_self, Nat.reduceAdd, Nat.reduceSub, Nat.reduceLT, Nat.reduceLeDiff, Nat.reduceEqDiff, Nat.zero_add, Nat.add_zero, ne_eq, not_false_eq_true, reduceIte, Bool.not_true, Bool.not_false, Nat.le_refl, iL_length, hix, hc, decide_true, bne_self_eq_false, hw]
  exact ⟨i + 1, by omega, by omega, by simp [headW, heapW, envW, blkLt, D.ltL, D.lt, look, hget]⟩
theorem Same_nil : Pure Tryd.prog 16 [.sl (iL []), .nils] (.bool true) := by
  refine pure_of_wc (rs := [.tmp 4]) (m := 26) [(6, [(9, false, false, [])])] o10_ok (by kernel_rfl) Tryd.func16 rfl (by kernel_rfl) rfl rfl (by kernel_rfl) ?_
  have hz : ((0 : Nat) : Int) = 0 := rfl
  simp only [FT, ↓RD, RU, okR, Bool.true_or, Bool.or_true, argEnv, List.length_cons, List.length_nil, List.map_cons, List.map_nil, List.getElem?_cons_zero, List.getElem?_cons_succ, List.drop_zero, List.drop_succ_cons, List.take_succ_cons, List.take_zero, List.all_cons, List.all_nil, Option.map_some, Bool.and_self, Bool.and_true, true_and, and_true, and_self, Nat.reduceAdd, Nat.reduceSub, Nat.reduceLT, Nat.reduceLeDiff, Nat.reduceEqDiff, Nat.zero_add, Nat.add_zero, ne_eq, not_false_eq_true, reduceIte, Bool.not_true, Bool.not_false, Nat.le_refl, iL, hz, bne_self_eq_false]
  refine loopV (ι := Unit) o10_ok [(6, [(9, false, false, [])])] (fun i => [(0, .sl []), (1, .nils), (5, .int .i64 0)]) (fun i => []) 0 (fun _ => True) (fun _ => 0) () (by kernel_rfl) (by kernel_rfl) trivial ?_ ?_
  · simp [headW, heapW, envW, blkLt, D.ltL, D.lt, look, hget]
  intro _ _
  simp only [FT, ↓RD, RU, okR, Bool.true_or, Bool.or_true, argEnv, List.length_cons, List.length_nil, List.map_cons, List.map_nil, List.getElem?_cons_zero, List.getElem?_cons_succ, List.drop_zero, List.drop_succ_cons, List.take_succ_cons, List.take_zero, List.all_cons, List.all_nil, Option.map_some, Bool.and_self, Bool.and_true, true_and, and_true, and_self, Nat.reduceAdd, Nat.reduceSub, Nat.reduceLT, Nat.reduceLeDiff, Nat.reduceEqDiff, Nat.zero_add, Nat.add_zero, ne_eq, not_false_eq_true, reduceIte, Bool.not_true, Bool.not_false, Nat.le_refl, hz, Int.cast_ofNat_Int, Int.lt_irrefl, decide_false]

theorem neq_span (a b c d : Int) : binD Tryd.prog .neq 45 (.agg [.int .i64 a, .int .i64 b]) (.agg [.int .i64 c, .int .i64 d]) = some (.bool (!((a == c) && ((b == d) && true)))) := by kernel_rfl
theorem SameSpans_t (g : Ga) : Pure Tryd.prog 19 [.sl (boundsL g 1441), .sl (boundsL g 1441)] (.bool true) := by
  have hbl : (boundsL g 1441).length = 1441 := by rw [boundsL, List.length_map, List.length_range]
  refine pure_of_wc (rs := [.tmp 4]) (m := 26) [(6, [(9, false, false, [])])] o10_ok (by kernel_rfl) Tryd.func19 rfl (by kernel_rfl) rfl rfl (by kernel_rfl) ?_
  simp only [FT, ↓RD, RU, okR, Bool.true_or, Bool.or_true, argEnv, List.length_cons, List.length_nil, List.map_cons, List.map_nil, List.getElem?_cons_zero, List.getElem?_cons_succ, List.drop_zero, List.drop_succ_cons, List.take_succ_cons, List.take_zero, List.all_cons, List.all_nil, Option.map_some, Bool.and_self, Bool.and_true, true_and, and_true, and_self, Nat.reduceAdd, Nat.reduceSub, Nat.reduceLT, Nat.reduceLeDiff, Nat.reduceEqDiff, Nat.zero_add, Nat.add_zero, ne_eq, not_false_eq_true, reduceIte, Bool.not_true, Bool.not_false, Nat.le_refl, hbl, bne_self_eq_false]
  refine loopV (ι := Nat) o10_ok [(6, [(9, false, false, [])])] (fun i => [(0, .sl (boundsL g 1441)), (1, .sl (boundsL g 1441)), (5, .int .i64 (i : Int))]) (fun i => []) 0
    (fun i => i ≤ 1441) (fun i => 1441 - i) 0 (by kernel_rfl) (by kernel_rfl) (Nat.zero_le _) ?_ ?_
  · simp [headW, heapW, envW, blkLt, D.ltL, D.lt, look, hget]
  intro i hil
  rcases Nat.lt_or_ge i 1441 with hlt | hge
  rotate_left
  · have : i = 1441 := by omega
    subst this
    simp only [FT, ↓RD, RU, okR, Bool.true_or, Bool.or_true, argEnv, List.length_cons, List.length_nil, List.map_cons, List.map_nil, List.getElem?_cons_zero, List.getElem?_cons_succ, List.drop_zero, List.drop_succ_cons, List.take_succ_cons, List.take_zero, List.all_cons, List.all_nil, Option.map_some, Bool.and_self, Bool.and_true, true_and, and_true, and_self, Nat.reduceAdd, Nat.reduceSub, Nat.reduceLT, Nat.reduceLeDiff, Nat.reduceEqDiff, Nat.zero_add, Nat.add_zero, ne_eq, not_false_eq_true, reduceIte, Bool.not_true, Bool.not_false, Nat.le_refl, hbl, Int.cast_ofNat_Int, Int.lt_irrefl, decide_false]
  have hc : ((i : Int) < 1441) = True := by simp; omega
  have hix := fun hp => ix_b Fz.und_31 Fz.size_45 (g := g) hlt hp
  have hw := wrap_i64 (z := (i : Int) + 1) (by omega) (by omega)
  simp only [FT, ↓RD, RU, okR, Bool.true_or, Bool.or_true, argEnv, List.length_cons, List.length_nil, List.map_cons, List.map_nil, List.getElem?_cons_zero, List.getElem?_cons_succ, List.drop_zero, List.drop_succ_cons, List.take_succ_cons, List.take_zero, List.all_cons, List.all_nil, Option.map_some, Bool.and_self, Bool.and_true, true_and, and_true, and_self, Nat.reduceAdd, Nat.reduceSub, Nat.reduceLT, Nat.reduceLeDiff, Nat.reduceEqDiff, Nat.zero_add, Nat.add_zero, ne_eq, not_false_eq_true, reduceIte, Bool.not_true, Bool.not_false, Nat.le_refl, hbl, Int.cast_ofNat_Int, hix, hc, decide_true, bne_self_eq_false, hw, neq_span, beq_self_eq_true]
  exact ⟨i + 1, by omega, by omega, by simp [headW, heapW, envW, blkLt, D.ltL, D.lt, look, hget]⟩

theorem rBounds_t (g : Ga) (hga : gaOk g = true) : Pure Tryd.prog 20 [.agg g.c] (.sl (boundsL g 1441)) := by
  obtain ⟨a, b, c, rs⟩ := g
  simp only [Ga.c]
  refine pure_of_wc (rs := [.tmp 2]) (m := 16) [] o10_ok (by kernel_rfl) Tryd.func20 rfl (by kernel_rfl) rfl rfl (by kernel_rfl) ?_
  simp only [FT, ↓RD, RU, okR, Bool.true_or, Bool.or_true, argEnv, List.length_cons, List.length_nil, List.map_cons, List.map_nil, List.getElem?_cons_zero, List.getElem?_cons_succ, List.drop_zero, List.drop_succ_cons, List.take_succ_cons, List.take_zero, List.all_cons, List.all_nil, Option.map_some, Bool.and_self, Bool.and_true, true_and, and_true, and_self, Nat.reduceAdd, Nat.reduceSub, Nat.reduceLT, Nat.reduceLeDiff, Nat.reduceEqDiff, Nat.zero_add, Nat.add_zero, ne_eq, not_false_eq_true, reduceIte, Bool.not_true, Bool.not_false, Nat.le_refl]
  refine loopNil 3 45 2 rfl ?_
  refine loopV (ι := Nat) o10_ok [] (fun i => [(1, .ptr 0 0), (3, .osl 1 i), (4, .int .i64 (i : Int))])
    (fun i => [(1, .arr 45 2 (boundsL ⟨a, b, c, rs⟩ i)), (0, .box [.int .i64 a, .int .i64 b, .int .i64 c, .sl (rs.map Rd.d)])]) 2
    (fun i => i ≤ 1441) (fun i => 1441 - i) 0 (by kernel_rfl) (by kernel_rfl) (Nat.zero_le _) ?_ ?_
  · simp [headW, heapW, envW, blkLt, D.ltL, D.lt, look, hget, eset_nil, eset_cons, boundsL]
  intro i hil
  have hbl : (boundsL ⟨a, b, c, rs⟩ i).length = i := by rw [boundsL, List.length_map, List.length_range]
  rcases Nat.lt_or_ge i 1441 with hlt | hge
  rotate_left
  · have : i = 1441 := by omega
    subst this
    have hc : ((1441 : Int) ≤ 1440) = False := by simp
    simp only [FT, ↓RD, RU, okR, Bool.true_or, Bool.or_true, argEnv, List.length_cons, List.length_nil, List.map_cons, List.map_nil, List.getElem?_cons_zero, List.getElem?_cons_succ, List.drop_zero, List.drop_succ_cons, List.take_succ_cons, List.take_zero, List.all_cons, List.all_nil, Option.map_some, Bool.and_self, Bool.and_true, true_and, and_true, and_self, Nat.reduceAdd, Nat.reduceSub, Nat.reduceLT, Nat.reduceLeDiff, Nat.reduceEqDiff, Nat.zero_add, Nat.add_zero, ne_eq, not_false_eq_true, reduceIte, Bool.not_true, Bool.not_false, Nat.le_refl, Int.cast_ofNat_Int, hc, decide_false, hbl]
  have hc : ((i : Int) ≤ 1440) = True := by simp; omega
  have hw := wrap_i64 (z := (i : Int) + 1) (by omega) (by omega)
  have hat := gAt_eq (a := a) (b := b) (c := c) (rs := rs) (t := (i : Int)) ⟨hga, by omega, by omega⟩
  have hd := fun h nid => lit_agg (P := Tryd.prog) Fz.und_31 Fz.size_45 Fz.zero_45 rfl (by omega) (by omega) h nid (atS ⟨a, b, c, rs⟩ i) rfl rfl
  have ha := fun h (hb : hget h 1 = some (.arr 45 2 (boundsL ⟨a, b, c, rs⟩ i))) (hb2 : hget h 2 = some (.arr 45 2 [atS ⟨a, b, c, rs⟩ i])) => app_osl (P := Tryd.prog) Fz.und_31 Fz.size_45 Fz.zero_45 rfl (by omega) Fz.bytes_45_31 h 3 1 i 2 1 (es := boundsL ⟨a, b, c, rs⟩ i) (xs := [atS ⟨a, b, c, rs⟩ i]) (ty2 := 45) (sz2 := 2) hb hbl.symm hb2 rfl rfl (by simp [hbl]; omega) (by simp [hbl]; omega)
  have hbs : boundsL ⟨a, b, c, rs⟩ (i + 1) = boundsL ⟨a, b, c, rs⟩ i ++ [atS ⟨a, b, c, rs⟩ i] := by simp [boundsL, List.range_succ]
  simp only [atS] at hd ha hbs
  simp only [FT, ↓RD, RU, okR, Bool.true_or, Bool.or_true, argEnv, List.length_cons, List.length_nil, List.map_cons, List.map_nil, List.getElem?_cons_zero, List.getElem?_cons_succ, List.drop_zero, List.drop_succ_cons, List.take_succ_cons, List.take_zero, List.all_cons, List.all_nil, Option.map_some, Bool.and_self, Bool.and_true, true_and, and_true, and_self, Nat.reduceAdd, Nat.reduceSub, Nat.reduceLT, Nat.reduceLeDiff, Nat.reduceEqDiff, Nat.zero_add, Nat.add_zero, ne_eq, not_false_eq_true, reduceIte, Bool.not_true, Bool.not_false, Nat.le_refl, hat, hd, ha, hc, decide_true, hw, hbl]
  exact ⟨i + 1, by omega, by omega, by simp [headW, heapW, envW, blkLt, D.ltL, D.lt, look, hget, hset, hbs]⟩
end Go.Sx
