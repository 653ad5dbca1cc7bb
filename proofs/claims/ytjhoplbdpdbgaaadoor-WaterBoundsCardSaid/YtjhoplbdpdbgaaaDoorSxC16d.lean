/- Own work: contracts of functions, used in the proof of a law. -/
import Derived.Test.YtjhoplbdpdbgaaaDoorSxC13d
set_option linter.unusedVariables false
set_option linter.unusedSimpArgs false
namespace Go.Sx
open Go.Proofs
set_option maxRecDepth 10000

theorem sameSpans_t (x y : D) (l m : List (Int × Int)) (hx : enS.sl x = some l) (hy : enS.sl y = some m) (hl : l.length ≤ 9223372036854775807) (hm : m.length ≤ 9223372036854775807) :
    Pure Tryd.prog 19 [x, y] (.bool (l == m)) := by
  have lx := fun hp => En.len (P := Tryd.prog) Fz.und_31 hx hp
  have ly := fun hp => En.len (P := Tryd.prog) Fz.und_31 hy hp
  have vx := En.lt hx
  have vy := En.lt hy
  refine pure_of_wc (rs := [.tmp 4]) (m := 26) [(6, [(9, false, false, [])])] o10_ok (by kernel_rfl) Tryd.func19 rfl (by kernel_rfl) rfl rfl (by kernel_rfl) ?_
  by_cases hlm : l.length = m.length
  rotate_left
  · have hb : ((l.length : Int) != (m.length : Int)) = true := by simp; omega
    simp only [FT, ↓RD, RU, RZ, okR, Bool.true_or, Bool.or_true, argEnv, List.length_cons, List.length_nil, List.map_cons, List.map_nil, List.getElem?_cons_zero, List.getElem?_cons_succ, List.drop_zero, List.drop_succ_cons, List.take_succ_cons, List.take_zero, List.all_cons, List.all_nil, Option.map_some, Bool.and_self, Bool.and_true, true_and, and_true, and_self, Nat.reduceAdd, Nat.reduceSub, Nat.reduceLT, Nat.reduceLeDiff, Nat.reduceEqDiff, Nat.zero_add, Nat.add_zero, ne_eq, not_false_eq_true, reduceIte, Bool.not_true, Bool.not_false, Nat.le_refl, lx, ly, hb]
    have : (l == m) = false := by
      rw [beq_eq_false_iff_ne]
      rintro rfl; exact hlm rfl
    rw [this]
  have hb : ((l.length : Int) != (m.length : Int)) = false := by simp; omega
  simp only [FT, ↓RD, RU, RZ, okR, Bool.true_or, Bool.or_true, argEnv, List.length_cons, List.length_nil, List.map_cons, List.map_nil, List.getElem?_cons_zero, List.getElem?_cons_succ, List.drop_zero, List.drop_succ_cons, List.take_succ_cons, List.take_zero, List.all_cons, List.all_nil, Option.map_some, Bool.and_self, Bool.and_true, true_and, and_true, and_self, Nat.reduceAdd, Nat.reduceSub, Nat.reduceLT, Nat.reduceLeDiff, Nat.reduceEqDiff, Nat.zero_add, Nat.add_zero, ne_eq, not_false_eq_true, reduceIte, Bool.not_true, Bool.not_false, Nat.le_refl, lx, ly, hb]
  refine loopV (ι := Nat) o10_ok [(6, [(9, false, false, [])])] (fun i => [(0, x), (1, y), (5, .int .i64 (i : Int))]) (fun i => []) 0
    (fun i => i ≤ l.length ∧ (l == m) = (l.drop i == m.drop i)) (fun i => l.length - i) 0 (by kernel_rfl) (by kernel_rfl) ⟨Nat.zero_le _, rfl⟩ ?_ ?_
  · simp [headW, heapW, envW, blkLt, D.ltL, D.lt, look, hget, vx, vy]
  rintro i ⟨hil, hi⟩
  rcases Nat.lt_or_ge i l.length with hlt | hge
  rotate_left
  · have hc : ((i : Int) < (l.length : Int)) = False := by simp; omega
    simp only [FT, ↓RD, RU, RZ, okR, Bool.true_or, Bool.or_true, argEnv, List.length_cons, List.length_nil, List.map_cons, List.map_nil, List.getElem?_cons_zero, List.getElem?_cons_succ, List.drop_zero, List.drop_succ_cons, List.take_succ_cons, List.take_zero, List.all_cons, List.all_nil, Option.map_some, Bool.and_self, Bool.and_true, true_and, and_true, and_self, Nat.reduceAdd, Nat.reduceSub, Nat.reduceLT, Nat.reduceLeDiff, Nat.reduceEqDiff, Nat.zero_add, Nat.add_zero, ne_eq, not_false_eq_true, reduceIte, Bool.not_true, Bool.not_false, Nat.le_refl, lx, hc, decide_false]
    rw [List.drop_of_length_le (by omega), List.drop_of_length_le (by omega)] at hi
    rw [hi]; rfl
  have hc : ((i : Int) < (l.length : Int)) = True := by simp [hlt]
  obtain ⟨a, ha⟩ : ∃ a, l[i]? = some a := ⟨l[i], by simp [hlt]⟩
  obtain ⟨b, hb⟩ : ∃ b, m[i]? = some b := ⟨m[i]'(by omega), by rw [List.getElem?_eq_getElem]⟩
  have hix := fun hp => En.ix (P := Tryd.prog) Fz.und_31 Fz.size_45 hx ha hp .i64
  have hiy := fun hp => En.ix (P := Tryd.prog) Fz.und_31 Fz.size_45 hy hb hp .i64
  have hw := wrap_i64 (z := (i : Int) + 1) (by omega) (by omega)
  rw [drop_at ha, drop_at hb, List.cons_beq_cons] at hi
  obtain ⟨a1, a2⟩ := a
  obtain ⟨b1, b2⟩ := b
  simp only [enS] at hix hiy
  by_cases hab : a1 = b1 ∧ a2 = b2
  · obtain ⟨rfl, rfl⟩ := hab
    have hn : (!((a1 == a1) && (a2 == a2))) = false := by simp
    simp only [FT, ↓RD, RU, RZ, okR, Bool.true_or, Bool.or_true, argEnv, List.length_cons, List.length_nil, List.map_cons, List.map_nil, List.getElem?_cons_zero, List.getElem?_cons_succ, List.drop_zero, List.drop_succ_cons, List.take_succ_cons, List.take_zero, List.all_cons, List.all_nil, Option.map_some, Bool.and_self, Bool.and_true, true_and, and_true, and_self, Nat.reduceAdd, Nat.reduceSub, Nat.reduceLT, Nat.reduceLeDiff, Nat.reduceEqDiff, Nat.zero_add, Nat.add_zero, ne_eq, not_false_eq_true, reduceIte, Bool.not_true, Bool.not_false, Nat.le_refl, lx, hc, decide_true, hix, hiy, neq_span, hn, hw]
    rw [beq_self_eq_true, Bool.true_and] at hi
    exact ⟨i + 1, ⟨by omega, hi⟩, by omega, by simp [headW, heapW, envW, blkLt, D.ltL, D.lt, look, hget, vx, vy]⟩
  · have hn : (!((a1 == b1) && (a2 == b2))) = true := by
      simp only [Bool.not_eq_true', Bool.and_eq_false_iff, beq_eq_false_iff_ne]
      by_cases h1 : a1 = b1
      · exact .inr fun h2 => hab ⟨h1, h2⟩
      · exact .inl h1
    simp only [FT, ↓RD, RU, RZ, okR, Bool.true_or, Bool.or_true, argEnv, List.length_cons, List.length_nil, List.map_cons, List.map_nil, List.getElem?_cons_zero, List.getElem?_cons_succ, List.drop_zero, List.drop_succ_cons, List.take_succ_cons, List.take_zero, List.all_cons, List.all_nil, Option.map_some, Bool.and_self, Bool.and_true, true_and, and_true, and_self, Nat.reduceAdd, Nat.reduceSub, Nat.reduceLT, Nat.reduceLeDiff, Nat.reduceEqDiff, Nat.zero_add, Nat.add_zero, ne_eq, not_false_eq_true, reduceIte, Bool.not_true, Bool.not_false, Nat.le_refl, lx, hc, decide_true, hix, hiy, neq_span, hn]
    have : ((a1, a2) == (b1, b2)) = false := by simpa using hab
    rw [this, Bool.false_and] at hi
    rw [hi]

def dec2S : List D → Option (List (Int × Int) × List (Int × Int))
  | [x, y] => match enS.sl x, enS.sl y with
    | some l, some m => some (l, m)
    | _, _ => none
  | _ => none
theorem dec2S_eq {x y : D} {l m : List (Int × Int)} (hx : enS.sl x = some l) (hy : enS.sl y = some m) : dec2S [x, y] = some (l, m) := by simp [dec2S, hx, hy]
def gSS : List D → Option D := orc dec2S (fun p => decide (p.1.length ≤ 9223372036854775807 ∧ p.2.length ≤ 9223372036854775807)) fun p => .bool (p.1 == p.2)
theorem gSS_ok : ∀ ds r, gSS ds = some r → Pure Tryd.prog 19 ds r := orc_ok fun ds p hd hk => by
  have hk := of_decide_eq_true hk
  unfold dec2S at hd
  split at hd
  · split at hd
    · cases hd; exact sameSpans_t _ _ _ _ ‹_› ‹_› hk.1 hk.2
    · cases hd
  · cases hd
theorem gSS_eq {x y : D} {l m : List (Int × Int)} (hx : enS.sl x = some l) (hy : enS.sl y = some m) (hl : l.length ≤ 9223372036854775807) (hm : m.length ≤ 9223372036854775807) : gSS [x, y] = some (.bool (l == m)) :=
  orc_eq (dec2S_eq hx hy) (by simp [hl, hm])

def gSame : List D → Option D
  | [.sl es, d] => match decIs es, decL d with
    | some l, some m => if l = m ∧ l.length ≤ 9223372036854775807 then some (.bool true) else none
    | _, _ => none
  | _ => none
theorem gSame_ok (ds : List D) (r : D) (h : gSame ds = some r) : Pure Tryd.prog 16 ds r := by
  unfold gSame at h
  split at h
  · split at h
    · rename_i l m h1 h2
      split at h
      · rename_i hc
        cases h
        obtain ⟨rfl, hl⟩ := hc
        rw [decIs_inv h1]
        rcases decL_inv h2 with rfl | ⟨rfl, rfl⟩
        · exact Same_sl _ hl
        · exact Same_nil
      · cases h
    · cases h
  · cases h
theorem gSame_eq {d : D} {l : List Int} (h : decL d = some l) (hl : l.length ≤ 9223372036854775807) : gSame [.sl (iL l), d] = some (.bool true) := by
  simp [gSame, decIs_map, h, hl]

abbrev o16 : List (FuncId × (List D → Option D)) := (15, gGa BlameA) :: (17, gGk fun g => elD (rBl g)) :: (16, gSame) :: (19, gSS) :: (20, gGk fun g => .sl (boundsL g 1441)) :: o14
theorem o16_ok : OkO Tryd.prog (mkO o16) :=
  mkO_ok (fun ds r h => by obtain ⟨g, hl, rfl, rfl⟩ := gGa_inv h; exact Blame_t g hl) <|
  mkO_ok (fun ds r h => by obtain ⟨g, hg, rfl, rfl⟩ := gGk_inv h; exact rBlame_t g hg) <|
  mkO_ok gSame_ok <| mkO_ok gSS_ok <|
  mkO_ok (fun ds r h => by obtain ⟨g, hg, rfl, rfl⟩ := gGk_inv h; exact rBounds_t g hg) o14_ok

def bndP (g : Ga) (n : Nat) : List (Int × Int) := (List.range n).map fun (t : Nat) => atG g.rate g.least g.most g.rs t
theorem bnd_sl (g : Ga) (n : Nat) : enS.sl (.sl (boundsL g n)) = some (bndP g n) := by
  have : boundsL g n = (bndP g n).map enS.d := by simp [boundsL, bndP, enS, atS]
  rw [this, En.sl_map]
theorem bndP_len (g : Ga) (n : Nat) : (bndP g n).length = n := by simp [bndP]

theorem waterBounds_at (g : Ga) (hl : g.rs.length ≤ 9223372036854775807) : Pure Tryd.prog 4 [.agg g.c] (.bool true) := by
  obtain ⟨a, b, c, rs⟩ := g
  dsimp only at hl
  simp only [Ga.c]
  refine pure_of_wc (rs := [.tmp 2]) (m := 128) [] o16_ok (by kernel_rfl) Tryd.func4 rfl (by kernel_rfl) rfl rfl (by kernel_rfl) ?_
  by_cases hs : rs.length ≤ 40
  rotate_left
  · simp only [FT, ↓RD, RU, RZ, okR, Bool.true_or, Bool.or_true, argEnv, List.length_cons, List.length_nil, List.map_cons, List.map_nil, List.getElem?_cons_zero, List.getElem?_cons_succ, List.drop_zero, List.drop_succ_cons, List.take_succ_cons, List.take_zero, List.all_cons, List.all_nil, Option.map_some, Bool.and_self, Bool.and_true, true_and, and_true, and_self, Nat.reduceAdd, Nat.reduceSub, Nat.reduceLT, Nat.reduceLeDiff, Nat.reduceEqDiff, Nat.zero_add, Nat.add_zero, ne_eq, not_false_eq_true, reduceIte, Bool.not_true, Bool.not_false, Nat.le_refl, gGa_eq _ _ _ _ hl, gTrue_eq, hs, decide_false]
  cases hga : gaOk ⟨a, b, c, rs⟩
  · have e1 : BoundsA ⟨a, b, c, rs⟩ = .tup [.nils, .int .i64 2] := by simp [BoundsA, hga]
    have e2 : ClashA ⟨a, b, c, rs⟩ = .tup [.int .i64 0, .int .i64 0, .int .i64 2] := by simp [ClashA, hga]
    have e3 : BlameA ⟨a, b, c, rs⟩ = .tup [.nils, .int .i64 2] := by simp [BlameA, hga]
    have hw := wrap_i64 (z := 0) (by omega) (by omega)
    simp only [FT, ↓RD, RU, RZ, okR, Bool.true_or, Bool.or_true, argEnv, List.length_cons, List.length_nil, List.map_cons, List.map_nil, List.getElem?_cons_zero, List.getElem?_cons_succ, List.drop_zero, List.drop_succ_cons, List.take_succ_cons, List.take_zero, List.all_cons, List.all_nil, Option.map_some, Bool.and_self, Bool.and_true, true_and, and_true, and_self, Nat.reduceAdd, Nat.reduceSub, Nat.reduceLT, Nat.reduceLeDiff, Nat.reduceEqDiff, Nat.zero_add, Nat.add_zero, ne_eq, not_false_eq_true, reduceIte, Bool.not_true, Bool.not_false, Nat.le_refl, gGa_eq _ _ _ _ hl, gTrue_eq, hs, decide_true, hga, e1, e2, e3, ex_tup, beq_self_eq_true, hw, Int.reduceBEq, Int.add_zero]
  obtain ⟨n, hn1, hn2⟩ := blame_agrees hga
  have e3 : BlameA ⟨a, b, c, rs⟩ = .tup [.sl (iL (cI (rBl ⟨a, b, c, rs⟩))), .int .i64 0] := by simp [BlameA, hga, hn1, bestD, hn2]
  have hlr : (cI (rBl ⟨a, b, c, rs⟩)).length ≤ 8 := by rw [← hn2]; exact bI_len n
  have hsame := gSame_eq (decL_elD (rBl ⟨a, b, c, rs⟩)) (by omega)
  cases hcl : (clashG ⟨a, b, c, rs⟩).2.2
  · have e1 : BoundsA ⟨a, b, c, rs⟩ = .tup [.sl (boundsL ⟨a, b, c, rs⟩ 1441), .int .i64 0] := by simp [BoundsA, hga, hcl]
    have e2 : ClashA ⟨a, b, c, rs⟩ = .tup [.int .i64 0, .int .i64 0, .int .i64 6] := by simp [ClashA, hga, hcl]
    have hss := gSS_eq (bnd_sl ⟨a, b, c, rs⟩ 1441) (bnd_sl ⟨a, b, c, rs⟩ 1441) (by rw [bndP_len]; omega) (by rw [bndP_len]; omega)
    rw [beq_self_eq_true] at hss
    simp only [FT, ↓RD, RU, RZ, okR, Bool.true_or, Bool.or_true, argEnv, List.length_cons, List.length_nil, List.map_cons, List.map_nil, List.getElem?_cons_zero, List.getElem?_cons_succ, List.drop_zero, List.drop_succ_cons, List.take_succ_cons, List.take_zero, List.all_cons, List.all_nil, Option.map_some, Bool.and_self, Bool.and_true, true_and, and_true, and_self, Nat.reduceAdd, Nat.reduceSub, Nat.reduceLT, Nat.reduceLeDiff, Nat.reduceEqDiff, Nat.zero_add, Nat.add_zero, ne_eq, not_false_eq_true, reduceIte, Bool.not_true, Bool.not_false, Nat.le_refl, gGa_eq _ _ _ _ hl, gTrue_eq, hs, decide_true, hga, e1, e2, e3, ex_tup, beq_self_eq_true, bne_self_eq_false, gGk_eq hga, hsame, elD_view, elD_lt, clD, hcl, hss]
  · have e1 : BoundsA ⟨a, b, c, rs⟩ = .tup [.nils, .int .i64 5] := by simp [BoundsA, hga, hcl]
    have e2 : ClashA ⟨a, b, c, rs⟩ = .tup [.int .i64 (clashG ⟨a, b, c, rs⟩).1, .int .i64 (clashG ⟨a, b, c, rs⟩).2.1, .int .i64 0] := by simp [ClashA, hga, hcl]
    simp only [FT, ↓RD, RU, RZ, okR, Bool.true_or, Bool.or_true, argEnv, List.length_cons, List.length_nil, List.map_cons, List.map_nil, List.getElem?_cons_zero, List.getElem?_cons_succ, List.drop_zero, List.drop_succ_cons, List.take_succ_cons, List.take_zero, List.all_cons, List.all_nil, Option.map_some, Bool.and_self, Bool.and_true, true_and, and_true, and_self, Nat.reduceAdd, Nat.reduceSub, Nat.reduceLT, Nat.reduceLeDiff, Nat.reduceEqDiff, Nat.zero_add, Nat.add_zero, ne_eq, not_false_eq_true, reduceIte, Bool.not_true, Bool.not_false, Nat.le_refl, gGa_eq _ _ _ _ hl, gTrue_eq, hs, decide_true, hga, e1, e2, e3, ex_tup, beq_self_eq_true, bne_self_eq_false, gGk_eq hga, hsame, elD_view, elD_lt, clD, hcl]

theorem waterBounds_pure : ∀ Ds, TyL Tryd.prog Tryd.f4.params.toList Ds → Pure Tryd.prog 4 Ds (.bool true) := by
  intro Ds h
  rw [Tryd.params4] at h
  match Ds, h with
  | [_], ⟨⟨n, _, hg, he⟩, _⟩ =>
    rw [Tryd.underlying24] at he
    dsimp only at he
    obtain ⟨g, rfl, hl⟩ := tyGa hg
    subst he
    exact waterBounds_at g hl
end Go.Sx
