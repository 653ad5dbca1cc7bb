/- Own work: contracts of functions, used in the proof of a law. -/
import Derived.Test.YtjhoplbdpdbgaaaDoorSxC1d
set_option linter.unusedVariables false
set_option linter.unusedSimpArgs false
namespace Go.Sx
open Go.Proofs
set_option maxRecDepth 10000

structure Rd where
  minute : Int
  lo : Int
  hi : Int
  src : Int
def Rd.d (r : Rd) : List D := [.int .i64 r.minute, .int .i64 r.lo, .int .i64 r.hi, .int .i64 r.src]
def decRd : List D → Option Rd
  | [.int .i64 a, .int .i64 b, .int .i64 c, .int .i64 d] => some ⟨a, b, c, d⟩
  | _ => none
def decRds : List (List D) → Option (List Rd)
  | [] => some []
  | e :: r => match decRd e, decRds r with
    | some x, some l => some (x :: l)
    | _, _ => none
theorem decRds_map : ∀ l : List Rd, decRds (l.map Rd.d) = some l
  | [] => rfl
  | x :: l => by simp only [List.map_cons, decRds, decRds_map l]; rfl
theorem decRds_inv : ∀ {es : List (List D)} {l : List Rd}, decRds es = some l → es = l.map Rd.d
  | [], l, h => by cases h; rfl
  | e :: r, l, h => by
    simp only [decRds] at h
    split at h
    · rename_i x l' h1 h2
      cases h
      rw [List.map_cons, ← decRds_inv h2]
      unfold decRd at h1
      split at h1
      · cases h1; rfl
      · cases h1
    · cases h

structure Ga where
  rate : Int
  least : Int
  most : Int
  rs : List Rd
def Ga.c (g : Ga) : List D := [.int .i64 g.rate, .int .i64 g.least, .int .i64 g.most, .sl (g.rs.map Rd.d)]

def rdOk (r : Rd) : Bool := bIn r.minute 0 1440 && (bSpan r.lo r.hi (-100000) 100000 && bIn r.src 0 7)
def gaOk (g : Ga) : Bool := g.rs.all rdOk && (bIn g.rate 0 1000 && (bSpan g.least g.most (-100000) 100000 && decide (g.rs.length ≤ 30)))

theorem ix_rd {t : TypeId} {e : TypeId} (hu : (Tryd.prog).underlying t = some (.slice e)) (hs : sizeT Tryd.prog e = some 4) {rs : List Rd} {i : Nat} {r : Rd} (hr : rs[i]? = some r) (h : H) :
    indexAddrD Tryd.prog h t (.sl (rs.map Rd.d)) (.int .i64 (i : Int)) = some (.ref [.int .i64 r.minute, .int .i64 r.lo, .int .i64 r.hi, .int .i64 r.src] 0) :=
  ix_sl hu hs (c := r.d) (by simp [hr]) rfl h .i64

theorem all_take {α : Type} {p : α → Bool} {l : List α} {i : Nat} {x : α} (hx : l[i]? = some x) (h : (l.take i).all p = true) (hp : p x = true) : (l.take (i + 1)).all p = true := by
  rw [List.take_add_one, hx]; simp [h, hp]
theorem all_not {α : Type} {p : α → Bool} {l : List α} {i : Nat} {x : α} (hx : l[i]? = some x) (hp : p x = false) : l.all p = false := by
  rw [List.all_eq_false]; exact ⟨x, List.mem_of_getElem? hx, by simp [hp]⟩

theorem gauge_t (g : Ga) (hl : g.rs.length ≤ 9223372036854775807) : Pure Tryd.prog 29 [.agg g.c] (.bool (gaOk g)) := by
  obtain ⟨a, b, c, rs⟩ := g
  dsimp only at hl
  simp only [Ga.c]
  refine pure_of_wc (rs := [.tmp 2]) (m := 46) [] (o1_ok) (by kernel_rfl) Tryd.func29 rfl (by kernel_rfl) rfl rfl (by kernel_rfl) ?_
  simp only [FT, ↓RD, RU, okR, Bool.true_or, Bool.or_true, argEnv, List.length_cons, List.length_nil, List.map_cons, List.map_nil, List.getElem?_cons_zero, List.getElem?_cons_succ, List.drop_zero, List.drop_succ_cons, List.take_succ_cons, List.take_zero, List.all_cons, List.all_nil, Option.map_some, Bool.and_self, Bool.and_true, true_and, and_true, and_self, Nat.reduceAdd, Nat.reduceSub, Nat.reduceLT, Nat.reduceLeDiff, Nat.reduceEqDiff, Nat.zero_add, Nat.add_zero, ne_eq, not_false_eq_true, reduceIte, Bool.not_true, Bool.not_false, Nat.le_refl]
  rw [List.length_map]
  refine loopV (ι := Nat) o1_ok [] (fun i => [(1, .ptr 0 0), (6, .sl (rs.map Rd.d)), (7, .int .i64 (rs.length : Int)), (8, .int .i64 (i : Int))])
    (fun i => [(0, .box [.int .i64 a, .int .i64 b, .int .i64 c, .sl (rs.map Rd.d)])]) 1 (fun i => i ≤ rs.length ∧ (rs.take i).all rdOk = true) (fun i => rs.length - i) 0 (by kernel_rfl) (by kernel_rfl) ⟨Nat.zero_le _, by simp⟩ ?_ ?_
  · simp [headW, heapW, envW, blkLt, D.ltL, D.lt, look, hget]
  rintro i ⟨hil, hok⟩
  rcases Nat.lt_or_ge i rs.length with hlt | hge
  · have hc : ((i : Int) < (rs.length : Int)) = True := by simp [hlt]
    obtain ⟨r, hr⟩ : ∃ r, rs[i]? = some r := ⟨rs[i], by simp [hlt]⟩
    have hix := fun h => ix_rd Fz.und_22 Fz.size_74 hr h
    have hw := wrap_i64 (z := (i : Int) + 1) (by omega) (by omega)
    simp only [FT, ↓RD, RU, okR, Bool.true_or, Bool.or_true, argEnv, List.length_cons, List.length_nil, List.map_cons, List.map_nil, List.getElem?_cons_zero, List.getElem?_cons_succ, List.drop_zero, List.drop_succ_cons, List.take_succ_cons, List.take_zero, List.all_cons, List.all_nil, Option.map_some, Bool.and_self, Bool.and_true, true_and, and_true, and_self, Nat.reduceAdd, Nat.reduceSub, Nat.reduceLT, Nat.reduceLeDiff, Nat.reduceEqDiff, Nat.zero_add, Nat.add_zero, ne_eq, not_false_eq_true, reduceIte, Bool.not_true, Bool.not_false, Nat.le_refl, hix, hc, decide_true, gIn_eq, gSpan_eq, hw]
    have hg : rdOk r = false → gaOk ⟨a, b, c, rs⟩ = false := fun hp => by simp [gaOk, all_not hr hp]
    cases h1 : bIn r.minute 0 1440
    · simp [BR, hg (by simp [rdOk, h1])]
    cases h2 : bSpan r.lo r.hi (-100000) 100000
    · simp [BR, hg (by simp [rdOk, h2])]
    cases h3 : bIn r.src 0 7
    · simp [BR, hg (by simp [rdOk, h3])]
    simp only [Bool.not_true, BR_false]
    exact ⟨i + 1, ⟨by omega, all_take hr hok (by simp [rdOk, h1, h2, h3])⟩, by omega, by simp [headW, heapW, envW, blkLt, D.ltL, D.lt, look, hget]⟩
  · have hc : ((i : Int) < (rs.length : Int)) = False := by simp; omega
    have : i = rs.length := by omega
    subst this
    rw [List.take_length] at hok
    simp only [FT, ↓RD, RU, okR, Bool.true_or, Bool.or_true, argEnv, List.length_cons, List.length_nil, List.map_cons, List.map_nil, List.getElem?_cons_zero, List.getElem?_cons_succ, List.drop_zero, List.drop_succ_cons, List.take_succ_cons, List.take_zero, List.all_cons, List.all_nil, Option.map_some, Bool.and_self, Bool.and_true, true_and, and_true, and_self, Nat.reduceAdd, Nat.reduceSub, Nat.reduceLT, Nat.reduceLeDiff, Nat.reduceEqDiff, Nat.zero_add, Nat.add_zero, ne_eq, not_false_eq_true, reduceIte, Bool.not_true, Bool.not_false, Nat.le_refl, hc, decide_false, gIn_eq, gSpan_eq, List.length_map]
    have hn : ((rs.length : Int) ≤ 30) ↔ rs.length ≤ 30 := by omega
    cases h1 : bIn a 0 1000 <;> cases h2 : bSpan b c (-100000) 100000 <;> simp [BR, gaOk, hok, h1, h2, hn]

theorem rgauge_t (g : Ga) (hl : g.rs.length ≤ 9223372036854775807) : Pure Tryd.prog 11 [.agg g.c] (.bool (gaOk g)) := by
  obtain ⟨a, b, c, rs⟩ := g
  dsimp only at hl
  simp only [Ga.c]
  refine pure_of_wc (rs := [.tmp 2]) (m := 50) [] (o1_ok) (by kernel_rfl) Tryd.func11 rfl (by kernel_rfl) rfl rfl (by kernel_rfl) ?_
  simp only [FT, ↓RD, RU, okR, Bool.true_or, Bool.or_true, argEnv, List.length_cons, List.length_nil, List.map_cons, List.map_nil, List.getElem?_cons_zero, List.getElem?_cons_succ, List.drop_zero, List.drop_succ_cons, List.take_succ_cons, List.take_zero, List.all_cons, List.all_nil, Option.map_some, Bool.and_self, Bool.and_true, true_and, and_true, and_self, Nat.reduceAdd, Nat.reduceSub, Nat.reduceLT, Nat.reduceLeDiff, Nat.reduceEqDiff, Nat.zero_add, Nat.add_zero, ne_eq, not_false_eq_true, reduceIte, Bool.not_true, Bool.not_false, Nat.le_refl]
  refine loopV (ι := Nat) o1_ok [] (fun i => [(1, .ptr 0 0), (3, .int .i64 (i : Int))])
    (fun i => [(0, .box [.int .i64 a, .int .i64 b, .int .i64 c, .sl (rs.map Rd.d)])]) 1 (fun i => i ≤ rs.length ∧ (rs.take i).all rdOk = true) (fun i => rs.length - i) 0 (by kernel_rfl) (by kernel_rfl) ⟨Nat.zero_le _, by simp⟩ ?_ ?_
  · simp [headW, heapW, envW, blkLt, D.ltL, D.lt, look, hget]
  rintro i ⟨hil, hok⟩
  rcases Nat.lt_or_ge i rs.length with hlt | hge
  · have hc : ((i : Int) < (rs.length : Int)) = True := by simp [hlt]
    obtain ⟨r, hr⟩ : ∃ r, rs[i]? = some r := ⟨rs[i], by simp [hlt]⟩
    have hix := fun h => ix_rd Fz.und_22 Fz.size_74 hr h
    have hw := wrap_i64 (z := (i : Int) + 1) (by omega) (by omega)
    simp only [FT, ↓RD, RU, okR, Bool.true_or, Bool.or_true, argEnv, List.length_cons, List.length_nil, List.map_cons, List.map_nil, List.getElem?_cons_zero, List.getElem?_cons_succ, List.drop_zero, List.drop_succ_cons, List.take_succ_cons, List.take_zero, List.all_cons, List.all_nil, Option.map_some, Bool.and_self, Bool.and_true, true_and, and_true, and_self, Nat.reduceAdd, Nat.reduceSub, Nat.reduceLT, Nat.reduceLeDiff, Nat.reduceEqDiff, Nat.zero_add, Nat.add_zero, ne_eq, not_false_eq_true, reduceIte, Bool.not_true, Bool.not_false, Nat.le_refl, hix, hc, decide_true, gIn_eq, gSpan_eq, hw, List.length_map]
    have hg : rdOk r = false → gaOk ⟨a, b, c, rs⟩ = false := fun hp => by simp [gaOk, all_not hr hp]
    cases h1 : bIn r.minute 0 1440
    · simp [BR, hg (by simp [rdOk, h1])]
    cases h2 : bSpan r.lo r.hi (-100000) 100000
    · simp [BR, hg (by simp [rdOk, h2])]
    cases h3 : bIn r.src 0 7
    · simp [BR, hg (by simp [rdOk, h3])]
    simp only [Bool.not_true, BR_false]
    exact ⟨i + 1, ⟨by omega, all_take hr hok (by simp [rdOk, h1, h2, h3])⟩, by omega, by simp [headW, heapW, envW, blkLt, D.ltL, D.lt, look, hget]⟩
  · have hc : ((i : Int) < (rs.length : Int)) = False := by simp; omega
    have : i = rs.length := by omega
    subst this
    rw [List.take_length] at hok
    simp only [FT, ↓RD, RU, okR, Bool.true_or, Bool.or_true, argEnv, List.length_cons, List.length_nil, List.map_cons, List.map_nil, List.getElem?_cons_zero, List.getElem?_cons_succ, List.drop_zero, List.drop_succ_cons, List.take_succ_cons, List.take_zero, List.all_cons, List.all_nil, Option.map_some, Bool.and_self, Bool.and_true, true_and, and_true, and_self, Nat.reduceAdd, Nat.reduceSub, Nat.reduceLT, Nat.reduceLeDiff, Nat.reduceEqDiff, Nat.zero_add, Nat.add_zero, ne_eq, not_false_eq_true, reduceIte, Bool.not_true, Bool.not_false, Nat.le_refl, hc, decide_false, gIn_eq, gSpan_eq, List.length_map]
    have hn : ((rs.length : Int) ≤ 30) ↔ rs.length ≤ 30 := by omega
    cases h1 : bIn a 0 1000 <;> cases h2 : bSpan b c (-100000) 100000 <;> simp [BR, gaOk, hok, h1, h2, hn]

theorem short_t (g : Ga) : Pure Tryd.prog 7 [.agg g.c] (.bool (decide (g.rs.length ≤ 40))) := by
  obtain ⟨a, b, c, rs⟩ := g
  simp only [Ga.c]
  refine pure_of_wc (rs := [.tmp 2]) (m := 7) [] oNone_ok (by kernel_rfl) Tryd.func7 rfl (by kernel_rfl) rfl rfl (by kernel_rfl) ?_
  simp only [FT, ↓RD, RU, okR, Bool.true_or, Bool.or_true, argEnv, List.length_cons, List.length_nil, List.map_cons, List.map_nil, List.getElem?_cons_zero, List.getElem?_cons_succ, List.drop_zero, List.drop_succ_cons, List.take_succ_cons, List.take_zero, List.all_cons, List.all_nil, Option.map_some, Bool.and_self, Bool.and_true, true_and, and_true, and_self, Nat.reduceAdd, Nat.reduceSub, Nat.reduceLT, Nat.reduceLeDiff, Nat.reduceEqDiff, Nat.zero_add, Nat.add_zero, ne_eq, not_false_eq_true, reduceIte, Bool.not_true, Bool.not_false, Nat.le_refl]
  have hn : ((rs.length : Int) ≤ 40) ↔ rs.length ≤ 40 := by omega
  simp [hn]

def gGa (k : Ga → D) : List D → Option D
  | [.agg [.int .i64 a, .int .i64 b, .int .i64 c, .sl es]] => match decRds es with
    | some rs => if rs.length ≤ 9223372036854775807 then some (k ⟨a, b, c, rs⟩) else none
    | none => none
  | _ => none
theorem gGa_eq (k : Ga → D) (a b c : Int) {rs : List Rd} (hl : rs.length ≤ 9223372036854775807) : gGa k [.agg [.int .i64 a, .int .i64 b, .int .i64 c, .sl (rs.map Rd.d)]] = some (k ⟨a, b, c, rs⟩) := by
  simp [gGa, decRds_map, hl]
theorem gGa_inv {k : Ga → D} {ds : List D} {r : D} (h : gGa k ds = some r) : ∃ g : Ga, g.rs.length ≤ 9223372036854775807 ∧ ds = [.agg g.c] ∧ r = k g := by
  unfold gGa at h
  split at h
  · split at h
    · rename_i rs hrs
      split at h
      · rename_i hl
        cases h
        refine ⟨⟨_, _, _, rs⟩, hl, ?_, rfl⟩
        rw [decRds_inv hrs]; rfl
      · cases h
    · cases h
  · cases h

abbrev o2 : List (FuncId × (List D → Option D)) := (29, gGa fun g => .bool (gaOk g)) :: (11, gGa fun g => .bool (gaOk g)) :: (7, gGa fun g => .bool (decide (g.rs.length ≤ 40))) :: o1
theorem o2_ok : OkO Tryd.prog (mkO o2) :=
  mkO_ok (fun ds r h => by obtain ⟨g, hl, rfl, rfl⟩ := gGa_inv h; exact gauge_t g hl) <|
  mkO_ok (fun ds r h => by obtain ⟨g, hl, rfl, rfl⟩ := gGa_inv h; exact rgauge_t g hl) <|
  mkO_ok (fun ds r h => by obtain ⟨g, hl, rfl, rfl⟩ := gGa_inv h; exact short_t g) o1_ok

theorem Known_t (g : Ga) (hl : g.rs.length ≤ 9223372036854775807) : Pure Tryd.prog 9 [.agg g.c] (.int .i64 (if gaOk g then 0 else 2)) := by
  obtain ⟨a, b, c, rs⟩ := g
  simp only [Ga.c]
  refine pure_of_wc (rs := [.tmp 2]) (m := 6) [] (o2_ok) (by kernel_rfl) Tryd.func9 rfl (by kernel_rfl) rfl rfl (by kernel_rfl) ?_
  simp only [FT, ↓RD, RU, okR, Bool.true_or, Bool.or_true, argEnv, List.length_cons, List.length_nil, List.map_cons, List.map_nil, List.getElem?_cons_zero, List.getElem?_cons_succ, List.drop_zero, List.drop_succ_cons, List.take_succ_cons, List.take_zero, List.all_cons, List.all_nil, Option.map_some, Bool.and_self, Bool.and_true, true_and, and_true, and_self, Nat.reduceAdd, Nat.reduceSub, Nat.reduceLT, Nat.reduceLeDiff, Nat.reduceEqDiff, Nat.zero_add, Nat.add_zero, ne_eq, not_false_eq_true, reduceIte, Bool.not_true, Bool.not_false, Nat.le_refl, gGa_eq _ _ _ _ hl]
  cases h : gaOk ⟨a, b, c, rs⟩ <;> simp [BR]

/-! Courses -/
def iL (l : List Int) : List (List D) := l.map fun x => [D.int .i64 x]
def iAt (l : List Int) (m : Int) : Int := l.getD m.toNat 0
def decI : List D → Option Int
  | [.int .i64 x] => some x
  | _ => none
def decIs : List (List D) → Option (List Int)
  | [] => some []
  | e :: r => match decI e, decIs r with
    | some x, some l => some (x :: l)
    | _, _ => none
theorem decIs_map : ∀ l : List Int, decIs (iL l) = some l
  | [] => rfl
  | x :: l => by
    have := decIs_map l
    simp only [iL] at this
    simp only [iL, List.map_cons, decIs, this]; rfl
theorem decIs_inv : ∀ {es : List (List D)} {l : List Int}, decIs es = some l → es = iL l
  | [], l, h => by cases h; rfl
  | e :: r, l, h => by
    simp only [decIs] at h
    split at h
    · rename_i x l' h1 h2
      cases h
      rw [decIs_inv h2]
      unfold decI at h1
      split at h1
      · cases h1; rfl
      · cases h1
    · cases h
theorem iL_length (l : List Int) : (iL l).length = l.length := by simp [iL]
theorem ix_i {t e : TypeId} (hu : (Tryd.prog).underlying t = some (.slice e)) (hs : sizeT Tryd.prog e = some 1) {l : List Int} {m : Int} (h0 : 0 ≤ m) (h1 : m < l.length) (h : H) :
    indexAddrD Tryd.prog h t (.sl (iL l)) (.int .i64 m) = some (.ref [.int .i64 (iAt l m)] 0) := by
  obtain ⟨n, rfl⟩ := Int.eq_ofNat_of_zero_le h0
  have hn : n < l.length := by omega
  exact ix_sl hu hs (c := [.int .i64 (iAt l n)]) (by simp [iL, iAt, hn, List.getD]) rfl h .i64

/-- A reading that a course meetR. -/
def meetR (cs : List Int) (r : Rd) : Bool := bIn (iAt cs r.minute) r.lo r.hi
def gCl : List D → Option D
  | [.agg [.int .i64 m, .int .i64 lo, .int .i64 hi, .int .i64 s], .ref [.sl es] 0] => match decIs es with
    | some cs => if 0 ≤ m ∧ m < cs.length then some (.bool (!meetR cs ⟨m, lo, hi, s⟩)) else none
    | none => none
  | _ => none
theorem gCl_eq {cs : List Int} {r : Rd} (h : 0 ≤ r.minute ∧ r.minute < cs.length) : gCl [.agg [.int .i64 r.minute, .int .i64 r.lo, .int .i64 r.hi, .int .i64 r.src], .ref [.sl (iL cs)] 0] = some (.bool (!meetR cs r)) := by
  simp [gCl, decIs_map, h]
theorem fitsCl_t (cs : List Int) (r : Rd) (h : 0 ≤ r.minute ∧ r.minute < cs.length) : Pure Tryd.prog 33 [.agg r.d, .ref [.sl (iL cs)] 0] (.bool (!meetR cs r)) := by
  obtain ⟨m, lo, hi, s⟩ := r
  simp only [Rd.d]
  have hix := fun hp => ix_i Fz.und_25 Fz.size_3 h.1 h.2 hp
  refine pure_of_wc (rs := [.tmp 3]) (m := 17) [(1, [(14, false, false, [])])] (o2_ok) (by kernel_rfl) Tryd.func33 rfl (by kernel_rfl) rfl rfl (by kernel_rfl) ?_
  simp only [FT, ↓RD, RU, okR, Bool.true_or, Bool.or_true, argEnv, List.length_cons, List.length_nil, List.map_cons, List.map_nil, List.getElem?_cons_zero, List.getElem?_cons_succ, List.drop_zero, List.drop_succ_cons, List.take_succ_cons, List.take_zero, List.all_cons, List.all_nil, Option.map_some, Bool.and_self, Bool.and_true, true_and, and_true, and_self, Nat.reduceAdd, Nat.reduceSub, Nat.reduceLT, Nat.reduceLeDiff, Nat.reduceEqDiff, Nat.zero_add, Nat.add_zero, ne_eq, not_false_eq_true, reduceIte, Bool.not_true, Bool.not_false, Nat.le_refl, hix, gIn_eq, meetR]

theorem gCl_inv {ds : List D} {d : D} (h : gCl ds = some d) : ∃ (cs : List Int) (r : Rd), (0 ≤ r.minute ∧ r.minute < cs.length) ∧ ds = [.agg r.d, .ref [.sl (iL cs)] 0] ∧ d = .bool (!meetR cs r) := by
  unfold gCl at h
  split at h
  · rename_i m lo hi s es
    split at h
    · rename_i cs hcs
      split at h
      · rename_i hc
        cases h
        exact ⟨cs, ⟨m, lo, hi, s⟩, hc, by rw [decIs_inv hcs]; rfl, rfl⟩
      · cases h
    · cases h
  · cases h
abbrev o3 : List (FuncId × (List D → Option D)) := (33, gCl) :: o2
theorem o3_ok : OkO Tryd.prog (mkO o3) := mkO_ok (fun ds r h => by obtain ⟨cs, x, hc, rfl, rfl⟩ := gCl_inv h; exact fitsCl_t cs x hc) o2_ok

/-- The first place at which something holds; -1, if there is none. -/
def firstI {α : Type} (p : α → Bool) : List α → Nat → Int
  | [], _ => -1
  | x :: r, i => if p x then (i : Int) else firstI p r (i + 1)
theorem firstI_none {α : Type} {p : α → Bool} : ∀ {l : List α} {i : Nat}, l.all (fun x => !p x) = true → firstI p l i = -1
  | [], _, _ => rfl
  | x :: r, i, h => by
    simp only [List.all_cons, Bool.and_eq_true, Bool.not_eq_true'] at h
    simp only [firstI, h.1, Bool.false_eq_true, if_false]
    exact firstI_none h.2
theorem firstI_at {α : Type} {p : α → Bool} : ∀ {l : List α} {i j : Nat} {x : α}, (l.take i).all (fun x => !p x) = true → l[i]? = some x → p x = true → firstI p l j = ((j + i : Nat) : Int)
  | [], i, j, x, _, h, _ => by simp at h
  | y :: r, 0, j, x, _, h, hp => by simp at h; subst h; simp [firstI, hp]
  | y :: r, i + 1, j, x, ha, h, hp => by
    simp only [List.take_succ_cons, List.all_cons, Bool.and_eq_true, Bool.not_eq_true'] at ha
    simp only [firstI, ha.1, Bool.false_eq_true, if_false]
    rw [firstI_at (j := j + 1) ha.2 (by simpa using h) hp]
    congr 1; omega
theorem firstI_ge {α : Type} {p : α → Bool} : ∀ (l : List α) (i : Nat), decide (0 ≤ firstI p l i) = l.any p
  | [], _ => rfl
  | x :: r, i => by
    simp only [firstI, List.any_cons]
    by_cases h : p x = true
    · simp [h]
    · have h' : p x = false := by simpa using h
      simp only [h', Bool.false_eq_true, if_false, Bool.false_or]
      exact firstI_ge r (i + 1)

theorem fitsIx_t (cs : List Int) (rs : List Rd) (hl : rs.length ≤ 9223372036854775807) (h : ∀ r ∈ rs, 0 ≤ r.minute ∧ r.minute < cs.length) :
    Pure Tryd.prog 59 [.sl (rs.map Rd.d), .fn (.func 33) [] [.ref [.sl (iL cs)] 0]] (.int .i64 (firstI (fun r => !meetR cs r) rs 0)) := by
  refine pure_of_wc (rs := [.tmp 4]) (m := 19) [] (o3_ok) (by kernel_rfl) Tryd.func59 rfl (by kernel_rfl) rfl rfl (by kernel_rfl) ?_
  simp only [FT, ↓RD, RU, okR, Bool.true_or, Bool.or_true, argEnv, List.length_cons, List.length_nil, List.map_cons, List.map_nil, List.getElem?_cons_zero, List.getElem?_cons_succ, List.drop_zero, List.drop_succ_cons, List.take_succ_cons, List.take_zero, List.all_cons, List.all_nil, Option.map_some, Bool.and_self, Bool.and_true, true_and, and_true, and_self, Nat.reduceAdd, Nat.reduceSub, Nat.reduceLT, Nat.reduceLeDiff, Nat.reduceEqDiff, Nat.zero_add, Nat.add_zero, ne_eq, not_false_eq_true, reduceIte, Bool.not_true, Bool.not_false, Nat.le_refl, List.length_map]
  refine loopV (ι := Nat) o3_ok [] (fun i => [(0, .sl (rs.map Rd.d)), (1, .fn (.func 33) [] [.ref [.sl (iL cs)] 0]), (7, .int .i64 (rs.length : Int)), (8, .int .i64 (i : Int))])
    (fun i => []) 0 (fun i => i ≤ rs.length ∧ (rs.take i).all (fun r => !(!meetR cs r)) = true) (fun i => rs.length - i) 0 (by kernel_rfl) (by kernel_rfl) ⟨Nat.zero_le _, by simp⟩ ?_ ?_
  · simp [headW, heapW, envW, blkLt, D.ltL, D.lt, look, hget]
  rintro i ⟨hil, hok⟩
  rcases Nat.lt_or_ge i rs.length with hlt | hge
  · have hc : ((i : Int) < (rs.length : Int)) = True := by simp [hlt]
    obtain ⟨r, hr⟩ : ∃ r, rs[i]? = some r := ⟨rs[i], by simp [hlt]⟩
    have hix := fun h => ix_rd Fz.und_22 Fz.size_74 hr h
    have hw := wrap_i64 (z := (i : Int) + 1) (by omega) (by omega)
    have hcl := gCl_eq (cs := cs) (h r (List.mem_of_getElem? hr))
    cases hm : meetR cs r
    · simp only [FT, ↓RD, RU, okR, Bool.true_or, Bool.or_true, argEnv, List.length_cons, List.length_nil, List.map_cons, List.map_nil, List.getElem?_cons_zero, List.getElem?_cons_succ, List.drop_zero, List.drop_succ_cons, List.take_succ_cons, List.take_zero, List.all_cons, List.all_nil, Option.map_some, Bool.and_self, Bool.and_true, true_and, and_true, and_self, Nat.reduceAdd, Nat.reduceSub, Nat.reduceLT, Nat.reduceLeDiff, Nat.reduceEqDiff, Nat.zero_add, Nat.add_zero, ne_eq, not_false_eq_true, reduceIte, Bool.not_true, Bool.not_false, Nat.le_refl, hix, hc, decide_true, hw, hcl, hm, List.nil_append, List.cons_append]
      rw [firstI_at hok hr (by simp [hm])]; simp
    · simp only [FT, ↓RD, RU, okR, Bool.true_or, Bool.or_true, argEnv, List.length_cons, List.length_nil, List.map_cons, List.map_nil, List.getElem?_cons_zero, List.getElem?_cons_succ, List.drop_zero, List.drop_succ_cons, List.take_succ_cons, List.take_zero, List.all_cons, List.all_nil, Option.map_some, Bool.and_self, Bool.and_true, true_and, and_true, and_self, Nat.reduceAdd, Nat.reduceSub, Nat.reduceLT, Nat.reduceLeDiff, Nat.reduceEqDiff, Nat.zero_add, Nat.add_zero, ne_eq, not_false_eq_true, reduceIte, Bool.not_true, Bool.not_false, Nat.le_refl, hix, hc, decide_true, hw, hcl, hm, List.nil_append, List.cons_append]
      exact ⟨i + 1, ⟨by omega, all_take hr hok (by simp [hm])⟩, by omega, by simp [headW, heapW, envW, blkLt, D.ltL, D.lt, look, hget]⟩
  · have hc : ((i : Int) < (rs.length : Int)) = False := by simp; omega
    have : i = rs.length := by omega
    subst this
    rw [List.take_length] at hok
    simp only [FT, ↓RD, RU, okR, Bool.true_or, Bool.or_true, argEnv, List.length_cons, List.length_nil, List.map_cons, List.map_nil, List.getElem?_cons_zero, List.getElem?_cons_succ, List.drop_zero, List.drop_succ_cons, List.take_succ_cons, List.take_zero, List.all_cons, List.all_nil, Option.map_some, Bool.and_self, Bool.and_true, true_and, and_true, and_self, Nat.reduceAdd, Nat.reduceSub, Nat.reduceLT, Nat.reduceLeDiff, Nat.reduceEqDiff, Nat.zero_add, Nat.add_zero, ne_eq, not_false_eq_true, reduceIte, Bool.not_true, Bool.not_false, Nat.le_refl, hc, decide_false, List.length_map]
    rw [firstI_none hok]
def gIx (f : FuncId) : List D → Option D
  | [.sl es, .fn (.func f') [] [.ref [.sl ds] 0]] => match decRds es, decIs ds with
    | some rs, some cs => if f' = f ∧ rs.length ≤ 9223372036854775807 ∧ ∀ r ∈ rs, 0 ≤ r.minute ∧ r.minute < cs.length then some (.int .i64 (firstI (fun r => !meetR cs r) rs 0)) else none
    | _, _ => none
  | _ => none
theorem gIx_eq {f : FuncId} {cs : List Int} {rs : List Rd} (hl : rs.length ≤ 9223372036854775807) (h : ∀ r ∈ rs, 0 ≤ r.minute ∧ r.minute < cs.length) :
    gIx f [.sl (rs.map Rd.d), .fn (.func f) [] [.ref [.sl (iL cs)] 0]] = some (.int .i64 (firstI (fun r => !meetR cs r) rs 0)) := by
  simp only [gIx, decRds_map, decIs_map]
  rw [if_pos ⟨trivial, hl, h⟩]
theorem gIx_inv {f : FuncId} {ds : List D} {d : D} (hg : gIx f ds = some d) : ∃ (cs : List Int) (rs : List Rd), rs.length ≤ 9223372036854775807 ∧ (∀ r ∈ rs, 0 ≤ r.minute ∧ r.minute < cs.length) ∧ ds = [.sl (rs.map Rd.d), .fn (.func f) [] [.ref [.sl (iL cs)] 0]] ∧ d = .int .i64 (firstI (fun r => !meetR cs r) rs 0) := by
  unfold gIx at hg
  split at hg
  · split at hg
    · rename_i rs cs h1 h2
      split at hg
      · rename_i hc
        cases hg
        obtain ⟨rfl, h3, h4⟩ := hc
        exact ⟨cs, rs, h3, h4, by rw [decRds_inv h1, decIs_inv h2], rfl⟩
      · cases hg
    · cases hg
  · cases hg
abbrev o4 : List (FuncId × (List D → Option D)) := (59, gIx 33) :: o3
theorem o4_ok : OkO Tryd.prog (mkO o4) := mkO_ok (fun ds r h => by obtain ⟨cs, rs, h1, h2, rfl, rfl⟩ := gIx_inv h; exact fitsIx_t cs rs h1 h2) o3_ok

theorem fitsHas_t (cs : List Int) (rs : List Rd) (hl : rs.length ≤ 9223372036854775807) (h : ∀ r ∈ rs, 0 ≤ r.minute ∧ r.minute < cs.length) :
    Pure Tryd.prog 32 [.sl (rs.map Rd.d), .fn (.func 33) [] [.ref [.sl (iL cs)] 0]] (.bool (rs.any fun r => !meetR cs r)) := by
  refine pure_of_wc (rs := [.tmp 4]) (m := 9) [] (o4_ok) (by kernel_rfl) Tryd.func32 rfl (by kernel_rfl) rfl rfl (by kernel_rfl) ?_
  simp only [FT, ↓RD, RU, okR, Bool.true_or, Bool.or_true, argEnv, List.length_cons, List.length_nil, List.map_cons, List.map_nil, List.getElem?_cons_zero, List.getElem?_cons_succ, List.drop_zero, List.drop_succ_cons, List.take_succ_cons, List.take_zero, List.all_cons, List.all_nil, Option.map_some, Bool.and_self, Bool.and_true, true_and, and_true, and_self, Nat.reduceAdd, Nat.reduceSub, Nat.reduceLT, Nat.reduceLeDiff, Nat.reduceEqDiff, Nat.zero_add, Nat.add_zero, ne_eq, not_false_eq_true, reduceIte, Bool.not_true, Bool.not_false, Nat.le_refl, gIx_eq hl h, firstI_ge]
def gHas (f : FuncId) : List D → Option D
  | [.sl es, .fn (.func f') [] [.ref [.sl ds] 0]] => match decRds es, decIs ds with
    | some rs, some cs => if f' = f ∧ rs.length ≤ 9223372036854775807 ∧ ∀ r ∈ rs, 0 ≤ r.minute ∧ r.minute < cs.length then some (.bool (rs.any fun r => !meetR cs r)) else none
    | _, _ => none
  | _ => none
theorem gHas_eq {f : FuncId} {cs : List Int} {rs : List Rd} (hl : rs.length ≤ 9223372036854775807) (h : ∀ r ∈ rs, 0 ≤ r.minute ∧ r.minute < cs.length) :
    gHas f [.sl (rs.map Rd.d), .fn (.func f) [] [.ref [.sl (iL cs)] 0]] = some (.bool (rs.any fun r => !meetR cs r)) := by
  simp only [gHas, decRds_map, decIs_map]
  rw [if_pos ⟨trivial, hl, h⟩]
theorem gHas_inv {f : FuncId} {ds : List D} {d : D} (hg : gHas f ds = some d) : ∃ (cs : List Int) (rs : List Rd), rs.length ≤ 9223372036854775807 ∧ (∀ r ∈ rs, 0 ≤ r.minute ∧ r.minute < cs.length) ∧ ds = [.sl (rs.map Rd.d), .fn (.func f) [] [.ref [.sl (iL cs)] 0]] ∧ d = .bool (rs.any fun r => !meetR cs r) := by
  unfold gHas at hg
  split at hg
  · split at hg
    · rename_i rs cs h1 h2
      split at hg
      · rename_i hc
        cases hg
        obtain ⟨rfl, h3, h4⟩ := hc
        exact ⟨cs, rs, h3, h4, by rw [decRds_inv h1, decIs_inv h2], rfl⟩
      · cases hg
    · cases hg
  · cases hg
abbrev o5 : List (FuncId × (List D → Option D)) := (32, gHas 33) :: o4
theorem o5_ok : OkO Tryd.prog (mkO o5) := mkO_ok (fun ds r h => by obtain ⟨cs, rs, h1, h2, rfl, rfl⟩ := gHas_inv h; exact fitsHas_t cs rs h1 h2) o4_ok
end Go.Sx
