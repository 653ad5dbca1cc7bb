/- Own work: a calculus of contracts for the programs of this kit: parts SxC1t, SxC2t, SxC3t, SxC5t, SxC6t, SxTKt, SxC4t, SxC7t, SxC8t, SxPat, SxC9t. -/
import Derived.Test.YtaifjmjooapmhaaGreatSxFtt
import Derived.Test.YtaifjmjooapmhaaGreatSxFt
import Derived.Test.YtaifjmjooapmhaaGreatSxMe
import Derived.Test.YtaifjmjooapmhaaGreatSxMf
set_option linter.unusedVariables false
set_option linter.unusedSimpArgs false
namespace Go.Sx
open Go.Proofs
set_option maxRecDepth 10000

def bIn (x lo hi : Int) : Bool := decide (lo ≤ x) && decide (x ≤ hi)
def bSpan (a b lo hi : Int) : Bool := decide (lo ≤ a) && (decide (a ≤ b) && decide (b ≤ hi))

def gIn : List D → Option D
 | [.int .i64 x, .int .i64 lo, .int .i64 hi] => some (.bool (bIn x lo hi))
 | _ => none
theorem gIn_eq (x lo hi : Int) : gIn [.int .i64 x, .int .i64 lo, .int .i64 hi] = some (.bool (bIn x lo hi)) := (rfl)
theorem gIn_inv {ds : List D} {r : D} (h : gIn ds = some r) : ∃ x lo hi, ds = [.int .i64 x, .int .i64 lo, .int .i64 hi] ∧ r = .bool (bIn x lo hi) := by
 unfold gIn at h
 split at h
 ·cases h; exact ⟨_, _, _, rfl, rfl⟩
 ·cases h
def gSpan : List D → Option D
 | [.agg [.int .i64 a, .int .i64 b], .int .i64 lo, .int .i64 hi] => some (.bool (bSpan a b lo hi))
 | _ => none
theorem gSpan_eq (a b lo hi : Int) : gSpan [.agg [.int .i64 a, .int .i64 b], .int .i64 lo, .int .i64 hi] = some (.bool (bSpan a b lo hi)) := (rfl)
theorem gSpan_inv {ds : List D} {r : D} (h : gSpan ds = some r) : ∃ a b lo hi, ds = [.agg [.int .i64 a, .int .i64 b], .int .i64 lo, .int .i64 hi] ∧ r = .bool (bSpan a b lo hi) := by
 unfold gSpan at h
 split at h
 ·cases h; exact ⟨_, _, _, _, rfl, rfl⟩
 ·cases h

theorem in_t (x lo hi : Int) : Pure Tryz.prog 24 [.int .i64 x, .int .i64 lo, .int .i64 hi] (.bool (bIn x lo hi)) := by
 refine pure_of_wc (rs := [.tmp 6]) (m := 15) [] oNone_ok (by kernel_rfl) Tryz.func24 rfl (by kernel_rfl) rfl rfl (by kernel_rfl) ?_
 simp only [FS, ↓RE, okR, argEnv, Nat.reduceAdd, Nat.reduceSub, Nat.reduceLT, Nat.reduceLeDiff, Nat.reduceEqDiff, reduceIte]
 cases h1 : decide (lo ≤ x) <;> cases h2 : decide (x ≤ hi) <;> simp [BR, bIn, h1, h2]
theorem rin_t (x lo hi : Int) : Pure Tryz.prog 12 [.int .i64 x, .int .i64 lo, .int .i64 hi] (.bool (bIn x lo hi)) := by
 refine pure_of_wc (rs := [.tmp 6]) (m := 15) [] oNone_ok (by kernel_rfl) Tryz.func12 rfl (by kernel_rfl) rfl rfl (by kernel_rfl) ?_
 simp only [FS, ↓RE, okR, argEnv, Nat.reduceAdd, Nat.reduceSub, Nat.reduceLT, Nat.reduceLeDiff, Nat.reduceEqDiff, reduceIte]
 cases h1 : decide (lo ≤ x) <;> cases h2 : decide (x ≤ hi) <;> simp [BR, bIn, h1, h2]
theorem span_t (a b lo hi : Int) : Pure Tryz.prog 53 [.agg [.int .i64 a, .int .i64 b], .int .i64 lo, .int .i64 hi] (.bool (bSpan a b lo hi)) := by
 refine pure_of_wc (rs := [.tmp 6]) (m := 24) [] oNone_ok (by kernel_rfl) Tryz.func53 rfl (by kernel_rfl) rfl rfl (by kernel_rfl) ?_
 simp only [FS, ↓RE, okR, argEnv, Nat.reduceAdd, Nat.reduceSub, Nat.reduceLT, Nat.reduceLeDiff, Nat.reduceEqDiff, reduceIte]
 cases h1 : decide (lo ≤ a) <;> cases h2 : decide (a ≤ b) <;> cases h3 : decide (b ≤ hi) <;> simp [BR, bSpan, h1, h2, h3]
theorem rspan_t (a b lo hi : Int) : Pure Tryz.prog 40 [.agg [.int .i64 a, .int .i64 b], .int .i64 lo, .int .i64 hi] (.bool (bSpan a b lo hi)) := by
 refine pure_of_wc (rs := [.tmp 6]) (m := 24) [] oNone_ok (by kernel_rfl) Tryz.func40 rfl (by kernel_rfl) rfl rfl (by kernel_rfl) ?_
 simp only [FS, ↓RE, okR, argEnv, Nat.reduceAdd, Nat.reduceSub, Nat.reduceLT, Nat.reduceLeDiff, Nat.reduceEqDiff, reduceIte]
 cases h1 : decide (lo ≤ a) <;> cases h2 : decide (a ≤ b) <;> cases h3 : decide (b ≤ hi) <;> simp [BR, bSpan, h1, h2, h3]
def bFar (x y : Int) : Int := max (x - y) (y - x)
def gFar : List D → Option D
 | [.int .i64 x, .int .i64 y] => if -4000000000 ≤ x ∧ x ≤ 4000000000 ∧ -4000000000 ≤ y ∧ y ≤ 4000000000 then some (.int .i64 (bFar x y)) else none
 | _ => none
theorem gFar_eq {x y : Int} (h : -4000000000 ≤ x ∧ x ≤ 4000000000 ∧ -4000000000 ≤ y ∧ y ≤ 4000000000) : gFar [.int .i64 x, .int .i64 y] = some (.int .i64 (bFar x y)) := by simp [gFar, h]
theorem gFar_inv {ds : List D} {r : D} (h : gFar ds = some r) : ∃ x y, (-4000000000 ≤ x ∧ x ≤ 4000000000 ∧ -4000000000 ≤ y ∧ y ≤ 4000000000) ∧ ds = [.int .i64 x, .int .i64 y] ∧ r = .int .i64 (bFar x y) := by
 unfold gFar at h
 split at h
 ·split at h
  ·rename_i hc; cases h; exact ⟨_, _, hc, rfl, rfl⟩
  ·cases h
 ·cases h
theorem far_t (x y : Int) (h : -4000000000 ≤ x ∧ x ≤ 4000000000 ∧ -4000000000 ≤ y ∧ y ≤ 4000000000) : Pure Tryz.prog 60 [.int .i64 x, .int .i64 y] (.int .i64 (bFar x y)) := by
 have h1 := wrap_i64 (z := x - y) (by omega) (by omega)
 have h2 := wrap_i64 (z := y - x) (by omega) (by omega)
 refine pure_of_wc (rs := [.tmp 4]) (m := 12) [] oNone_ok (by kernel_rfl) Tryz.func60 rfl (by kernel_rfl) rfl rfl (by kernel_rfl) ?_
 simp only [FS, ↓RE, okR, argEnv, Nat.reduceAdd, Nat.reduceSub, Nat.reduceLT, Nat.reduceLeDiff, Nat.reduceEqDiff, reduceIte, h1, h2, bFar]
theorem gap_t (x y : Int) (h : -4000000000 ≤ x ∧ x ≤ 4000000000 ∧ -4000000000 ≤ y ∧ y ≤ 4000000000) : Pure Tryz.prog 44 [.int .i64 x, .int .i64 y] (.int .i64 (bFar x y)) := by
 have h1 := wrap_i64 (z := x - y) (by omega) (by omega)
 have h2 := wrap_i64 (z := y - x) (by omega) (by omega)
 refine pure_of_wc (rs := [.tmp 4]) (m := 12) [] oNone_ok (by kernel_rfl) Tryz.func44 rfl (by kernel_rfl) rfl rfl (by kernel_rfl) ?_
 simp only [FS, ↓RE, okR, argEnv, Nat.reduceAdd, Nat.reduceSub, Nat.reduceLT, Nat.reduceLeDiff, Nat.reduceEqDiff, reduceIte, h1, h2, bFar]

abbrev o1 : List (FuncId × (List D → Option D)) := [(24, gIn), (12, gIn), (53, gSpan), (40, gSpan), (60, gFar), (44, gFar)]

theorem o1_ok : OkO Tryz.prog (mkO o1) := 
 mkO_ok (fun ds r h => by obtain ⟨x, lo, hi, rfl, rfl⟩ := gIn_inv h; exact in_t x lo hi) <|
 mkO_ok (fun ds r h => by obtain ⟨x, lo, hi, rfl, rfl⟩ := gIn_inv h; exact rin_t x lo hi) <|
 mkO_ok (fun ds r h => by obtain ⟨a, b, lo, hi, rfl, rfl⟩ := gSpan_inv h; exact span_t a b lo hi) <|
 mkO_ok (fun ds r h => by obtain ⟨a, b, lo, hi, rfl, rfl⟩ := gSpan_inv h; exact rspan_t a b lo hi) <|
 mkO_ok (fun ds r h => by obtain ⟨x, y, hc, rfl, rfl⟩ := gFar_inv h; exact far_t x y hc) <|
 mkO_ok (fun ds r h => by obtain ⟨x, y, hc, rfl, rfl⟩ := gFar_inv h; exact gap_t x y hc) <| mkO_ok_nil

end Go.Sx

namespace Go.Sx
open Go.Proofs
set_option maxRecDepth 10000

structure Rd where
 minute : Int
 lo : Int
 hi : Int
 src : Int
def Rd.d (r : Rd) : List D := [.int .i64 r.minute, .int .i64 r.lo, .int .i64 r.hi, .int .i64 r.src]
def decRd : List D → Option Rd
 | [.int .i64 a, .int .i64 b, .int .i64 c, .int .i64 d] => some ⟨a, b, c, d⟩
 | _ => none
def decRds : List (List D) → Option (List Rd)
 | [] => some []
 | e :: r => match decRd e, decRds r with
  | some x, some l => some (x :: l)
  | _, _ => none
theorem decRds_map : ∀ l : List Rd, decRds (l.map Rd.d) = some l
 | [] => rfl
 | x :: l => by simp only [List.map_cons, decRds, decRds_map l]; rfl
theorem decRds_inv : ∀ {es : List (List D)} {l : List Rd}, decRds es = some l → es = l.map Rd.d
 | [], l, h => by cases h; rfl
 | e :: r, l, h => by
  simp only [decRds] at h
  split at h
  ·rename_i x l' h1 h2
   cases h
   rw [List.map_cons, ← decRds_inv h2]
   unfold decRd at h1
   split at h1
   ·cases h1; rfl
   ·cases h1
  ·cases h

structure Ga where
 rate : Int
 least : Int
 most : Int
 rs : List Rd
def Ga.c (g : Ga) : List D := [.int .i64 g.rate, .int .i64 g.least, .int .i64 g.most, .sl (g.rs.map Rd.d)]

def rdOk (r : Rd) : Bool := bIn r.minute 0 1440 && (bSpan r.lo r.hi (-100000) 100000 && bIn r.src 0 7)
def gaOk (g : Ga) : Bool := g.rs.all rdOk && (bIn g.rate 0 1000 && (bSpan g.least g.most (-100000) 100000 && decide (g.rs.length ≤ 30)))

theorem ix_rd {t : TypeId} {e : TypeId} (hu : (Tryz.prog).underlying t = some (.slice e)) (hs : sizeT Tryz.prog e = some 4) {rs : List Rd} {i : Nat} {r : Rd} (hr : rs[i]? = some r) (h : H) :
  indexAddrD Tryz.prog h t (.sl (rs.map Rd.d)) (.int .i64 (i : Int)) = some (.ref [.int .i64 r.minute, .int .i64 r.lo, .int .i64 r.hi, .int .i64 r.src] 0) :=
 ix_sl hu hs (c := r.d) (by simp [hr]) rfl h .i64

theorem all_take {α : Type} {p : α → Bool} {l : List α} {i : Nat} {x : α} (hx : l[i]? = some x) (h : (l.take i).all p = true) (hp : p x = true) : (l.take (i + 1)).all p = true := by
 rw [List.take_add_one, hx]; simp [h, hp]
theorem all_not {α : Type} {p : α → Bool} {l : List α} {i : Nat} {x : α} (hx : l[i]? = some x) (hp : p x = false) : l.all p = false := by
 rw [List.all_eq_false]; exact ⟨x, List.mem_of_getElem? hx, by simp [hp]⟩

theorem gauge_t (g : Ga) (hl : g.rs.length ≤ 9223372036854775807) : Pure Tryz.prog 104 [.agg g.c] (.bool (gaOk g)) := by
 obtain ⟨a, b, c, rs⟩ := g
 dsimp only at hl
 simp only [Ga.c]
 refine pure_of_wc (rs := [.tmp 2]) (m := 46) [] (o1_ok) (by kernel_rfl) Tryz.func104 rfl (by kernel_rfl) rfl rfl (by kernel_rfl) ?_
 simp only [FS, ↓RE, okR, argEnv, Nat.reduceAdd, Nat.reduceSub, Nat.reduceLT, Nat.reduceLeDiff, Nat.reduceEqDiff, reduceIte]
 rw [List.length_map]
 refine loopV (ι := Nat) o1_ok [] (fun i => [(1, .ptr 0 0), (6, .sl (rs.map Rd.d)), (7, .int .i64 (rs.length : Int)), (8, .int .i64 (i : Int))])
  (fun i => [(0, .box [.int .i64 a, .int .i64 b, .int .i64 c, .sl (rs.map Rd.d)])]) 1 (fun i => i ≤ rs.length ∧ (rs.take i).all rdOk = true) (fun i => rs.length - i) 0 (by kernel_rfl) (by kernel_rfl) ⟨Nat.zero_le _, by simp⟩ ?_ ?_
 ·simp [headW, heapW, envW, blkLt, D.ltL, D.lt, look, hget]
 rintro i ⟨hil, hok⟩
 rcases Nat.lt_or_ge i rs.length with hlt | hge
 ·have hc : ((i : Int) < (rs.length : Int)) = True := by simp [hlt]
  obtain ⟨r, hr⟩ : ∃ r, rs[i]? = some r := ⟨rs[i], by simp [hlt]⟩
  have hix := fun h => ix_rd Fz.und_25 Fz.size_115 hr h
  have hw := wrap_i64 (z := (i : Int) + 1) (by omega) (by omega)
  simp only [FS, ↓RE, okR, argEnv, Nat.reduceAdd, Nat.reduceSub, Nat.reduceLT, Nat.reduceLeDiff, Nat.reduceEqDiff, reduceIte, hix, hc, decide_true, gIn_eq, gSpan_eq, hw]
  have hg : rdOk r = false → gaOk ⟨a, b, c, rs⟩ = false := fun hp => by simp [gaOk, all_not hr hp]
  cases h1 : bIn r.minute 0 1440
  ·simp [BR, hg (by simp [rdOk, h1])]
  cases h2 : bSpan r.lo r.hi (-100000) 100000
  ·simp [BR, hg (by simp [rdOk, h2])]
  cases h3 : bIn r.src 0 7
  ·simp [BR, hg (by simp [rdOk, h3])]
  simp only [Bool.not_true, BR_false]
  exact ⟨i + 1, ⟨by omega, all_take hr hok (by simp [rdOk, h1, h2, h3])⟩, by omega, by simp [headW, heapW, envW, blkLt, D.ltL, D.lt, look, hget]⟩
 ·have hc : ((i : Int) < (rs.length : Int)) = False := by simp; omega
  have : i = rs.length := by omega
  subst this
  rw [List.take_length] at hok
  simp only [FS, ↓RE, okR, argEnv, Nat.reduceAdd, Nat.reduceSub, Nat.reduceLT, Nat.reduceLeDiff, Nat.reduceEqDiff, reduceIte, hc, decide_false, gIn_eq, gSpan_eq, List.length_map]
  have hn : ((rs.length : Int) ≤ 30) ↔ rs.length ≤ 30 := by omega
  cases h1 : bIn a 0 1000 <;> cases h2 : bSpan b c (-100000) 100000 <;> simp [BR, gaOk, hok, h1, h2, hn]

theorem rgauge_t (g : Ga) (hl : g.rs.length ≤ 9223372036854775807) : Pure Tryz.prog 77 [.agg g.c] (.bool (gaOk g)) := by
 obtain ⟨a, b, c, rs⟩ := g
 dsimp only at hl
 simp only [Ga.c]
 refine pure_of_wc (rs := [.tmp 2]) (m := 50) [] (o1_ok) (by kernel_rfl) Tryz.func77 rfl (by kernel_rfl) rfl rfl (by kernel_rfl) ?_
 simp only [FS, ↓RE, okR, argEnv, Nat.reduceAdd, Nat.reduceSub, Nat.reduceLT, Nat.reduceLeDiff, Nat.reduceEqDiff, reduceIte]
 refine loopV (ι := Nat) o1_ok [] (fun i => [(1, .ptr 0 0), (3, .int .i64 (i : Int))])
  (fun i => [(0, .box [.int .i64 a, .int .i64 b, .int .i64 c, .sl (rs.map Rd.d)])]) 1 (fun i => i ≤ rs.length ∧ (rs.take i).all rdOk = true) (fun i => rs.length - i) 0 (by kernel_rfl) (by kernel_rfl) ⟨Nat.zero_le _, by simp⟩ ?_ ?_
 ·simp [headW, heapW, envW, blkLt, D.ltL, D.lt, look, hget]
 rintro i ⟨hil, hok⟩
 rcases Nat.lt_or_ge i rs.length with hlt | hge
 ·have hc : ((i : Int) < (rs.length : Int)) = True := by simp [hlt]
  obtain ⟨r, hr⟩ : ∃ r, rs[i]? = some r := ⟨rs[i], by simp [hlt]⟩
  have hix := fun h => ix_rd Fz.und_25 Fz.size_115 hr h
  have hw := wrap_i64 (z := (i : Int) + 1) (by omega) (by omega)
  simp only [FS, ↓RE, okR, argEnv, Nat.reduceAdd, Nat.reduceSub, Nat.reduceLT, Nat.reduceLeDiff, Nat.reduceEqDiff, reduceIte, hix, hc, decide_true, gIn_eq, gSpan_eq, hw, List.length_map]
  have hg : rdOk r = false → gaOk ⟨a, b, c, rs⟩ = false := fun hp => by simp [gaOk, all_not hr hp]
  cases h1 : bIn r.minute 0 1440
  ·simp [BR, hg (by simp [rdOk, h1])]
  cases h2 : bSpan r.lo r.hi (-100000) 100000
  ·simp [BR, hg (by simp [rdOk, h2])]
  cases h3 : bIn r.src 0 7
  ·simp [BR, hg (by simp [rdOk, h3])]
  simp only [Bool.not_true, BR_false]
  exact ⟨i + 1, ⟨by omega, all_take hr hok (by simp [rdOk, h1, h2, h3])⟩, by omega, by simp [headW, heapW, envW, blkLt, D.ltL, D.lt, look, hget]⟩
 ·have hc : ((i : Int) < (rs.length : Int)) = False := by simp; omega
  have : i = rs.length := by omega
  subst this
  rw [List.take_length] at hok
  simp only [FS, ↓RE, okR, argEnv, Nat.reduceAdd, Nat.reduceSub, Nat.reduceLT, Nat.reduceLeDiff, Nat.reduceEqDiff, reduceIte, hc, decide_false, gIn_eq, gSpan_eq, List.length_map]
  have hn : ((rs.length : Int) ≤ 30) ↔ rs.length ≤ 30 := by omega
  cases h1 : bIn a 0 1000 <;> cases h2 : bSpan b c (-100000) 100000 <;> simp [BR, gaOk, hok, h1, h2, hn]

def gGa (k : Ga → D) : List D → Option D
 | [.agg [.int .i64 a, .int .i64 b, .int .i64 c, .sl es]] => match decRds es with
  | some rs => if rs.length ≤ 9223372036854775807 then some (k ⟨a, b, c, rs⟩) else none
  | none => none
 | _ => none
theorem gGa_eq (k : Ga → D) (a b c : Int) {rs : List Rd} (hl : rs.length ≤ 9223372036854775807) : gGa k [.agg [.int .i64 a, .int .i64 b, .int .i64 c, .sl (rs.map Rd.d)]] = some (k ⟨a, b, c, rs⟩) := by
 simp [gGa, decRds_map, hl]
theorem gGa_inv {k : Ga → D} {ds : List D} {r : D} (h : gGa k ds = some r) : ∃ g : Ga, g.rs.length ≤ 9223372036854775807 ∧ ds = [.agg g.c] ∧ r = k g := by
 unfold gGa at h
 split at h
 ·split at h
  ·rename_i rs hrs
   split at h
   ·rename_i hl
    cases h
    refine ⟨⟨_, _, _, rs⟩, hl, ?_, rfl⟩
    rw [decRds_inv hrs]; rfl
   ·cases h
  ·cases h
 ·cases h

abbrev o2 : List (FuncId × (List D → Option D)) := (104, gGa fun g => .bool (gaOk g)) :: (77, gGa fun g => .bool (gaOk g)) :: o1

theorem o2_ok : OkO Tryz.prog (mkO o2) := 
 mkO_ok (fun ds r h => by obtain ⟨g, hl, rfl, rfl⟩ := gGa_inv h; exact gauge_t g hl) <|
 mkO_ok (fun ds r h => by obtain ⟨g, hl, rfl, rfl⟩ := gGa_inv h; exact rgauge_t g hl) <| o1_ok

def firstI {α : Type} (p : α → Bool) : List α → Nat → Int
 | [], _ => -1
 | x :: r, i => if p x then (i : Int) else firstI p r (i + 1)
theorem firstI_none {α : Type} {p : α → Bool} : ∀ {l : List α} {i : Nat}, l.all (fun x => !p x) = true → firstI p l i = -1
 | [], _, _ => rfl
 | x :: r, i, h => by
  simp only [List.all_cons, Bool.and_eq_true, Bool.not_eq_true'] at h
  simp only [firstI, h.1, Bool.false_eq_true, if_false]
  exact firstI_none h.2
theorem firstI_at {α : Type} {p : α → Bool} : ∀ {l : List α} {i j : Nat} {x : α}, (l.take i).all (fun x => !p x) = true → l[i]? = some x → p x = true → firstI p l j = ((j + i : Nat) : Int)
 | [], i, j, x, _, h, _ => by simp at h
 | y :: r, 0, j, x, _, h, hp => by simp at h; subst h; simp [firstI, hp]
 | y :: r, i + 1, j, x, ha, h, hp => by
  simp only [List.take_succ_cons, List.all_cons, Bool.and_eq_true, Bool.not_eq_true'] at ha
  simp only [firstI, ha.1, Bool.false_eq_true, if_false]
  rw [firstI_at (j := j + 1) ha.2 (by simpa using h) hp]
  congr 1; omega
theorem firstI_ge {α : Type} {p : α → Bool} : ∀ (l : List α) (i : Nat), decide (0 ≤ firstI p l i) = l.any p
 | [], _ => rfl
 | x :: r, i => by
  simp only [firstI, List.any_cons]
  by_cases h : p x = true
  ·simp [h]
  ·have h' : p x = false := by simpa using h
   simp only [h', Bool.false_eq_true, if_false, Bool.false_or]
   exact firstI_ge r (i + 1)

abbrev o5 : List (FuncId × (List D → Option D)) := o2

theorem o5_ok : OkO Tryz.prog (mkO o5) :=  o2_ok

end Go.Sx

namespace Go.Sx
open Go.Proofs
set_option maxRecDepth 10000

theorem gaOk_inv {g : Ga} (h : gaOk g = true) : (∀ r ∈ g.rs, (0 ≤ r.minute ∧ r.minute ≤ 1440) ∧ (-100000 ≤ r.lo ∧ r.lo ≤ r.hi ∧ r.hi ≤ 100000) ∧ 0 ≤ r.src ∧ r.src ≤ 7) ∧ (0 ≤ g.rate ∧ g.rate ≤ 1000) ∧ (-100000 ≤ g.least ∧ g.least ≤ g.most ∧ g.most ≤ 100000) ∧ g.rs.length ≤ 30 := by
 simp only [gaOk, Bool.and_eq_true, bIn, bSpan, decide_eq_true_eq, List.all_eq_true, rdOk] at h
 exact ⟨fun r hr => let x := h.1 r hr; ⟨x.1, x.2.1, x.2.2⟩, h.2.1, h.2.2.1, h.2.2.2⟩

theorem range_all_succ {p : Nat → Bool} {i : Nat} (h : (List.range i).all p = true) (hp : p i = true) : (List.range (i + 1)).all p = true := by
 rw [List.range_succ, List.all_append, h]; simp [hp]
theorem range_all_not {p : Nat → Bool} {i n : Nat} (hi : i < n) (hp : p i = false) : (List.range n).all p = false := by
 rw [List.all_eq_false]; exact ⟨i, List.mem_range.2 hi, by simp [hp]⟩
theorem tySpan {n : Nat} {ds : List D} (h : TyD Tryz.prog n 52 ds) : ∃ a b, ds = [.int .i64 a, .int .i64 b] := by
 obtain ⟨hl, m, hf⟩ := tySt Tryz.underlying52 (by decide +kernel) h
 obtain ⟨a, b, rfl⟩ := list2 (hl.trans (by kernel_rfl))
 obtain ⟨x, hx, _⟩ := tyInt Fz.und_3 (hf 0 _ rfl)
 obtain ⟨y, hy, _⟩ := tyInt Fz.und_3 (hf 1 _ rfl)
 cases hx; cases hy
 exact ⟨x, y, rfl⟩
theorem tyRd {n : Nat} {ds : List D} (h : TyD Tryz.prog n 115 ds) : ∃ r : Rd, ds = r.d := by
 obtain ⟨hl, m, hf⟩ := tySt Tryz.underlying115 (by decide +kernel) h
 obtain ⟨a, b, c, d, rfl⟩ := list4 (hl.trans (by kernel_rfl))
 obtain ⟨x, hx, _⟩ := tyInt Fz.und_3 (hf 0 _ rfl)
 obtain ⟨y, z, hy⟩ := tySpan (hf 1 _ rfl)
 obtain ⟨s, hs, _⟩ := tyInt Fz.und_3 (hf 2 _ rfl)
 cases hx; cases hy; cases hs
 exact ⟨⟨x, y, z, s⟩, rfl⟩
theorem tyGa {n : Nat} {ds : List D} (h : TyD Tryz.prog n 27 ds) : ∃ g : Ga, ds = g.c ∧ g.rs.length ≤ 9223372036854775807 := by
 obtain ⟨hl, m, hf⟩ := tySt Tryz.underlying27 (by decide +kernel) h
 obtain ⟨a, b, c, d, rfl⟩ := list4 (hl.trans (by kernel_rfl))
 obtain ⟨x, hx, _⟩ := tyInt Fz.und_3 (hf 0 _ rfl)
 obtain ⟨y, hy, _⟩ := tyInt Fz.und_3 (hf 1 _ rfl)
 obtain ⟨z, hz, _⟩ := tyInt Fz.und_3 (hf 2 _ rfl)
 obtain ⟨es, m', hs, hle, he⟩ := tySl Fz.und_25 (by decide +kernel) (hf 3 _ rfl)
 obtain ⟨rs, rfl⟩ := list_map (f := Rd.d) fun c hc => tyRd (he c hc).2
 cases hx; cases hy; cases hz; cases hs
 refine ⟨⟨x, y, z, rs⟩, rfl, ?_⟩
 have : maxLen ≤ 9223372036854775807 := by decide
 simp at hle
 exact Nat.le_trans hle this
end Go.Sx

namespace Go.Sx
open Go.Proofs
set_option maxRecDepth 10000

end Go.Sx

namespace Go.Sx
open Go.Proofs
set_option maxRecDepth 10000

def atStep (c t : Int) (s : Int × Int) (r : Rd) : Int × Int := (max s.1 (r.lo - c * bFar r.minute t), min s.2 (r.hi + c * bFar r.minute t))
def atG (c lo hi : Int) (rs : List Rd) (t : Int) : Int × Int := rs.foldl (atStep c t) (lo, hi)
def gAt : List D → Option D
 | [.agg [.int .i64 a, .int .i64 b, .int .i64 c, .sl es], .int .i64 t] => match decRds es with
  | some rs => if gaOk ⟨a, b, c, rs⟩ = true ∧ 0 ≤ t ∧ t ≤ 1440 then some (.agg [.int .i64 (atG a b c rs t).1, .int .i64 (atG a b c rs t).2]) else none
  | none => none
 | _ => none
theorem gAt_eq {a b c t : Int} {rs : List Rd} (h : gaOk ⟨a, b, c, rs⟩ = true ∧ 0 ≤ t ∧ t ≤ 1440) : gAt [.agg [.int .i64 a, .int .i64 b, .int .i64 c, .sl (rs.map Rd.d)], .int .i64 t] = some (.agg [.int .i64 (atG a b c rs t).1, .int .i64 (atG a b c rs t).2]) := by
 simp only [gAt, decRds_map]; rw [if_pos h]
theorem gAt_inv {ds : List D} {d : D} (h : gAt ds = some d) : ∃ a b c rs t, (gaOk ⟨a, b, c, rs⟩ = true ∧ 0 ≤ t ∧ t ≤ 1440) ∧ ds = [.agg [.int .i64 a, .int .i64 b, .int .i64 c, .sl (rs.map Rd.d)], .int .i64 t] ∧ d = .agg [.int .i64 (atG a b c rs t).1, .int .i64 (atG a b c rs t).2] := by
 unfold gAt at h
 split at h
 ·split at h
  ·rename_i rs hrs
   split at h
   ·rename_i hc
    cases h
    exact ⟨_, _, _, rs, _, hc, by rw [decRds_inv hrs], rfl⟩
   ·cases h
  ·cases h
 ·cases h

theorem at_t (a b c t : Int) (rs : List Rd) (h : gaOk ⟨a, b, c, rs⟩ = true ∧ 0 ≤ t ∧ t ≤ 1440) : Pure Tryz.prog 29 [.agg [.int .i64 a, .int .i64 b, .int .i64 c, .sl (rs.map Rd.d)], .int .i64 t] (.agg [.int .i64 (atG a b c rs t).1, .int .i64 (atG a b c rs t).2]) := by
 obtain ⟨hga, ht⟩ := h
 obtain ⟨hrs, hrate, hspan, hl⟩ := gaOk_inv hga
 dsimp only at hrs hrate hspan hl
 refine pure_of_wc (rs := [.cell 4 52]) (m := 48) [(5, [(8, false, false, [])]), (6, [(18, false, true, [(7, 0), (6, 0), (5, 0), (2, 0)]), (2, false, false, [])])] o5_ok (by kernel_rfl) Tryz.func29 rfl (by kernel_rfl) rfl rfl (by kernel_rfl) ?_
 simp only [FS, ↓RE, okR, argEnv, Nat.reduceAdd, Nat.reduceSub, Nat.reduceLT, Nat.reduceLeDiff, Nat.reduceEqDiff, reduceIte, List.length_map]
 refine loopV (ι := Nat) o5_ok [(5, [(8, false, false, [])]), (6, [(18, false, true, [(7, 0), (6, 0), (5, 0), (2, 0)]), (2, false, false, [])])] (fun i => [(1, .int .i64 t), (2, .ptr 0 0), (4, .ptr 1 0), (5, .ptr 2 0), (15, .sl (rs.map Rd.d)), (16, .int .i64 (rs.length : Int)), (17, .int .i64 (i : Int))])
  (fun i => [(2, .box [.int .i64 (atG a b c (rs.take i) t).1, .int .i64 (atG a b c (rs.take i) t).2]), (1, .box [.int .i64 0, .int .i64 0]), (0, .box [.int .i64 a, .int .i64 b, .int .i64 c, .sl (rs.map Rd.d)])]) 3
  (fun i => i ≤ rs.length) (fun i => rs.length - i) 0 (by kernel_rfl) (by kernel_rfl) (Nat.zero_le _) ?_ ?_
 ·simp [headW, heapW, envW, blkLt, D.ltL, D.lt, look, hget, atG]
 intro i hil
 rcases Nat.lt_or_ge i rs.length with hlt | hge
 ·have hc : ((i : Int) < (rs.length : Int)) = True := by simp [hlt]
  obtain ⟨r, hr⟩ : ∃ r, rs[i]? = some r := ⟨rs[i], by simp [hlt]⟩
  obtain ⟨hmin, hv, _⟩ := hrs r (List.mem_of_getElem? hr)
  have hix := fun h => ix_rd Fz.und_25 Fz.size_115 hr h
  have hfar := gFar_eq (x := r.minute) (y := t) (by omega)
  have hb : 0 ≤ bFar r.minute t ∧ bFar r.minute t ≤ 1440 := by simp only [bFar]; omega
  have hp : 0 ≤ a * bFar r.minute t ∧ a * bFar r.minute t ≤ 1000 * 1440 :=
   ⟨Int.mul_nonneg hrate.1 hb.1, Int.mul_le_mul hrate.2 hb.2 hb.1 (by omega)⟩
  have w1 := wrap_i64 (z := a * bFar r.minute t) (by omega) (by omega)
  have w2 := wrap_i64 (z := r.lo - a * bFar r.minute t) (by omega) (by omega)
  have w3 := wrap_i64 (z := r.hi + a * bFar r.minute t) (by omega) (by omega)
  have w4 := wrap_i64 (z := (i : Int) + 1) (by omega) (by omega)
  have hs : atG a b c (rs.take (i + 1)) t = atStep a t (atG a b c (rs.take i) t) r := by
   rw [List.take_add_one, hr]; simp [atG]
  simp only [FS, ↓RE, okR, argEnv, Nat.reduceAdd, Nat.reduceSub, Nat.reduceLT, Nat.reduceLeDiff, Nat.reduceEqDiff, reduceIte, hix, hc, decide_true, hfar, w1, w2, w3, w4]
  refine ⟨i + 1, by omega, by omega, ?_⟩
  simp [headW, heapW, envW, blkLt, D.ltL, D.lt, look, hget, hs, atStep]
 ·have hc : ((i : Int) < (rs.length : Int)) = False := by simp; omega
  simp only [FS, ↓RE, okR, argEnv, Nat.reduceAdd, Nat.reduceSub, Nat.reduceLT, Nat.reduceLeDiff, Nat.reduceEqDiff, reduceIte, hc, decide_false]
  have : i = rs.length := by omega
  subst this
  simp

theorem rAt_t (a b c t : Int) (rs : List Rd) (h : gaOk ⟨a, b, c, rs⟩ = true ∧ 0 ≤ t ∧ t ≤ 1440) : Pure Tryz.prog 13 [.agg [.int .i64 a, .int .i64 b, .int .i64 c, .sl (rs.map Rd.d)], .int .i64 t] (.agg [.int .i64 (atG a b c rs t).1, .int .i64 (atG a b c rs t).2]) := by
 obtain ⟨hga, ht⟩ := h
 obtain ⟨hrs, hrate, hspan, hl⟩ := gaOk_inv hga
 dsimp only at hrs hrate hspan hl
 refine pure_of_wc (rs := [.cell 4 52]) (m := 52) [(6, [(8, false, false, [])]), (7, [(18, false, true, [(7, 0), (6, 0), (5, 0), (2, 0)]), (2, false, false, [])])] o5_ok (by kernel_rfl) Tryz.func13 rfl (by kernel_rfl) rfl rfl (by kernel_rfl) ?_
 simp only [FS, ↓RE, okR, argEnv, Nat.reduceAdd, Nat.reduceSub, Nat.reduceLT, Nat.reduceLeDiff, Nat.reduceEqDiff, reduceIte, List.length_map]
 refine loopV (ι := Nat) o5_ok [(6, [(8, false, false, [])]), (7, [(18, false, true, [(7, 0), (6, 0), (5, 0), (2, 0)]), (2, false, false, [])])] (fun i => [(1, .int .i64 t), (2, .ptr 0 0), (4, .ptr 1 0), (5, .ptr 2 0), (6, .int .i64 (i : Int))])
  (fun i => [(2, .box [.int .i64 (atG a b c (rs.take i) t).1, .int .i64 (atG a b c (rs.take i) t).2]), (1, .box [.int .i64 0, .int .i64 0]), (0, .box [.int .i64 a, .int .i64 b, .int .i64 c, .sl (rs.map Rd.d)])]) 3
  (fun i => i ≤ rs.length) (fun i => rs.length - i) 0 (by kernel_rfl) (by kernel_rfl) (Nat.zero_le _) ?_ ?_
 ·simp [headW, heapW, envW, blkLt, D.ltL, D.lt, look, hget, atG]
 intro i hil
 rcases Nat.lt_or_ge i rs.length with hlt | hge
 ·have hc : ((i : Int) < (rs.length : Int)) = True := by simp [hlt]
  obtain ⟨r, hr⟩ : ∃ r, rs[i]? = some r := ⟨rs[i], by simp [hlt]⟩
  obtain ⟨hmin, hv, _⟩ := hrs r (List.mem_of_getElem? hr)
  have hix := fun h => ix_rd Fz.und_25 Fz.size_115 hr h
  have hfar := gFar_eq (x := r.minute) (y := t) (by omega)
  have hb : 0 ≤ bFar r.minute t ∧ bFar r.minute t ≤ 1440 := by simp only [bFar]; omega
  have hp : 0 ≤ a * bFar r.minute t ∧ a * bFar r.minute t ≤ 1000 * 1440 :=
   ⟨Int.mul_nonneg hrate.1 hb.1, Int.mul_le_mul hrate.2 hb.2 hb.1 (by omega)⟩
  have w1 := wrap_i64 (z := a * bFar r.minute t) (by omega) (by omega)
  have w2 := wrap_i64 (z := r.lo - a * bFar r.minute t) (by omega) (by omega)
  have w3 := wrap_i64 (z := r.hi + a * bFar r.minute t) (by omega) (by omega)
  have w4 := wrap_i64 (z := (i : Int) + 1) (by omega) (by omega)
  have hs : atG a b c (rs.take (i + 1)) t = atStep a t (atG a b c (rs.take i) t) r := by
   rw [List.take_add_one, hr]; simp [atG]
  simp only [FS, ↓RE, okR, argEnv, Nat.reduceAdd, Nat.reduceSub, Nat.reduceLT, Nat.reduceLeDiff, Nat.reduceEqDiff, reduceIte, hix, hc, decide_true, hfar, w1, w2, w3, w4, List.length_map]
  refine ⟨i + 1, by omega, by omega, ?_⟩
  simp [headW, heapW, envW, blkLt, D.ltL, D.lt, look, hget, hs, atStep]
 ·have hc : ((i : Int) < (rs.length : Int)) = False := by simp; omega
  simp only [FS, ↓RE, okR, argEnv, Nat.reduceAdd, Nat.reduceSub, Nat.reduceLT, Nat.reduceLeDiff, Nat.reduceEqDiff, reduceIte, hc, decide_false, List.length_map]
  have : i = rs.length := by omega
  subst this
  simp

def single (g : Ga) (r : Rd) : Bool := decide (g.most < r.lo) || decide (r.hi < g.least)
def pairB (g : Ga) (r s : Rd) : Bool := decide (g.rate * bFar r.minute s.minute < max (r.lo - s.hi) (s.lo - r.hi))
def inner (g : Ga) (r : Rd) : List Rd → Nat → Option Nat
 | [], _ => none
 | s :: l, j => if pairB g r s then some j else inner g r l (j + 1)
def outer (g : Ga) : List Rd → Nat → Int × Int × Bool
 | [], _ => (0, 0, false)
 | r :: l, i => if single g r then ((i : Int), (i : Int), true) else match inner g r l (i + 1) with
  | some j => ((i : Int), (j : Int), true)
  | none => outer g l (i + 1)
def clashG (g : Ga) : Int × Int × Bool := outer g g.rs 0
theorem drop_at {α : Type} {l : List α} {i : Nat} {x : α} (h : l[i]? = some x) : l.drop i = x :: l.drop (i + 1) := by
 obtain ⟨hlt, rfl⟩ := List.getElem?_eq_some_iff.1 h
 exact List.drop_eq_getElem_cons hlt

def clD (p : Int × Int × Bool) : D := .tup [.int .i64 p.1, .int .i64 p.2.1, .bool p.2.2]

theorem clash_t (g : Ga) (hga : gaOk g = true) : Pure Tryz.prog 59 [.agg g.c] (clD (clashG g)) := by
 obtain ⟨hrs, hrate, hspan, hl⟩ := gaOk_inv hga
 obtain ⟨a, b, c, rs⟩ := g
 dsimp only at hrs hrate hspan hl
 simp only [Ga.c]
 refine pure_of_wc (rs := [.tmp 2, .tmp 3, .tmp 4]) (m := 74) [(10, [(24, false, false, [])])] o5_ok (by kernel_rfl) Tryz.func59 rfl (by kernel_rfl) rfl rfl (by kernel_rfl) ?_
 simp only [FS, ↓RE, okR, argEnv, Nat.reduceAdd, Nat.reduceSub, Nat.reduceLT, Nat.reduceLeDiff, Nat.reduceEqDiff, reduceIte, List.length_map]
 refine loopV (ι := Nat) o5_ok [(10, [(24, false, false, [])])] (fun i => [(1, .ptr 0 0), (10, .sl (rs.map Rd.d)), (11, .int .i64 (rs.length : Int)), (12, .int .i64 (i : Int))])
  (fun i => [(0, .box [.int .i64 a, .int .i64 b, .int .i64 c, .sl (rs.map Rd.d)])]) 1
  (fun i => i ≤ rs.length ∧ clashG ⟨a, b, c, rs⟩ = outer ⟨a, b, c, rs⟩ (rs.drop i) i) (fun i => rs.length - i) 0 (by kernel_rfl) (by kernel_rfl) ⟨Nat.zero_le _, rfl⟩ ?_ ?_
 ·simp [headW, heapW, envW, blkLt, D.ltL, D.lt, look, hget]
 rintro i ⟨hil, hcl⟩
 rcases Nat.lt_or_ge i rs.length with hlt | hge
 rotate_left
 ·have hc : ((i : Int) < (rs.length : Int)) = False := by simp; omega
  have : i = rs.length := by omega
  subst this
  rw [List.drop_length] at hcl
  simp only [FS, ↓RE, okR, argEnv, Nat.reduceAdd, Nat.reduceSub, Nat.reduceLT, Nat.reduceLeDiff, Nat.reduceEqDiff, reduceIte, hc, decide_false, hcl, outer]
  rfl
 have hc : ((i : Int) < (rs.length : Int)) = True := by simp [hlt]
 obtain ⟨r, hr⟩ : ∃ r, rs[i]? = some r := ⟨rs[i], by simp [hlt]⟩
 obtain ⟨hmin, hv, _⟩ := hrs r (List.mem_of_getElem? hr)
 have hix := fun h => ix_rd Fz.und_25 Fz.size_115 hr h
 rw [drop_at hr] at hcl
 simp only [outer] at hcl
 have w4 := wrap_i64 (z := (i : Int) + 1) (by omega) (by omega)
 have wi := fun z hz => @wrap_i64 z hz
 cases h1 : decide (c < r.lo)
 rotate_left
 ·simp only [FS, ↓RE, okR, argEnv, Nat.reduceAdd, Nat.reduceSub, Nat.reduceLT, Nat.reduceLeDiff, Nat.reduceEqDiff, reduceIte, hix, hc, decide_true, h1]
  rw [hcl, show single ⟨a, b, c, rs⟩ r = true by simp [single, of_decide_eq_true h1]]
  rfl
 cases h2 : decide (r.hi < b)
 rotate_left
 ·simp only [FS, ↓RE, okR, argEnv, Nat.reduceAdd, Nat.reduceSub, Nat.reduceLT, Nat.reduceLeDiff, Nat.reduceEqDiff, reduceIte, hix, hc, decide_true, h1, h2]
  rw [hcl, show single ⟨a, b, c, rs⟩ r = true by simp [single, of_decide_eq_true h2]]
  rfl
 have hs : single ⟨a, b, c, rs⟩ r = false := by simp [single, of_decide_eq_false h1, of_decide_eq_false h2]
 rw [hs] at hcl
 simp only [FS, ↓RE, okR, argEnv, Nat.reduceAdd, Nat.reduceSub, Nat.reduceLT, Nat.reduceLeDiff, Nat.reduceEqDiff, reduceIte, hix, hc, decide_true, h1, h2, w4]
 refine loopV (ι := Nat) o5_ok [(10, [(24, false, false, [])])] (fun j => [(1, .ptr 0 0), (10, .sl (rs.map Rd.d)), (11, .int .i64 (rs.length : Int)), (12, .int .i64 (i : Int)), (5, .int .i64 (i : Int)), (6, .ptr 1 0), (7, .int .i64 (j : Int))])
  (fun j => [(1, .box [.int .i64 r.minute, .int .i64 r.lo, .int .i64 r.hi, .int .i64 r.src]), (0, .box [.int .i64 a, .int .i64 b, .int .i64 c, .sl (rs.map Rd.d)])]) 2
  (fun j => j ≤ rs.length ∧ inner ⟨a, b, c, rs⟩ r (rs.drop (i + 1)) (i + 1) = inner ⟨a, b, c, rs⟩ r (rs.drop j) j) (fun j => rs.length - j) (i + 1) (by kernel_rfl) (by kernel_rfl) ⟨by omega, rfl⟩ ?_ ?_
 ·simp [headW, heapW, envW, blkLt, D.ltL, D.lt, look, hget]
 rintro j ⟨hjl, hin⟩
 rcases Nat.lt_or_ge j rs.length with hjt | hjge
 rotate_left
 ·have hc2 : ((j : Int) < (rs.length : Int)) = False := by simp; omega
  have : j = rs.length := by omega
  subst this
  rw [List.drop_length] at hin
  rw [hin] at hcl
  simp only [FS, ↓RE, okR, argEnv, Nat.reduceAdd, Nat.reduceSub, Nat.reduceLT, Nat.reduceLeDiff, Nat.reduceEqDiff, reduceIte, hc2, decide_false, List.length_map, w4]
  exact ⟨i + 1, ⟨by omega, by simpa [inner] using hcl⟩, by omega, by simp [headW, heapW, envW, blkLt, D.ltL, D.lt, look, hget]⟩
 have hc2 : ((j : Int) < (rs.length : Int)) = True := by simp [hjt]
 obtain ⟨q, hq⟩ : ∃ q, rs[j]? = some q := ⟨rs[j], by simp [hjt]⟩
 obtain ⟨hmin2, hv2, _⟩ := hrs q (List.mem_of_getElem? hq)
 have hix2 := fun h => ix_rd Fz.und_25 Fz.size_115 hq h
 have hfar := gFar_eq (x := r.minute) (y := q.minute) (by omega)
 have hb : 0 ≤ bFar r.minute q.minute ∧ bFar r.minute q.minute ≤ 1440 := by simp only [bFar]; omega
 have hp : 0 ≤ a * bFar r.minute q.minute ∧ a * bFar r.minute q.minute ≤ 1000 * 1440 :=
  ⟨Int.mul_nonneg hrate.1 hb.1, Int.mul_le_mul hrate.2 hb.2 hb.1 (by omega)⟩
 have w1 := wrap_i64 (z := a * bFar r.minute q.minute) (by omega) (by omega)
 have w2 := wrap_i64 (z := r.lo - q.hi) (by omega) (by omega)
 have w3 := wrap_i64 (z := q.lo - r.hi) (by omega) (by omega)
 have w5 := wrap_i64 (z := (j : Int) + 1) (by omega) (by omega)
 rw [drop_at hq] at hin
 simp only [inner] at hin
 cases hpr : pairB ⟨a, b, c, rs⟩ r q
 ·rw [hpr] at hin
  have h5 : decide (a * bFar r.minute q.minute < max (r.lo - q.hi) (q.lo - r.hi)) = false := hpr
  simp only [FS, ↓RE, okR, argEnv, Nat.reduceAdd, Nat.reduceSub, Nat.reduceLT, Nat.reduceLeDiff, Nat.reduceEqDiff, reduceIte, hc2, decide_true, List.length_map, hix2, hfar, w1, w2, w3, w5, h5]
  exact ⟨j + 1, ⟨by omega, by simpa using hin⟩, by omega, by simp [headW, heapW, envW, blkLt, D.ltL, D.lt, look, hget]⟩
 ·rw [hpr] at hin
  have h5 : decide (a * bFar r.minute q.minute < max (r.lo - q.hi) (q.lo - r.hi)) = true := hpr
  simp only [FS, ↓RE, okR, argEnv, Nat.reduceAdd, Nat.reduceSub, Nat.reduceLT, Nat.reduceLeDiff, Nat.reduceEqDiff, reduceIte, hc2, decide_true, List.length_map, hix2, hfar, w1, w2, w3, w5, h5]
  rw [hcl, hin]; rfl

theorem rClash_t (g : Ga) (hga : gaOk g = true) : Pure Tryz.prog 43 [.agg g.c] (clD (clashG g)) := by
 obtain ⟨hrs, hrate, hspan, hl⟩ := gaOk_inv hga
 obtain ⟨a, b, c, rs⟩ := g
 dsimp only at hrs hrate hspan hl
 simp only [Ga.c]
 refine pure_of_wc (rs := [.tmp 2, .tmp 3, .tmp 4]) (m := 82) [(11, [(9, false, false, [])])] o5_ok (by kernel_rfl) Tryz.func43 rfl (by kernel_rfl) rfl rfl (by kernel_rfl) ?_
 simp only [FS, ↓RE, okR, argEnv, Nat.reduceAdd, Nat.reduceSub, Nat.reduceLT, Nat.reduceLeDiff, Nat.reduceEqDiff, reduceIte, List.length_map]
 refine loopV (ι := Nat) o5_ok [(11, [(9, false, false, [])])] (fun i => [(1, .ptr 0 0), (5, .int .i64 (i : Int))])
  (fun i => [(0, .box [.int .i64 a, .int .i64 b, .int .i64 c, .sl (rs.map Rd.d)])]) 1
  (fun i => i ≤ rs.length ∧ clashG ⟨a, b, c, rs⟩ = outer ⟨a, b, c, rs⟩ (rs.drop i) i) (fun i => rs.length - i) 0 (by kernel_rfl) (by kernel_rfl) ⟨Nat.zero_le _, rfl⟩ ?_ ?_
 ·simp [headW, heapW, envW, blkLt, D.ltL, D.lt, look, hget]
 rintro i ⟨hil, hcl⟩
 rcases Nat.lt_or_ge i rs.length with hlt | hge
 rotate_left
 ·have hc : ((i : Int) < (rs.length : Int)) = False := by simp; omega
  have : i = rs.length := by omega
  subst this
  rw [List.drop_length] at hcl
  simp only [FS, ↓RE, okR, argEnv, Nat.reduceAdd, Nat.reduceSub, Nat.reduceLT, Nat.reduceLeDiff, Nat.reduceEqDiff, reduceIte, hc, decide_false, hcl, outer, List.length_map]
  rfl
 have hc : ((i : Int) < (rs.length : Int)) = True := by simp [hlt]
 obtain ⟨r, hr⟩ : ∃ r, rs[i]? = some r := ⟨rs[i], by simp [hlt]⟩
 obtain ⟨hmin, hv, _⟩ := hrs r (List.mem_of_getElem? hr)
 have hix := fun h => ix_rd Fz.und_25 Fz.size_115 hr h
 rw [drop_at hr] at hcl
 simp only [outer] at hcl
 have w4 := wrap_i64 (z := (i : Int) + 1) (by omega) (by omega)
 cases h1 : decide (c < r.lo)
 rotate_left
 ·simp only [FS, ↓RE, okR, argEnv, Nat.reduceAdd, Nat.reduceSub, Nat.reduceLT, Nat.reduceLeDiff, Nat.reduceEqDiff, reduceIte, hix, hc, decide_true, h1, List.length_map]
  rw [hcl, show single ⟨a, b, c, rs⟩ r = true by simp [single, of_decide_eq_true h1]]
  rfl
 cases h2 : decide (r.hi < b)
 rotate_left
 ·simp only [FS, ↓RE, okR, argEnv, Nat.reduceAdd, Nat.reduceSub, Nat.reduceLT, Nat.reduceLeDiff, Nat.reduceEqDiff, reduceIte, hix, hc, decide_true, h1, h2, List.length_map]
  rw [hcl, show single ⟨a, b, c, rs⟩ r = true by simp [single, of_decide_eq_true h2]]
  rfl
 have hs : single ⟨a, b, c, rs⟩ r = false := by simp [single, of_decide_eq_false h1, of_decide_eq_false h2]
 rw [hs] at hcl
 simp only [FS, ↓RE, okR, argEnv, Nat.reduceAdd, Nat.reduceSub, Nat.reduceLT, Nat.reduceLeDiff, Nat.reduceEqDiff, reduceIte, hix, hc, decide_true, h1, h2, w4, List.length_map]
 refine loopV (ι := Nat) o5_ok [(11, [(9, false, false, [])])] (fun j => [(1, .ptr 0 0), (5, .int .i64 (i : Int)), (6, .ptr 1 0), (7, .int .i64 (j : Int))])
  (fun j => [(1, .box [.int .i64 r.minute, .int .i64 r.lo, .int .i64 r.hi, .int .i64 r.src]), (0, .box [.int .i64 a, .int .i64 b, .int .i64 c, .sl (rs.map Rd.d)])]) 2
  (fun j => j ≤ rs.length ∧ inner ⟨a, b, c, rs⟩ r (rs.drop (i + 1)) (i + 1) = inner ⟨a, b, c, rs⟩ r (rs.drop j) j) (fun j => rs.length - j) (i + 1) (by kernel_rfl) (by kernel_rfl) ⟨by omega, rfl⟩ ?_ ?_
 ·simp [headW, heapW, envW, blkLt, D.ltL, D.lt, look, hget]
 rintro j ⟨hjl, hin⟩
 rcases Nat.lt_or_ge j rs.length with hjt | hjge
 rotate_left
 ·have hc2 : ((j : Int) < (rs.length : Int)) = False := by simp; omega
  have : j = rs.length := by omega
  subst this
  rw [List.drop_length] at hin
  rw [hin] at hcl
  simp only [FS, ↓RE, okR, argEnv, Nat.reduceAdd, Nat.reduceSub, Nat.reduceLT, Nat.reduceLeDiff, Nat.reduceEqDiff, reduceIte, hc2, decide_false, List.length_map, w4]
  exact ⟨i + 1, ⟨by omega, by simpa [inner] using hcl⟩, by omega, by simp [headW, heapW, envW, blkLt, D.ltL, D.lt, look, hget]⟩
 have hc2 : ((j : Int) < (rs.length : Int)) = True := by simp [hjt]
 obtain ⟨q, hq⟩ : ∃ q, rs[j]? = some q := ⟨rs[j], by simp [hjt]⟩
 obtain ⟨hmin2, hv2, _⟩ := hrs q (List.mem_of_getElem? hq)
 have hix2 := fun h => ix_rd Fz.und_25 Fz.size_115 hq h
 have hfar := gFar_eq (x := r.minute) (y := q.minute) (by omega)
 have hb : 0 ≤ bFar r.minute q.minute ∧ bFar r.minute q.minute ≤ 1440 := by simp only [bFar]; omega
 have hp : 0 ≤ a * bFar r.minute q.minute ∧ a * bFar r.minute q.minute ≤ 1000 * 1440 :=
  ⟨Int.mul_nonneg hrate.1 hb.1, Int.mul_le_mul hrate.2 hb.2 hb.1 (by omega)⟩
 have w1 := wrap_i64 (z := a * bFar r.minute q.minute) (by omega) (by omega)
 have w2 := wrap_i64 (z := r.lo - q.hi) (by omega) (by omega)
 have w3 := wrap_i64 (z := q.lo - r.hi) (by omega) (by omega)
 have w5 := wrap_i64 (z := (j : Int) + 1) (by omega) (by omega)
 rw [drop_at hq] at hin
 simp only [inner] at hin
 cases h5 : decide (a * bFar r.minute q.minute < r.lo - q.hi)
 rotate_left
 ·have hpr : pairB ⟨a, b, c, rs⟩ r q = true := by have := of_decide_eq_true h5; simp only [pairB, decide_eq_true_eq]; omega
  rw [hpr] at hin
  simp only [FS, ↓RE, okR, argEnv, Nat.reduceAdd, Nat.reduceSub, Nat.reduceLT, Nat.reduceLeDiff, Nat.reduceEqDiff, reduceIte, hc2, decide_true, List.length_map, hix2, hfar, w1, w2, w3, w5, h5]
  rw [hcl, hin]; rfl
 cases h6 : decide (a * bFar r.minute q.minute < q.lo - r.hi)
 ·have hpr : pairB ⟨a, b, c, rs⟩ r q = false := by have := of_decide_eq_false h5; have := of_decide_eq_false h6; simp only [pairB, decide_eq_false_iff_not]; omega
  rw [hpr] at hin
  simp only [FS, ↓RE, okR, argEnv, Nat.reduceAdd, Nat.reduceSub, Nat.reduceLT, Nat.reduceLeDiff, Nat.reduceEqDiff, reduceIte, hc2, decide_true, List.length_map, hix2, hfar, w1, w2, w3, w5, h5, h6]
  exact ⟨j + 1, ⟨by omega, by simpa using hin⟩, by omega, by simp [headW, heapW, envW, blkLt, D.ltL, D.lt, look, hget]⟩
 ·have hpr : pairB ⟨a, b, c, rs⟩ r q = true := by have := of_decide_eq_true h6; simp only [pairB, decide_eq_true_eq]; omega
  rw [hpr] at hin
  simp only [FS, ↓RE, okR, argEnv, Nat.reduceAdd, Nat.reduceSub, Nat.reduceLT, Nat.reduceLeDiff, Nat.reduceEqDiff, reduceIte, hc2, decide_true, List.length_map, hix2, hfar, w1, w2, w3, w5, h5, h6]
  rw [hcl, hin]; rfl
end Go.Sx

namespace Go.Sx
open Go.Proofs
def orD : Oracle := oNone
theorem orD_ok : OkO Tryz.prog orD := oNone_ok
def orC : CallE := fun _ _ _ _ => none
theorem orC_ok : OkCall Tryz.prog orC := fun _ _ _ _ _ _ _ e => by cases e
end Go.Sx

namespace Go.Sx
open Go.Proofs
set_option maxRecDepth 10000

abbrev o6 : List (FuncId × (List D → Option D)) := o5

theorem o6_ok : OkO Tryz.prog (mkO o6) :=  o5_ok

end Go.Sx

namespace Go.Sx
open Go.Proofs
set_option maxRecDepth 10000

def gGk (k : Ga → D) : List D → Option D
 | [.agg [.int .i64 a, .int .i64 b, .int .i64 c, .sl es]] => match decRds es with
  | some rs => if gaOk ⟨a, b, c, rs⟩ = true then some (k ⟨a, b, c, rs⟩) else none
  | none => none
 | _ => none
theorem gGk_eq {k : Ga → D} {a b c : Int} {rs : List Rd} (h : gaOk ⟨a, b, c, rs⟩ = true) : gGk k [.agg [.int .i64 a, .int .i64 b, .int .i64 c, .sl (rs.map Rd.d)]] = some (k ⟨a, b, c, rs⟩) := by
 simp only [gGk, decRds_map]; rw [if_pos h]
theorem gGk_inv {k : Ga → D} {ds : List D} {r : D} (h : gGk k ds = some r) : ∃ g : Ga, gaOk g = true ∧ ds = [.agg g.c] ∧ r = k g := by
 unfold gGk at h
 split at h
 ·split at h
  ·rename_i rs hrs
   split at h
   ·rename_i hc
    cases h
    exact ⟨⟨_, _, _, rs⟩, hc, by rw [decRds_inv hrs]; rfl, rfl⟩
   ·cases h
  ·cases h
 ·cases h

abbrev o7 : List (FuncId × (List D → Option D)) := (29, gAt) :: (13, gAt) :: (59, gGk fun g => clD (clashG g)) :: (43, gGk fun g => clD (clashG g)) :: o6

theorem o7_ok : OkO Tryz.prog (mkO o7) := 
 mkO_ok (fun ds r h => by obtain ⟨a, b, c, rs, t, h', rfl, rfl⟩ := gAt_inv h; exact at_t a b c t rs h') <|
 mkO_ok (fun ds r h => by obtain ⟨a, b, c, rs, t, h', rfl, rfl⟩ := gAt_inv h; exact rAt_t a b c t rs h') <|
 mkO_ok (fun ds r h => by obtain ⟨g, h', rfl, rfl⟩ := gGk_inv h; exact clash_t g h') <|
 mkO_ok (fun ds r h => by obtain ⟨g, h', rfl, rfl⟩ := gGk_inv h; exact rClash_t g h') <| o6_ok

theorem runs_t (g : Ga) (hga : gaOk g = true) : Pure Tryz.prog 25 [.agg g.c] (.bool (!(clashG g).2.2)) := by
 obtain ⟨a, b, c, rs⟩ := g
 simp only [Ga.c]
 refine pure_of_wc (rs := [.tmp 2]) (m := 14) [] o7_ok (by kernel_rfl) Tryz.func25 rfl (by kernel_rfl) rfl rfl (by kernel_rfl) ?_
 simp only [FS, ↓RE, okR, argEnv, Nat.reduceAdd, Nat.reduceSub, Nat.reduceLT, Nat.reduceLeDiff, Nat.reduceEqDiff, reduceIte, gGk_eq hga, clD, ex_tup]

abbrev o8 : List (FuncId × (List D → Option D)) := (25, gGk fun g => .bool (!(clashG g).2.2)) :: o7

theorem o8_ok : OkO Tryz.prog (mkO o8) := 
 mkO_ok (fun ds r h => by obtain ⟨g, h', rfl, rfl⟩ := gGk_inv h; exact runs_t g h') <| o7_ok

end Go.Sx

namespace Go.Sx
open Go.Proofs
set_option maxRecDepth 10000
end Go.Sx

namespace Go.Sx

theorem atG_lo (c t v : Int) : ∀ (rs : List Rd) (lo hi : Int), (atG c lo hi rs t).1 ≤ v ↔ lo ≤ v ∧ ∀ r ∈ rs, r.lo - c * bFar r.minute t ≤ v
 | [], lo, hi => by simp [atG]
 | r :: rs, lo, hi => by
  have h := atG_lo c t v rs (max lo (r.lo - c * bFar r.minute t)) (min hi (r.hi + c * bFar r.minute t))
  have e : atG c lo hi (r :: rs) t = atG c (max lo (r.lo - c * bFar r.minute t)) (min hi (r.hi + c * bFar r.minute t)) rs t := rfl
  rw [e, h]
  simp only [List.mem_cons, forall_eq_or_imp]
  constructor
  ·rintro ⟨h1, h2⟩; exact ⟨by omega, by omega, h2⟩
  ·rintro ⟨h1, h2, h3⟩; exact ⟨by omega, h3⟩
theorem atG_hi (c t v : Int) : ∀ (rs : List Rd) (lo hi : Int), v ≤ (atG c lo hi rs t).2 ↔ v ≤ hi ∧ ∀ r ∈ rs, v ≤ r.hi + c * bFar r.minute t
 | [], lo, hi => by simp [atG]
 | r :: rs, lo, hi => by
  have h := atG_hi c t v rs (max lo (r.lo - c * bFar r.minute t)) (min hi (r.hi + c * bFar r.minute t))
  have e : atG c lo hi (r :: rs) t = atG c (max lo (r.lo - c * bFar r.minute t)) (min hi (r.hi + c * bFar r.minute t)) rs t := rfl
  rw [e, h]
  simp only [List.mem_cons, forall_eq_or_imp]
  constructor
  ·rintro ⟨h1, h2⟩; exact ⟨by omega, by omega, h2⟩
  ·rintro ⟨h1, h2, h3⟩; exact ⟨by omega, h3⟩

theorem far_nonneg (c x y : Int) (hc : 0 ≤ c) : 0 ≤ c * bFar x y := Int.mul_nonneg hc (by simp only [bFar]; omega)

end Go.Sx

namespace Go.Sx
open Go.Proofs
set_option maxRecDepth 10000

abbrev o9 : List (FuncId × (List D → Option D)) := o8

theorem o9_ok : OkO Tryz.prog (mkO o9) :=  o8_ok

end Go.Sx
