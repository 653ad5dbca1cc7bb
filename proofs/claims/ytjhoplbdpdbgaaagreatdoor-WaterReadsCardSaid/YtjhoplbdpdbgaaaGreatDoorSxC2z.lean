/- Own work: contracts of functions, used in the proof of a law. -/
import Derived.Test.YtjhoplbdpdbgaaaGreatDoorSxC1z
set_option linter.unusedVariables false
set_option linter.unusedSimpArgs false
namespace Go.Sx
open Go.Proofs
set_option maxRecDepth 10000

structure Rd where
 minute : Int
 lo : Int
 hi : Int
 src : Int
def Rd.d (r : Rd) : List D := [.int .i64 r.minute, .int .i64 r.lo, .int .i64 r.hi, .int .i64 r.src]
def decRd : List D → Option Rd
 | [.int .i64 a, .int .i64 b, .int .i64 c, .int .i64 d] => some ⟨a, b, c, d⟩
 | _ => none
def decRds : List (List D) → Option (List Rd)
 | [] => some []
 | e :: r => match decRd e, decRds r with
  | some x, some l => some (x :: l)
  | _, _ => none
theorem decRds_map : ∀ l : List Rd, decRds (l.map Rd.d) = some l
 | [] => rfl
 | x :: l => by simp only [List.map_cons, decRds, decRds_map l]; rfl
theorem decRds_inv : ∀ {es : List (List D)} {l : List Rd}, decRds es = some l → es = l.map Rd.d
 | [], l, h => by cases h; rfl
 | e :: r, l, h => by
  simp only [decRds] at h
  split at h
  ·rename_i x l' h1 h2
   cases h
   rw [List.map_cons, ← decRds_inv h2]
   unfold decRd at h1
   split at h1
   ·cases h1; rfl
   ·cases h1
  ·cases h

structure Ga where
 rate : Int
 least : Int
 most : Int
 rs : List Rd
def Ga.c (g : Ga) : List D := [.int .i64 g.rate, .int .i64 g.least, .int .i64 g.most, .sl (g.rs.map Rd.d)]

def rdOk (r : Rd) : Bool := bIn r.minute 0 1440 && (bSpan r.lo r.hi (-100000) 100000 && bIn r.src 0 7)
def gaOk (g : Ga) : Bool := g.rs.all rdOk && (bIn g.rate 0 1000 && (bSpan g.least g.most (-100000) 100000 && decide (g.rs.length ≤ 30)))

theorem ix_rd {t : TypeId} {e : TypeId} (hu : (Tryz.prog).underlying t = some (.slice e)) (hs : sizeT Tryz.prog e = some 4) {rs : List Rd} {i : Nat} {r : Rd} (hr : rs[i]? = some r) (h : H) :
  indexAddrD Tryz.prog h t (.sl (rs.map Rd.d)) (.int .i64 (i : Int)) = some (.ref [.int .i64 r.minute, .int .i64 r.lo, .int .i64 r.hi, .int .i64 r.src] 0) :=
 ix_sl hu hs (c := r.d) (by simp [hr]) rfl h .i64

theorem all_take {α : Type} {p : α → Bool} {l : List α} {i : Nat} {x : α} (hx : l[i]? = some x) (h : (l.take i).all p = true) (hp : p x = true) : (l.take (i + 1)).all p = true := by
 rw [List.take_add_one, hx]; simp [h, hp]
theorem all_not {α : Type} {p : α → Bool} {l : List α} {i : Nat} {x : α} (hx : l[i]? = some x) (hp : p x = false) : l.all p = false := by
 rw [List.all_eq_false]; exact ⟨x, List.mem_of_getElem? hx, by simp [hp]⟩

theorem gauge_t (g : Ga) (hl : g.rs.length ≤ 9223372036854775807) : Pure Tryz.prog 88 [.agg g.c] (.bool (gaOk g)) := by
 obtain ⟨a, b, c, rs⟩ := g
 dsimp only at hl
 simp only [Ga.c]
 refine pure_of_wc (rs := [.tmp 2]) (m := 46) [] (o1_ok) (by kernel_rfl) Tryz.func88 rfl (by kernel_rfl) rfl rfl (by kernel_rfl) ?_
 simp only [FS, ↓RE, okR, argEnv, Nat.reduceAdd, Nat.reduceSub, Nat.reduceLT, Nat.reduceLeDiff, Nat.reduceEqDiff, reduceIte]
 rw [List.length_map]
 refine loopV (ι := Nat) o1_ok [] (fun i => [(1, .ptr 0 0), (6, .sl (rs.map Rd.d)), (7, .int .i64 (rs.length : Int)), (8, .int .i64 (i : Int))])
  (fun i => [(0, .box [.int .i64 a, .int .i64 b, .int .i64 c, .sl (rs.map Rd.d)])]) 1 (fun i => i ≤ rs.length ∧ (rs.take i).all rdOk = true) (fun i => rs.length - i) 0 (by kernel_rfl) (by kernel_rfl) ⟨Nat.zero_le _, by simp⟩ ?_ ?_
 ·simp [headW, heapW, envW, blkLt, D.ltL, D.lt, look, hget]
 rintro i ⟨hil, hok⟩
 rcases Nat.lt_or_ge i rs.length with hlt | hge
 ·have hc : ((i : Int) < (rs.length : Int)) = True := by simp [hlt]
  obtain ⟨r, hr⟩ : ∃ r, rs[i]? = some r := ⟨rs[i], by simp [hlt]⟩
  have hix := fun h => ix_rd Fz.und_25 Fz.size_75 hr h
  have hw := wrap_i64 (z := (i : Int) + 1) (by omega) (by omega)
  simp only [FS, ↓RE, okR, argEnv, Nat.reduceAdd, Nat.reduceSub, Nat.reduceLT, Nat.reduceLeDiff, Nat.reduceEqDiff, reduceIte, hix, hc, decide_true, gIn_eq, gSpan_eq, hw]
  have hg : rdOk r = false → gaOk ⟨a, b, c, rs⟩ = false := fun hp => by simp [gaOk, all_not hr hp]
  cases h1 : bIn r.minute 0 1440
  ·simp [BR, hg (by simp [rdOk, h1])]
  cases h2 : bSpan r.lo r.hi (-100000) 100000
  ·simp [BR, hg (by simp [rdOk, h2])]
  cases h3 : bIn r.src 0 7
  ·simp [BR, hg (by simp [rdOk, h3])]
  simp only [Bool.not_true, BR_false]
  exact ⟨i + 1, ⟨by omega, all_take hr hok (by simp [rdOk, h1, h2, h3])⟩, by omega, by simp [headW, heapW, envW, blkLt, D.ltL, D.lt, look, hget]⟩
 ·have hc : ((i : Int) < (rs.length : Int)) = False := by simp; omega
  have : i = rs.length := by omega
  subst this
  rw [List.take_length] at hok
  simp only [FS, ↓RE, okR, argEnv, Nat.reduceAdd, Nat.reduceSub, Nat.reduceLT, Nat.reduceLeDiff, Nat.reduceEqDiff, reduceIte, hc, decide_false, gIn_eq, gSpan_eq, List.length_map]
  have hn : ((rs.length : Int) ≤ 30) ↔ rs.length ≤ 30 := by omega
  cases h1 : bIn a 0 1000 <;> cases h2 : bSpan b c (-100000) 100000 <;> simp [BR, gaOk, hok, h1, h2, hn]

theorem rgauge_t (g : Ga) (hl : g.rs.length ≤ 9223372036854775807) : Pure Tryz.prog 136 [.agg g.c] (.bool (gaOk g)) := by
 obtain ⟨a, b, c, rs⟩ := g
 dsimp only at hl
 simp only [Ga.c]
 refine pure_of_wc (rs := [.tmp 2]) (m := 50) [] (o1_ok) (by kernel_rfl) Tryz.func136 rfl (by kernel_rfl) rfl rfl (by kernel_rfl) ?_
 simp only [FS, ↓RE, okR, argEnv, Nat.reduceAdd, Nat.reduceSub, Nat.reduceLT, Nat.reduceLeDiff, Nat.reduceEqDiff, reduceIte]
 refine loopV (ι := Nat) o1_ok [] (fun i => [(1, .ptr 0 0), (3, .int .i64 (i : Int))])
  (fun i => [(0, .box [.int .i64 a, .int .i64 b, .int .i64 c, .sl (rs.map Rd.d)])]) 1 (fun i => i ≤ rs.length ∧ (rs.take i).all rdOk = true) (fun i => rs.length - i) 0 (by kernel_rfl) (by kernel_rfl) ⟨Nat.zero_le _, by simp⟩ ?_ ?_
 ·simp [headW, heapW, envW, blkLt, D.ltL, D.lt, look, hget]
 rintro i ⟨hil, hok⟩
 rcases Nat.lt_or_ge i rs.length with hlt | hge
 ·have hc : ((i : Int) < (rs.length : Int)) = True := by simp [hlt]
  obtain ⟨r, hr⟩ : ∃ r, rs[i]? = some r := ⟨rs[i], by simp [hlt]⟩
  have hix := fun h => ix_rd Fz.und_25 Fz.size_75 hr h
  have hw := wrap_i64 (z := (i : Int) + 1) (by omega) (by omega)
  simp only [FS, ↓RE, okR, argEnv, Nat.reduceAdd, Nat.reduceSub, Nat.reduceLT, Nat.reduceLeDiff, Nat.reduceEqDiff, reduceIte, hix, hc, decide_true, gIn_eq, gSpan_eq, hw, List.length_map]
  have hg : rdOk r = false → gaOk ⟨a, b, c, rs⟩ = false := fun hp => by simp [gaOk, all_not hr hp]
  cases h1 : bIn r.minute 0 1440
  ·simp [BR, hg (by simp [rdOk, h1])]
  cases h2 : bSpan r.lo r.hi (-100000) 100000
  ·simp [BR, hg (by simp [rdOk, h2])]
  cases h3 : bIn r.src 0 7
  ·simp [BR, hg (by simp [rdOk, h3])]
  simp only [Bool.not_true, BR_false]
  exact ⟨i + 1, ⟨by omega, all_take hr hok (by simp [rdOk, h1, h2, h3])⟩, by omega, by simp [headW, heapW, envW, blkLt, D.ltL, D.lt, look, hget]⟩
 ·have hc : ((i : Int) < (rs.length : Int)) = False := by simp; omega
  have : i = rs.length := by omega
  subst this
  rw [List.take_length] at hok
  simp only [FS, ↓RE, okR, argEnv, Nat.reduceAdd, Nat.reduceSub, Nat.reduceLT, Nat.reduceLeDiff, Nat.reduceEqDiff, reduceIte, hc, decide_false, gIn_eq, gSpan_eq, List.length_map]
  have hn : ((rs.length : Int) ≤ 30) ↔ rs.length ≤ 30 := by omega
  cases h1 : bIn a 0 1000 <;> cases h2 : bSpan b c (-100000) 100000 <;> simp [BR, gaOk, hok, h1, h2, hn]

theorem short_t (g : Ga) : Pure Tryz.prog 47 [.agg g.c] (.bool (decide (g.rs.length ≤ 40))) := by
 obtain ⟨a, b, c, rs⟩ := g
 simp only [Ga.c]
 refine pure_of_wc (rs := [.tmp 2]) (m := 7) [] oNone_ok (by kernel_rfl) Tryz.func47 rfl (by kernel_rfl) rfl rfl (by kernel_rfl) ?_
 simp only [FS, ↓RE, okR, argEnv, Nat.reduceAdd, Nat.reduceSub, Nat.reduceLT, Nat.reduceLeDiff, Nat.reduceEqDiff, reduceIte]
 have hn : ((rs.length : Int) ≤ 40) ↔ rs.length ≤ 40 := by omega
 simp [hn]

def gGa (k : Ga → D) : List D → Option D
 | [.agg [.int .i64 a, .int .i64 b, .int .i64 c, .sl es]] => match decRds es with
  | some rs => if rs.length ≤ 9223372036854775807 then some (k ⟨a, b, c, rs⟩) else none
  | none => none
 | _ => none
theorem gGa_eq (k : Ga → D) (a b c : Int) {rs : List Rd} (hl : rs.length ≤ 9223372036854775807) : gGa k [.agg [.int .i64 a, .int .i64 b, .int .i64 c, .sl (rs.map Rd.d)]] = some (k ⟨a, b, c, rs⟩) := by
 simp [gGa, decRds_map, hl]
theorem gGa_inv {k : Ga → D} {ds : List D} {r : D} (h : gGa k ds = some r) : ∃ g : Ga, g.rs.length ≤ 9223372036854775807 ∧ ds = [.agg g.c] ∧ r = k g := by
 unfold gGa at h
 split at h
 ·split at h
  ·rename_i rs hrs
   split at h
   ·rename_i hl
    cases h
    refine ⟨⟨_, _, _, rs⟩, hl, ?_, rfl⟩
    rw [decRds_inv hrs]; rfl
   ·cases h
  ·cases h
 ·cases h

abbrev o2 : List (FuncId × (List D → Option D)) := (88, gGa fun g => .bool (gaOk g)) :: (136, gGa fun g => .bool (gaOk g)) :: (47, gGa fun g => .bool (decide (g.rs.length ≤ 40))) :: o1
theorem o2_ok : OkO Tryz.prog (mkO o2) :=
 mkO_ok (fun ds r h => by obtain ⟨g, hl, rfl, rfl⟩ := gGa_inv h; exact gauge_t g hl) <|
 mkO_ok (fun ds r h => by obtain ⟨g, hl, rfl, rfl⟩ := gGa_inv h; exact rgauge_t g hl) <|
 mkO_ok (fun ds r h => by obtain ⟨g, hl, rfl, rfl⟩ := gGa_inv h; exact short_t g) o1_ok

abbrev o5 : List (FuncId × (List D → Option D)) := o2
theorem o5_ok : OkO Tryz.prog (mkO o5) := o2_ok
end Go.Sx
