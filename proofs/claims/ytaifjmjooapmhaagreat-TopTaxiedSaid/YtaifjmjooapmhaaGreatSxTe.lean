/- Own work: a calculus of contracts for the programs of this kit: parts SxE1t, SxE2t, SxE3t, SxE4t, SxE5t, SxE6t, SxE7t, SxE8t, SxE0t, SxE9t, SxE10t, SxE11t. -/
import Derived.Test.YtaifjmjooapmhaaGreatSxFtt
import Derived.Test.YtaifjmjooapmhaaGreatSxMg
set_option linter.unusedVariables false
set_option linter.unusedSimpArgs false
namespace Go.Sx.E
open Go.Proofs
set_option maxRecDepth 10000

def rI (x lo hi : Int) : Bool := decide (lo ≤ x) && decide (x ≤ hi)
def rS (a b lo hi : Int) : Bool := decide (lo ≤ a) && (decide (a ≤ b) && decide (b ≤ hi))
def gI3 : List D → Option D
 | [.int .i64 x, .int .i64 lo, .int .i64 hi] => some (.bool (rI x lo hi))
 | _ => none
theorem gI3_eq (x lo hi : Int) : gI3 [.int .i64 x, .int .i64 lo, .int .i64 hi] = some (.bool (rI x lo hi)) := (rfl)
theorem gI3_inv {ds : List D} {r : D} (h : gI3 ds = some r) : ∃ x lo hi, ds = [.int .i64 x, .int .i64 lo, .int .i64 hi] ∧ r = .bool (rI x lo hi) := by
 unfold gI3 at h
 split at h
 ·cases h; exact ⟨_, _, _, rfl, rfl⟩
 ·cases h
def gS3 : List D → Option D
 | [.agg [.int .i64 a, .int .i64 b], .int .i64 lo, .int .i64 hi] => some (.bool (rS a b lo hi))
 | _ => none
theorem gS3_eq (a b lo hi : Int) : gS3 [.agg [.int .i64 a, .int .i64 b], .int .i64 lo, .int .i64 hi] = some (.bool (rS a b lo hi)) := (rfl)
theorem gS3_inv {ds : List D} {r : D} (h : gS3 ds = some r) : ∃ a b lo hi, ds = [.agg [.int .i64 a, .int .i64 b], .int .i64 lo, .int .i64 hi] ∧ r = .bool (rS a b lo hi) := by
 unfold gS3 at h
 split at h
 ·cases h; exact ⟨_, _, _, _, rfl, rfl⟩
 ·cases h

theorem run_in_t (x lo hi : Int) : Pure Tryz.prog 62 [.int .i64 x, .int .i64 lo, .int .i64 hi] (.bool (rI x lo hi)) := by
 refine pure_of_wc (rs := [.tmp 6]) (m := 15) [] oNone_ok (by kernel_rfl) Tryz.func62 rfl (by kernel_rfl) rfl rfl (by kernel_rfl) ?_
 simp only [FS, ↓RE, okR, argEnv, Nat.reduceAdd, Nat.reduceSub, Nat.reduceLT, Nat.reduceLeDiff, Nat.reduceEqDiff, reduceIte]
 cases h1 : decide (lo ≤ x) <;> cases h2 : decide (x ≤ hi) <;> simp [BR, rI, h1, h2]
theorem run_span_t (a b lo hi : Int) : Pure Tryz.prog 79 [.agg [.int .i64 a, .int .i64 b], .int .i64 lo, .int .i64 hi] (.bool (rS a b lo hi)) := by
 refine pure_of_wc (rs := [.tmp 6]) (m := 24) [] oNone_ok (by kernel_rfl) Tryz.func79 rfl (by kernel_rfl) rfl rfl (by kernel_rfl) ?_
 simp only [FS, ↓RE, okR, argEnv, Nat.reduceAdd, Nat.reduceSub, Nat.reduceLT, Nat.reduceLeDiff, Nat.reduceEqDiff, reduceIte]
 cases h1 : decide (lo ≤ a) <;> cases h2 : decide (a ≤ b) <;> cases h3 : decide (b ≤ hi) <;> simp [BR, rS, h1, h2, h3]
theorem ref_Span_t (a b lo hi : Int) : Pure Tryz.prog 40 [.agg [.int .i64 a, .int .i64 b], .int .i64 lo, .int .i64 hi] (.bool (rS a b lo hi)) := by
 refine pure_of_wc (rs := [.tmp 6]) (m := 24) [] oNone_ok (by kernel_rfl) Tryz.func40 rfl (by kernel_rfl) rfl rfl (by kernel_rfl) ?_
 simp only [FS, ↓RE, okR, argEnv, Nat.reduceAdd, Nat.reduceSub, Nat.reduceLT, Nat.reduceLeDiff, Nat.reduceEqDiff, reduceIte]
 cases h1 : decide (lo ≤ a) <;> cases h2 : decide (a ≤ b) <;> cases h3 : decide (b ≤ hi) <;> simp [BR, rS, h1, h2, h3]

abbrev e1 : List (FuncId × (List D → Option D)) := [(62, gI3), (79, gS3), (40, gS3)]

theorem e1_ok : OkO Tryz.prog (mkO e1) := 
 mkO_ok (fun ds r h => by obtain ⟨x, lo, hi, rfl, rfl⟩ := gI3_inv h; exact run_in_t x lo hi) <|
 mkO_ok (fun ds r h => by obtain ⟨a, b, lo, hi, rfl, rfl⟩ := gS3_inv h; exact run_span_t a b lo hi) <|
 mkO_ok (fun ds r h => by obtain ⟨a, b, lo, hi, rfl, rfl⟩ := gS3_inv h; exact ref_Span_t a b lo hi) <| mkO_ok_nil

structure RRow where
 w : Int
 m : Int
 deriving DecidableEq
def RRow.d (r : RRow) : List D := [.int .i64 r.w, .int .i64 r.m]
def decRow : List D → Option RRow
 | [.int .i64 a, .int .i64 b] => some ⟨a, b⟩
 | _ => none
def enR : En RRow where
 d := RRow.d
 dec := decRow
 h1 _ := rfl
 h2 c a h := by
  unfold decRow at h
  split at h
  ·cases h; rfl
  ·cases h
 sz := 2
 hsz _ := rfl

def rowStep (sg : Int) : Option RRow → RRow → Bool
 | none, _ => true
 | some p, r => decide (p.w < r.w) && decide (0 ≤ sg * (r.m - p.m))
def rowsOk (sg : Int) : Option RRow → List RRow → Bool
 | _, [] => true
 | p, r :: l => rI r.w 0 100000 && (rI r.m 0 20000 && (rowStep sg p r && rowsOk sg (some r) l))
def tabB (sg : Int) (l : List RRow) : Bool := rowsOk sg none l && rI l.length 1 12
def rowAt (l : List RRow) : Nat → Option RRow
 | 0 => none
 | i + 1 => l[i]?
theorem rowsOk_at {sg : Int} {l : List RRow} {i : Nat} {r : RRow} (hr : l[i]? = some r) : rowsOk sg (rowAt l i) (l.drop i) = (rI r.w 0 100000 && (rI r.m 0 20000 && (rowStep sg (rowAt l i) r && rowsOk sg (rowAt l (i + 1)) (l.drop (i + 1))))) := by
 have hi : i < l.length := lt_of_getElem? hr
 rw [List.drop_eq_getElem_cons hi]
 have : l[i] = r := by rw [List.getElem?_eq_getElem hi] at hr; exact Option.some.inj hr
 rw [this]
 simp only [rowsOk, rowAt, hr]
end Go.Sx.E

namespace Go.Sx.E
open Go.Proofs
set_option maxRecDepth 10000

theorem run_table_t (sg : Int) (hs : sg = 1 ∨ sg = -1) (l : List RRow) (hl : l.length ≤ 9223372036854775807) : Pure Tryz.prog 78 [.sl (l.map RRow.d), .int .i64 sg] (.bool (tabB sg l)) := by
 refine pure_of_wc (rs := [.tmp 4]) (m := 55) [(6, [(27, false, false, [])])] e1_ok (by kernel_rfl) Tryz.func78 rfl (by kernel_rfl) rfl rfl (by kernel_rfl) ?_
 simp only [FS, ↓RE, okR, argEnv, Nat.reduceAdd, Nat.reduceSub, Nat.reduceLT, Nat.reduceLeDiff, Nat.reduceEqDiff, reduceIte]
 rw [List.length_map]
 refine loopV (ι := Nat) e1_ok [(6, [(27, false, false, [])])] (fun i => [(0, .sl (l.map RRow.d)), (1, .int .i64 sg), (7, .sl (l.map RRow.d)), (8, .int .i64 (l.length : Int)), (9, .int .i64 (i : Int))])
  (fun i => []) 0 (fun i => i ≤ l.length ∧ rowsOk sg none l = rowsOk sg (rowAt l i) (l.drop i) ∧ ∀ p, rowAt l i = some p → 0 ≤ p.m ∧ p.m ≤ 20000) (fun i => l.length - i) 0 (by kernel_rfl) (by kernel_rfl)
  ⟨Nat.zero_le _, by simp [rowAt], fun p hp => by simp [rowAt] at hp⟩ ?_ ?_
 ·simp [headW, heapW, envW, blkLt, D.ltL, D.lt, look, hget]
 rintro i ⟨hil, hok, hpv⟩
 rcases Nat.lt_or_ge i l.length with hlt | hge
 rotate_left
 ·have hc : ((i : Int) < (l.length : Int)) = False := by simp; omega
  have : i = l.length := by omega
  subst this
  simp only [FS, ↓RE, okR, argEnv, Nat.reduceAdd, Nat.reduceSub, Nat.reduceLT, Nat.reduceLeDiff, Nat.reduceEqDiff, reduceIte, hc, decide_false, gI3_eq, List.length_map]
  simp [tabB, hok, rowsOk]
 have hc : ((i : Int) < (l.length : Int)) = True := by simp [hlt]
 obtain ⟨r, hr⟩ : ∃ r, l[i]? = some r := ⟨l[i], by simp [hlt]⟩
 have hix := fun hp => En.ix (P := Tryz.prog) Fz.und_61 Fz.size_121 (E := enR) (En.sl_map (E := enR) l) hr hp .i64
 simp only [enR, RRow.d] at hix
 have hw := wrap_i64 (z := (i : Int) + 1) (by omega) (by omega)
 rw [rowsOk_at hr] at hok
 simp only [FS, ↓RE, okR, argEnv, Nat.reduceAdd, Nat.reduceSub, Nat.reduceLT, Nat.reduceLeDiff, Nat.reduceEqDiff, reduceIte, hix, hc, decide_true, gI3_eq, hw]
 cases h1 : rI r.w 0 100000
 ·simp [BR, tabB, hok, h1]
 cases h2 : rI r.m 0 20000
 ·simp [BR, tabB, hok, h1, h2]
 simp only [Bool.not_true, BR_false]
 have hm : 0 ≤ r.m ∧ r.m ≤ 20000 := by simpa [rI] using h2
 cases i with
 | zero =>
  have hz : (0 < ((0 : Nat) : Int)) = False := by simp
  simp only [FS, ↓RE, okR, argEnv, Nat.reduceAdd, Nat.reduceSub, Nat.reduceLT, Nat.reduceLeDiff, Nat.reduceEqDiff, reduceIte, hz, decide_false, hix, gI3_eq, hw]
  exact ⟨1, ⟨by omega, by simpa [h1, h2, rowStep, rowAt] using hok, fun p hp => by
   simp only [rowAt] at hp; rw [hr] at hp; cases hp; exact hm⟩, by omega, by simp [headW, heapW, envW, blkLt, D.ltL, D.lt, look, hget]⟩
 | succ j =>
  have hz : (0 < ((j + 1 : Nat) : Int)) = True := by simp
  obtain ⟨p, hp⟩ : ∃ p, l[j]? = some p := ⟨l[j]'(by omega), by simp⟩
  have hpm := hpv p hp
  have hw1 : IntKind.i64.wrap (((j + 1 : Nat) : Int) - 1) = (j : Int) := by rw [wrap_i64 (by omega) (by omega)]; omega
  have hw2 := wrap_i64 (z := r.m - p.m) (by omega) (by omega)
  have hw3 : IntKind.i64.wrap (sg * (r.m - p.m)) = sg * (r.m - p.m) := by
   rcases hs with rfl | rfl
   ·exact wrap_i64 (by omega) (by omega)
   ·exact wrap_i64 (by omega) (by omega)
  have hix2 := fun hq => En.ix (P := Tryz.prog) Fz.und_61 Fz.size_121 (E := enR) (En.sl_map (E := enR) l) hp hq .i64
  simp only [enR, RRow.d] at hix2
  have hstep : rowStep sg (rowAt l (j + 1)) r = (!decide (r.w ≤ p.w) && !decide (sg * (r.m - p.m) < 0)) := by
   simp only [rowAt, hp, rowStep]
   congr 1
   ·by_cases h : r.w ≤ p.w <;> simp [h] <;> omega
   ·by_cases h : sg * (r.m - p.m) < 0 <;> simp [h] <;> omega
  rw [hstep] at hok
  simp only [FS, ↓RE, okR, argEnv, Nat.reduceAdd, Nat.reduceSub, Nat.reduceLT, Nat.reduceLeDiff, Nat.reduceEqDiff, reduceIte, hz, decide_true, hix, hix2, gI3_eq, hw, hw1, hw2, hw3]
  cases h3 : decide (r.w ≤ p.w)
  rotate_left
  ·simp [BR, tabB, hok, h1, h2, h3]
  cases h4 : decide (sg * (r.m - p.m) < 0)
  rotate_left
  ·simp [BR, tabB, hok, h1, h2, h3, h4]
  simp only [BR_false]
  exact ⟨j + 1 + 1, ⟨by omega, by simpa [h1, h2, h3, h4] using hok, fun p hp => by
   simp only [rowAt] at hp; rw [hr] at hp; cases hp; exact hm⟩, by omega, by simp [headW, heapW, envW, blkLt, D.ltL, D.lt, look, hget]⟩

def gTb : List D → Option D
 | [.sl es, .int .i64 sg] => match enR.decL es with
  | some l => if (sg = 1 ∨ sg = -1) ∧ l.length ≤ 9223372036854775807 then some (.bool (tabB sg l)) else none
  | none => none
 | _ => none
theorem gTb_eq {sg : Int} (hs : sg = 1 ∨ sg = -1) {l : List RRow} (hl : l.length ≤ 9223372036854775807) : gTb [.sl (l.map RRow.d), .int .i64 sg] = some (.bool (tabB sg l)) := by
 have := En.decL_map (E := enR) l
 simp only [gTb, show enR.decL (l.map RRow.d) = some l from this, if_pos (And.intro hs hl)]
theorem gTb_inv {ds : List D} {r : D} (h : gTb ds = some r) : ∃ (l : List RRow) (sg : Int), (sg = 1 ∨ sg = -1) ∧ l.length ≤ 9223372036854775807 ∧ ds = [.sl (l.map RRow.d), .int .i64 sg] ∧ r = .bool (tabB sg l) := by
 unfold gTb at h
 split at h
 ·split at h
  ·rename_i l hl
   split at h
   ·rename_i hc
    cases h
    exact ⟨l, _, hc.1, hc.2, by rw [En.decL_inv (E := enR) hl]; rfl, rfl⟩
   ·cases h
  ·cases h
 ·cases h
abbrev e2 : List (FuncId × (List D → Option D)) := (78, gTb) :: e1

theorem e2_ok : OkO Tryz.prog (mkO e2) := 
 mkO_ok (fun ds r h => by obtain ⟨l, sg, hs, hl, rfl, rfl⟩ := gTb_inv h; exact run_table_t sg hs l hl) <| e1_ok

end Go.Sx.E

namespace Go.Sx.E
open Go.Proofs
set_option maxRecDepth 10000

structure Craft where
 off : List RRow
 on : List RRow
 glass : Int
 rough : Int
 gby : Int
 rby : Int
 head : Int
 tail : Int
 eng : Int
 fall : Int
 drag : Int
 ceil : List RRow
 sink : Int
def Craft.c (c : Craft) : List D := [.sl (c.off.map RRow.d), .sl (c.on.map RRow.d), .int .i64 c.glass, .int .i64 c.rough, .int .i64 c.gby, .int .i64 c.rby, .int .i64 c.head, .int .i64 c.tail, .int .i64 c.eng, .int .i64 c.fall, .int .i64 c.drag, .sl (c.ceil.map RRow.d), .int .i64 c.sink]
def craftB (c : Craft) : Bool :=
 tabB 1 c.off && (tabB 1 c.on && (rI c.glass 0 c.rough && (decide (c.rough ≤ 2000) && (rI c.gby 1000 5000 && (rI c.rby 1000 5000 && (rI c.head 0 50 && (rI c.tail 0 50 && (rI c.eng 1 2 && (rI c.fall 1 20000 && (rI c.drag 0 50 && (tabB (-1) c.ceil && rI c.sink 0 20000)))))))))))
structure CraftL (c : Craft) : Prop where
 off : c.off.length ≤ 9223372036854775807
 on : c.on.length ≤ 9223372036854775807
 ceil : c.ceil.length ≤ 9223372036854775807

theorem run_craft_t (c : Craft) (h : CraftL c) : Pure Tryz.prog 66 [.agg c.c] (.bool (craftB c)) := by
 have o1 := gTb_eq (sg := 1) (.inl rfl) h.off
 have o2 := gTb_eq (sg := 1) (.inl rfl) h.on
 have o3 := gTb_eq (sg := -1) (.inr rfl) h.ceil
 obtain ⟨off, on, glass, rough, gby, rby, hd, tl, eng, fall, drag, ceil, sink⟩ := c
 dsimp only at o1 o2 o3
 simp only [Craft.c, craftB]
 refine pure_of_wc (rs := [.tmp 2]) (m := 68) [] e2_ok (by kernel_rfl) Tryz.func66 rfl (by kernel_rfl) rfl rfl (by kernel_rfl) ?_
 simp only [List.append_eq, List.cons_append, List.nil_append]
 simp only [FS, ↓RE, okR, argEnv, Nat.reduceAdd, Nat.reduceSub, Nat.reduceLT, Nat.reduceLeDiff, Nat.reduceEqDiff, reduceIte, o1, o2, o3, gI3_eq]
 cases tabB 1 off
 ·simp [BR]
 cases tabB 1 on
 ·simp [BR]
 cases rI glass 0 rough
 ·simp [BR]
 cases decide (rough ≤ 2000)
 ·simp [BR]
 cases rI gby 1000 5000
 ·simp [BR]
 cases rI rby 1000 5000
 ·simp [BR]
 cases rI hd 0 50
 ·simp [BR]
 cases rI tl 0 50
 ·simp [BR]
 cases rI eng 1 2
 ·simp [BR]
 cases rI fall 1 20000
 ·simp [BR]
 cases rI drag 0 50
 ·simp [BR]
 cases tabB (-1) ceil <;> simp [BR]
structure SpI where
 lo : Int
 hi : Int
 deriving DecidableEq
def SpI.c (s : SpI) : List D := [.int .i64 s.lo, .int .i64 s.hi]
structure AirW where
 e : SpI
 n : SpI
def AirW.c (a : AirW) : List D := [.int .i64 a.e.lo, .int .i64 a.e.hi, .int .i64 a.n.lo, .int .i64 a.n.hi]
def airB (a : AirW) : Bool := rS a.e.lo a.e.hi (-300) 300 && rS a.n.lo a.n.hi (-300) 300
theorem run_air_t (a : AirW) : Pure Tryz.prog 67 [.agg a.c] (.bool (airB a)) := by
 obtain ⟨⟨a, b⟩, ⟨c, d⟩⟩ := a
 simp only [AirW.c, airB]
 refine pure_of_wc (rs := [.tmp 2]) (m := 11) [] e2_ok (by kernel_rfl) Tryz.func67 rfl (by kernel_rfl) rfl rfl (by kernel_rfl) ?_
 simp only [FS, ↓RE, okR, argEnv, Nat.reduceAdd, Nat.reduceSub, Nat.reduceLT, Nat.reduceLeDiff, Nat.reduceEqDiff, reduceIte, gS3_eq]
 cases rS a b (-300) 300 <;> simp [BR]
structure LandM where
 wide : Int
 deep : Int
 ground : List Int
 water : List Bool
 clear : Int
def grD (l : List Int) : D := .sl (l.map enI.d)
def waD (l : List Bool) : D := .sl (l.map enB.d)
def LandM.c (l : LandM) : List D := [.int .i64 l.wide, .int .i64 l.deep, grD l.ground, waD l.water, .int .i64 l.clear]
def landB (l : LandM) : Bool :=
 l.ground.all (fun n => rI n 0 20000) && (rI l.wide 1 12 && (rI l.deep 1 12 && (decide ((l.ground.length : Int) = l.wide * l.deep) && (decide (l.water.length = l.ground.length) && rI l.clear 0 20000))))
structure LandL (l : LandM) : Prop where
 ground : l.ground.length ≤ 9223372036854775807
 water : l.water.length ≤ 9223372036854775807
end Go.Sx.E

namespace Go.Sx.E
open Go.Proofs
set_option maxRecDepth 10000

theorem all_cut {α : Type} {p : α → Bool} {l : List α} {i : Nat} {x : α} (hx : l[i]? = some x) (h : (l.take i).all p = true) (hp : p x = true) : (l.take (i + 1)).all p = true := by
 rw [List.take_add_one, hx]; simp [h, hp]
theorem all_out {α : Type} {p : α → Bool} {l : List α} {i : Nat} {x : α} (hx : l[i]? = some x) (hp : p x = false) : l.all p = false := by
 rw [List.all_eq_false]; exact ⟨x, List.mem_of_getElem? hx, by simp [hp]⟩
theorem rI_le {x lo hi : Int} (h : rI x lo hi = true) : lo ≤ x ∧ x ≤ hi := by simpa [rI] using h
theorem mul_le {a b m : Int} (ha : 1 ≤ a ∧ a ≤ m) (hb : 1 ≤ b ∧ b ≤ m) : 1 ≤ a * b ∧ a * b ≤ m * m := by
 constructor
 ·have := Int.mul_le_mul ha.1 hb.1 (by omega) (by omega); simpa using this
 ·exact Int.mul_le_mul ha.2 hb.2 (by omega) (by omega)

theorem run_land_t (l : LandM) (h : LandL l) : Pure Tryz.prog 61 [.agg l.c] (.bool (landB l)) := by
 have hg := h.ground
 have hw := h.water
 obtain ⟨wide, deep, ground, water, clear⟩ := l
 dsimp only at hg hw
 simp only [LandM.c, grD, waD]
 refine pure_of_wc (rs := [.tmp 2]) (m := 49) [] e2_ok (by kernel_rfl) Tryz.func61 rfl (by kernel_rfl) rfl rfl (by kernel_rfl) ?_
 simp only [FS, ↓RE, okR, argEnv, Nat.reduceAdd, Nat.reduceSub, Nat.reduceLT, Nat.reduceLeDiff, Nat.reduceEqDiff, reduceIte]
 rw [List.length_map]
 refine loopV (ι := Nat) e2_ok [] (fun i => [(1, .ptr 0 0), (6, .sl (ground.map enI.d)), (7, .int .i64 (ground.length : Int)), (8, .int .i64 (i : Int))])
  (fun i => [(0, .box [.int .i64 wide, .int .i64 deep, .sl (ground.map enI.d), .sl (water.map enB.d), .int .i64 clear])]) 1 (fun i => i ≤ ground.length ∧ (ground.take i).all (fun n => rI n 0 20000) = true) (fun i => ground.length - i) 0 (by kernel_rfl) (by kernel_rfl)
  ⟨Nat.zero_le _, by simp⟩ ?_ ?_
 ·simp [headW, heapW, envW, blkLt, D.ltL, D.lt, look, hget]
 rintro i ⟨hil, hok⟩
 rcases Nat.lt_or_ge i ground.length with hlt | hge
 ·have hc : ((i : Int) < (ground.length : Int)) = True := by simp [hlt]
  obtain ⟨r, hr⟩ : ∃ r, ground[i]? = some r := ⟨ground[i], by simp [hlt]⟩
  have hix := fun hp => En.ix (P := Tryz.prog) Fz.und_34 Fz.size_3 (E := enI) (En.sl_map (E := enI) ground) hr hp .i64
  simp only [enI] at hix ⊢
  have hw1 := wrap_i64 (z := (i : Int) + 1) (by omega) (by omega)
  simp only [FS, ↓RE, okR, argEnv, Nat.reduceAdd, Nat.reduceSub, Nat.reduceLT, Nat.reduceLeDiff, Nat.reduceEqDiff, reduceIte, hix, hc, decide_true, gI3_eq, hw1]
  cases h1 : rI r 0 20000
  ·simp [BR, landB, all_out (p := fun n => rI n 0 20000) hr h1]
  simp only [Bool.not_true, BR_false]
  exact ⟨i + 1, ⟨by omega, all_cut hr hok h1⟩, by omega, by simp [headW, heapW, envW, blkLt, D.ltL, D.lt, look, hget]⟩
 ·have hc : ((i : Int) < (ground.length : Int)) = False := by simp; omega
  have : i = ground.length := by omega
  subst this
  rw [List.take_length] at hok
  simp only [landB, hok, Bool.true_and]
  cases h1 : rI wide 1 12
  ·simp only [FS, ↓RE, okR, argEnv, Nat.reduceAdd, Nat.reduceSub, Nat.reduceLT, Nat.reduceLeDiff, Nat.reduceEqDiff, reduceIte, hc, decide_false, gI3_eq, h1, List.length_map, Bool.false_and]
  cases h2 : rI deep 1 12
  ·simp only [FS, ↓RE, okR, argEnv, Nat.reduceAdd, Nat.reduceSub, Nat.reduceLT, Nat.reduceLeDiff, Nat.reduceEqDiff, reduceIte, hc, decide_false, gI3_eq, h1, h2, List.length_map, Bool.false_and, Bool.true_and]
  have hm := mul_le (rI_le h1) (rI_le h2)
  have hw2 := wrap_i64 (z := wide * deep) (by omega) (by omega)
  cases h3 : decide ((ground.length : Int) = wide * deep)
  ·simp only [FS, ↓RE, okR, argEnv, Nat.reduceAdd, Nat.reduceSub, Nat.reduceLT, Nat.reduceLeDiff, Nat.reduceEqDiff, reduceIte, hc, decide_false, gI3_eq, h1, h2, h3, hw2, beq_dec, List.length_map, Bool.false_and, Bool.true_and]
  cases h4 : decide ((water.length : Int) = (ground.length : Int))
  ·have h4' : decide (water.length = ground.length) = false := by simp at h4 ⊢; omega
   simp only [FS, ↓RE, okR, argEnv, Nat.reduceAdd, Nat.reduceSub, Nat.reduceLT, Nat.reduceLeDiff, Nat.reduceEqDiff, reduceIte, hc, decide_false, gI3_eq, h1, h2, h3, h4, h4', hw2, beq_dec, List.length_map, Bool.false_and, Bool.true_and]
  have h4' : decide (water.length = ground.length) = true := by simp at h4 ⊢; omega
  simp only [FS, ↓RE, okR, argEnv, Nat.reduceAdd, Nat.reduceSub, Nat.reduceLT, Nat.reduceLeDiff, Nat.reduceEqDiff, reduceIte, hc, decide_false, gI3_eq, h1, h2, h3, h4, h4', hw2, beq_dec, List.length_map, Bool.false_and, Bool.true_and]

end Go.Sx.E

namespace Go.Sx.E
open Go.Proofs
set_option maxRecDepth 10000

theorem rfirst_t (lo hi r : Int) (hb : -1000000 ≤ lo ∧ hi ≤ 1000000) (hr : lo ≤ r ∧ r ≤ hi) (f : FuncId) (fst caps : List D) (p : Int → Bool) (hfl : ∀ m, D.ltL m fst = true) (hcl : ∀ m, D.ltL m caps = true)
  (hva : ∀ h i, viewL h (fst ++ [D.int .i64 i] ++ caps) = fst ++ [D.int .i64 i] ++ caps) (hf : ∀ i, lo ≤ i → i < r → p i = false) (ht : ∀ i, r ≤ i → i < hi → p i = true)
  (hq : ∀ i, lo ≤ i → i < hi → Pure Tryz.prog f (fst ++ [.int .i64 i] ++ caps) (.bool (p i))) :
  Pure Tryz.prog 80 [.int .i64 lo, .int .i64 hi, .fn (.func f) fst caps] (.int .i64 r) := by
 refine pure_of_wc (rs := [.tmp 6]) (m := 24) [] oNone_ok (by kernel_rfl) Tryz.func80 rfl (by kernel_rfl) rfl rfl (by kernel_rfl) ?_
 simp only [FS, ↓RE, okR, argEnv, Nat.reduceAdd, Nat.reduceSub, Nat.reduceLT, Nat.reduceLeDiff, Nat.reduceEqDiff, reduceIte]
 refine loopV (ι := Int × Int) oNone_ok [] (fun i => [(0, .int .i64 i.1), (1, .int .i64 i.2), (2, .fn (.func f) fst caps)])
  (fun i => []) 0 (fun i => lo ≤ i.1 ∧ i.1 ≤ r ∧ r ≤ i.2 ∧ i.2 ≤ hi) (fun i => (i.2 - i.1).toNat) (lo, hi) (by kernel_rfl) (by kernel_rfl) ⟨Int.le_refl _, hr.1, hr.2, Int.le_refl _⟩ ?_ ?_
 ·simp [headW, heapW, envW, blkLt, D.ltL, D.lt, look, hget, hfl, hcl]
 rintro ⟨a, b⟩ ⟨h1, h2, h3, h4⟩
 dsimp only at h1 h2 h3 h4 ⊢
 by_cases hab : a < b
 rotate_left
 ·simp only [FS, ↓RE, okR, argEnv, Nat.reduceAdd, Nat.reduceSub, Nat.reduceLT, Nat.reduceLeDiff, Nat.reduceEqDiff, reduceIte, hab, decide_false]
  have : a = r := by omega
  rw [this]
 have w1 := wrap_i64 (z := b - a) (by omega) (by omega)
 have hd := a_quo' (k := .i64) (x := b - a) (y := 2) (by omega)
 have he : (b - a).tdiv 2 = (b - a) / 2 := Int.tdiv_eq_ediv_of_nonneg (by omega)
 have w2 := wrap_i64 (z := (b - a) / 2) (by omega) (by omega)
 have w3 := wrap_i64 (z := a + (b - a) / 2) (by omega) (by omega)
 have w4 := wrap_i64 (z := a + (b - a) / 2 + 1) (by omega) (by omega)
 simp only [FS, ↓RE, okR, argEnv, Nat.reduceAdd, Nat.reduceSub, Nat.reduceLT, Nat.reduceLeDiff, Nat.reduceEqDiff, reduceIte, hab, decide_true, w1, hd, he, w2, w3]
 refine call_of_pure (by rw [hva]; exact hq (a + (b - a) / 2) (by omega) (by omega)) rfl ?_
 cases q : p (a + (b - a) / 2)
 ·have : a + (b - a) / 2 < r := by
   by_cases h : a + (b - a) / 2 < r
   ·exact h
   ·rw [ht _ (by omega) (by omega)] at q; cases q
  simp only [FS, ↓RE, okR, argEnv, Nat.reduceAdd, Nat.reduceSub, Nat.reduceLT, Nat.reduceLeDiff, Nat.reduceEqDiff, reduceIte, w4]
  exact ⟨(a + (b - a) / 2 + 1, b), ⟨by simp only; omega, by simp only; omega, h3, h4⟩, by simp only; omega, by simp [headW, heapW, envW, blkLt, D.ltL, D.lt, look, hget, hfl, hcl]⟩
 ·have : r ≤ a + (b - a) / 2 := by
   by_cases h : a + (b - a) / 2 < r
   ·rw [hf _ (by omega) h] at q; cases q
   ·omega
  simp only [FS, ↓RE, okR, argEnv, Nat.reduceAdd, Nat.reduceSub, Nat.reduceLT, Nat.reduceLeDiff, Nat.reduceEqDiff, reduceIte]
  exact ⟨(a, a + (b - a) / 2), ⟨h1, h2, this, by simp only; omega⟩, by simp only; omega, by simp [headW, heapW, envW, blkLt, D.ltL, D.lt, look, hget, hfl, hcl]⟩


def sayO : List RRow → Int → Option Int
 | [], _ => none
 | r :: l, w => if w ≤ r.w then some r.m else sayO l w
def sayD : Option Int → D
 | some m => .tup [.int .i64 m, .bool true]
 | none => .tup [.int .i64 0, .bool false]
def cutR : List RRow → Int → Nat
 | [], _ => 0
 | r :: l, w => if w ≤ r.w then 0 else cutR l w + 1
theorem cutR_le : ∀ (l : List RRow) (w : Int), cutR l w ≤ l.length
 | [], _ => Nat.le_refl _
 | r :: l, w => by
  simp only [cutR]; split
  ·simp
  ·have := cutR_le l w; simp; omega
theorem cutR_lt : ∀ {l : List RRow} {w : Int} {i : Nat} {r : RRow}, i < cutR l w → l[i]? = some r → r.w < w
 | [], w, i, r, h, hr => by simp at hr
 | a :: l, w, i, r, h, hr => by
  simp only [cutR] at h; split at h
  ·omega
  ·cases i with
   | zero => simp at hr; subst hr; omega
   | succ i => exact cutR_lt (l := l) (w := w) (i := i) (by omega) (by simpa using hr)
theorem sayO_cut : ∀ (l : List RRow) (w : Int), sayO l w = (l[cutR l w]?).map (·.m)
 | [], _ => rfl
 | r :: l, w => by
  simp only [sayO, cutR]; split
  ·simp
  ·simpa using sayO_cut l w
theorem cutR_at : ∀ {l : List RRow} {w : Int} {r : RRow}, l[cutR l w]? = some r → w ≤ r.w
 | [], w, r, hr => by simp at hr
 | a :: l, w, r, hr => by
  simp only [cutR] at hr; split at hr
  ·simp at hr; subst hr; assumption
  ·exact cutR_at (l := l) (by simpa using hr)
theorem rows_gt {sg : Int} : ∀ {l : List RRow} {p : RRow}, rowsOk sg (some p) l = true → ∀ s ∈ l, p.w < s.w
 | [], _, _, s, hs => by simp at hs
 | r :: l, p, h, s, hs => by
  simp only [rowsOk, rowStep, Bool.and_eq_true, decide_eq_true_eq] at h
  have h1 : p.w < r.w := h.2.2.1.1
  rcases List.mem_cons.1 hs with rfl | hs
  ·exact h1
  ·have := rows_gt h.2.2.2 s hs; omega
theorem rows_mono {sg : Int} : ∀ {l : List RRow} {o : Option RRow}, rowsOk sg o l = true → ∀ {i j : Nat} {r s : RRow}, i ≤ j → l[i]? = some r → l[j]? = some s → r.w ≤ s.w
 | [], _, _, i, j, r, s, _, hr, _ => by simp at hr
 | a :: l, o, h, i, j, r, s, hij, hr, hs => by
  simp only [rowsOk, Bool.and_eq_true] at h
  cases i with
  | zero =>
   simp at hr; subst hr
   cases j with
   | zero => simp at hs; subst hs; exact Int.le_refl _
   | succ j => have := rows_gt h.2.2.2 s (List.mem_of_getElem? (by simpa using hs)); omega
  | succ i =>
   cases j with
   | zero => omega
   | succ j => exact rows_mono h.2.2.2 (i := i) (j := j) (by omega) (by simpa using hr) (by simpa using hs)

theorem says1_t (l : List RRow) (w : Int) (i : Nat) (r : RRow) (hr : l[i]? = some r) : Pure Tryz.prog 81 [.int .i64 (i : Int), .ref [.sl (l.map RRow.d)] 0, .ref [.int .i64 w] 0] (.bool (decide (w ≤ r.w))) := by
 have hix := fun hp => En.ix (P := Tryz.prog) Fz.und_61 Fz.size_121 (E := enR) (En.sl_map (E := enR) l) hr hp .i64
 simp only [enR, RRow.d] at hix
 refine pure_of_wc (rs := [.tmp 4]) (m := 12) [(1, [(8, false, false, [])])] oNone_ok (by kernel_rfl) Tryz.func81 rfl (by kernel_rfl) rfl rfl (by kernel_rfl) ?_
 simp only [FS, ↓RE, okR, argEnv, Nat.reduceAdd, Nat.reduceSub, Nat.reduceLT, Nat.reduceLeDiff, Nat.reduceEqDiff, reduceIte, hix]

theorem run_says_t {sg : Int} (l : List RRow) (w : Int) (h : rowsOk sg none l = true) (hl : l.length ≤ 12) : Pure Tryz.prog 68 [.sl (l.map RRow.d), .int .i64 w] (sayD (sayO l w)) := by
 have hf := rfirst_t 0 (l.length : Int) (cutR l w : Int) (by omega) (by have := cutR_le l w; omega) 81 [] [.ref [.sl (l.map RRow.d)] 0, .ref [.int .i64 w] 0]
  (fun i => match l[i.toNat]? with | some r => decide (w ≤ r.w) | none => false) (fun m => rfl) (fun m => rfl) (fun h i => rfl)
  (fun i h0 h1 => by
   obtain ⟨r, hr⟩ : ∃ r, l[i.toNat]? = some r := ⟨l[i.toNat]'(by have := cutR_le l w; omega), by simp⟩
   have := cutR_lt (l := l) (w := w) (i := i.toNat) (by omega) hr
   simp only [hr]; simp; omega)
  (fun i h0 h1 => by
   obtain ⟨r, hr⟩ : ∃ r, l[i.toNat]? = some r := ⟨l[i.toNat]'(by omega), by simp⟩
   obtain ⟨q, hq⟩ : ∃ q, l[cutR l w]? = some q := ⟨l[cutR l w]'(by omega), by simp⟩
   have h2 := cutR_at hq
   have h3 := rows_mono h (i := cutR l w) (j := i.toNat) (by omega) hq hr
   simp only [hr]; simp; omega)
  (fun i h0 h1 => by
   obtain ⟨r, hr⟩ : ∃ r, l[i.toNat]? = some r := ⟨l[i.toNat]'(by omega), by simp⟩
   have := says1_t l w i.toNat r hr
   simp only [hr]
   rwa [show ((i.toNat : Nat) : Int) = i by omega] at this)
 refine pure_of_wc (rs := [.tmp 4, .tmp 5]) (m := 20) [] oNone_ok (by kernel_rfl) Tryz.func68 rfl (by kernel_rfl) rfl rfl (by kernel_rfl) ?_
 simp only [FS, ↓RE, okR, argEnv, Nat.reduceAdd, Nat.reduceSub, Nat.reduceLT, Nat.reduceLeDiff, Nat.reduceEqDiff, reduceIte, List.length_map]
 refine call_of_pure hf rfl ?_
 have hcl := cutR_le l w
 rcases Nat.lt_or_ge (cutR l w) l.length with hlt | hge
 ·have hc : decide ((cutR l w : Int) = (l.length : Int)) = false := by simp; omega
  obtain ⟨r, hr⟩ : ∃ r, l[cutR l w]? = some r := ⟨l[cutR l w], by simp [hlt]⟩
  have hix := fun hp => En.ix (P := Tryz.prog) Fz.und_61 Fz.size_121 (E := enR) (En.sl_map (E := enR) l) hr hp .i64
  simp only [enR, RRow.d] at hix
  simp only [FS, ↓RE, okR, argEnv, Nat.reduceAdd, Nat.reduceSub, Nat.reduceLT, Nat.reduceLeDiff, Nat.reduceEqDiff, reduceIte, List.length_map, beq_dec, hc, hix]
  rw [sayO_cut, hr]; rfl
 ·have hc : decide ((cutR l w : Int) = (l.length : Int)) = true := by simp; omega
  simp only [FS, ↓RE, okR, argEnv, Nat.reduceAdd, Nat.reduceSub, Nat.reduceLT, Nat.reduceLeDiff, Nat.reduceEqDiff, reduceIte, List.length_map, beq_dec, hc]
  rw [sayO_cut, List.getElem?_eq_none hge]; rfl

end Go.Sx.E

namespace Go.Sx.E
open Go.Proofs
set_option maxRecDepth 10000

end Go.Sx.E

namespace Go.Sx.E
open Go.Proofs
set_option maxRecDepth 10000

structure CraftN (c : Craft) : Prop where
 gby : 0 ≤ c.gby ∧ c.gby ≤ 5000
 rby : 0 ≤ c.rby ∧ c.rby ≤ 5000
 head : 0 ≤ c.head ∧ c.head ≤ 50
 tail : 0 ≤ c.tail ∧ c.tail ≤ 50
 gr : c.glass ≤ c.rough
theorem drag_le {d a : Int} (hd : 0 ≤ d ∧ d ≤ 50) (ha : -600 ≤ a ∧ a ≤ 600) : -30000 ≤ d * a ∧ d * a ≤ 30000 := by
 have h1 : d * a ≤ d * 600 := Int.mul_le_mul_of_nonneg_left ha.2 hd.1
 have h2 : d * -600 ≤ d * a := Int.mul_le_mul_of_nonneg_left ha.1 hd.1
 omega
end Go.Sx.E

namespace Go.Sx.E
open Go.Proofs
set_option maxRecDepth 10000

def wideI (a : Int) (l : List Int) : SpI := ⟨l.foldl min a, l.foldl max a⟩
theorem foldl_take {f : Int → Int → Int} {l : List Int} {i : Nat} {x a : Int} (h : l[i]? = some x) : (l.take (i + 1)).foldl f a = f ((l.take i).foldl f a) x := by
 rw [List.take_add_one, h]; simp
theorem run_wide_t (a : Int) (l : List Int) (hl : l.length < 9223372036854775807) : Pure Tryz.prog 125 [.sl ((a :: l).map enI.d)] (.agg (wideI a l).c) := by
 have hix0 : ∀ hp, indexAddrD Tryz.prog hp 34 (.sl ((a :: l).map enI.d)) (.int .i64 0) = some (.ref [.int .i64 a] 0) := fun hp => by
  simpa [enI] using En.ix (P := Tryz.prog) Fz.und_34 Fz.size_3 (E := enI) (En.sl_map (E := enI) (a :: l)) (i := 0) (a := a) rfl hp .i64
 have hmin : ∀ x y : Int, min x y = if y < x then y else x := fun x y => by omega
 have hmax : ∀ x y : Int, max x y = if x < y then y else x := fun x y => by omega
 generalize hL : (a :: l).map enI.d = L at hix0 ⊢
 have hlen : L.length = l.length + 1 := by rw [← hL]; simp
 refine pure_of_wc (rs := [.cell 2 52]) (m := 30) [(1, [(8, true, false, []), (1, false, false, [])])] oNone_ok (by kernel_rfl) Tryz.func125 rfl (by kernel_rfl) rfl rfl (by kernel_rfl) ?_
 simp only [FS, ↓RE, okR, argEnv, Nat.reduceAdd, Nat.reduceSub, Nat.reduceLT, Nat.reduceLeDiff, Nat.reduceEqDiff, reduceIte, hix0]
 refine loopV (ι := Nat) oNone_ok [(1, [(8, true, false, []), (1, false, false, [])])] (fun i => [(2, .ptr 0 0), (3, .ptr 1 0), (13, .sl L), (14, .int .i64 (L.length : Int)), (15, .int .i64 (i : Int))])
  (fun i => [(1, .box [.int .i64 (((a :: l).take i).foldl min a), .int .i64 (((a :: l).take i).foldl max a)]), (0, .box [.int .i64 0, .int .i64 0])]) 2 (fun i => i ≤ l.length + 1) (fun i => l.length + 1 - i) 0 (by kernel_rfl) (by kernel_rfl) (Nat.zero_le _) ?_ ?_
 ·simp [headW, heapW, envW, blkLt, D.ltL, D.lt, look, hget, hset]
 rintro i hil
 rcases Nat.lt_or_ge i (l.length + 1) with hlt | hge
 ·have hc : ((i : Int) < (L.length : Int)) = True := by simp; omega
  obtain ⟨x, hx⟩ : ∃ x, (a :: l)[i]? = some x := ⟨(a :: l)[i]'(by simpa using hlt), by simp⟩
  have hix : ∀ hp, indexAddrD Tryz.prog hp 34 (.sl L) (.int .i64 (i : Int)) = some (.ref [.int .i64 x] 0) := fun hp => by
   rw [← hL]; simpa [enI] using En.ix (P := Tryz.prog) Fz.und_34 Fz.size_3 (E := enI) (En.sl_map (E := enI) (a :: l)) hx hp .i64
  have hw := wrap_i64 (z := (i : Int) + 1) (by omega) (by omega)
  simp only [FS, ↓RE, okR, argEnv, Nat.reduceAdd, Nat.reduceSub, Nat.reduceLT, Nat.reduceLeDiff, Nat.reduceEqDiff, reduceIte, hix, hc, decide_true, hw]
  refine ⟨i + 1, by omega, by omega, ?_⟩
  rw [foldl_take hx, foldl_take hx]
  simp [headW, heapW, envW, blkLt, D.ltL, D.lt, look, hget, hset, hmin, hmax]
 ·have hc : ((i : Int) < (L.length : Int)) = False := by simp; omega
  have : i = l.length + 1 := by omega
  subst this
  simp only [FS, ↓RE, okR, argEnv, Nat.reduceAdd, Nat.reduceSub, Nat.reduceLT, Nat.reduceLeDiff, Nat.reduceEqDiff, reduceIte, hc, decide_false]
  simp [wideI, SpI.c]
end Go.Sx.E

namespace Go.Sx.E
open Go.Proofs
def intL (l : List Int) : List (List D) := l.map enI.d
def boolL (l : List Bool) : List (List D) := l.map enB.d
theorem intL_len (l : List Int) : (intL l).length = l.length := by simp [intL]
theorem boolL_len (l : List Bool) : (boolL l).length = l.length := by simp [boolL]
theorem intL_app (a b : List Int) : intL (a ++ b) = intL a ++ intL b := by simp [intL]
theorem intL_get {l : List Int} {i : Nat} {x : Int} (h : l[i]? = some x) : (intL l)[i]? = some [.int .i64 x] := by simp [intL, h, enI]
theorem intL_ok (l : List Int) : okSrc 1 (intL l) = true := by
 unfold okSrc intL
 rw [List.all_eq_true]
 intro e he
 obtain ⟨x, _, rfl⟩ := List.mem_map.1 he
 rfl
theorem oI_len {h : H} {b n : Nat} {l : List Int} (hb : hget h b = some (.arr 3 1 (intL l))) (hn : l.length = n) : lenOpD Tryz.prog h 34 (.osl b n) = some (.int .i64 n) :=
 own_len Fz.und_34 hb (by rw [intL_len, hn])
theorem oI_ix {h : H} {b n : Nat} {l : List Int} (hb : hget h b = some (.arr 3 1 (intL l))) (hn : l.length = n) {i : Nat} (hi : i < n) : indexAddrD Tryz.prog h 34 (.osl b n) (.int .i64 (i : Int)) = some (.eptr b n 1 i 0) :=
 own_ix Fz.und_34 Fz.size_3 hb (by rw [intL_len, hn]) hi .i64
theorem oI_load {h : H} {b n : Nat} {l : List Int} (hb : hget h b = some (.arr 3 1 (intL l))) (hn : l.length = n) {i : Nat} {x : Int} (hx : l[i]? = some x) : loadAtD Tryz.prog h 3 (.eptr b n 1 i 0) = some (.int .i64 x) := by
 rw [own_load hb (by rw [intL_len, hn]) (intL_get hx) 0]
 exact loadD_one Fz.agg_3 Fz.size_3 _ _ |>.trans rfl
theorem oI_store {h : H} {b n : Nat} {l : List Int} (hb : hget h b = some (.arr 3 1 (intL l))) (hn : l.length = n) {i : Nat} {x : Int} (hx : l[i]? = some x) (nid : Nat) (y : Int) :
  storeD Tryz.prog h nid 3 (.eptr b n 1 i 0) (.int .i64 y) = some (.any, hset h b (.arr 3 1 (intL (l.set i y))), nid) := by
 rw [own_store (ds := [.int .i64 y]) hb (by rw [intL_len, hn]) (intL_get hx) 0 nid Fz.size_3 rfl rfl (by omega) rfl rfl]
 simp [intL, List.map_set, enI, putL]
theorem oI_app {h : H} {b n b2 n2 : Nat} {l r : List Int} (hb : hget h b = some (.arr 3 1 (intL l))) (hn : l.length = n) (hb2 : hget h b2 = some (.arr 3 1 (intL r))) (hn2 : r.length = n2) (nid : Nat) (hc : l.length + r.length ≤ 1000000000000) :
  appE Tryz.prog h nid 34 34 (.osl b n) (.osl b2 n2) = some (.osl b (n + n2), hset h b (.arr 3 1 (intL (l ++ r))), nid) := by
 rw [app_osl Fz.und_34 Fz.size_3 Fz.zero_3 rfl (by omega) Fz.bytes_3_34 h nid b n b2 n2 hb (by rw [intL_len, hn]) hb2 (by rw [intL_len, hn2]) (intL_ok r) (by rw [intL_len, intL_len]; omega) (by rw [intL_len, intL_len]; omega), intL_app, intL_len, intL_len, hn, hn2]
theorem oI_appD {h : H} {b n : Nat} {l r : List Int} (hb : hget h b = some (.arr 3 1 (intL l))) (hn : l.length = n) (nid : Nat) (hc : l.length + r.length ≤ 1000000000000) :
  appE Tryz.prog h nid 34 34 (.osl b n) (.sl (intL r)) = some (.osl b (n + r.length), hset h b (.arr 3 1 (intL (l ++ r))), nid) := by
 rw [app_sl Fz.und_34 Fz.size_3 Fz.zero_3 rfl (by omega) Fz.bytes_3_34 h nid b n hb (by rw [intL_len, hn]) (intL_ok r) (by rw [intL_len, intL_len]; omega) (by rw [intL_len, intL_len]; omega), intL_app, intL_len, intL_len, hn]
theorem lit_1 (h : H) (nid : Nat) (a : Int) : litOpD Tryz.prog h nid 34 1 [(0, .int .i64 a)] = some (.osl nid 1, (nid, .arr 3 1 (intL [a])) :: h, nid + 1) := by kernel_rfl
theorem litD_4 (h : H) (a b c d : Int) : litD Tryz.prog h 34 4 [(0, .int .i64 a), (1, .int .i64 b), (2, .int .i64 c), (3, .int .i64 d)] = some (.sl (intL [a, b, c, d])) := by kernel_rfl
theorem sI_ix {l : List Int} {i : Nat} {x : Int} (hx : l[i]? = some x) (h : H) : indexAddrD Tryz.prog h 34 (.sl (intL l)) (.int .i64 (i : Int)) = some (.ref [.int .i64 x] 0) := by
 simpa [enI, intL] using En.ix (P := Tryz.prog) Fz.und_34 Fz.size_3 (E := enI) (En.sl_map (E := enI) l) hx h .i64
theorem sB_ix {l : List Bool} {i : Nat} {x : Bool} (hx : l[i]? = some x) (h : H) : indexAddrD Tryz.prog h 35 (.sl (boolL l)) (.int .i64 (i : Int)) = some (.ref [.bool x] 0) := by
 simpa [enB, boolL] using En.ix (P := Tryz.prog) Fz.und_35 Fz.size_4 (E := enB) (En.sl_map (E := enB) l) hx h .i64
end Go.Sx.E

namespace Go.Sx.E
open Go.Proofs
set_option maxRecDepth 10000

end Go.Sx.E

namespace Go.Sx.E
open Go.Proofs
set_option maxRecDepth 10000

theorem RRow.d_inj (a b : RRow) (h : a.d = b.d) : a = b := by
 obtain ⟨a1, a2⟩ := a; obtain ⟨b1, b2⟩ := b
 simp [RRow.d] at h; simp [h.1, h.2]
theorem Craft.c_inj {a b : Craft} (h : a.c = b.c) : a = b := by
 obtain ⟨a1, a2, a3, a4, a5, a6, a7, a8, a9, a10, a11, a12, a13⟩ := a
 obtain ⟨b1, b2, b3, b4, b5, b6, b7, b8, b9, b10, b11, b12, b13⟩ := b
 simp only [Craft.c, List.cons.injEq, D.sl.injEq, D.int.injEq, true_and, and_true] at h
 obtain ⟨h1, h2, h3, h4, h5, h6, h7, h8, h9, h10, h11, h12, h13⟩ := h
 rw [map_inj RRow.d_inj h1, map_inj RRow.d_inj h2, h3, h4, h5, h6, h7, h8, h9, h10, h11, map_inj RRow.d_inj h12, h13]
theorem enI_inj (a b : Int) (h : enI.d a = enI.d b) : a = b := by simpa [enI] using h
theorem enB_inj (a b : Bool) (h : enB.d a = enB.d b) : a = b := by simpa [enB] using h
theorem LandM.c_inj {a b : LandM} (h : a.c = b.c) : a = b := by
 obtain ⟨a1, a2, a3, a4, a5⟩ := a
 obtain ⟨b1, b2, b3, b4, b5⟩ := b
 simp only [LandM.c, grD, waD, List.cons.injEq, D.sl.injEq, D.int.injEq, true_and, and_true] at h
 obtain ⟨h1, h2, h3, h4, h5⟩ := h
 rw [h1, h2, map_inj enI_inj h3, map_inj enB_inj h4, h5]

structure CraftOk (c : Craft) : Prop where
 l : CraftL c
 b : craftB c = true
 n : CraftN c
 off : rowsOk 1 none c.off = true ∧ c.off.length ≤ 12 ∧ 1 ≤ c.off.length
 on : rowsOk 1 none c.on = true ∧ c.on.length ≤ 12 ∧ 1 ≤ c.on.length
 ceil : rowsOk (-1) none c.ceil = true ∧ c.ceil.length ≤ 12 ∧ 1 ≤ c.ceil.length
 eng : c.eng = 1 ∨ c.eng = 2
 fall : 1 ≤ c.fall ∧ c.fall ≤ 20000
 drag : 0 ≤ c.drag ∧ c.drag ≤ 50
 sink : 0 ≤ c.sink ∧ c.sink ≤ 20000
 wave : 0 ≤ c.glass ∧ c.rough ≤ 2000
theorem craft_ok {c : Craft} (l : CraftL c) (h : craftB c = true) : CraftOk c := by
 have hb := h
 simp only [craftB, tabB, rI, Bool.and_eq_true, decide_eq_true_eq] at h
 obtain ⟨⟨h1, h1'⟩, ⟨h2, h2'⟩, h3, h4, h5, h6, h7, h8, h9, h10, h11, ⟨h12, h12'⟩, h13⟩ := h
 exact ⟨l, hb, ⟨by omega, by omega, h7, h8, h3.2⟩, ⟨h1, by omega, by omega⟩, ⟨h2, by omega, by omega⟩, ⟨h12, by omega, by omega⟩, by omega, h10, h11, h13, ⟨h3.1, h4⟩⟩
theorem sayD_eq (o : Option Int) : sayD o = .tup [.int .i64 (o.getD 0), .bool o.isSome] := by cases o <;> rfl

noncomputable def gCr : List D → Option D := orcF CraftL (fun c => [.agg c.c]) fun c => .bool (craftB c)
theorem gCr_eq {c : Craft} (h : CraftL c) : gCr [.agg c.c] = some (.bool (craftB c)) := orcF_eq (ok := CraftL) (dsf := fun c : Craft => [.agg c.c]) c h fun b hb => by
 simp only [List.cons.injEq, D.agg.injEq, and_true] at hb; rw [Craft.c_inj hb]
noncomputable def gLa : List D → Option D := orcF LandL (fun c => [.agg c.c]) fun c => .bool (landB c)
theorem gLa_eq {c : LandM} (h : LandL c) : gLa [.agg c.c] = some (.bool (landB c)) := orcF_eq (ok := LandL) (dsf := fun c : LandM => [.agg c.c]) c h fun b hb => by
 simp only [List.cons.injEq, D.agg.injEq, and_true] at hb; rw [LandM.c_inj hb]
def gAi : List D → Option D
 | [.agg [.int .i64 a, .int .i64 b, .int .i64 c, .int .i64 d]] => some (.bool (airB ⟨⟨a, b⟩, ⟨c, d⟩⟩))
 | _ => none
theorem gAi_eq (a b c d : Int) : gAi [.agg [.int .i64 a, .int .i64 b, .int .i64 c, .int .i64 d]] = some (.bool (airB ⟨⟨a, b⟩, ⟨c, d⟩⟩)) := (rfl)
theorem gAi_inv {ds : List D} {r : D} (h : gAi ds = some r) : ∃ a : AirW, ds = [.agg a.c] ∧ r = .bool (airB a) := by
 unfold gAi at h; split at h
 ·cases h; exact ⟨⟨⟨_, _⟩, ⟨_, _⟩⟩, rfl, rfl⟩
 ·cases h
noncomputable abbrev e3 : List (FuncId × (List D → Option D)) := (66, gCr) :: (61, gLa) :: (67, gAi) :: e1

theorem e3_ok : OkO Tryz.prog (mkO e3) := 
 mkO_ok (orcF_ok fun c h => run_craft_t c h) <|
 mkO_ok (orcF_ok fun c h => run_land_t c h) <|
 mkO_ok (fun ds r h => by obtain ⟨a, rfl, rfl⟩ := gAi_inv h; exact run_air_t a) <| e1_ok

end Go.Sx.E

namespace Go.Sx.E
open Go.Proofs
set_option maxRecDepth 10000

end Go.Sx.E
