/- Own work: a calculus of contracts for the programs of this kit: parts SxW0v, SxW1v, SxW2v, SxW3v. -/
import Derived.Test.YtljkgnicmlhipaaGreatSxMi
import Derived.Test.YtljkgnicmlhipaaGreatSxWsv
import Derived.Test.YtljkgnicmlhipaaGreatSxFtv
import Derived.Test.YtljkgnicmlhipaaGreatSxMg
set_option linter.unusedVariables false
set_option linter.unusedSimpArgs false
namespace Go.Sx
open Go.Proofs Go.Maps Go.Sort Go.Shelf
open Go.RowKit (Below)
theorem w_sorts (m : Nat) : AnyZI.SortsIn Tryz.prog Tryz.sortedA_ren Fence.wide m :=
 ⟨fun blk off cap ss W hH hblk hsz => callsIn_wide.2 (AnyM.slices_Sort_int Tryz.sortA blk off cap ss W hH hblk hsz), fun p cap W => callsIn_wide.2 (AnyM.slices_Sort_int_none Tryz.sortA p cap W)⟩
theorem w_sorted_calls (i b n : Nat) (D0 : DataW Unit) (w : World) (hi : i < w.heap.size) (hc : w.cell? ⟨i, 0, none⟩ = some (.map (some b))) (ho : w.ownsMap Tryz.prog 3 (plainElem Tryz.prog 4) b n D0)
  (hm : Maps.size D0 ≤ maxLen) (hb : Maps.size D0 * 8 ≤ 140737488355328) :
  Calls Tryz.prog 82 #[.func (.func 91) #[] #[.pointer (some ⟨i, 0, none⟩)]] w fun e w' => ∃ (v : Value) (ss : List Int), e = .returned v ∧ ss.Perm (intKeys D0) ∧
   w'.ownsRow w.heap.size 3 1 v ss.length ((ss.mergeSort leI).map encZ) ∧ Below w.heap.size w w' := by
 refine (callsIn_wide (n := 5)).1 ?_
 have hseq : SeqGives Fence.wide 2 Tryz.prog 91 #[.pointer (some ⟨i, 0, none⟩)] encZ (fun ss => ss.Perm (intKeys D0)) (Maps.size D0) w :=
  AnyZI.keys_gives (ρ := Tryz.keysA_ren) { Tryz.keysA with } Fence.wide _ trivial rfl (by omega) i b n D0 _ hi hc ho
 have cS := AnyZI.sorted_in Tryz.sortedA Fence.wide 5 trivial trivial trivial trivial rfl (by omega) (w_sorts _) (enters_of Tryz.func90 (by kernel_rfl) rfl) 91 #[.pointer (some ⟨i, 0, none⟩)] trivial (enters_of Tryz.func91 (by kernel_rfl) rfl) _ _ hm hb _ hseq
 change CallsIn _ _ Tryz.prog 82 _ _ _ at cS
 exact cS.mono fun e w' ⟨v, ss, h1, h2, h3, _, h5⟩ => ⟨v, ss, h1, h2, h3, h5⟩
theorem w_und_i : Program.underlying Tryz.prog 3 = some (.int .i64) := by kernel_rfl
theorem w_und_b : Program.underlying Tryz.prog 4 = some .bool := by kernel_rfl
theorem w_sorted {h : H} {nid i : Nat} {y : D} {m : MpB} (hi : hget h i = some (.box [y])) (hy : MapArg h y (bkv m)) (hr : InR m) (hl : m.length * 8 ≤ 140737488355328) :
  ACall Tryz.prog 82 [.fn (.func 91) [] [.ptr i 0]] h nid fun r h' nid' => r = .sl ((keysS m).map fun x => [.int .i64 x]) ∧ h' = h ∧ nid' = nid :=
 acall_sorted w_und_i w_und_b (by kernel_rfl) w_sorted_calls hi hy hr hl
theorem w_clone {h : H} {nid : Nat} {y : D} {kvs : List (D × D)} (hy : MapArg h y kvs) : ACall Tryz.prog 61 [y] h nid fun r h' nid' => r = .mp nid ∧ h' = (nid, .map kvs) :: h ∧ nid' = nid + 1 :=
 acall_clone (by kernel_rfl) (fun b es clock w hb => AnyW.maps_Clone Tryz.cloneA b es clock w hb) hy
theorem w_copy {h : H} {nid b : Nat} {y : D} {md ms : MpB} (hb : hget h b = some (.map (bkv md))) (hy : MapArg h y (bkv ms)) (hne : y ≠ .mp b) (rd : InR md) (rs : InR ms) (hl : md.length + ms.length ≤ maxLen) :
  ACall Tryz.prog 62 [.mp b, y] h nid fun r h' nid' => r = .tup [] ∧ nid' = nid ∧ ∃ m', h' = hset h b (.map (bkv m')) ∧ gnd m' ∧ ∀ a, gget m' a = (gget ms a).or (gget md a) :=
 acall_copy w_und_i w_und_b (by kernel_rfl) (fun bd bs nd ns Dd Ds w h1 h2 h3 h4 => (AnyX.maps_Copy Tryz.copyA (int_keyed w_und_i) _ bd bs nd ns Dd Ds w h1 h2 h3 h4).mono fun _ _ ⟨a, b, _, d⟩ => ⟨a, b, d⟩) hb hy hne rd rs hl
end Go.Sx

namespace Go.Sx
open Go.Proofs
set_option maxRecDepth 10000

def rI (x lo hi : Int) : Bool := decide (lo ≤ x) && decide (x ≤ hi)
def gI3 : List D → Option D
 | [.int .i64 x, .int .i64 lo, .int .i64 hi] => some (.bool (rI x lo hi))
 | _ => none
theorem gI3_eq (x lo hi : Int) : gI3 [.int .i64 x, .int .i64 lo, .int .i64 hi] = some (.bool (rI x lo hi)) := (rfl)
theorem gI3_inv {ds : List D} {r : D} (h : gI3 ds = some r) : ∃ x lo hi, ds = [.int .i64 x, .int .i64 lo, .int .i64 hi] ∧ r = .bool (rI x lo hi) := by
 unfold gI3 at h
 split at h
 ·cases h; exact ⟨_, _, _, rfl, rfl⟩
 ·cases h
theorem rI_le {x lo hi : Int} (h : rI x lo hi = true) : lo ≤ x ∧ x ≤ hi := by simpa [rI] using h
theorem all_cut {α : Type} {p : α → Bool} {l : List α} {i : Nat} {x : α} (hx : l[i]? = some x) (h : (l.take i).all p = true) (hp : p x = true) : (l.take (i + 1)).all p = true := by
 rw [List.take_add_one, hx]; simp [h, hp]
theorem all_out {α : Type} {p : α → Bool} {l : List α} {i : Nat} {x : α} (hx : l[i]? = some x) (hp : p x = false) : l.all p = false := by
 rw [List.all_eq_false]; exact ⟨x, List.mem_of_getElem? hx, by simp [hp]⟩
theorem mul_le {a b m : Int} (ha : 1 ≤ a ∧ a ≤ m) (hb : 1 ≤ b ∧ b ≤ m) : 1 ≤ a * b ∧ a * b ≤ m * m := by
 constructor
 ·have := Int.mul_le_mul ha.1 hb.1 (by omega) (by omega); simpa using this
 ·exact Int.mul_le_mul ha.2 hb.2 (by omega) (by omega)
theorem w_in_t (x lo hi : Int) : Pure Tryz.prog 59 [.int .i64 x, .int .i64 lo, .int .i64 hi] (.bool (rI x lo hi)) := by
 refine pure_of_wc (rs := [.tmp 6]) (m := 15) [] oNone_ok (by kernel_rfl) Tryz.func59 rfl (by kernel_rfl) rfl rfl (by kernel_rfl) ?_
 simp only [RT, FS, ↓RE, okR, argEnv, Nat.reduceAdd, Nat.reduceSub, Nat.reduceLT, Nat.reduceLeDiff, Nat.reduceEqDiff, reduceIte]
 cases h1 : decide (lo ≤ x) <;> cases h2 : decide (x ≤ hi) <;> simp [BR, rI, h1, h2]
theorem r_in_t (x lo hi : Int) : Pure Tryz.prog 42 [.int .i64 x, .int .i64 lo, .int .i64 hi] (.bool (rI x lo hi)) := by
 refine pure_of_wc (rs := [.tmp 6]) (m := 15) [] oNone_ok (by kernel_rfl) Tryz.func42 rfl (by kernel_rfl) rfl rfl (by kernel_rfl) ?_
 simp only [RT, FS, ↓RE, okR, argEnv, Nat.reduceAdd, Nat.reduceSub, Nat.reduceLT, Nat.reduceLeDiff, Nat.reduceEqDiff, reduceIte]
 cases h1 : decide (lo ≤ x) <;> cases h2 : decide (x ≤ hi) <;> simp [BR, rI, h1, h2]
abbrev e1 : List (FuncId × (List D → Option D)) := [(59, gI3), (42, gI3)]
theorem e1_ok : OkO Tryz.prog (mkO e1) :=
 mkO_ok (fun ds r h => by obtain ⟨x, lo, hi, rfl, rfl⟩ := gI3_inv h; exact w_in_t x lo hi) <|
 mkO_ok (fun ds r h => by obtain ⟨x, lo, hi, rfl, rfl⟩ := gI3_inv h; exact r_in_t x lo hi) mkO_ok_nil
theorem w_minute_t (x : Int) : Pure Tryz.prog 48 [.int .i64 x] (.bool (rI x 0 1440)) := by
 refine pure_of_wc (rs := [.tmp 2]) (m := 5) [] e1_ok (by kernel_rfl) Tryz.func48 rfl (by kernel_rfl) rfl rfl (by kernel_rfl) ?_
 simp only [RT, FS, ↓RE, okR, argEnv, Nat.reduceAdd, Nat.reduceSub, Nat.reduceLT, Nat.reduceLeDiff, Nat.reduceEqDiff, reduceIte, gI3_eq]
theorem r_Minute_t (x : Int) : Pure Tryz.prog 41 [.int .i64 x] (.bool (rI x 0 1440)) := by
 refine pure_of_wc (rs := [.tmp 2]) (m := 5) [] e1_ok (by kernel_rfl) Tryz.func41 rfl (by kernel_rfl) rfl rfl (by kernel_rfl) ?_
 simp only [RT, FS, ↓RE, okR, argEnv, Nat.reduceAdd, Nat.reduceSub, Nat.reduceLT, Nat.reduceLeDiff, Nat.reduceEqDiff, reduceIte, gI3_eq]

structure SkyW where
 w : Int
 d : Int
 sh : List Bool
abbrev shD (l : List Bool) : D := .sl (l.map enB.d)
def SkyW.c (s : SkyW) : List D := [.int .i64 s.w, .int .i64 s.d, shD s.sh]
def skyB (s : SkyW) : Bool := rI s.w 1 12 && (rI s.d 1 12 && decide ((s.sh.length : Int) = s.w * s.d))
def isShut (l : List Bool) (c : Int) : Bool := l.getD c.toNat true
def freeB (l : List Bool) (c : Int) : Bool := rI c 0 ((l.length : Int) - 1) && !isShut l c
abbrev BL {α : Type} (l : List α) : Prop := l.length ≤ 9223372036854775807
theorem shD_len (l : List Bool) (h : H) : lenOpD Tryz.prog h 22 (shD l) = some (.int .i64 l.length) := En.len (P := Tryz.prog) Fz.und_22 (En.sl_map (E := enB) l) h
theorem shD_ix {l : List Bool} {i : Nat} {b : Bool} (hb : l[i]? = some b) (h : H) : indexAddrD Tryz.prog h 22 (shD l) (.int .i64 (i : Int)) = some (.ref [.bool b] 0) := En.ix (P := Tryz.prog) Fz.und_22 Fz.size_4 (En.sl_map (E := enB) l) hb h .i64
theorem free_ix {l : List Bool} {c : Int} (hr : rI c 0 ((l.length : Int) - 1) = true) : ∃ i : Nat, c = (i : Int) ∧ l[i]? = some (isShut l c) := by
 have h := rI_le hr
 refine ⟨c.toNat, by omega, ?_⟩
 have hi : c.toNat < l.length := by omega
 simp [isShut, List.getD, List.getElem?_eq_getElem hi]
theorem sky_wrap {s : SkyW} (h1 : rI s.w 1 12 = true) (h2 : rI s.d 1 12 = true) : IntKind.i64.wrap (s.w * s.d) = s.w * s.d := by
 have hm := mul_le (rI_le h1) (rI_le h2)
 exact wrap_i64 (by omega) (by omega)
theorem w_sky_t (s : SkyW) : Pure Tryz.prog 53 [.agg s.c] (.bool (skyB s)) := by
 have hw := @sky_wrap s
 have hl := shD_len s.sh
 obtain ⟨w, d, sh⟩ := s
 simp only [SkyW.c, skyB] at *
 cases h1 : rI w 1 12
 ·refine pure_of_wc (rs := [.tmp 2]) (m := 22) [] e1_ok (by kernel_rfl) Tryz.func53 rfl (by kernel_rfl) rfl rfl (by kernel_rfl) ?_
  simp only [RT, FS, ↓RE, okR, argEnv, Nat.reduceAdd, Nat.reduceSub, Nat.reduceLT, Nat.reduceLeDiff, Nat.reduceEqDiff, reduceIte, List.length_map, gI3_eq, h1, Bool.false_and]
 cases h2 : rI d 1 12
 ·refine pure_of_wc (rs := [.tmp 2]) (m := 22) [] e1_ok (by kernel_rfl) Tryz.func53 rfl (by kernel_rfl) rfl rfl (by kernel_rfl) ?_
  simp only [RT, FS, ↓RE, okR, argEnv, Nat.reduceAdd, Nat.reduceSub, Nat.reduceLT, Nat.reduceLeDiff, Nat.reduceEqDiff, reduceIte, List.length_map, gI3_eq, h1, h2, Bool.false_and, Bool.true_and]
 have hw1 := hw h1 h2
 refine pure_of_wc (rs := [.tmp 2]) (m := 22) [] e1_ok (by kernel_rfl) Tryz.func53 rfl (by kernel_rfl) rfl rfl (by kernel_rfl) ?_
 simp only [RT, FS, ↓RE, okR, argEnv, Nat.reduceAdd, Nat.reduceSub, Nat.reduceLT, Nat.reduceLeDiff, Nat.reduceEqDiff, reduceIte, List.length_map, gI3_eq, h1, h2, hw1, beq_dec, Bool.false_and, Bool.true_and]
theorem r_Sky_t (s : SkyW) : Pure Tryz.prog 39 [.agg s.c] (.bool (skyB s)) := by
 have hw := @sky_wrap s
 have hl := shD_len s.sh
 obtain ⟨w, d, sh⟩ := s
 simp only [SkyW.c, skyB] at *
 cases h1 : rI w 1 12
 ·refine pure_of_wc (rs := [.tmp 2]) (m := 22) [] e1_ok (by kernel_rfl) Tryz.func39 rfl (by kernel_rfl) rfl rfl (by kernel_rfl) ?_
  simp only [RT, FS, ↓RE, okR, argEnv, Nat.reduceAdd, Nat.reduceSub, Nat.reduceLT, Nat.reduceLeDiff, Nat.reduceEqDiff, reduceIte, List.length_map, gI3_eq, h1, Bool.false_and]
 cases h2 : rI d 1 12
 ·refine pure_of_wc (rs := [.tmp 2]) (m := 22) [] e1_ok (by kernel_rfl) Tryz.func39 rfl (by kernel_rfl) rfl rfl (by kernel_rfl) ?_
  simp only [RT, FS, ↓RE, okR, argEnv, Nat.reduceAdd, Nat.reduceSub, Nat.reduceLT, Nat.reduceLeDiff, Nat.reduceEqDiff, reduceIte, List.length_map, gI3_eq, h1, h2, Bool.false_and, Bool.true_and]
 have hw1 := hw h1 h2
 refine pure_of_wc (rs := [.tmp 2]) (m := 22) [] e1_ok (by kernel_rfl) Tryz.func39 rfl (by kernel_rfl) rfl rfl (by kernel_rfl) ?_
 simp only [RT, FS, ↓RE, okR, argEnv, Nat.reduceAdd, Nat.reduceSub, Nat.reduceLT, Nat.reduceLeDiff, Nat.reduceEqDiff, reduceIte, List.length_map, gI3_eq, h1, h2, hw1, beq_dec, Bool.false_and, Bool.true_and]
theorem w_free_t (s : SkyW) (hb : BL s.sh) (c : Int) : Pure Tryz.prog 47 [.agg s.c, .int .i64 c] (.bool (freeB s.sh c)) := by
 have hl := shD_len s.sh
 obtain ⟨w, d, sh⟩ := s
 dsimp only at hb
 have hw := wrap_i64 (z := (sh.length : Int) - 1) (by omega) (by omega)
 simp only [SkyW.c, freeB] at *
 cases h1 : rI c 0 ((sh.length : Int) - 1)
 ·refine pure_of_wc (rs := [.tmp 4]) (m := 19) [] e1_ok (by kernel_rfl) Tryz.func47 rfl (by kernel_rfl) rfl rfl (by kernel_rfl) ?_
  simp only [RT, FS, ↓RE, okR, argEnv, Nat.reduceAdd, Nat.reduceSub, Nat.reduceLT, Nat.reduceLeDiff, Nat.reduceEqDiff, reduceIte, List.length_map, gI3_eq, hw, h1, Bool.false_and]
 obtain ⟨i, rfl, hi⟩ := free_ix h1
 have hx := shD_ix hi
 refine pure_of_wc (rs := [.tmp 4]) (m := 19) [] e1_ok (by kernel_rfl) Tryz.func47 rfl (by kernel_rfl) rfl rfl (by kernel_rfl) ?_
 simp only [RT, FS, ↓RE, okR, argEnv, Nat.reduceAdd, Nat.reduceSub, Nat.reduceLT, Nat.reduceLeDiff, Nat.reduceEqDiff, reduceIte, List.length_map, gI3_eq, hw, h1, hx, Bool.true_and]
theorem r_Free_t (s : SkyW) (hb : BL s.sh) (c : Int) : Pure Tryz.prog 37 [.agg s.c, .int .i64 c] (.bool (freeB s.sh c)) := by
 have hl := shD_len s.sh
 obtain ⟨w, d, sh⟩ := s
 dsimp only at hb
 have hw := wrap_i64 (z := (sh.length : Int) - 1) (by omega) (by omega)
 simp only [SkyW.c, freeB] at *
 cases h1 : rI c 0 ((sh.length : Int) - 1)
 ·refine pure_of_wc (rs := [.tmp 4]) (m := 19) [] e1_ok (by kernel_rfl) Tryz.func37 rfl (by kernel_rfl) rfl rfl (by kernel_rfl) ?_
  simp only [RT, FS, ↓RE, okR, argEnv, Nat.reduceAdd, Nat.reduceSub, Nat.reduceLT, Nat.reduceLeDiff, Nat.reduceEqDiff, reduceIte, List.length_map, gI3_eq, hw, h1, Bool.false_and]
 obtain ⟨i, rfl, hi⟩ := free_ix h1
 have hx := shD_ix hi
 refine pure_of_wc (rs := [.tmp 4]) (m := 19) [] e1_ok (by kernel_rfl) Tryz.func37 rfl (by kernel_rfl) rfl rfl (by kernel_rfl) ?_
 simp only [RT, FS, ↓RE, okR, argEnv, Nat.reduceAdd, Nat.reduceSub, Nat.reduceLT, Nat.reduceLeDiff, Nat.reduceEqDiff, reduceIte, List.length_map, gI3_eq, hw, h1, hx, Bool.true_and]
end Go.Sx

namespace Go.Sx
open Go.Proofs
set_option maxRecDepth 10000

theorem all_take {α : Type} {p : α → Bool} {l : List α} {i : Nat} {x : α} (hx : l[i]? = some x) (h : (l.take i).all p = true) (hp : p x = true) : (l.take (i + 1)).all p = true := by
 rw [List.take_add_one, hx]; simp [h, hp]
def firstI {α : Type} (p : α → Bool) : List α → Nat → Int
 | [], _ => -1
 | x :: r, i => if p x then (i : Int) else firstI p r (i + 1)
theorem firstI_none {α : Type} {p : α → Bool} : ∀ {l : List α} {i : Nat}, l.all (fun x => !p x) = true → firstI p l i = -1
 | [], _, _ => rfl
 | x :: r, i, h => by
  simp only [List.all_cons, Bool.and_eq_true, Bool.not_eq_true'] at h
  simp only [firstI, h.1, Bool.false_eq_true, if_false]
  exact firstI_none h.2
theorem firstI_at {α : Type} {p : α → Bool} : ∀ {l : List α} {i j : Nat} {x : α}, (l.take i).all (fun x => !p x) = true → l[i]? = some x → p x = true → firstI p l j = ((j + i : Nat) : Int)
 | [], i, j, x, _, h, _ => by simp at h
 | y :: r, 0, j, x, _, h, hp => by simp at h; subst h; simp [firstI, hp]
 | y :: r, i + 1, j, x, ha, h, hp => by
  simp only [List.take_succ_cons, List.all_cons, Bool.and_eq_true, Bool.not_eq_true'] at ha
  simp only [firstI, ha.1, Bool.false_eq_true, if_false]
  rw [firstI_at (j := j + 1) ha.2 (by simpa using h) hp]
  congr 1; omega
theorem firstI_ge {α : Type} {p : α → Bool} : ∀ (l : List α) (i : Nat), decide (0 ≤ firstI p l i) = l.any p
 | [], _ => rfl
 | x :: r, i => by
  simp only [firstI, List.any_cons]
  by_cases h : p x = true
  ·simp [h]
  ·have h' : p x = false := by simpa using h
   simp only [h', Bool.false_eq_true, if_false, Bool.false_or]
   exact firstI_ge r (i + 1)
theorem BL.map {α β : Type} {l : List α} (h : BL l) (f : α → β) : (l.map f).length ≤ 9223372036854775807 := by rw [List.length_map]; exact h
theorem nat_lt_false {i n : Nat} (h : n ≤ i) : ((i : Int) < (n : Int)) = False := by simp; omega
theorem nat_lt_true {i n : Nat} (h : i < n) : ((i : Int) < (n : Int)) = True := by simp; omega

abbrev spD (l : List (Int × Int)) : D := .sl (l.map enS.d)
def spBad (s : Int × Int) : Bool := decide (s.1 < 0) || (decide (s.2 < s.1) || decide (1440 < s.2))
def openB (l : List (Int × Int)) : Bool := decide ((l.length : Int) ≤ 6) && !(l.any spBad)
theorem wsp_ix (l : List _) (x : D) (hx : En.sl enS x = some l) (g : FuncId) (caps : List D) (q : _ → Bool) (hl : l.length ≤ 9223372036854775807) (hcl : ∀ m, D.ltL m caps = true) (hcv : ∀ h, viewL h caps = caps)
  (hq : ∀ a ∈ l, Pure Tryz.prog g (.agg (enS.d a) :: caps) (.bool (q a))) : Pure Tryz.prog 98 [x, .fn (.func g) [] caps] (.int .i64 (firstI q l 0)) := by
 have lx := fun hp => En.len (P := Tryz.prog) Fz.und_80 hx hp
 have vx := En.lt hx
 refine pure_of_wc (rs := [.tmp 4]) (m := 19) [] oNone_ok (by kernel_rfl) Tryz.func98 rfl (by kernel_rfl) rfl rfl (by kernel_rfl) ?_
 simp only [RT, FS, ↓RE, okR, argEnv, Nat.reduceAdd, Nat.reduceSub, Nat.reduceLT, Nat.reduceLeDiff, Nat.reduceEqDiff, reduceIte, lx]
 refine loopV (ι := Nat) oNone_ok [] (fun i => [(0, x), (1, .fn (.func g) [] caps), (7, .int .i64 (l.length : Int)), (8, .int .i64 (i : Int))])
  (fun i => []) 0 (fun i => i ≤ l.length ∧ (l.take i).all (fun r => !(q r)) = true) (fun i => l.length - i) 0 (by kernel_rfl) (by kernel_rfl) ⟨Nat.zero_le _, by simp⟩ ?_ ?_
 ·simp [headW, heapW, envW, blkLt, D.ltL, D.lt, look, hget, vx, hcl]
 rintro i ⟨hil, hok⟩
 rcases Nat.lt_or_ge i l.length with hlt | hge
 ·have hc : ((i : Int) < (l.length : Int)) = True := by simp [hlt]
  obtain ⟨r, hr⟩ : ∃ r, l[i]? = some r := ⟨l[i], by simp [hlt]⟩
  have hix := fun hp => En.ix (P := Tryz.prog) Fz.und_80 Fz.size_99 hx hr hp .i64
  have hw := wrap_i64 (z := (i : Int) + 1) (by omega) (by omega)
  have hqr := hq r (List.mem_of_getElem? hr)
  simp only [enS] at hix hqr
  simp only [RT, FS, ↓RE, okR, argEnv, Nat.reduceAdd, Nat.reduceSub, Nat.reduceLT, Nat.reduceLeDiff, Nat.reduceEqDiff, reduceIte, hix, hc, decide_true, List.nil_append, List.cons_append, hcv]
  refine call_of_pure hqr rfl ?_
  cases hm : q r
  ·simp only [RT, FS, ↓RE, okR, argEnv, Nat.reduceAdd, Nat.reduceSub, Nat.reduceLT, Nat.reduceLeDiff, Nat.reduceEqDiff, reduceIte, hw]
   exact ⟨i + 1, ⟨by omega, all_take hr hok (by simp [hm])⟩, by omega, by simp [headW, heapW, envW, blkLt, D.ltL, D.lt, look, hget, vx, hcl]⟩
  ·simp only [RT, FS, ↓RE, okR, argEnv, Nat.reduceAdd, Nat.reduceSub, Nat.reduceLT, Nat.reduceLeDiff, Nat.reduceEqDiff, reduceIte, hw]
   rw [firstI_at hok hr (by simp [hm])]; simp
 ·have hc : ((i : Int) < (l.length : Int)) = False := by simp; omega
  have : i = l.length := by omega
  subst this
  rw [List.take_length] at hok
  simp only [RT, FS, ↓RE, okR, argEnv, Nat.reduceAdd, Nat.reduceSub, Nat.reduceLT, Nat.reduceLeDiff, Nat.reduceEqDiff, reduceIte, hc, decide_false]
  rw [firstI_none hok]
theorem wsp_has (l : List _) (x : D) (hx : En.sl enS x = some l) (g : FuncId) (caps : List D) (q : _ → Bool) (hl : l.length ≤ 9223372036854775807) (hcl : ∀ m, D.ltL m caps = true) (hcv : ∀ h, viewL h caps = caps)
  (hq : ∀ a ∈ l, Pure Tryz.prog g (.agg (enS.d a) :: caps) (.bool (q a))) : Pure Tryz.prog 93 [x, .fn (.func g) [] caps] (.bool (l.any q)) := by
 have vx := fun h => En.view hx h
 refine pure_of_wc (rs := [.tmp 4]) (m := 9) [] oNone_ok (by kernel_rfl) Tryz.func93 rfl (by kernel_rfl) rfl rfl (by kernel_rfl) ?_
 simp only [RT, FS, ↓RE, okR, argEnv, Nat.reduceAdd, Nat.reduceSub, Nat.reduceLT, Nat.reduceLeDiff, Nat.reduceEqDiff, reduceIte, vx, view_fn, hcv]
 refine call_of_pure (wsp_ix l x hx g caps q hl hcl hcv hq) rfl ?_
 simp only [RT, FS, ↓RE, okR, argEnv, Nat.reduceAdd, Nat.reduceSub, Nat.reduceLT, Nat.reduceLeDiff, Nat.reduceEqDiff, reduceIte, firstI_ge]

theorem spD_ix {l : List (Int × Int)} {i : Nat} {a b : Int} (hb : l[i]? = some (a, b)) (h : H) : indexAddrD Tryz.prog h 80 (spD l) (.int .i64 (i : Int)) = some (.ref [.int .i64 a, .int .i64 b] 0) := En.ix (P := Tryz.prog) Fz.und_80 Fz.size_99 (E := enS) (En.sl_map (E := enS) l) hb h .i64
theorem w_open1_t (s : Int × Int) : Pure Tryz.prog 94 [.agg (enS.d s)] (.bool (spBad s)) := by
 obtain ⟨a, b⟩ := s
 simp only [enS, spBad]
 refine pure_of_wc (rs := [.tmp 2]) (m := 18) [] oNone_ok (by kernel_rfl) Tryz.func94 rfl (by kernel_rfl) rfl rfl (by kernel_rfl) ?_
 simp only [RT, FS, ↓RE, okR, argEnv, Nat.reduceAdd, Nat.reduceSub, Nat.reduceLT, Nat.reduceLeDiff, Nat.reduceEqDiff, reduceIte]
 cases h1 : decide (a < 0) <;> cases h2 : decide (b < a) <;> cases h3 : decide (1440 < b) <;> simp [BR]
theorem w_open_t (l : List (Int × Int)) (h : BL l) : Pure Tryz.prog 86 [spD l] (.bool (openB l)) := by
 have hp := wsp_has l (spD l) (En.sl_map (E := enS) l) 94 [] spBad h (fun _ => rfl) (fun _ => rfl) (fun a _ => w_open1_t a)
 have hl := fun hp => En.len (P := Tryz.prog) Fz.und_80 (En.sl_map (E := enS) l) hp
 unfold openB
 cases h1 : decide ((l.length : Int) ≤ 6)
 ·refine pure_of_wc (rs := [.tmp 2]) (m := 11) [] oNone_ok (by kernel_rfl) Tryz.func86 rfl (by kernel_rfl) rfl rfl (by kernel_rfl) ?_
  simp only [RT, FS, ↓RE, okR, argEnv, Nat.reduceAdd, Nat.reduceSub, Nat.reduceLT, Nat.reduceLeDiff, Nat.reduceEqDiff, reduceIte, List.length_map, h1, Bool.false_and]
 ·refine pure_of_wc (rs := [.tmp 2]) (m := 11) [] oNone_ok (by kernel_rfl) Tryz.func86 rfl (by kernel_rfl) rfl rfl (by kernel_rfl) ?_
  simp only [RT, FS, ↓RE, okR, argEnv, Nat.reduceAdd, Nat.reduceSub, Nat.reduceLT, Nat.reduceLeDiff, Nat.reduceEqDiff, reduceIte, List.length_map, h1, Bool.true_and]
  refine call_of_pure hp rfl ?_
  simp only [RT, FS, ↓RE, okR, argEnv, Nat.reduceAdd, Nat.reduceSub, Nat.reduceLT, Nat.reduceLeDiff, Nat.reduceEqDiff, reduceIte, Bool.true_and]
theorem spBad_ref (a b : Int) : (!(rI a 0 1440) || (!(rI b 0 1440) || decide (b < a))) = spBad (a, b) := by
 rw [Bool.eq_iff_iff]
 simp [rI, spBad]
 omega
def gMin : List D → Option D
 | [.int .i64 x] => some (.bool (rI x 0 1440))
 | _ => none
theorem gMin_eq (x : Int) : gMin [.int .i64 x] = some (.bool (rI x 0 1440)) := (rfl)
theorem gMin_inv {ds : List D} {r : D} (h : gMin ds = some r) : ∃ x, ds = [.int .i64 x] ∧ r = .bool (rI x 0 1440) := by
 unfold gMin at h
 split at h
 ·cases h; exact ⟨_, rfl, rfl⟩
 ·cases h
abbrev e2 : List (FuncId × (List D → Option D)) := (48, gMin) :: (41, gMin) :: e1
theorem e2_ok : OkO Tryz.prog (mkO e2) :=
 mkO_ok (fun ds r h => by obtain ⟨x, rfl, rfl⟩ := gMin_inv h; exact w_minute_t x) <| mkO_ok (fun ds r h => by obtain ⟨x, rfl, rfl⟩ := gMin_inv h; exact r_Minute_t x) e1_ok
theorem any_out {α : Type} {p : α → Bool} {l : List α} {i : Nat} {x : α} (hx : l[i]? = some x) (hp : p x = true) : l.any p = true :=
 List.any_eq_true.2 ⟨x, List.mem_of_getElem? hx, hp⟩
theorem any_none {α : Type} {p : α → Bool} {l : List α} (h : l.all (fun x => !p x) = true) : l.any p = false := by
 rw [List.any_eq_false]; intro x hx; simpa using List.all_eq_true.1 h x hx
theorem r_open_t (l : List (Int × Int)) (h : BL l) : Pure Tryz.prog 68 [spD l] (.bool (openB l)) := by
 have hl := fun hp => En.len (P := Tryz.prog) Fz.und_80 (En.sl_map (E := enS) l) hp
 refine pure_of_wc (rs := [.tmp 2]) (m := 42) [(4, [(29, false, false, [])])] e2_ok (by kernel_rfl) Tryz.func68 rfl (by kernel_rfl) rfl rfl (by kernel_rfl) ?_
 simp only [RT, FS, ↓RE, okR, argEnv, Nat.reduceAdd, Nat.reduceSub, Nat.reduceLT, Nat.reduceLeDiff, Nat.reduceEqDiff, reduceIte]
 refine loopV (ι := Nat) e2_ok [(4, [(29, false, false, [])])] (fun i => [(0, spD l), (3, .int .i64 (i : Int))]) (fun i => []) 0 (fun i => i ≤ l.length ∧ (l.take i).all (fun s => !spBad s) = true) (fun i => l.length - i) 0 (by kernel_rfl) (by kernel_rfl) ⟨Nat.zero_le _, by simp⟩ ?_ ?_
 ·simp [headW, heapW, envW, blkLt, D.ltL, D.lt, look, hget]
 rintro i ⟨hil, hok⟩
 rcases Nat.lt_or_ge i l.length with hlt | hge
 ·have hc := nat_lt_true hlt
  obtain ⟨⟨a, b⟩, hr⟩ : ∃ r, l[i]? = some r := ⟨l[i], by simp [hlt]⟩
  have hix := spD_ix hr
  have hw1 := wrap_i64 (z := (i : Int) + 1) (by omega) (by omega)
  have hb := spBad_ref a b
  cases hq : spBad (a, b)
  ·rw [hq] at hb
   simp only [Bool.or_eq_false_iff, Bool.not_eq_false'] at hb
   simp only [RT, FS, ↓RE, okR, argEnv, Nat.reduceAdd, Nat.reduceSub, Nat.reduceLT, Nat.reduceLeDiff, Nat.reduceEqDiff, reduceIte, List.length_map, hix, hc, decide_true, gMin_eq, hb.1, hb.2.1, hb.2.2, hw1, Bool.not_true]
   exact ⟨i + 1, ⟨by omega, all_cut hr hok (by simp [hq])⟩, by omega, by simp [headW, heapW, envW, blkLt, D.ltL, D.lt, look, hget]⟩
  ·rw [hq] at hb
   have ho : openB l = false := by simp only [openB, any_out hr hq, Bool.not_true, Bool.and_false]
   rw [ho]
   cases h1 : rI a 0 1440
   ·simp only [RT, FS, ↓RE, okR, argEnv, Nat.reduceAdd, Nat.reduceSub, Nat.reduceLT, Nat.reduceLeDiff, Nat.reduceEqDiff, reduceIte, List.length_map, hix, hc, decide_true, gMin_eq, h1, hw1, Bool.not_true, Bool.not_false]
   cases h2 : rI b 0 1440
   ·simp only [RT, FS, ↓RE, okR, argEnv, Nat.reduceAdd, Nat.reduceSub, Nat.reduceLT, Nat.reduceLeDiff, Nat.reduceEqDiff, reduceIte, List.length_map, hix, hc, decide_true, gMin_eq, h1, h2, hw1, Bool.not_true, Bool.not_false]
   have h3 : decide (b < a) = true := by simpa [h1, h2] using hb
   simp only [RT, FS, ↓RE, okR, argEnv, Nat.reduceAdd, Nat.reduceSub, Nat.reduceLT, Nat.reduceLeDiff, Nat.reduceEqDiff, reduceIte, List.length_map, hix, hc, decide_true, gMin_eq, h1, h2, h3, hw1, Bool.not_true, Bool.not_false]
 ·have hc := nat_lt_false hge
  have : i = l.length := by omega
  subst this
  rw [List.take_length] at hok
  have ha := any_none hok
  simp only [RT, FS, ↓RE, okR, argEnv, Nat.reduceAdd, Nat.reduceSub, Nat.reduceLT, Nat.reduceLeDiff, Nat.reduceEqDiff, reduceIte, List.length_map, hc, decide_false, openB, ha, Bool.not_false, Bool.and_true]
end Go.Sx

namespace Go.Sx
open Go.Proofs
set_option maxRecDepth 10000

structure RelayW where
 c : Int
 r : Int
 l : List (Int × Int)
structure LinkW where
 f : Int
 t : Int
 d : Int
 l : List (Int × Int)
def decRl : List D → Option RelayW
 | [.int .i64 c, .int .i64 r, .sl es] => match enS.decL es with
  | some l => some ⟨c, r, l⟩
  | none => none
 | _ => none
def decLk : List D → Option LinkW
 | [.int .i64 f, .int .i64 t, .int .i64 d, .sl es] => match enS.decL es with
  | some l => some ⟨f, t, d, l⟩
  | none => none
 | _ => none
def enRl : En RelayW where
 d r := [.int .i64 r.c, .int .i64 r.r, spD r.l]
 dec := decRl
 h1 r := by simp only [decRl, spD, En.decL_map]
 h2 c a h := by
  unfold decRl at h
  split at h
  ·split at h
   ·rename_i l hl
    cases h
    rw [En.decL_inv hl]
   ·cases h
  ·cases h
 sz := 3
 hsz _ := rfl
def enLk : En LinkW where
 d r := [.int .i64 r.f, .int .i64 r.t, .int .i64 r.d, spD r.l]
 dec := decLk
 h1 r := by simp only [decLk, spD, En.decL_map]
 h2 c a h := by
  unfold decLk at h
  split at h
  ·split at h
   ·rename_i l hl
    cases h
    rw [En.decL_inv hl]
   ·cases h
  ·cases h
 sz := 4
 hsz _ := rfl
abbrev rlD (l : List RelayW) : D := .sl (l.map enRl.d)
abbrev lkD (l : List LinkW) : D := .sl (l.map enLk.d)
structure NetW where
 r : List RelayW
 l : List LinkW
def NetW.c (n : NetW) : List D := [rlD n.r, lkD n.l]
structure NetL (n : NetW) : Prop where
 r : BL n.r
 l : BL n.l
 ro : ∀ x ∈ n.r, BL x.l
 lo : ∀ x ∈ n.l, BL x.l
theorem rlD_ix {l : List RelayW} {i : Nat} {a : RelayW} (hb : l[i]? = some a) (h : H) : indexAddrD Tryz.prog h 25 (rlD l) (.int .i64 (i : Int)) = some (.ref [.int .i64 a.c, .int .i64 a.r, spD a.l] 0) := En.ix (P := Tryz.prog) Fz.und_25 Fz.size_82 (E := enRl) (En.sl_map (E := enRl) l) hb h .i64
theorem lkD_ix {l : List LinkW} {i : Nat} {a : LinkW} (hb : l[i]? = some a) (h : H) : indexAddrD Tryz.prog h 26 (lkD l) (.int .i64 (i : Int)) = some (.ref [.int .i64 a.f, .int .i64 a.t, .int .i64 a.d, spD a.l] 0) := En.ix (P := Tryz.prog) Fz.und_26 Fz.size_84 (E := enLk) (En.sl_map (E := enLk) l) hb h .i64
def relayB (N : Int) (r : RelayW) : Bool := rI r.c 0 (N - 1) && (rI r.r 0 12 && openB r.l)
def linkB (K : Int) (l : LinkW) : Bool := rI l.f 0 (K - 1) && (rI l.t 0 (K - 1) && (!(decide (l.f = l.t)) && (rI l.d 0 1440 && openB l.l)))
def netB (sh : List Bool) (n : NetW) : Bool := n.r.all (relayB sh.length) && (n.l.all (linkB n.r.length) && (rI n.r.length 1 8 && decide ((n.l.length : Int) ≤ 20)))
def gOpen : List D → Option D := orc (fun | [.sl es] => enS.decL es | _ => none) (fun l => decide (BL l)) (fun l => .bool (openB l))
theorem gOpen_eq {l : List (Int × Int)} (h : BL l) : gOpen [spD l] = some (.bool (openB l)) := orc_eq (En.decL_map l) (by simpa using h)
abbrev e3 : List (FuncId × (List D → Option D)) := (86, gOpen) :: (68, gOpen) :: e2
theorem gOpen_inv {ds : List D} {l : List (Int × Int)} (h : (match ds with | [.sl es] => enS.decL es | _ => none) = some l) : ds = [spD l] := by
 split at h
 ·rw [En.decL_inv h]
 ·cases h
theorem e3_ok : OkO Tryz.prog (mkO e3) :=
 mkO_ok (orc_ok fun ds l h hok => by rw [gOpen_inv h]; exact w_open_t l (by simpa using hok)) <| mkO_ok (orc_ok fun ds l h hok => by rw [gOpen_inv h]; exact r_open_t l (by simpa using hok)) e2_ok
set_option maxHeartbeats 2000000 in
theorem w_net_t (s : SkyW) (hs : BL s.sh) (n : NetW) (hn : NetL n) : Pure Tryz.prog 69 [.agg s.c, .agg n.c] (.bool (netB s.sh n)) := by
 obtain ⟨w, d, sh⟩ := s
 obtain ⟨rl, lk⟩ := n
 obtain ⟨h1, h2, h3, h4⟩ := hn
 dsimp only at hs h1 h2 h3 h4
 have hsl := shD_len sh
 have hw0 := wrap_i64 (z := (sh.length : Int) - 1) (by omega) (by omega)
 have hw9 := wrap_i64 (z := (rl.length : Int) - 1) (by omega) (by omega)
 simp only [SkyW.c, NetW.c, netB]
 refine pure_of_wc (rs := [.tmp 4]) (m := 92) [] e3_ok (by kernel_rfl) Tryz.func69 rfl (by kernel_rfl) rfl rfl (by kernel_rfl) ?_
 simp only [RT, FS, ↓RE, okR, argEnv, Nat.reduceAdd, Nat.reduceSub, Nat.reduceLT, Nat.reduceLeDiff, Nat.reduceEqDiff, reduceIte, List.length_map]
 refine loopV (ι := Nat) e3_ok [] (fun i => [(2, .ptr 0 0), (3, .ptr 1 0), (10, rlD rl), (11, .int .i64 (rl.length : Int)), (12, .int .i64 (i : Int))])
  (fun i => [(1, .box [rlD rl, lkD lk]), (0, .box [.int .i64 w, .int .i64 d, shD sh])]) 2 (fun i => i ≤ rl.length ∧ (rl.take i).all (relayB sh.length) = true) (fun i => rl.length - i) 0 (by kernel_rfl) (by kernel_rfl) ⟨Nat.zero_le _, by simp⟩ ?_ ?_
 ·simp [headW, heapW, envW, blkLt, D.ltL, D.lt, look, hget, shD]
 rintro i ⟨hil, hok⟩
 rcases Nat.lt_or_ge i rl.length with hlt | hge
 ·have hc := nat_lt_true hlt
  obtain ⟨r, hr⟩ : ∃ r, rl[i]? = some r := ⟨rl[i], by simp [hlt]⟩
  have hix := rlD_ix hr
  have hop := gOpen_eq (h3 r (List.mem_of_getElem? hr))
  have hw1 := wrap_i64 (z := (i : Int) + 1) (by omega) (by omega)
  cases hq : relayB sh.length r
  ·rw [all_out hr hq]
   simp only [Bool.false_and]
   cases q1 : rI r.c 0 ((sh.length : Int) - 1)
   ·simp only [RT, FS, ↓RE, okR, argEnv, Nat.reduceAdd, Nat.reduceSub, Nat.reduceLT, Nat.reduceLeDiff, Nat.reduceEqDiff, reduceIte, hix, hc, decide_true, List.length_map, hw0, gI3_eq, q1, Bool.not_false, Bool.not_true]
   cases q2 : rI r.r 0 12
   ·simp only [RT, FS, ↓RE, okR, argEnv, Nat.reduceAdd, Nat.reduceSub, Nat.reduceLT, Nat.reduceLeDiff, Nat.reduceEqDiff, reduceIte, hix, hc, decide_true, List.length_map, hw0, gI3_eq, q1, q2, Bool.not_false, Bool.not_true]
   have q3 : openB r.l = false := by simpa [relayB, q1, q2] using hq
   simp only [RT, FS, ↓RE, okR, argEnv, Nat.reduceAdd, Nat.reduceSub, Nat.reduceLT, Nat.reduceLeDiff, Nat.reduceEqDiff, reduceIte, hix, hc, decide_true, List.length_map, hw0, gI3_eq, q1, q2, q3, hop, Bool.not_false, Bool.not_true]
  ·have hq' := hq
   simp only [relayB, Bool.and_eq_true] at hq'
   simp only [RT, FS, ↓RE, okR, argEnv, Nat.reduceAdd, Nat.reduceSub, Nat.reduceLT, Nat.reduceLeDiff, Nat.reduceEqDiff, reduceIte, hix, hc, decide_true, List.length_map, hw0, gI3_eq, hq'.1, hq'.2.1, hq'.2.2, hop, hw1, Bool.not_false, Bool.not_true]
   exact ⟨i + 1, ⟨by omega, all_cut hr hok hq⟩, by omega, by simp [headW, heapW, envW, blkLt, D.ltL, D.lt, look, hget, shD]⟩
 have hc := nat_lt_false hge
 have : i = rl.length := by omega
 subst this
 rw [List.take_length] at hok
 rw [hok, Bool.true_and]
 simp only [RT, FS, ↓RE, okR, argEnv, Nat.reduceAdd, Nat.reduceSub, Nat.reduceLT, Nat.reduceLeDiff, Nat.reduceEqDiff, reduceIte, hc, decide_false, List.length_map]
 refine loopV (ι := Nat) e3_ok [] (fun i => [(2, .ptr 0 0), (3, .ptr 1 0), (38, lkD lk), (39, .int .i64 (lk.length : Int)), (40, .int .i64 (i : Int))])
  (fun i => [(1, .box [rlD rl, lkD lk]), (0, .box [.int .i64 w, .int .i64 d, shD sh])]) 2 (fun i => i ≤ lk.length ∧ (lk.take i).all (linkB rl.length) = true) (fun i => lk.length - i) 0 (by kernel_rfl) (by kernel_rfl) ⟨Nat.zero_le _, by simp⟩ ?_ ?_
 ·simp [headW, heapW, envW, blkLt, D.ltL, D.lt, look, hget, shD]
 rintro i ⟨hil, hok2⟩
 rcases Nat.lt_or_ge i lk.length with hlt | hge
 ·have hc := nat_lt_true hlt
  obtain ⟨r, hr⟩ : ∃ r, lk[i]? = some r := ⟨lk[i], by simp [hlt]⟩
  have hix := lkD_ix hr
  have hop := gOpen_eq (h4 r (List.mem_of_getElem? hr))
  have hw1 := wrap_i64 (z := (i : Int) + 1) (by omega) (by omega)
  cases hq : linkB rl.length r
  ·rw [all_out hr hq]
   simp only [Bool.false_and]
   cases q1 : rI r.f 0 ((rl.length : Int) - 1)
   ·simp only [RT, FS, ↓RE, okR, argEnv, Nat.reduceAdd, Nat.reduceSub, Nat.reduceLT, Nat.reduceLeDiff, Nat.reduceEqDiff, reduceIte, hix, hc, decide_true, List.length_map, hw9, gI3_eq, q1, Bool.not_false, Bool.not_true]
   cases q2 : rI r.t 0 ((rl.length : Int) - 1)
   ·simp only [RT, FS, ↓RE, okR, argEnv, Nat.reduceAdd, Nat.reduceSub, Nat.reduceLT, Nat.reduceLeDiff, Nat.reduceEqDiff, reduceIte, hix, hc, decide_true, List.length_map, hw9, gI3_eq, q1, q2, Bool.not_false, Bool.not_true]
   cases q3 : decide (r.f = r.t)
   case true => simp only [RT, FS, ↓RE, okR, argEnv, Nat.reduceAdd, Nat.reduceSub, Nat.reduceLT, Nat.reduceLeDiff, Nat.reduceEqDiff, reduceIte, hix, hc, decide_true, List.length_map, hw9, gI3_eq, q1, q2, q3, beq_dec, Bool.not_false, Bool.not_true]
   cases q4 : rI r.d 0 1440
   ·simp only [RT, FS, ↓RE, okR, argEnv, Nat.reduceAdd, Nat.reduceSub, Nat.reduceLT, Nat.reduceLeDiff, Nat.reduceEqDiff, reduceIte, hix, hc, decide_true, List.length_map, hw9, gI3_eq, gMin_eq, q1, q2, q3, q4, beq_dec, Bool.not_false, Bool.not_true]
   have q5 : openB r.l = false := by simpa [linkB, q1, q2, q3, q4] using hq
   simp only [RT, FS, ↓RE, okR, argEnv, Nat.reduceAdd, Nat.reduceSub, Nat.reduceLT, Nat.reduceLeDiff, Nat.reduceEqDiff, reduceIte, hix, hc, decide_true, List.length_map, hw9, gI3_eq, gMin_eq, q1, q2, q3, q4, q5, hop, beq_dec, Bool.not_false, Bool.not_true]
  ·have hq' := hq
   simp only [linkB, Bool.and_eq_true, Bool.not_eq_true'] at hq'
   simp only [RT, FS, ↓RE, okR, argEnv, Nat.reduceAdd, Nat.reduceSub, Nat.reduceLT, Nat.reduceLeDiff, Nat.reduceEqDiff, reduceIte, hix, hc, decide_true, List.length_map, hw9, gI3_eq, gMin_eq, hq'.1, hq'.2.1, hq'.2.2.1, hq'.2.2.2.1, hq'.2.2.2.2, hop, hw1, beq_dec, Bool.not_false, Bool.not_true]
   exact ⟨i + 1, ⟨by omega, all_cut hr hok2 hq⟩, by omega, by simp [headW, heapW, envW, blkLt, D.ltL, D.lt, look, hget, shD]⟩
 have hc := nat_lt_false hge
 have : i = lk.length := by omega
 subst this
 rw [List.take_length] at hok2
 rw [hok2, Bool.true_and]
 cases q1 : rI (rl.length : Int) 1 8
 ·simp only [RT, FS, ↓RE, okR, argEnv, Nat.reduceAdd, Nat.reduceSub, Nat.reduceLT, Nat.reduceLeDiff, Nat.reduceEqDiff, reduceIte, hc, decide_false, List.length_map, gI3_eq, q1, Bool.false_and]
 simp only [RT, FS, ↓RE, okR, argEnv, Nat.reduceAdd, Nat.reduceSub, Nat.reduceLT, Nat.reduceLeDiff, Nat.reduceEqDiff, reduceIte, hc, decide_false, List.length_map, gI3_eq, q1, Bool.true_and]
end Go.Sx
