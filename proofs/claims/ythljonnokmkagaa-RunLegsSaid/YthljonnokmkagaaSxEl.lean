/- Own work: a calculus of contracts for the programs of this kit: parts SxE70r, SxE71r. -/
import Derived.Test.YthljonnokmkagaaSxEh
import Derived.Test.YthljonnokmkagaaSxZ17
set_option linter.unusedVariables false
set_option linter.unusedSimpArgs false
namespace Go.Sx
open Go.Proofs
set_option maxRecDepth 10000

theorem all_take {α : Type} {p : α → Bool} {l : List α} {i : Nat} {x : α} (hx : l[i]? = some x) (h : (l.take i).all p = true) (hp : p x = true) : (l.take (i + 1)).all p = true := by
  rw [List.take_add_one, hx]; simp [h, hp]
/-- The first place at which something holds; -1, if there is none. -/
def firstI {α : Type} (p : α → Bool) : List α → Nat → Int
  | [], _ => -1
  | x :: r, i => if p x then (i : Int) else firstI p r (i + 1)
theorem firstI_none {α : Type} {p : α → Bool} : ∀ {l : List α} {i : Nat}, l.all (fun x => !p x) = true → firstI p l i = -1
  | [], _, _ => rfl
  | x :: r, i, h => by
    simp only [List.all_cons, Bool.and_eq_true, Bool.not_eq_true'] at h
    simp only [firstI, h.1, Bool.false_eq_true, if_false]
    exact firstI_none h.2
theorem firstI_at {α : Type} {p : α → Bool} : ∀ {l : List α} {i j : Nat} {x : α}, (l.take i).all (fun x => !p x) = true → l[i]? = some x → p x = true → firstI p l j = ((j + i : Nat) : Int)
  | [], i, j, x, _, h, _ => by simp at h
  | y :: r, 0, j, x, _, h, hp => by simp at h; subst h; simp [firstI, hp]
  | y :: r, i + 1, j, x, ha, h, hp => by
    simp only [List.take_succ_cons, List.all_cons, Bool.and_eq_true, Bool.not_eq_true'] at ha
    simp only [firstI, ha.1, Bool.false_eq_true, if_false]
    rw [firstI_at (j := j + 1) ha.2 (by simpa using h) hp]
    congr 1; omega
theorem firstI_ge {α : Type} {p : α → Bool} : ∀ (l : List α) (i : Nat), decide (0 ≤ firstI p l i) = l.any p
  | [], _ => rfl
  | x :: r, i => by
    simp only [firstI, List.any_cons]
    by_cases h : p x = true
    · simp [h]
    · have h' : p x = false := by simpa using h
      simp only [h', Bool.false_eq_true, if_false, Bool.false_or]
      exact firstI_ge r (i + 1)

/-! Points of a leg -/
structure FixW where
  cell : Int
  h : Int
  w : SpI
def decFix : List D → Option FixW
  | [.int .i64 a, .int .i64 b, .int .i64 c, .int .i64 d] => some ⟨a, b, ⟨c, d⟩⟩
  | _ => none
def enFix : En FixW where
  d := fun f => [.int .i64 f.cell, .int .i64 f.h, .int .i64 f.w.lo, .int .i64 f.w.hi]
  dec := decFix
  h1 _ := rfl
  h2 c a h := by
    unfold decFix at h
    split at h
    · cases h; rfl
    · cases h
  sz := 4
  hsz _ := rfl
def fixL (l : List FixW) : List (List D) := l.map enFix.d
theorem fixL_len (l : List FixW) : (fixL l).length = l.length := by simp [fixL]
theorem sF_ix {l : List FixW} {i : Nat} {f : FixW} (hx : l[i]? = some f) (h : H) : indexAddrD Try.prog h 96 (.sl (fixL l)) (.int .i64 (i : Int)) = some (.ref [.int .i64 f.cell, .int .i64 f.h, .int .i64 f.w.lo, .int .i64 f.w.hi] 0) := by
  simpa [enFix, fixL] using En.ix (P := Try.prog) Fz.und_96 Fz.size_99 (E := enFix) (En.sl_map (E := enFix) l) hx h .i64
theorem fx_ix (l : List _) (x : D) (hx : En.sl enFix x = some l) (g : FuncId) (caps : List D) (q : _ → Bool) (hl : l.length ≤ 9223372036854775807) (hcl : ∀ m, D.ltL m caps = true) (hcv : ∀ h, viewL h caps = caps)
    (hq : ∀ a ∈ l, Pure Try.prog g (.agg (enFix.d a) :: caps) (.bool (q a))) : Pure Try.prog 128 [x, .fn (.func g) [] caps] (.int .i64 (firstI q l 0)) := by
  have lx := fun hp => En.len (P := Try.prog) Fz.und_96 hx hp
  have vx := En.lt hx
  refine pure_of_wc (rs := [.tmp 4]) (m := 19) [] oNone_ok (by kernel_rfl) Try.func128 rfl (by kernel_rfl) rfl rfl (by kernel_rfl) ?_
  simp only [RT, FS, ↓RE, okR, argEnv, Nat.reduceAdd, Nat.reduceSub, Nat.reduceLT, Nat.reduceLeDiff, Nat.reduceEqDiff, reduceIte, lx]
  refine loopV (ι := Nat) oNone_ok [] (fun i => [(0, x), (1, .fn (.func g) [] caps), (7, .int .i64 (l.length : Int)), (8, .int .i64 (i : Int))])
    (fun i => []) 0 (fun i => i ≤ l.length ∧ (l.take i).all (fun r => !(q r)) = true) (fun i => l.length - i) 0 (by kernel_rfl) (by kernel_rfl) ⟨Nat.zero_le _, by simp⟩ ?_ ?_
  · simp [headW, heapW, envW, blkLt, D.ltL, D.lt, look, hget, vx, hcl]
  rintro i ⟨hil, hok⟩
  rcases Nat.lt_or_ge i l.length with hlt | hge
  · have hc : ((i : Int) < (l.length : Int)) = True := by simp [hlt]
    obtain ⟨r, hr⟩ : ∃ r, l[i]? = some r := ⟨l[i], by simp [hlt]⟩
    have hix := fun hp => En.ix (P := Try.prog) Fz.und_96 Fz.size_99 hx hr hp .i64
    have hw := wrap_i64 (z := (i : Int) + 1) (by omega) (by omega)
    have hqr := hq r (List.mem_of_getElem? hr)
    simp only [enFix] at hix hqr
    simp only [RT, FS, ↓RE, okR, argEnv, Nat.reduceAdd, Nat.reduceSub, Nat.reduceLT, Nat.reduceLeDiff, Nat.reduceEqDiff, reduceIte, hix, hc, decide_true, List.nil_append, List.cons_append, hcv]
    refine call_of_pure hqr rfl ?_
    cases hm : q r
    · simp only [RT, FS, ↓RE, okR, argEnv, Nat.reduceAdd, Nat.reduceSub, Nat.reduceLT, Nat.reduceLeDiff, Nat.reduceEqDiff, reduceIte, hw]
      exact ⟨i + 1, ⟨by omega, all_take hr hok (by simp [hm])⟩, by omega, by simp [headW, heapW, envW, blkLt, D.ltL, D.lt, look, hget, vx, hcl]⟩
    · simp only [RT, FS, ↓RE, okR, argEnv, Nat.reduceAdd, Nat.reduceSub, Nat.reduceLT, Nat.reduceLeDiff, Nat.reduceEqDiff, reduceIte, hw]
      rw [firstI_at hok hr (by simp [hm])]; simp
  · have hc : ((i : Int) < (l.length : Int)) = False := by simp; omega
    have : i = l.length := by omega
    subst this
    rw [List.take_length] at hok
    simp only [RT, FS, ↓RE, okR, argEnv, Nat.reduceAdd, Nat.reduceSub, Nat.reduceLT, Nat.reduceLeDiff, Nat.reduceEqDiff, reduceIte, hc, decide_false]
    rw [firstI_none hok]
theorem fx_has (l : List _) (x : D) (hx : En.sl enFix x = some l) (g : FuncId) (caps : List D) (q : _ → Bool) (hl : l.length ≤ 9223372036854775807) (hcl : ∀ m, D.ltL m caps = true) (hcv : ∀ h, viewL h caps = caps)
    (hq : ∀ a ∈ l, Pure Try.prog g (.agg (enFix.d a) :: caps) (.bool (q a))) : Pure Try.prog 110 [x, .fn (.func g) [] caps] (.bool (l.any q)) := by
  have vx := fun h => En.view hx h
  refine pure_of_wc (rs := [.tmp 4]) (m := 9) [] oNone_ok (by kernel_rfl) Try.func110 rfl (by kernel_rfl) rfl rfl (by kernel_rfl) ?_
  simp only [RT, FS, ↓RE, okR, argEnv, Nat.reduceAdd, Nat.reduceSub, Nat.reduceLT, Nat.reduceLeDiff, Nat.reduceEqDiff, reduceIte, vx, view_fn, hcv]
  refine call_of_pure (fx_ix l x hx g caps q hl hcl hcv hq) rfl ?_
  simp only [RT, FS, ↓RE, okR, argEnv, Nat.reduceAdd, Nat.reduceSub, Nat.reduceLT, Nat.reduceLeDiff, Nat.reduceEqDiff, reduceIte, firstI_ge]

/-- Whether a point of a leg is as defined. -/
def fixB (l : LandM) (f : FixW) : Bool := cellB l f.cell && (rI f.h 0 20000 && rS f.w.lo f.w.hi 0 100000)
theorem leg1_t (l : LandM) (hl : LandL l) (f : FixW) : Pure Try.prog 111 [.agg (enFix.d f), .ref l.c 0] (.bool (!fixB l f)) := by
  have oc := gCe_eq hl f.cell
  have hlc : l.c = [.int .i64 l.wide, .int .i64 l.deep, .sl (intL l.ground), .sl (boolL l.water), .int .i64 l.clear] := rfl
  unfold fixB
  simp only [enFix]
  rw [hlc] at oc ⊢
  cases h1 : cellB l f.cell
  · rw [h1] at oc
    refine pure_of_wc (rs := [.tmp 3]) (m := 21) [] e4_ok (by kernel_rfl) Try.func111 rfl (by kernel_rfl) rfl rfl (by kernel_rfl) ?_
    simp only [RT, FS, ↓RE, okR, argEnv, Nat.reduceAdd, Nat.reduceSub, Nat.reduceLT, Nat.reduceLeDiff, Nat.reduceEqDiff, reduceIte, RM, oc]
    simp
  rw [h1] at oc
  cases h2 : rI f.h 0 20000
  · refine pure_of_wc (rs := [.tmp 3]) (m := 21) [] e4_ok (by kernel_rfl) Try.func111 rfl (by kernel_rfl) rfl rfl (by kernel_rfl) ?_
    simp only [RT, FS, ↓RE, okR, argEnv, Nat.reduceAdd, Nat.reduceSub, Nat.reduceLT, Nat.reduceLeDiff, Nat.reduceEqDiff, reduceIte, RM, oc, gI3_eq, h2]
    simp
  refine pure_of_wc (rs := [.tmp 3]) (m := 21) [] e4_ok (by kernel_rfl) Try.func111 rfl (by kernel_rfl) rfl rfl (by kernel_rfl) ?_
  simp only [RT, FS, ↓RE, okR, argEnv, Nat.reduceAdd, Nat.reduceSub, Nat.reduceLT, Nat.reduceLeDiff, Nat.reduceEqDiff, reduceIte, RM, oc, gI3_eq, h2, gS3_eq]
  simp
end Go.Sx

namespace Go.Sx
open Go.Proofs
set_option maxRecDepth 10000

/-! Leg -/
def badF (c : Craft) (a : AirW) (l : LandM) (f : FixW) : Bool := decide (f.h < nAt (needsF c a (ceilI c f.w.hi) l) f.cell.toNat)
def legF (c : Craft) (a : AirW) (l : LandM) (fs : List FixW) : Int × Int := match fs.find? (fun f => startE c l a f.w.hi true != 0) with
  | some f => (0, startE c l a f.w.hi true)
  | none => (firstI (badF c a l) fs 0, 0)
def legFine (c : Craft) (l : LandM) (a : AirW) (fs : List FixW) : Bool := craftB c && (landB l && (airB a && fs.all (fixB l)))
def LegR (c : Craft) (l : LandM) (a : AirW) (fs : List FixW) : Int × Int := if 100 < fs.length then (0, 3) else if legFine c l a fs then legF c a l fs else (0, 2)
theorem und_mi : Try.prog.underlying 155 = some (.map 3 25) := by kernel_rfl
theorem zeroIs : zeroV Try.prog 25 = some .nils := by kernel_rfl
def vdI (l : List Int) : D := .sl (intL l)
theorem firstI_snoc {α : Type} (p : α → Bool) : ∀ (l : List α) (x : α) (j : Nat), firstI p (l ++ [x]) j = if firstI p l j < 0 then (if p x then ((j + l.length : Nat) : Int) else -1) else firstI p l j
  | [], x, j => by simp [firstI]
  | y :: l, x, j => by
    simp only [List.cons_append, firstI]
    by_cases h : p y = true
    · simp only [h, if_true]; rw [if_neg (by omega)]
    · have h' : p y = false := by simpa using h
      simp only [h', Bool.false_eq_true, if_false]
      rw [firstI_snoc p l x (j + 1)]
      simp only [List.length_cons]
      rw [show j + 1 + l.length = j + (l.length + 1) by omega]
theorem find_none_take {α : Type} {p : α → Bool} {l : List α} {i : Nat} {x : α} (hx : l[i]? = some x) (h : ∀ j y, j < i → l[j]? = some y → p y = false) (hp : p x = true) : l.find? p = some x := by
  have hi := lt_of_getElem? hx
  rw [List.find?_eq_some_iff_append]
  refine ⟨hp, l.take i, l.drop (i + 1), ?_, fun a ha => ?_⟩
  · have : l[i] = x := by rw [List.getElem?_eq_getElem hi] at hx; exact Option.some.inj hx
    rw [← this, ← List.drop_eq_getElem_cons hi, List.take_append_drop]
  · obtain ⟨j, hj⟩ := List.getElem?_of_mem ha
    have hlt := lt_of_getElem? hj
    rw [List.length_take] at hlt
    rw [List.getElem?_take_of_lt (by omega)] at hj
    simp [h j a (by omega) hj]
set_option maxHeartbeats 4000000 in
theorem run_Leg_t (c : Craft) (hc : CraftL c) (l : LandM) (hl : LandL l) (a : AirW) (fs : List FixW) (hfl : fs.length ≤ 9223372036854775807) :
    Pure Try.prog 63 [.agg c.c, .agg l.c, .agg a.c, .sl (fixL fs)] (.tup [.int .i64 (LegR c l a fs).1, .int .i64 (LegR c l a fs).2]) := by
  have o1 := gCr_eq hc
  have o2 := gLa_eq hl
  have o3 := gAi_eq a.e.lo a.e.hi a.n.lo a.n.hi
  have o3' : airB ⟨⟨a.e.lo, a.e.hi⟩, ⟨a.n.lo, a.n.hi⟩⟩ = airB a := rfl
  rw [o3'] at o3
  have hlc : l.c = [.int .i64 l.wide, .int .i64 l.deep, .sl (intL l.ground), .sl (boolL l.water), .int .i64 l.clear] := rfl
  have phas := fx_has fs (.sl (fixL fs)) (En.sl_map (E := enFix) fs) 111 [.ref l.c 0] (fun f => !fixB l f) hfl (fun m => by simp [D.ltL, D.lt]) (fun h => rfl) fun f _ => leg1_t l hl f
  have hany : fs.any (fun f => !fixB l f) = !fs.all (fixB l) := by
    induction fs with
    | nil => rfl
    | cons f r ih => simp only [List.any_cons, List.all_cons, Bool.not_and]; rw [show r.any (fun f => !fixB l f) = !r.all (fixB l) by simp [List.not_all_eq_any_not]]
  rw [hany] at phas
  have ps := fun w => run_start_t c hc l hl a w true
  unfold LegR
  by_cases hlen : 100 < fs.length
  · have q1 : decide (100 < (fs.length : Int)) = true := by simp; omega
    rw [if_pos hlen, hlc]
    simp only [Craft.c, AirW.c]
    refine pure_of_wc (rs := [.tmp 8, .tmp 9]) (m := 90) [(15, [(8, false, false, [])]), (16, [(13, false, false, [])])] e3_ok (by kernel_rfl) Try.func63 rfl (by kernel_rfl) rfl rfl (by kernel_rfl) ?_
    simp only [RT, FS, ↓RE, okR, argEnv, Nat.reduceAdd, Nat.reduceSub, Nat.reduceLT, Nat.reduceLeDiff, Nat.reduceEqDiff, reduceIte, fixL_len, q1]
  have q1 : decide (100 < (fs.length : Int)) = false := by simp; omega
  rw [if_neg hlen]
  unfold legFine
  cases h1 : craftB c
  · rw [h1] at o1
    simp only [Craft.c, AirW.c] at *
    rw [hlc] at o2 ⊢
    refine pure_of_wc (rs := [.tmp 8, .tmp 9]) (m := 90) [(15, [(8, false, false, [])]), (16, [(13, false, false, [])])] e3_ok (by kernel_rfl) Try.func63 rfl (by kernel_rfl) rfl rfl (by kernel_rfl) ?_
    simp only [RT, FS, ↓RE, okR, argEnv, Nat.reduceAdd, Nat.reduceSub, Nat.reduceLT, Nat.reduceLeDiff, Nat.reduceEqDiff, reduceIte, fixL_len, q1, o1]
    simp
  rw [h1] at o1
  cases h2 : landB l
  · rw [h2] at o2
    simp only [Craft.c, AirW.c] at *
    rw [hlc] at o2 ⊢
    refine pure_of_wc (rs := [.tmp 8, .tmp 9]) (m := 90) [(15, [(8, false, false, [])]), (16, [(13, false, false, [])])] e3_ok (by kernel_rfl) Try.func63 rfl (by kernel_rfl) rfl rfl (by kernel_rfl) ?_
    simp only [RT, FS, ↓RE, okR, argEnv, Nat.reduceAdd, Nat.reduceSub, Nat.reduceLT, Nat.reduceLeDiff, Nat.reduceEqDiff, reduceIte, fixL_len, q1, o1, o2]
    simp
  rw [h2] at o2
  cases h3 : airB a
  · rw [h3] at o3
    simp only [Craft.c, AirW.c] at *
    rw [hlc] at o2 ⊢
    refine pure_of_wc (rs := [.tmp 8, .tmp 9]) (m := 90) [(15, [(8, false, false, [])]), (16, [(13, false, false, [])])] e3_ok (by kernel_rfl) Try.func63 rfl (by kernel_rfl) rfl rfl (by kernel_rfl) ?_
    simp only [RT, FS, ↓RE, okR, argEnv, Nat.reduceAdd, Nat.reduceSub, Nat.reduceLT, Nat.reduceLeDiff, Nat.reduceEqDiff, reduceIte, fixL_len, q1, o1, o2, o3]
    simp
  rw [h3] at o3
  cases h4 : fs.all (fixB l)
  · rw [h4] at phas
    simp only [Craft.c, AirW.c] at *
    rw [hlc] at o2 phas ⊢
    refine pure_of_wc (rs := [.tmp 8, .tmp 9]) (m := 90) [(15, [(8, false, false, [])]), (16, [(13, false, false, [])])] e3_ok (by kernel_rfl) Try.func63 rfl (by kernel_rfl) rfl rfl (by kernel_rfl) ?_
    simp only [RT, FS, ↓RE, okR, argEnv, Nat.reduceAdd, Nat.reduceSub, Nat.reduceLT, Nat.reduceLeDiff, Nat.reduceEqDiff, reduceIte, fixL_len, q1, o1, o2, o3]
    refine call_of_pure (by simpa [view, viewL, hget] using phas) rfl ?_
    simp only [RT, FS, ↓RE, okR, argEnv, Nat.reduceAdd, Nat.reduceSub, Nat.reduceLT, Nat.reduceLeDiff, Nat.reduceEqDiff, reduceIte, RM]
    simp
  rw [h4] at phas
  simp only [Bool.and_self, if_true]
  have k1 := craft_ok hc h1
  have k2 := land_ok hl h2
  have k3 := air_ok h3
  have hz : ((0 : Int) != 0) = false := rfl
  have pn := fun ce => needs_t c k1 l k2 a k3 ce
  have hno := fun ce => needsF_ok k1 k3 k2 ce
  have hfix : ∀ (i : Nat) (f : FixW), fs[i]? = some f → 0 ≤ f.cell ∧ f.cell < (l.ground.length : Int) := fun i f hf => by
    have := (List.all_eq_true.1 h4) f (List.mem_of_getElem? hf)
    simp only [fixB, Bool.and_eq_true] at this
    exact cellB_ok hl this.1
  have hgn := k2.small
  unfold legF
  simp only [Craft.c, AirW.c] at o1 o3 ps ⊢
  rw [hlc] at o2 phas ⊢
  simp only [hlc] at ps
  refine pure_of_wc (rs := [.tmp 8, .tmp 9]) (m := 90) [(15, [(8, false, false, [])]), (16, [(13, false, false, [])])] e3_ok (by kernel_rfl) Try.func63 rfl (by kernel_rfl) rfl rfl (by kernel_rfl) ?_
  simp only [RT, FS, ↓RE, okR, argEnv, Nat.reduceAdd, Nat.reduceSub, Nat.reduceLT, Nat.reduceLeDiff, Nat.reduceEqDiff, reduceIte, fixL_len, q1, o1, o2, o3]
  refine call_of_pure (by simpa [view, viewL, hget] using phas) rfl ?_
  simp only [RT, FS, ↓RE, okR, argEnv, Nat.reduceAdd, Nat.reduceSub, Nat.reduceLT, Nat.reduceLeDiff, Nat.reduceEqDiff, reduceIte, RM, fixL_len]
  have lc : ∀ m, D.ltL m c.c = true := fun m => by simp [Craft.c, D.ltL, D.lt]
  have la : ∀ m, D.ltL m a.c = true := fun m => by simp [AirW.c, D.ltL, D.lt]
  have vlt : ∀ (k : Nat) (x : List Int), D.lt k (vdI x) = true := fun k x => by simp [vdI, D.lt]
  refine loopV (ι := Nat × MpG (List Int)) e3_ok [(15, [(8, false, false, [])]), (16, [(13, false, false, [])])] (fun s => [(4, .ptr 0 0), (5, .ptr 1 0), (6, .ptr 2 0), (10, .mp 3), (11, .int .i64 (firstI (badF c a l) (fs.take s.1) 0)), (38, .sl (fixL fs)), (39, .int .i64 (fs.length : Int)), (40, .int .i64 (s.1 : Int))])
    (fun s => [(3, .map (gkv vdI s.2)), (2, .box a.c), (1, .box l.c), (0, .box c.c)]) 4 (fun s => s.1 ≤ fs.length ∧ (∀ j f, j < s.1 → fs[j]? = some f → startE c l a f.w.hi true = 0) ∧ ∀ k v, gget s.2 k = some v → v = needsF c a k l) (fun s => fs.length - s.1) (0, []) (by kernel_rfl) (by kernel_rfl)
    ⟨Nat.zero_le _, fun j f hj => by simp at hj, fun k v h => by simp [gget] at h⟩ ?_ ?_
  · simp [headW, heapW, envW, blkLt, D.ltL, D.lt, look, hget, hlc, Craft.c, AirW.c, gkv, firstI]
  rintro ⟨i, M⟩ ⟨hi, hs0, hM⟩
  dsimp only at hi hs0 hM ⊢
  rcases Nat.lt_or_ge i fs.length with hlt | hge
  rotate_left
  · have hq : ((i : Int) < (fs.length : Int)) = False := by simp; omega
    have hnone : fs.find? (fun f => startE c l a f.w.hi true != 0) = none := by
      rw [List.find?_eq_none]
      intro f hf
      obtain ⟨j, hj⟩ := List.getElem?_of_mem hf
      have := lt_of_getElem? hj
      simp [hs0 j f (by omega) hj]
    simp only [RT, FS, ↓RE, okR, argEnv, Nat.reduceAdd, Nat.reduceSub, Nat.reduceLT, Nat.reduceLeDiff, Nat.reduceEqDiff, reduceIte, hq, decide_false]
    rw [hnone, List.take_of_length_le hge]
  have hq : ((i : Int) < (fs.length : Int)) = True := by simp [hlt]
  have wi := wrap_i64 (z := (i : Int) + 1) (by omega) (by omega)
  obtain ⟨f, hf⟩ : ∃ f, fs[i]? = some f := ⟨fs[i], by simp [hlt]⟩
  have ixf := sF_ix hf
  have psf := ps f.w.hi
  have hfc := hfix i f hf
  obtain ⟨k, hk⟩ : ∃ k : Nat, f.cell = (k : Int) := ⟨f.cell.toNat, by omega⟩
  have htk : fs.take (i + 1) = fs.take i ++ [f] := by rw [List.take_add_one, hf]; rfl
  have hsn := firstI_snoc (badF c a l) (fs.take i) f 0
  rw [← htk, List.length_take, Nat.min_eq_left (by omega), Nat.zero_add] at hsn
  by_cases he : startE c l a f.w.hi true = 0
  rotate_left
  · have hb : (startE c l a f.w.hi true != 0) = true := by simpa using he
    have hfd : fs.find? (fun f => startE c l a f.w.hi true != 0) = some f := find_none_take hf (fun j y hj hy => by simp [hs0 j y hj hy]) hb
    simp only [startR, if_neg he] at psf
    simp only [RT, FS, ↓RE, okR, argEnv, Nat.reduceAdd, Nat.reduceSub, Nat.reduceLT, Nat.reduceLeDiff, Nat.reduceEqDiff, reduceIte, RM, hq, decide_true, ixf, hlc, Craft.c, AirW.c]
    refine call_of_pure' psf (by simp [D.ltL, D.lt]) (by simp [D.ltL, D.lt]) ?_
    simp only [RT, FS, ↓RE, okR, argEnv, Nat.reduceAdd, Nat.reduceSub, Nat.reduceLT, Nat.reduceLeDiff, Nat.reduceEqDiff, reduceIte, RM, hb]
    rw [hfd]
  have hs1 : ∀ j f', j < i + 1 → fs[j]? = some f' → startE c l a f'.w.hi true = 0 := fun j f' hj hf' => by
    rcases Nat.lt_or_ge j i with h | h
    · exact hs0 j f' h hf'
    · rw [show j = i by omega, hf] at hf'; cases hf'; exact he
  simp only [startR, if_pos he] at psf
  rw [he] at psf
  have pnf := pn (ceilI c f.w.hi)
  have hnf := hno (ceilI c f.w.hi)
  have fce : ∀ h, loadAtD Try.prog h 3 (.ref (flO c l a (ceilI c f.w.hi)) 22) = some (.int .i64 (ceilI c f.w.hi)) := fun h => by kernel_rfl
  have hbad : badF c a l f = decide (f.h < nAt (needsF c a (ceilI c f.w.hi) l) k) := by simp only [badF, hk]; rfl
  rw [hbad] at hsn
  by_cases hwr : firstI (badF c a l) (fs.take i) 0 < 0
  rotate_left
  · have hb : decide (firstI (badF c a l) (fs.take i) 0 < 0) = false := by simpa using hwr
    have hb' : decide (0 ≤ firstI (badF c a l) (fs.take i) 0) = true := by simp; omega
    rw [if_neg hwr] at hsn
    simp only [RT, FS, ↓RE, okR, argEnv, Nat.reduceAdd, Nat.reduceSub, Nat.reduceLT, Nat.reduceLeDiff, Nat.reduceEqDiff, reduceIte, RM, hq, decide_true, ixf, hlc, Craft.c, AirW.c]
    refine call_of_pure' psf (by simp [D.ltL, D.lt]) (by simp [D.ltL, D.lt]) ?_
    simp only [RT, FS, ↓RE, okR, argEnv, Nat.reduceAdd, Nat.reduceSub, Nat.reduceLT, Nat.reduceLeDiff, Nat.reduceEqDiff, reduceIte, RM, hz, hb', wi]
    refine ⟨(i + 1, M), ⟨by omega, hs1, hM⟩, by simp only; omega, ?_⟩
    simp only [hsn]
    simp [headW, heapW, envW, blkLt, D.ltL, D.lt, look, hget, hlc, lc, la, Craft.c, AirW.c, gkv_lt vlt]
  have hb' : decide (0 ≤ firstI (badF c a l) (fs.take i) 0) = false := by simp; omega
  rw [if_pos hwr] at hsn
  generalize flO c l a (ceilI c f.w.hi) = F at *
  generalize hCE : ceilI c f.w.hi = CE at *
  generalize hWR : firstI (badF c a l) (fs.take i) 0 = WR at *
  have hwm : WR = -1 := by
    rw [← hWR] at hwr ⊢
    have key : ∀ (l' : List FixW) (j : Nat), firstI (badF c a l) l' j < 0 → firstI (badF c a l) l' j = -1 := fun l' => by
      induction l' with
      | nil => intro j _; rfl
      | cons y r ih =>
        intro j h
        simp only [firstI] at h ⊢
        split at h
        · omega
        · rename_i hp; rw [if_neg hp]; exact ih (j + 1) h
    exact key _ _ hwr
  have hNl := hnf.len
  have hNix := sI_ix (hnf.at_ (show k < l.ground.length by omega))
  have hnil := bin_slnil' (P := Try.prog) Fz.und_25 (xs := intL (needsF c a CE l)) (by rw [intL_len]; omega)
  have hnn := bin_nilnil (P := Try.prog) Fz.und_25
  rw [hk] at ixf
  cases hg : gget M CE with
  | some v =>
    have hv := hM CE v hg
    subst hv
    have g3 := fun h (hb : hget h 3 = some (.map (gkv vdI M))) => gm_get und_mi Fz.und_3 zeroIs hb CE
    rw [hg] at g3
    simp only [valG, vdI] at g3
    simp only [RT, FS, ↓RE, okR, argEnv, Nat.reduceAdd, Nat.reduceSub, Nat.reduceLT, Nat.reduceLeDiff, Nat.reduceEqDiff, reduceIte, RM, hq, decide_true, ixf, hlc, Craft.c, AirW.c]
    refine call_of_pure' psf (by simp [D.ltL, D.lt]) (by simp [D.ltL, D.lt]) ?_
    cases hb2 : decide (f.h < nAt (needsF c a CE l) k)
    · rw [hb2] at hsn
      simp only [RT, FS, ↓RE, okR, argEnv, Nat.reduceAdd, Nat.reduceSub, Nat.reduceLT, Nat.reduceLeDiff, Nat.reduceEqDiff, reduceIte, RM, hz, hb', fce, g3, hnil, hNix, hb2, wi]
      refine ⟨(i + 1, M), ⟨by omega, hs1, hM⟩, by simp only; omega, ?_⟩
      have e1 : WR = -1 := hwm
      simp only [hsn, e1]
      simp [headW, heapW, envW, blkLt, D.ltL, D.lt, look, hget, Sx.hset, hlc, lc, la, Craft.c, AirW.c, gkv_lt vlt]
    · rw [hb2] at hsn
      simp only [RT, FS, ↓RE, okR, argEnv, Nat.reduceAdd, Nat.reduceSub, Nat.reduceLT, Nat.reduceLeDiff, Nat.reduceEqDiff, reduceIte, RM, hz, hb', fce, g3, hnil, hNix, hb2, wi]
      refine ⟨(i + 1, M), ⟨by omega, hs1, hM⟩, by simp only; omega, ?_⟩
      simp only [hsn]
      simp [headW, heapW, envW, blkLt, D.ltL, D.lt, look, hget, Sx.hset, hlc, lc, la, Craft.c, AirW.c, gkv_lt vlt]
  | none =>
    have g3 := fun h (hb : hget h 3 = some (.map (gkv vdI M))) => gm_get und_mi Fz.und_3 zeroIs hb CE
    rw [hg] at g3
    simp only [valG] at g3
    have u3 := fun h nid (hb : hget h 3 = some (.map (gkv vdI M))) => gm_put und_mi Fz.und_3 hb nid CE (v := .sl (intL (needsF c a CE l))) (needsF c a CE l) rfl rfl
    have g4 := fun h (hb : hget h 3 = some (.map (gkv vdI (gput M CE (needsF c a CE l))))) => gm_get und_mi Fz.und_3 zeroIs hb CE
    simp only [gget_put, if_true, valG, vdI] at g4
    have hM2 : ∀ k v, gget (gput M CE (needsF c a CE l)) k = some v → v = needsF c a k l := fun k v h => by
      rw [gget_put] at h
      split at h
      · rename_i e; subst e; cases h; rfl
      · exact hM k v h
    simp only [RT, FS, ↓RE, okR, argEnv, Nat.reduceAdd, Nat.reduceSub, Nat.reduceLT, Nat.reduceLeDiff, Nat.reduceEqDiff, reduceIte, RM, hq, decide_true, ixf, hlc, Craft.c, AirW.c]
    refine call_of_pure' psf (by simp [D.ltL, D.lt]) (by simp [D.ltL, D.lt]) ?_
    simp only [RT, FS, ↓RE, okR, argEnv, Nat.reduceAdd, Nat.reduceSub, Nat.reduceLT, Nat.reduceLeDiff, Nat.reduceEqDiff, reduceIte, RM, hz, hb', fce, g3, hnn]
    refine call_of_pure' pnf (by simp [D.ltL, D.lt]) (by simp [D.lt]) ?_
    cases hb2 : decide (f.h < nAt (needsF c a CE l) k)
    · rw [hb2] at hsn
      simp only [RT, FS, ↓RE, okR, argEnv, Nat.reduceAdd, Nat.reduceSub, Nat.reduceLT, Nat.reduceLeDiff, Nat.reduceEqDiff, reduceIte, RM, u3, g4, hNix, fce, hb2, wi]
      refine ⟨(i + 1, gput M CE (needsF c a CE l)), ⟨by omega, hs1, hM2⟩, by simp only; omega, ?_⟩
      have e1 : WR = -1 := hwm
      simp only [hsn, e1]
      simp [headW, heapW, envW, blkLt, D.ltL, D.lt, look, hget, Sx.hset, hlc, lc, la, Craft.c, AirW.c, gkv_lt vlt]
    · rw [hb2] at hsn
      simp only [RT, FS, ↓RE, okR, argEnv, Nat.reduceAdd, Nat.reduceSub, Nat.reduceLT, Nat.reduceLeDiff, Nat.reduceEqDiff, reduceIte, RM, u3, g4, hNix, fce, hb2, wi]
      refine ⟨(i + 1, gput M CE (needsF c a CE l)), ⟨by omega, hs1, hM2⟩, by simp only; omega, ?_⟩
      simp only [hsn]
      simp [headW, heapW, envW, blkLt, D.ltL, D.lt, look, hget, Sx.hset, hlc, lc, la, Craft.c, AirW.c, gkv_lt vlt]
end Go.Sx
