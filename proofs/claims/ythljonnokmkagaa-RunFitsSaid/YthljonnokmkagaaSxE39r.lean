/- Own work: contracts of functions, used in the proof of a law. -/
import Derived.Test.YthljonnokmkagaaSxE38r
set_option linter.unusedVariables false
set_option linter.unusedSimpArgs false
namespace Go.Sx
open Go.Proofs
set_option maxRecDepth 10000

/-! The heaviest weight of the specification -/
def alOk (al : SpI) : Prop := -600 ≤ al.lo ∧ al.lo ≤ 600 ∧ -600 ≤ al.hi ∧ al.hi ≤ 600
def BndD (c : Craft) (k : Int) (w al wv : SpI) : D := .tup [.agg ((RBoundsO c k w al wv).getD ⟨0, 0⟩).c, .bool (RBoundsO c k w al wv).isSome]
noncomputable def gBnd (ok : Craft → SpI → Prop) (q : Craft → Int → SpI → SpI → SpI → D) : List D → Option D :=
  orcF (fun p : Craft × Int × SpI × SpI × SpI => ok p.1 p.2.2.2.1) (fun p => [.agg p.1.c, .int .i64 p.2.1, .agg p.2.2.1.c, .agg p.2.2.2.1.c, .agg p.2.2.2.2.c]) (fun p => q p.1 p.2.1 p.2.2.1 p.2.2.2.1 p.2.2.2.2)
theorem gBnd_eq {ok : Craft → SpI → Prop} (q : Craft → Int → SpI → SpI → SpI → D) (c : Craft) (k : Int) (w al wv : SpI) (h : ok c al) : gBnd ok q [.agg c.c, .int .i64 k, .agg w.c, .agg al.c, .agg wv.c] = some (q c k w al wv) :=
  orcF_eq (ok := fun p : Craft × Int × SpI × SpI × SpI => ok p.1 p.2.2.2.1) (dsf := fun p => [.agg p.1.c, .int .i64 p.2.1, .agg p.2.2.1.c, .agg p.2.2.2.1.c, .agg p.2.2.2.2.c]) (rf := fun p => q p.1 p.2.1 p.2.2.1 p.2.2.2.1 p.2.2.2.2) (c, k, w, al, wv) h fun b hb => by
    simp only [List.cons.injEq, D.agg.injEq, D.int.injEq, true_and, and_true] at hb
    rw [Craft.c_inj hb.1, hb.2.1, SpI.c_inj hb.2.2.1, SpI.c_inj hb.2.2.2.1, SpI.c_inj hb.2.2.2.2]
theorem gBnd_ok {f : FuncId} {ok : Craft → SpI → Prop} {q : Craft → Int → SpI → SpI → SpI → D} (h : ∀ c k w al wv, ok c al → Pure Try.prog f [.agg c.c, .int .i64 k, .agg w.c, .agg al.c, .agg wv.c] (q c k w al wv)) (ds : List D) (r : D) (hr : gBnd ok q ds = some r) : Pure Try.prog f ds r :=
  orcF_ok (fun p hp => h p.1 p.2.1 p.2.2.1 p.2.2.2.1 p.2.2.2.2 hp) ds r hr
noncomputable abbrev e10 : List (FuncId × (List D → Option D)) := (48, gBnd (fun c al => CraftOk c ∧ alOk al) BndD) :: e9
theorem e10_ok : OkO Try.prog (mkO e10) := mkO_ok (gBnd_ok fun c k w al wv h => ref3_Bounds_t c h.1 k w al wv h.2) e9_ok
def heavS (c : Craft) (k metres : Int) (al wv : SpI) (best : Int) (r : RRow) : Int := if ((RBoundsO c k ⟨r.w, r.w⟩ al wv).getD ⟨0, 0⟩).hi ≤ metres then r.w else best
def RHeavI (c : Craft) (k metres : Int) (al wv : SpI) : Int := (tabOf c k).foldl (heavS c k metres al wv) (-1)
theorem foldl_cut {α β : Type} {f : β → α → β} {l : List α} {i : Nat} {x : α} {a : β} (h : l[i]? = some x) : (l.take (i + 1)).foldl f a = f ((l.take i).foldl f a) x := by
  rw [List.take_add_one, h]; simp
theorem ref3_Heaviest_t (c : Craft) (hc : CraftOk c) (k metres : Int) (al wv : SpI) (hal : alOk al) :
    Pure Try.prog 47 [.agg c.c, .int .i64 k, .int .i64 metres, .agg al.c, .agg wv.c] (.int .i64 (RHeavI c k metres al wv)) := by
  have oT := gTabO_eq c k
  have oB := fun w => gBnd_eq (ok := fun c al => CraftOk c ∧ alOk al) BndD c k ⟨w, w⟩ al wv ⟨hc, hal⟩
  have lx := (hc.tab k).2.1
  unfold RHeavI
  have hS : heavS c k metres al wv = fun best r => if ((RBoundsO c k ⟨r.w, r.w⟩ al wv).getD ⟨0, 0⟩).hi ≤ metres then r.w else best := rfl
  simp only [BndD, Craft.c, SpI.c] at oT oB ⊢
  generalize tabOf c k = T at *
  have oL := fun hp => En.len (P := Try.prog) Fz.und_22 (En.sl_map (E := enR) T) hp
  simp only [enR] at oL
  refine pure_of_wc (rs := [.tmp 10]) (m := 54) [(6, [(21, false, true, [(20, 1), (16, 1), (15, 1), (14, 1), (11, 1), (10, 1), (9, 1), (8, 1), (7, 1), (6, 1), (5, 1)]), (1, false, false, [])])] e10_ok (by kernel_rfl) Try.func47 rfl (by kernel_rfl) rfl rfl (by kernel_rfl) ?_
  simp only [RT, FS, ↓RE, okR, argEnv, Nat.reduceAdd, Nat.reduceSub, Nat.reduceLT, Nat.reduceLeDiff, Nat.reduceEqDiff, reduceIte, oT]
  refine loopV (ι := Nat) e10_ok [(6, [(21, false, true, [(20, 1), (16, 1), (15, 1), (14, 1), (11, 1), (10, 1), (9, 1), (8, 1), (7, 1), (6, 1), (5, 1)]), (1, false, false, [])])] (fun i => [(1, .int .i64 k), (2, .int .i64 metres), (5, .ptr 0 0), (8, .ptr 1 0), (9, .ptr 2 0), (11, .int .i64 ((T.take i).foldl (heavS c k metres al wv) (-1))), (12, .sl (T.map RRow.d)), (13, .int .i64 (i : Int))])
    (fun i => [(2, .box [.int .i64 wv.lo, .int .i64 wv.hi]), (1, .box [.int .i64 al.lo, .int .i64 al.hi]), (0, .box c.c)]) 3
    (fun i => i ≤ T.length) (fun i => T.length - i) 0 (by kernel_rfl) (by kernel_rfl) (Nat.zero_le _) ?_ ?_
  · simp [headW, heapW, envW, blkLt, D.ltL, D.lt, look, hget, hset, Craft.c]
  intro i hi
  rcases Nat.lt_or_ge i T.length with hlt | hge
  rotate_left
  · have hq : ((i : Int) < (T.length : Int)) = False := by simp; omega
    have : i = T.length := by omega
    subst this
    simp only [RT, FS, ↓RE, okR, argEnv, Nat.reduceAdd, Nat.reduceSub, Nat.reduceLT, Nat.reduceLeDiff, Nat.reduceEqDiff, reduceIte, oL, hq, decide_false]
    simp
  have hq : ((i : Int) < (T.length : Int)) = True := by simp [hlt]
  obtain ⟨r, hr⟩ : ∃ r, T[i]? = some r := ⟨T[i], by simp [hlt]⟩
  have ix := fun hp => En.ix (P := Try.prog) Fz.und_22 Fz.size_146 (E := enR) (En.sl_map (E := enR) T) hr hp .i64
  simp only [enR, RRow.d] at ix
  have wi := wrap_i64 (z := (i : Int) + 1) (by omega) (by omega)
  have oBr := oB r.w
  by_cases hm : ((RBoundsO c k ⟨r.w, r.w⟩ al wv).getD ⟨0, 0⟩).hi ≤ metres
  · simp only [RT, FS, ↓RE, okR, argEnv, Nat.reduceAdd, Nat.reduceSub, Nat.reduceLT, Nat.reduceLeDiff, Nat.reduceEqDiff, reduceIte, oL, hq, decide_true, ix, wi, oBr, ex_tup, hm, Craft.c]
    refine ⟨i + 1, by omega, by omega, ?_⟩
    rw [foldl_cut hr]
    simp [headW, heapW, envW, blkLt, D.ltL, D.lt, look, hget, hset, Craft.c, heavS, hm]
  · simp only [RT, FS, ↓RE, okR, argEnv, Nat.reduceAdd, Nat.reduceSub, Nat.reduceLT, Nat.reduceLeDiff, Nat.reduceEqDiff, reduceIte, oL, hq, decide_true, decide_false, ix, wi, oBr, ex_tup, hm, Craft.c]
    refine ⟨i + 1, by omega, by omega, ?_⟩
    rw [foldl_cut hr]
    simp [headW, heapW, envW, blkLt, D.ltL, D.lt, look, hget, hset, Craft.c, heavS, hm]

/-! The plain law of the heaviest weight -/
theorem rows_m {l : List RRow} {o : Option RRow} (h : rowsOk 1 o l = true) : ∀ {i j : Nat} {r s : RRow}, i ≤ j → l[i]? = some r → l[j]? = some s → r.m ≤ s.m := by
  induction l generalizing o with
  | nil => intro i j r s _ hr _; simp at hr
  | cons a l ih =>
    intro i j r s hij hr hs
    simp only [rowsOk, Bool.and_eq_true] at h
    cases i with
    | zero =>
      simp at hr; subst hr
      cases j with
      | zero => simp at hs; subst hs; exact Int.le_refl _
      | succ j => exact rows_up h.2.2.2 s (List.mem_of_getElem? (by simpa using hs))
    | succ i =>
      cases j with
      | zero => omega
      | succ j => exact ih h.2.2.2 (i := i) (j := j) (by omega) (by simpa using hr) (by simpa using hs)
theorem sayO_at {sg : Int} {l : List RRow} {o : Option RRow} (h : rowsOk sg o l = true) : ∀ {i : Nat} {r : RRow}, l[i]? = some r → sayO l r.w = some r.m := by
  induction l generalizing o with
  | nil => intro i r hr; simp at hr
  | cons a l ih =>
    intro i r hr
    simp only [rowsOk, Bool.and_eq_true] at h
    cases i with
    | zero => simp at hr; subst hr; simp [sayO]
    | succ i =>
      have hr' : l[i]? = some r := by simpa using hr
      have := rows_gt h.2.2.2 r (List.mem_of_getElem? hr')
      simp only [sayO]
      rw [if_neg (by omega)]
      exact ih h.2.2.2 hr'
theorem fmax_mono {f g : Int → Int} (hfg : ∀ x, f x ≤ g x) : ∀ (l : List Int) (a b : Int), a ≤ b → (l.map f).foldl max a ≤ (l.map g).foldl max b
  | [], _, _, h => h
  | x :: l, a, b, h => by
    simp only [List.map_cons, List.foldl_cons]
    exact fmax_mono hfg l _ _ (by have := hfg x; omega)
theorem bounds_hi {c : Craft} (hn : CraftN c) {m m' : Int} (hm : m ≤ m') {al : SpI} (hal : al.lo ≤ al.hi) {s : SpI} (hs : s.lo ≤ s.hi) : (boundsI c ⟨m, m⟩ al s).hi ≤ (boundsI c ⟨m', m'⟩ al s).hi := by
  rw [← rb_eq hn (Int.le_refl m) hal hs, ← rb_eq hn (Int.le_refl m') hal hs]
  simp only [rbI]
  cases hW : wavesR c s with
  | nil => simp [outI]
  | cons x l =>
    rw [outI_s _ _ l (by simp), outI_s _ _ l (by simp)]
    exact fmax_mono (fun x => lenI_mono_m c hn hm al.hi x) _ _ _ (lenI_mono_m c hn hm al.hi x)
theorem RBoundsO_at {c : Craft} (hc : CraftOk c) {k : Int} {w al wv : SpI} (hw : w.lo ≤ w.hi) (hal : al.lo ≤ al.hi) (hs : wv.lo ≤ wv.hi) {m : Int} (hm : sayO (tabOf c k) w.hi = some m) :
    RBoundsO c k w al wv = some (boundsI c ⟨(sayO (tabOf c k) w.lo).getD 0, m⟩ al wv) := by
  obtain ⟨m', hm', hle⟩ := sayO_up (hc.tab k).1 hw hm
  have := rb_eq hc.n hle hal hs
  simp only [RBoundsO, hm, hm', Option.map_some, Option.getD_some, rlenD, rlenO, ← this]
theorem heavS_at {c : Craft} (hc : CraftOk c) {k metres : Int} {al wv : SpI} (hal : al.lo ≤ al.hi) (hs : wv.lo ≤ wv.hi) {i : Nat} {r : RRow} (hr : (tabOf c k)[i]? = some r) (best : Int) :
    heavS c k metres al wv best r = if overI c al wv metres r.m then best else r.w := by
  have h1 := sayO_at (hc.tab k).1 hr
  have h2 := RBoundsO_at hc (k := k) (w := ⟨r.w, r.w⟩) (Int.le_refl _) hal hs h1
  simp only [h1, Option.getD_some] at h2
  simp only [heavS, h2, Option.getD_some, overI]
  by_cases h : metres < (boundsI c ⟨r.m, r.m⟩ al wv).hi
  · simp only [h, decide_true, if_true]; rw [if_neg (by omega)]
  · simp only [h, decide_false, Bool.false_eq_true, if_false]; rw [if_pos (by omega)]
theorem heav_fold {T : List RRow} {F : Int → RRow → Int} {p : Nat → Bool} (hF : ∀ i r best, T[i]? = some r → F best r = if p i then best else r.w) {B : Nat} (hB : B ≤ T.length) (h1 : ∀ i, i < B → p i = false) (h2 : ∀ i, B ≤ i → i < T.length → p i = true) :
    ∀ n, n ≤ T.length → (T.take n).foldl F (-1) = if min n B = 0 then -1 else (match T[min n B - 1]? with | some r => r.w | none => 0)
  | 0, _ => by simp
  | n + 1, hn => by
    obtain ⟨r, hr⟩ : ∃ r, T[n]? = some r := ⟨T[n], by simp⟩
    rw [foldl_cut hr, hF n r _ hr, heav_fold hF hB h1 h2 n (by omega)]
    by_cases hb : n < B
    · rw [h1 n hb, show min (n + 1) B = n + 1 by omega]
      simp [hr]
    · rw [h2 n (by omega) (by omega), show min (n + 1) B = B by omega, show min n B = B by omega]
      simp
theorem heav_law {c : Craft} (hc : CraftOk c) {k metres : Int} (hk : kindB k = true) (hm : rI metres 0 20000 = true) {al wv : SpI} (hcd : condB al wv = true) :
    (RHeavI c k metres al wv = -1 ∧ HeavR c k metres al wv = (0, 7)) ∨ (0 ≤ RHeavI c k metres al wv ∧ HeavR c k metres al wv = (RHeavI c k metres al wv, 0)) := by
  have hcd' := hcd
  simp only [condB, rS, Bool.and_eq_true, decide_eq_true_eq] at hcd'
  have hal : al.lo ≤ al.hi := by omega
  have hs : wv.lo ≤ wv.hi := by omega
  have ht := hc.tab k
  have hFF := fun i r best (h : (tabOf c k)[i]? = some r) => heavS_at (metres := metres) hc hal hs h best
  simp only [HeavR, hc.b, hk, hm, hcd, Bool.and_self, if_true, RHeavI]
  generalize hT : tabOf c k = T at *
  have hmon := bisI_mono (fun i => match T[i.toNat]? with | some r => overI c al wv metres r.m | none => false) 20 0 T.length (by omega) (by omega) (fun i j h0 hij hj hp => by
    obtain ⟨r, hr⟩ : ∃ r, T[i.toNat]? = some r := ⟨T[i.toNat]'(by omega), by simp⟩
    obtain ⟨s, hsj⟩ : ∃ s, T[j.toNat]? = some s := ⟨T[j.toNat]'(by omega), by simp⟩
    simp only [hr] at hp
    simp only [hsj]
    have h1 := rows_m ht.1 (i := i.toNat) (j := j.toNat) (by omega) hr hsj
    have h2 := bounds_hi hc.n h1 hal hs
    simp only [overI, decide_eq_true_eq] at hp ⊢
    omega)
  have hrg := bisI_range (fun i => match T[i.toNat]? with | some r => overI c al wv metres r.m | none => false) 20 0 T.length (by omega)
  generalize bisI (fun i => match T[i.toNat]? with | some r => overI c al wv metres r.m | none => false) 20 0 T.length = B at *
  have hf := heav_fold (T := T) (F := heavS c k metres al wv) (p := fun i => match T[i]? with | some r => overI c al wv metres r.m | none => false) (fun i r best h => by rw [hFF i r best h]; simp only [h]) (B := B.toNat) (by omega)
    (fun i hi => by have := hmon.1 (i : Int) (by omega) (by omega); simpa using this) (fun i hi hl => by have := hmon.2 (i : Int) (by omega) (by omega); simpa using this) T.length (Nat.le_refl _)
  rw [List.take_length, show min T.length B.toNat = B.toNat by omega] at hf
  rw [hf]
  by_cases h0 : B = 0
  · left; subst h0; simp
  · right
    obtain ⟨r, hr⟩ : ∃ r, T[B.toNat - 1]? = some r := ⟨T[B.toNat - 1]'(by omega), by simp⟩
    have hw := (rowsOk_mem ht.1 r (List.mem_of_getElem? hr)).1
    rw [if_neg (by omega), if_neg h0, show (B - 1).toNat = B.toNat - 1 by omega, hr]
    exact ⟨hw.1, rfl⟩
end Go.Sx
