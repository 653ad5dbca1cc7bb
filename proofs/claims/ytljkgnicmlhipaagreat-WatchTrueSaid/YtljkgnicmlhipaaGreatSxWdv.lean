/- Own work: a calculus of contracts for the programs of this kit: parts SxW13v, SxW14v. -/
import Derived.Test.YtljkgnicmlhipaaGreatSxWcv
set_option linter.unusedVariables false
set_option linter.unusedSimpArgs false
namespace Go.Sx
open Go.Proofs
set_option maxRecDepth 10000

theorem atD_inj : ∀ {a b : MpI}, atD a = atD b → a = b
 | [], [], _ => rfl
 | [], _ :: _, h => by simp [gkv] at h
 | _ :: _, [], h => by simp [gkv] at h
 | (k, v) :: a, (k', v') :: b, h => by
  simp only [atD, gkv, List.map_cons, List.cons.injEq, Prod.mk.injEq, D.int.injEq, true_and, vI] at h
  have : a = b := atD_inj (by simpa [atD, gkv, vI] using h.2)
  rw [this, h.1.1, h.1.2]
noncomputable def gHeard : List D → Option D := orcF (fun p : WatchW × Int × Int => WatchOk p.1 ∧ InS p.1.s p.2.1 ∧ 0 ≤ p.2.2) (fun p => [.agg p.1.c, .int .i64 p.2.1, .int .i64 p.2.2]) (fun p => .mpd (atD (heardM p.1.s p.1.n.r p.2.1 p.2.2)))
theorem gHeard_eq {w : WatchW} (hw : WatchOk w) {c m : Int} (hc : InS w.s c) (hm : 0 ≤ m) : gHeard [.agg w.c, .int .i64 c, .int .i64 m] = some (.mpd (atD (heardM w.s w.n.r c m))) :=
 orcF_eq (ok := fun p : WatchW × Int × Int => WatchOk p.1 ∧ InS p.1.s p.2.1 ∧ 0 ≤ p.2.2) (dsf := fun p => [.agg p.1.c, .int .i64 p.2.1, .int .i64 p.2.2]) (rf := fun p => .mpd (atD (heardM p.1.s p.1.n.r p.2.1 p.2.2))) (w, c, m) ⟨hw, hc, hm⟩ fun q hq => by
  simp only [List.cons.injEq, D.agg.injEq, D.int.injEq, true_and, and_true] at hq
  rw [WatchW.c_inj hq.1, hq.2.1, hq.2.2]
noncomputable def gSpr : List D → Option D := orcF (fun p : NetW × MpI => (∃ s, NetOk s p.1) ∧ AtOk p.2) (fun p => [.agg p.1.c, .mpd (atD p.2)]) (fun p => .int .i64 (spreadI (alongI p.1.l) p.1.r.length p.2))
theorem gSpr_eq {s : SkyW} {n : NetW} (hn : NetOk s n) {at0 : MpI} (ha : AtOk at0) : gSpr [.agg n.c, .mpd (atD at0)] = some (.int .i64 (spreadI (alongI n.l) n.r.length at0)) :=
 orcF_eq (ok := fun p : NetW × MpI => (∃ s, NetOk s p.1) ∧ AtOk p.2) (dsf := fun p => [.agg p.1.c, .mpd (atD p.2)]) (rf := fun p => .int .i64 (spreadI (alongI p.1.l) p.1.r.length p.2)) (n, at0) ⟨⟨s, hn⟩, ha⟩ fun q hq => by
  simp only [List.cons.injEq, D.agg.injEq, D.mpd.injEq, and_true] at hq
  rw [NetW.c_inj hq.1, atD_inj hq.2]
noncomputable abbrev e13 : List (FuncId × (List D → Option D)) := (50, gHeard) :: (73, gSpr) :: e11
theorem e13_ok : OkO Tryz.prog (mkO e13) :=
 mkO_ok (orcF_ok fun p h => heard_t h.1 h.2.1 h.2.2) <| mkO_ok (orcF_ok fun p h => let ⟨_, hs⟩ := h.1; spread_t hs h.2) e11_ok
def hAt (s : SkyW) (rl : List RelayW) (c m : Int) (k : Nat) : Bool := match rl[k]? with | some r => hearsB s r c m | none => false
theorem hrd_eq (s : SkyW) (rl : List RelayW) (c m : Int) (M : MpI) (i : Nat) : hrd s rl c m M i = if hAt s rl c m i = true then gput M i m else M := by
 unfold hrd hAt
 cases rl[i]? <;> simp
theorem heard_go (s : SkyW) (rl : List RelayW) (c m : Int) : ∀ (n : Nat) (k : Int), gget ((List.range n).foldl (hrd s rl c m) []) k = if (0 ≤ k ∧ k < (n : Int)) ∧ hAt s rl c m k.toNat = true then some m else none
 | 0, k => by rw [if_neg (by omega)]; rfl
 | n + 1, k => by
  rw [List.range_succ, List.foldl_append]
  have ih := heard_go s rl c m n k
  generalize (List.range n).foldl (hrd s rl c m) [] = M at *
  show gget (hrd s rl c m M n) k = _
  rw [hrd_eq]
  by_cases e : k = n
  ·subst e
   rw [if_neg (by omega)] at ih
   simp only [Int.toNat_natCast]
   by_cases h2 : hAt s rl c m n = true
   ·rw [if_pos h2, gget_put, if_pos rfl, if_pos ⟨⟨by omega, by omega⟩, h2⟩]
   ·rw [if_neg h2, if_neg (fun q => h2 q.2)]; exact ih
  ·have e2 : ((0 ≤ k ∧ k < ((n + 1 : Nat) : Int)) ↔ (0 ≤ k ∧ k < (n : Int))) := by omega
   simp only [e2]
   rw [← ih]
   split
   ·rw [gget_put, if_neg e]
   ·rfl
theorem heard_get (s : SkyW) (rl : List RelayW) (c m : Int) (k : Int) : gget (heardM s rl c m) k = if (0 ≤ k ∧ k < (rl.length : Int)) ∧ hAt s rl c m k.toNat = true then some m else none := heard_go s rl c m _ k
theorem heard_at (s : SkyW) (rl : List RelayW) (c : Int) {m : Int} (hm : 0 ≤ m ∧ m ≤ 1440) : AtOk (heardM s rl c m) := fun k v h => by
 rw [heard_get] at h
 split at h
 ·rw [← Option.some.inj h]; exact hm
 ·cases h
def arrivesI (w : WatchW) (c m : Int) : Int := spreadI (alongI w.n.l) w.n.r.length (heardM w.s w.n.r c m)
theorem arrives_t {w : WatchW} (hw : WatchOk w) {c m : Int} (hc : InS w.s c) (hm : 0 ≤ m ∧ m ≤ 1440) : Pure Tryz.prog 49 [.agg w.c, .int .i64 c, .int .i64 m] (.int .i64 (arrivesI w c m)) := by
 have o1 := gHeard_eq hw hc hm.1
 have o2 := gSpr_eq hw.n (heard_at w.s w.n.r c hm)
 unfold arrivesI
 obtain ⟨⟨sw, sd, sh⟩, ⟨rl, lk⟩, cell, mi, ev, en, af⟩ := w
 simp only [WatchW.c, SkyW.c, NetW.c, List.cons_append, List.nil_append] at o1 o2 ⊢
 refine pure_of_wc (rs := [.tmp 6]) (m := 14) [(1, [(8, false, false, [])])] e13_ok (by kernel_rfl) Tryz.func49 rfl (by kernel_rfl) rfl rfl (by kernel_rfl) ?_
 simp only [RT, FS, ↓RE, okR, argEnv, Nat.reduceAdd, Nat.reduceSub, Nat.reduceLT, Nat.reduceLeDiff, Nat.reduceEqDiff, reduceIte, o1, o2]

def fsome {α : Type} (f : Nat → Option α) : Nat → Nat → Option α
 | 0, _ => none
 | r + 1, i => match f i with
  | some x => some x
  | none => fsome f r (i + 1)
theorem fsome_none {α : Type} {f : Nat → Option α} {K i : Nat} (hi : i < K) (h : f i = none) : fsome f (K - i) i = fsome f (K - (i + 1)) (i + 1) := by
 obtain ⟨r, hr⟩ : ∃ r, K - i = r + 1 := ⟨K - i - 1, by omega⟩
 rw [hr, show K - (i + 1) = r by omega, fsome, h]
theorem fsome_some {α : Type} {f : Nat → Option α} {K i : Nat} (hi : i < K) {x : α} (h : f i = some x) : fsome f (K - i) i = some x := by
 obtain ⟨r, hr⟩ : ∃ r, K - i = r + 1 := ⟨K - i - 1, by omega⟩
 rw [hr, fsome, h]
def routeR (A : Int → Int → Int → Int) (K : Nat) (last : Int) : Nat → Int → Int → Option (List Int)
 | 0, _, _ => none
 | k + 1, st, m => if spreadI A K (gput [] st m) < 0 ∨ last < spreadI A K (gput [] st m) then none else
  if st = 0 then (if k = 0 then some [0] else none) else
  fsome (fun to => if A st to m < 0 then none else (routeR A K last k to (A st to m)).map (st :: ·)) K 0
def routeF (A : Int → Int → Int → Int) (K : Nat) (last : Int) (k : Nat) (st m : Int) : D := if (spreadI A K (gput [] st m) < 0 ∨ last < spreadI A K (gput [] st m)) ∨ k = 0 then .nils else if st = 0 then .sl (intL [0]) else .nils
def routeD (A : Int → Int → Int → Int) (K : Nat) (last : Int) (k : Nat) (st m : Int) : D := match routeR A K last k st m with
 | some l => .tup [.sl (intL l), .bool true]
 | none => .tup [routeF A K last k st m, .bool false]
theorem routeF_lt (A : Int → Int → Int → Int) (K : Nat) (last : Int) (k : Nat) (st m : Int) (j : Nat) : D.lt j (routeF A K last k st m) = true := by
 unfold routeF; split
 ·rfl
 ·split <;> rfl
theorem routeR_len {A : Int → Int → Int → Int} {K : Nat} {last : Int} : ∀ (k : Nat) (st m : Int) (l : List Int), routeR A K last k st m = some l → l.length = k
 | 0, _, _, _, h => by simp [routeR] at h
 | k + 1, st, m, l, h => by
  simp only [routeR] at h
  split at h
  ·cases h
  ·split at h
   ·split at h
    ·cases h; simp; omega
    ·cases h
   ·have go : ∀ (r i : Nat), fsome (fun to : Nat => if A st to m < 0 then none else (routeR A K last k to (A st to m)).map (st :: ·)) r i = some l → l.length = k + 1 := fun r => by
     induction r with
     | zero => intro i h; simp [fsome] at h
     | succ r ih =>
      intro i h
      simp only [fsome] at h
      split at h
      ·rename_i x hx
       cases h
       split at hx
       ·cases hx
       ·obtain ⟨l', h1, h2⟩ := Option.map_eq_some_iff.1 hx
        rw [← h2, List.length_cons, routeR_len k _ _ _ h1]
      ·exact ih _ h
    exact go _ _ h
set_option maxHeartbeats 2000000 in
theorem route_t {s : SkyW} {n : NetW} (hn : NetOk s n) {last : Int} : ∀ (k : Nat) (st m : Int), k ≤ 100 → (0 ≤ st ∧ st < (n.r.length : Int)) → (0 ≤ m ∧ m ≤ 1440) →
  Pure Tryz.prog 51 [.agg n.c, .int .i64 st, .int .i64 m, .int .i64 (k : Int), .int .i64 last] (routeD (alongI n.l) n.r.length last k st m) := by
 intro k
 induction k with
 | zero =>
  intro st m hk hst hm
  have hat : AtOk (gput [] st m) := fun k v h => by simp only [gput, gget] at h; split at h <;> cases h; exact hm
  have oS := gSpr_eq hn hat
  obtain ⟨rl, lk⟩ := n
  have u1 := fun h nid (hb : hget h 1 = some (.map [])) => am_put (m := []) (h := h) (b := 1) hb nid st m
  have v1 := fun h (hb : hget h 1 = some (.map (atD (gput [] st m)))) => at_view (gput [] st m) h 1 hb
  simp only [NetW.c] at oS ⊢
  have hD : routeD (alongI lk) rl.length last 0 st m = .tup [.nils, .bool false] := by simp [routeD, routeR, routeF]
  rw [hD]
  generalize spreadI (alongI lk) rl.length (gput [] st m) = t at *
  refine pure_of_wc (rs := [.tmp 10, .tmp 11]) (m := 68) [] e13_ok (by kernel_rfl) Tryz.func51 rfl (by kernel_rfl) rfl rfl (by kernel_rfl) ?_
  have hz : decide (((0 : Nat) : Int) < 1) = true := rfl
  cases q1 : decide (t < 0)
  ·cases q2 : decide (last < t)
   ·simp only [RT, FS, ↓RE, okR, argEnv, Nat.reduceAdd, Nat.reduceSub, Nat.reduceLT, Nat.reduceLeDiff, Nat.reduceEqDiff, reduceIte, RM, u1, v1, oS, q1, q2, hz]
   ·simp only [RT, FS, ↓RE, okR, argEnv, Nat.reduceAdd, Nat.reduceSub, Nat.reduceLT, Nat.reduceLeDiff, Nat.reduceEqDiff, reduceIte, RM, u1, v1, oS, q1, q2]
  ·simp only [RT, FS, ↓RE, okR, argEnv, Nat.reduceAdd, Nat.reduceSub, Nat.reduceLT, Nat.reduceLeDiff, Nat.reduceEqDiff, reduceIte, RM, u1, v1, oS, q1]
 | succ k ih =>
  intro st m hk hst hm
  have hat : AtOk (gput [] st m) := fun k v h => by simp only [gput, gget] at h; split at h <;> cases h; exact hm
  have oS := gSpr_eq hn hat
  have hrn := hn.rn
  have oA := gAlong_eq (n := n) (fun k hk => (hn.l k hk).1) hn.ln
  have hab := fun (f t m : Int) => alongI_b (fun k hk => (hn.l k hk).1) f t m
  obtain ⟨rl, lk⟩ := n
  have u1 := fun h nid (hb : hget h 1 = some (.map [])) => am_put (m := []) (h := h) (b := 1) hb nid st m
  have v1 := fun h (hb : hget h 1 = some (.map (atD (gput [] st m)))) => at_view (gput [] st m) h 1 hb
  simp only [NetW.c] at oS oA ih ⊢
  dsimp only at hab hrn hst ih
  have hz : decide (((k + 1 : Nat) : Int) < 1) = false := by simp; omega
  have hw0 : IntKind.i64.wrap (((k + 1 : Nat) : Int) - 1) = (k : Int) := by rw [wrap_i64 (by omega) (by omega)]; omega
  obtain ⟨t, ht⟩ : ∃ t, spreadI (alongI lk) rl.length (gput [] st m) = t := ⟨_, rfl⟩
  rw [ht] at oS
  simp only [routeD, routeR, routeF, ht, Nat.add_eq_zero_iff, Nat.succ_ne_zero, and_false, or_false]
  refine pure_of_wc (rs := [.tmp 10, .tmp 11]) (m := 68) [] e13_ok (by kernel_rfl) Tryz.func51 rfl (by kernel_rfl) rfl rfl (by kernel_rfl) ?_
  cases q1 : decide (t < 0)
  case true =>
   have q1' : t < 0 := by simpa using q1
   rw [if_pos (.inl q1'), if_pos (.inl q1')]
   simp only [RT, FS, ↓RE, okR, argEnv, Nat.reduceAdd, Nat.reduceSub, Nat.reduceLT, Nat.reduceLeDiff, Nat.reduceEqDiff, reduceIte, RM, u1, v1, oS, q1]
  cases q2 : decide (last < t)
  case true =>
   have q2' : last < t := by simpa using q2
   rw [if_pos (.inr q2'), if_pos (.inr q2')]
   simp only [RT, FS, ↓RE, okR, argEnv, Nat.reduceAdd, Nat.reduceSub, Nat.reduceLT, Nat.reduceLeDiff, Nat.reduceEqDiff, reduceIte, RM, u1, v1, oS, q1, q2]
  have q3' : ¬ (t < 0 ∨ last < t) := by simp at q1 q2; omega
  rw [if_neg q3', if_neg q3']
  by_cases h0 : st = 0
  ·have hz2 : ((st == 0) : Bool) = true := by simp [h0]
   have hl1 := fun h nid => lit_1 h nid 0
   rw [if_pos h0, if_pos h0]
   by_cases hk0 : k = 0
   ·have hz3 : ((((k + 1 : Nat) : Int) == 1) : Bool) = true := by simp [hk0]
    rw [if_pos hk0]
    simp only [RT, FS, ↓RE, okR, argEnv, Nat.reduceAdd, Nat.reduceSub, Nat.reduceLT, Nat.reduceLeDiff, Nat.reduceEqDiff, reduceIte, RM, u1, v1, oS, q1, q2, hz, hz2, hz3, hl1]
    rfl
   ·have hz3 : ((((k + 1 : Nat) : Int) == 1) : Bool) = false := by simp; omega
    rw [if_neg hk0]
    simp only [RT, FS, ↓RE, okR, argEnv, Nat.reduceAdd, Nat.reduceSub, Nat.reduceLT, Nat.reduceLeDiff, Nat.reduceEqDiff, reduceIte, RM, u1, v1, oS, q1, q2, hz, hz2, hz3, hl1]
    rfl
  have hz2 : ((st == 0) : Bool) = false := by simp [h0]
  rw [if_neg h0, if_neg h0]
  simp only [RT, FS, ↓RE, okR, argEnv, Nat.reduceAdd, Nat.reduceSub, Nat.reduceLT, Nat.reduceLeDiff, Nat.reduceEqDiff, reduceIte, RM, u1, v1, oS, q1, q2, hz, hz2, List.length_map]
  obtain ⟨f, hf⟩ : ∃ f : Nat → Option (List Int), f = fun to : Nat => if alongI lk st to m < 0 then none else (routeR (alongI lk) rl.length last k to (alongI lk st to m)).map (st :: ·) := ⟨_, rfl⟩
  rw [← hf]
  refine loopV (ι := Nat) e13_ok [] (fun i => [(1, .int .i64 st), (2, .int .i64 m), (3, .int .i64 ((k + 1 : Nat) : Int)), (4, .int .i64 last), (5, .ptr 0 0), (41, .int .i64 (rl.length : Int)), (42, .int .i64 (i : Int))])
   (fun i => [(0, .box [rlD rl, lkD lk])]) 2 (fun i => i ≤ rl.length ∧ fsome f rl.length 0 = fsome f (rl.length - i) i) (fun i => rl.length - i) 0 (by kernel_rfl) (by kernel_rfl) ⟨Nat.zero_le _, rfl⟩ ?_ ?_
  ·simp [headW, heapW, envW, blkLt, D.ltL, D.lt, look, hget]
  rintro i ⟨hil, hfs⟩
  rcases Nat.lt_or_ge i rl.length with hlt | hge
  ·have hc2 := nat_lt_true hlt
   have hw1 := wrap_i64 (z := (i : Int) + 1) (by omega) (by omega)
   have oA1 := oA st i m
   have hfi : f i = if alongI lk st i m < 0 then none else (routeR (alongI lk) rl.length last k i (alongI lk st i m)).map (st :: ·) := by rw [hf]
   have hb := hab st i m
   generalize alongI lk st i m = u at *
   cases q4 : decide (u < 0)
   case true =>
    rw [if_pos (by simpa using q4)] at hfi
    simp only [RT, FS, ↓RE, okR, argEnv, Nat.reduceAdd, Nat.reduceSub, Nat.reduceLT, Nat.reduceLeDiff, Nat.reduceEqDiff, reduceIte, RM, hc2, decide_true, oA1, q4, hw1]
    exact ⟨i + 1, ⟨by omega, by rw [hfs, fsome_none hlt hfi]⟩, by omega, by simp [headW, heapW, envW, blkLt, D.ltL, D.lt, look, hget]⟩
   rw [if_neg (by simpa using q4)] at hfi
   have hp := ih i u (by omega) ⟨by omega, by omega⟩ (by simp at q4; omega)
   cases hr : routeR (alongI lk) rl.length last k i u with
   | none =>
    rw [hr] at hfi
    simp only [routeD, hr] at hp
    simp only [RT, FS, ↓RE, okR, argEnv, Nat.reduceAdd, Nat.reduceSub, Nat.reduceLT, Nat.reduceLeDiff, Nat.reduceEqDiff, reduceIte, RM, hc2, decide_true, oA1, q4, hw0, hw1]
    refine call_of_pure' hp (by simp [D.ltL, D.lt]) (by simp [D.lt, D.ltL, routeF_lt]) ?_
    simp only [RT, FS, ↓RE, okR, argEnv, Nat.reduceAdd, Nat.reduceSub, Nat.reduceLT, Nat.reduceLeDiff, Nat.reduceEqDiff, reduceIte, RM, hw1]
    exact ⟨i + 1, ⟨by omega, by rw [hfs, fsome_none hlt hfi]⟩, by omega, by simp [headW, heapW, envW, blkLt, D.ltL, D.lt, look, hget]⟩
   | some l =>
    rw [hr] at hfi
    have hll := routeR_len k _ _ _ hr
    simp only [routeD, hr] at hp
    rw [hfs, fsome_some hlt hfi]
    have hl1 := fun h nid => lit_1 h nid st
    simp only [RT, FS, ↓RE, okR, argEnv, Nat.reduceAdd, Nat.reduceSub, Nat.reduceLT, Nat.reduceLeDiff, Nat.reduceEqDiff, reduceIte, RM, hc2, decide_true, oA1, q4, hw0, hw1]
    refine call_of_pure' hp (by simp [D.ltL, D.lt]) (by simp [D.lt, D.ltL]) ?_
    have ap := fun h nid (hb : hget h 2 = some (.arr 3 1 (intL [st]))) => oI_appD (n := 1) (r := l) hb rfl nid (by simp; omega)
    simp only [RT, FS, ↓RE, okR, argEnv, Nat.reduceAdd, Nat.reduceSub, Nat.reduceLT, Nat.reduceLeDiff, Nat.reduceEqDiff, reduceIte, RM, hl1, ap, intL_len, List.length_append, List.length_singleton, decide_true]
    simp [viewA, intL_len, Nat.add_comm]
  ·have hc2 := nat_lt_false hge
   have e0 : rl.length - i = 0 := by omega
   rw [hfs, e0]
   simp only [RT, FS, ↓RE, okR, argEnv, Nat.reduceAdd, Nat.reduceSub, Nat.reduceLT, Nat.reduceLeDiff, Nat.reduceEqDiff, reduceIte, RM, hc2, decide_false, fsome]
end Go.Sx

namespace Go.Sx
open Go.Proofs
set_option maxRecDepth 10000

def arrF (w : WatchW) (c m : Int) (q s : Nat) : Option (List Int) := if (gget (heardM w.s w.n.r c m) s).isSome then routeR (alongI w.n.l) w.n.r.length (arrivesI w c m) (q + 1) s m else none
def arriveR (w : WatchW) (c m : Int) : Option (List Int) := fsome (fun q => fsome (arrF w c m q) w.n.r.length 0) w.n.r.length 0
def ArrR (w : WatchW) (c m : Int) : D := if (watchB w && (freeB w.s.sh c && rI m 0 1440)) = true then
  (if arrivesI w c m < 0 then .tup [.int .i64 0, .nils, .int .i64 5] else
   match arriveR w c m with
   | some l => .tup [.int .i64 (arrivesI w c m), .sl (intL l), .int .i64 0]
   | none => .tup [.int .i64 0, .nils, .int .i64 5])
 else .tup [.int .i64 0, .nils, .int .i64 2]
theorem free_in {s : SkyW} {c : Int} (h : freeB s.sh c = true) : InS s c := by
 simp only [freeB, Bool.and_eq_true] at h
 have := rI_le h.1
 exact ⟨this.1, by omega⟩
set_option maxHeartbeats 2000000 in
theorem Arrive_t (w : WatchW) (hl : WatchL w) (c m : Int) : Pure Tryz.prog 20 [.agg w.c, .int .i64 c, .int .i64 m] (ArrR w c m) := by
 have oW := gWatch_eq hl
 have oF := gFree_eq hl.s c
 have p1 : watchB w = true → freeB w.s.sh c = true → rI m 0 1440 = true → WatchOk w ∧ InS w.s c ∧ (0 ≤ m ∧ m ≤ 1440) := fun a b d => ⟨watch_ok a, free_in b, rI_le d⟩
 have p2 := fun a b d => let ⟨x, y, z⟩ := p1 a b d; arrives_t x y z
 have p3 := fun a b d => let ⟨x, y, z⟩ := p1 a b d; gHeard_eq x y z.1
 have p4 := fun a b d => let ⟨x, y, z⟩ := p1 a b d; fun k st => route_t x.n (last := arrivesI w c m) k st m
 have p5 := fun a b d => let ⟨x, y, z⟩ := p1 a b d; x.n.rn
 have hR : ∀ q s, arrF w c m q s = if (gget (heardM w.s w.n.r c m) s).isSome then routeR (alongI w.n.l) w.n.r.length (arrivesI w c m) (q + 1) s m else none := fun _ _ => rfl
 unfold ArrR arriveR
 generalize arrF w c m = f at *
 generalize arrivesI w c m = last at *
 obtain ⟨B, hB⟩ : ∃ B, watchB w = B := ⟨_, rfl⟩
 rw [hB] at oW p1 p2 p3 p4 p5 ⊢
 obtain ⟨⟨sw, sd, sh⟩, ⟨rl, lk⟩, cell, mi, ev, en, af⟩ := w
 dsimp only at oF p1 p2 p3 p4 p5 hR ⊢
 simp only [WatchW.c, SkyW.c, NetW.c, List.cons_append, List.nil_append] at oW oF p2 p3 p4 ⊢
 refine pure_of_wc (rs := [.tmp 6, .tmp 7, .tmp 8]) (m := 79) [] e13_ok (by kernel_rfl) Tryz.func20 rfl (by kernel_rfl) rfl rfl (by kernel_rfl) ?_
 cases B
 ·simp only [RT, FS, ↓RE, okR, argEnv, Nat.reduceAdd, Nat.reduceSub, Nat.reduceLT, Nat.reduceLeDiff, Nat.reduceEqDiff, reduceIte, oW, Bool.not_false]
  simp
 cases hF : freeB sh c
 ·simp only [RT, FS, ↓RE, okR, argEnv, Nat.reduceAdd, Nat.reduceSub, Nat.reduceLT, Nat.reduceLeDiff, Nat.reduceEqDiff, reduceIte, oW, oF, hF, Bool.not_false, Bool.not_true]
  simp
 cases hM : rI m 0 1440
 ·simp only [RT, FS, ↓RE, okR, argEnv, Nat.reduceAdd, Nat.reduceSub, Nat.reduceLT, Nat.reduceLeDiff, Nat.reduceEqDiff, reduceIte, oW, oF, hF, gMin_eq, hM, Bool.not_false, Bool.not_true]
  simp
 have q2 := p2 rfl hF hM
 have q3 := p3 rfl hF hM
 have q4 := p4 rfl hF hM
 have q5 := p5 rfl hF hM
 have hm := rI_le hM
 clear p1 p2 p3 p4 p5
 simp only [Bool.and_self, if_true]
 simp only [RT, FS, ↓RE, okR, argEnv, Nat.reduceAdd, Nat.reduceSub, Nat.reduceLT, Nat.reduceLeDiff, Nat.reduceEqDiff, reduceIte, oW, oF, hF, gMin_eq, hM, Bool.not_false, Bool.not_true]
 refine call_of_pure q2 rfl ?_
 cases hl0 : decide (last < 0)
 case true =>
  rw [if_pos (by simpa using hl0)]
  simp only [RT, FS, ↓RE, okR, argEnv, Nat.reduceAdd, Nat.reduceSub, Nat.reduceLT, Nat.reduceLeDiff, Nat.reduceEqDiff, reduceIte, hl0]
 rw [if_neg (by simpa using hl0)]
 simp only [RT, FS, ↓RE, okR, argEnv, Nat.reduceAdd, Nat.reduceSub, Nat.reduceLT, Nat.reduceLeDiff, Nat.reduceEqDiff, reduceIte, hl0, q3]
 obtain ⟨M, hMm⟩ : ∃ M, heardM ⟨sw, sd, sh⟩ rl c m = M := ⟨_, rfl⟩
 rw [hMm] at hR ⊢
 have hk := fun h k => ad_look h M k
 refine loopV (ι := Nat) e13_ok [] (fun i => [(2, .int .i64 m), (3, .ptr 0 0), (9, .int .i64 last), (10, .mpd (atD M)), (11, .int .i64 ((i : Int) + 1))])
  (fun i => [(0, .box [.int .i64 sw, .int .i64 sd, shD sh, rlD rl, lkD lk, .int .i64 cell, .int .i64 mi, .int .i64 ev, .int .i64 en, inD af])]) 1
  (fun i => i ≤ rl.length ∧ fsome (fun q => fsome (f q) rl.length 0) rl.length 0 = fsome (fun q => fsome (f q) rl.length 0) (rl.length - i) i) (fun i => rl.length - i) 0 (by kernel_rfl) (by kernel_rfl) ⟨Nat.zero_le _, rfl⟩ ?_ ?_
 ·simp [headW, heapW, envW, blkLt, D.ltL, D.lt, look, hget, shD]
 rintro i ⟨hil, hfs⟩
 have hw1 := wrap_i64 (z := (i : Int) + 1 + 1) (by omega) (by omega)
 rcases Nat.lt_or_ge i rl.length with hlt | hge
 ·have hc2 : ((i : Int) + 1 ≤ (rl.length : Int)) = True := by simp; omega
  simp only [RT, FS, ↓RE, okR, argEnv, Nat.reduceAdd, Nat.reduceSub, Nat.reduceLT, Nat.reduceLeDiff, Nat.reduceEqDiff, reduceIte, RM, hc2, decide_true, List.length_map]
  refine loopV (ι := Nat) e13_ok [] (fun j => [(2, .int .i64 m), (3, .ptr 0 0), (9, .int .i64 last), (10, .mpd (atD M)), (11, .int .i64 ((i : Int) + 1)), (53, .int .i64 (rl.length : Int)), (54, .int .i64 (j : Int))])
   (fun j => [(0, .box [.int .i64 sw, .int .i64 sd, shD sh, rlD rl, lkD lk, .int .i64 cell, .int .i64 mi, .int .i64 ev, .int .i64 en, inD af])]) 1
   (fun j => j ≤ rl.length ∧ fsome (f i) rl.length 0 = fsome (f i) (rl.length - j) j) (fun j => rl.length - j) 0 (by kernel_rfl) (by kernel_rfl) ⟨Nat.zero_le _, rfl⟩ ?_ ?_
  ·simp [headW, heapW, envW, blkLt, D.ltL, D.lt, look, hget, shD]
  rintro j ⟨hjl, hgs⟩
  rcases Nat.lt_or_ge j rl.length with hlt2 | hge2
  ·have hc3 := nat_lt_true hlt2
   have hw2 := wrap_i64 (z := (j : Int) + 1) (by omega) (by omega)
   have hRj := hR i j
   cases hg : (gget M (j : Int)).isSome
   ·rw [hg] at hRj
    simp only [Bool.false_eq_true, if_false] at hRj
    simp only [RT, FS, ↓RE, okR, argEnv, Nat.reduceAdd, Nat.reduceSub, Nat.reduceLT, Nat.reduceLeDiff, Nat.reduceEqDiff, reduceIte, RM, hc3, decide_true, hk, hg, hw2, Bool.not_false]
    exact ⟨j + 1, ⟨by omega, by rw [hgs, fsome_none hlt2 hRj]⟩, by omega, by simp [headW, heapW, envW, blkLt, D.ltL, D.lt, look, hget, shD]⟩
   rw [hg] at hRj
   simp only [if_true] at hRj
   have hp := q4 (i + 1) j (by omega) ⟨by omega, by omega⟩ hm
   rw [show (((i + 1 : Nat)) : Int) = (i : Int) + 1 by omega] at hp
   cases hr : routeR (alongI lk) rl.length last (i + 1) j m with
   | none =>
    rw [hr] at hRj
    simp only [routeD, hr] at hp
    simp only [RT, FS, ↓RE, okR, argEnv, Nat.reduceAdd, Nat.reduceSub, Nat.reduceLT, Nat.reduceLeDiff, Nat.reduceEqDiff, reduceIte, RM, hc3, decide_true, hk, hg, hw2, Bool.not_true]
    refine call_of_pure' hp (by simp [D.ltL, D.lt]) (by simp [D.lt, D.ltL, routeF_lt]) ?_
    simp only [RT, FS, ↓RE, okR, argEnv, Nat.reduceAdd, Nat.reduceSub, Nat.reduceLT, Nat.reduceLeDiff, Nat.reduceEqDiff, reduceIte, RM, hw2]
    exact ⟨j + 1, ⟨by omega, by rw [hgs, fsome_none hlt2 hRj]⟩, by omega, by simp [headW, heapW, envW, blkLt, D.ltL, D.lt, look, hget, shD]⟩
   | some l =>
    rw [hr] at hRj
    simp only [routeD, hr] at hp
    have hgs2 : fsome (f i) rl.length 0 = some l := by rw [hgs, fsome_some hlt2 hRj]
    have hfs2 := fsome_some (f := fun q => fsome (f q) rl.length 0) hlt hgs2
    simp only [RT, FS, ↓RE, okR, argEnv, Nat.reduceAdd, Nat.reduceSub, Nat.reduceLT, Nat.reduceLeDiff, Nat.reduceEqDiff, reduceIte, RM, hc3, decide_true, hk, hg, hw2, Bool.not_true]
    refine call_of_pure' hp (by simp [D.ltL, D.lt]) (by simp [D.lt, D.ltL]) ?_
    simp only [RT, FS, ↓RE, okR, argEnv, Nat.reduceAdd, Nat.reduceSub, Nat.reduceLT, Nat.reduceLeDiff, Nat.reduceEqDiff, reduceIte, RM, hw2]
    rw [hfs, hfs2]
  ·have hc3 := nat_lt_false hge2
   have e0 : rl.length - j = 0 := by omega
   rw [e0, fsome] at hgs
   have hfs2 := fsome_none (f := fun q => fsome (f q) rl.length 0) hlt hgs
   simp only [RT, FS, ↓RE, okR, argEnv, Nat.reduceAdd, Nat.reduceSub, Nat.reduceLT, Nat.reduceLeDiff, Nat.reduceEqDiff, reduceIte, RM, hc3, decide_false, hw1]
   exact ⟨i + 1, ⟨by omega, by rw [hfs, hfs2]⟩, by omega, by simp [headW, heapW, envW, blkLt, D.ltL, D.lt, look, hget, shD]⟩
 ·have hc2 : ((i : Int) + 1 ≤ (rl.length : Int)) = False := by simp; omega
  have e0 : rl.length - i = 0 := by omega
  rw [e0, fsome] at hfs
  simp only [RT, FS, ↓RE, okR, argEnv, Nat.reduceAdd, Nat.reduceSub, Nat.reduceLT, Nat.reduceLeDiff, Nat.reduceEqDiff, reduceIte, RM, hc2, decide_false, List.length_map]
  rw [hfs]
end Go.Sx
