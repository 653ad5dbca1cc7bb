/- Own work: contracts of functions, used in the proof of a law. -/
import Derived.Test.YtljkgnicmlhipaaGreatSxW73v
import Derived.Test.YtljkgnicmlhipaaGreatSxW75v
import Derived.Test.YtljkgnicmlhipaaGreatSxZ30
set_option linter.unusedVariables false
set_option linter.unusedSimpArgs false
namespace Go.Sx
open Go.Proofs
set_option maxRecDepth 10000


def plL (x : List PlW) : List (List D) := x.map enP.d
theorem plL_len (x : List PlW) : (plL x).length = x.length := List.length_map ..
theorem plL_ok (x : List PlW) : okSrc 2 (plL x) = true := by
 unfold okSrc plL
 rw [List.all_eq_true]
 intro e he
 obtain ⟨p, _, rfl⟩ := List.mem_map.1 he
 rfl
def crL (X : List (List PlW)) : List (List D) := X.map fun x => [.sl (plL x)]
theorem crL_len (X : List (List PlW)) : (crL X).length = X.length := List.length_map ..
theorem pl_nils (x : List PlW) (h : H) (nid : Nat) (hc : x.length ≤ 1000000) : appE Tryz.prog h nid 45 45 .nils (.sl (plL x)) = some (.osl nid x.length, (nid, .arr 44 2 (plL x)) :: h, nid + 1) := by
 rw [app_nils Fz.und_45 Fz.size_44 Fz.zero_44 rfl (by omega) Fz.bytes_44_45 h nid (x := .sl (plL x)) (xs := plL x) rfl (plL_ok x) (by rw [plL_len]; omega) (by rw [plL_len]; omega), plL_len]
theorem pl_app {h : H} {b n : Nat} {x r : List PlW} (hb : hget h b = some (.arr 44 2 (plL x))) (hn : x.length = n) (nid : Nat) (hc : x.length + r.length ≤ 1000000) :
  appE Tryz.prog h nid 45 45 (.osl b n) (.sl (plL r)) = some (.osl b (n + r.length), hset h b (.arr 44 2 (plL (x ++ r))), nid) := by
 rw [app_sl Fz.und_45 Fz.size_44 Fz.zero_44 rfl (by omega) Fz.bytes_44_45 h nid b n hb (by rw [plL_len, hn]) (plL_ok r) (by rw [plL_len, plL_len]; omega) (by rw [plL_len, plL_len]; omega), plL_len, plL_len, hn]
 simp [plL]
theorem cr_app {h : H} {b n : Nat} {X : List (List PlW)} {x y : List PlW} (hb : hget h b = some (.arr 45 1 (crL X))) (hn : X.length = n) (nid : Nat) (hc : X.length ≤ 1000000) :
  appE Tryz.prog h nid 46 46 (.osl b n) (.sl [[.sl (plL x)], [.sl (plL y)]]) = some (.osl b (n + 2), hset h b (.arr 45 1 (crL (X ++ [x, y]))), nid) := by
 rw [app_sl Fz.und_46 Fz.size_45 Fz.zero_45 rfl (by omega) Fz.bytes_45_46 h nid b n hb (by rw [crL_len, hn]) rfl (by simp [crL_len]; omega) (by simp [crL_len]; omega)]
 simp [crL, hn]
def decCr : List D → Option (List PlW)
 | [.sl l] => enP.decL l
 | _ => none
def enC : En (List PlW) where
 d x := [.sl (plL x)]
 dec := decCr
 h1 x := by simp only [decCr, plL, En.decL_map]
 h2 c a h := by
  unfold decCr at h
  split at h
  ·rw [plL, En.decL_inv h]
  ·cases h
 sz := 1
 hsz _ := rfl
theorem cr_ix {X : List (List PlW)} {i : Nat} {x : List PlW} (hx : X[i]? = some x) (h : H) : indexAddrD Tryz.prog h 46 (.sl (crL X)) (.int .i64 (i : Int)) = some (.ref [.sl (plL x)] 0) :=
 En.ix (P := Tryz.prog) Fz.und_46 Fz.size_45 (E := enC) (a := x) (En.sl_map (E := enC) X) hx h .i64
theorem pl_litD (h : H) (c : Int) (d : Bool) : litD Tryz.prog h 45 1 [(0, .agg [.int .i64 c, .bool d])] = some (.sl (plL [(c, d)])) := by kernel_rfl
theorem cr_litD (h : H) (x : List (List D)) : litD Tryz.prog h 46 1 [(0, .sl x)] = some (.sl [[.sl x]]) := by kernel_rfl
theorem cr_litD2 (h : H) (x y : List (List D)) : litD Tryz.prog h 46 2 [(0, .sl x), (1, .sl y)] = some (.sl [[.sl x], [.sl y]]) := by kernel_rfl
def vS (a : Nat → D) (f1 f2 : D → D) (k n : Nat) (lit : D) (m j : Nat) : D :=
 if m < 2 then a j else if m < 4 then (if j = 14 then .osl 3 k else if j = 18 then .osl 3 (k + 1) else f1 (a j))
 else (if j = 19 then lit else if j = 20 ∨ j = 21 then .osl 1 (n + 2) else f2 (if j = 14 then .osl 3 k else if j = 18 then .osl 3 (k + 1) else f1 (a j)))
theorem vS_live {a : Nat → D} {f1 f2 : D → D} {k n : Nat} {lit : D} (m : Nat) {j : Nat} (h1 : f1 (a j) = a j) (h2 : f2 (a j) = a j) (hj : j ≠ 14 ∧ j ≠ 18 ∧ j ≠ 19 ∧ j ≠ 20 ∧ j ≠ 21) : vS a f1 f2 k n lit m j = a j := by
 unfold vS
 simp only [hj.1, hj.2.1, hj.2.2.1, hj.2.2.2.1, hj.2.2.2.2, if_false, or_self, h1, h2]
 split
 ·rfl
 ·split <;> rfl
def aS (n k : Nat) (i c : Int) (X : List (List PlW)) (x : List PlW) : Nat → D
 | 0 => .osl 1 n | 1 => .sl (crL X) | 2 => .int .i64 i | 3 => .ref [.sl (plL x)] 0 | 4 => .sl (plL x) | 5 => .osl 2 k | 6 => .int .i64 c | 7 => .agg [.int .i64 c, .bool false] | 8 => .sl (plL [(c, false)]) | 9 => .osl 2 (k + 1)
 | 10 => .sl (crL X) | 11 => .int .i64 i | 12 => .ref [.sl (plL x)] 0 | 13 => .sl (plL x) | 15 => .int .i64 c | 16 => .agg [.int .i64 c, .bool true] | 17 => .sl (plL [(c, true)]) | _ => .any
def okS (m : Nat) (L : Nat → Prop) : Prop := m ≤ 5 ∧ (L 5 ↔ 1 ≤ m) ∧ (L 9 ↔ 2 ≤ m) ∧ (L 14 ↔ 3 ≤ m) ∧ (L 18 ↔ 4 ≤ m) ∧ (L 20 ↔ 5 ≤ m)
theorem okS_keep {m : Nat} {L : Nat → Prop} (i : Nat) (hi : i ≠ 5 ∧ i ≠ 9 ∧ i ≠ 14 ∧ i ≠ 18 ∧ i ≠ 20) (h : okS m L) : okS m (fun j => j = i ∨ L j) := by
 obtain ⟨h0, h1, h2, h3, h4, h5⟩ := h
 refine ⟨h0, ?_, ?_, ?_, ?_, ?_⟩
 ·dsimp only; rw [h1]; omega
 ·dsimp only; rw [h2]; omega
 ·dsimp only; rw [h3]; omega
 ·dsimp only; rw [h4]; omega
 ·dsimp only; rw [h5]; omega
theorem okS_step {m : Nat} {L : Nat → Prop} (i : Nat) (hi : (m = 0 ∧ i = 5) ∨ (m = 1 ∧ i = 9) ∨ (m = 2 ∧ i = 14) ∨ (m = 3 ∧ i = 18) ∨ (m = 4 ∧ i = 20)) (h : okS m L) : okS (m + 1) (fun j => j = i ∨ L j) := by
 obtain ⟨h0, h1, h2, h3, h4, h5⟩ := h
 refine ⟨by omega, ?_, ?_, ?_, ?_, ?_⟩
 ·dsimp only; rw [h1]; omega
 ·dsimp only; rw [h2]; omega
 ·dsimp only; rw [h3]; omega
 ·dsimp only; rw [h4]; omega
 ·dsimp only; rw [h5]; omega
theorem flat_const {α β : Type} {f : α → List β} {k : Nat} (h : ∀ x, (f x).length = k) (l : List α) : (l.flatMap f).length = l.length * k := by
 rw [List.length_flatMap]
 simp only [h]
 rw [sum_const]
structure ShOk (w : WatchW) (l : List MsgW) (x : List PlW) : Prop where
 a : AgOk w l x
def agD (w : WatchW) (l : List MsgW) (x : List PlW) : D := .bool (agB w (knownL l (w.min + x.length - 1)) (w.min + x.length - 1) x)
theorem enP_inj {x y : List PlW} (h : (.sl (plL x) : D) = .sl (plL y)) : x = y := by
 have := congrArg (fun d : D => match d with | .sl l => enP.decL l | _ => none) h
 simpa only [plL, En.decL_map, Option.some.injEq] using this
noncomputable def gAg : List D → Option D := orcF (fun p : WatchW × List MsgW × List PlW => AgOk p.1 p.2.1 p.2.2) (fun p => [.agg p.1.c, msD p.2.1, .sl (plL p.2.2)]) (fun p => agD p.1 p.2.1 p.2.2)
theorem gAg_eq {w : WatchW} {l : List MsgW} {x : List PlW} (h : AgOk w l x) : gAg [.agg w.c, msD l, .sl (plL x)] = some (agD w l x) :=
 orcF_eq (ok := fun p : WatchW × List MsgW × List PlW => AgOk p.1 p.2.1 p.2.2) (dsf := fun p => [.agg p.1.c, msD p.2.1, .sl (plL p.2.2)]) (rf := fun p => agD p.1 p.2.1 p.2.2) (w, l, x) h fun q hq => by
  simp only [List.cons.injEq, D.agg.injEq, and_true] at hq
  rw [WatchW.c_inj hq.1, En.map_inj (E := enMs) hq.2.1, enP_inj hq.2.2]
noncomputable abbrev e76 : List (FuncId × (List D → Option D)) :=
 (7, gQuick) :: (8, cstO [] (.bool true)) :: (10, gWLN okL mailedD) ::
 (9, gWLN okL WhereR) :: (13, gAg) :: (12, gSame) :: []
theorem e76_ok : OkO Tryz.prog (mkO e76) :=
 mkO_ok (orcF_ok fun p h => quick_t h.1 h.2) <| mkO_ok (cstO_ok known_t) <| mkO_ok (orcF_ok fun p h => mailed_t h.1 h.2 p.2.2) <|
 mkO_ok (orcF_ok fun p h => Where_t h.1 h.2 p.2.2) <| mkO_ok (orcF_ok fun p h => r_Agrees_t h) <| mkO_ok gSame_ok <| fun _ _ _ h => by cases h
set_option maxHeartbeats 8000000 in
theorem watchSharp_at (w : WatchW) (hw : WatchL w) (l : List MsgW) (hl : BL l) (now : Int) : Pure Tryz.prog 4 [.agg w.c, msD l, .int .i64 now] (.bool true) := by
 have o1 := fun h => gQuick_eq hw (now := now) h
 have o2 := cstO_eq [] (.bool true)
 have o3 : gWLN okL mailedD [.agg w.c, msD l, .int .i64 now] = some (.int .i64 (askedI w l now)) := gWLN_eq ⟨hw, hl⟩
 have o4 : askedI w l now = 0 → gWLN okL WhereR [.agg w.c, msD l, .int .i64 now] = some (if (cellsF w.s.sh.length (plF w (knownL l now) now (now - w.min).toNat).1).length + (cellsF w.s.sh.length (plF w (knownL l now) now (now - w.min).toNat).2).length = 0 then .tup [.nils, .nils, .int .i64 5] else .tup [.sl (intL (cellsF w.s.sh.length (plF w (knownL l now) now (now - w.min).toNat).1)), .sl (intL (cellsF w.s.sh.length (plF w (knownL l now) now (now - w.min).toNat).2)), .int .i64 0]) := fun h => by
  have := gWLN_eq (ok := okL) (rf := WhereR) (w := w) (l := l) (now := now) ⟨hw, hl⟩
  rw [this]
  unfold WhereR
  rw [if_pos h]
 have hA : askedI w l now = 0 → AskOk w l now := asked_ok
 generalize askedI w l now = E at *
 generalize quickB w now = Q at *
 by_cases hE : E = 0
 case neg =>
  have hz : (E != 0) = true := by simp [hE]
  obtain ⟨⟨sw, sd, sh⟩, ⟨rl, lk⟩, cell, mi, ev, en, af⟩ := w
  simp only [WatchW.c, SkyW.c, NetW.c, List.cons_append, List.nil_append] at *
  refine pure_of_pieces (rs := [.tmp 6]) (m := 199) [(14, [(20, false, true, [(12, 15), (11, 15), (7, 15), (7, 11), (6, 15), (6, 11), (3, 15), (3, 11), (3, 6), (2, 15), (2, 11), (2, 6)]), (2, false, false, [])]), (16, [(12, false, false, [])]), (20, [(7, false, false, [])]), (21, [(13, true, false, []), (1, false, false, [])])] e76_ok (by kernel_rfl) Tryz.func4 rfl (by kernel_rfl) rfl rfl (by kernel_rfl) ?_
  refine awp_peel (T := [(14, [(20, false, true, [(12, 15), (11, 15), (7, 15), (7, 11), (6, 15), (6, 11), (3, 15), (3, 11), (3, 6), (2, 15), (2, 11), (2, 6)]), (2, false, false, [])]), (16, [(12, false, false, [])]), (20, [(7, false, false, [])]), (21, [(13, true, false, []), (1, false, false, [])])]) e76_ok (by kernel_rfl) (by kernel_rfl) ?_
  simp only [FS, ↓RE, okR, argEnv, Nat.reduceAdd, Nat.reduceSub, Nat.reduceLT, Nat.reduceLeDiff, Nat.reduceEqDiff, reduceIte, RM]
  refine awp_peel (T := [(14, [(20, false, true, [(12, 15), (11, 15), (7, 15), (7, 11), (6, 15), (6, 11), (3, 15), (3, 11), (3, 6), (2, 15), (2, 11), (2, 6)]), (2, false, false, [])]), (16, [(12, false, false, [])]), (20, [(7, false, false, [])]), (21, [(13, true, false, []), (1, false, false, [])])]) e76_ok (by kernel_rfl) (by kernel_rfl) ?_
  cases g1 : decide ((3000 : Int) < now)
  case true =>
   simp only [FS, ↓RE, okR, argEnv, Nat.reduceAdd, Nat.reduceSub, Nat.reduceLT, Nat.reduceLeDiff, Nat.reduceEqDiff, reduceIte, RM, g1, o2]
  cases g2 : decide (now < (-3000 : Int))
  case true =>
   simp only [FS, ↓RE, okR, argEnv, Nat.reduceAdd, Nat.reduceSub, Nat.reduceLT, Nat.reduceLeDiff, Nat.reduceEqDiff, reduceIte, RM, g1, g2, o2]
  have o1 := o1 (by simp at g1 g2; omega)
  cases Q
  ·simp only [FS, ↓RE, okR, argEnv, Nat.reduceAdd, Nat.reduceSub, Nat.reduceLT, Nat.reduceLeDiff, Nat.reduceEqDiff, reduceIte, RM, g1, g2, o1, o2, Bool.not_false]
  cases q1 : decide ((6 : Int) < (l.length : Int))
  ·simp only [FS, ↓RE, okR, argEnv, Nat.reduceAdd, Nat.reduceSub, Nat.reduceLT, Nat.reduceLeDiff, Nat.reduceEqDiff, reduceIte, RM, g1, g2, o1, o2, q1, o3, hz, Bool.not_true, List.length_map]
  ·simp only [FS, ↓RE, okR, argEnv, Nat.reduceAdd, Nat.reduceSub, Nat.reduceLT, Nat.reduceLeDiff, Nat.reduceEqDiff, reduceIte, RM, g1, g2, o1, o2, q1, Bool.not_true, List.length_map]
 replace hA := hA hE
 replace o4 := o4 hE
 subst hE
 have hz : ((0 : Int) != 0) = false := rfl
 have hwo := hA.ok
 have hb := hA.b
 have hmi := hwo.m
 have oAg := fun x (h : x.length ≤ 2000) => gAg_eq (w := w) (l := l) (x := x) ⟨hwo, hA.n, fun m hm => ⟨(hA.m m hm).2.1, (hA.m m hm).2.2.1⟩, h⟩
 have hkn : ∀ m ∈ knownL l now, w.min ≤ m.t ∧ m.t ≤ now := fun m hm => by
  simp only [knownL, List.mem_filter] at hm
  have h1 := hA.m m hm.1
  have h2 : m.came ≤ now := by simpa [knB] using hm.2
  omega
 obtain ⟨N, hN⟩ : ∃ N : Nat, (now - w.min).toNat = N := ⟨_, rfl⟩
 have hflag := flag_pl hwo hb hkn
 rw [hN] at o4 hflag
 have hnow : now = w.min + (N : Int) := by omega
 have oAg : ∀ x : List PlW, x.length = N + 1 → gAg [.agg w.c, msD l, .sl (plL x)] = some (.bool (agB w (knownL l now) now x)) := fun x hx => by
  by_cases hN4 : N ≤ 1999
  ·have := oAg x (by omega)
   rw [this]
   unfold agD
   rw [hx, show w.min + ((N + 1 : Nat) : Int) - 1 = now by omega]
  ·omega
 have hcm : ∀ n x, x ∈ crs w w.s.sh.length n → x.length = n + 1 := fun n x h => crs_len h
 have hcb := crs_bound (w := w) (M := w.s.sh.length)
 have hcr0 : crs w w.s.sh.length 0 = [[(w.cell, false)]] := rfl
 have hcrS : ∀ n, crs w w.s.sh.length (n + 1) = (crs w w.s.sh.length n).flatMap fun x => (List.range w.s.sh.length).flatMap fun c : Nat => [x ++ [((c : Int), false)], x ++ [((c : Int), true)]] := fun n => rfl
 have hfl : ∀ d X c, flagB w (knownL l now) now d X c = X.any fun x => agB w (knownL l now) now x && decide (nP x (x.length - 1) = (c, d)) := fun _ _ _ => rfl
 have hle := hwo.s.le
 have hagc : ∀ x, x.length = N + 1 → agB w (knownL l now) now x = true → 0 ≤ (nP x N).1 ∧ (nP x N).1 < (w.s.sh.length : Int) := fun x hx h => by
  have hp := (ag_iff hb.2 hx (fun m hm => by have := hkn m hm; omega)).1 h
  exact free_ins (s := w.s) (pv_free hp (by omega))
 generalize plF w (knownL l now) now N = PF at *
 generalize flagB w (knownL l now) now = FB at *
 generalize agB w (knownL l now) now = AG at *
 generalize crs w w.s.sh.length = CR at *
 clear hkn hA hwo
 obtain ⟨⟨sw, sd, sh⟩, ⟨rl, lk⟩, cell, mi, ev, en, af⟩ := w
 simp only [WatchW.c, SkyW.c, NetW.c, List.cons_append, List.nil_append] at *
 refine pure_of_pieces (rs := [.tmp 6]) (m := 199) [(14, [(20, false, true, [(12, 15), (11, 15), (7, 15), (7, 11), (6, 15), (6, 11), (3, 15), (3, 11), (3, 6), (2, 15), (2, 11), (2, 6)]), (2, false, false, [])]), (16, [(12, false, false, [])]), (20, [(7, false, false, [])]), (21, [(13, true, false, []), (1, false, false, [])])] e76_ok (by kernel_rfl) Tryz.func4 rfl (by kernel_rfl) rfl rfl (by kernel_rfl) ?_
 refine awp_peel (T := [(14, [(20, false, true, [(12, 15), (11, 15), (7, 15), (7, 11), (6, 15), (6, 11), (3, 15), (3, 11), (3, 6), (2, 15), (2, 11), (2, 6)]), (2, false, false, [])]), (16, [(12, false, false, [])]), (20, [(7, false, false, [])]), (21, [(13, true, false, []), (1, false, false, [])])]) e76_ok (by kernel_rfl) (by kernel_rfl) ?_
 simp only [FS, ↓RE, okR, argEnv, Nat.reduceAdd, Nat.reduceSub, Nat.reduceLT, Nat.reduceLeDiff, Nat.reduceEqDiff, reduceIte, RM]
 refine awp_peel (T := [(14, [(20, false, true, [(12, 15), (11, 15), (7, 15), (7, 11), (6, 15), (6, 11), (3, 15), (3, 11), (3, 6), (2, 15), (2, 11), (2, 6)]), (2, false, false, [])]), (16, [(12, false, false, [])]), (20, [(7, false, false, [])]), (21, [(13, true, false, []), (1, false, false, [])])]) e76_ok (by kernel_rfl) (by kernel_rfl) ?_
 cases g1 : decide ((3000 : Int) < now)
 case true =>
  simp only [FS, ↓RE, okR, argEnv, Nat.reduceAdd, Nat.reduceSub, Nat.reduceLT, Nat.reduceLeDiff, Nat.reduceEqDiff, reduceIte, RM, g1, o2]
 cases g2 : decide (now < (-3000 : Int))
 case true =>
  simp only [FS, ↓RE, okR, argEnv, Nat.reduceAdd, Nat.reduceSub, Nat.reduceLT, Nat.reduceLeDiff, Nat.reduceEqDiff, reduceIte, RM, g1, g2, o2]
 have o1 := o1 (by simp at g1 g2; omega)
 cases Q
 ·simp only [FS, ↓RE, okR, argEnv, Nat.reduceAdd, Nat.reduceSub, Nat.reduceLT, Nat.reduceLeDiff, Nat.reduceEqDiff, reduceIte, RM, g1, g2, o1, o2, Bool.not_false]
 cases q1 : decide ((6 : Int) < (l.length : Int))
 case true =>
  simp only [FS, ↓RE, okR, argEnv, Nat.reduceAdd, Nat.reduceSub, Nat.reduceLT, Nat.reduceLeDiff, Nat.reduceEqDiff, reduceIte, RM, g1, g2, o1, o2, q1, Bool.not_true, List.length_map]
 cases q2 : decide ((4 : Int) < (sh.length : Int))
 case true =>
  simp only [FS, ↓RE, okR, argEnv, Nat.reduceAdd, Nat.reduceSub, Nat.reduceLT, Nat.reduceLeDiff, Nat.reduceEqDiff, reduceIte, RM, g1, g2, o1, o2, q1, q2, o3, hz, Bool.not_true, List.length_map]
 have wN := wrap_i64 (z := now - mi) (by omega) (by omega)
 cases q3 : decide ((4 : Int) < now - mi)
 case true =>
  simp only [FS, ↓RE, okR, argEnv, Nat.reduceAdd, Nat.reduceSub, Nat.reduceLT, Nat.reduceLeDiff, Nat.reduceEqDiff, reduceIte, RM, g1, g2, o1, o2, q1, q2, q3, wN, o3, hz, Bool.not_true, List.length_map]
 have hsh : sh.length ≤ 4 := by simp at q2; omega
 have hN4 : N ≤ 4 := by simp at q3; omega
 simp only [FS, ↓RE, okR, argEnv, Nat.reduceAdd, Nat.reduceSub, Nat.reduceLT, Nat.reduceLeDiff, Nat.reduceEqDiff, reduceIte, RM, g1, g2, o1, o2, q1, q2, q3, wN, o3, hz, Bool.not_true, List.length_map]
 have hMl : ∀ n, n ≤ 4 → (CR n).length ≤ 4096 := fun n hn => by
  rw [hcb]
  exact Nat.le_trans (Nat.pow_le_pow_left (by omega : 2 * sh.length ≤ 8) n) (Nat.le_trans (Nat.pow_le_pow_right (by omega) hn) (by decide))
 have d1 := fun h => pl_litD h cell false
 have d2 := fun h x => cr_litD h x
 refine awp_seq (awp_regionD e76_ok ?_)
 simp only [FS, ↓RE, okR, argEnv, Nat.reduceAdd, Nat.reduceSub, Nat.reduceLT, Nat.reduceLeDiff, Nat.reduceEqDiff, reduceIte, RM, d1, d2]
 refine awp_seqF (ι := Unit) (nid := 1) (n := 199) (fun _ => [(1, msD l), (2, .int .i64 now), (3, .ptr 0 0), (7, .sl (crL (CR N)))]) (fun _ => [(0, .box [.int .i64 sw, .int .i64 sd, shD sh, rlD rl, lkD lk, .int .i64 cell, .int .i64 mi, .int .i64 ev, .int .i64 en, inD af])]) (fun _ => True) ?_ ?_
 rotate_left
 ·rintro _ _
  clear hcr0 hcrS
  have hMl := hMl N hN4
  have hXm := hcm N
  have hrep : List.replicate sh.length false = boolsF sh.length fun _ => false := boolsF_ext (by simp) fun i hi => by simp [hi]
  have mk2 := fun h nid => make_b h nid sh.length (by omega)
  simp only [hrep] at mk2
  refine awp_cutA [(1, msD l), (2, .int .i64 now), (3, .ptr 0 0), (7, .sl (crL (CR N))), (12, .osl 1 sh.length), (13, .osl 2 sh.length)] [(2, .arr 4 1 (boolL (boolsF sh.length (fun _ => false)))), (1, .arr 4 1 (boolL (boolsF sh.length (fun _ => false)))), (0, .box [.int .i64 sw, .int .i64 sd, shD sh, rlD rl, lkD lk, .int .i64 cell, .int .i64 mi, .int .i64 ev, .int .i64 en, inD af])] 3 199 ?_ ?_
  ·refine (awp_slots (σ := Nat) e76_ok (by kernel_rfl) (fun m L => (m = 0 ∧ ¬ L 4 ∧ ¬ L 9) ∨ (m = 1 ∧ L 4 ∧ ¬ L 9) ∨ (m = 2 ∧ ¬ L 4 ∧ L 9) ∨ (m = 3 ∧ L 4 ∧ L 9) ∨ (m = 4 ∧ L 4 ∧ L 9))
    (fun m => match m with | 0 => [(0, .box [.int .i64 sw, .int .i64 sd, shD sh, rlD rl, lkD lk, .int .i64 cell, .int .i64 mi, .int .i64 ev, .int .i64 en, inD af])] | 1 => [(1, .arr 4 1 (boolL (boolsF sh.length (fun _ => false)))), (0, .box [.int .i64 sw, .int .i64 sd, shD sh, rlD rl, lkD lk, .int .i64 cell, .int .i64 mi, .int .i64 ev, .int .i64 en, inD af])] | 2 => [(1, .arr 4 1 (boolL (boolsF sh.length (fun _ => false)))), (0, .box [.int .i64 sw, .int .i64 sd, shD sh, rlD rl, lkD lk, .int .i64 cell, .int .i64 mi, .int .i64 ev, .int .i64 en, inD af])] | _ => [(2, .arr 4 1 (boolL (boolsF sh.length (fun _ => false)))), (1, .arr 4 1 (boolL (boolsF sh.length (fun _ => false)))), (0, .box [.int .i64 sw, .int .i64 sd, shD sh, rlD rl, lkD lk, .int .i64 cell, .int .i64 mi, .int .i64 ev, .int .i64 en, inD af])])
    (fun m => match m with | 0 => 1 | 1 => 2 | 2 => 2 | _ => 3)
    (fun m i => match i with | 0 | 5 => .ptr 0 0 | 1 | 6 => .ptr 0 2 | 2 | 7 => shD sh | 3 | 8 => .int .i64 (sh.length : Int) | 4 | 10 => (match m with | 4 => .osl 2 sh.length | _ => .osl 1 sh.length) | 9 | 11 => (match m with | 3 => .osl 2 sh.length | _ => .osl 1 sh.length) | _ => .any) 0
    (by kernel_rfl) (by kernel_rfl) rfl rfl (.inl ⟨rfl, id, id⟩) ?_ ?_)
   ·intro m L i o e hok hcl hoo hnr hr hsl
    have hi : i < 12 := lt_of_arr hoo
    obtain rfl | rfl | rfl | rfl | rfl | rfl | rfl | rfl | rfl | rfl | rfl | rfl : i = 0 ∨ i = 1 ∨ i = 2 ∨ i = 3 ∨ i = 4 ∨ i = 5 ∨ i = 6 ∨ i = 7 ∨ i = 8 ∨ i = 9 ∨ i = 10 ∨ i = 11 := by omega
    ·simp only [List.getElem?_toArray, List.getElem?_cons_succ, List.getElem?_cons_zero, Option.some.injEq] at hoo
     subst hoo
     have k3 := hsl.base 3 rfl
     refine ⟨rfl, ?_⟩
     rcases hok with ⟨rfl, h4, h9⟩ | ⟨rfl, h4, h9⟩ | ⟨rfl, h4, h9⟩ | ⟨rfl, h4, h9⟩ | ⟨rfl, h4, h9⟩
     ·simp only [FS, ↓RE, okR, argEnv, Nat.reduceAdd, Nat.reduceSub, Nat.reduceLT, Nat.reduceLeDiff, Nat.reduceEqDiff, reduceIte, RM, List.length_map, mk2, k3]
      exact ⟨0, by simp [h4, h9], by simp⟩
     ·simp only [FS, ↓RE, okR, argEnv, Nat.reduceAdd, Nat.reduceSub, Nat.reduceLT, Nat.reduceLeDiff, Nat.reduceEqDiff, reduceIte, RM, List.length_map, mk2, k3]
      exact ⟨1, by simp [h4, h9], by simp⟩
     ·simp only [FS, ↓RE, okR, argEnv, Nat.reduceAdd, Nat.reduceSub, Nat.reduceLT, Nat.reduceLeDiff, Nat.reduceEqDiff, reduceIte, RM, List.length_map, mk2, k3]
      exact ⟨2, by simp [h4, h9], by simp⟩
     ·simp only [FS, ↓RE, okR, argEnv, Nat.reduceAdd, Nat.reduceSub, Nat.reduceLT, Nat.reduceLeDiff, Nat.reduceEqDiff, reduceIte, RM, List.length_map, mk2, k3]
      exact ⟨3, by simp [h4, h9], by simp⟩
     ·simp only [FS, ↓RE, okR, argEnv, Nat.reduceAdd, Nat.reduceSub, Nat.reduceLT, Nat.reduceLeDiff, Nat.reduceEqDiff, reduceIte, RM, List.length_map, mk2, k3]
      exact ⟨4, by simp [h4, h9], by simp⟩
    ·simp only [List.getElem?_toArray, List.getElem?_cons_succ, List.getElem?_cons_zero, Option.some.injEq] at hoo
     subst hoo
     have k108 := hsl.new 0 _ 108 rfl (hr 0 (by decide)) rfl
     refine ⟨rfl, ?_⟩
     rcases hok with ⟨rfl, h4, h9⟩ | ⟨rfl, h4, h9⟩ | ⟨rfl, h4, h9⟩ | ⟨rfl, h4, h9⟩ | ⟨rfl, h4, h9⟩
     ·simp only [FS, ↓RE, okR, argEnv, Nat.reduceAdd, Nat.reduceSub, Nat.reduceLT, Nat.reduceLeDiff, Nat.reduceEqDiff, reduceIte, RM, List.length_map, mk2, k108]
      exact ⟨0, by simp [h4, h9], by simp⟩
     ·simp only [FS, ↓RE, okR, argEnv, Nat.reduceAdd, Nat.reduceSub, Nat.reduceLT, Nat.reduceLeDiff, Nat.reduceEqDiff, reduceIte, RM, List.length_map, mk2, k108]
      exact ⟨1, by simp [h4, h9], by simp⟩
     ·simp only [FS, ↓RE, okR, argEnv, Nat.reduceAdd, Nat.reduceSub, Nat.reduceLT, Nat.reduceLeDiff, Nat.reduceEqDiff, reduceIte, RM, List.length_map, mk2, k108]
      exact ⟨2, by simp [h4, h9], by simp⟩
     ·simp only [FS, ↓RE, okR, argEnv, Nat.reduceAdd, Nat.reduceSub, Nat.reduceLT, Nat.reduceLeDiff, Nat.reduceEqDiff, reduceIte, RM, List.length_map, mk2, k108]
      exact ⟨3, by simp [h4, h9], by simp⟩
     ·simp only [FS, ↓RE, okR, argEnv, Nat.reduceAdd, Nat.reduceSub, Nat.reduceLT, Nat.reduceLeDiff, Nat.reduceEqDiff, reduceIte, RM, List.length_map, mk2, k108]
      exact ⟨4, by simp [h4, h9], by simp⟩
    ·simp only [List.getElem?_toArray, List.getElem?_cons_succ, List.getElem?_cons_zero, Option.some.injEq] at hoo
     subst hoo
     have k109 := hsl.new 1 _ 109 rfl (hr 1 (by decide)) rfl
     refine ⟨rfl, ?_⟩
     rcases hok with ⟨rfl, h4, h9⟩ | ⟨rfl, h4, h9⟩ | ⟨rfl, h4, h9⟩ | ⟨rfl, h4, h9⟩ | ⟨rfl, h4, h9⟩
     ·simp only [FS, ↓RE, okR, argEnv, Nat.reduceAdd, Nat.reduceSub, Nat.reduceLT, Nat.reduceLeDiff, Nat.reduceEqDiff, reduceIte, RM, List.length_map, mk2, k109]
      exact ⟨0, by simp [h4, h9], by simp⟩
     ·simp only [FS, ↓RE, okR, argEnv, Nat.reduceAdd, Nat.reduceSub, Nat.reduceLT, Nat.reduceLeDiff, Nat.reduceEqDiff, reduceIte, RM, List.length_map, mk2, k109]
      exact ⟨1, by simp [h4, h9], by simp⟩
     ·simp only [FS, ↓RE, okR, argEnv, Nat.reduceAdd, Nat.reduceSub, Nat.reduceLT, Nat.reduceLeDiff, Nat.reduceEqDiff, reduceIte, RM, List.length_map, mk2, k109]
      exact ⟨2, by simp [h4, h9], by simp⟩
     ·simp only [FS, ↓RE, okR, argEnv, Nat.reduceAdd, Nat.reduceSub, Nat.reduceLT, Nat.reduceLeDiff, Nat.reduceEqDiff, reduceIte, RM, List.length_map, mk2, k109]
      exact ⟨3, by simp [h4, h9], by simp⟩
     ·simp only [FS, ↓RE, okR, argEnv, Nat.reduceAdd, Nat.reduceSub, Nat.reduceLT, Nat.reduceLeDiff, Nat.reduceEqDiff, reduceIte, RM, List.length_map, mk2, k109]
      exact ⟨4, by simp [h4, h9], by simp⟩
    ·simp only [List.getElem?_toArray, List.getElem?_cons_succ, List.getElem?_cons_zero, Option.some.injEq] at hoo
     subst hoo
     have k110 := hsl.new 2 _ 110 rfl (hr 2 (by decide)) rfl
     refine ⟨rfl, ?_⟩
     rcases hok with ⟨rfl, h4, h9⟩ | ⟨rfl, h4, h9⟩ | ⟨rfl, h4, h9⟩ | ⟨rfl, h4, h9⟩ | ⟨rfl, h4, h9⟩
     ·simp only [FS, ↓RE, okR, argEnv, Nat.reduceAdd, Nat.reduceSub, Nat.reduceLT, Nat.reduceLeDiff, Nat.reduceEqDiff, reduceIte, RM, List.length_map, mk2, k110]
      exact ⟨0, by simp [h4, h9], by simp⟩
     ·simp only [FS, ↓RE, okR, argEnv, Nat.reduceAdd, Nat.reduceSub, Nat.reduceLT, Nat.reduceLeDiff, Nat.reduceEqDiff, reduceIte, RM, List.length_map, mk2, k110]
      exact ⟨1, by simp [h4, h9], by simp⟩
     ·simp only [FS, ↓RE, okR, argEnv, Nat.reduceAdd, Nat.reduceSub, Nat.reduceLT, Nat.reduceLeDiff, Nat.reduceEqDiff, reduceIte, RM, List.length_map, mk2, k110]
      exact ⟨2, by simp [h4, h9], by simp⟩
     ·simp only [FS, ↓RE, okR, argEnv, Nat.reduceAdd, Nat.reduceSub, Nat.reduceLT, Nat.reduceLeDiff, Nat.reduceEqDiff, reduceIte, RM, List.length_map, mk2, k110]
      exact ⟨3, by simp [h4, h9], by simp⟩
     ·simp only [FS, ↓RE, okR, argEnv, Nat.reduceAdd, Nat.reduceSub, Nat.reduceLT, Nat.reduceLeDiff, Nat.reduceEqDiff, reduceIte, RM, List.length_map, mk2, k110]
      exact ⟨4, by simp [h4, h9], by simp⟩
    ·simp only [List.getElem?_toArray, List.getElem?_cons_succ, List.getElem?_cons_zero, Option.some.injEq] at hoo
     subst hoo
     have k111 := hsl.new 3 _ 111 rfl (hr 3 (by decide)) rfl
     refine ⟨rfl, ?_⟩
     rcases hok with ⟨rfl, h4, h9⟩ | ⟨rfl, h4, h9⟩ | ⟨rfl, h4, h9⟩ | ⟨rfl, h4, h9⟩ | ⟨rfl, h4, h9⟩
     ·simp only [FS, ↓RE, okR, argEnv, Nat.reduceAdd, Nat.reduceSub, Nat.reduceLT, Nat.reduceLeDiff, Nat.reduceEqDiff, reduceIte, RM, List.length_map, mk2, k111]
      exact ⟨1, by simp [h4, h9], by simp⟩
     ·exact absurd h4 hnr
     ·simp only [FS, ↓RE, okR, argEnv, Nat.reduceAdd, Nat.reduceSub, Nat.reduceLT, Nat.reduceLeDiff, Nat.reduceEqDiff, reduceIte, RM, List.length_map, mk2, k111]
      exact ⟨4, by simp [h4, h9], fun j hj => match j, hj with | 0, _ => rfl | 1, _ => rfl | 2, _ => rfl | 3, _ => rfl | 4, h => absurd h h4 | 5, _ => rfl | 6, _ => rfl | 7, _ => rfl | 8, _ => rfl | 9, _ => rfl | 10, h => absurd (hcl 10 4 h (by decide)) h4 | 11, _ => rfl | _ + 12, _ => rfl, by simp⟩
     ·exact absurd h4 hnr
     ·exact absurd h4 hnr
    ·simp only [List.getElem?_toArray, List.getElem?_cons_succ, List.getElem?_cons_zero, Option.some.injEq] at hoo
     subst hoo
     have k3 := hsl.base 3 rfl
     refine ⟨rfl, ?_⟩
     rcases hok with ⟨rfl, h4, h9⟩ | ⟨rfl, h4, h9⟩ | ⟨rfl, h4, h9⟩ | ⟨rfl, h4, h9⟩ | ⟨rfl, h4, h9⟩
     ·simp only [FS, ↓RE, okR, argEnv, Nat.reduceAdd, Nat.reduceSub, Nat.reduceLT, Nat.reduceLeDiff, Nat.reduceEqDiff, reduceIte, RM, List.length_map, mk2, k3]
      exact ⟨0, by simp [h4, h9], by simp⟩
     ·simp only [FS, ↓RE, okR, argEnv, Nat.reduceAdd, Nat.reduceSub, Nat.reduceLT, Nat.reduceLeDiff, Nat.reduceEqDiff, reduceIte, RM, List.length_map, mk2, k3]
      exact ⟨1, by simp [h4, h9], by simp⟩
     ·simp only [FS, ↓RE, okR, argEnv, Nat.reduceAdd, Nat.reduceSub, Nat.reduceLT, Nat.reduceLeDiff, Nat.reduceEqDiff, reduceIte, RM, List.length_map, mk2, k3]
      exact ⟨2, by simp [h4, h9], by simp⟩
     ·simp only [FS, ↓RE, okR, argEnv, Nat.reduceAdd, Nat.reduceSub, Nat.reduceLT, Nat.reduceLeDiff, Nat.reduceEqDiff, reduceIte, RM, List.length_map, mk2, k3]
      exact ⟨3, by simp [h4, h9], by simp⟩
     ·simp only [FS, ↓RE, okR, argEnv, Nat.reduceAdd, Nat.reduceSub, Nat.reduceLT, Nat.reduceLeDiff, Nat.reduceEqDiff, reduceIte, RM, List.length_map, mk2, k3]
      exact ⟨4, by simp [h4, h9], by simp⟩
    ·simp only [List.getElem?_toArray, List.getElem?_cons_succ, List.getElem?_cons_zero, Option.some.injEq] at hoo
     subst hoo
     have k113 := hsl.new 5 _ 113 rfl (hr 5 (by decide)) rfl
     refine ⟨rfl, ?_⟩
     rcases hok with ⟨rfl, h4, h9⟩ | ⟨rfl, h4, h9⟩ | ⟨rfl, h4, h9⟩ | ⟨rfl, h4, h9⟩ | ⟨rfl, h4, h9⟩
     ·simp only [FS, ↓RE, okR, argEnv, Nat.reduceAdd, Nat.reduceSub, Nat.reduceLT, Nat.reduceLeDiff, Nat.reduceEqDiff, reduceIte, RM, List.length_map, mk2, k113]
      exact ⟨0, by simp [h4, h9], by simp⟩
     ·simp only [FS, ↓RE, okR, argEnv, Nat.reduceAdd, Nat.reduceSub, Nat.reduceLT, Nat.reduceLeDiff, Nat.reduceEqDiff, reduceIte, RM, List.length_map, mk2, k113]
      exact ⟨1, by simp [h4, h9], by simp⟩
     ·simp only [FS, ↓RE, okR, argEnv, Nat.reduceAdd, Nat.reduceSub, Nat.reduceLT, Nat.reduceLeDiff, Nat.reduceEqDiff, reduceIte, RM, List.length_map, mk2, k113]
      exact ⟨2, by simp [h4, h9], by simp⟩
     ·simp only [FS, ↓RE, okR, argEnv, Nat.reduceAdd, Nat.reduceSub, Nat.reduceLT, Nat.reduceLeDiff, Nat.reduceEqDiff, reduceIte, RM, List.length_map, mk2, k113]
      exact ⟨3, by simp [h4, h9], by simp⟩
     ·simp only [FS, ↓RE, okR, argEnv, Nat.reduceAdd, Nat.reduceSub, Nat.reduceLT, Nat.reduceLeDiff, Nat.reduceEqDiff, reduceIte, RM, List.length_map, mk2, k113]
      exact ⟨4, by simp [h4, h9], by simp⟩
    ·simp only [List.getElem?_toArray, List.getElem?_cons_succ, List.getElem?_cons_zero, Option.some.injEq] at hoo
     subst hoo
     have k114 := hsl.new 6 _ 114 rfl (hr 6 (by decide)) rfl
     refine ⟨rfl, ?_⟩
     rcases hok with ⟨rfl, h4, h9⟩ | ⟨rfl, h4, h9⟩ | ⟨rfl, h4, h9⟩ | ⟨rfl, h4, h9⟩ | ⟨rfl, h4, h9⟩
     ·simp only [FS, ↓RE, okR, argEnv, Nat.reduceAdd, Nat.reduceSub, Nat.reduceLT, Nat.reduceLeDiff, Nat.reduceEqDiff, reduceIte, RM, List.length_map, mk2, k114]
      exact ⟨0, by simp [h4, h9], by simp⟩
     ·simp only [FS, ↓RE, okR, argEnv, Nat.reduceAdd, Nat.reduceSub, Nat.reduceLT, Nat.reduceLeDiff, Nat.reduceEqDiff, reduceIte, RM, List.length_map, mk2, k114]
      exact ⟨1, by simp [h4, h9], by simp⟩
     ·simp only [FS, ↓RE, okR, argEnv, Nat.reduceAdd, Nat.reduceSub, Nat.reduceLT, Nat.reduceLeDiff, Nat.reduceEqDiff, reduceIte, RM, List.length_map, mk2, k114]
      exact ⟨2, by simp [h4, h9], by simp⟩
     ·simp only [FS, ↓RE, okR, argEnv, Nat.reduceAdd, Nat.reduceSub, Nat.reduceLT, Nat.reduceLeDiff, Nat.reduceEqDiff, reduceIte, RM, List.length_map, mk2, k114]
      exact ⟨3, by simp [h4, h9], by simp⟩
     ·simp only [FS, ↓RE, okR, argEnv, Nat.reduceAdd, Nat.reduceSub, Nat.reduceLT, Nat.reduceLeDiff, Nat.reduceEqDiff, reduceIte, RM, List.length_map, mk2, k114]
      exact ⟨4, by simp [h4, h9], by simp⟩
    ·simp only [List.getElem?_toArray, List.getElem?_cons_succ, List.getElem?_cons_zero, Option.some.injEq] at hoo
     subst hoo
     have k115 := hsl.new 7 _ 115 rfl (hr 7 (by decide)) rfl
     refine ⟨rfl, ?_⟩
     rcases hok with ⟨rfl, h4, h9⟩ | ⟨rfl, h4, h9⟩ | ⟨rfl, h4, h9⟩ | ⟨rfl, h4, h9⟩ | ⟨rfl, h4, h9⟩
     ·simp only [FS, ↓RE, okR, argEnv, Nat.reduceAdd, Nat.reduceSub, Nat.reduceLT, Nat.reduceLeDiff, Nat.reduceEqDiff, reduceIte, RM, List.length_map, mk2, k115]
      exact ⟨0, by simp [h4, h9], by simp⟩
     ·simp only [FS, ↓RE, okR, argEnv, Nat.reduceAdd, Nat.reduceSub, Nat.reduceLT, Nat.reduceLeDiff, Nat.reduceEqDiff, reduceIte, RM, List.length_map, mk2, k115]
      exact ⟨1, by simp [h4, h9], by simp⟩
     ·simp only [FS, ↓RE, okR, argEnv, Nat.reduceAdd, Nat.reduceSub, Nat.reduceLT, Nat.reduceLeDiff, Nat.reduceEqDiff, reduceIte, RM, List.length_map, mk2, k115]
      exact ⟨2, by simp [h4, h9], by simp⟩
     ·simp only [FS, ↓RE, okR, argEnv, Nat.reduceAdd, Nat.reduceSub, Nat.reduceLT, Nat.reduceLeDiff, Nat.reduceEqDiff, reduceIte, RM, List.length_map, mk2, k115]
      exact ⟨3, by simp [h4, h9], by simp⟩
     ·simp only [FS, ↓RE, okR, argEnv, Nat.reduceAdd, Nat.reduceSub, Nat.reduceLT, Nat.reduceLeDiff, Nat.reduceEqDiff, reduceIte, RM, List.length_map, mk2, k115]
      exact ⟨4, by simp [h4, h9], by simp⟩
    ·simp only [List.getElem?_toArray, List.getElem?_cons_succ, List.getElem?_cons_zero, Option.some.injEq] at hoo
     subst hoo
     have k116 := hsl.new 8 _ 116 rfl (hr 8 (by decide)) rfl
     refine ⟨rfl, ?_⟩
     rcases hok with ⟨rfl, h4, h9⟩ | ⟨rfl, h4, h9⟩ | ⟨rfl, h4, h9⟩ | ⟨rfl, h4, h9⟩ | ⟨rfl, h4, h9⟩
     ·simp only [FS, ↓RE, okR, argEnv, Nat.reduceAdd, Nat.reduceSub, Nat.reduceLT, Nat.reduceLeDiff, Nat.reduceEqDiff, reduceIte, RM, List.length_map, mk2, k116]
      exact ⟨2, by simp [h4, h9], by simp⟩
     ·simp only [FS, ↓RE, okR, argEnv, Nat.reduceAdd, Nat.reduceSub, Nat.reduceLT, Nat.reduceLeDiff, Nat.reduceEqDiff, reduceIte, RM, List.length_map, mk2, k116]
      exact ⟨3, by simp [h4, h9], fun j hj => match j, hj with | 0, _ => rfl | 1, _ => rfl | 2, _ => rfl | 3, _ => rfl | 4, _ => rfl | 5, _ => rfl | 6, _ => rfl | 7, _ => rfl | 8, _ => rfl | 9, h => absurd h h9 | 10, _ => rfl | 11, h => absurd (hcl 11 9 h (by decide)) h9 | _ + 12, _ => rfl, by simp⟩
     ·exact absurd h9 hnr
     ·exact absurd h9 hnr
     ·exact absurd h9 hnr
    ·simp only [List.getElem?_toArray, List.getElem?_cons_succ, List.getElem?_cons_zero, Option.some.injEq] at hoo
     subst hoo
     have k112 := hsl.new 4 _ 112 rfl (hr 4 (by decide)) rfl
     refine ⟨rfl, ?_⟩
     rcases hok with ⟨rfl, h4, h9⟩ | ⟨rfl, h4, h9⟩ | ⟨rfl, h4, h9⟩ | ⟨rfl, h4, h9⟩ | ⟨rfl, h4, h9⟩
     ·exact absurd (hr 4 (by decide)) h4
     ·simp only [FS, ↓RE, okR, argEnv, Nat.reduceAdd, Nat.reduceSub, Nat.reduceLT, Nat.reduceLeDiff, Nat.reduceEqDiff, reduceIte, RM, List.length_map, mk2, k112]
      exact ⟨1, by simp [h4, h9], by simp⟩
     ·exact absurd (hr 4 (by decide)) h4
     ·simp only [FS, ↓RE, okR, argEnv, Nat.reduceAdd, Nat.reduceSub, Nat.reduceLT, Nat.reduceLeDiff, Nat.reduceEqDiff, reduceIte, RM, List.length_map, mk2, k112]
      exact ⟨3, by simp [h4, h9], by simp⟩
     ·simp only [FS, ↓RE, okR, argEnv, Nat.reduceAdd, Nat.reduceSub, Nat.reduceLT, Nat.reduceLeDiff, Nat.reduceEqDiff, reduceIte, RM, List.length_map, mk2, k112]
      exact ⟨4, by simp [h4, h9], by simp⟩
    ·simp only [List.getElem?_toArray, List.getElem?_cons_succ, List.getElem?_cons_zero, Option.some.injEq] at hoo
     subst hoo
     have k117 := hsl.new 9 _ 117 rfl (hr 9 (by decide)) rfl
     refine ⟨rfl, ?_⟩
     rcases hok with ⟨rfl, h4, h9⟩ | ⟨rfl, h4, h9⟩ | ⟨rfl, h4, h9⟩ | ⟨rfl, h4, h9⟩ | ⟨rfl, h4, h9⟩
     ·exact absurd (hr 9 (by decide)) h9
     ·exact absurd (hr 9 (by decide)) h9
     ·simp only [FS, ↓RE, okR, argEnv, Nat.reduceAdd, Nat.reduceSub, Nat.reduceLT, Nat.reduceLeDiff, Nat.reduceEqDiff, reduceIte, RM, List.length_map, mk2, k117]
      exact ⟨2, by simp [h4, h9], by simp⟩
     ·simp only [FS, ↓RE, okR, argEnv, Nat.reduceAdd, Nat.reduceSub, Nat.reduceLT, Nat.reduceLeDiff, Nat.reduceEqDiff, reduceIte, RM, List.length_map, mk2, k117]
      exact ⟨3, by simp [h4, h9], by simp⟩
     ·simp only [FS, ↓RE, okR, argEnv, Nat.reduceAdd, Nat.reduceSub, Nat.reduceLT, Nat.reduceLeDiff, Nat.reduceEqDiff, reduceIte, RM, List.length_map, mk2, k117]
      exact ⟨4, by simp [h4, h9], by simp⟩
   ·intro m L e hok hall hsl
    have k12 := hsl.new 10 _ 12 rfl (hall 10 (by decide)) rfl
    have k13 := hsl.new 11 _ 13 rfl (hall 11 (by decide)) rfl
    have k1 := hsl.base 1 rfl
    have k2 := hsl.base 2 rfl
    have k3 := hsl.base 3 rfl
    have k7 := hsl.base 7 rfl
    have h4 := hall 4 (by decide)
    have h9 := hall 9 (by decide)
    have hm : m = 3 ∨ m = 4 := by
     rcases hok with h | h | h | h | h
     ·exact absurd h4 h.2.1
     ·exact absurd h9 h.2.2
     ·exact absurd h4 h.2.1
     ·exact .inl h.1
     ·exact .inr h.1
    simp only at k12 k13
    rcases hm with rfl | rfl
    ·refine .weak (weak_of ?_)
     simp [headW, heapW, envW, blkLt, D.ltL, D.lt, look, hget, k12, k13, k1, k2, k3, k7, shD, inD]
    ·refine (Imp.weak (weak_of (e := [(1, msD l), (2, .int .i64 now), (3, .ptr 0 0), (7, .sl (crL (CR N))), (12, .osl 2 sh.length), (13, .osl 1 sh.length)]) (h := [(2, .arr 4 1 (boolL (boolsF sh.length (fun _ => false)))), (1, .arr 4 1 (boolL (boolsF sh.length (fun _ => false)))), (0, .box [.int .i64 sw, .int .i64 sd, shD sh, rlD rl, lkD lk, .int .i64 cell, .int .i64 mi, .int .i64 ev, .int .i64 en, inD af])]) (nid := 4) (n := 199) ?_)).trans
      (imp_move' 1 3 (bi := .arr 4 1 (boolL (boolsF sh.length (fun _ => false)))) (by omega) rfl rfl (by omega) (by omega) ?_ ?_ ?_)
     ·simp [headW, heapW, envW, blkLt, D.ltL, D.lt, look, hget, k12, k13, k1, k2, k3, k7, shD, inD]
     ·simp [okMB', okM, D.lt, D.noI, D.noIL, D.ltL, shD, inD, boolL, boolsF, enB]
     ·simp [okM, D.lt, D.noI, D.noIL, shD, inD]
     refine imp_move' 2 1 (bi := .arr 4 1 (boolL (boolsF sh.length (fun _ => false)))) (by omega) rfl rfl (by omega) (by omega) ?_ ?_ ?_
     ·simp [okMB', okM, D.lt, D.noI, D.noIL, D.ltL, mvH, mvB, mvD, shD, inD]
     ·simp [okM, D.lt, D.noI, D.noIL, mvD, shD, inD]
     refine imp_move' 3 2 (bi := .arr 4 1 (boolL (boolsF sh.length (fun _ => false)))) (by omega) rfl rfl (by omega) (by omega) ?_ ?_ (.weak (weak_of ?_))
     ·simp [okMB', okM, D.lt, D.noI, D.noIL, D.ltL, mvH, mvB, mvD, shD, inD]
     ·simp [okM, D.lt, D.noI, D.noIL, mvD, shD, inD]
     ·simp [headW, heapW, envW, blkLt, D.ltL, D.lt, look, hget, mvH, mvB, mvD, shD, inD]
  have hcl1 := cellsF_len sh.length PF.1
  have hcl2 := cellsF_len sh.length PF.2
  have pC := fun p => r_Cells_t (boolsF sh.length p) (by rw [boolsF_len]; omega)
  simp only [boolsF_len, cellsN_bools] at pC
  have eF : boolsF sh.length (FB false (CR N)) = boolsF sh.length PF.1 := boolsF_congr fun c _ _ => (hflag c).1
  have eD : boolsF sh.length (FB true (CR N)) = boolsF sh.length PF.2 := boolsF_congr fun c _ _ => (hflag c).2
  generalize CR N = X at *
  refine awp_seqF (ι := Unit) (nid := 3) (n := 199) (fun _ => [(1, msD l), (2, .int .i64 now), (3, .ptr 0 0), (12, .osl 1 sh.length), (13, .osl 2 sh.length)]) (fun _ => [(2, .arr 4 1 (boolL (boolsF sh.length PF.2))), (1, .arr 4 1 (boolL (boolsF sh.length PF.1))), (0, .box [.int .i64 sw, .int .i64 sd, shD sh, rlD rl, lkD lk, .int .i64 cell, .int .i64 mi, .int .i64 ev, .int .i64 en, inD af])]) (fun _ => True) ?_ ?_
  rotate_left
  ·rintro _ _
   clear eF eD hXm hMl hflag hagc hfl oAg
   refine awp_imp (imp_thaw 1 (imp_thaw 2 (.weak (weak_of (e := [(1, msD l), (2, .int .i64 now), (3, .ptr 0 0), (12, shD (boolsF sh.length PF.1)), (13, shD (boolsF sh.length PF.2))]) (h := [(0, .box [.int .i64 sw, .int .i64 sd, shD sh, rlD rl, lkD lk, .int .i64 cell, .int .i64 mi, .int .i64 ev, .int .i64 en, inD af])]) (nid := 1) (n := 199) ?_)))) ?_
   ·simp [headW, heapW, envW, blkLt, D.ltL, D.lt, look, hget, frzHH, frzBlk, herase, fz_int, fz_ref, fz_ptr, fz_bool, fz_sl, fz_nils, fz_osl, fzC_some, fzC_arr, fzP_some, boolL_len, boolsF_len, shD, boolL, inD]
   have pC1 := pC PF.1
   have pC2 := pC PF.2
   generalize boolsF sh.length PF.1 = BF at *
   generalize boolsF sh.length PF.2 = BD at *
   generalize cellsF sh.length PF.1 = CA at *
   generalize cellsF sh.length PF.2 = CB at *
   have hz2 : ((0 : Int) == 0) = true := rfl
   have hz5 : ((5 : Int) == 5) = true := rfl
   have hw0 : IntKind.i64.wrap (0 + 0) = 0 := rfl
   have iX : (intL CA).length = CA.length := List.length_map ..
   have iY : (intL CB).length = CB.length := List.length_map ..
   have w2 := wrap_i64 (z := (CA.length : Int) + (CB.length : Int)) (by omega) (by omega)
   by_cases hXY : CA.length + CB.length = 0
   ·rw [if_pos hXY] at o4
    have hs : ((CA.length : Int) + (CB.length : Int) == 0) = true := by simp; omega
    refine awp_peel (T := [(14, [(20, false, true, [(12, 15), (11, 15), (7, 15), (7, 11), (6, 15), (6, 11), (3, 15), (3, 11), (3, 6), (2, 15), (2, 11), (2, 6)]), (2, false, false, [])]), (16, [(12, false, false, [])]), (20, [(7, false, false, [])]), (21, [(13, true, false, []), (1, false, false, [])])]) e76_ok (by kernel_rfl) (by kernel_rfl) ?_
    simp only [FS, ↓RE, okR, argEnv, Nat.reduceAdd, Nat.reduceSub, Nat.reduceLT, Nat.reduceLeDiff, Nat.reduceEqDiff, reduceIte, RM, o4]
    refine awp_peel (T := [(14, [(20, false, true, [(12, 15), (11, 15), (7, 15), (7, 11), (6, 15), (6, 11), (3, 15), (3, 11), (3, 6), (2, 15), (2, 11), (2, 6)]), (2, false, false, [])]), (16, [(12, false, false, [])]), (20, [(7, false, false, [])]), (21, [(13, true, false, []), (1, false, false, [])])]) e76_ok (by kernel_rfl) (by kernel_rfl) ?_
    simp only [FS, ↓RE, okR, argEnv, Nat.reduceAdd, Nat.reduceSub, Nat.reduceLT, Nat.reduceLeDiff, Nat.reduceEqDiff, reduceIte, RM]
    refine call_of_pure' pC1 (by simp [D.ltL, D.lt]) (by simp [D.lt]) ?_
    simp only [FS, ↓RE, okR, argEnv, Nat.reduceAdd, Nat.reduceSub, Nat.reduceLT, Nat.reduceLeDiff, Nat.reduceEqDiff, reduceIte, RM]
    refine call_of_pure' pC2 (by simp [D.ltL, D.lt]) (by simp [D.lt]) ?_
    simp only [FS, ↓RE, okR, argEnv, Nat.reduceAdd, Nat.reduceSub, Nat.reduceLT, Nat.reduceLeDiff, Nat.reduceEqDiff, reduceIte, RM]
    refine awp_rest (T := [(14, [(20, false, true, [(12, 15), (11, 15), (7, 15), (7, 11), (6, 15), (6, 11), (3, 15), (3, 11), (3, 6), (2, 15), (2, 11), (2, 6)]), (2, false, false, [])]), (16, [(12, false, false, [])]), (20, [(7, false, false, [])]), (21, [(13, true, false, []), (1, false, false, [])])]) e76_ok (by kernel_rfl) (by kernel_rfl) ?_
    simp only [FS, ↓RE, okR, argEnv, Nat.reduceAdd, Nat.reduceSub, Nat.reduceLT, Nat.reduceLeDiff, Nat.reduceEqDiff, reduceIte, RM, iX, iY, w2, hs, hz5, hw0, hz2, o2]
   ·rw [if_neg hXY] at o4
    have hs : ((CA.length : Int) + (CB.length : Int) == 0) = false := by simp; omega
    have s1 := gSame_eq (a := CA) (b := CA) (by simp only [BL]; omega) (by simp only [BL]; omega)
    have s2 := gSame_eq (a := CB) (b := CB) (by simp only [BL]; omega) (by simp only [BL]; omega)
    refine awp_peel (T := [(14, [(20, false, true, [(12, 15), (11, 15), (7, 15), (7, 11), (6, 15), (6, 11), (3, 15), (3, 11), (3, 6), (2, 15), (2, 11), (2, 6)]), (2, false, false, [])]), (16, [(12, false, false, [])]), (20, [(7, false, false, [])]), (21, [(13, true, false, []), (1, false, false, [])])]) e76_ok (by kernel_rfl) (by kernel_rfl) ?_
    simp only [FS, ↓RE, okR, argEnv, Nat.reduceAdd, Nat.reduceSub, Nat.reduceLT, Nat.reduceLeDiff, Nat.reduceEqDiff, reduceIte, RM, o4]
    refine awp_peel (T := [(14, [(20, false, true, [(12, 15), (11, 15), (7, 15), (7, 11), (6, 15), (6, 11), (3, 15), (3, 11), (3, 6), (2, 15), (2, 11), (2, 6)]), (2, false, false, [])]), (16, [(12, false, false, [])]), (20, [(7, false, false, [])]), (21, [(13, true, false, []), (1, false, false, [])])]) e76_ok (by kernel_rfl) (by kernel_rfl) ?_
    simp only [FS, ↓RE, okR, argEnv, Nat.reduceAdd, Nat.reduceSub, Nat.reduceLT, Nat.reduceLeDiff, Nat.reduceEqDiff, reduceIte, RM]
    refine call_of_pure' pC1 (by simp [D.ltL, D.lt]) (by simp [D.lt]) ?_
    simp only [FS, ↓RE, okR, argEnv, Nat.reduceAdd, Nat.reduceSub, Nat.reduceLT, Nat.reduceLeDiff, Nat.reduceEqDiff, reduceIte, RM]
    refine call_of_pure' pC2 (by simp [D.ltL, D.lt]) (by simp [D.lt]) ?_
    simp only [FS, ↓RE, okR, argEnv, Nat.reduceAdd, Nat.reduceSub, Nat.reduceLT, Nat.reduceLeDiff, Nat.reduceEqDiff, reduceIte, RM]
    refine awp_peel (T := [(14, [(20, false, true, [(12, 15), (11, 15), (7, 15), (7, 11), (6, 15), (6, 11), (3, 15), (3, 11), (3, 6), (2, 15), (2, 11), (2, 6)]), (2, false, false, [])]), (16, [(12, false, false, [])]), (20, [(7, false, false, [])]), (21, [(13, true, false, []), (1, false, false, [])])]) e76_ok (by kernel_rfl) (by kernel_rfl) ?_
    simp only [FS, ↓RE, okR, argEnv, Nat.reduceAdd, Nat.reduceSub, Nat.reduceLT, Nat.reduceLeDiff, Nat.reduceEqDiff, reduceIte, RM, iX, iY, w2, hs]
    refine awp_rest (T := [(14, [(20, false, true, [(12, 15), (11, 15), (7, 15), (7, 11), (6, 15), (6, 11), (3, 15), (3, 11), (3, 6), (2, 15), (2, 11), (2, 6)]), (2, false, false, [])]), (16, [(12, false, false, [])]), (20, [(7, false, false, [])]), (21, [(13, true, false, []), (1, false, false, [])])]) e76_ok (by kernel_rfl) (by kernel_rfl) ?_
    simp only [FS, ↓RE, okR, argEnv, Nat.reduceAdd, Nat.reduceSub, Nat.reduceLT, Nat.reduceLeDiff, Nat.reduceEqDiff, reduceIte, RM, hz2, s1, s2, o2, decide_true]
  have hbl := fun p => boolsF_len sh.length p
  have bx := fun p b i (hi : i < sh.length) h (hb : hget h b = some (.arr 4 1 (boolL (boolsF sh.length p)))) => oB_ix (n := sh.length) (i := i) hb (hbl p) hi
  have bs := fun p b i (hi : i < sh.length) y h nid (hb : hget h b = some (.arr 4 1 (boolL (boolsF sh.length p)))) => oB_store (n := sh.length) (i := i) hb (hbl p) hi nid y
  simp only [boolsF_set] at bs
  have e0 : ∀ d, boolsF sh.length (fun _ => false) = boolsF sh.length (FB d (X.take 0)) := fun d => boolsF_congr fun c _ _ => by rw [hfl]; rfl
  have hFS : ∀ d i x, X[i]? = some x → ∀ c, FB d (X.take (i + 1)) c = (FB d (X.take i) c || (AG x && decide (nP x N = (c, d)))) := fun d i x hx c => by
   have := hXm x (List.mem_of_getElem? hx)
   simp only [hfl, List.take_add_one, hx, Option.toList_some, List.any_append, List.any_cons, List.any_nil, Bool.or_false]
   rw [this]; rfl
  refine awp_peel (T := [(14, [(20, false, true, [(12, 15), (11, 15), (7, 15), (7, 11), (6, 15), (6, 11), (3, 15), (3, 11), (3, 6), (2, 15), (2, 11), (2, 6)]), (2, false, false, [])]), (16, [(12, false, false, [])]), (20, [(7, false, false, [])]), (21, [(13, true, false, []), (1, false, false, [])])]) e76_ok (by kernel_rfl) (by kernel_rfl) ?_
  simp only [FS, ↓RE, okR, argEnv, Nat.reduceAdd, Nat.reduceSub, Nat.reduceLT, Nat.reduceLeDiff, Nat.reduceEqDiff, reduceIte, RM]
  refine awp_block (awp_loopH (ι := Nat) (fun i => [(1, msD l), (2, .int .i64 now), (3, .ptr 0 0), (7, .sl (crL X)), (12, .osl 1 sh.length), (13, .osl 2 sh.length), (14, .int .i64 (i : Int))]) (fun i => [(2, .arr 4 1 (boolL (boolsF sh.length (FB true (X.take i))))), (1, .arr 4 1 (boolL (boolsF sh.length (FB false (X.take i))))), (0, .box [.int .i64 sw, .int .i64 sd, shD sh, rlD rl, lkD lk, .int .i64 cell, .int .i64 mi, .int .i64 ev, .int .i64 en, inD af])]) 3 (fun i => i ≤ X.length) (fun i => X.length - i) 0 (Nat.zero_le _) ?_ ?_)
  ·rw [← e0, ← e0]
   simp [headW, heapW, envW, blkLt, D.ltL, D.lt, look, hget, Sx.hset, shD, inD]
  intro i hil
  refine awp_peel (T := [(14, [(20, false, true, [(12, 15), (11, 15), (7, 15), (7, 11), (6, 15), (6, 11), (3, 15), (3, 11), (3, 6), (2, 15), (2, 11), (2, 6)]), (2, false, false, [])]), (16, [(12, false, false, [])]), (20, [(7, false, false, [])]), (21, [(13, true, false, []), (1, false, false, [])])]) e76_ok (by kernel_rfl) (by kernel_rfl) ?_
  rcases Nat.lt_or_ge i X.length with hlt | hge
  rotate_left
  ·have hq := nat_lt_false hge
   simp only [FS, ↓RE, okR, argEnv, Nat.reduceAdd, Nat.reduceSub, Nat.reduceLT, Nat.reduceLeDiff, Nat.reduceEqDiff, reduceIte, RM, crL_len, hq, decide_false]
   rw [List.take_of_length_le hge, eF, eD]
   simp [headW, heapW, envW, blkLt, D.ltL, D.lt, look, hget, Sx.hset, shD, inD]
  have hq := nat_lt_true hlt
  simp only [FS, ↓RE, okR, argEnv, Nat.reduceAdd, Nat.reduceSub, Nat.reduceLT, Nat.reduceLeDiff, Nat.reduceEqDiff, reduceIte, RM, crL_len, hq, decide_true]
  refine awp_seqF (ι := Unit) (nid := 3) (n := 199) (fun _ => [(1, msD l), (2, .int .i64 now), (3, .ptr 0 0), (7, .sl (crL X)), (12, .osl 1 sh.length), (13, .osl 2 sh.length), (14, .int .i64 (i : Int))]) (fun _ => [(2, .arr 4 1 (boolL (boolsF sh.length (FB true (X.take (i + 1)))))), (1, .arr 4 1 (boolL (boolsF sh.length (FB false (X.take (i + 1)))))), (0, .box [.int .i64 sw, .int .i64 sd, shD sh, rlD rl, lkD lk, .int .i64 cell, .int .i64 mi, .int .i64 ev, .int .i64 en, inD af])]) (fun _ => True) ?_ ?_
  rotate_left
  ·rintro _ _
   have wi := wrap_i64 (z := (i : Int) + 1) (by omega) (by omega)
   refine awp_rest (T := [(14, [(20, false, true, [(12, 15), (11, 15), (7, 15), (7, 11), (6, 15), (6, 11), (3, 15), (3, 11), (3, 6), (2, 15), (2, 11), (2, 6)]), (2, false, false, [])]), (16, [(12, false, false, [])]), (20, [(7, false, false, [])]), (21, [(13, true, false, []), (1, false, false, [])])]) e76_ok (by kernel_rfl) (by kernel_rfl) ?_
   simp only [FS, ↓RE, okR, argEnv, Nat.reduceAdd, Nat.reduceSub, Nat.reduceLT, Nat.reduceLeDiff, Nat.reduceEqDiff, reduceIte, RM, wi]
   exact ⟨i + 1, by omega, by omega, by simp [headW, heapW, envW, blkLt, D.ltL, D.lt, look, hget, Sx.hset, shD, inD]⟩
  refine awp_block ?_
  obtain ⟨x, hx⟩ : ∃ x, X[i]? = some x := ⟨X[i], by simp [hlt]⟩
  have ixX := cr_ix hx
  have hxl := hXm x (List.mem_of_getElem? hx)
  have oA := oAg x hxl
  have hS1 := hFS false i x hx
  have hS2 := hFS true i x hx
  have hag := hagc x hxl
  refine awp_peel (T := [(14, [(20, false, true, [(12, 15), (11, 15), (7, 15), (7, 11), (6, 15), (6, 11), (3, 15), (3, 11), (3, 6), (2, 15), (2, 11), (2, 6)]), (2, false, false, [])]), (16, [(12, false, false, [])]), (20, [(7, false, false, [])]), (21, [(13, true, false, []), (1, false, false, [])])]) e76_ok (by kernel_rfl) (by kernel_rfl) ?_
  cases hA : AG x
  ·rw [hA] at oA hS1 hS2
   simp only [Bool.false_and, Bool.or_false] at hS1 hS2
   rw [funext hS1, funext hS2]
   simp only [FS, ↓RE, okR, argEnv, Nat.reduceAdd, Nat.reduceSub, Nat.reduceLT, Nat.reduceLeDiff, Nat.reduceEqDiff, reduceIte, RM, ixX, oA]
   refine awp_cond (t := false) rfl (fun h => by cases h) (fun _ => ?_)
   refine awp_rest (T := [(14, [(20, false, true, [(12, 15), (11, 15), (7, 15), (7, 11), (6, 15), (6, 11), (3, 15), (3, 11), (3, 6), (2, 15), (2, 11), (2, 6)]), (2, false, false, [])]), (16, [(12, false, false, [])]), (20, [(7, false, false, [])]), (21, [(13, true, false, []), (1, false, false, [])])]) e76_ok (by kernel_rfl) (by kernel_rfl) ?_
   simp only [FS, ↓RE, okR, argEnv, Nat.reduceAdd, Nat.reduceSub, Nat.reduceLT, Nat.reduceLeDiff, Nat.reduceEqDiff, reduceIte, RM]
   simp [headW, heapW, envW, blkLt, D.ltL, D.lt, look, hget, Sx.hset, shD, inD]
  rw [hA] at oA hS1 hS2
  have hag := hag hA
  simp only [Bool.true_and] at hS1 hS2
  have ixL : ∀ h, indexAddrD Tryz.prog h 45 (.sl (plL x)) (.int .i64 (N : Int)) = some (.ref [.int .i64 (nP x N).1, .bool (nP x N).2] 0) := fun h => plD_ix (x := x) (i := N) (by omega) h
  have wl : IntKind.i64.wrap (((N + 1 : Nat) : Int) - 1) = (N : Int) := by rw [wrap_i64 (by omega) (by omega)]; omega
  have plx : (plL x).length = N + 1 := by rw [plL_len, hxl]
  generalize nP x N = p at *
  obtain ⟨pc, pd⟩ := p
  dsimp only at hag ixL
  obtain ⟨k, rfl⟩ : ∃ k : Nat, pc = (k : Int) := ⟨pc.toNat, by omega⟩
  have hk : k < sh.length := by omega
  simp only [FS, ↓RE, okR, argEnv, Nat.reduceAdd, Nat.reduceSub, Nat.reduceLT, Nat.reduceLeDiff, Nat.reduceEqDiff, reduceIte, RM, ixX, oA]
  refine awp_cond (t := true) rfl (fun _ => ?_) (fun h => by cases h)
  refine awp_peel (T := [(14, [(20, false, true, [(12, 15), (11, 15), (7, 15), (7, 11), (6, 15), (6, 11), (3, 15), (3, 11), (3, 6), (2, 15), (2, 11), (2, 6)]), (2, false, false, [])]), (16, [(12, false, false, [])]), (20, [(7, false, false, [])]), (21, [(13, true, false, []), (1, false, false, [])])]) e76_ok (by kernel_rfl) (by kernel_rfl) ?_
  simp only [FS, ↓RE, okR, argEnv, Nat.reduceAdd, Nat.reduceSub, Nat.reduceLT, Nat.reduceLeDiff, Nat.reduceEqDiff, reduceIte, RM, ixX, plx, wl, ixL]
  refine awp_headW [(1, msD l), (2, .int .i64 now), (3, .ptr 0 0), (7, .sl (crL X)), (12, .osl 1 sh.length), (13, .osl 2 sh.length), (14, .int .i64 (i : Int)), (15, .ptr 3 0)] ((3, .box [.int .i64 (k : Int), .bool pd]) :: [(2, .arr 4 1 (boolL (boolsF sh.length (FB true (X.take i))))), (1, .arr 4 1 (boolL (boolsF sh.length (FB false (X.take i))))), (0, .box [.int .i64 sw, .int .i64 sd, shD sh, rlD rl, lkD lk, .int .i64 cell, .int .i64 mi, .int .i64 ev, .int .i64 en, inD af])]) 4 199 (by simp [St.put, headW, heapW, envW, blkLt, D.ltL, D.lt, look, hget, Sx.hset, shD, inD]; rfl) ?_
  refine awp_rest (T := [(14, [(20, false, true, [(12, 15), (11, 15), (7, 15), (7, 11), (6, 15), (6, 11), (3, 15), (3, 11), (3, 6), (2, 15), (2, 11), (2, 6)]), (2, false, false, [])]), (16, [(12, false, false, [])]), (20, [(7, false, false, [])]), (21, [(13, true, false, []), (1, false, false, [])])]) e76_ok (by kernel_rfl) (by kernel_rfl) ?_
  cases pd
  ·have hS2' : ∀ c, FB true (X.take (i + 1)) c = FB true (X.take i) c := fun c => by rw [hS2]; simp
   have hS1' : (fun c => if c = (k : Int) then true else FB false (X.take i) c) = FB false (X.take (i + 1)) := funext fun c => by
    rw [hS1]
    by_cases e : c = (k : Int)
    ·subst e; simp
    ·rw [if_neg e, decide_eq_false (by simp; omega), Bool.or_false]
   have x1 := bx (FB false (X.take i)) 1 k hk
   have s1 := bs (FB false (X.take i)) 1 k hk true
   rw [hS1'] at s1
   rw [funext hS2']
   simp only [FS, ↓RE, okR, argEnv, Nat.reduceAdd, Nat.reduceSub, Nat.reduceLT, Nat.reduceLeDiff, Nat.reduceEqDiff, reduceIte, RM, x1, s1]
   simp [headW, heapW, envW, blkLt, D.ltL, D.lt, look, hget, Sx.hset, shD, inD]
  ·have hS1' : ∀ c, FB false (X.take (i + 1)) c = FB false (X.take i) c := fun c => by rw [hS1]; simp
   have hS2' : (fun c => if c = (k : Int) then true else FB true (X.take i) c) = FB true (X.take (i + 1)) := funext fun c => by
    rw [hS2]
    by_cases e : c = (k : Int)
    ·subst e; simp
    ·rw [if_neg e, decide_eq_false (by simp; omega), Bool.or_false]
   have x1 := bx (FB true (X.take i)) 2 k hk
   have s1 := bs (FB true (X.take i)) 2 k hk true
   rw [hS2'] at s1
   rw [funext hS1']
   simp only [FS, ↓RE, okR, argEnv, Nat.reduceAdd, Nat.reduceSub, Nat.reduceLT, Nat.reduceLeDiff, Nat.reduceEqDiff, reduceIte, RM, x1, s1]
   simp [headW, heapW, envW, blkLt, D.ltL, D.lt, look, hget, Sx.hset, shD, inD]
 refine awp_peel (T := [(14, [(20, false, true, [(12, 15), (11, 15), (7, 15), (7, 11), (6, 15), (6, 11), (3, 15), (3, 11), (3, 6), (2, 15), (2, 11), (2, 6)]), (2, false, false, [])]), (16, [(12, false, false, [])]), (20, [(7, false, false, [])]), (21, [(13, true, false, []), (1, false, false, [])])]) e76_ok (by kernel_rfl) (by kernel_rfl) ?_
 simp only [FS, ↓RE, okR, argEnv, Nat.reduceAdd, Nat.reduceSub, Nat.reduceLT, Nat.reduceLeDiff, Nat.reduceEqDiff, reduceIte, RM]
 refine awp_block (awp_loopH (ι := Nat) (fun n => [(1, msD l), (2, .int .i64 now), (3, .ptr 0 0), (7, .sl (crL (CR n))), (8, .int .i64 (mi + (n : Int)))]) (fun _ => [(0, .box [.int .i64 sw, .int .i64 sd, shD sh, rlD rl, lkD lk, .int .i64 cell, .int .i64 mi, .int .i64 ev, .int .i64 en, inD af])]) 1 (fun n => n ≤ N) (fun n => N - n) 0 (Nat.zero_le _) ?_ ?_)
 ·rw [hcr0]; simp [headW, heapW, envW, blkLt, D.ltL, D.lt, look, hget, Sx.hset, shD, inD, crL]
 intro n hnl
 refine awp_peel (T := [(14, [(20, false, true, [(12, 15), (11, 15), (7, 15), (7, 11), (6, 15), (6, 11), (3, 15), (3, 11), (3, 6), (2, 15), (2, 11), (2, 6)]), (2, false, false, [])]), (16, [(12, false, false, [])]), (20, [(7, false, false, [])]), (21, [(13, true, false, []), (1, false, false, [])])]) e76_ok (by kernel_rfl) (by kernel_rfl) ?_
 rcases Nat.lt_or_ge n N with hlt | hge
 rotate_left
 ·have hq : (mi + (n : Int) < now) = False := by simp; omega
  simp only [FS, ↓RE, okR, argEnv, Nat.reduceAdd, Nat.reduceSub, Nat.reduceLT, Nat.reduceLeDiff, Nat.reduceEqDiff, reduceIte, RM, hq, decide_false]
  have : n = N := by omega
  subst this
  simp [headW, heapW, envW, blkLt, D.ltL, D.lt, look, hget, Sx.hset, shD, inD]
 have hq : (mi + (n : Int) < now) = True := by simp; omega
 simp only [FS, ↓RE, okR, argEnv, Nat.reduceAdd, Nat.reduceSub, Nat.reduceLT, Nat.reduceLeDiff, Nat.reduceEqDiff, reduceIte, RM, hq, decide_true]
 refine awp_seqF (ι := Unit) (nid := 1) (n := 199) (fun _ => [(1, msD l), (2, .int .i64 now), (3, .ptr 0 0), (7, .sl (crL (CR (n + 1)))), (8, .int .i64 (mi + (n : Int)))]) (fun _ => [(0, .box [.int .i64 sw, .int .i64 sd, shD sh, rlD rl, lkD lk, .int .i64 cell, .int .i64 mi, .int .i64 ev, .int .i64 en, inD af])]) (fun _ => True) ?_ ?_
 rotate_left
 ·rintro _ _
  have wi : IntKind.i64.wrap (mi + (n : Int) + 1) = mi + ((n + 1 : Nat) : Int) := by rw [wrap_i64 (by omega) (by omega)]; omega
  refine awp_rest (T := [(14, [(20, false, true, [(12, 15), (11, 15), (7, 15), (7, 11), (6, 15), (6, 11), (3, 15), (3, 11), (3, 6), (2, 15), (2, 11), (2, 6)]), (2, false, false, [])]), (16, [(12, false, false, [])]), (20, [(7, false, false, [])]), (21, [(13, true, false, []), (1, false, false, [])])]) e76_ok (by kernel_rfl) (by kernel_rfl) ?_
  simp only [FS, ↓RE, okR, argEnv, Nat.reduceAdd, Nat.reduceSub, Nat.reduceLT, Nat.reduceLeDiff, Nat.reduceEqDiff, reduceIte, RM, wi]
  exact ⟨n + 1, by omega, by omega, by simp [headW, heapW, envW, blkLt, D.ltL, D.lt, look, hget, Sx.hset, shD, inD]⟩
 refine awp_block ?_
 refine awp_peel (T := [(14, [(20, false, true, [(12, 15), (11, 15), (7, 15), (7, 11), (6, 15), (6, 11), (3, 15), (3, 11), (3, 6), (2, 15), (2, 11), (2, 6)]), (2, false, false, [])]), (16, [(12, false, false, [])]), (20, [(7, false, false, [])]), (21, [(13, true, false, []), (1, false, false, [])])]) e76_ok (by kernel_rfl) (by kernel_rfl) ?_
 simp only [FS, ↓RE, okR, argEnv, Nat.reduceAdd, Nat.reduceSub, Nat.reduceLT, Nat.reduceLeDiff, Nat.reduceEqDiff, reduceIte, RM]
 refine awp_nil 9 45 1 rfl ?_
 have hXl := hMl n (by omega)
 have hXm := hcm n
 rw [hcrS]
 generalize CR n = X at *
 obtain ⟨G, hG⟩ : ∃ G : Nat → List (List PlW), G = fun i => (X.take i).flatMap fun x => (List.range sh.length).flatMap fun c : Nat => [x ++ [((c : Int), false)], x ++ [((c : Int), true)]] := ⟨_, rfl⟩
 have hG0 : G 0 = [] := by rw [hG]; rfl
 have hGE : (X.flatMap fun x => (List.range sh.length).flatMap fun c : Nat => [x ++ [((c : Int), false)], x ++ [((c : Int), true)]]) = G X.length := by rw [hG]; simp only [List.take_length]
 have hGS : ∀ i x, X[i]? = some x → G (i + 1) = G i ++ (List.range sh.length).flatMap fun c : Nat => [x ++ [((c : Int), false)], x ++ [((c : Int), true)]] := fun i x hx => by rw [hG]; simp only [List.take_add_one, hx, Option.toList_some, List.flatMap_append]; simp
 have hGl : ∀ i, (G i).length ≤ 4096 * 8 := fun i => by
  rw [hG]
  simp only
  rw [flat_const (k := sh.length * 2) fun x => by rw [flat_const (k := 2) fun c => rfl, List.length_range]]
  exact Nat.mul_le_mul (by rw [List.length_take]; omega) (by omega)
 rw [hGE]
 clear hG hGE hcrS
 refine awp_headW [(1, msD l), (2, .int .i64 now), (3, .ptr 0 0), (7, .sl (crL X)), (8, .int .i64 (mi + (n : Int))), (9, .osl 1 (G 0).length)] [(1, .arr 45 1 (crL (G 0))), (0, .box [.int .i64 sw, .int .i64 sd, shD sh, rlD rl, lkD lk, .int .i64 cell, .int .i64 mi, .int .i64 ev, .int .i64 en, inD af])] 2 199 (by rw [hG0]; simp [headW, heapW, envW, blkLt, D.ltL, D.lt, look, hget, Sx.hset, eset_nil, eset_cons, crL, shD, inD]) ?_
 refine awp_seqF (ι := Unit) (nid := 2) (n := 199) (fun _ => [(1, msD l), (2, .int .i64 now), (3, .ptr 0 0), (8, .int .i64 (mi + (n : Int))), (9, .osl 1 (G X.length).length)]) (fun _ => [(1, .arr 45 1 (crL (G X.length))), (0, .box [.int .i64 sw, .int .i64 sd, shD sh, rlD rl, lkD lk, .int .i64 cell, .int .i64 mi, .int .i64 ev, .int .i64 en, inD af])]) (fun _ => True) ?_ ?_
 rotate_left
 ·rintro _ _
  refine awp_imp (imp_thaw 1 (.weak (weak_of (e := [(1, msD l), (2, .int .i64 now), (3, .ptr 0 0), (8, .int .i64 (mi + (n : Int))), (9, .sl (crL (G X.length)))]) (h := [(0, .box [.int .i64 sw, .int .i64 sd, shD sh, rlD rl, lkD lk, .int .i64 cell, .int .i64 mi, .int .i64 ev, .int .i64 en, inD af])]) (nid := 1) (n := 199) ?_))) ?_
  ·simp [headW, heapW, envW, blkLt, D.ltL, D.lt, look, hget, frzHH, frzBlk, herase, fz_int, fz_ref, fz_ptr, fz_bool, fz_sl, fz_nils, fz_osl, fzC_some, fzC_arr, fzP_some, crL_len, plL_len, boolL_len, boolsF_len, shD, inD]
  refine awp_rest (T := [(14, [(20, false, true, [(12, 15), (11, 15), (7, 15), (7, 11), (6, 15), (6, 11), (3, 15), (3, 11), (3, 6), (2, 15), (2, 11), (2, 6)]), (2, false, false, [])]), (16, [(12, false, false, [])]), (20, [(7, false, false, [])]), (21, [(13, true, false, []), (1, false, false, [])])]) e76_ok (by kernel_rfl) (by kernel_rfl) ?_
  simp only [FS, ↓RE, okR, argEnv, Nat.reduceAdd, Nat.reduceSub, Nat.reduceLT, Nat.reduceLeDiff, Nat.reduceEqDiff, reduceIte, RM]
  simp [headW, heapW, envW, blkLt, D.ltL, D.lt, look, hget, Sx.hset, shD, inD]
 refine awp_peel (T := [(14, [(20, false, true, [(12, 15), (11, 15), (7, 15), (7, 11), (6, 15), (6, 11), (3, 15), (3, 11), (3, 6), (2, 15), (2, 11), (2, 6)]), (2, false, false, [])]), (16, [(12, false, false, [])]), (20, [(7, false, false, [])]), (21, [(13, true, false, []), (1, false, false, [])])]) e76_ok (by kernel_rfl) (by kernel_rfl) ?_
 simp only [FS, ↓RE, okR, argEnv, Nat.reduceAdd, Nat.reduceSub, Nat.reduceLT, Nat.reduceLeDiff, Nat.reduceEqDiff, reduceIte, RM]
 refine awp_block (awp_loopH (ι := Nat) (fun i => [(1, msD l), (2, .int .i64 now), (3, .ptr 0 0), (7, .sl (crL X)), (8, .int .i64 (mi + (n : Int))), (9, .osl 1 (G i).length), (10, .int .i64 (i : Int))]) (fun i => [(1, .arr 45 1 (crL (G i))), (0, .box [.int .i64 sw, .int .i64 sd, shD sh, rlD rl, lkD lk, .int .i64 cell, .int .i64 mi, .int .i64 ev, .int .i64 en, inD af])]) 2 (fun i => i ≤ X.length) (fun i => X.length - i) 0 (Nat.zero_le _) ?_ ?_)
 ·simp [headW, heapW, envW, blkLt, D.ltL, D.lt, look, hget, Sx.hset, shD, inD]
 intro i hil
 refine awp_peel (T := [(14, [(20, false, true, [(12, 15), (11, 15), (7, 15), (7, 11), (6, 15), (6, 11), (3, 15), (3, 11), (3, 6), (2, 15), (2, 11), (2, 6)]), (2, false, false, [])]), (16, [(12, false, false, [])]), (20, [(7, false, false, [])]), (21, [(13, true, false, []), (1, false, false, [])])]) e76_ok (by kernel_rfl) (by kernel_rfl) ?_
 rcases Nat.lt_or_ge i X.length with hlt2 | hge2
 rotate_left
 ·have hq := nat_lt_false hge2
  simp only [FS, ↓RE, okR, argEnv, Nat.reduceAdd, Nat.reduceSub, Nat.reduceLT, Nat.reduceLeDiff, Nat.reduceEqDiff, reduceIte, RM, crL_len, hq, decide_false]
  have hie : i = X.length := by omega
  subst hie
  simp [headW, heapW, envW, blkLt, D.ltL, D.lt, look, hget, Sx.hset, shD, inD]
 have hq := nat_lt_true hlt2
 simp only [FS, ↓RE, okR, argEnv, Nat.reduceAdd, Nat.reduceSub, Nat.reduceLT, Nat.reduceLeDiff, Nat.reduceEqDiff, reduceIte, RM, crL_len, hq, decide_true]
 refine awp_seqF (ι := Unit) (nid := 2) (n := 199) (fun _ => [(1, msD l), (2, .int .i64 now), (3, .ptr 0 0), (7, .sl (crL X)), (8, .int .i64 (mi + (n : Int))), (9, .osl 1 (G (i + 1)).length), (10, .int .i64 (i : Int))]) (fun _ => [(1, .arr 45 1 (crL (G (i + 1)))), (0, .box [.int .i64 sw, .int .i64 sd, shD sh, rlD rl, lkD lk, .int .i64 cell, .int .i64 mi, .int .i64 ev, .int .i64 en, inD af])]) (fun _ => True) ?_ ?_
 rotate_left
 ·rintro _ _
  have wi := wrap_i64 (z := (i : Int) + 1) (by omega) (by omega)
  refine awp_rest (T := [(14, [(20, false, true, [(12, 15), (11, 15), (7, 15), (7, 11), (6, 15), (6, 11), (3, 15), (3, 11), (3, 6), (2, 15), (2, 11), (2, 6)]), (2, false, false, [])]), (16, [(12, false, false, [])]), (20, [(7, false, false, [])]), (21, [(13, true, false, []), (1, false, false, [])])]) e76_ok (by kernel_rfl) (by kernel_rfl) ?_
  simp only [FS, ↓RE, okR, argEnv, Nat.reduceAdd, Nat.reduceSub, Nat.reduceLT, Nat.reduceLeDiff, Nat.reduceEqDiff, reduceIte, RM, wi]
  exact ⟨i + 1, by omega, by omega, by simp [headW, heapW, envW, blkLt, D.ltL, D.lt, look, hget, Sx.hset, shD, inD]⟩
 refine awp_block ?_
 obtain ⟨x, hx⟩ : ∃ x, X[i]? = some x := ⟨X[i], by simp [hlt2]⟩
 have ixX := cr_ix hx
 have hxl := hXm x (List.mem_of_getElem? hx)
 obtain ⟨Gc, hGc⟩ : ∃ Gc : Nat → List (List PlW), Gc = fun c => G i ++ (List.range c).flatMap fun c : Nat => [x ++ [((c : Int), false)], x ++ [((c : Int), true)]] := ⟨_, rfl⟩
 have hGc0 : Gc 0 = G i := by rw [hGc]; simp
 have hGcE : G (i + 1) = Gc sh.length := by rw [hGS i x hx, hGc]
 have hGcS : ∀ c : Nat, Gc (c + 1) = Gc c ++ [x ++ [((c : Int), false)], x ++ [((c : Int), true)]] := fun c => by rw [hGc]; simp only [List.range_succ, List.flatMap_append]; simp
 have hGcl : ∀ c, c ≤ 4 → (Gc c).length ≤ 100000 := fun c hc => by
  rw [hGc]
  have := hGl i
  simp only [List.length_append]
  rw [flat_const (k := 2) fun c => rfl, List.length_range]
  omega
 rw [hGcE, ← hGc0]
 clear hGc hGcE hGc0 hGS
 refine awp_peel (T := [(14, [(20, false, true, [(12, 15), (11, 15), (7, 15), (7, 11), (6, 15), (6, 11), (3, 15), (3, 11), (3, 6), (2, 15), (2, 11), (2, 6)]), (2, false, false, [])]), (16, [(12, false, false, [])]), (20, [(7, false, false, [])]), (21, [(13, true, false, []), (1, false, false, [])])]) e76_ok (by kernel_rfl) (by kernel_rfl) ?_
 simp only [FS, ↓RE, okR, argEnv, Nat.reduceAdd, Nat.reduceSub, Nat.reduceLT, Nat.reduceLeDiff, Nat.reduceEqDiff, reduceIte, RM]
 refine awp_block (awp_loopH (ι := Nat) (fun c => [(1, msD l), (2, .int .i64 now), (3, .ptr 0 0), (7, .sl (crL X)), (8, .int .i64 (mi + (n : Int))), (9, .osl 1 (Gc c).length), (10, .int .i64 (i : Int)), (11, .int .i64 (c : Int))]) (fun c => [(1, .arr 45 1 (crL (Gc c))), (0, .box [.int .i64 sw, .int .i64 sd, shD sh, rlD rl, lkD lk, .int .i64 cell, .int .i64 mi, .int .i64 ev, .int .i64 en, inD af])]) 2 (fun c => c ≤ sh.length) (fun c => sh.length - c) 0 (Nat.zero_le _) ?_ ?_)
 ·simp [headW, heapW, envW, blkLt, D.ltL, D.lt, look, hget, Sx.hset, shD, inD]
 intro c hcl
 refine awp_peel (T := [(14, [(20, false, true, [(12, 15), (11, 15), (7, 15), (7, 11), (6, 15), (6, 11), (3, 15), (3, 11), (3, 6), (2, 15), (2, 11), (2, 6)]), (2, false, false, [])]), (16, [(12, false, false, [])]), (20, [(7, false, false, [])]), (21, [(13, true, false, []), (1, false, false, [])])]) e76_ok (by kernel_rfl) (by kernel_rfl) ?_
 rcases Nat.lt_or_ge c sh.length with hlt3 | hge3
 rotate_left
 ·have hq := nat_lt_false hge3
  simp only [FS, ↓RE, okR, argEnv, Nat.reduceAdd, Nat.reduceSub, Nat.reduceLT, Nat.reduceLeDiff, Nat.reduceEqDiff, reduceIte, RM, List.length_map, hq, decide_false]
  have hie : c = sh.length := by omega
  subst hie
  simp [headW, heapW, envW, blkLt, D.ltL, D.lt, look, hget, Sx.hset, shD, inD]
 have hq := nat_lt_true hlt3
 simp only [FS, ↓RE, okR, argEnv, Nat.reduceAdd, Nat.reduceSub, Nat.reduceLT, Nat.reduceLeDiff, Nat.reduceEqDiff, reduceIte, RM, List.length_map, hq, decide_true]
 refine awp_seqF (ι := Unit) (nid := 2) (n := 199) (fun _ => [(1, msD l), (2, .int .i64 now), (3, .ptr 0 0), (7, .sl (crL X)), (8, .int .i64 (mi + (n : Int))), (9, .osl 1 (Gc (c + 1)).length), (10, .int .i64 (i : Int)), (11, .int .i64 (c : Int))]) (fun _ => [(1, .arr 45 1 (crL (Gc (c + 1)))), (0, .box [.int .i64 sw, .int .i64 sd, shD sh, rlD rl, lkD lk, .int .i64 cell, .int .i64 mi, .int .i64 ev, .int .i64 en, inD af])]) (fun _ => True) ?_ ?_
 rotate_left
 ·rintro _ _
  have wi := wrap_i64 (z := (c : Int) + 1) (by omega) (by omega)
  refine awp_rest (T := [(14, [(20, false, true, [(12, 15), (11, 15), (7, 15), (7, 11), (6, 15), (6, 11), (3, 15), (3, 11), (3, 6), (2, 15), (2, 11), (2, 6)]), (2, false, false, [])]), (16, [(12, false, false, [])]), (20, [(7, false, false, [])]), (21, [(13, true, false, []), (1, false, false, [])])]) e76_ok (by kernel_rfl) (by kernel_rfl) ?_
  simp only [FS, ↓RE, okR, argEnv, Nat.reduceAdd, Nat.reduceSub, Nat.reduceLT, Nat.reduceLeDiff, Nat.reduceEqDiff, reduceIte, RM, wi]
  exact ⟨c + 1, by omega, by omega, by simp [headW, heapW, envW, blkLt, D.ltL, D.lt, look, hget, Sx.hset, shD, inD]⟩
 refine awp_block ?_
 have hGl1 := hGcl c (by omega)
 rw [hGcS]
 refine awp_headW [(1, msD l), (2, .int .i64 now), (3, .ptr 0 0), (7, .sl (crL X)), (8, .int .i64 (mi + (n : Int))), (9, .osl 1 (Gc c).length), (10, .int .i64 (i : Int)), (11, .int .i64 (c : Int))] [(1, .arr 45 1 (crL (Gc c))), (0, .box [.int .i64 sw, .int .i64 sd, shD sh, rlD rl, lkD lk, .int .i64 cell, .int .i64 mi, .int .i64 ev, .int .i64 en, inD af])] 2 199 (by simp [headW, heapW, envW, blkLt, D.ltL, D.lt, look, hget, Sx.hset, shD, inD]) ?_
 obtain ⟨H0, hH0⟩ : ∃ H0 : H, H0 = [(1, .arr 45 1 (crL (Gc c))), (0, .box [.int .i64 sw, .int .i64 sd, shD sh, rlD rl, lkD lk, .int .i64 cell, .int .i64 mi, .int .i64 ev, .int .i64 en, inD af])] := ⟨_, rfl⟩
 obtain ⟨Ha, hHa⟩ : ∃ Ha : H, Ha = (2, .arr 44 2 (plL (x ++ [((c : Int), false)]))) :: H0 := ⟨_, rfl⟩
 obtain ⟨Hb, hHb⟩ : ∃ Hb : H, Hb = (3, .arr 44 2 (plL (x ++ [((c : Int), true)]))) :: H0 := ⟨_, rfl⟩
 obtain ⟨f1, hf1⟩ : ∃ f : D → D, f = frzD Ha (herase Ha 2) := ⟨_, rfl⟩
 obtain ⟨f2, hf2⟩ : ∃ f : D → D, f = frzD Hb (herase Hb 3) := ⟨_, rfl⟩
 have fa1 : (fun j => f1 j) = f1 := rfl
 have lv : ∀ m j, (j ≤ 4 ∨ (6 ≤ j ∧ j ≤ 8) ∨ (10 ≤ j ∧ j ≤ 13) ∨ (15 ≤ j ∧ j ≤ 17)) → vS (aS (Gc c).length x.length (i : Int) (c : Int) X x) f1 f2 x.length (Gc c).length (.sl [[.sl (plL (x ++ [((c : Int), false)]))], [.sl (plL (x ++ [((c : Int), true)]))]]) m j = aS (Gc c).length x.length (i : Int) (c : Int) X x j := fun m j hj => by
  have hjs : j = 0 ∨ j = 1 ∨ j = 2 ∨ j = 3 ∨ j = 4 ∨ j = 6 ∨ j = 7 ∨ j = 8 ∨ j = 10 ∨ j = 11 ∨ j = 12 ∨ j = 13 ∨ j = 15 ∨ j = 16 ∨ j = 17 := by omega
  refine vS_live m ?_ ?_ (by omega)
  ·rw [hf1, hHa, hH0]
   rcases hjs with rfl | rfl | rfl | rfl | rfl | rfl | rfl | rfl | rfl | rfl | rfl | rfl | rfl | rfl | rfl <;> simp [aS, hget, herase, fz_int, fz_ref, fz_sl, fz_osl, fz_agg, fzC_some]
  ·rw [hf2, hHb, hH0]
   rcases hjs with rfl | rfl | rfl | rfl | rfl | rfl | rfl | rfl | rfl | rfl | rfl | rfl | rfl | rfl | rfl <;> simp [aS, hget, herase, fz_int, fz_ref, fz_sl, fz_osl, fz_agg, fzC_some]
 have F1 : f1 (.osl 2 (x.length + 1)) = .sl (plL (x ++ [((c : Int), false)])) := by
  rw [hf1, hHa, hH0]
  simp [hget, herase, fz_osl, fzC_arr, plL_len]
 have F2 : f2 (.osl 3 (x.length + 1)) = .sl (plL (x ++ [((c : Int), true)])) := by
  rw [hf2, hHb, hH0]
  simp [hget, herase, fz_osl, fzC_arr, plL_len]
 have F12 : f2 (.sl (plL (x ++ [((c : Int), false)]))) = .sl (plL (x ++ [((c : Int), false)])) := by rw [hf2]; rfl
 have v15 : ∀ v, v = vS (aS (Gc c).length x.length (i : Int) (c : Int) X x) f1 f2 x.length (Gc c).length (.sl [[.sl (plL (x ++ [((c : Int), false)]))], [.sl (plL (x ++ [((c : Int), true)]))]]) → v 1 5 = .osl 2 x.length ∧ v 3 14 = .osl 3 x.length ∧ v 1 9 = .osl 2 (x.length + 1) ∧ v 3 18 = .osl 3 (x.length + 1) ∧ (∀ m, 4 ≤ m → v m 9 = .sl (plL (x ++ [((c : Int), false)])) ∧ v m 18 = .sl (plL (x ++ [((c : Int), true)])) ∧ v m 19 = .sl [[.sl (plL (x ++ [((c : Int), false)]))], [.sl (plL (x ++ [((c : Int), true)]))]] ∧ v m 20 = .osl 1 ((Gc c).length + 2) ∧ v m 21 = .osl 1 ((Gc c).length + 2)) := fun v hv => by
  subst hv
  refine ⟨rfl, rfl, rfl, rfl, fun m hm => ?_⟩
  have h1 : ¬ m < 2 := by omega
  have h2 : ¬ m < 4 := by omega
  refine ⟨?_, ?_, ?_, ?_, ?_⟩ <;> simp [vS, h1, h2, aS, F1, F2, F12]
 have vd1 : ∀ v, v = vS (aS (Gc c).length x.length (i : Int) (c : Int) X x) f1 f2 x.length (Gc c).length (.sl [[.sl (plL (x ++ [((c : Int), false)]))], [.sl (plL (x ++ [((c : Int), true)]))]]) → (∀ j, v 1 j = v 0 j) ∧ (∀ j, j ≠ 14 → j ≠ 18 → v 2 j = f1 (v 1 j)) ∧ (∀ j, v 3 j = v 2 j) ∧ (∀ j, j ≠ 19 → j ≠ 20 → j ≠ 21 → v 4 j = f2 (v 3 j)) ∧ (∀ j, v 5 j = v 4 j) := fun v hv => by
  subst hv
  refine ⟨fun j => rfl, fun j h1 h2 => ?_, fun j => rfl, fun j h1 h2 h3 => ?_, fun j => rfl⟩
  ·simp [vS, h1, h2]
  ·simp [vS, h1, h2, h3]
 obtain ⟨val, hval⟩ : ∃ v, v = vS (aS (Gc c).length x.length (i : Int) (c : Int) X x) f1 f2 x.length (Gc c).length (.sl [[.sl (plL (x ++ [((c : Int), false)]))], [.sl (plL (x ++ [((c : Int), true)]))]]) := ⟨_, rfl⟩
 rw [← hval] at lv
 obtain ⟨v5, v14, v9, v18, v4⟩ := v15 val hval
 obtain ⟨x1, x2, x3, x4, x5⟩ := vd1 val hval
 clear v15 vd1 hval F1 F2 F12 fa1
 have ixX0 := ixX
 have ap1 := fun h nid => pl_nils x h nid (by omega)
 have ap2 := fun h nid b (hb : hget h b = some (.arr 44 2 (plL x))) => pl_app (r := [((c : Int), false)]) hb rfl nid (by simp; omega)
 have ap3 := fun h nid b (hb : hget h b = some (.arr 44 2 (plL x))) => pl_app (r := [((c : Int), true)]) hb rfl nid (by simp; omega)
 have ap4 := fun h nid (hb : hget h 1 = some (.arr 45 1 (crL (Gc c)))) => cr_app (x := x ++ [((c : Int), false)]) (y := x ++ [((c : Int), true)]) hb rfl nid (by omega)
 have l1 := fun h => pl_litD h (c : Int) false
 have l2 := fun h => pl_litD h (c : Int) true
 have l3 := fun h => cr_litD2 h (plL (x ++ [((c : Int), false)])) (plL (x ++ [((c : Int), true)]))
 refine awp_slotsI (σ := Nat) e76_ok (by kernel_rfl) okS (fun m => match m with | 1 => (2, .arr 44 2 (plL x)) :: H0 | 3 => (3, .arr 44 2 (plL x)) :: H0 | 5 => [(1, .arr 45 1 (crL (Gc c ++ [x ++ [((c : Int), false)], x ++ [((c : Int), true)]]))), (0, .box [.int .i64 sw, .int .i64 sd, shD sh, rlD rl, lkD lk, .int .i64 cell, .int .i64 mi, .int .i64 ev, .int .i64 en, inD af])] | _ => H0)
  (fun m => match m with | 0 => 2 | 1 => 3 | 2 => 3 | _ => 4) val 0 (by kernel_rfl) hH0.symm rfl (by simp [okS]) ?_ ?_
 ·intro m L i o e K hok hcl hoo hnr hr hsl hK
  have ho := hoo
  have hi : i < 22 := lt_of_arr hoo
  obtain rfl | rfl | rfl | rfl | rfl | rfl | rfl | rfl | rfl | rfl | rfl | rfl | rfl | rfl | rfl | rfl | rfl | rfl | rfl | rfl | rfl | rfl : i = 0 ∨ i = 1 ∨ i = 2 ∨ i = 3 ∨ i = 4 ∨ i = 5 ∨ i = 6 ∨ i = 7 ∨ i = 8 ∨ i = 9 ∨ i = 10 ∨ i = 11 ∨ i = 12 ∨ i = 13 ∨ i = 14 ∨ i = 15 ∨ i = 16 ∨ i = 17 ∨ i = 18 ∨ i = 19 ∨ i = 20 ∨ i = 21 := by omega
  ·simp only [List.getElem?_toArray, List.getElem?_cons_succ, List.getElem?_cons_zero, Option.some.injEq] at hoo
   subst hoo
   dsimp only at hr hK
   have k9 := hsl.old1 9 21 rfl (fun h => hnr (hcl 21 0 h (by decide)))
   refine ⟨rfl, .inl ?_⟩
   simp only [FS, ↓RE, okR, argEnv, Nat.reduceAdd, Nat.reduceSub, Nat.reduceLT, Nat.reduceLeDiff, Nat.reduceEqDiff, reduceIte, RM, k9]
   exact hK _ _ _ (after_keep (by kernel_rfl) ho hsl hnr m (okS_keep 0 (by decide) hok) (fun _ _ => rfl) (lv _ 0 (by omega)).symm rfl rfl)
  ·simp only [List.getElem?_toArray, List.getElem?_cons_succ, List.getElem?_cons_zero, Option.some.injEq] at hoo
   subst hoo
   dsimp only at hr hK
   have k7 := hsl.base 7 rfl
   refine ⟨rfl, .inl ?_⟩
   simp only [FS, ↓RE, okR, argEnv, Nat.reduceAdd, Nat.reduceSub, Nat.reduceLT, Nat.reduceLeDiff, Nat.reduceEqDiff, reduceIte, RM, k7]
   exact hK _ _ _ (after_keep (by kernel_rfl) ho hsl hnr m (okS_keep 1 (by decide) hok) (fun _ _ => rfl) (lv _ 1 (by omega)).symm rfl rfl)
  ·simp only [List.getElem?_toArray, List.getElem?_cons_succ, List.getElem?_cons_zero, Option.some.injEq] at hoo
   subst hoo
   dsimp only at hr hK
   have k10 := hsl.base 10 rfl
   refine ⟨rfl, .inl ?_⟩
   simp only [FS, ↓RE, okR, argEnv, Nat.reduceAdd, Nat.reduceSub, Nat.reduceLT, Nat.reduceLeDiff, Nat.reduceEqDiff, reduceIte, RM, k10]
   exact hK _ _ _ (after_keep (by kernel_rfl) ho hsl hnr m (okS_keep 2 (by decide) hok) (fun _ _ => rfl) (lv _ 2 (by omega)).symm rfl rfl)
  ·simp only [List.getElem?_toArray, List.getElem?_cons_succ, List.getElem?_cons_zero, Option.some.injEq] at hoo
   subst hoo
   dsimp only at hr hK
   have k87 := hsl.new 1 _ 87 rfl (hr 1 (by decide)) rfl
   rw [lv _ 1 (by omega)] at k87
   change _ = aS _ _ _ _ _ _ 1 at k87
   simp only [aS] at k87
   have k88 := hsl.new 2 _ 88 rfl (hr 2 (by decide)) rfl
   rw [lv _ 2 (by omega)] at k88
   change _ = aS _ _ _ _ _ _ 2 at k88
   simp only [aS] at k88
   refine ⟨rfl, .inl ?_⟩
   simp only [FS, ↓RE, okR, argEnv, Nat.reduceAdd, Nat.reduceSub, Nat.reduceLT, Nat.reduceLeDiff, Nat.reduceEqDiff, reduceIte, RM, k87, k88, ixX]
   exact hK _ _ _ (after_keep (by kernel_rfl) ho hsl hnr m (okS_keep 3 (by decide) hok) (fun _ _ => rfl) (lv _ 3 (by omega)).symm rfl rfl)
  ·simp only [List.getElem?_toArray, List.getElem?_cons_succ, List.getElem?_cons_zero, Option.some.injEq] at hoo
   subst hoo
   dsimp only at hr hK
   have k89 := hsl.new 3 _ 89 rfl (hr 3 (by decide)) rfl
   rw [lv _ 3 (by omega)] at k89
   change _ = aS _ _ _ _ _ _ 3 at k89
   simp only [aS] at k89
   refine ⟨rfl, .inl ?_⟩
   simp only [FS, ↓RE, okR, argEnv, Nat.reduceAdd, Nat.reduceSub, Nat.reduceLT, Nat.reduceLeDiff, Nat.reduceEqDiff, reduceIte, RM, k89]
   exact hK _ _ _ (after_keep (by kernel_rfl) ho hsl hnr m (okS_keep 4 (by decide) hok) (fun _ _ => rfl) (lv _ 4 (by omega)).symm rfl rfl)
  ·simp only [List.getElem?_toArray, List.getElem?_cons_succ, List.getElem?_cons_zero, Option.some.injEq] at hoo
   subst hoo
   dsimp only at hr hK
   have hm : m = 0 := by obtain ⟨h0, h1, _⟩ := hok; have : ¬ 1 ≤ m := fun h => hnr (h1.2 h); omega
   subst hm
   have k90 := hsl.new 4 _ 90 rfl (hr 4 (by decide)) rfl
   rw [lv _ 4 (by omega)] at k90
   change _ = aS _ _ _ _ _ _ 4 at k90
   simp only [aS] at k90
   refine ⟨rfl, .inl ?_⟩
   simp only [FS, ↓RE, okR, argEnv, Nat.reduceAdd, Nat.reduceSub, Nat.reduceLT, Nat.reduceLeDiff, Nat.reduceEqDiff, reduceIte, RM, k90, ap1]
   exact hK _ _ _ (after_keep (by kernel_rfl) ho hsl hnr 1 (okS_step 5 (by simp) hok) (fun j _ => x1 j) v5.symm rfl rfl)
  ·simp only [List.getElem?_toArray, List.getElem?_cons_succ, List.getElem?_cons_zero, Option.some.injEq] at hoo
   subst hoo
   dsimp only at hr hK
   have k11 := hsl.base 11 rfl
   refine ⟨rfl, .inl ?_⟩
   simp only [FS, ↓RE, okR, argEnv, Nat.reduceAdd, Nat.reduceSub, Nat.reduceLT, Nat.reduceLeDiff, Nat.reduceEqDiff, reduceIte, RM, k11]
   exact hK _ _ _ (after_keep (by kernel_rfl) ho hsl hnr m (okS_keep 6 (by decide) hok) (fun _ _ => rfl) (lv _ 6 (by omega)).symm rfl rfl)
  ·simp only [List.getElem?_toArray, List.getElem?_cons_succ, List.getElem?_cons_zero, Option.some.injEq] at hoo
   subst hoo
   dsimp only at hr hK
   have k92 := hsl.new 6 _ 92 rfl (hr 6 (by decide)) rfl
   rw [lv _ 6 (by omega)] at k92
   change _ = aS _ _ _ _ _ _ 6 at k92
   simp only [aS] at k92
   refine ⟨rfl, .inl ?_⟩
   simp only [FS, ↓RE, okR, argEnv, Nat.reduceAdd, Nat.reduceSub, Nat.reduceLT, Nat.reduceLeDiff, Nat.reduceEqDiff, reduceIte, RM, k92]
   exact hK _ _ _ (after_keep (by kernel_rfl) ho hsl hnr m (okS_keep 7 (by decide) hok) (fun _ _ => rfl) (lv _ 7 (by omega)).symm rfl rfl)
  ·simp only [List.getElem?_toArray, List.getElem?_cons_succ, List.getElem?_cons_zero, Option.some.injEq] at hoo
   subst hoo
   dsimp only at hr hK
   have k93 := hsl.new 7 _ 93 rfl (hr 7 (by decide)) rfl
   rw [lv _ 7 (by omega)] at k93
   change _ = aS _ _ _ _ _ _ 7 at k93
   simp only [aS] at k93
   refine ⟨rfl, .inr ?_⟩
   simp only [FS, ↓RE, okR, argEnv, Nat.reduceAdd, Nat.reduceSub, Nat.reduceLT, Nat.reduceLeDiff, Nat.reduceEqDiff, reduceIte, RM, k93, l1]
   exact hK _ _ _ (after_keep (by kernel_rfl) ho hsl hnr m (okS_keep 8 (by decide) hok) (fun _ _ => rfl) (lv _ 8 (by omega)).symm rfl rfl)
  ·simp only [List.getElem?_toArray, List.getElem?_cons_succ, List.getElem?_cons_zero, Option.some.injEq] at hoo
   subst hoo
   dsimp only at hr hK
   have hm : m = 1 := by obtain ⟨h0, h1, h2, _⟩ := hok; have := h1.1 (hr 5 (by decide)); have : ¬ 2 ≤ m := fun h => hnr (h2.2 h); omega
   subst hm
   have k91 := hsl.new 5 _ 91 rfl (hr 5 (by decide)) rfl
   rw [v5] at k91
   have k94 := hsl.new 8 _ 94 rfl (hr 8 (by decide)) rfl
   rw [lv _ 8 (by omega)] at k94
   change _ = aS _ _ _ _ _ _ 8 at k94
   simp only [aS] at k94
   refine ⟨rfl, .inl ?_⟩
   have ap := ap2 ((2, .arr 44 2 (plL x)) :: H0) 3 2 (by simp [hget])
   rw [show Sx.hset ((2, .arr 44 2 (plL x)) :: H0) 2 (.arr 44 2 (plL (x ++ [((c : Int), false)]))) = Ha by rw [hHa]; simp [Sx.hset]] at ap
   simp only [List.length_cons, List.length_nil, Nat.zero_add] at ap
   simp only [FS, ↓RE, okR, argEnv, Nat.reduceAdd, Nat.reduceSub, Nat.reduceLT, Nat.reduceLeDiff, Nat.reduceEqDiff, reduceIte, RM, k91, k94, ap]
   exact hK _ _ _ (after_thaw 2 (by kernel_rfl) ho hsl hnr 2 (okS_step 9 (by simp) hok) (by rw [hHa, hH0]; simp [frzHH, frzBlk, hget, herase, fz_int, fz_ref, fz_ptr, fz_sl, fz_osl, fz_agg, fz_bool, fzC_some, fzC_arr, fzP_some, crL, inD]) (fun j hj => by rw [← hf1]; exact x2 j (fun h => by have := hok.2.2.2.1.1 (h ▸ hj); omega) (fun h => by have := hok.2.2.2.2.1.1 (h ▸ hj); omega)) (by rw [← hf1, x2 9 (by omega) (by omega), v9]) (by rw [hHa, hH0]; simp [frzHH, frzBlk, hget, herase, fz_int, fz_ref, fz_ptr, fz_sl, fz_osl, fz_agg, fz_bool, fzC_some, fzC_arr, fzP_some, crL, inD]) rfl)
  ·simp only [List.getElem?_toArray, List.getElem?_cons_succ, List.getElem?_cons_zero, Option.some.injEq] at hoo
   subst hoo
   dsimp only at hr hK
   have k7 := hsl.base 7 rfl
   refine ⟨rfl, .inl ?_⟩
   simp only [FS, ↓RE, okR, argEnv, Nat.reduceAdd, Nat.reduceSub, Nat.reduceLT, Nat.reduceLeDiff, Nat.reduceEqDiff, reduceIte, RM, k7]
   exact hK _ _ _ (after_keep (by kernel_rfl) ho hsl hnr m (okS_keep 10 (by decide) hok) (fun _ _ => rfl) (lv _ 10 (by omega)).symm rfl rfl)
  ·simp only [List.getElem?_toArray, List.getElem?_cons_succ, List.getElem?_cons_zero, Option.some.injEq] at hoo
   subst hoo
   dsimp only at hr hK
   have k10 := hsl.base 10 rfl
   refine ⟨rfl, .inl ?_⟩
   simp only [FS, ↓RE, okR, argEnv, Nat.reduceAdd, Nat.reduceSub, Nat.reduceLT, Nat.reduceLeDiff, Nat.reduceEqDiff, reduceIte, RM, k10]
   exact hK _ _ _ (after_keep (by kernel_rfl) ho hsl hnr m (okS_keep 11 (by decide) hok) (fun _ _ => rfl) (lv _ 11 (by omega)).symm rfl rfl)
  ·simp only [List.getElem?_toArray, List.getElem?_cons_succ, List.getElem?_cons_zero, Option.some.injEq] at hoo
   subst hoo
   dsimp only at hr hK
   have k96 := hsl.new 10 _ 96 rfl (hr 10 (by decide)) rfl
   rw [lv _ 10 (by omega)] at k96
   change _ = aS _ _ _ _ _ _ 10 at k96
   simp only [aS] at k96
   have k97 := hsl.new 11 _ 97 rfl (hr 11 (by decide)) rfl
   rw [lv _ 11 (by omega)] at k97
   change _ = aS _ _ _ _ _ _ 11 at k97
   simp only [aS] at k97
   refine ⟨rfl, .inl ?_⟩
   simp only [FS, ↓RE, okR, argEnv, Nat.reduceAdd, Nat.reduceSub, Nat.reduceLT, Nat.reduceLeDiff, Nat.reduceEqDiff, reduceIte, RM, k96, k97, ixX]
   exact hK _ _ _ (after_keep (by kernel_rfl) ho hsl hnr m (okS_keep 12 (by decide) hok) (fun _ _ => rfl) (lv _ 12 (by omega)).symm rfl rfl)
  ·simp only [List.getElem?_toArray, List.getElem?_cons_succ, List.getElem?_cons_zero, Option.some.injEq] at hoo
   subst hoo
   dsimp only at hr hK
   have k98 := hsl.new 12 _ 98 rfl (hr 12 (by decide)) rfl
   rw [lv _ 12 (by omega)] at k98
   change _ = aS _ _ _ _ _ _ 12 at k98
   simp only [aS] at k98
   refine ⟨rfl, .inl ?_⟩
   simp only [FS, ↓RE, okR, argEnv, Nat.reduceAdd, Nat.reduceSub, Nat.reduceLT, Nat.reduceLeDiff, Nat.reduceEqDiff, reduceIte, RM, k98]
   exact hK _ _ _ (after_keep (by kernel_rfl) ho hsl hnr m (okS_keep 13 (by decide) hok) (fun _ _ => rfl) (lv _ 13 (by omega)).symm rfl rfl)
  ·simp only [List.getElem?_toArray, List.getElem?_cons_succ, List.getElem?_cons_zero, Option.some.injEq] at hoo
   subst hoo
   dsimp only at hr hK
   have hm : m = 2 := by obtain ⟨h0, h1, h2, h3, _⟩ := hok; have := h2.1 (hr 9 (by decide)); have : ¬ 3 ≤ m := fun h => hnr (h3.2 h); omega
   subst hm
   have k99 := hsl.new 13 _ 99 rfl (hr 13 (by decide)) rfl
   rw [lv _ 13 (by omega)] at k99
   change _ = aS _ _ _ _ _ _ 13 at k99
   simp only [aS] at k99
   refine ⟨rfl, .inl ?_⟩
   simp only [FS, ↓RE, okR, argEnv, Nat.reduceAdd, Nat.reduceSub, Nat.reduceLT, Nat.reduceLeDiff, Nat.reduceEqDiff, reduceIte, RM, k99, ap1]
   exact hK _ _ _ (after_keep (by kernel_rfl) ho hsl hnr 3 (okS_step 14 (by simp) hok) (fun j _ => x3 j) v14.symm rfl rfl)
  ·simp only [List.getElem?_toArray, List.getElem?_cons_succ, List.getElem?_cons_zero, Option.some.injEq] at hoo
   subst hoo
   dsimp only at hr hK
   have k11 := hsl.base 11 rfl
   refine ⟨rfl, .inl ?_⟩
   simp only [FS, ↓RE, okR, argEnv, Nat.reduceAdd, Nat.reduceSub, Nat.reduceLT, Nat.reduceLeDiff, Nat.reduceEqDiff, reduceIte, RM, k11]
   exact hK _ _ _ (after_keep (by kernel_rfl) ho hsl hnr m (okS_keep 15 (by decide) hok) (fun _ _ => rfl) (lv _ 15 (by omega)).symm rfl rfl)
  ·simp only [List.getElem?_toArray, List.getElem?_cons_succ, List.getElem?_cons_zero, Option.some.injEq] at hoo
   subst hoo
   dsimp only at hr hK
   have k101 := hsl.new 15 _ 101 rfl (hr 15 (by decide)) rfl
   rw [lv _ 15 (by omega)] at k101
   change _ = aS _ _ _ _ _ _ 15 at k101
   simp only [aS] at k101
   refine ⟨rfl, .inl ?_⟩
   simp only [FS, ↓RE, okR, argEnv, Nat.reduceAdd, Nat.reduceSub, Nat.reduceLT, Nat.reduceLeDiff, Nat.reduceEqDiff, reduceIte, RM, k101]
   exact hK _ _ _ (after_keep (by kernel_rfl) ho hsl hnr m (okS_keep 16 (by decide) hok) (fun _ _ => rfl) (lv _ 16 (by omega)).symm rfl rfl)
  ·simp only [List.getElem?_toArray, List.getElem?_cons_succ, List.getElem?_cons_zero, Option.some.injEq] at hoo
   subst hoo
   dsimp only at hr hK
   have k102 := hsl.new 16 _ 102 rfl (hr 16 (by decide)) rfl
   rw [lv _ 16 (by omega)] at k102
   change _ = aS _ _ _ _ _ _ 16 at k102
   simp only [aS] at k102
   refine ⟨rfl, .inr ?_⟩
   simp only [FS, ↓RE, okR, argEnv, Nat.reduceAdd, Nat.reduceSub, Nat.reduceLT, Nat.reduceLeDiff, Nat.reduceEqDiff, reduceIte, RM, k102, l2]
   exact hK _ _ _ (after_keep (by kernel_rfl) ho hsl hnr m (okS_keep 17 (by decide) hok) (fun _ _ => rfl) (lv _ 17 (by omega)).symm rfl rfl)
  ·simp only [List.getElem?_toArray, List.getElem?_cons_succ, List.getElem?_cons_zero, Option.some.injEq] at hoo
   subst hoo
   dsimp only at hr hK
   have hm : m = 3 := by obtain ⟨h0, h1, h2, h3, h4, _⟩ := hok; have := h3.1 (hr 14 (by decide)); have : ¬ 4 ≤ m := fun h => hnr (h4.2 h); omega
   subst hm
   have k100 := hsl.new 14 _ 100 rfl (hr 14 (by decide)) rfl
   rw [v14] at k100
   have k103 := hsl.new 17 _ 103 rfl (hr 17 (by decide)) rfl
   rw [lv _ 17 (by omega)] at k103
   change _ = aS _ _ _ _ _ _ 17 at k103
   simp only [aS] at k103
   refine ⟨rfl, .inl ?_⟩
   have ap := ap3 ((3, .arr 44 2 (plL x)) :: H0) 4 3 (by simp [hget])
   rw [show Sx.hset ((3, .arr 44 2 (plL x)) :: H0) 3 (.arr 44 2 (plL (x ++ [((c : Int), true)]))) = Hb by rw [hHb]; simp [Sx.hset]] at ap
   simp only [List.length_cons, List.length_nil, Nat.zero_add] at ap
   simp only [FS, ↓RE, okR, argEnv, Nat.reduceAdd, Nat.reduceSub, Nat.reduceLT, Nat.reduceLeDiff, Nat.reduceEqDiff, reduceIte, RM, k100, k103, ap]
   exact hK _ _ _ (after_thaw 3 (by kernel_rfl) ho hsl hnr 4 (okS_step 18 (by simp) hok) (by rw [hHb, hH0]; simp [frzHH, frzBlk, hget, herase, fz_int, fz_ref, fz_ptr, fz_sl, fz_osl, fz_agg, fz_bool, fzC_some, fzC_arr, fzP_some, crL, inD]) (fun j hj => by rw [← hf2]; exact x4 j (fun h => hnr (hcl 19 18 (h ▸ hj) (by decide))) (fun h => by have := hok.2.2.2.2.2.1 (h ▸ hj); omega) (fun h => hnr (hcl 21 18 (h ▸ hj) (by decide)))) (by rw [← hf2, x4 18 (by omega) (by omega) (by omega), v18]) (by rw [hHb, hH0]; simp [frzHH, frzBlk, hget, herase, fz_int, fz_ref, fz_ptr, fz_sl, fz_osl, fz_agg, fz_bool, fzC_some, fzC_arr, fzP_some, crL, inD]) rfl)
  ·simp only [List.getElem?_toArray, List.getElem?_cons_succ, List.getElem?_cons_zero, Option.some.injEq] at hoo
   subst hoo
   dsimp only at hr hK
   have hm : 4 ≤ m := hok.2.2.2.2.1.1 (hr 18 (by decide))
   have k95 := hsl.new 9 _ 95 rfl (hr 9 (by decide)) rfl
   rw [(v4 m hm).1] at k95
   have k104 := hsl.new 18 _ 104 rfl (hr 18 (by decide)) rfl
   rw [(v4 m hm).2.1] at k104
   refine ⟨rfl, .inr ?_⟩
   simp only [FS, ↓RE, okR, argEnv, Nat.reduceAdd, Nat.reduceSub, Nat.reduceLT, Nat.reduceLeDiff, Nat.reduceEqDiff, reduceIte, RM, k95, k104, l3]
   exact hK _ _ _ (after_keep (by kernel_rfl) ho hsl hnr m (okS_keep 19 (by decide) hok) (fun _ _ => rfl) ((v4 m hm).2.2.1).symm rfl rfl)
  ·simp only [List.getElem?_toArray, List.getElem?_cons_succ, List.getElem?_cons_zero, Option.some.injEq] at hoo
   subst hoo
   dsimp only at hr hK
   have hm : m = 4 := by obtain ⟨h0, h1, h2, h3, h4, h5⟩ := hok; have := h4.1 (hr 18 (by decide)); have : ¬ 5 ≤ m := fun h => hnr (h5.2 h); omega
   subst hm
   have k86 := hsl.new 0 _ 86 rfl (hr 0 (by decide)) rfl
   rw [lv _ 0 (by omega)] at k86
   change _ = aS _ _ _ _ _ _ 0 at k86
   simp only [aS] at k86
   have k105 := hsl.new 19 _ 105 rfl (hr 19 (by decide)) rfl
   rw [(v4 4 (by omega)).2.2.1] at k105
   refine ⟨rfl, .inl ?_⟩
   have ap := ap4 H0 4 (by rw [hH0]; simp [hget])
   simp only [FS, ↓RE, okR, argEnv, Nat.reduceAdd, Nat.reduceSub, Nat.reduceLT, Nat.reduceLeDiff, Nat.reduceEqDiff, reduceIte, RM, k86, k105, ap]
   exact hK _ _ _ (after_keep (by kernel_rfl) ho hsl hnr 5 (okS_step 20 (by simp) hok) (fun j _ => x5 j) ((v4 5 (by omega)).2.2.2.1).symm (by rw [hH0]; simp [Sx.hset]) rfl)
  ·simp only [List.getElem?_toArray, List.getElem?_cons_succ, List.getElem?_cons_zero, Option.some.injEq] at hoo
   subst hoo
   dsimp only at hr hK
   have hm : m = 5 := by obtain ⟨h0, h1, h2, h3, h4, h5⟩ := hok; have := h5.1 (hr 20 (by decide)); omega
   subst hm
   have k106 := hsl.new 20 _ 106 rfl (hr 20 (by decide)) rfl
   rw [(v4 5 (by omega)).2.2.2.1] at k106
   refine ⟨rfl, .inl ?_⟩
   simp only [FS, ↓RE, okR, argEnv, Nat.reduceAdd, Nat.reduceSub, Nat.reduceLT, Nat.reduceLeDiff, Nat.reduceEqDiff, reduceIte, RM, k106]
   exact hK _ _ _ (after_keep (by kernel_rfl) ho hsl hnr 5 (okS_keep 21 (by decide) hok) (fun _ _ => rfl) ((v4 5 (by omega)).2.2.2.2).symm rfl rfl)
 ·intro m L e hok hall hsl
  have hm : m = 5 := by obtain ⟨h0, h1, h2, h3, h4, h5⟩ := hok; have := h5.1 (hall 20 (by decide)); omega
  subst hm
  have k9 := hsl.new 21 _ 9 rfl (hall 21 (by decide)) rfl
  rw [(v4 5 (by omega)).2.2.2.2] at k9
  have k1 := hsl.base 1 rfl
  have k2 := hsl.base 2 rfl
  have k3 := hsl.base 3 rfl
  have k7 := hsl.base 7 rfl
  have k8 := hsl.base 8 rfl
  have k10 := hsl.base 10 rfl
  have k11 := hsl.base 11 rfl
  refine ⟨(), trivial, ?_⟩
  simp [headW, heapW, envW, blkLt, D.ltL, D.lt, look, hget, Sx.hset, shD, inD, k9, k1, k2, k3, k7, k8, k10, k11]
theorem watchSharp_pure : ∀ Ds, TyL Tryz.prog Tryz.f4.params.toList Ds → Pure Tryz.prog 4 Ds (.bool true) := by
 intro Ds h
 rw [Tryz.params4] at h
 match Ds, h with
 | [_, _, _], ⟨⟨n, _, h1, e1⟩, ⟨n2, _, h2, e2⟩, ⟨n3, _, h3, e3⟩, _⟩ =>
  rw [Tryz.underlying31] at e1
  rw [Fz.und_32] at e2
  rw [Fz.und_3] at e3
  dsimp only at e1 e2 e3
  obtain ⟨w, rfl, hw⟩ := tyWatch h1
  obtain ⟨l, rfl, hl⟩ := tyMsgs h2
  obtain ⟨now, rfl, _⟩ := tyInt Fz.und_3 h3
  subst e1; cases e2; cases e3
  exact watchSharp_at w hw l hl now
end Go.Sx
