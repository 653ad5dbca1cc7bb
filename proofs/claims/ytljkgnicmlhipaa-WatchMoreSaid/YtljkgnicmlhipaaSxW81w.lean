/- Own work: contracts of functions, used in the proof of a law. -/
import Derived.Test.YtljkgnicmlhipaaSxW82w
import Derived.Test.YtljkgnicmlhipaaSxW55w
set_option linter.unusedVariables false
set_option linter.unusedSimpArgs false
namespace Go.Sx
open Go.Proofs
set_option maxRecDepth 10000

theorem asked_b {w : WatchW} {l : List MsgW} {now : Int} (h : askedI w l now = 0) : watchB w = true ∧ rI now w.min 1440 = true := by
 unfold askedI at h
 split at h
 ·cases h
 ·split at h
  ·rename_i h1 h2
   simp only [Bool.and_eq_true] at h2
   exact ⟨h2.1, h2.2.2⟩
  ·cases h
theorem asked_nil {w : WatchW} {now : Int} (h1 : watchB w = true) (h2 : rI now w.min 1440 = true) : askedI w [] now = 0 := by
 unfold askedI
 rw [if_neg (by simp), if_pos (by rw [h1, h2]; rfl)]
theorem same_sn : Pure Try.prog 19 [.sl (intL []), .nils] (.bool true) :=
 Pure.nil (ds1 := [.sl (intL [])]) (ds2 := []) (r_Same_t [] [] (by decide) (by decide))
def WhG (a b : D) (e : Int) (A B : List Int) : Prop := (e = 0 ∧ a = .sl (intL A) ∧ b = .sl (intL B) ∧ ¬ (A.length + B.length = 0)) ∨ (e = 5 ∧ a = .nils ∧ b = .nils ∧ A = [] ∧ B = [])
theorem where_g {w : WatchW} {l : List MsgW} {now : Int} (ha : askedI w l now = 0) : ∃ a b e, WhereR w l now = .tup [a, b, .int .i64 e] ∧
  WhG a b e (cellsF w.s.sh.length (plF w (knownL l now) now (now - w.min).toNat).1) (cellsF w.s.sh.length (plF w (knownL l now) now (now - w.min).toNat).2) := by
 unfold WhereR
 rw [if_pos ha]
 split
 ·rename_i h
  refine ⟨_, _, _, rfl, .inr ⟨rfl, rfl, rfl, ?_, ?_⟩⟩
  ·exact List.length_eq_zero_iff.1 (by omega)
  ·exact List.length_eq_zero_iff.1 (by omega)
 ·rename_i h
  exact ⟨_, _, _, rfl, .inl ⟨rfl, rfl, rfl, h⟩⟩
theorem WhG.fz {a b : D} {e : Int} {A B : List Int} (h : WhG a b e A B) : (∀ k, D.lt k a = true) ∧ (∀ k, D.lt k b = true) ∧ (∀ h h', frzD h h' a = a) ∧ ∀ h h', frzD h h' b = b := by
 rcases h with ⟨_, rfl, rfl, _⟩ | ⟨_, rfl, rfl, _⟩
 ·exact ⟨fun _ => by simp [D.lt], fun _ => by simp [D.lt], fun _ _ => rfl, fun _ _ => rfl⟩
 ·exact ⟨fun _ => by simp [D.lt], fun _ => by simp [D.lt], fun _ _ => rfl, fun _ _ => rfl⟩
theorem sub_nil {X : List Int} (h : subB X [] = true) : X = [] := by
 cases X with
 | nil => rfl
 | cons x r => simp [subB] at h
theorem whg_sub {a b x y : D} {e f : Int} {A B X Y : List Int} (h1 : WhG x y f X Y) (h2 : WhG a b e A B) (s1 : subB X A = true) (s2 : subB Y B = true) :
  (f = 5 ∧ x = .nils ∧ y = .nils) ∨ (f = 0 ∧ x = .sl (intL X) ∧ y = .sl (intL Y) ∧ e = 0 ∧ a = .sl (intL A) ∧ b = .sl (intL B)) := by
 rcases h1 with ⟨h3, h4, h5, h6⟩ | ⟨h3, h4, h5, _⟩
 ·right
  rcases h2 with ⟨g1, g2, g3, _⟩ | ⟨_, _, _, rfl, rfl⟩
  ·exact ⟨h3, h4, h5, g1, g2, g3⟩
  ·rw [sub_nil s1, sub_nil s2] at h6
   exact absurd rfl h6
 ·exact .inl ⟨h3, h4, h5⟩
noncomputable abbrev e81 : List (FuncId × (List D → Option D)) :=
 (35, gQuick) :: (14, cstO [] (.bool true)) :: (22, gWLN okL mailedD) ::
 (36, gSnd) :: (37, gSub) :: (38, gSII okS ReachR) :: []
theorem e81_ok : OkO Try.prog (mkO e81) :=
 mkO_ok (orcF_ok fun p h => quick_t h.1 h.2) <| mkO_ok (cstO_ok known_t) <| mkO_ok (orcF_ok fun p h => mailed_t h.1 h.2 p.2.2) <|
 mkO_ok (orcF_ok fun p h => r_Sends_t h.1 p.2 h.2) <| mkO_ok (orcF_ok fun p h => subset_t h.1 h.2) <| mkO_ok (orcF_ok fun p h => Reach_t p.1 h p.2.1 p.2.2) <| fun _ _ _ h => by cases h
set_option maxHeartbeats 8000000 in
theorem watchMore_at (w : WatchW) (hw : WatchL w) (l : List MsgW) (hl : BL l) (now : Int) (more : MsgW) (wh : Int) : Pure Try.prog 10 [.agg w.c, msD l, .int .i64 now, .agg (enMs.d more), .int .i64 wh] (.bool true) := by
 have o1 := fun h => gQuick_eq hw (now := now) h
 have o2 := cstO_eq [] (.bool true)
 have o3 : gWLN okL mailedD [.agg w.c, msD l, .int .i64 now] = some (.int .i64 (askedI w l now)) := gWLN_eq ⟨hw, hl⟩
 have hA : askedI w l now = 0 → AskOk w l now := asked_ok
 generalize quickB w now = Q at *
 by_cases hE : askedI w l now = 0
 case neg =>
  generalize askedI w l now = E at *
  have hz : (E != 0) = true := by simp [hE]
  obtain ⟨⟨sw, sd, sh⟩, ⟨rl, lk⟩, cell, mi, ev, en, af⟩ := w
  obtain ⟨mt, mc, md, mq⟩ := more
  simp only [WatchW.c, SkyW.c, NetW.c, List.cons_append, List.nil_append, enMs] at *
  refine pure_of_pieces (rs := [.tmp 10]) (m := 278) [(4, [(4, false, true, [(1, 3), (0, 3)]), (2, false, false, [])]), (11, [(16, false, false, [])])] e81_ok (by kernel_rfl) Try.func10 rfl (by kernel_rfl) rfl rfl (by kernel_rfl) ?_
  refine awp_peel (T := [(4, [(4, false, true, [(1, 3), (0, 3)]), (2, false, false, [])]), (11, [(16, false, false, [])])]) e81_ok (by kernel_rfl) (by kernel_rfl) ?_
  simp only [RT, FS, ↓RE, okR, argEnv, Nat.reduceAdd, Nat.reduceSub, Nat.reduceLT, Nat.reduceLeDiff, Nat.reduceEqDiff, reduceIte, RM]
  refine awp_peel (T := [(4, [(4, false, true, [(1, 3), (0, 3)]), (2, false, false, [])]), (11, [(16, false, false, [])])]) e81_ok (by kernel_rfl) (by kernel_rfl) ?_
  cases g1 : decide ((3000 : Int) < now)
  case true =>
   simp only [RT, FS, ↓RE, okR, argEnv, Nat.reduceAdd, Nat.reduceSub, Nat.reduceLT, Nat.reduceLeDiff, Nat.reduceEqDiff, reduceIte, RM, g1, o2]
  cases g2 : decide (now < (-3000 : Int))
  case true =>
   simp only [RT, FS, ↓RE, okR, argEnv, Nat.reduceAdd, Nat.reduceSub, Nat.reduceLT, Nat.reduceLeDiff, Nat.reduceEqDiff, reduceIte, RM, g1, g2, o2]
  have o1 := o1 (by simp at g1 g2; omega)
  cases Q
  ·simp only [RT, FS, ↓RE, okR, argEnv, Nat.reduceAdd, Nat.reduceSub, Nat.reduceLT, Nat.reduceLeDiff, Nat.reduceEqDiff, reduceIte, RM, g1, g2, o1, o2, Bool.not_false]
  cases q1 : decide ((15 : Int) < (l.length : Int))
  ·simp only [RT, FS, ↓RE, okR, argEnv, Nat.reduceAdd, Nat.reduceSub, Nat.reduceLT, Nat.reduceLeDiff, Nat.reduceEqDiff, reduceIte, RM, g1, g2, o1, o2, q1, o3, hz, Bool.not_true, List.length_map]
  ·simp only [RT, FS, ↓RE, okR, argEnv, Nat.reduceAdd, Nat.reduceSub, Nat.reduceLT, Nat.reduceLeDiff, Nat.reduceEqDiff, reduceIte, RM, g1, g2, o1, o2, q1, Bool.not_true, List.length_map]
 have hA := hA hE
 have hb := asked_b hE
 have hwo := hA.ok
 have hle := hwo.s.le
 have hnw := hA.b
 have hmi := hwo.m
 obtain ⟨N, hN⟩ : ∃ N : Nat, (now - w.min).toNat = N := ⟨_, rfl⟩
 have hnow : now = w.min + (N : Int) := by omega
 have hBL : ∀ p, BL (cellsF w.s.sh.length p) := fun p => by have := cellsF_len w.s.sh.length p; simp only [BL]; omega
 have hz5 : ((5 : Int) == 0) = false := rfl
 have hn5 : ((5 : Int) != 0) = true := rfl
 have hz2 : ((0 : Int) == 0) = true := rfl
 have hz : ((0 : Int) != 0) = false := rfl
 have hw0 : IntKind.i64.wrap (0 + 0) = 0 := rfl
 have hlt0 : decide ((0 : Int) < 0) = false := rfl
 -- what is known
 obtain ⟨a, b, e, hR1, hG1⟩ := where_g hE
 have p1 := Where_t hw hl now
 rw [hR1] at p1
 rw [hN] at hG1
 obtain ⟨la, lb, za, zb⟩ := hG1.fz
 -- a message more
 obtain ⟨L1, hL1⟩ : ∃ L, L = [more] := ⟨_, rfl⟩
 have hL1l : L1.length = 1 := by rw [hL1]; rfl
 have hA2 : askedI w (l ++ L1) now = 0 → (0 ≤ more.t ∧ more.t ≤ 1440) := fun h => by
  have h := asked_ok h
  have := h.m more (by rw [hL1]; simp)
  omega
 have hG2 : askedI w (l ++ L1) now = 0 → sendsB w more.t = false → ∃ x y f X Y, WhereR w (l ++ L1) now = .tup [x, y, .int .i64 f] ∧ ((f = 5 ∧ x = .nils ∧ y = .nils) ∨ (f = 0 ∧ x = .sl (intL X) ∧ y = .sl (intL Y) ∧ e = 0 ∧ a = .sl (intL (cellsF w.s.sh.length (plF w (knownL l now) now N).1)) ∧ b = .sl (intL (cellsF w.s.sh.length (plF w (knownL l now) now N).2)))) ∧
   gSub [.sl (intL X), .sl (intL (cellsF w.s.sh.length (plF w (knownL l now) now N).1))] = some (.bool true) ∧ gSub [.sl (intL Y), .sl (intL (cellsF w.s.sh.length (plF w (knownL l now) now N).2))] = some (.bool true) := fun h hs => by
  obtain ⟨x, y, f, hR2, hG2⟩ := where_g h
  rw [hN] at hG2
  have hm := fun c => more_mono hwo.s (l := l) (m := more) (now := now) hs N c
  rw [← hL1] at hm
  have s1 := sub_cells (N := w.s.sh.length) fun c => (hm c).1
  have s2 := sub_cells (N := w.s.sh.length) fun c => (hm c).2
  have e1 := gSub_eq (hBL (plF w (knownL (l ++ L1) now) now N).1) (hBL (plF w (knownL l now) now N).1)
  have e2 := gSub_eq (hBL (plF w (knownL (l ++ L1) now) now N).2) (hBL (plF w (knownL l now) now N).2)
  rw [s1] at e1
  rw [s2] at e2
  exact ⟨x, y, f, _, _, hR2, whg_sub hG2 hG1 s1 s2, e1, e2⟩
 have oM2 : BL (l ++ L1) → gWLN okL mailedD [.agg w.c, msD (l ++ L1), .int .i64 now] = some (.int .i64 (askedI w (l ++ L1) now)) := fun hl2 => gWLN_eq (ok := okL) (rf := mailedD) ⟨hw, hl2⟩
 have oSn := fun h => gSnd_eq hwo (t := more.t) h
 have p2 := fun hl2 => Where_t hw (l := l ++ L1) hl2 now
 -- a greater range
 have hwb : watchB w = true := hb.1
 have hN0 := asked_nil hb.1 hb.2
 have hWide : ∀ (k : Nat) (r : RelayW), w.n.r[k]? = some r → ∃ u v g x y h U V X Y, Pure Try.prog 25 [.agg w.c, .nils, .int .i64 now] (.tup [u, v, .int .i64 g]) ∧ (∀ j, D.lt j u = true) ∧ (∀ j, D.lt j v = true) ∧ (∀ h h', frzD h h' u = u) ∧ (∀ h h', frzD h h' v = v) ∧
   Pure Try.prog 25 [.agg (setR w (w.n.r.set k { r with r := min 12 (r.r + 1) })).c, .nils, .int .i64 now] (.tup [x, y, .int .i64 h]) ∧ ((h = 5 ∧ x = .nils ∧ y = .nils) ∨ (h = 0 ∧ x = .sl (intL X) ∧ y = .sl (intL Y) ∧ g = 0 ∧ u = .sl (intL U) ∧ v = .sl (intL V))) ∧
   gSub [.sl (intL X), .sl (intL U)] = some (.bool true) ∧ gSub [.sl (intL Y), .sl (intL V)] = some (.bool true) ∧ 0 ≤ r.r ∧ r.r ≤ 12 := fun k r hr => by
  have hrb := relay_of hwb r (List.mem_of_getElem? hr)
  have hr12 : 0 ≤ r.r ∧ r.r ≤ 12 := by
   simp only [relayB, Bool.and_eq_true] at hrb
   exact rI_le hrb.2.1
  obtain ⟨rl2, hrl2⟩ : ∃ rl2, rl2 = w.n.r.set k { r with r := min 12 (r.r + 1) } := ⟨_, rfl⟩
  rw [← hrl2]
  have hl2 : rl2.length = w.n.r.length := by rw [hrl2, List.length_set]
  have hall : ∀ x ∈ rl2, relayB w.s.sh.length x = true := fun x hx => by
   rw [hrl2] at hx
   rcases List.mem_or_eq_of_mem_set hx with hx | rfl
   ·exact relay_of hwb x hx
   ·simp only [relayB, Bool.and_eq_true] at hrb ⊢
    refine ⟨hrb.1, ?_, hrb.2.2⟩
    simp only [rI, Bool.and_eq_true, decide_eq_true_eq]
    omega
  have hwb2 := setR_b hwb hl2 hall
  have hwo2 := watch_ok hwb2
  have hL2 : WatchL (setR w rl2) := ⟨hw.s, ⟨by have := hw.n.r; simp only [BL, setR] at this ⊢; omega, hw.n.l, fun x hx => by
   rw [hrl2] at hx
   rcases List.mem_or_eq_of_mem_set hx with hx | rfl
   ·exact hw.n.ro x hx
   ·exact hw.n.ro r (List.mem_of_getElem? hr), hw.n.lo⟩, hw.a⟩
  have hh : ∀ c m i, hAt w.s w.n.r c m i = true → hAt w.s rl2 c m i = true := fun c m i h => by
   rw [hrl2]
   unfold hAt at h ⊢
   by_cases e : i = k
   ·subst e
    rw [hr] at h
    have hlt := lt_of_getElem? hr
    rw [List.getElem?_set_self hlt]
    simp only [hearsB, Bool.and_eq_true, decide_eq_true_eq] at h ⊢
    exact ⟨by omega, h.2⟩
   ·rw [List.getElem?_set_ne (Ne.symm e)]; exact h
  obtain ⟨u, v, g, e1, g1⟩ := where_g hN0
  obtain ⟨x, y, h, e2, g2⟩ := where_g (w := setR w rl2) (l := []) (now := now) (asked_nil hwb2 hb.2)
  rw [show (now - w.min).toNat = N from hN] at g1
  rw [show (now - (setR w rl2).min).toNat = N from hN] at g2
  have hm := fun c => wide_mono hwo hwo2 hl2 hh (now := now) hnw.2 N (by omega) c
  have kn0 : knownL [] now = [] := rfl
  rw [kn0] at g1 g2
  have s1 := sub_cells (N := w.s.sh.length) fun c => (hm c).1
  have s2 := sub_cells (N := w.s.sh.length) fun c => (hm c).2
  have e3 := gSub_eq (hBL (plF (setR w rl2) [] now N).1) (hBL (plF w [] now N).1)
  have e4 := gSub_eq (hBL (plF (setR w rl2) [] now N).2) (hBL (plF w [] now N).2)
  rw [s1] at e3
  rw [s2] at e4
  have pp := Where_nil hw now
  rw [e1] at pp
  have pp2 := Where_nil hL2 now
  rw [e2] at pp2
  obtain ⟨z1, z2, z3, z4⟩ := g1.fz
  exact ⟨u, v, g, x, y, h, _, _, _, _, pp, z1, z2, z3, z4, pp2, whg_sub g2 g1 s1 s2, e3, e4, hr12⟩
 -- nobody hears
 have hdl : (deafL w.n.r).length = w.n.r.length := by simp [deafL]
 have hdb := setR_b hwb hdl (fun x hx => by
  obtain ⟨r, hr, rfl⟩ := List.mem_map.1 hx
  have := relay_of hwb r hr
  simp only [relayB, Bool.and_eq_true] at this ⊢
  exact ⟨this.1, this.2.1, by simp [openB]⟩)
 have hdo := watch_ok hdb
 have hLd : WatchL (setR w (deafL w.n.r)) := ⟨hw.s, ⟨by have := hw.n.r; simp only [BL, setR] at this ⊢; omega, hw.n.l, fun x hx => by
  obtain ⟨r, hr, rfl⟩ := List.mem_map.1 hx
  simp [BL], hw.n.lo⟩, hw.a⟩
 obtain ⟨C1, hC1⟩ : ∃ C, C = cellsF w.s.sh.length (itF w.s (oneF w.cell) N) := ⟨_, rfl⟩
 obtain ⟨C2, hC2⟩ : ∃ C, C = cellsF w.s.sh.length (itF w.s (oneF w.cell) (min (N - 1) w.endu.toNat)) := ⟨_, rfl⟩
 have hbC1 : BL C1 := by rw [hC1]; exact hBL _
 have hbC2 : BL C2 := by rw [hC2]; exact hBL _
 have hDeaf : WhereR (setR w (deafL w.n.r)) [] now = .tup [.sl (intL (if w.endu < (N : Int) then [] else C1)), .sl (intL (if N = 0 then [] else C2)), .int .i64 0] := by
  obtain ⟨d1, d2⟩ := deaf_pl hwo.c hdo (fun r hr => by obtain ⟨r', _, rfl⟩ := List.mem_map.1 hr; rfl) now N (by omega)
  have hcin := free_ins (s := w.s) hwo.c
  have hmem : ∀ n, w.cell ∈ cellsF w.s.sh.length (itF w.s (oneF w.cell) n) := fun n => cellsF_mem.2 ⟨hcin, itF_mono w.s (oneF w.cell) (Nat.zero_le n) _ (by simp [itF, oneF])⟩
  have nil0 : cellsF w.s.sh.length (fun _ => false) = [] := by simp [cellsF]
  have E1 : cellsF w.s.sh.length (plF (setR w (deafL w.n.r)) [] now N).1 = if w.endu < (N : Int) then [] else C1 := by
   rw [show (plF (setR w (deafL w.n.r)) [] now N).1 = _ from funext d1]
   by_cases q : w.endu < (N : Int)
   ·rw [if_pos q]; simp only [decide_eq_true q, Bool.not_true, Bool.false_and]; exact nil0
   ·rw [if_neg q, hC1]; simp only [decide_eq_false q, Bool.not_false, Bool.true_and]
  have E2 : cellsF w.s.sh.length (plF (setR w (deafL w.n.r)) [] now N).2 = if N = 0 then [] else C2 := by
   rw [show (plF (setR w (deafL w.n.r)) [] now N).2 = _ from funext d2]
   by_cases q : N = 0
   ·rw [if_pos q]; simp only [q, ne_eq, not_true_eq_false, decide_false, Bool.false_and]; exact nil0
   ·rw [if_neg q, hC2]; simp only [ne_eq, q, not_false_eq_true, decide_true, Bool.true_and]
  unfold WhereR
  rw [if_pos (asked_nil hdb hb.2), show (now - (setR w (deafL w.n.r)).min).toNat = N from hN, show knownL [] now = [] from rfl, show (setR w (deafL w.n.r)).s = w.s from rfl, E1, E2, if_neg]
  have hu := hwo.u
  by_cases q : w.endu < (N : Int)
  ·rw [if_pos q, if_neg (by omega), hC2]
   have := List.length_pos_of_mem (hmem (min (N - 1) w.endu.toNat))
   omega
  ·rw [if_neg q, hC1]
   have := List.length_pos_of_mem (hmem N)
   omega
 have hRch : ∀ n : Nat, n ≤ 1440 → gSII okS ReachR [.agg w.s.c, .int .i64 w.cell, .int .i64 (n : Int)] = some (.tup [.sl (intL (cellsF w.s.sh.length (itF w.s (oneF w.cell) n))), .int .i64 0]) := fun n hn => by
  rw [gSII_eq (ok := okS) hw.s]
  unfold ReachR
  have h1 : skyB w.s = true := by simp only [watchB, Bool.and_eq_true] at hwb; exact hwb.1
  rw [h1, hwo.c, if_pos (by simp [rI]; omega), reach_cells hwo.s hwo.c]
  simp
 have oR1 := hRch N (by omega)
 have oR2 := hRch (min (N - 1) w.endu.toNat) (by omega)
 rw [← hC1] at oR1
 rw [← hC2] at oR2
 clear hRch hC1 hC2
 have hu := hwo.u
 unfold setR at hWide hDeaf hLd
 clear hG1
 rw [hE] at o3
 generalize askedI w (l ++ L1) now = E2 at *
 generalize sendsB w more.t = SM at *
 generalize cellsF w.s.sh.length (plF w (knownL l now) now N).1 = CA at *
 generalize cellsF w.s.sh.length (plF w (knownL l now) now N).2 = CB at *
 generalize WhereR w (l ++ L1) now = R2 at *
 have hrl8 : w.n.r.length ≤ 1000 := by have := hwo.n.rn; omega
 clear hwo hdo hdb hdl hwb hN0 hb hR1 hE hBL
 obtain ⟨⟨sw, sd, sh⟩, ⟨rl, lk⟩, cell, mi, ev, en, af⟩ := w
 obtain ⟨mt, mc, md, mq⟩ := more
 simp only [WatchW.c, SkyW.c, NetW.c, List.cons_append, List.nil_append, enMs] at *
 refine pure_of_pieces (rs := [.tmp 10]) (m := 278) [(4, [(4, false, true, [(1, 3), (0, 3)]), (2, false, false, [])]), (11, [(16, false, false, [])])] e81_ok (by kernel_rfl) Try.func10 rfl (by kernel_rfl) rfl rfl (by kernel_rfl) ?_
 refine awp_peel (T := [(4, [(4, false, true, [(1, 3), (0, 3)]), (2, false, false, [])]), (11, [(16, false, false, [])])]) e81_ok (by kernel_rfl) (by kernel_rfl) ?_
 simp only [RT, FS, ↓RE, okR, argEnv, Nat.reduceAdd, Nat.reduceSub, Nat.reduceLT, Nat.reduceLeDiff, Nat.reduceEqDiff, reduceIte, RM]
 refine awp_peel (T := [(4, [(4, false, true, [(1, 3), (0, 3)]), (2, false, false, [])]), (11, [(16, false, false, [])])]) e81_ok (by kernel_rfl) (by kernel_rfl) ?_
 cases g1 : decide ((3000 : Int) < now)
 case true =>
  simp only [RT, FS, ↓RE, okR, argEnv, Nat.reduceAdd, Nat.reduceSub, Nat.reduceLT, Nat.reduceLeDiff, Nat.reduceEqDiff, reduceIte, RM, g1, o2]
 cases g2 : decide (now < (-3000 : Int))
 case true =>
  simp only [RT, FS, ↓RE, okR, argEnv, Nat.reduceAdd, Nat.reduceSub, Nat.reduceLT, Nat.reduceLeDiff, Nat.reduceEqDiff, reduceIte, RM, g1, g2, o2]
 have o1 := o1 (by simp at g1 g2; omega)
 cases Q
 ·simp only [RT, FS, ↓RE, okR, argEnv, Nat.reduceAdd, Nat.reduceSub, Nat.reduceLT, Nat.reduceLeDiff, Nat.reduceEqDiff, reduceIte, RM, g1, g2, o1, o2, Bool.not_false]
 cases q1 : decide ((15 : Int) < (l.length : Int))
 case true =>
  simp only [RT, FS, ↓RE, okR, argEnv, Nat.reduceAdd, Nat.reduceSub, Nat.reduceLT, Nat.reduceLeDiff, Nat.reduceEqDiff, reduceIte, RM, g1, g2, o1, o2, q1, Bool.not_true, List.length_map]
 cases q2 : decide (wh < 0)
 case true =>
  simp only [RT, FS, ↓RE, okR, argEnv, Nat.reduceAdd, Nat.reduceSub, Nat.reduceLT, Nat.reduceLeDiff, Nat.reduceEqDiff, reduceIte, RM, g1, g2, o1, o2, q1, q2, o3, hz, Bool.not_true, List.length_map]
 cases q3 : decide ((rl.length : Int) ≤ wh)
 case true =>
  simp only [RT, FS, ↓RE, okR, argEnv, Nat.reduceAdd, Nat.reduceSub, Nat.reduceLT, Nat.reduceLeDiff, Nat.reduceEqDiff, reduceIte, RM, g1, g2, o1, o2, q1, q2, q3, o3, hz, Bool.not_true, List.length_map]
 simp only [RT, FS, ↓RE, okR, argEnv, Nat.reduceAdd, Nat.reduceSub, Nat.reduceLT, Nat.reduceLeDiff, Nat.reduceEqDiff, reduceIte, RM, g1, g2, o1, o2, q1, q2, q3, o3, hz, Bool.not_true, List.length_map]
 have hl15 : l.length ≤ 15 := by simp at q1; omega
 refine awp_peel (T := [(4, [(4, false, true, [(1, 3), (0, 3)]), (2, false, false, [])]), (11, [(16, false, false, [])])]) e81_ok (by kernel_rfl) (by kernel_rfl) ?_
 simp only [RT, FS, ↓RE, okR, argEnv, Nat.reduceAdd, Nat.reduceSub, Nat.reduceLT, Nat.reduceLeDiff, Nat.reduceEqDiff, reduceIte, RM]
 refine call_of_pure' p1 (by simp [D.ltL, D.lt]) (by simp [D.ltL, D.lt, la, lb]) ?_
 simp only [RT, FS, ↓RE, okR, argEnv, Nat.reduceAdd, Nat.reduceSub, Nat.reduceLT, Nat.reduceLeDiff, Nat.reduceEqDiff, reduceIte, RM]
 have b4 := fun h nid => ms_nils l h nid (by omega)
 have b5 := fun h nid (hb : hget h 2 = some (.arr 47 4 (l.map enMs.d))) => ms_app (n := l.length) (r := L1) hb rfl nid (by omega)
 have d5 : ∀ h, litD Try.prog h 45 1 [(0, .agg [.int .i64 mt, .int .i64 mc, .bool md, .int .i64 mq])] = some (.sl (L1.map enMs.d)) := fun h => by rw [hL1]; exact ms_litD h ⟨mt, mc, md, mq⟩
 refine awp_peel (T := [(4, [(4, false, true, [(1, 3), (0, 3)]), (2, false, false, [])]), (11, [(16, false, false, [])])]) e81_ok (by kernel_rfl) (by kernel_rfl) ?_
 simp only [RT, FS, ↓RE, okR, argEnv, Nat.reduceAdd, Nat.reduceSub, Nat.reduceLT, Nat.reduceLeDiff, Nat.reduceEqDiff, reduceIte, RM, b4, b5, d5, cells_osl, cur_osl, curC_arr, decide_true, List.length_map, List.length_append, hL1l]
 refine awp_imp (imp_thaw 2 (.weak (weak_of (e := [(2, .int .i64 now), (4, .int .i64 wh), (5, .ptr 0 0), (8, .ptr 1 0), (11, a), (12, b), (13, .int .i64 e), (14, msD (l ++ L1))]) (h := [(1, .box [.int .i64 mt, .int .i64 mc, .bool md, .int .i64 mq]), (0, .box [.int .i64 sw, .int .i64 sd, shD sh, rlD rl, lkD lk, .int .i64 cell, .int .i64 mi, .int .i64 ev, .int .i64 en, inD af])]) (nid := 3) (n := 278) ?_))) ?_
 ·simp [headW, heapW, envW, blkLt, D.ltL, D.lt, look, hget, frzHH, frzBlk, herase, fz_int, fz_ref, fz_ptr, fz_bool, fz_sl, fz_nils, fz_osl, fzC_some, fzC_arr, fzP_some, shD, inD, za, zb, la, lb, hL1l]
 refine awp_seqE (ι := Unit) (nid := 1) (n := 278) (fun _ => [(2, .int .i64 now), (4, .int .i64 wh), (5, .ptr 0 0)]) (fun _ => [(0, .box [.int .i64 sw, .int .i64 sd, shD sh, rlD rl, lkD lk, .int .i64 cell, .int .i64 mi, .int .i64 ev, .int .i64 en, inD af])]) (fun _ => True) ?_ ?_
 ·have hl2 : BL (l ++ L1) := by simp only [BL, List.length_append]; omega
  have oM2 := oM2 hl2
  have p2 := p2 hl2
  refine awp_peel (T := [(4, [(4, false, true, [(1, 3), (0, 3)]), (2, false, false, [])]), (11, [(16, false, false, [])])]) e81_ok (by kernel_rfl) (by kernel_rfl) ?_
  cases hE2 : (E2 == 0)
  ·simp only [RT, FS, ↓RE, okR, argEnv, Nat.reduceAdd, Nat.reduceSub, Nat.reduceLT, Nat.reduceLeDiff, Nat.reduceEqDiff, reduceIte, RM, oM2, hE2]
   refine awp_cond (t := false) rfl (fun h => by cases h) (fun _ => ?_)
   refine awp_rest (T := [(4, [(4, false, true, [(1, 3), (0, 3)]), (2, false, false, [])]), (11, [(16, false, false, [])])]) e81_ok (by kernel_rfl) (by kernel_rfl) ?_
   simp only [RT, FS, ↓RE, okR, argEnv, Nat.reduceAdd, Nat.reduceSub, Nat.reduceLT, Nat.reduceLeDiff, Nat.reduceEqDiff, reduceIte, RM]
   simp [headW, heapW, envW, blkLt, D.ltL, D.lt, look, hget, Sx.hset, shD, inD]
  have hE20 : E2 = 0 := by simpa using hE2
  have oSn := oSn (by have := hA2 hE20; omega)
  cases SM
  case true =>
   simp only [RT, FS, ↓RE, okR, argEnv, Nat.reduceAdd, Nat.reduceSub, Nat.reduceLT, Nat.reduceLeDiff, Nat.reduceEqDiff, reduceIte, RM, oM2, hE2, oSn, Bool.not_true]
   refine awp_cond (t := false) rfl (fun h => by cases h) (fun _ => ?_)
   refine awp_rest (T := [(4, [(4, false, true, [(1, 3), (0, 3)]), (2, false, false, [])]), (11, [(16, false, false, [])])]) e81_ok (by kernel_rfl) (by kernel_rfl) ?_
   simp only [RT, FS, ↓RE, okR, argEnv, Nat.reduceAdd, Nat.reduceSub, Nat.reduceLT, Nat.reduceLeDiff, Nat.reduceEqDiff, reduceIte, RM]
   simp [headW, heapW, envW, blkLt, D.ltL, D.lt, look, hget, Sx.hset, shD, inD]
  obtain ⟨x, y, f, X, Y, rfl, hxy, s1, s2⟩ := hG2 hE20 rfl
  simp only [RT, FS, ↓RE, okR, argEnv, Nat.reduceAdd, Nat.reduceSub, Nat.reduceLT, Nat.reduceLeDiff, Nat.reduceEqDiff, reduceIte, RM, oM2, hE2, oSn, Bool.not_false]
  refine awp_cond (t := true) rfl (fun _ => ?_) (fun h => by cases h)
  refine awp_peel (T := [(4, [(4, false, true, [(1, 3), (0, 3)]), (2, false, false, [])]), (11, [(16, false, false, [])])]) e81_ok (by kernel_rfl) (by kernel_rfl) ?_
  simp only [RT, FS, ↓RE, okR, argEnv, Nat.reduceAdd, Nat.reduceSub, Nat.reduceLT, Nat.reduceLeDiff, Nat.reduceEqDiff, reduceIte, RM]
  rcases hxy with ⟨rfl, rfl, rfl⟩ | ⟨rfl, rfl, rfl, rfl, rfl, rfl⟩
  ·refine call_of_pure' p2 (by simp [D.ltL, D.lt]) (by simp [D.ltL, D.lt]) ?_
   simp only [RT, FS, ↓RE, okR, argEnv, Nat.reduceAdd, Nat.reduceSub, Nat.reduceLT, Nat.reduceLeDiff, Nat.reduceEqDiff, reduceIte, RM]
   refine awp_rest (T := [(4, [(4, false, true, [(1, 3), (0, 3)]), (2, false, false, [])]), (11, [(16, false, false, [])])]) e81_ok (by kernel_rfl) (by kernel_rfl) ?_
   simp only [RT, FS, ↓RE, okR, argEnv, Nat.reduceAdd, Nat.reduceSub, Nat.reduceLT, Nat.reduceLeDiff, Nat.reduceEqDiff, reduceIte, RM, hz5, hn5, hw0, hlt0]
   simp [headW, heapW, envW, blkLt, D.ltL, D.lt, look, hget, Sx.hset, shD, inD]
  ·refine call_of_pure' p2 (by simp [D.ltL, D.lt]) (by simp [D.ltL, D.lt]) ?_
   simp only [RT, FS, ↓RE, okR, argEnv, Nat.reduceAdd, Nat.reduceSub, Nat.reduceLT, Nat.reduceLeDiff, Nat.reduceEqDiff, reduceIte, RM]
   refine awp_rest (T := [(4, [(4, false, true, [(1, 3), (0, 3)]), (2, false, false, [])]), (11, [(16, false, false, [])])]) e81_ok (by kernel_rfl) (by kernel_rfl) ?_
   simp only [RT, FS, ↓RE, okR, argEnv, Nat.reduceAdd, Nat.reduceSub, Nat.reduceLT, Nat.reduceLeDiff, Nat.reduceEqDiff, reduceIte, RM, hz2, hz, s1, s2, Bool.not_true]
   simp [headW, heapW, envW, blkLt, D.ltL, D.lt, look, hget, Sx.hset, shD, inD]
 rintro _ _
 clear p1 p2 hG2 oM2 oSn hA2
 obtain ⟨k, rfl⟩ : ∃ k : Nat, wh = (k : Int) := ⟨wh.toNat, by simp at q2; omega⟩
 have hk : k < rl.length := by simp at q3; omega
 have hrl8 : rl.length ≤ 1000 := hrl8
 obtain ⟨⟨rc, rr, ro⟩, hr⟩ : ∃ r, rl[k]? = some r := ⟨rl[k], by simp [hk]⟩
 obtain ⟨u, v, g, x, y, h0, U, V, X, Y, p3, lu, lv, zu, zv, p4, hxy, s1, s2, hr0, hr12⟩ := hWide k _ hr
 dsimp only at p3 p4 hr0 hr12
 have rix := rlD_ix hr
 dsimp only at rix
 have rn := fun h nid => rl_nils rl h nid hrl8
 have oix := fun h (hb : hget h 2 = some (.arr 74 3 (rl.map enRl.d))) => orl_ix (n := rl.length) (i := k) hb (by simp) hk
 have ost := fun h nid (hb : hget h 2 = some (.arr 74 3 (rl.map enRl.d))) => orl_store1 (n := rl.length) (i := k) (c := rc) (r := rr) (s := spD ro) hb (by simp) (by rw [List.getElem?_map, hr]; rfl) nid (min 12 (rr + 1))
 have wr := wrap_i64 (z := rr + 1) (by omega) (by omega)
 have oat := fun h (hb : hget h 2 = some (.arr 74 3 (rl.map enRl.d))) => own_at (n := rl.length) (i := k) hb (by simp) hk 1 0
 simp only [Nat.zero_add] at oat
 obtain ⟨rl2, hrl2⟩ : ∃ rl2, rl2 = rl.set k ⟨rc, min 12 (rr + 1), ro⟩ := ⟨_, rfl⟩
 have hset2 : (rl.map enRl.d).set k [.int .i64 rc, .int .i64 (min 12 (rr + 1)), spD ro] = rl2.map enRl.d := by rw [hrl2, List.map_set]; rfl
 have hl2 : rl2.length = rl.length := by rw [hrl2, List.length_set]
 simp only [hset2] at ost
 rw [← hrl2] at p4
 clear hset2 hrl2
 have lx : ∀ j, D.lt j x = true := by rcases hxy with ⟨_, rfl, _⟩ | ⟨_, rfl, _⟩ <;> intro j <;> simp [D.lt]
 have ly : ∀ j, D.lt j y = true := by rcases hxy with ⟨_, _, rfl⟩ | ⟨_, _, rfl, _⟩ <;> intro j <;> simp [D.lt]
 refine awp_peel (T := [(4, [(4, false, true, [(1, 3), (0, 3)]), (2, false, false, [])]), (11, [(16, false, false, [])])]) e81_ok (by kernel_rfl) (by kernel_rfl) ?_
 simp only [RT, FS, ↓RE, okR, argEnv, Nat.reduceAdd, Nat.reduceSub, Nat.reduceLT, Nat.reduceLeDiff, Nat.reduceEqDiff, reduceIte, RM]
 refine awp_peel (T := [(4, [(4, false, true, [(1, 3), (0, 3)]), (2, false, false, [])]), (11, [(16, false, false, [])])]) e81_ok (by kernel_rfl) (by kernel_rfl) ?_
 simp only [RT, FS, ↓RE, okR, argEnv, Nat.reduceAdd, Nat.reduceSub, Nat.reduceLT, Nat.reduceLeDiff, Nat.reduceEqDiff, reduceIte, RM, rn, cells_osl, cur_osl, curC_arr, decide_true, List.length_map]
 refine awp_peel (T := [(4, [(4, false, true, [(1, 3), (0, 3)]), (2, false, false, [])]), (11, [(16, false, false, [])])]) e81_ok (by kernel_rfl) (by kernel_rfl) ?_
 simp only [RT, FS, ↓RE, okR, argEnv, Nat.reduceAdd, Nat.reduceSub, Nat.reduceLT, Nat.reduceLeDiff, Nat.reduceEqDiff, reduceIte, RM, rix, oix, oat, ost, wr, cells_osl, cur_osl, curC_arr, decide_true, List.length_map]
 refine awp_imp (imp_thaw 2 (.weak (weak_of (e := [(2, .int .i64 now), (5, .ptr 0 0), (18, .ptr 1 0)]) (h := [(1, .box [.int .i64 sw, .int .i64 sd, shD sh, rlD rl2, lkD lk, .int .i64 cell, .int .i64 mi, .int .i64 ev, .int .i64 en, inD af]), (0, .box [.int .i64 sw, .int .i64 sd, shD sh, rlD rl, lkD lk, .int .i64 cell, .int .i64 mi, .int .i64 ev, .int .i64 en, inD af])]) (nid := 3) (n := 278) ?_))) ?_
 ·simp [headW, heapW, envW, blkLt, D.ltL, D.lt, look, hget, frzHH, frzBlk, herase, fz_int, fz_ref, fz_ptr, fz_bool, fz_sl, fz_nils, fz_osl, fzC_some, fzC_arr, fzP_some, shD, inD, hl2]
 refine awp_peel (T := [(4, [(4, false, true, [(1, 3), (0, 3)]), (2, false, false, [])]), (11, [(16, false, false, [])])]) e81_ok (by kernel_rfl) (by kernel_rfl) ?_
 simp only [RT, FS, ↓RE, okR, argEnv, Nat.reduceAdd, Nat.reduceSub, Nat.reduceLT, Nat.reduceLeDiff, Nat.reduceEqDiff, reduceIte, RM]
 refine call_of_pure' p3 (by simp [D.ltL, D.lt]) (by simp [D.ltL, D.lt, lu, lv]) ?_
 simp only [RT, FS, ↓RE, okR, argEnv, Nat.reduceAdd, Nat.reduceSub, Nat.reduceLT, Nat.reduceLeDiff, Nat.reduceEqDiff, reduceIte, RM]
 refine awp_peel (T := [(4, [(4, false, true, [(1, 3), (0, 3)]), (2, false, false, [])]), (11, [(16, false, false, [])])]) e81_ok (by kernel_rfl) (by kernel_rfl) ?_
 simp only [RT, FS, ↓RE, okR, argEnv, Nat.reduceAdd, Nat.reduceSub, Nat.reduceLT, Nat.reduceLeDiff, Nat.reduceEqDiff, reduceIte, RM]
 refine call_of_pure' p4 (by simp [D.ltL, D.lt]) (by simp [D.ltL, D.lt, lx, ly]) ?_
 simp only [RT, FS, ↓RE, okR, argEnv, Nat.reduceAdd, Nat.reduceSub, Nat.reduceLT, Nat.reduceLeDiff, Nat.reduceEqDiff, reduceIte, RM]
 refine awp_seqE (ι := Unit) (nid := 1) (n := 278) (fun _ => [(2, .int .i64 now), (5, .ptr 0 0)]) (fun _ => [(0, .box [.int .i64 sw, .int .i64 sd, shD sh, rlD rl, lkD lk, .int .i64 cell, .int .i64 mi, .int .i64 ev, .int .i64 en, inD af])]) (fun _ => True) ?_ ?_
 ·rcases hxy with ⟨rfl, rfl, rfl⟩ | ⟨rfl, rfl, rfl, rfl, rfl, rfl⟩
  ·refine awp_rest (T := [(4, [(4, false, true, [(1, 3), (0, 3)]), (2, false, false, [])]), (11, [(16, false, false, [])])]) e81_ok (by kernel_rfl) (by kernel_rfl) ?_
   simp only [RT, FS, ↓RE, okR, argEnv, Nat.reduceAdd, Nat.reduceSub, Nat.reduceLT, Nat.reduceLeDiff, Nat.reduceEqDiff, reduceIte, RM, hz5, hn5, hw0, hlt0]
   simp [headW, heapW, envW, blkLt, D.ltL, D.lt, look, hget, Sx.hset, shD, inD]
  ·refine awp_rest (T := [(4, [(4, false, true, [(1, 3), (0, 3)]), (2, false, false, [])]), (11, [(16, false, false, [])])]) e81_ok (by kernel_rfl) (by kernel_rfl) ?_
   simp only [RT, FS, ↓RE, okR, argEnv, Nat.reduceAdd, Nat.reduceSub, Nat.reduceLT, Nat.reduceLeDiff, Nat.reduceEqDiff, reduceIte, RM, hz2, hz, s1, s2, Bool.not_true]
   simp [headW, heapW, envW, blkLt, D.ltL, D.lt, look, hget, Sx.hset, shD, inD]
 rintro _ _
 clear p3 p4 hxy s1 s2 lu lv zu zv lx ly rix oix oat ost wr hr hl2
 clear x y u v U V X Y
 have p5 := Where_deaf (sw := sw) (sd := sd) (sh := sh) (rl := rl) (lk := lk) (cell := cell) (mi := mi) (ev := ev) (en := en) (af := af) hLd now
 rw [hDeaf] at p5
 have dl := dfL_len rl
 have dfull : dfL rl rl.length = rl.map nlR := by simp [dfL]
 have d0 : rl.map enRl.d = dfL rl 0 := by simp [dfL]
 refine awp_peel (T := [(4, [(4, false, true, [(1, 3), (0, 3)]), (2, false, false, [])]), (11, [(16, false, false, [])])]) e81_ok (by kernel_rfl) (by kernel_rfl) ?_
 simp only [RT, FS, ↓RE, okR, argEnv, Nat.reduceAdd, Nat.reduceSub, Nat.reduceLT, Nat.reduceLeDiff, Nat.reduceEqDiff, reduceIte, RM]
 refine awp_peel (T := [(4, [(4, false, true, [(1, 3), (0, 3)]), (2, false, false, [])]), (11, [(16, false, false, [])])]) e81_ok (by kernel_rfl) (by kernel_rfl) ?_
 simp only [RT, FS, ↓RE, okR, argEnv, Nat.reduceAdd, Nat.reduceSub, Nat.reduceLT, Nat.reduceLeDiff, Nat.reduceEqDiff, reduceIte, RM, rn, cells_osl, cur_osl, curC_arr, decide_true, List.length_map]
 rw [d0]
 refine awp_seqE (ι := Unit) (nid := 3) (n := 278) (fun _ => [(2, .int .i64 now), (5, .ptr 0 0), (25, .ptr 1 0)]) (fun _ => [(2, .arr 74 3 (dfL rl rl.length)), (1, .box [.int .i64 sw, .int .i64 sd, shD sh, .osl 2 rl.length, lkD lk, .int .i64 cell, .int .i64 mi, .int .i64 ev, .int .i64 en, inD af]), (0, .box [.int .i64 sw, .int .i64 sd, shD sh, rlD rl, lkD lk, .int .i64 cell, .int .i64 mi, .int .i64 ev, .int .i64 en, inD af])]) (fun _ => True) ?_ ?_
 rotate_left
 ·rintro _ _
  rw [dfull]
  clear d0 dl rn
  refine awp_imp (imp_thaw 2 (.weak (weak_of (e := [(2, .int .i64 now), (5, .ptr 0 0), (25, .ptr 1 0)]) (h := [(1, .box [.int .i64 sw, .int .i64 sd, shD sh, .sl (rl.map nlR), lkD lk, .int .i64 cell, .int .i64 mi, .int .i64 ev, .int .i64 en, inD af]), (0, .box [.int .i64 sw, .int .i64 sd, shD sh, rlD rl, lkD lk, .int .i64 cell, .int .i64 mi, .int .i64 ev, .int .i64 en, inD af])]) (nid := 3) (n := 278) ?_))) ?_
  ·simp [headW, heapW, envW, blkLt, D.ltL, D.lt, look, hget, frzHH, frzBlk, herase, fz_int, fz_ref, fz_ptr, fz_bool, fz_sl, fz_nils, fz_osl, fzC_some, fzC_arr, fzP_some, shD, inD, List.length_map]
  refine awp_peel (T := [(4, [(4, false, true, [(1, 3), (0, 3)]), (2, false, false, [])]), (11, [(16, false, false, [])])]) e81_ok (by kernel_rfl) (by kernel_rfl) ?_
  simp only [RT, FS, ↓RE, okR, argEnv, Nat.reduceAdd, Nat.reduceSub, Nat.reduceLT, Nat.reduceLeDiff, Nat.reduceEqDiff, reduceIte, RM]
  refine call_of_pure' p5 (by simp [D.ltL, D.lt]) (by simp [D.ltL, D.lt]) ?_
  simp only [RT, FS, ↓RE, okR, argEnv, Nat.reduceAdd, Nat.reduceSub, Nat.reduceLT, Nat.reduceLeDiff, Nat.reduceEqDiff, reduceIte, RM]
  have wN : IntKind.i64.wrap (now - mi) = (N : Int) := by rw [wrap_i64 (by omega) (by omega)]; omega
  have wN1 := wrap_i64 (z := (N : Int) - 1) (by omega) (by omega)
  have hmm : ((min (N - 1) en.toNat : Nat) : Int) = min (max 0 ((N : Int) - 1)) en := by omega
  rw [hmm] at oR2
  clear hmm p5 dfull hDeaf hWide
  by_cases q5 : en < (N : Int)
  ·have q6 : N ≠ 0 := by omega
   rw [if_pos q5, if_neg q6]
   replace q6 : ((N : Int) == 0) = false := by simp; omega
   replace q5 : (en < (N : Int)) = True := eq_true q5
   refine awp_peel (T := [(4, [(4, false, true, [(1, 3), (0, 3)]), (2, false, false, [])]), (11, [(16, false, false, [])])]) e81_ok (by kernel_rfl) (by kernel_rfl) ?_
   simp only [RT, FS, ↓RE, okR, argEnv, Nat.reduceAdd, Nat.reduceSub, Nat.reduceLT, Nat.reduceLeDiff, Nat.reduceEqDiff, reduceIte, RM, hz]
   refine awp_peel (T := [(4, [(4, false, true, [(1, 3), (0, 3)]), (2, false, false, [])]), (11, [(16, false, false, [])])]) e81_ok (by kernel_rfl) (by kernel_rfl) ?_
   simp only [RT, FS, ↓RE, okR, argEnv, Nat.reduceAdd, Nat.reduceSub, Nat.reduceLT, Nat.reduceLeDiff, Nat.reduceEqDiff, reduceIte, RM, wN]
   refine awp_peel (T := [(4, [(4, false, true, [(1, 3), (0, 3)]), (2, false, false, [])]), (11, [(16, false, false, [])])]) e81_ok (by kernel_rfl) (by kernel_rfl) ?_
   simp only [RT, FS, ↓RE, okR, argEnv, Nat.reduceAdd, Nat.reduceSub, Nat.reduceLT, Nat.reduceLeDiff, Nat.reduceEqDiff, reduceIte, RM, oR1]
   refine awp_peel (T := [(4, [(4, false, true, [(1, 3), (0, 3)]), (2, false, false, [])]), (11, [(16, false, false, [])])]) e81_ok (by kernel_rfl) (by kernel_rfl) ?_
   simp only [RT, FS, ↓RE, okR, argEnv, Nat.reduceAdd, Nat.reduceSub, Nat.reduceLT, Nat.reduceLeDiff, Nat.reduceEqDiff, reduceIte, RM, wN1, oR2]
   refine awp_peel (T := [(4, [(4, false, true, [(1, 3), (0, 3)]), (2, false, false, [])]), (11, [(16, false, false, [])])]) e81_ok (by kernel_rfl) (by kernel_rfl) ?_
   simp only [RT, FS, ↓RE, okR, argEnv, Nat.reduceAdd, Nat.reduceSub, Nat.reduceLT, Nat.reduceLeDiff, Nat.reduceEqDiff, reduceIte, RM, hz]
   refine awp_peel (T := [(4, [(4, false, true, [(1, 3), (0, 3)]), (2, false, false, [])]), (11, [(16, false, false, [])])]) e81_ok (by kernel_rfl) (by kernel_rfl) ?_
   simp only [RT, FS, ↓RE, okR, argEnv, Nat.reduceAdd, Nat.reduceSub, Nat.reduceLT, Nat.reduceLeDiff, Nat.reduceEqDiff, reduceIte, RM, q5, decide_true]
   refine awp_peel (T := [(4, [(4, false, true, [(1, 3), (0, 3)]), (2, false, false, [])]), (11, [(16, false, false, [])])]) e81_ok (by kernel_rfl) (by kernel_rfl) ?_
   simp only [RT, FS, ↓RE, okR, argEnv, Nat.reduceAdd, Nat.reduceSub, Nat.reduceLT, Nat.reduceLeDiff, Nat.reduceEqDiff, reduceIte, RM, q6]
   refine awp_rest (T := [(4, [(4, false, true, [(1, 3), (0, 3)]), (2, false, false, [])]), (11, [(16, false, false, [])])]) e81_ok (by kernel_rfl) (by kernel_rfl) ?_
   simp only [RT, FS, ↓RE, okR, argEnv, Nat.reduceAdd, Nat.reduceSub, Nat.reduceLT, Nat.reduceLeDiff, Nat.reduceEqDiff, reduceIte, RM]
   refine call_of_pure same_sn rfl ?_
   simp only [RT, FS, ↓RE, okR, argEnv, Nat.reduceAdd, Nat.reduceSub, Nat.reduceLT, Nat.reduceLeDiff, Nat.reduceEqDiff, reduceIte, RM]
   refine call_of_pure (same_self C2 hbC2) rfl ?_
   simp only [RT, FS, ↓RE, okR, argEnv, Nat.reduceAdd, Nat.reduceSub, Nat.reduceLT, Nat.reduceLeDiff, Nat.reduceEqDiff, reduceIte, RM, o2]
  rw [if_neg q5]
  replace q5 : (en < (N : Int)) = False := eq_false q5
  by_cases q6 : N = 0
  ·rw [if_pos q6]
   replace q6 : ((N : Int) == 0) = true := by rw [q6]; rfl
   refine awp_peel (T := [(4, [(4, false, true, [(1, 3), (0, 3)]), (2, false, false, [])]), (11, [(16, false, false, [])])]) e81_ok (by kernel_rfl) (by kernel_rfl) ?_
   simp only [RT, FS, ↓RE, okR, argEnv, Nat.reduceAdd, Nat.reduceSub, Nat.reduceLT, Nat.reduceLeDiff, Nat.reduceEqDiff, reduceIte, RM, hz]
   refine awp_peel (T := [(4, [(4, false, true, [(1, 3), (0, 3)]), (2, false, false, [])]), (11, [(16, false, false, [])])]) e81_ok (by kernel_rfl) (by kernel_rfl) ?_
   simp only [RT, FS, ↓RE, okR, argEnv, Nat.reduceAdd, Nat.reduceSub, Nat.reduceLT, Nat.reduceLeDiff, Nat.reduceEqDiff, reduceIte, RM, wN]
   refine awp_peel (T := [(4, [(4, false, true, [(1, 3), (0, 3)]), (2, false, false, [])]), (11, [(16, false, false, [])])]) e81_ok (by kernel_rfl) (by kernel_rfl) ?_
   simp only [RT, FS, ↓RE, okR, argEnv, Nat.reduceAdd, Nat.reduceSub, Nat.reduceLT, Nat.reduceLeDiff, Nat.reduceEqDiff, reduceIte, RM, oR1]
   refine awp_peel (T := [(4, [(4, false, true, [(1, 3), (0, 3)]), (2, false, false, [])]), (11, [(16, false, false, [])])]) e81_ok (by kernel_rfl) (by kernel_rfl) ?_
   simp only [RT, FS, ↓RE, okR, argEnv, Nat.reduceAdd, Nat.reduceSub, Nat.reduceLT, Nat.reduceLeDiff, Nat.reduceEqDiff, reduceIte, RM, wN1, oR2]
   refine awp_peel (T := [(4, [(4, false, true, [(1, 3), (0, 3)]), (2, false, false, [])]), (11, [(16, false, false, [])])]) e81_ok (by kernel_rfl) (by kernel_rfl) ?_
   simp only [RT, FS, ↓RE, okR, argEnv, Nat.reduceAdd, Nat.reduceSub, Nat.reduceLT, Nat.reduceLeDiff, Nat.reduceEqDiff, reduceIte, RM, hz]
   refine awp_peel (T := [(4, [(4, false, true, [(1, 3), (0, 3)]), (2, false, false, [])]), (11, [(16, false, false, [])])]) e81_ok (by kernel_rfl) (by kernel_rfl) ?_
   simp only [RT, FS, ↓RE, okR, argEnv, Nat.reduceAdd, Nat.reduceSub, Nat.reduceLT, Nat.reduceLeDiff, Nat.reduceEqDiff, reduceIte, RM, q5, decide_false]
   refine awp_peel (T := [(4, [(4, false, true, [(1, 3), (0, 3)]), (2, false, false, [])]), (11, [(16, false, false, [])])]) e81_ok (by kernel_rfl) (by kernel_rfl) ?_
   simp only [RT, FS, ↓RE, okR, argEnv, Nat.reduceAdd, Nat.reduceSub, Nat.reduceLT, Nat.reduceLeDiff, Nat.reduceEqDiff, reduceIte, RM, q6]
   refine awp_rest (T := [(4, [(4, false, true, [(1, 3), (0, 3)]), (2, false, false, [])]), (11, [(16, false, false, [])])]) e81_ok (by kernel_rfl) (by kernel_rfl) ?_
   simp only [RT, FS, ↓RE, okR, argEnv, Nat.reduceAdd, Nat.reduceSub, Nat.reduceLT, Nat.reduceLeDiff, Nat.reduceEqDiff, reduceIte, RM]
   refine call_of_pure (same_self C1 hbC1) rfl ?_
   simp only [RT, FS, ↓RE, okR, argEnv, Nat.reduceAdd, Nat.reduceSub, Nat.reduceLT, Nat.reduceLeDiff, Nat.reduceEqDiff, reduceIte, RM]
   refine call_of_pure same_sn rfl ?_
   simp only [RT, FS, ↓RE, okR, argEnv, Nat.reduceAdd, Nat.reduceSub, Nat.reduceLT, Nat.reduceLeDiff, Nat.reduceEqDiff, reduceIte, RM, o2]
  ·rw [if_neg q6]
   replace q6 : ((N : Int) == 0) = false := by simp; omega
   refine awp_peel (T := [(4, [(4, false, true, [(1, 3), (0, 3)]), (2, false, false, [])]), (11, [(16, false, false, [])])]) e81_ok (by kernel_rfl) (by kernel_rfl) ?_
   simp only [RT, FS, ↓RE, okR, argEnv, Nat.reduceAdd, Nat.reduceSub, Nat.reduceLT, Nat.reduceLeDiff, Nat.reduceEqDiff, reduceIte, RM, hz]
   refine awp_peel (T := [(4, [(4, false, true, [(1, 3), (0, 3)]), (2, false, false, [])]), (11, [(16, false, false, [])])]) e81_ok (by kernel_rfl) (by kernel_rfl) ?_
   simp only [RT, FS, ↓RE, okR, argEnv, Nat.reduceAdd, Nat.reduceSub, Nat.reduceLT, Nat.reduceLeDiff, Nat.reduceEqDiff, reduceIte, RM, wN]
   refine awp_peel (T := [(4, [(4, false, true, [(1, 3), (0, 3)]), (2, false, false, [])]), (11, [(16, false, false, [])])]) e81_ok (by kernel_rfl) (by kernel_rfl) ?_
   simp only [RT, FS, ↓RE, okR, argEnv, Nat.reduceAdd, Nat.reduceSub, Nat.reduceLT, Nat.reduceLeDiff, Nat.reduceEqDiff, reduceIte, RM, oR1]
   refine awp_peel (T := [(4, [(4, false, true, [(1, 3), (0, 3)]), (2, false, false, [])]), (11, [(16, false, false, [])])]) e81_ok (by kernel_rfl) (by kernel_rfl) ?_
   simp only [RT, FS, ↓RE, okR, argEnv, Nat.reduceAdd, Nat.reduceSub, Nat.reduceLT, Nat.reduceLeDiff, Nat.reduceEqDiff, reduceIte, RM, wN1, oR2]
   refine awp_peel (T := [(4, [(4, false, true, [(1, 3), (0, 3)]), (2, false, false, [])]), (11, [(16, false, false, [])])]) e81_ok (by kernel_rfl) (by kernel_rfl) ?_
   simp only [RT, FS, ↓RE, okR, argEnv, Nat.reduceAdd, Nat.reduceSub, Nat.reduceLT, Nat.reduceLeDiff, Nat.reduceEqDiff, reduceIte, RM, hz]
   refine awp_peel (T := [(4, [(4, false, true, [(1, 3), (0, 3)]), (2, false, false, [])]), (11, [(16, false, false, [])])]) e81_ok (by kernel_rfl) (by kernel_rfl) ?_
   simp only [RT, FS, ↓RE, okR, argEnv, Nat.reduceAdd, Nat.reduceSub, Nat.reduceLT, Nat.reduceLeDiff, Nat.reduceEqDiff, reduceIte, RM, q5, decide_false]
   refine awp_peel (T := [(4, [(4, false, true, [(1, 3), (0, 3)]), (2, false, false, [])]), (11, [(16, false, false, [])])]) e81_ok (by kernel_rfl) (by kernel_rfl) ?_
   simp only [RT, FS, ↓RE, okR, argEnv, Nat.reduceAdd, Nat.reduceSub, Nat.reduceLT, Nat.reduceLeDiff, Nat.reduceEqDiff, reduceIte, RM, q6]
   refine awp_rest (T := [(4, [(4, false, true, [(1, 3), (0, 3)]), (2, false, false, [])]), (11, [(16, false, false, [])])]) e81_ok (by kernel_rfl) (by kernel_rfl) ?_
   simp only [RT, FS, ↓RE, okR, argEnv, Nat.reduceAdd, Nat.reduceSub, Nat.reduceLT, Nat.reduceLeDiff, Nat.reduceEqDiff, reduceIte, RM]
   refine call_of_pure (same_self C1 hbC1) rfl ?_
   simp only [RT, FS, ↓RE, okR, argEnv, Nat.reduceAdd, Nat.reduceSub, Nat.reduceLT, Nat.reduceLeDiff, Nat.reduceEqDiff, reduceIte, RM]
   refine call_of_pure (same_self C2 hbC2) rfl ?_
   simp only [RT, FS, ↓RE, okR, argEnv, Nat.reduceAdd, Nat.reduceSub, Nat.reduceLT, Nat.reduceLeDiff, Nat.reduceEqDiff, reduceIte, RM, o2]
 refine awp_peel (T := [(4, [(4, false, true, [(1, 3), (0, 3)]), (2, false, false, [])]), (11, [(16, false, false, [])])]) e81_ok (by kernel_rfl) (by kernel_rfl) ?_
 simp only [RT, FS, ↓RE, okR, argEnv, Nat.reduceAdd, Nat.reduceSub, Nat.reduceLT, Nat.reduceLeDiff, Nat.reduceEqDiff, reduceIte, RM]
 refine awp_block (awp_loopH (ι := Nat) (fun i => [(2, .int .i64 now), (5, .ptr 0 0), (25, .ptr 1 0), (26, .int .i64 (i : Int))]) (fun i => [(2, .arr 74 3 (dfL rl i)), (1, .box [.int .i64 sw, .int .i64 sd, shD sh, .osl 2 rl.length, lkD lk, .int .i64 cell, .int .i64 mi, .int .i64 ev, .int .i64 en, inD af]), (0, .box [.int .i64 sw, .int .i64 sd, shD sh, rlD rl, lkD lk, .int .i64 cell, .int .i64 mi, .int .i64 ev, .int .i64 en, inD af])]) 3 (fun i => i ≤ rl.length) (fun i => rl.length - i) 0 (Nat.zero_le _) ?_ ?_)
 ·simp [headW, heapW, envW, blkLt, D.ltL, D.lt, look, hget, Sx.hset, shD, inD]
 intro i hil
 have oln := fun h (hb : hget h 2 = some (.arr 74 3 (dfL rl i))) => orl_len (n := rl.length) hb (dl i)
 refine awp_peel (T := [(4, [(4, false, true, [(1, 3), (0, 3)]), (2, false, false, [])]), (11, [(16, false, false, [])])]) e81_ok (by kernel_rfl) (by kernel_rfl) ?_
 rcases Nat.lt_or_ge i rl.length with hlt | hge
 rotate_left
 ·have hq := nat_lt_false hge
  simp only [RT, FS, ↓RE, okR, argEnv, Nat.reduceAdd, Nat.reduceSub, Nat.reduceLT, Nat.reduceLeDiff, Nat.reduceEqDiff, reduceIte, RM, oln, hq, decide_false]
  have hie : i = rl.length := by omega
  subst hie
  simp [headW, heapW, envW, blkLt, D.ltL, D.lt, look, hget, Sx.hset, shD, inD]
 have hq := nat_lt_true hlt
 simp only [RT, FS, ↓RE, okR, argEnv, Nat.reduceAdd, Nat.reduceSub, Nat.reduceLT, Nat.reduceLeDiff, Nat.reduceEqDiff, reduceIte, RM, oln, hq, decide_true]
 refine awp_seqE (ι := Unit) (nid := 3) (n := 278) (fun _ => [(2, .int .i64 now), (5, .ptr 0 0), (25, .ptr 1 0), (26, .int .i64 (i : Int))]) (fun _ => [(2, .arr 74 3 (dfL rl (i + 1))), (1, .box [.int .i64 sw, .int .i64 sd, shD sh, .osl 2 rl.length, lkD lk, .int .i64 cell, .int .i64 mi, .int .i64 ev, .int .i64 en, inD af]), (0, .box [.int .i64 sw, .int .i64 sd, shD sh, rlD rl, lkD lk, .int .i64 cell, .int .i64 mi, .int .i64 ev, .int .i64 en, inD af])]) (fun _ => True) ?_ ?_
 rotate_left
 ·rintro _ _
  have wi := wrap_i64 (z := (i : Int) + 1) (by omega) (by omega)
  refine awp_rest (T := [(4, [(4, false, true, [(1, 3), (0, 3)]), (2, false, false, [])]), (11, [(16, false, false, [])])]) e81_ok (by kernel_rfl) (by kernel_rfl) ?_
  simp only [RT, FS, ↓RE, okR, argEnv, Nat.reduceAdd, Nat.reduceSub, Nat.reduceLT, Nat.reduceLeDiff, Nat.reduceEqDiff, reduceIte, RM, wi]
  exact ⟨i + 1, by omega, by omega, by simp [headW, heapW, envW, blkLt, D.ltL, D.lt, look, hget, Sx.hset, shD, inD]⟩
 refine awp_block ?_
 obtain ⟨r, hr⟩ : ∃ r, rl[i]? = some r := ⟨rl[i], by simp [hlt]⟩
 obtain ⟨hgt, hst⟩ := dfL_get hr
 have oix := fun h (hb : hget h 2 = some (.arr 74 3 (dfL rl i))) => orl_ix (n := rl.length) (i := i) hb (dl i) hlt
 have oat := fun h (hb : hget h 2 = some (.arr 74 3 (dfL rl i))) => own_at (n := rl.length) (i := i) hb (dl i) hlt 2 0
 simp only [Nat.zero_add] at oat
 have ost := fun h nid (hb : hget h 2 = some (.arr 74 3 (dfL rl i))) => orl_store2 (n := rl.length) (i := i) hb (dl i) hgt nid
 unfold nlR at hst
 simp only [hst] at ost
 refine awp_rest (T := [(4, [(4, false, true, [(1, 3), (0, 3)]), (2, false, false, [])]), (11, [(16, false, false, [])])]) e81_ok (by kernel_rfl) (by kernel_rfl) ?_
 simp only [RT, FS, ↓RE, okR, argEnv, Nat.reduceAdd, Nat.reduceSub, Nat.reduceLT, Nat.reduceLeDiff, Nat.reduceEqDiff, reduceIte, RM, oix, oat, ost]
 simp [headW, heapW, envW, blkLt, D.ltL, D.lt, look, hget, Sx.hset, shD, inD]
theorem watchMore_pure : ∀ Ds, TyL Try.prog Try.f10.params.toList Ds → Pure Try.prog 10 Ds (.bool true) := by
 intro Ds h
 rw [Try.params10] at h
 match Ds, h with
 | [_, _, _, _, _], ⟨⟨n, _, h1, e1⟩, ⟨n2, _, h2, e2⟩, ⟨n3, _, h3, e3⟩, ⟨n4, _, h4, e4⟩, ⟨n5, _, h5, e5⟩, _⟩ =>
  rw [Try.underlying31] at e1
  rw [Fz.und_45] at e2
  rw [Fz.und_3] at e3 e5
  rw [Try.underlying47] at e4
  dsimp only at e1 e2 e3 e4 e5
  obtain ⟨w, rfl, hw⟩ := tyWatch h1
  obtain ⟨l, rfl, hl⟩ := tyMsgs h2
  obtain ⟨now, rfl, _⟩ := tyInt Fz.und_3 h3
  obtain ⟨m, rfl⟩ := tyMsg h4
  obtain ⟨wh, rfl, _⟩ := tyInt Fz.und_3 h5
  subst e1; cases e2; cases e3; subst e4; cases e5
  exact watchMore_at w hw l hl now m wh
end Go.Sx
