/- Own work: contracts of functions, used in the proof of a law. -/
import Derived.Test.YtjhoplbdpdbgaaaGreatDoorSxCx
set_option linter.unusedVariables false
set_option linter.unusedSimpArgs false
namespace Go.Sx
open Go.Proofs
set_option maxRecDepth 10000

theorem win_sub {s : Se} {gd : D} {n : Nd} {p : Sp} (h : ∀ t : Int, 0 ≤ t ∧ t ≤ 1440 → LkOk ⟨s, gd, p, n, t⟩) (hso : soundW s.w = true) {a : Int × Int} (ha : a ∈ wsure s gd n p) :
    inS (wmay s gd n p) a.1 = true ∧ inS (wmay s gd n p) a.2 = true := by
  obtain ⟨h1, _, h3⟩ := wsure_inv s gd n p
  obtain ⟨_, m3⟩ := wmay_inv s gd n p
  have hb := apart_all h1 a ha
  have key : ∀ x : Int, a.1 ≤ x → x ≤ a.2 → inS (wmay s gd n p) x = true := fun x hx1 hx2 => by
    obtain ⟨k, rfl⟩ : ∃ k : Nat, x = (k : Int) := ⟨x.toNat, by omega⟩
    have q : inS (wsure s gd n p) (k : Int) = true := by
      simp only [inS, List.any_eq_true]
      exact ⟨a, ha, by simp [hx1, hx2]⟩
    rw [h3] at q
    rw [m3]
    simp only [Bool.and_eq_true] at q ⊢
    exact ⟨q.1, surely_poss _ (h _ (by omega)) hso q.2⟩
  exact ⟨key _ (Int.le_refl _) hb.2.1, key _ hb.2.1 (Int.le_refl _)⟩
theorem win_at {s : Se} {gd : D} {n : Nd} {p : Sp} {t : Int} (ht : 0 ≤ t ∧ t ≤ 1440) : inS (wsure s gd n p) t = surelyB ⟨s, gd, p, n, t⟩ ∧ inS (wmay s gd n p) t = possB ⟨s, gd, p, n, t⟩ := by
  obtain ⟨_, _, h3⟩ := wsure_inv s gd n p
  obtain ⟨_, m3⟩ := wmay_inv s gd n p
  obtain ⟨k, rfl⟩ : ∃ k : Nat, t = (k : Int) := ⟨t.toNat, by omega⟩
  rw [h3, m3]
  have : decide (k < 1441) = true := by simp; omega
  rw [this, Bool.true_and, Bool.true_and]
  exact ⟨rfl, rfl⟩

set_option maxHeartbeats 8000000 in
theorem waterSame_at (s : Se) (gd : D) (h : SeL s gd) (p : Sp) (n : Nd) (t : Int) : Pure Tryz.prog 8 [.agg (s.c gd), .agg p.c, .agg n.c, .int .i64 t] (.bool true) := by
  have vg := fun hp => En.view h.gd hp
  have lg := En.lt h.gd
  have cg := fun hp => En.cur h.gd hp
  have h0 := gTn_eq h
  have h1 := gSe_eq h
  have hz := gBz_eq h
  have h3 := gNd_eq n
  have hSu := gSu_eq (l := ⟨s, gd, p, n, t⟩) h
  have hPo := gPo_eq (l := ⟨s, gd, p, n, t⟩) h
  have hDe := gDe_eq (l := ⟨s, gd, p, n, t⟩) h n.run
  simp only [Se.c, Se.cr, Wx.c, gaC] at h0 h1 hz hSu hPo hDe
  refine pure_of_wc (rs := [.tmp 8]) (m := 261) [] o54_ok (by kernel_rfl) Tryz.func8 rfl (by kernel_rfl) rfl rfl (by kernel_rfl) ?_
  cases t0 : tinyB s
  · simp only [FS, ↓RE, okR, argEnv, Nat.reduceAdd, Nat.reduceSub, Nat.reduceLT, Nat.reduceLeDiff, Nat.reduceEqDiff, reduceIte, vg, lg, cg, h0, t0, gTrue_eq]
  cases hs : okSe s
  · simp only [FS, ↓RE, okR, argEnv, Nat.reduceAdd, Nat.reduceSub, Nat.reduceLT, Nat.reduceLeDiff, Nat.reduceEqDiff, reduceIte, vg, lg, cg, h0, t0, gTrue_eq, h1, hs]
  cases z0 : breezeB s
  · simp only [FS, ↓RE, okR, argEnv, Nat.reduceAdd, Nat.reduceSub, Nat.reduceLT, Nat.reduceLeDiff, Nat.reduceEqDiff, reduceIte, vg, lg, cg, h0, t0, gTrue_eq, h1, hs, hz, z0]
  have hsw : orc decWx okWx (fun w => .bool (soundW w)) [.agg (s.w.c [])] = some (.bool (soundW s.w)) := orc_eq (decWx_eq s.w) (okSe_wx hs)
  simp only [Wx.c, gaC] at hsw
  cases hso : soundW s.w
  · simp only [FS, ↓RE, okR, argEnv, Nat.reduceAdd, Nat.reduceSub, Nat.reduceLT, Nat.reduceLeDiff, Nat.reduceEqDiff, reduceIte, vg, lg, cg, h0, t0, gTrue_eq, h1, hs, hz, z0, hsw, hso]
  have h2 := gSp_eq h hs p
  simp only [Se.c, Se.cr, Wx.c, gaC] at h2
  cases hp : okSp s p
  · simp only [FS, ↓RE, okR, argEnv, Nat.reduceAdd, Nat.reduceSub, Nat.reduceLT, Nat.reduceLeDiff, Nat.reduceEqDiff, reduceIte, vg, lg, cg, h0, t0, gTrue_eq, h1, hs, hz, z0, hsw, hso, h2, hp]
  cases hn : okNd n
  · simp only [FS, ↓RE, okR, argEnv, Nat.reduceAdd, Nat.reduceSub, Nat.reduceLT, Nat.reduceLeDiff, Nat.reduceEqDiff, reduceIte, vg, lg, cg, h0, t0, gTrue_eq, h1, hs, hz, z0, hsw, hso, h2, hp, h3, hn]
  by_cases t1 : t < 0
  · simp only [FS, ↓RE, okR, argEnv, Nat.reduceAdd, Nat.reduceSub, Nat.reduceLT, Nat.reduceLeDiff, Nat.reduceEqDiff, reduceIte, vg, lg, cg, h0, t0, gTrue_eq, h1, hs, hz, z0, hsw, hso, h2, hp, h3, hn, t1, decide_true]
  by_cases t2 : 1440 < t
  · simp only [FS, ↓RE, okR, argEnv, Nat.reduceAdd, Nat.reduceSub, Nat.reduceLT, Nat.reduceLeDiff, Nat.reduceEqDiff, reduceIte, vg, lg, cg, h0, t0, gTrue_eq, h1, hs, hz, z0, hsw, hso, h2, hp, h3, hn, t1, t2, decide_true, decide_false]
  have ht : 0 ≤ t ∧ t ≤ 1440 := by omega
  have hk : ∀ t : Int, 0 ≤ t ∧ t ≤ 1440 → LkOk ⟨s, gd, p, n, t⟩ := fun t ht => ⟨h, hs, hp, hn, ht⟩
  have hT := minTail ⟨s, gd, p, n, t⟩ h hs hp (by simp [bIn]; omega)
  obtain ⟨hw1, hw2⟩ := win_at (s := s) (gd := gd) (n := n) (p := p) ht
  have hW : Pure Tryz.prog 34 [.agg (s.c gd), .agg p.c, .agg n.c] (.tup [.sl (spL (wsure s gd n p)), .sl (spL (wmay s gd n p)), .int .i64 0]) := by have := Windows_t s gd h p n; rw [win_ok hs hp hn hso] at this; exact this
  have hA1 := apart_t (wsure s gd n p) (wsure_len s gd n p) (wsure_inv s gd n p).1
  have hA2 := apart_t (wmay s gd n p) (wmay_len s gd n p) (wmay_inv s gd n p).1
  have hH1 := fun x => holds_t (wsure s gd n p) x (wsure_len s gd n p)
  have hH2 := fun x => holds_t (wmay s gd n p) x (wmay_len s gd n p)
  have hbn := fun x y => binB_ne (P := Tryz.prog) Fz.und_4 x y
  have hsl := fun hp => En.len (P := Tryz.prog) Fz.und_22 (En.sl_map (E := enS) (wsure s gd n p)) hp
  have hnr := okNd_run hn
  have hsub := fun a ha => win_sub (a := a) hk hso ha
  -- the ends
  have hfin : ∀ X : Int × Int, SureA ⟨s, gd, p, n, t⟩ = X → (X.2 = 0 ∧ surelyB ⟨s, gd, p, n, t⟩ = true) ∨ (X.2 = 7 ∧ surelyB ⟨s, gd, p, n, t⟩ = false) := fun X hX => by
    rcases hT with ⟨q, _⟩ | ⟨_, q, _⟩ | ⟨_, _, _, ⟨q1, q2⟩ | ⟨q1, q2, _⟩⟩
    · rw [hn] at q; cases q
    · rw [show soundW s.w = true from hso] at q; cases q
    · rw [q2] at hX; subst hX; exact .inr ⟨rfl, q1⟩
    · rw [q2] at hX; subst hX; exact .inl ⟨rfl, q1⟩
  have hPA : PossA ⟨s, gd, p, n, t⟩ = (possB ⟨s, gd, p, n, t⟩, 0) := by
    rcases hT with ⟨q, _⟩ | ⟨_, q, _⟩ | ⟨_, _, q, _⟩
    · rw [hn] at q; cases q
    · rw [show soundW s.w = true from hso] at q; cases q
    · exact q
  rw [hPA] at hPo
  obtain ⟨X, hX⟩ : ∃ X, SureA ⟨s, gd, p, n, t⟩ = X := ⟨_, rfl⟩
  have hXX := hfin X hX
  rw [hX] at hSu
  obtain ⟨x1, x2⟩ := X
  dsimp only at hXX hSu hPo
  -- what is said of the deepest draught
  have hDA : DeepA ⟨s, gd, p, n, t⟩ n.run = if deepB ⟨s, gd, p, n, t⟩ n.run < 0 then (0, 7) else (min (deepB ⟨s, gd, p, n, t⟩ n.run) 5000, 0) := by
    have q1 : bIn n.run 1 12 = true := by simp [bIn]; omega
    have q2 : bIn t 0 1440 = true := by simp [bIn]; omega
    simp [DeepA, hs, hp, q1, q2, (sound_north hso).1]
  have hbare := fun (d : Int) => gSu_eq (l := bareL s p n.run d t) (seL_bare h)
  simp only [Se.c, Se.cr, Wx.c, gaC, bareL, bareS, freeN, List.map_nil] at hbare
  simp only [FS, ↓RE, okR, argEnv, Nat.reduceAdd, Nat.reduceSub, Nat.reduceLT, Nat.reduceLeDiff, Nat.reduceEqDiff, reduceIte, vg, lg, cg, h0, t0, gTrue_eq, h1, hs, hz, z0, hsw, hso, h2, hp, h3, hn, t1, t2, decide_false]
  refine call_of_pure' hW (by simp [D.ltL, D.lt, lg]) (by simp [D.ltL, D.lt]) ?_
  have hb2 := hH2 t
  rw [hw2] at hb2
  have hb1 := hH1 t
  rw [hw1] at hb1
  have hfinal : ∀ K : Prop, K → K := fun _ k => k
  rcases hXX with ⟨rfl, hsb⟩ | ⟨rfl, hsb⟩
  all_goals
    rw [hsb] at hb1
    simp only [FS, ↓RE, okR, argEnv, Nat.reduceAdd, Nat.reduceSub, Nat.reduceLT, Nat.reduceLeDiff, Nat.reduceEqDiff, reduceIte, vg, lg, cg, ex_tup, hSu, hPo, bne_self_eq_false, Int.reduceBNe]
    refine call_of_pure' hA1 (by simp [D.ltL, D.lt]) (by simp [D.lt]) ?_
    simp only [FS, ↓RE, okR, argEnv, Nat.reduceAdd, Nat.reduceSub, Nat.reduceLT, Nat.reduceLeDiff, Nat.reduceEqDiff, reduceIte, vg, lg, cg]
    refine call_of_pure' hA2 (by simp [D.ltL, D.lt]) (by simp [D.lt]) ?_
    simp only [FS, ↓RE, okR, argEnv, Nat.reduceAdd, Nat.reduceSub, Nat.reduceLT, Nat.reduceLeDiff, Nat.reduceEqDiff, reduceIte, vg, lg, cg]
    refine call_of_pure' hb1 (by simp [D.ltL, D.lt]) (by simp [D.lt]) ?_
    simp only [FS, ↓RE, okR, argEnv, Nat.reduceAdd, Nat.reduceSub, Nat.reduceLT, Nat.reduceLeDiff, Nat.reduceEqDiff, reduceIte, vg, lg, cg, hbn, bne_self_eq_false, beq_self_eq_true, Int.reduceBEq]
    refine call_of_pure' hb2 (by simp [D.ltL, D.lt]) (by simp [D.lt]) ?_
    simp only [FS, ↓RE, okR, argEnv, Nat.reduceAdd, Nat.reduceSub, Nat.reduceLT, Nat.reduceLeDiff, Nat.reduceEqDiff, reduceIte, vg, lg, cg, hbn, beq_self_eq_true]
    refine loopV (ι := Nat) o54_ok [] (fun i => [(3, .int .i64 t), (4, .ptr 0 0), (5, .ptr 1 0), (6, .ptr 2 0), (9, .sl (spL (wsure s gd n p))), (10, .sl (spL (wmay s gd n p))), (16, .int .i64 (i : Int))])
      (fun i => [(2, .box n.c), (1, .box p.c), (0, .box (s.c gd))]) 3 (fun i => i ≤ (wsure s gd n p).length) (fun i => (wsure s gd n p).length - i) 0 (by kernel_rfl) (by kernel_rfl) (Nat.zero_le _) ?_ ?_
    · simp [headW, heapW, envW, blkLt, D.ltL, D.lt, look, hget, lg]
    intro i hi
    rcases Nat.lt_or_ge i (wsure s gd n p).length with hlt | hge
    · have hc : ((i : Int) < ((wsure s gd n p).length : Int)) = True := by simp [hlt]
      obtain ⟨⟨a, b⟩, hab⟩ : ∃ a, (wsure s gd n p)[i]? = some a := ⟨(wsure s gd n p)[i], by simp [hlt]⟩
      obtain ⟨u1, u2⟩ := hsub _ (List.mem_of_getElem? hab)
      have k1 := hH2 a
      have k2 := hH2 b
      dsimp only at u1 u2
      rw [u1] at k1
      rw [u2] at k2
      have hlw := wsure_len s gd n p
      have hix : ∀ hp, indexAddrD Tryz.prog hp 22 (.sl (spL (wsure s gd n p))) (.int .i64 (i : Int)) = some (.ref [.int .i64 a, .int .i64 b] 0) := fun hp => En.ix (P := Tryz.prog) Fz.und_22 Fz.size_70 (En.sl_map (E := enS) (wsure s gd n p)) hab hp .i64
      have hwi := wrap_i64 (z := (i : Int) + 1) (by omega) (by omega)
      simp only [FS, ↓RE, okR, argEnv, Nat.reduceAdd, Nat.reduceSub, Nat.reduceLT, Nat.reduceLeDiff, Nat.reduceEqDiff, reduceIte, vg, lg, cg, hsl, hc, decide_true, hix]
      refine call_of_pure' k1 (by simp [D.ltL, D.lt]) (by simp [D.lt]) ?_
      simp only [FS, ↓RE, okR, argEnv, Nat.reduceAdd, Nat.reduceSub, Nat.reduceLT, Nat.reduceLeDiff, Nat.reduceEqDiff, reduceIte, vg, lg, cg, hix]
      refine call_of_pure' k2 (by simp [D.ltL, D.lt]) (by simp [D.lt]) ?_
      simp only [FS, ↓RE, okR, argEnv, Nat.reduceAdd, Nat.reduceSub, Nat.reduceLT, Nat.reduceLeDiff, Nat.reduceEqDiff, reduceIte, vg, lg, cg, hwi]
      exact ⟨i + 1, by omega, by omega, by simp [headW, heapW, envW, blkLt, D.ltL, D.lt, look, hget, lg]⟩
    have : i = (wsure s gd n p).length := by omega
    subst this
    by_cases hd : deepB ⟨s, gd, p, n, t⟩ n.run < 0
    · rw [hDA, if_pos hd] at hDe
      have hno := bare_no (hk t ht) hso (d := 0) (by omega) hd
      have hb0 := hbare 0
      rw [hno] at hb0
      simp only [FS, ↓RE, okR, argEnv, Nat.reduceAdd, Nat.reduceSub, Nat.reduceLT, Nat.reduceLeDiff, Nat.reduceEqDiff, reduceIte, vg, lg, cg, ex_tup, hsl, Int.lt_irrefl, decide_false, hDe, Int.reduceBNe, Int.reduceBEq, beq_self_eq_true, bne_self_eq_false, gTrue_eq, hb0]
    rw [hDA, if_neg hd] at hDe
    obtain ⟨d, hdd⟩ : ∃ d, min (deepB ⟨s, gd, p, n, t⟩ n.run) 5000 = d := ⟨_, rfl⟩
    rw [hdd] at hDe
    have hd0 : 0 ≤ d ∧ d ≤ 5000 := by omega
    have hdd1 : d ≤ deepB ⟨s, gd, p, n, t⟩ n.run := by omega
    have e1 : (d < 0) = False := by simp; omega
    have e2 : (5000 < d) = False := by simp; omega
    have hend : ∀ (X : Int × Int), SureA (bareL s p n.run d t) = X → (X.2 = 0 ∨ (X.2 = 7 ∧ mildB s = false)) := fun X hX => by
      rcases bare_any (hk t ht) hso hd0 with ⟨o, h⟩ | h
      · rw [h] at hX; subst hX; exact .inl rfl
      · cases hm : mildB s
        · rw [h] at hX; subst hX; exact .inr ⟨rfl, rfl⟩
        · obtain ⟨o, h'⟩ := bare_yes (hk t ht) hso hd0 hdd1 hm
          rw [h'] at h; cases h
    have hb1 := hbare d
    obtain ⟨X, hX⟩ : ∃ X, SureA (bareL s p n.run d t) = X := ⟨_, rfl⟩
    have hXX := hend X hX
    rw [hX] at hb1
    obtain ⟨y1, y2⟩ := X
    dsimp only at hXX hb1
    by_cases h5 : d = 5000
    · have e3 : (d == 5000) = true := by simpa using h5
      rcases hXX with rfl | ⟨rfl, hmf⟩
      · cases m1 : decide (-200 ≤ s.w.east.least)
        · simp only [FS, ↓RE, okR, argEnv, Nat.reduceAdd, Nat.reduceSub, Nat.reduceLT, Nat.reduceLeDiff, Nat.reduceEqDiff, reduceIte, vg, lg, cg, ex_tup, hsl, Int.lt_irrefl, decide_false, hDe, Int.reduceBNe, Int.reduceBEq, beq_self_eq_true, bne_self_eq_false, gTrue_eq, e1, e2, m1, hb1, e3]
        cases m2 : decide (s.w.east.most ≤ 200)
        · simp only [FS, ↓RE, okR, argEnv, Nat.reduceAdd, Nat.reduceSub, Nat.reduceLT, Nat.reduceLeDiff, Nat.reduceEqDiff, reduceIte, vg, lg, cg, ex_tup, hsl, Int.lt_irrefl, decide_false, hDe, Int.reduceBNe, Int.reduceBEq, beq_self_eq_true, bne_self_eq_false, gTrue_eq, e1, e2, m1, m2, hb1, e3]
        cases m3 : decide (-200 ≤ s.w.north.least)
        · simp only [FS, ↓RE, okR, argEnv, Nat.reduceAdd, Nat.reduceSub, Nat.reduceLT, Nat.reduceLeDiff, Nat.reduceEqDiff, reduceIte, vg, lg, cg, ex_tup, hsl, Int.lt_irrefl, decide_false, hDe, Int.reduceBNe, Int.reduceBEq, beq_self_eq_true, bne_self_eq_false, gTrue_eq, e1, e2, m1, m2, m3, hb1, e3]
        cases m4 : decide (s.w.north.most ≤ 200)
        · simp only [FS, ↓RE, okR, argEnv, Nat.reduceAdd, Nat.reduceSub, Nat.reduceLT, Nat.reduceLeDiff, Nat.reduceEqDiff, reduceIte, vg, lg, cg, ex_tup, hsl, Int.lt_irrefl, decide_false, hDe, Int.reduceBNe, Int.reduceBEq, beq_self_eq_true, bne_self_eq_false, gTrue_eq, e1, e2, m1, m2, m3, m4, hb1, e3]
        · simp only [FS, ↓RE, okR, argEnv, Nat.reduceAdd, Nat.reduceSub, Nat.reduceLT, Nat.reduceLeDiff, Nat.reduceEqDiff, reduceIte, vg, lg, cg, ex_tup, hsl, Int.lt_irrefl, decide_false, hDe, Int.reduceBNe, Int.reduceBEq, beq_self_eq_true, bne_self_eq_false, gTrue_eq, e1, e2, m1, m2, m3, m4, hb1, e3]
      · simp only [mildB] at hmf
        cases m1 : decide (-200 ≤ s.w.east.least)
        · simp only [FS, ↓RE, okR, argEnv, Nat.reduceAdd, Nat.reduceSub, Nat.reduceLT, Nat.reduceLeDiff, Nat.reduceEqDiff, reduceIte, vg, lg, cg, ex_tup, hsl, Int.lt_irrefl, decide_false, hDe, Int.reduceBNe, Int.reduceBEq, beq_self_eq_true, bne_self_eq_false, gTrue_eq, e1, e2, m1, hb1, e3]
        cases m2 : decide (s.w.east.most ≤ 200)
        · simp only [FS, ↓RE, okR, argEnv, Nat.reduceAdd, Nat.reduceSub, Nat.reduceLT, Nat.reduceLeDiff, Nat.reduceEqDiff, reduceIte, vg, lg, cg, ex_tup, hsl, Int.lt_irrefl, decide_false, hDe, Int.reduceBNe, Int.reduceBEq, beq_self_eq_true, bne_self_eq_false, gTrue_eq, e1, e2, m1, m2, hb1, e3]
        cases m3 : decide (-200 ≤ s.w.north.least)
        · simp only [FS, ↓RE, okR, argEnv, Nat.reduceAdd, Nat.reduceSub, Nat.reduceLT, Nat.reduceLeDiff, Nat.reduceEqDiff, reduceIte, vg, lg, cg, ex_tup, hsl, Int.lt_irrefl, decide_false, hDe, Int.reduceBNe, Int.reduceBEq, beq_self_eq_true, bne_self_eq_false, gTrue_eq, e1, e2, m1, m2, m3, hb1, e3]
        cases m4 : decide (s.w.north.most ≤ 200)
        · simp only [FS, ↓RE, okR, argEnv, Nat.reduceAdd, Nat.reduceSub, Nat.reduceLT, Nat.reduceLeDiff, Nat.reduceEqDiff, reduceIte, vg, lg, cg, ex_tup, hsl, Int.lt_irrefl, decide_false, hDe, Int.reduceBNe, Int.reduceBEq, beq_self_eq_true, bne_self_eq_false, gTrue_eq, e1, e2, m1, m2, m3, m4, hb1, e3]
        · rw [m1, m2, m3, m4] at hmf; cases hmf
    have e3 : (d == 5000) = false := by simpa using h5
    have e4 := wrap_i64 (z := d + 1) (by omega) (by omega)
    have hno := bare_no (hk t ht) hso (d := d + 1) (by omega) (by omega)
    have hb2 := hbare (d + 1)
    rw [hno] at hb2
    rcases hXX with rfl | ⟨rfl, hmf⟩
    · cases m1 : decide (-200 ≤ s.w.east.least)
      · simp only [FS, ↓RE, okR, argEnv, Nat.reduceAdd, Nat.reduceSub, Nat.reduceLT, Nat.reduceLeDiff, Nat.reduceEqDiff, reduceIte, vg, lg, cg, ex_tup, hsl, Int.lt_irrefl, decide_false, hDe, Int.reduceBNe, Int.reduceBEq, beq_self_eq_true, bne_self_eq_false, gTrue_eq, e1, e2, m1, hb1, e3, e4, hb2]
      cases m2 : decide (s.w.east.most ≤ 200)
      · simp only [FS, ↓RE, okR, argEnv, Nat.reduceAdd, Nat.reduceSub, Nat.reduceLT, Nat.reduceLeDiff, Nat.reduceEqDiff, reduceIte, vg, lg, cg, ex_tup, hsl, Int.lt_irrefl, decide_false, hDe, Int.reduceBNe, Int.reduceBEq, beq_self_eq_true, bne_self_eq_false, gTrue_eq, e1, e2, m1, m2, hb1, e3, e4, hb2]
      cases m3 : decide (-200 ≤ s.w.north.least)
      · simp only [FS, ↓RE, okR, argEnv, Nat.reduceAdd, Nat.reduceSub, Nat.reduceLT, Nat.reduceLeDiff, Nat.reduceEqDiff, reduceIte, vg, lg, cg, ex_tup, hsl, Int.lt_irrefl, decide_false, hDe, Int.reduceBNe, Int.reduceBEq, beq_self_eq_true, bne_self_eq_false, gTrue_eq, e1, e2, m1, m2, m3, hb1, e3, e4, hb2]
      cases m4 : decide (s.w.north.most ≤ 200)
      · simp only [FS, ↓RE, okR, argEnv, Nat.reduceAdd, Nat.reduceSub, Nat.reduceLT, Nat.reduceLeDiff, Nat.reduceEqDiff, reduceIte, vg, lg, cg, ex_tup, hsl, Int.lt_irrefl, decide_false, hDe, Int.reduceBNe, Int.reduceBEq, beq_self_eq_true, bne_self_eq_false, gTrue_eq, e1, e2, m1, m2, m3, m4, hb1, e3, e4, hb2]
      · simp only [FS, ↓RE, okR, argEnv, Nat.reduceAdd, Nat.reduceSub, Nat.reduceLT, Nat.reduceLeDiff, Nat.reduceEqDiff, reduceIte, vg, lg, cg, ex_tup, hsl, Int.lt_irrefl, decide_false, hDe, Int.reduceBNe, Int.reduceBEq, beq_self_eq_true, bne_self_eq_false, gTrue_eq, e1, e2, m1, m2, m3, m4, hb1, e3, e4, hb2]
    · simp only [mildB] at hmf
      cases m1 : decide (-200 ≤ s.w.east.least)
      · simp only [FS, ↓RE, okR, argEnv, Nat.reduceAdd, Nat.reduceSub, Nat.reduceLT, Nat.reduceLeDiff, Nat.reduceEqDiff, reduceIte, vg, lg, cg, ex_tup, hsl, Int.lt_irrefl, decide_false, hDe, Int.reduceBNe, Int.reduceBEq, beq_self_eq_true, bne_self_eq_false, gTrue_eq, e1, e2, m1, hb1, e3, e4, hb2]
      cases m2 : decide (s.w.east.most ≤ 200)
      · simp only [FS, ↓RE, okR, argEnv, Nat.reduceAdd, Nat.reduceSub, Nat.reduceLT, Nat.reduceLeDiff, Nat.reduceEqDiff, reduceIte, vg, lg, cg, ex_tup, hsl, Int.lt_irrefl, decide_false, hDe, Int.reduceBNe, Int.reduceBEq, beq_self_eq_true, bne_self_eq_false, gTrue_eq, e1, e2, m1, m2, hb1, e3, e4, hb2]
      cases m3 : decide (-200 ≤ s.w.north.least)
      · simp only [FS, ↓RE, okR, argEnv, Nat.reduceAdd, Nat.reduceSub, Nat.reduceLT, Nat.reduceLeDiff, Nat.reduceEqDiff, reduceIte, vg, lg, cg, ex_tup, hsl, Int.lt_irrefl, decide_false, hDe, Int.reduceBNe, Int.reduceBEq, beq_self_eq_true, bne_self_eq_false, gTrue_eq, e1, e2, m1, m2, m3, hb1, e3, e4, hb2]
      cases m4 : decide (s.w.north.most ≤ 200)
      · simp only [FS, ↓RE, okR, argEnv, Nat.reduceAdd, Nat.reduceSub, Nat.reduceLT, Nat.reduceLeDiff, Nat.reduceEqDiff, reduceIte, vg, lg, cg, ex_tup, hsl, Int.lt_irrefl, decide_false, hDe, Int.reduceBNe, Int.reduceBEq, beq_self_eq_true, bne_self_eq_false, gTrue_eq, e1, e2, m1, m2, m3, m4, hb1, e3, e4, hb2]
      · rw [m1, m2, m3, m4] at hmf; cases hmf

theorem waterSame_pure : ∀ Ds, TyL Tryz.prog Tryz.f8.params.toList Ds → Pure Tryz.prog 8 Ds (.bool true) := by
  intro Ds h
  rw [Tryz.params8] at h
  match Ds, h with
  | [_, _, _, _], ⟨⟨n, _, hg, he⟩, ⟨n2, _, hf, he2⟩, ⟨n3, _, hu, he3⟩, ⟨n4, _, h4, he4⟩, _⟩ =>
    rw [Tryz.underlying33] at he
    rw [Tryz.underlying46] at he2
    rw [Tryz.underlying36] at he3
    rw [Fz.und_3] at he4
    dsimp only at he he2 he3 he4
    obtain ⟨s, rfl, hl⟩ := tySe hg
    obtain ⟨p, rfl⟩ := tySp hf
    obtain ⟨nd, rfl⟩ := tyNd hu
    obtain ⟨t, rfl, _⟩ := tyInt Fz.und_3 h4
    subst he
    subst he2
    subst he3
    cases he4
    exact waterSame_at s _ hl p nd t
end Go.Sx
