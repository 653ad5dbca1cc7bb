/- Own work: contracts of functions, used in the proof of a law. -/
import Derived.Test.YtjhoplbdpdbgaaaGreatDoorSxC66z
import Derived.Test.YtjhoplbdpdbgaaaGreatDoorSxCw
import Derived.Test.YtjhoplbdpdbgaaaGreatDoorSxZ10
set_option linter.unusedVariables false
set_option linter.unusedSimpArgs false
namespace Go.Sx
open Go.Proofs
set_option maxRecDepth 10000

theorem okSrc_bt (l : List Bt) : okSrc 7 (l.map enBt.d) = true := by simp [okSrc, enBt, D.ltL, D.lt, oneD]
theorem okSrc_rd (l : List Rd) : okSrc 4 (l.map Rd.d) = true := by simp [okSrc, Rd.d, D.ltL, D.lt, oneD]
/-- What is said of a strip whose sea is as defined. -/
theorem sure_form (l : Lk) (h : LkOk l) (hso : soundW l.s.w = true) : ∃ a b : Int, SureA l = (a, b) ∧ ((b = 0 ∧ surelyB l = true) ∨ (b = 7 ∧ surelyB l = false)) := by
  have hT := minTail l h.se h.s h.p (by have := h.t; simpa [bIn] using this)
  rcases hT with ⟨q, _⟩ | ⟨_, q, _⟩ | ⟨_, _, _, q | ⟨q1, q2, _⟩⟩
  · rw [h.n] at q; cases q
  · rw [hso] at q; cases q
  · exact ⟨_, _, q.2, .inr ⟨rfl, q.1⟩⟩
  · exact ⟨_, _, q2, .inl ⟨rfl, q1⟩⟩
theorem poss_form (l : Lk) (h : LkOk l) (hso : soundW l.s.w = true) : PossA l = (possB l, 0) := by
  have hT := minTail l h.se h.s h.p (by have := h.t; simpa [bIn] using this)
  rcases hT with ⟨q, _⟩ | ⟨_, q, _⟩ | ⟨_, _, q, _⟩
  · rw [h.n] at q; cases q
  · rw [hso] at q; cases q
  · exact q


theorem slice_hi {P : Program} {t e : TypeId} (hu : P.underlying t = some (.slice e)) {n : Nat} (hs : sizeT P e = some n) {es : List (List D)} (hl : ∀ c ∈ es, c.length = n) {k : Nat} (hk : k ≤ es.length) (kk : IntKind) : sliceD P t (.sl es) none (some (.int kk (k : Int))) = some (.sl (es.take k)) := by
  have h1 : es.all (fun c => Nat.beq c.length n) = true := List.all_eq_true.2 fun c hc => by simp [hl c hc]
  have h2 : (0 : Int) ≤ (k : Int) ∧ (k : Int) ≤ (es.length : Int) := by omega
  simp only [sliceD, hu, hs, boundD, h1, if_true, h2, and_self, Int.toNat_natCast, List.drop_zero]
theorem slice_lo {P : Program} {t e : TypeId} (hu : P.underlying t = some (.slice e)) {n : Nat} (hs : sizeT P e = some n) {es : List (List D)} (hl : ∀ c ∈ es, c.length = n) {k : Nat} (hk : k ≤ es.length) (kk : IntKind) : sliceD P t (.sl es) (some (.int kk (k : Int))) none = some (.sl (es.drop k)) := by
  have h1 : es.all (fun c => Nat.beq c.length n) = true := List.all_eq_true.2 fun c hc => by simp [hl c hc]
  have h2 : (0 : Int) ≤ (k : Int) ∧ (k : Int) ≤ (es.length : Int) := by omega
  simp only [sliceD, hu, hs, boundD, h1, if_true, h2, and_self, Int.toNat_natCast, List.take_length]

def bndQ (g : Ga) : List (Int × Int) := (List.range 1441).map fun t : Nat => atL g (t : Int)
theorem bndQ_eq (g : Ga) : boundsL g 1441 = (bndQ g).map enS.d := by
  simp only [boundsL, bndQ, List.map_map]
  apply List.map_congr_left
  intro t _
  rfl
theorem bndQ_len (g : Ga) : (bndQ g).length = 1441 := by rw [bndQ, List.length_map, List.length_range]
theorem bndQ_at (g : Ga) {i : Nat} (hi : i < 1441) : (bndQ g)[i]? = some (atL g (i : Int)) := by
  rw [bndQ, List.getElem?_map, List.getElem?_range hi]; rfl
theorem bounds_ok {g : Ga} (hga : gaOk g = true) (hr : runG g = true) : BoundsA g = .tup [.sl ((bndQ g).map enS.d), .int .i64 0] := by
  have : (clashG g).2.2 = false := by simpa [runG] using hr
  simp only [BoundsA, hga, if_true, this, Bool.false_eq_true, if_false, bndQ_eq]

set_option maxHeartbeats 16000000 in
theorem waterMore_at (s : Se) (gd : D) (h : SeL s gd) (p : Sp) (n : Nd) (t w : Int) (r : Rd) : Pure Tryz.prog 6 [.agg (s.c gd), .agg p.c, .agg n.c, .int .i64 t, .int .i64 w, .agg r.d] (.bool true) := by
  have vg := fun hp => En.view h.gd hp
  have lg := En.lt h.gd
  have cg := fun hp => En.cur h.gd hp
  have h0 := gTn_eq h
  have h1 := gSe_eq h
  have hz := gBz_eq h
  have h3 := gNd_eq n
  have hSu := gSu_eq (l := ⟨s, gd, p, n, t⟩) h
  have hPo := gPo_eq (l := ⟨s, gd, p, n, t⟩) h
  simp only [Se.c, Se.cr, Wx.c, gaC] at h0 h1 hz hSu hPo
  obtain ⟨r1, r2, r3, r4⟩ := r
  simp only [Rd.d]
  refine pure_of_pieces (rs := [.tmp 12]) (m := 280) [(8, [(14, false, true, [(10, 1), (9, 1), (6, 1), (6, 0), (5, 1), (5, 0)]), (2, false, false, [])]), (13, [(10, false, true, [(4, 6), (3, 6), (0, 6)]), (3, false, false, [])]), (18, [(7, false, true, [(1, 3), (0, 3)]), (5, false, false, [])]), (30, [(24, false, false, [])])] o54_ok (by kernel_rfl) Tryz.func6 rfl (by kernel_rfl) rfl rfl (by kernel_rfl) ?_
  refine awp_peel (T := [(8, [(14, false, true, [(10, 1), (9, 1), (6, 1), (6, 0), (5, 1), (5, 0)]), (2, false, false, [])]), (13, [(10, false, true, [(4, 6), (3, 6), (0, 6)]), (3, false, false, [])]), (18, [(7, false, true, [(1, 3), (0, 3)]), (5, false, false, [])]), (30, [(24, false, false, [])])]) o54_ok (by kernel_rfl) (by kernel_rfl) ?_
  simp only [FS, ↓RE, okR, argEnv, Nat.reduceAdd, Nat.reduceSub, Nat.reduceLT, Nat.reduceLeDiff, Nat.reduceEqDiff, reduceIte, vg, lg, cg]
  refine awp_peel (T := [(8, [(14, false, true, [(10, 1), (9, 1), (6, 1), (6, 0), (5, 1), (5, 0)]), (2, false, false, [])]), (13, [(10, false, true, [(4, 6), (3, 6), (0, 6)]), (3, false, false, [])]), (18, [(7, false, true, [(1, 3), (0, 3)]), (5, false, false, [])]), (30, [(24, false, false, [])])]) o54_ok (by kernel_rfl) (by kernel_rfl) ?_
  cases t0 : tinyB s
  · simp only [FS, ↓RE, okR, argEnv, Nat.reduceAdd, Nat.reduceSub, Nat.reduceLT, Nat.reduceLeDiff, Nat.reduceEqDiff, reduceIte, vg, lg, cg, gTrue_eq, h0, t0]
  cases hs : okSe s
  · simp only [FS, ↓RE, okR, argEnv, Nat.reduceAdd, Nat.reduceSub, Nat.reduceLT, Nat.reduceLeDiff, Nat.reduceEqDiff, reduceIte, vg, lg, cg, gTrue_eq, h0, t0, h1, hs]
  cases z0 : breezeB s
  · simp only [FS, ↓RE, okR, argEnv, Nat.reduceAdd, Nat.reduceSub, Nat.reduceLT, Nat.reduceLeDiff, Nat.reduceEqDiff, reduceIte, vg, lg, cg, gTrue_eq, h0, t0, h1, hs, hz, z0]
  have hsw : orc decWx okWx (fun w => .bool (soundW w)) [.agg (s.w.c [])] = some (.bool (soundW s.w)) := orc_eq (decWx_eq s.w) (okSe_wx hs)
  simp only [Wx.c, gaC] at hsw
  cases hso : soundW s.w
  · simp only [FS, ↓RE, okR, argEnv, Nat.reduceAdd, Nat.reduceSub, Nat.reduceLT, Nat.reduceLeDiff, Nat.reduceEqDiff, reduceIte, vg, lg, cg, gTrue_eq, h0, t0, h1, hs, hz, z0, hsw, hso]
  have h2 := gSp_eq h hs p
  simp only [Se.c, Se.cr, Wx.c, gaC] at h2
  cases hp : okSp s p
  · simp only [FS, ↓RE, okR, argEnv, Nat.reduceAdd, Nat.reduceSub, Nat.reduceLT, Nat.reduceLeDiff, Nat.reduceEqDiff, reduceIte, vg, lg, cg, gTrue_eq, h0, t0, h1, hs, hz, z0, hsw, hso, h2, hp]
  cases hn : okNd n
  · simp only [FS, ↓RE, okR, argEnv, Nat.reduceAdd, Nat.reduceSub, Nat.reduceLT, Nat.reduceLeDiff, Nat.reduceEqDiff, reduceIte, vg, lg, cg, gTrue_eq, h0, t0, h1, hs, hz, z0, hsw, hso, h2, hp, h3, hn]
  by_cases t1 : t < 0
  · simp only [FS, ↓RE, okR, argEnv, Nat.reduceAdd, Nat.reduceSub, Nat.reduceLT, Nat.reduceLeDiff, Nat.reduceEqDiff, reduceIte, vg, lg, cg, gTrue_eq, h0, t0, h1, hs, hz, z0, hsw, hso, h2, hp, h3, hn, t1, decide_true, decide_false]
  by_cases t2 : 1440 < t
  · simp only [FS, ↓RE, okR, argEnv, Nat.reduceAdd, Nat.reduceSub, Nat.reduceLT, Nat.reduceLeDiff, Nat.reduceEqDiff, reduceIte, vg, lg, cg, gTrue_eq, h0, t0, h1, hs, hz, z0, hsw, hso, h2, hp, h3, hn, t1, decide_true, decide_false, t2, decide_true, decide_false]
  by_cases t3 : w < 0
  · simp only [FS, ↓RE, okR, argEnv, Nat.reduceAdd, Nat.reduceSub, Nat.reduceLT, Nat.reduceLeDiff, Nat.reduceEqDiff, reduceIte, vg, lg, cg, gTrue_eq, h0, t0, h1, hs, hz, z0, hsw, hso, h2, hp, h3, hn, t1, decide_true, decide_false, t2, decide_true, decide_false, t3, decide_true, decide_false]
  simp only [FS, ↓RE, okR, argEnv, Nat.reduceAdd, Nat.reduceSub, Nat.reduceLT, Nat.reduceLeDiff, Nat.reduceEqDiff, reduceIte, vg, lg, cg, gTrue_eq, h0, t0, h1, hs, hz, z0, hsw, hso, h2, hp, h3, hn, t1, decide_true, decide_false, t2, decide_true, decide_false, t3, decide_true, decide_false]
  have ht : 0 ≤ t ∧ t ≤ 1440 := by omega
  have hk : LkOk ⟨s, gd, p, n, t⟩ := ⟨h, hs, hp, hn, ht⟩
  have hnd := okNd_all hn
  rw [poss_form _ hk hso] at hPo
  obtain ⟨a0, b0, eS, qS⟩ := sure_form _ hk hso
  rw [eS] at hSu
  -- less
  have hk1 : LkOk ⟨s, gd, p, lessN n, t⟩ := ⟨h, hs, hp, okNd_less hn, ht⟩
  obtain ⟨a1, b1, eS1, qS1⟩ := sure_form _ hk1 hso
  have hS1 := gSu_eq (l := ⟨s, gd, p, lessN n, t⟩) h
  rw [eS1] at hS1
  have hle := less_surely (s := s) (gd := gd) (p := p) (n := n) (t := t) hk
  have y1 := a_quo' (k := .i64) (x := n.draught) (y := 2) (by omega)
  have y2 := a_quo' (k := .i64) (x := n.run + 1) (y := 2) (by omega)
  have y3 := a_quo' (k := .i64) (x := n.calm) (y := 2) (by omega)
  have y4 : IntKind.i64.wrap (n.draught.tdiv 2) = n.draught / 2 := by rw [Int.tdiv_eq_ediv_of_nonneg (by omega)]; exact wrap_i64 (by omega) (by omega)
  have y5 : IntKind.i64.wrap ((n.run + 1).tdiv 2) = (n.run + 1) / 2 := by rw [Int.tdiv_eq_ediv_of_nonneg (by omega)]; exact wrap_i64 (by omega) (by omega)
  have y6 : IntKind.i64.wrap (n.calm.tdiv 2) = n.calm / 2 := by rw [Int.tdiv_eq_ediv_of_nonneg (by omega)]; exact wrap_i64 (by omega) (by omega)
  have y7 := wrap_i64 (z := n.run + 1) (by omega) (by omega)
  simp only [Se.c, Se.cr, Wx.c, gaC, lessN] at hS1
  dsimp only at hPo hSu hS1
  have hbl := fun hp => En.len (P := Tryz.prog) Fz.und_30 (En.sl_map (E := enBt) s.boats) hp
  have hbb : s.boats.length ≤ 12 := by
    simp only [okSe, Bool.and_eq_true, decide_eq_true_eq] at hs
    exact hs.2.1
  have hlb : ∀ c ∈ s.boats.map enBt.d, c.length = 7 := fun c hc => by obtain ⟨b, _, rfl⟩ := List.mem_map.1 hc; rfl
  refine awp_peel (T := [(8, [(14, false, true, [(10, 1), (9, 1), (6, 1), (6, 0), (5, 1), (5, 0)]), (2, false, false, [])]), (13, [(10, false, true, [(4, 6), (3, 6), (0, 6)]), (3, false, false, [])]), (18, [(7, false, true, [(1, 3), (0, 3)]), (5, false, false, [])]), (30, [(24, false, false, [])])]) o54_ok (by kernel_rfl) (by kernel_rfl) ?_
  simp only [FS, ↓RE, okR, argEnv, Nat.reduceAdd, Nat.reduceSub, Nat.reduceLT, Nat.reduceLeDiff, Nat.reduceEqDiff, reduceIte, vg, lg, cg, hSu, ex_tup]
  refine awp_peel (T := [(8, [(14, false, true, [(10, 1), (9, 1), (6, 1), (6, 0), (5, 1), (5, 0)]), (2, false, false, [])]), (13, [(10, false, true, [(4, 6), (3, 6), (0, 6)]), (3, false, false, [])]), (18, [(7, false, true, [(1, 3), (0, 3)]), (5, false, false, [])]), (30, [(24, false, false, [])])]) o54_ok (by kernel_rfl) (by kernel_rfl) ?_
  simp only [FS, ↓RE, okR, argEnv, Nat.reduceAdd, Nat.reduceSub, Nat.reduceLT, Nat.reduceLeDiff, Nat.reduceEqDiff, reduceIte, vg, lg, cg, hPo, ex_tup]
  have e0 : (b0 = 0 ∧ surelyB ⟨s, gd, p, n, t⟩ = true) ∨ (b0 = 7 ∧ surelyB ⟨s, gd, p, n, t⟩ = false) := qS
  have hso' := sound_north hso
  have hwx := okWx_gaOk (okSe_wx hs)
  have hrl : s.w.tide.rs.length ≤ 30 := (gaOk_inv hwx.tide).2.2.2
  rcases e0 with ⟨rfl, hsu⟩ | ⟨rfl, hsu⟩
  · have q1 := hle hsu
    obtain rfl : b1 = 0 := by
      rcases qS1 with ⟨q, _⟩ | ⟨_, q⟩
      · exact q
      · rw [q1] at q; cases q
    refine awp_peel (T := [(8, [(14, false, true, [(10, 1), (9, 1), (6, 1), (6, 0), (5, 1), (5, 0)]), (2, false, false, [])]), (13, [(10, false, true, [(4, 6), (3, 6), (0, 6)]), (3, false, false, [])]), (18, [(7, false, true, [(1, 3), (0, 3)]), (5, false, false, [])]), (30, [(24, false, false, [])])]) o54_ok (by kernel_rfl) (by kernel_rfl) ?_
    simp only [FS, ↓RE, okR, argEnv, Nat.reduceAdd, Nat.reduceSub, Nat.reduceLT, Nat.reduceLeDiff, Nat.reduceEqDiff, reduceIte, vg, lg, cg, bne_self_eq_false, Int.reduceBNe]
    refine awp_peel (T := [(8, [(14, false, true, [(10, 1), (9, 1), (6, 1), (6, 0), (5, 1), (5, 0)]), (2, false, false, [])]), (13, [(10, false, true, [(4, 6), (3, 6), (0, 6)]), (3, false, false, [])]), (18, [(7, false, true, [(1, 3), (0, 3)]), (5, false, false, [])]), (30, [(24, false, false, [])])]) o54_ok (by kernel_rfl) (by kernel_rfl) ?_
    simp only [FS, ↓RE, okR, argEnv, Nat.reduceAdd, Nat.reduceSub, Nat.reduceLT, Nat.reduceLeDiff, Nat.reduceEqDiff, reduceIte, vg, lg, cg]
    refine awp_peel (T := [(8, [(14, false, true, [(10, 1), (9, 1), (6, 1), (6, 0), (5, 1), (5, 0)]), (2, false, false, [])]), (13, [(10, false, true, [(4, 6), (3, 6), (0, 6)]), (3, false, false, [])]), (18, [(7, false, true, [(1, 3), (0, 3)]), (5, false, false, [])]), (30, [(24, false, false, [])])]) o54_ok (by kernel_rfl) (by kernel_rfl) ?_
    simp only [FS, ↓RE, okR, argEnv, Nat.reduceAdd, Nat.reduceSub, Nat.reduceLT, Nat.reduceLeDiff, Nat.reduceEqDiff, reduceIte, vg, lg, cg, y1, y2, y3, y4, y5, y6, y7]
    refine awp_peel (T := [(8, [(14, false, true, [(10, 1), (9, 1), (6, 1), (6, 0), (5, 1), (5, 0)]), (2, false, false, [])]), (13, [(10, false, true, [(4, 6), (3, 6), (0, 6)]), (3, false, false, [])]), (18, [(7, false, true, [(1, 3), (0, 3)]), (5, false, false, [])]), (30, [(24, false, false, [])])]) o54_ok (by kernel_rfl) (by kernel_rfl) ?_
    simp only [FS, ↓RE, okR, argEnv, Nat.reduceAdd, Nat.reduceSub, Nat.reduceLT, Nat.reduceLeDiff, Nat.reduceEqDiff, reduceIte, vg, lg, cg, hS1, ex_tup]
    refine awp_peel (T := [(8, [(14, false, true, [(10, 1), (9, 1), (6, 1), (6, 0), (5, 1), (5, 0)]), (2, false, false, [])]), (13, [(10, false, true, [(4, 6), (3, 6), (0, 6)]), (3, false, false, [])]), (18, [(7, false, true, [(1, 3), (0, 3)]), (5, false, false, [])]), (30, [(24, false, false, [])])]) o54_ok (by kernel_rfl) (by kernel_rfl) ?_
    simp only [FS, ↓RE, okR, argEnv, Nat.reduceAdd, Nat.reduceSub, Nat.reduceLT, Nat.reduceLeDiff, Nat.reduceEqDiff, reduceIte, vg, lg, cg]
    by_cases hbz : (0 : Int) < (s.boats.length : Int)
    · skip
      have hrm := a_rem' (k := .i64) (x := w) (y := (s.boats.length : Int)) (by omega)
      obtain ⟨k, hkl, hke⟩ : ∃ k : Nat, k < s.boats.length ∧ w.tmod (s.boats.length : Int) = (k : Int) := by
        have q1 := Int.emod_nonneg w (b := (s.boats.length : Int)) (by omega)
        have q2 := Int.emod_lt_of_pos w hbz
        refine ⟨(w % (s.boats.length : Int)).toNat, by omega, ?_⟩
        rw [Int.tmod_eq_emod_of_nonneg (by omega)]; omega
      rw [hke] at hrm
      have wk := wrap_i64 (z := (k : Int) + 1) (by omega) (by omega)
      have s1 : sliceD Tryz.prog 30 (.sl (s.boats.map enBt.d)) none (some (.int .i64 (k : Int))) = some (.sl ((s.boats.take k).map enBt.d)) := by
        rw [slice_hi Fz.und_30 Fz.size_72 hlb (by rw [List.length_map]; omega), List.map_take]
      have s2 : sliceD Tryz.prog 30 (.sl (s.boats.map enBt.d)) (some (.int .i64 ((k : Int) + 1))) none = some (.sl ((s.boats.drop (k + 1)).map enBt.d)) := by
        rw [show (k : Int) + 1 = ((k + 1 : Nat) : Int) by omega, slice_lo Fz.und_30 Fz.size_72 hlb (by rw [List.length_map]; omega), List.map_drop]
      have ll1 : (s.boats.take k).length ≤ 12 := by rw [List.length_take]; omega
      have ll2 : (s.boats.drop (k + 1)).length ≤ 12 := by rw [List.length_drop]; omega
      have ha1 := fun h nid => app_nils (P := Tryz.prog) Fz.und_30 Fz.size_72 Fz.zero_72 rfl (by omega) Fz.bytes_72_30 h nid (x := .sl ((s.boats.take k).map enBt.d)) (xs := (s.boats.take k).map enBt.d) rfl (okSrc_bt _) (by rw [List.length_map]; omega) (by rw [List.length_map]; omega)
      have ha2 := fun h nid (hb : hget h 6 = some (.arr 72 7 ((s.boats.take k).map enBt.d))) => app_sl (P := Tryz.prog) (h := h) (nid := nid) Fz.und_30 Fz.size_72 Fz.zero_72 rfl (by omega) Fz.bytes_72_30 (b := 6) (n := (s.boats.take k).length) (xs := (s.boats.drop (k + 1)).map enBt.d) hb (List.length_map _).symm (okSrc_bt _) (by simp only [List.length_map]; omega) (by simp only [List.length_map]; omega)
      have hFew := gSu_eq (l := ⟨fewS s k, gd, p, n, t⟩) (seL_few h k)
      obtain ⟨a2, b2, eS2, qS2⟩ := sure_form ⟨fewS s k, gd, p, n, t⟩ ⟨seL_few h k, okSe_few hs k, hp, hn, ht⟩ hso
      rw [eS2] at hFew
      have hfe := few_surely hk k
      simp only [Se.c, Se.cr, Wx.c, gaC, fewS, List.map_append] at hFew

      refine awp_peel (T := [(8, [(14, false, true, [(10, 1), (9, 1), (6, 1), (6, 0), (5, 1), (5, 0)]), (2, false, false, [])]), (13, [(10, false, true, [(4, 6), (3, 6), (0, 6)]), (3, false, false, [])]), (18, [(7, false, true, [(1, 3), (0, 3)]), (5, false, false, [])]), (30, [(24, false, false, [])])]) o54_ok (by kernel_rfl) (by kernel_rfl) ?_
      simp only [FS, ↓RE, okR, argEnv, Nat.reduceAdd, Nat.reduceSub, Nat.reduceLT, Nat.reduceLeDiff, Nat.reduceEqDiff, reduceIte, vg, lg, cg, hbl, hbz, decide_true, hrm, hke, s1, s2, wk, ha1, ha2, Option.map_none, Option.map_some, cur_osl, curC_arr, decide_true, cells_osl, List.length_append, List.length_map]
      refine awp_peel (T := [(8, [(14, false, true, [(10, 1), (9, 1), (6, 1), (6, 0), (5, 1), (5, 0)]), (2, false, false, [])]), (13, [(10, false, true, [(4, 6), (3, 6), (0, 6)]), (3, false, false, [])]), (18, [(7, false, true, [(1, 3), (0, 3)]), (5, false, false, [])]), (30, [(24, false, false, [])])]) o54_ok (by kernel_rfl) (by kernel_rfl) ?_
      simp only [FS, ↓RE, okR, argEnv, Nat.reduceAdd, Nat.reduceSub, Nat.reduceLT, Nat.reduceLeDiff, Nat.reduceEqDiff, reduceIte, vg, lg, cg, hFew, ex_tup, List.length_append, List.length_map, decide_true]
      obtain rfl : b2 = 0 := by
        rcases qS2 with ⟨q, _⟩ | ⟨_, q⟩
        · exact q
        · rw [hfe hsu] at q; cases q
      refine awp_peel (T := [(8, [(14, false, true, [(10, 1), (9, 1), (6, 1), (6, 0), (5, 1), (5, 0)]), (2, false, false, [])]), (13, [(10, false, true, [(4, 6), (3, 6), (0, 6)]), (3, false, false, [])]), (18, [(7, false, true, [(1, 3), (0, 3)]), (5, false, false, [])]), (30, [(24, false, false, [])])]) o54_ok (by kernel_rfl) (by kernel_rfl) ?_
      simp only [FS, ↓RE, okR, argEnv, Nat.reduceAdd, Nat.reduceSub, Nat.reduceLT, Nat.reduceLeDiff, Nat.reduceEqDiff, reduceIte, vg, lg, cg, bne_self_eq_false, beq_self_eq_true, Int.reduceBNe, Int.reduceBEq]
      refine awp_imp (imp_view (e := [(3, .int .i64 t), (6, .ref (s.c gd) 0), (7, .ref p.c 0), (8, .ref n.c 0), (11, .ref [.int .i64 r1, .int .i64 r2, .int .i64 r3, .int .i64 r4] 0), (14, .int .i64 0), (15, .bool (possB ⟨s, gd, p, n, t⟩))]) (h' := []) (nid' := 0) (n' := 280) (by simp [headW, heapW, envW, blkLt, D.ltL, D.lt, look, hget, hset, view, viewL, lg, vg])) ?_
      refine awp_peel (T := [(8, [(14, false, true, [(10, 1), (9, 1), (6, 1), (6, 0), (5, 1), (5, 0)]), (2, false, false, [])]), (13, [(10, false, true, [(4, 6), (3, 6), (0, 6)]), (3, false, false, [])]), (18, [(7, false, true, [(1, 3), (0, 3)]), (5, false, false, [])]), (30, [(24, false, false, [])])]) o54_ok (by kernel_rfl) (by kernel_rfl) ?_
      simp only [FS, ↓RE, okR, argEnv, Nat.reduceAdd, Nat.reduceSub, Nat.reduceLT, Nat.reduceLeDiff, Nat.reduceEqDiff, reduceIte, vg, lg, cg]
      have ha3 := fun h nid => app_nils (P := Tryz.prog) Fz.und_25 Fz.size_75 Fz.zero_75 rfl (by omega) Fz.bytes_75_25 h nid (x := .sl (s.w.tide.rs.map Rd.d)) (xs := s.w.tide.rs.map Rd.d) rfl (okSrc_rd _) (by rw [List.length_map]; omega) (by rw [List.length_map]; omega)
      have hd3 := fun h => litD_agg (P := Tryz.prog) Fz.und_25 Fz.size_75 Fz.zero_75 rfl (by omega) (by omega) h [.int .i64 r1, .int .i64 r2, .int .i64 r3, .int .i64 r4] rfl rfl
      have ha4 := fun h nid (hb : hget h 1 = some (.arr 75 4 (s.w.tide.rs.map Rd.d))) => app_sl (P := Tryz.prog) (h := h) (nid := nid) Fz.und_25 Fz.size_75 Fz.zero_75 rfl (by omega) Fz.bytes_75_25 (b := 1) (n := s.w.tide.rs.length) (xs := [[.int .i64 r1, .int .i64 r2, .int .i64 r3, .int .i64 r4]]) hb (List.length_map _).symm rfl (by simp only [List.length_map, List.length_cons, List.length_nil]; omega) (by simp only [List.length_map, List.length_cons, List.length_nil]; omega)
      refine awp_peel (T := [(8, [(14, false, true, [(10, 1), (9, 1), (6, 1), (6, 0), (5, 1), (5, 0)]), (2, false, false, [])]), (13, [(10, false, true, [(4, 6), (3, 6), (0, 6)]), (3, false, false, [])]), (18, [(7, false, true, [(1, 3), (0, 3)]), (5, false, false, [])]), (30, [(24, false, false, [])])]) o54_ok (by kernel_rfl) (by kernel_rfl) ?_
      simp only [FS, ↓RE, okR, argEnv, Nat.reduceAdd, Nat.reduceSub, Nat.reduceLT, Nat.reduceLeDiff, Nat.reduceEqDiff, reduceIte, vg, lg, cg, ha3, hd3, ha4, cur_osl, curC_arr, decide_true, cells_osl, List.length_append, List.length_map, Option.map_none, Option.map_some]
      have hfz : ∀ h1 h2, frzD h1 h2 gd = gd := fun h1 h2 => by rcases En.inv h.gd with e | ⟨e, _⟩ <;> rw [e] <;> rfl
      have hsx : SeL (moreS s ⟨r1, r2, r3, r4⟩) gd := seL_more h _ (by omega)
      have hMo := gSe_eq hsx
      simp only [Se.c, Se.cr, Wx.c, gaC, moreS, moreG, List.map_append, List.map_cons, List.map_nil, Rd.d] at hMo
      refine awp_peel (T := [(8, [(14, false, true, [(10, 1), (9, 1), (6, 1), (6, 0), (5, 1), (5, 0)]), (2, false, false, [])]), (13, [(10, false, true, [(4, 6), (3, 6), (0, 6)]), (3, false, false, [])]), (18, [(7, false, true, [(1, 3), (0, 3)]), (5, false, false, [])]), (30, [(24, false, false, [])])]) o54_ok (by kernel_rfl) (by kernel_rfl) ?_
      cases hs2 : okSe (moreS s ⟨r1, r2, r3, r4⟩)
      · simp only [moreS, moreG] at hs2
        simp only [FS, ↓RE, okR, argEnv, Nat.reduceAdd, Nat.reduceSub, Nat.reduceLT, Nat.reduceLeDiff, Nat.reduceEqDiff, reduceIte, vg, lg, cg, List.length_append, List.length_map, decide_true, hMo, hs2, gTrue_eq]
      have hsw2 : orc decWx okWx (fun w => .bool (soundW w)) [.agg ((moreS s ⟨r1, r2, r3, r4⟩).w.c [])] = some (.bool (soundW (moreS s ⟨r1, r2, r3, r4⟩).w)) := orc_eq (decWx_eq _) (okSe_wx hs2)
      simp only [Wx.c, gaC, moreS, moreG, List.map_append, List.map_cons, List.map_nil, Rd.d] at hsw2
      have hs2' := hs2
      simp only [moreS, moreG] at hs2'
      cases hso2 : soundW (moreS s ⟨r1, r2, r3, r4⟩).w
      · simp only [moreS, moreG] at hso2
        simp only [FS, ↓RE, okR, argEnv, Nat.reduceAdd, Nat.reduceSub, Nat.reduceLT, Nat.reduceLeDiff, Nat.reduceEqDiff, reduceIte, vg, lg, cg, List.length_append, List.length_map, decide_true, hMo, hs2', hsw2, hso2, gTrue_eq]
      have hso2' := hso2
      simp only [moreS, moreG] at hso2'
      simp only [FS, ↓RE, okR, argEnv, Nat.reduceAdd, Nat.reduceSub, Nat.reduceLT, Nat.reduceLeDiff, Nat.reduceEqDiff, reduceIte, vg, lg, cg, List.length_append, List.length_map, decide_true, hMo, hs2', hsw2, hso2', gTrue_eq]
      refine awp_imp (imp_thaw 1 (imp_view (e := [(3, .int .i64 t), (6, .ref (s.c gd) 0), (7, .ref p.c 0), (8, .ref n.c 0), (14, .int .i64 0), (15, .bool (possB ⟨s, gd, p, n, t⟩)), (24, .ref ((moreS s ⟨r1, r2, r3, r4⟩).c gd) 0)]) (h' := []) (nid' := 0) (n' := 280) (by simp [headW, heapW, envW, blkLt, D.ltL, D.lt, look, hget, hset, view, viewL, lg, vg, Rd.d, frzHH, frzBlk, herase, hfz, fz_int, fz_sl, fz_ref, fz_ptr, fz_osl, fzC_arr, fzC_some, fz_bool, fz_nils, fz_agg]))) ?_
      have hk2 : LkOk ⟨moreS s ⟨r1, r2, r3, r4⟩, gd, p, n, t⟩ := ⟨hsx, hs2, hp, hn, ht⟩
      have hPx := gPo_eq (l := ⟨moreS s ⟨r1, r2, r3, r4⟩, gd, p, n, t⟩) hsx
      have hSx := gSu_eq (l := ⟨moreS s ⟨r1, r2, r3, r4⟩, gd, p, n, t⟩) hsx
      rw [poss_form _ hk2 hso2] at hPx
      obtain ⟨a3, b3, eS3, qS3⟩ := sure_form _ hk2 hso2
      rw [eS3] at hSx
      obtain rfl : b3 = 0 := by
        rcases qS3 with ⟨q, _⟩ | ⟨_, q⟩
        · exact q
        · rw [more_surely hk hk2 hsu] at q; cases q
      have hpp : (possB ⟨moreS s ⟨r1, r2, r3, r4⟩, gd, p, n, t⟩ = false) ∨ (possB ⟨moreS s ⟨r1, r2, r3, r4⟩, gd, p, n, t⟩ = true ∧ possB ⟨s, gd, p, n, t⟩ = true) := by
        cases q : possB ⟨moreS s ⟨r1, r2, r3, r4⟩, gd, p, n, t⟩
        · exact .inl rfl
        · exact .inr ⟨rfl, more_poss hk hk2 q⟩
      generalize hpx : possB ⟨moreS s ⟨r1, r2, r3, r4⟩, gd, p, n, t⟩ = px at hpp hPx
      simp only [Se.c, Se.cr, Wx.c, gaC, moreS, moreG, List.map_append, List.map_cons, List.map_nil, Rd.d] at hPx hSx
      have hwx2 := okWx_gaOk (okSe_wx hs2)
      have hB1 : gGa BoundsA [.agg [.int .i64 s.w.tide.rate, .int .i64 s.w.tide.least, .int .i64 s.w.tide.most, .sl (s.w.tide.rs.map Rd.d)]] = some (.tup [.sl ((bndQ s.w.tide).map enS.d), .int .i64 0]) := by
        rw [gGa_eq _ _ _ _ (by omega), ← bounds_ok hwx.tide hso'.1]
      have hB2 : gGa BoundsA [.agg [.int .i64 s.w.tide.rate, .int .i64 s.w.tide.least, .int .i64 s.w.tide.most, .sl ((s.w.tide.rs ++ [(⟨r1, r2, r3, r4⟩ : Rd)]).map Rd.d)]] = some (.tup [.sl ((bndQ (moreG s.w.tide ⟨r1, r2, r3, r4⟩)).map enS.d), .int .i64 0]) := by
        rw [gGa_eq _ _ _ _ (by simp only [List.length_append, List.length_singleton]; omega), ← bounds_ok hwx2.tide (sound_north hso2).1]
      simp only [List.map_append, List.map_cons, List.map_nil, Rd.d] at hB2
      have hbn := fun x y => binB_ne (P := Tryz.prog) Fz.und_4 x y
      have hl1 : ∀ hp, lenOpD Tryz.prog hp 22 (.sl ((bndQ s.w.tide).map enS.d)) = some (.int .i64 1441) := fun hp => by rw [En.len (P := Tryz.prog) Fz.und_22 (En.sl_map (E := enS) (bndQ s.w.tide)) hp, bndQ_len]; rfl
      have hl2 : ∀ hp, lenOpD Tryz.prog hp 22 (.sl ((bndQ (moreG s.w.tide ⟨r1, r2, r3, r4⟩)).map enS.d)) = some (.int .i64 1441) := fun hp => by rw [En.len (P := Tryz.prog) Fz.und_22 (En.sl_map (E := enS) (bndQ (moreG s.w.tide ⟨r1, r2, r3, r4⟩))) hp, bndQ_len]; rfl
      refine awp_peel (T := [(8, [(14, false, true, [(10, 1), (9, 1), (6, 1), (6, 0), (5, 1), (5, 0)]), (2, false, false, [])]), (13, [(10, false, true, [(4, 6), (3, 6), (0, 6)]), (3, false, false, [])]), (18, [(7, false, true, [(1, 3), (0, 3)]), (5, false, false, [])]), (30, [(24, false, false, [])])]) o54_ok (by kernel_rfl) (by kernel_rfl) ?_
      simp only [FS, ↓RE, okR, argEnv, Nat.reduceAdd, Nat.reduceSub, Nat.reduceLT, Nat.reduceLeDiff, Nat.reduceEqDiff, reduceIte, vg, lg, cg, List.map_append, List.map_cons, List.map_nil, Rd.d, ex_tup, hB1]
      refine awp_peel (T := [(8, [(14, false, true, [(10, 1), (9, 1), (6, 1), (6, 0), (5, 1), (5, 0)]), (2, false, false, [])]), (13, [(10, false, true, [(4, 6), (3, 6), (0, 6)]), (3, false, false, [])]), (18, [(7, false, true, [(1, 3), (0, 3)]), (5, false, false, [])]), (30, [(24, false, false, [])])]) o54_ok (by kernel_rfl) (by kernel_rfl) ?_
      simp only [FS, ↓RE, okR, argEnv, Nat.reduceAdd, Nat.reduceSub, Nat.reduceLT, Nat.reduceLeDiff, Nat.reduceEqDiff, reduceIte, vg, lg, cg, List.map_append, List.map_cons, List.map_nil, Rd.d, ex_tup, hB2]
      refine awp_peel (T := [(8, [(14, false, true, [(10, 1), (9, 1), (6, 1), (6, 0), (5, 1), (5, 0)]), (2, false, false, [])]), (13, [(10, false, true, [(4, 6), (3, 6), (0, 6)]), (3, false, false, [])]), (18, [(7, false, true, [(1, 3), (0, 3)]), (5, false, false, [])]), (30, [(24, false, false, [])])]) o54_ok (by kernel_rfl) (by kernel_rfl) ?_
      simp only [FS, ↓RE, okR, argEnv, Nat.reduceAdd, Nat.reduceSub, Nat.reduceLT, Nat.reduceLeDiff, Nat.reduceEqDiff, reduceIte, vg, lg, cg, List.map_append, List.map_cons, List.map_nil, Rd.d, ex_tup, hSx]
      refine awp_peel (T := [(8, [(14, false, true, [(10, 1), (9, 1), (6, 1), (6, 0), (5, 1), (5, 0)]), (2, false, false, [])]), (13, [(10, false, true, [(4, 6), (3, 6), (0, 6)]), (3, false, false, [])]), (18, [(7, false, true, [(1, 3), (0, 3)]), (5, false, false, [])]), (30, [(24, false, false, [])])]) o54_ok (by kernel_rfl) (by kernel_rfl) ?_
      simp only [FS, ↓RE, okR, argEnv, Nat.reduceAdd, Nat.reduceSub, Nat.reduceLT, Nat.reduceLeDiff, Nat.reduceEqDiff, reduceIte, vg, lg, cg, List.map_append, List.map_cons, List.map_nil, Rd.d, ex_tup, hPx]
      refine awp_peel (T := [(8, [(14, false, true, [(10, 1), (9, 1), (6, 1), (6, 0), (5, 1), (5, 0)]), (2, false, false, [])]), (13, [(10, false, true, [(4, 6), (3, 6), (0, 6)]), (3, false, false, [])]), (18, [(7, false, true, [(1, 3), (0, 3)]), (5, false, false, [])]), (30, [(24, false, false, [])])]) o54_ok (by kernel_rfl) (by kernel_rfl) ?_
      rcases hpp with rfl | ⟨rfl, hpo⟩
      rotate_left
      all_goals
        try rw [hpo]
        simp only [FS, ↓RE, okR, argEnv, Nat.reduceAdd, Nat.reduceSub, Nat.reduceLT, Nat.reduceLeDiff, Nat.reduceEqDiff, reduceIte, vg, lg, cg, hl1, hl2, bne_self_eq_false, beq_self_eq_true, Int.reduceBNe, Int.reduceBEq]
        refine awp_rest (T := [(8, [(14, false, true, [(10, 1), (9, 1), (6, 1), (6, 0), (5, 1), (5, 0)]), (2, false, false, [])]), (13, [(10, false, true, [(4, 6), (3, 6), (0, 6)]), (3, false, false, [])]), (18, [(7, false, true, [(1, 3), (0, 3)]), (5, false, false, [])]), (30, [(24, false, false, [])])]) o54_ok (by kernel_rfl) (by kernel_rfl) ?_
        simp only [FS, ↓RE, okR, argEnv, Nat.reduceAdd, Nat.reduceSub, Nat.reduceLT, Nat.reduceLeDiff, Nat.reduceEqDiff, reduceIte, vg, lg, cg]
        refine loopV (ι := Nat) o54_ok [(8, [(14, false, true, [(10, 1), (9, 1), (6, 1), (6, 0), (5, 1), (5, 0)]), (2, false, false, [])]), (13, [(10, false, true, [(4, 6), (3, 6), (0, 6)]), (3, false, false, [])]), (18, [(7, false, true, [(1, 3), (0, 3)]), (5, false, false, [])]), (30, [(24, false, false, [])])] (fun i => [(25, .sl ((bndQ s.w.tide).map enS.d)), (27, .sl ((bndQ (moreG s.w.tide ⟨r1, r2, r3, r4⟩)).map enS.d)), (33, .int .i64 (i : Int))])
          (fun i => []) 0 (fun i => i ≤ 1441) (fun i => 1441 - i) 0 (by kernel_rfl) (by kernel_rfl) (Nat.zero_le _) ?_ ?_
        · simp [headW, heapW, envW, blkLt, D.ltL, D.lt, look, hget, lg]
        intro i hi
        rcases Nat.lt_or_ge i 1441 with hlt | hge
        rotate_left
        · have hc : ((i : Int) < 1441) = False := by simp; omega
          simp only [FS, ↓RE, okR, argEnv, Nat.reduceAdd, Nat.reduceSub, Nat.reduceLT, Nat.reduceLeDiff, Nat.reduceEqDiff, reduceIte, vg, lg, cg, hl1, hl2, hc, decide_false, gTrue_eq]
        have hc : ((i : Int) < 1441) = True := by simp; omega
        have hm := more_at s.w.tide ⟨r1, r2, r3, r4⟩ (i : Int)
        have hix1 : ∀ hp, indexAddrD Tryz.prog hp 22 (.sl ((bndQ s.w.tide).map enS.d)) (.int .i64 (i : Int)) = some (.ref [.int .i64 (atL s.w.tide (i : Int)).1, .int .i64 (atL s.w.tide (i : Int)).2] 0) := fun hp => En.ix (P := Tryz.prog) Fz.und_22 Fz.size_70 (En.sl_map (E := enS) (bndQ s.w.tide)) (bndQ_at _ hlt) hp .i64
        have hix2 : ∀ hp, indexAddrD Tryz.prog hp 22 (.sl ((bndQ (moreG s.w.tide ⟨r1, r2, r3, r4⟩)).map enS.d)) (.int .i64 (i : Int)) = some (.ref [.int .i64 (atL (moreG s.w.tide ⟨r1, r2, r3, r4⟩) (i : Int)).1, .int .i64 (atL (moreG s.w.tide ⟨r1, r2, r3, r4⟩) (i : Int)).2] 0) := fun hp => En.ix (P := Tryz.prog) Fz.und_22 Fz.size_70 (En.sl_map (E := enS) (bndQ (moreG s.w.tide ⟨r1, r2, r3, r4⟩))) (bndQ_at _ hlt) hp .i64
        generalize atL s.w.tide (i : Int) = A1 at hm hix1
        generalize atL (moreG s.w.tide ⟨r1, r2, r3, r4⟩) (i : Int) = A2 at hm hix2
        have c1 : (A2.1 < A1.1) = False := by simp; omega
        have c2 : (A1.2 < A2.2) = False := by simp; omega
        have hwi := wrap_i64 (z := (i : Int) + 1) (by omega) (by omega)
        simp only [FS, ↓RE, okR, argEnv, Nat.reduceAdd, Nat.reduceSub, Nat.reduceLT, Nat.reduceLeDiff, Nat.reduceEqDiff, reduceIte, vg, lg, cg, hl1, hl2, hc, decide_true, decide_false, hix1, hix2, c1, c2, hwi]
        exact ⟨i + 1, by omega, by omega, by simp [headW, heapW, envW, blkLt, D.ltL, D.lt, look, hget, lg]⟩
    · skip
      refine awp_peel (T := [(8, [(14, false, true, [(10, 1), (9, 1), (6, 1), (6, 0), (5, 1), (5, 0)]), (2, false, false, [])]), (13, [(10, false, true, [(4, 6), (3, 6), (0, 6)]), (3, false, false, [])]), (18, [(7, false, true, [(1, 3), (0, 3)]), (5, false, false, [])]), (30, [(24, false, false, [])])]) o54_ok (by kernel_rfl) (by kernel_rfl) ?_
      simp only [FS, ↓RE, okR, argEnv, Nat.reduceAdd, Nat.reduceSub, Nat.reduceLT, Nat.reduceLeDiff, Nat.reduceEqDiff, reduceIte, vg, lg, cg, hbl, hbz, decide_false]
      refine awp_peel (T := [(8, [(14, false, true, [(10, 1), (9, 1), (6, 1), (6, 0), (5, 1), (5, 0)]), (2, false, false, [])]), (13, [(10, false, true, [(4, 6), (3, 6), (0, 6)]), (3, false, false, [])]), (18, [(7, false, true, [(1, 3), (0, 3)]), (5, false, false, [])]), (30, [(24, false, false, [])])]) o54_ok (by kernel_rfl) (by kernel_rfl) ?_
      simp only [FS, ↓RE, okR, argEnv, Nat.reduceAdd, Nat.reduceSub, Nat.reduceLT, Nat.reduceLeDiff, Nat.reduceEqDiff, reduceIte, vg, lg, cg, hSu, ex_tup]
      refine awp_peel (T := [(8, [(14, false, true, [(10, 1), (9, 1), (6, 1), (6, 0), (5, 1), (5, 0)]), (2, false, false, [])]), (13, [(10, false, true, [(4, 6), (3, 6), (0, 6)]), (3, false, false, [])]), (18, [(7, false, true, [(1, 3), (0, 3)]), (5, false, false, [])]), (30, [(24, false, false, [])])]) o54_ok (by kernel_rfl) (by kernel_rfl) ?_
      simp only [FS, ↓RE, okR, argEnv, Nat.reduceAdd, Nat.reduceSub, Nat.reduceLT, Nat.reduceLeDiff, Nat.reduceEqDiff, reduceIte, vg, lg, cg, bne_self_eq_false, beq_self_eq_true, Int.reduceBNe, Int.reduceBEq]
      refine awp_imp (imp_view (e := [(3, .int .i64 t), (6, .ref (s.c gd) 0), (7, .ref p.c 0), (8, .ref n.c 0), (11, .ref [.int .i64 r1, .int .i64 r2, .int .i64 r3, .int .i64 r4] 0), (14, .int .i64 0), (15, .bool (possB ⟨s, gd, p, n, t⟩))]) (h' := []) (nid' := 0) (n' := 280) (by simp [headW, heapW, envW, blkLt, D.ltL, D.lt, look, hget, hset, view, viewL, lg, vg])) ?_
      refine awp_peel (T := [(8, [(14, false, true, [(10, 1), (9, 1), (6, 1), (6, 0), (5, 1), (5, 0)]), (2, false, false, [])]), (13, [(10, false, true, [(4, 6), (3, 6), (0, 6)]), (3, false, false, [])]), (18, [(7, false, true, [(1, 3), (0, 3)]), (5, false, false, [])]), (30, [(24, false, false, [])])]) o54_ok (by kernel_rfl) (by kernel_rfl) ?_
      simp only [FS, ↓RE, okR, argEnv, Nat.reduceAdd, Nat.reduceSub, Nat.reduceLT, Nat.reduceLeDiff, Nat.reduceEqDiff, reduceIte, vg, lg, cg]
      have ha3 := fun h nid => app_nils (P := Tryz.prog) Fz.und_25 Fz.size_75 Fz.zero_75 rfl (by omega) Fz.bytes_75_25 h nid (x := .sl (s.w.tide.rs.map Rd.d)) (xs := s.w.tide.rs.map Rd.d) rfl (okSrc_rd _) (by rw [List.length_map]; omega) (by rw [List.length_map]; omega)
      have hd3 := fun h => litD_agg (P := Tryz.prog) Fz.und_25 Fz.size_75 Fz.zero_75 rfl (by omega) (by omega) h [.int .i64 r1, .int .i64 r2, .int .i64 r3, .int .i64 r4] rfl rfl
      have ha4 := fun h nid (hb : hget h 1 = some (.arr 75 4 (s.w.tide.rs.map Rd.d))) => app_sl (P := Tryz.prog) (h := h) (nid := nid) Fz.und_25 Fz.size_75 Fz.zero_75 rfl (by omega) Fz.bytes_75_25 (b := 1) (n := s.w.tide.rs.length) (xs := [[.int .i64 r1, .int .i64 r2, .int .i64 r3, .int .i64 r4]]) hb (List.length_map _).symm rfl (by simp only [List.length_map, List.length_cons, List.length_nil]; omega) (by simp only [List.length_map, List.length_cons, List.length_nil]; omega)
      refine awp_peel (T := [(8, [(14, false, true, [(10, 1), (9, 1), (6, 1), (6, 0), (5, 1), (5, 0)]), (2, false, false, [])]), (13, [(10, false, true, [(4, 6), (3, 6), (0, 6)]), (3, false, false, [])]), (18, [(7, false, true, [(1, 3), (0, 3)]), (5, false, false, [])]), (30, [(24, false, false, [])])]) o54_ok (by kernel_rfl) (by kernel_rfl) ?_
      simp only [FS, ↓RE, okR, argEnv, Nat.reduceAdd, Nat.reduceSub, Nat.reduceLT, Nat.reduceLeDiff, Nat.reduceEqDiff, reduceIte, vg, lg, cg, ha3, hd3, ha4, cur_osl, curC_arr, decide_true, cells_osl, List.length_append, List.length_map, Option.map_none, Option.map_some]
      have hfz : ∀ h1 h2, frzD h1 h2 gd = gd := fun h1 h2 => by rcases En.inv h.gd with e | ⟨e, _⟩ <;> rw [e] <;> rfl
      have hsx : SeL (moreS s ⟨r1, r2, r3, r4⟩) gd := seL_more h _ (by omega)
      have hMo := gSe_eq hsx
      simp only [Se.c, Se.cr, Wx.c, gaC, moreS, moreG, List.map_append, List.map_cons, List.map_nil, Rd.d] at hMo
      refine awp_peel (T := [(8, [(14, false, true, [(10, 1), (9, 1), (6, 1), (6, 0), (5, 1), (5, 0)]), (2, false, false, [])]), (13, [(10, false, true, [(4, 6), (3, 6), (0, 6)]), (3, false, false, [])]), (18, [(7, false, true, [(1, 3), (0, 3)]), (5, false, false, [])]), (30, [(24, false, false, [])])]) o54_ok (by kernel_rfl) (by kernel_rfl) ?_
      cases hs2 : okSe (moreS s ⟨r1, r2, r3, r4⟩)
      · simp only [moreS, moreG] at hs2
        simp only [FS, ↓RE, okR, argEnv, Nat.reduceAdd, Nat.reduceSub, Nat.reduceLT, Nat.reduceLeDiff, Nat.reduceEqDiff, reduceIte, vg, lg, cg, List.length_append, List.length_map, decide_true, hMo, hs2, gTrue_eq]
      have hsw2 : orc decWx okWx (fun w => .bool (soundW w)) [.agg ((moreS s ⟨r1, r2, r3, r4⟩).w.c [])] = some (.bool (soundW (moreS s ⟨r1, r2, r3, r4⟩).w)) := orc_eq (decWx_eq _) (okSe_wx hs2)
      simp only [Wx.c, gaC, moreS, moreG, List.map_append, List.map_cons, List.map_nil, Rd.d] at hsw2
      have hs2' := hs2
      simp only [moreS, moreG] at hs2'
      cases hso2 : soundW (moreS s ⟨r1, r2, r3, r4⟩).w
      · simp only [moreS, moreG] at hso2
        simp only [FS, ↓RE, okR, argEnv, Nat.reduceAdd, Nat.reduceSub, Nat.reduceLT, Nat.reduceLeDiff, Nat.reduceEqDiff, reduceIte, vg, lg, cg, List.length_append, List.length_map, decide_true, hMo, hs2', hsw2, hso2, gTrue_eq]
      have hso2' := hso2
      simp only [moreS, moreG] at hso2'
      simp only [FS, ↓RE, okR, argEnv, Nat.reduceAdd, Nat.reduceSub, Nat.reduceLT, Nat.reduceLeDiff, Nat.reduceEqDiff, reduceIte, vg, lg, cg, List.length_append, List.length_map, decide_true, hMo, hs2', hsw2, hso2', gTrue_eq]
      refine awp_imp (imp_thaw 1 (imp_view (e := [(3, .int .i64 t), (6, .ref (s.c gd) 0), (7, .ref p.c 0), (8, .ref n.c 0), (14, .int .i64 0), (15, .bool (possB ⟨s, gd, p, n, t⟩)), (24, .ref ((moreS s ⟨r1, r2, r3, r4⟩).c gd) 0)]) (h' := []) (nid' := 0) (n' := 280) (by simp [headW, heapW, envW, blkLt, D.ltL, D.lt, look, hget, hset, view, viewL, lg, vg, Rd.d, frzHH, frzBlk, herase, hfz, fz_int, fz_sl, fz_ref, fz_ptr, fz_osl, fzC_arr, fzC_some, fz_bool, fz_nils, fz_agg]))) ?_
      have hk2 : LkOk ⟨moreS s ⟨r1, r2, r3, r4⟩, gd, p, n, t⟩ := ⟨hsx, hs2, hp, hn, ht⟩
      have hPx := gPo_eq (l := ⟨moreS s ⟨r1, r2, r3, r4⟩, gd, p, n, t⟩) hsx
      have hSx := gSu_eq (l := ⟨moreS s ⟨r1, r2, r3, r4⟩, gd, p, n, t⟩) hsx
      rw [poss_form _ hk2 hso2] at hPx
      obtain ⟨a3, b3, eS3, qS3⟩ := sure_form _ hk2 hso2
      rw [eS3] at hSx
      obtain rfl : b3 = 0 := by
        rcases qS3 with ⟨q, _⟩ | ⟨_, q⟩
        · exact q
        · rw [more_surely hk hk2 hsu] at q; cases q
      have hpp : (possB ⟨moreS s ⟨r1, r2, r3, r4⟩, gd, p, n, t⟩ = false) ∨ (possB ⟨moreS s ⟨r1, r2, r3, r4⟩, gd, p, n, t⟩ = true ∧ possB ⟨s, gd, p, n, t⟩ = true) := by
        cases q : possB ⟨moreS s ⟨r1, r2, r3, r4⟩, gd, p, n, t⟩
        · exact .inl rfl
        · exact .inr ⟨rfl, more_poss hk hk2 q⟩
      generalize hpx : possB ⟨moreS s ⟨r1, r2, r3, r4⟩, gd, p, n, t⟩ = px at hpp hPx
      simp only [Se.c, Se.cr, Wx.c, gaC, moreS, moreG, List.map_append, List.map_cons, List.map_nil, Rd.d] at hPx hSx
      have hwx2 := okWx_gaOk (okSe_wx hs2)
      have hB1 : gGa BoundsA [.agg [.int .i64 s.w.tide.rate, .int .i64 s.w.tide.least, .int .i64 s.w.tide.most, .sl (s.w.tide.rs.map Rd.d)]] = some (.tup [.sl ((bndQ s.w.tide).map enS.d), .int .i64 0]) := by
        rw [gGa_eq _ _ _ _ (by omega), ← bounds_ok hwx.tide hso'.1]
      have hB2 : gGa BoundsA [.agg [.int .i64 s.w.tide.rate, .int .i64 s.w.tide.least, .int .i64 s.w.tide.most, .sl ((s.w.tide.rs ++ [(⟨r1, r2, r3, r4⟩ : Rd)]).map Rd.d)]] = some (.tup [.sl ((bndQ (moreG s.w.tide ⟨r1, r2, r3, r4⟩)).map enS.d), .int .i64 0]) := by
        rw [gGa_eq _ _ _ _ (by simp only [List.length_append, List.length_singleton]; omega), ← bounds_ok hwx2.tide (sound_north hso2).1]
      simp only [List.map_append, List.map_cons, List.map_nil, Rd.d] at hB2
      have hbn := fun x y => binB_ne (P := Tryz.prog) Fz.und_4 x y
      have hl1 : ∀ hp, lenOpD Tryz.prog hp 22 (.sl ((bndQ s.w.tide).map enS.d)) = some (.int .i64 1441) := fun hp => by rw [En.len (P := Tryz.prog) Fz.und_22 (En.sl_map (E := enS) (bndQ s.w.tide)) hp, bndQ_len]; rfl
      have hl2 : ∀ hp, lenOpD Tryz.prog hp 22 (.sl ((bndQ (moreG s.w.tide ⟨r1, r2, r3, r4⟩)).map enS.d)) = some (.int .i64 1441) := fun hp => by rw [En.len (P := Tryz.prog) Fz.und_22 (En.sl_map (E := enS) (bndQ (moreG s.w.tide ⟨r1, r2, r3, r4⟩))) hp, bndQ_len]; rfl
      refine awp_peel (T := [(8, [(14, false, true, [(10, 1), (9, 1), (6, 1), (6, 0), (5, 1), (5, 0)]), (2, false, false, [])]), (13, [(10, false, true, [(4, 6), (3, 6), (0, 6)]), (3, false, false, [])]), (18, [(7, false, true, [(1, 3), (0, 3)]), (5, false, false, [])]), (30, [(24, false, false, [])])]) o54_ok (by kernel_rfl) (by kernel_rfl) ?_
      simp only [FS, ↓RE, okR, argEnv, Nat.reduceAdd, Nat.reduceSub, Nat.reduceLT, Nat.reduceLeDiff, Nat.reduceEqDiff, reduceIte, vg, lg, cg, List.map_append, List.map_cons, List.map_nil, Rd.d, ex_tup, hB1]
      refine awp_peel (T := [(8, [(14, false, true, [(10, 1), (9, 1), (6, 1), (6, 0), (5, 1), (5, 0)]), (2, false, false, [])]), (13, [(10, false, true, [(4, 6), (3, 6), (0, 6)]), (3, false, false, [])]), (18, [(7, false, true, [(1, 3), (0, 3)]), (5, false, false, [])]), (30, [(24, false, false, [])])]) o54_ok (by kernel_rfl) (by kernel_rfl) ?_
      simp only [FS, ↓RE, okR, argEnv, Nat.reduceAdd, Nat.reduceSub, Nat.reduceLT, Nat.reduceLeDiff, Nat.reduceEqDiff, reduceIte, vg, lg, cg, List.map_append, List.map_cons, List.map_nil, Rd.d, ex_tup, hB2]
      refine awp_peel (T := [(8, [(14, false, true, [(10, 1), (9, 1), (6, 1), (6, 0), (5, 1), (5, 0)]), (2, false, false, [])]), (13, [(10, false, true, [(4, 6), (3, 6), (0, 6)]), (3, false, false, [])]), (18, [(7, false, true, [(1, 3), (0, 3)]), (5, false, false, [])]), (30, [(24, false, false, [])])]) o54_ok (by kernel_rfl) (by kernel_rfl) ?_
      simp only [FS, ↓RE, okR, argEnv, Nat.reduceAdd, Nat.reduceSub, Nat.reduceLT, Nat.reduceLeDiff, Nat.reduceEqDiff, reduceIte, vg, lg, cg, List.map_append, List.map_cons, List.map_nil, Rd.d, ex_tup, hSx]
      refine awp_peel (T := [(8, [(14, false, true, [(10, 1), (9, 1), (6, 1), (6, 0), (5, 1), (5, 0)]), (2, false, false, [])]), (13, [(10, false, true, [(4, 6), (3, 6), (0, 6)]), (3, false, false, [])]), (18, [(7, false, true, [(1, 3), (0, 3)]), (5, false, false, [])]), (30, [(24, false, false, [])])]) o54_ok (by kernel_rfl) (by kernel_rfl) ?_
      simp only [FS, ↓RE, okR, argEnv, Nat.reduceAdd, Nat.reduceSub, Nat.reduceLT, Nat.reduceLeDiff, Nat.reduceEqDiff, reduceIte, vg, lg, cg, List.map_append, List.map_cons, List.map_nil, Rd.d, ex_tup, hPx]
      refine awp_peel (T := [(8, [(14, false, true, [(10, 1), (9, 1), (6, 1), (6, 0), (5, 1), (5, 0)]), (2, false, false, [])]), (13, [(10, false, true, [(4, 6), (3, 6), (0, 6)]), (3, false, false, [])]), (18, [(7, false, true, [(1, 3), (0, 3)]), (5, false, false, [])]), (30, [(24, false, false, [])])]) o54_ok (by kernel_rfl) (by kernel_rfl) ?_
      rcases hpp with rfl | ⟨rfl, hpo⟩
      rotate_left
      all_goals
        try rw [hpo]
        simp only [FS, ↓RE, okR, argEnv, Nat.reduceAdd, Nat.reduceSub, Nat.reduceLT, Nat.reduceLeDiff, Nat.reduceEqDiff, reduceIte, vg, lg, cg, hl1, hl2, bne_self_eq_false, beq_self_eq_true, Int.reduceBNe, Int.reduceBEq]
        refine awp_rest (T := [(8, [(14, false, true, [(10, 1), (9, 1), (6, 1), (6, 0), (5, 1), (5, 0)]), (2, false, false, [])]), (13, [(10, false, true, [(4, 6), (3, 6), (0, 6)]), (3, false, false, [])]), (18, [(7, false, true, [(1, 3), (0, 3)]), (5, false, false, [])]), (30, [(24, false, false, [])])]) o54_ok (by kernel_rfl) (by kernel_rfl) ?_
        simp only [FS, ↓RE, okR, argEnv, Nat.reduceAdd, Nat.reduceSub, Nat.reduceLT, Nat.reduceLeDiff, Nat.reduceEqDiff, reduceIte, vg, lg, cg]
        refine loopV (ι := Nat) o54_ok [(8, [(14, false, true, [(10, 1), (9, 1), (6, 1), (6, 0), (5, 1), (5, 0)]), (2, false, false, [])]), (13, [(10, false, true, [(4, 6), (3, 6), (0, 6)]), (3, false, false, [])]), (18, [(7, false, true, [(1, 3), (0, 3)]), (5, false, false, [])]), (30, [(24, false, false, [])])] (fun i => [(25, .sl ((bndQ s.w.tide).map enS.d)), (27, .sl ((bndQ (moreG s.w.tide ⟨r1, r2, r3, r4⟩)).map enS.d)), (33, .int .i64 (i : Int))])
          (fun i => []) 0 (fun i => i ≤ 1441) (fun i => 1441 - i) 0 (by kernel_rfl) (by kernel_rfl) (Nat.zero_le _) ?_ ?_
        · simp [headW, heapW, envW, blkLt, D.ltL, D.lt, look, hget, lg]
        intro i hi
        rcases Nat.lt_or_ge i 1441 with hlt | hge
        rotate_left
        · have hc : ((i : Int) < 1441) = False := by simp; omega
          simp only [FS, ↓RE, okR, argEnv, Nat.reduceAdd, Nat.reduceSub, Nat.reduceLT, Nat.reduceLeDiff, Nat.reduceEqDiff, reduceIte, vg, lg, cg, hl1, hl2, hc, decide_false, gTrue_eq]
        have hc : ((i : Int) < 1441) = True := by simp; omega
        have hm := more_at s.w.tide ⟨r1, r2, r3, r4⟩ (i : Int)
        have hix1 : ∀ hp, indexAddrD Tryz.prog hp 22 (.sl ((bndQ s.w.tide).map enS.d)) (.int .i64 (i : Int)) = some (.ref [.int .i64 (atL s.w.tide (i : Int)).1, .int .i64 (atL s.w.tide (i : Int)).2] 0) := fun hp => En.ix (P := Tryz.prog) Fz.und_22 Fz.size_70 (En.sl_map (E := enS) (bndQ s.w.tide)) (bndQ_at _ hlt) hp .i64
        have hix2 : ∀ hp, indexAddrD Tryz.prog hp 22 (.sl ((bndQ (moreG s.w.tide ⟨r1, r2, r3, r4⟩)).map enS.d)) (.int .i64 (i : Int)) = some (.ref [.int .i64 (atL (moreG s.w.tide ⟨r1, r2, r3, r4⟩) (i : Int)).1, .int .i64 (atL (moreG s.w.tide ⟨r1, r2, r3, r4⟩) (i : Int)).2] 0) := fun hp => En.ix (P := Tryz.prog) Fz.und_22 Fz.size_70 (En.sl_map (E := enS) (bndQ (moreG s.w.tide ⟨r1, r2, r3, r4⟩))) (bndQ_at _ hlt) hp .i64
        generalize atL s.w.tide (i : Int) = A1 at hm hix1
        generalize atL (moreG s.w.tide ⟨r1, r2, r3, r4⟩) (i : Int) = A2 at hm hix2
        have c1 : (A2.1 < A1.1) = False := by simp; omega
        have c2 : (A1.2 < A2.2) = False := by simp; omega
        have hwi := wrap_i64 (z := (i : Int) + 1) (by omega) (by omega)
        simp only [FS, ↓RE, okR, argEnv, Nat.reduceAdd, Nat.reduceSub, Nat.reduceLT, Nat.reduceLeDiff, Nat.reduceEqDiff, reduceIte, vg, lg, cg, hl1, hl2, hc, decide_true, decide_false, hix1, hix2, c1, c2, hwi]
        exact ⟨i + 1, by omega, by omega, by simp [headW, heapW, envW, blkLt, D.ltL, D.lt, look, hget, lg]⟩
  · skip
    refine awp_peel (T := [(8, [(14, false, true, [(10, 1), (9, 1), (6, 1), (6, 0), (5, 1), (5, 0)]), (2, false, false, [])]), (13, [(10, false, true, [(4, 6), (3, 6), (0, 6)]), (3, false, false, [])]), (18, [(7, false, true, [(1, 3), (0, 3)]), (5, false, false, [])]), (30, [(24, false, false, [])])]) o54_ok (by kernel_rfl) (by kernel_rfl) ?_
    simp only [FS, ↓RE, okR, argEnv, Nat.reduceAdd, Nat.reduceSub, Nat.reduceLT, Nat.reduceLeDiff, Nat.reduceEqDiff, reduceIte, vg, lg, cg, bne_self_eq_false, Int.reduceBNe]
    refine awp_peel (T := [(8, [(14, false, true, [(10, 1), (9, 1), (6, 1), (6, 0), (5, 1), (5, 0)]), (2, false, false, [])]), (13, [(10, false, true, [(4, 6), (3, 6), (0, 6)]), (3, false, false, [])]), (18, [(7, false, true, [(1, 3), (0, 3)]), (5, false, false, [])]), (30, [(24, false, false, [])])]) o54_ok (by kernel_rfl) (by kernel_rfl) ?_
    simp only [FS, ↓RE, okR, argEnv, Nat.reduceAdd, Nat.reduceSub, Nat.reduceLT, Nat.reduceLeDiff, Nat.reduceEqDiff, reduceIte, vg, lg, cg]
    refine awp_peel (T := [(8, [(14, false, true, [(10, 1), (9, 1), (6, 1), (6, 0), (5, 1), (5, 0)]), (2, false, false, [])]), (13, [(10, false, true, [(4, 6), (3, 6), (0, 6)]), (3, false, false, [])]), (18, [(7, false, true, [(1, 3), (0, 3)]), (5, false, false, [])]), (30, [(24, false, false, [])])]) o54_ok (by kernel_rfl) (by kernel_rfl) ?_
    simp only [FS, ↓RE, okR, argEnv, Nat.reduceAdd, Nat.reduceSub, Nat.reduceLT, Nat.reduceLeDiff, Nat.reduceEqDiff, reduceIte, vg, lg, cg, y1, y2, y3, y4, y5, y6, y7]
    refine awp_peel (T := [(8, [(14, false, true, [(10, 1), (9, 1), (6, 1), (6, 0), (5, 1), (5, 0)]), (2, false, false, [])]), (13, [(10, false, true, [(4, 6), (3, 6), (0, 6)]), (3, false, false, [])]), (18, [(7, false, true, [(1, 3), (0, 3)]), (5, false, false, [])]), (30, [(24, false, false, [])])]) o54_ok (by kernel_rfl) (by kernel_rfl) ?_
    simp only [FS, ↓RE, okR, argEnv, Nat.reduceAdd, Nat.reduceSub, Nat.reduceLT, Nat.reduceLeDiff, Nat.reduceEqDiff, reduceIte, vg, lg, cg, hS1, ex_tup]
    refine awp_peel (T := [(8, [(14, false, true, [(10, 1), (9, 1), (6, 1), (6, 0), (5, 1), (5, 0)]), (2, false, false, [])]), (13, [(10, false, true, [(4, 6), (3, 6), (0, 6)]), (3, false, false, [])]), (18, [(7, false, true, [(1, 3), (0, 3)]), (5, false, false, [])]), (30, [(24, false, false, [])])]) o54_ok (by kernel_rfl) (by kernel_rfl) ?_
    simp only [FS, ↓RE, okR, argEnv, Nat.reduceAdd, Nat.reduceSub, Nat.reduceLT, Nat.reduceLeDiff, Nat.reduceEqDiff, reduceIte, vg, lg, cg]
    by_cases hbz : (0 : Int) < (s.boats.length : Int)
    · skip
      have hrm := a_rem' (k := .i64) (x := w) (y := (s.boats.length : Int)) (by omega)
      obtain ⟨k, hkl, hke⟩ : ∃ k : Nat, k < s.boats.length ∧ w.tmod (s.boats.length : Int) = (k : Int) := by
        have q1 := Int.emod_nonneg w (b := (s.boats.length : Int)) (by omega)
        have q2 := Int.emod_lt_of_pos w hbz
        refine ⟨(w % (s.boats.length : Int)).toNat, by omega, ?_⟩
        rw [Int.tmod_eq_emod_of_nonneg (by omega)]; omega
      rw [hke] at hrm
      have wk := wrap_i64 (z := (k : Int) + 1) (by omega) (by omega)
      have s1 : sliceD Tryz.prog 30 (.sl (s.boats.map enBt.d)) none (some (.int .i64 (k : Int))) = some (.sl ((s.boats.take k).map enBt.d)) := by
        rw [slice_hi Fz.und_30 Fz.size_72 hlb (by rw [List.length_map]; omega), List.map_take]
      have s2 : sliceD Tryz.prog 30 (.sl (s.boats.map enBt.d)) (some (.int .i64 ((k : Int) + 1))) none = some (.sl ((s.boats.drop (k + 1)).map enBt.d)) := by
        rw [show (k : Int) + 1 = ((k + 1 : Nat) : Int) by omega, slice_lo Fz.und_30 Fz.size_72 hlb (by rw [List.length_map]; omega), List.map_drop]
      have ll1 : (s.boats.take k).length ≤ 12 := by rw [List.length_take]; omega
      have ll2 : (s.boats.drop (k + 1)).length ≤ 12 := by rw [List.length_drop]; omega
      have ha1 := fun h nid => app_nils (P := Tryz.prog) Fz.und_30 Fz.size_72 Fz.zero_72 rfl (by omega) Fz.bytes_72_30 h nid (x := .sl ((s.boats.take k).map enBt.d)) (xs := (s.boats.take k).map enBt.d) rfl (okSrc_bt _) (by rw [List.length_map]; omega) (by rw [List.length_map]; omega)
      have ha2 := fun h nid (hb : hget h 6 = some (.arr 72 7 ((s.boats.take k).map enBt.d))) => app_sl (P := Tryz.prog) (h := h) (nid := nid) Fz.und_30 Fz.size_72 Fz.zero_72 rfl (by omega) Fz.bytes_72_30 (b := 6) (n := (s.boats.take k).length) (xs := (s.boats.drop (k + 1)).map enBt.d) hb (List.length_map _).symm (okSrc_bt _) (by simp only [List.length_map]; omega) (by simp only [List.length_map]; omega)
      have hFew := gSu_eq (l := ⟨fewS s k, gd, p, n, t⟩) (seL_few h k)
      obtain ⟨a2, b2, eS2, qS2⟩ := sure_form ⟨fewS s k, gd, p, n, t⟩ ⟨seL_few h k, okSe_few hs k, hp, hn, ht⟩ hso
      rw [eS2] at hFew
      have hfe := few_surely hk k
      simp only [Se.c, Se.cr, Wx.c, gaC, fewS, List.map_append] at hFew

      refine awp_peel (T := [(8, [(14, false, true, [(10, 1), (9, 1), (6, 1), (6, 0), (5, 1), (5, 0)]), (2, false, false, [])]), (13, [(10, false, true, [(4, 6), (3, 6), (0, 6)]), (3, false, false, [])]), (18, [(7, false, true, [(1, 3), (0, 3)]), (5, false, false, [])]), (30, [(24, false, false, [])])]) o54_ok (by kernel_rfl) (by kernel_rfl) ?_
      simp only [FS, ↓RE, okR, argEnv, Nat.reduceAdd, Nat.reduceSub, Nat.reduceLT, Nat.reduceLeDiff, Nat.reduceEqDiff, reduceIte, vg, lg, cg, hbl, hbz, decide_true, hrm, hke, s1, s2, wk, ha1, ha2, Option.map_none, Option.map_some, cur_osl, curC_arr, decide_true, cells_osl, List.length_append, List.length_map]
      refine awp_peel (T := [(8, [(14, false, true, [(10, 1), (9, 1), (6, 1), (6, 0), (5, 1), (5, 0)]), (2, false, false, [])]), (13, [(10, false, true, [(4, 6), (3, 6), (0, 6)]), (3, false, false, [])]), (18, [(7, false, true, [(1, 3), (0, 3)]), (5, false, false, [])]), (30, [(24, false, false, [])])]) o54_ok (by kernel_rfl) (by kernel_rfl) ?_
      simp only [FS, ↓RE, okR, argEnv, Nat.reduceAdd, Nat.reduceSub, Nat.reduceLT, Nat.reduceLeDiff, Nat.reduceEqDiff, reduceIte, vg, lg, cg, hFew, ex_tup, List.length_append, List.length_map, decide_true]
      refine awp_peel (T := [(8, [(14, false, true, [(10, 1), (9, 1), (6, 1), (6, 0), (5, 1), (5, 0)]), (2, false, false, [])]), (13, [(10, false, true, [(4, 6), (3, 6), (0, 6)]), (3, false, false, [])]), (18, [(7, false, true, [(1, 3), (0, 3)]), (5, false, false, [])]), (30, [(24, false, false, [])])]) o54_ok (by kernel_rfl) (by kernel_rfl) ?_
      simp only [FS, ↓RE, okR, argEnv, Nat.reduceAdd, Nat.reduceSub, Nat.reduceLT, Nat.reduceLeDiff, Nat.reduceEqDiff, reduceIte, vg, lg, cg, bne_self_eq_false, beq_self_eq_true, Int.reduceBNe, Int.reduceBEq]
      refine awp_imp (imp_view (e := [(3, .int .i64 t), (6, .ref (s.c gd) 0), (7, .ref p.c 0), (8, .ref n.c 0), (11, .ref [.int .i64 r1, .int .i64 r2, .int .i64 r3, .int .i64 r4] 0), (14, .int .i64 7), (15, .bool (possB ⟨s, gd, p, n, t⟩))]) (h' := []) (nid' := 0) (n' := 280) (by simp [headW, heapW, envW, blkLt, D.ltL, D.lt, look, hget, hset, view, viewL, lg, vg])) ?_
      refine awp_peel (T := [(8, [(14, false, true, [(10, 1), (9, 1), (6, 1), (6, 0), (5, 1), (5, 0)]), (2, false, false, [])]), (13, [(10, false, true, [(4, 6), (3, 6), (0, 6)]), (3, false, false, [])]), (18, [(7, false, true, [(1, 3), (0, 3)]), (5, false, false, [])]), (30, [(24, false, false, [])])]) o54_ok (by kernel_rfl) (by kernel_rfl) ?_
      simp only [FS, ↓RE, okR, argEnv, Nat.reduceAdd, Nat.reduceSub, Nat.reduceLT, Nat.reduceLeDiff, Nat.reduceEqDiff, reduceIte, vg, lg, cg]
      have ha3 := fun h nid => app_nils (P := Tryz.prog) Fz.und_25 Fz.size_75 Fz.zero_75 rfl (by omega) Fz.bytes_75_25 h nid (x := .sl (s.w.tide.rs.map Rd.d)) (xs := s.w.tide.rs.map Rd.d) rfl (okSrc_rd _) (by rw [List.length_map]; omega) (by rw [List.length_map]; omega)
      have hd3 := fun h => litD_agg (P := Tryz.prog) Fz.und_25 Fz.size_75 Fz.zero_75 rfl (by omega) (by omega) h [.int .i64 r1, .int .i64 r2, .int .i64 r3, .int .i64 r4] rfl rfl
      have ha4 := fun h nid (hb : hget h 1 = some (.arr 75 4 (s.w.tide.rs.map Rd.d))) => app_sl (P := Tryz.prog) (h := h) (nid := nid) Fz.und_25 Fz.size_75 Fz.zero_75 rfl (by omega) Fz.bytes_75_25 (b := 1) (n := s.w.tide.rs.length) (xs := [[.int .i64 r1, .int .i64 r2, .int .i64 r3, .int .i64 r4]]) hb (List.length_map _).symm rfl (by simp only [List.length_map, List.length_cons, List.length_nil]; omega) (by simp only [List.length_map, List.length_cons, List.length_nil]; omega)
      refine awp_peel (T := [(8, [(14, false, true, [(10, 1), (9, 1), (6, 1), (6, 0), (5, 1), (5, 0)]), (2, false, false, [])]), (13, [(10, false, true, [(4, 6), (3, 6), (0, 6)]), (3, false, false, [])]), (18, [(7, false, true, [(1, 3), (0, 3)]), (5, false, false, [])]), (30, [(24, false, false, [])])]) o54_ok (by kernel_rfl) (by kernel_rfl) ?_
      simp only [FS, ↓RE, okR, argEnv, Nat.reduceAdd, Nat.reduceSub, Nat.reduceLT, Nat.reduceLeDiff, Nat.reduceEqDiff, reduceIte, vg, lg, cg, ha3, hd3, ha4, cur_osl, curC_arr, decide_true, cells_osl, List.length_append, List.length_map, Option.map_none, Option.map_some]
      have hfz : ∀ h1 h2, frzD h1 h2 gd = gd := fun h1 h2 => by rcases En.inv h.gd with e | ⟨e, _⟩ <;> rw [e] <;> rfl
      have hsx : SeL (moreS s ⟨r1, r2, r3, r4⟩) gd := seL_more h _ (by omega)
      have hMo := gSe_eq hsx
      simp only [Se.c, Se.cr, Wx.c, gaC, moreS, moreG, List.map_append, List.map_cons, List.map_nil, Rd.d] at hMo
      refine awp_peel (T := [(8, [(14, false, true, [(10, 1), (9, 1), (6, 1), (6, 0), (5, 1), (5, 0)]), (2, false, false, [])]), (13, [(10, false, true, [(4, 6), (3, 6), (0, 6)]), (3, false, false, [])]), (18, [(7, false, true, [(1, 3), (0, 3)]), (5, false, false, [])]), (30, [(24, false, false, [])])]) o54_ok (by kernel_rfl) (by kernel_rfl) ?_
      cases hs2 : okSe (moreS s ⟨r1, r2, r3, r4⟩)
      · simp only [moreS, moreG] at hs2
        simp only [FS, ↓RE, okR, argEnv, Nat.reduceAdd, Nat.reduceSub, Nat.reduceLT, Nat.reduceLeDiff, Nat.reduceEqDiff, reduceIte, vg, lg, cg, List.length_append, List.length_map, decide_true, hMo, hs2, gTrue_eq]
      have hsw2 : orc decWx okWx (fun w => .bool (soundW w)) [.agg ((moreS s ⟨r1, r2, r3, r4⟩).w.c [])] = some (.bool (soundW (moreS s ⟨r1, r2, r3, r4⟩).w)) := orc_eq (decWx_eq _) (okSe_wx hs2)
      simp only [Wx.c, gaC, moreS, moreG, List.map_append, List.map_cons, List.map_nil, Rd.d] at hsw2
      have hs2' := hs2
      simp only [moreS, moreG] at hs2'
      cases hso2 : soundW (moreS s ⟨r1, r2, r3, r4⟩).w
      · simp only [moreS, moreG] at hso2
        simp only [FS, ↓RE, okR, argEnv, Nat.reduceAdd, Nat.reduceSub, Nat.reduceLT, Nat.reduceLeDiff, Nat.reduceEqDiff, reduceIte, vg, lg, cg, List.length_append, List.length_map, decide_true, hMo, hs2', hsw2, hso2, gTrue_eq]
      have hso2' := hso2
      simp only [moreS, moreG] at hso2'
      simp only [FS, ↓RE, okR, argEnv, Nat.reduceAdd, Nat.reduceSub, Nat.reduceLT, Nat.reduceLeDiff, Nat.reduceEqDiff, reduceIte, vg, lg, cg, List.length_append, List.length_map, decide_true, hMo, hs2', hsw2, hso2', gTrue_eq]
      refine awp_imp (imp_thaw 1 (imp_view (e := [(3, .int .i64 t), (6, .ref (s.c gd) 0), (7, .ref p.c 0), (8, .ref n.c 0), (14, .int .i64 7), (15, .bool (possB ⟨s, gd, p, n, t⟩)), (24, .ref ((moreS s ⟨r1, r2, r3, r4⟩).c gd) 0)]) (h' := []) (nid' := 0) (n' := 280) (by simp [headW, heapW, envW, blkLt, D.ltL, D.lt, look, hget, hset, view, viewL, lg, vg, Rd.d, frzHH, frzBlk, herase, hfz, fz_int, fz_sl, fz_ref, fz_ptr, fz_osl, fzC_arr, fzC_some, fz_bool, fz_nils, fz_agg]))) ?_
      have hk2 : LkOk ⟨moreS s ⟨r1, r2, r3, r4⟩, gd, p, n, t⟩ := ⟨hsx, hs2, hp, hn, ht⟩
      have hPx := gPo_eq (l := ⟨moreS s ⟨r1, r2, r3, r4⟩, gd, p, n, t⟩) hsx
      have hSx := gSu_eq (l := ⟨moreS s ⟨r1, r2, r3, r4⟩, gd, p, n, t⟩) hsx
      rw [poss_form _ hk2 hso2] at hPx
      obtain ⟨a3, b3, eS3, qS3⟩ := sure_form _ hk2 hso2
      rw [eS3] at hSx
      have hpp : (possB ⟨moreS s ⟨r1, r2, r3, r4⟩, gd, p, n, t⟩ = false) ∨ (possB ⟨moreS s ⟨r1, r2, r3, r4⟩, gd, p, n, t⟩ = true ∧ possB ⟨s, gd, p, n, t⟩ = true) := by
        cases q : possB ⟨moreS s ⟨r1, r2, r3, r4⟩, gd, p, n, t⟩
        · exact .inl rfl
        · exact .inr ⟨rfl, more_poss hk hk2 q⟩
      generalize hpx : possB ⟨moreS s ⟨r1, r2, r3, r4⟩, gd, p, n, t⟩ = px at hpp hPx
      simp only [Se.c, Se.cr, Wx.c, gaC, moreS, moreG, List.map_append, List.map_cons, List.map_nil, Rd.d] at hPx hSx
      have hwx2 := okWx_gaOk (okSe_wx hs2)
      have hB1 : gGa BoundsA [.agg [.int .i64 s.w.tide.rate, .int .i64 s.w.tide.least, .int .i64 s.w.tide.most, .sl (s.w.tide.rs.map Rd.d)]] = some (.tup [.sl ((bndQ s.w.tide).map enS.d), .int .i64 0]) := by
        rw [gGa_eq _ _ _ _ (by omega), ← bounds_ok hwx.tide hso'.1]
      have hB2 : gGa BoundsA [.agg [.int .i64 s.w.tide.rate, .int .i64 s.w.tide.least, .int .i64 s.w.tide.most, .sl ((s.w.tide.rs ++ [(⟨r1, r2, r3, r4⟩ : Rd)]).map Rd.d)]] = some (.tup [.sl ((bndQ (moreG s.w.tide ⟨r1, r2, r3, r4⟩)).map enS.d), .int .i64 0]) := by
        rw [gGa_eq _ _ _ _ (by simp only [List.length_append, List.length_singleton]; omega), ← bounds_ok hwx2.tide (sound_north hso2).1]
      simp only [List.map_append, List.map_cons, List.map_nil, Rd.d] at hB2
      have hbn := fun x y => binB_ne (P := Tryz.prog) Fz.und_4 x y
      have hl1 : ∀ hp, lenOpD Tryz.prog hp 22 (.sl ((bndQ s.w.tide).map enS.d)) = some (.int .i64 1441) := fun hp => by rw [En.len (P := Tryz.prog) Fz.und_22 (En.sl_map (E := enS) (bndQ s.w.tide)) hp, bndQ_len]; rfl
      have hl2 : ∀ hp, lenOpD Tryz.prog hp 22 (.sl ((bndQ (moreG s.w.tide ⟨r1, r2, r3, r4⟩)).map enS.d)) = some (.int .i64 1441) := fun hp => by rw [En.len (P := Tryz.prog) Fz.und_22 (En.sl_map (E := enS) (bndQ (moreG s.w.tide ⟨r1, r2, r3, r4⟩))) hp, bndQ_len]; rfl
      refine awp_peel (T := [(8, [(14, false, true, [(10, 1), (9, 1), (6, 1), (6, 0), (5, 1), (5, 0)]), (2, false, false, [])]), (13, [(10, false, true, [(4, 6), (3, 6), (0, 6)]), (3, false, false, [])]), (18, [(7, false, true, [(1, 3), (0, 3)]), (5, false, false, [])]), (30, [(24, false, false, [])])]) o54_ok (by kernel_rfl) (by kernel_rfl) ?_
      simp only [FS, ↓RE, okR, argEnv, Nat.reduceAdd, Nat.reduceSub, Nat.reduceLT, Nat.reduceLeDiff, Nat.reduceEqDiff, reduceIte, vg, lg, cg, List.map_append, List.map_cons, List.map_nil, Rd.d, ex_tup, hB1]
      refine awp_peel (T := [(8, [(14, false, true, [(10, 1), (9, 1), (6, 1), (6, 0), (5, 1), (5, 0)]), (2, false, false, [])]), (13, [(10, false, true, [(4, 6), (3, 6), (0, 6)]), (3, false, false, [])]), (18, [(7, false, true, [(1, 3), (0, 3)]), (5, false, false, [])]), (30, [(24, false, false, [])])]) o54_ok (by kernel_rfl) (by kernel_rfl) ?_
      simp only [FS, ↓RE, okR, argEnv, Nat.reduceAdd, Nat.reduceSub, Nat.reduceLT, Nat.reduceLeDiff, Nat.reduceEqDiff, reduceIte, vg, lg, cg, List.map_append, List.map_cons, List.map_nil, Rd.d, ex_tup, hB2]
      refine awp_peel (T := [(8, [(14, false, true, [(10, 1), (9, 1), (6, 1), (6, 0), (5, 1), (5, 0)]), (2, false, false, [])]), (13, [(10, false, true, [(4, 6), (3, 6), (0, 6)]), (3, false, false, [])]), (18, [(7, false, true, [(1, 3), (0, 3)]), (5, false, false, [])]), (30, [(24, false, false, [])])]) o54_ok (by kernel_rfl) (by kernel_rfl) ?_
      simp only [FS, ↓RE, okR, argEnv, Nat.reduceAdd, Nat.reduceSub, Nat.reduceLT, Nat.reduceLeDiff, Nat.reduceEqDiff, reduceIte, vg, lg, cg, List.map_append, List.map_cons, List.map_nil, Rd.d, ex_tup, hSx]
      refine awp_peel (T := [(8, [(14, false, true, [(10, 1), (9, 1), (6, 1), (6, 0), (5, 1), (5, 0)]), (2, false, false, [])]), (13, [(10, false, true, [(4, 6), (3, 6), (0, 6)]), (3, false, false, [])]), (18, [(7, false, true, [(1, 3), (0, 3)]), (5, false, false, [])]), (30, [(24, false, false, [])])]) o54_ok (by kernel_rfl) (by kernel_rfl) ?_
      simp only [FS, ↓RE, okR, argEnv, Nat.reduceAdd, Nat.reduceSub, Nat.reduceLT, Nat.reduceLeDiff, Nat.reduceEqDiff, reduceIte, vg, lg, cg, List.map_append, List.map_cons, List.map_nil, Rd.d, ex_tup, hPx]
      refine awp_peel (T := [(8, [(14, false, true, [(10, 1), (9, 1), (6, 1), (6, 0), (5, 1), (5, 0)]), (2, false, false, [])]), (13, [(10, false, true, [(4, 6), (3, 6), (0, 6)]), (3, false, false, [])]), (18, [(7, false, true, [(1, 3), (0, 3)]), (5, false, false, [])]), (30, [(24, false, false, [])])]) o54_ok (by kernel_rfl) (by kernel_rfl) ?_
      rcases hpp with rfl | ⟨rfl, hpo⟩
      rotate_left
      all_goals
        try rw [hpo]
        simp only [FS, ↓RE, okR, argEnv, Nat.reduceAdd, Nat.reduceSub, Nat.reduceLT, Nat.reduceLeDiff, Nat.reduceEqDiff, reduceIte, vg, lg, cg, hl1, hl2, bne_self_eq_false, beq_self_eq_true, Int.reduceBNe, Int.reduceBEq]
        refine awp_rest (T := [(8, [(14, false, true, [(10, 1), (9, 1), (6, 1), (6, 0), (5, 1), (5, 0)]), (2, false, false, [])]), (13, [(10, false, true, [(4, 6), (3, 6), (0, 6)]), (3, false, false, [])]), (18, [(7, false, true, [(1, 3), (0, 3)]), (5, false, false, [])]), (30, [(24, false, false, [])])]) o54_ok (by kernel_rfl) (by kernel_rfl) ?_
        simp only [FS, ↓RE, okR, argEnv, Nat.reduceAdd, Nat.reduceSub, Nat.reduceLT, Nat.reduceLeDiff, Nat.reduceEqDiff, reduceIte, vg, lg, cg]
        refine loopV (ι := Nat) o54_ok [(8, [(14, false, true, [(10, 1), (9, 1), (6, 1), (6, 0), (5, 1), (5, 0)]), (2, false, false, [])]), (13, [(10, false, true, [(4, 6), (3, 6), (0, 6)]), (3, false, false, [])]), (18, [(7, false, true, [(1, 3), (0, 3)]), (5, false, false, [])]), (30, [(24, false, false, [])])] (fun i => [(25, .sl ((bndQ s.w.tide).map enS.d)), (27, .sl ((bndQ (moreG s.w.tide ⟨r1, r2, r3, r4⟩)).map enS.d)), (33, .int .i64 (i : Int))])
          (fun i => []) 0 (fun i => i ≤ 1441) (fun i => 1441 - i) 0 (by kernel_rfl) (by kernel_rfl) (Nat.zero_le _) ?_ ?_
        · simp [headW, heapW, envW, blkLt, D.ltL, D.lt, look, hget, lg]
        intro i hi
        rcases Nat.lt_or_ge i 1441 with hlt | hge
        rotate_left
        · have hc : ((i : Int) < 1441) = False := by simp; omega
          simp only [FS, ↓RE, okR, argEnv, Nat.reduceAdd, Nat.reduceSub, Nat.reduceLT, Nat.reduceLeDiff, Nat.reduceEqDiff, reduceIte, vg, lg, cg, hl1, hl2, hc, decide_false, gTrue_eq]
        have hc : ((i : Int) < 1441) = True := by simp; omega
        have hm := more_at s.w.tide ⟨r1, r2, r3, r4⟩ (i : Int)
        have hix1 : ∀ hp, indexAddrD Tryz.prog hp 22 (.sl ((bndQ s.w.tide).map enS.d)) (.int .i64 (i : Int)) = some (.ref [.int .i64 (atL s.w.tide (i : Int)).1, .int .i64 (atL s.w.tide (i : Int)).2] 0) := fun hp => En.ix (P := Tryz.prog) Fz.und_22 Fz.size_70 (En.sl_map (E := enS) (bndQ s.w.tide)) (bndQ_at _ hlt) hp .i64
        have hix2 : ∀ hp, indexAddrD Tryz.prog hp 22 (.sl ((bndQ (moreG s.w.tide ⟨r1, r2, r3, r4⟩)).map enS.d)) (.int .i64 (i : Int)) = some (.ref [.int .i64 (atL (moreG s.w.tide ⟨r1, r2, r3, r4⟩) (i : Int)).1, .int .i64 (atL (moreG s.w.tide ⟨r1, r2, r3, r4⟩) (i : Int)).2] 0) := fun hp => En.ix (P := Tryz.prog) Fz.und_22 Fz.size_70 (En.sl_map (E := enS) (bndQ (moreG s.w.tide ⟨r1, r2, r3, r4⟩))) (bndQ_at _ hlt) hp .i64
        generalize atL s.w.tide (i : Int) = A1 at hm hix1
        generalize atL (moreG s.w.tide ⟨r1, r2, r3, r4⟩) (i : Int) = A2 at hm hix2
        have c1 : (A2.1 < A1.1) = False := by simp; omega
        have c2 : (A1.2 < A2.2) = False := by simp; omega
        have hwi := wrap_i64 (z := (i : Int) + 1) (by omega) (by omega)
        simp only [FS, ↓RE, okR, argEnv, Nat.reduceAdd, Nat.reduceSub, Nat.reduceLT, Nat.reduceLeDiff, Nat.reduceEqDiff, reduceIte, vg, lg, cg, hl1, hl2, hc, decide_true, decide_false, hix1, hix2, c1, c2, hwi]
        exact ⟨i + 1, by omega, by omega, by simp [headW, heapW, envW, blkLt, D.ltL, D.lt, look, hget, lg]⟩
    · skip
      refine awp_peel (T := [(8, [(14, false, true, [(10, 1), (9, 1), (6, 1), (6, 0), (5, 1), (5, 0)]), (2, false, false, [])]), (13, [(10, false, true, [(4, 6), (3, 6), (0, 6)]), (3, false, false, [])]), (18, [(7, false, true, [(1, 3), (0, 3)]), (5, false, false, [])]), (30, [(24, false, false, [])])]) o54_ok (by kernel_rfl) (by kernel_rfl) ?_
      simp only [FS, ↓RE, okR, argEnv, Nat.reduceAdd, Nat.reduceSub, Nat.reduceLT, Nat.reduceLeDiff, Nat.reduceEqDiff, reduceIte, vg, lg, cg, hbl, hbz, decide_false]
      refine awp_peel (T := [(8, [(14, false, true, [(10, 1), (9, 1), (6, 1), (6, 0), (5, 1), (5, 0)]), (2, false, false, [])]), (13, [(10, false, true, [(4, 6), (3, 6), (0, 6)]), (3, false, false, [])]), (18, [(7, false, true, [(1, 3), (0, 3)]), (5, false, false, [])]), (30, [(24, false, false, [])])]) o54_ok (by kernel_rfl) (by kernel_rfl) ?_
      simp only [FS, ↓RE, okR, argEnv, Nat.reduceAdd, Nat.reduceSub, Nat.reduceLT, Nat.reduceLeDiff, Nat.reduceEqDiff, reduceIte, vg, lg, cg, hSu, ex_tup]
      refine awp_peel (T := [(8, [(14, false, true, [(10, 1), (9, 1), (6, 1), (6, 0), (5, 1), (5, 0)]), (2, false, false, [])]), (13, [(10, false, true, [(4, 6), (3, 6), (0, 6)]), (3, false, false, [])]), (18, [(7, false, true, [(1, 3), (0, 3)]), (5, false, false, [])]), (30, [(24, false, false, [])])]) o54_ok (by kernel_rfl) (by kernel_rfl) ?_
      simp only [FS, ↓RE, okR, argEnv, Nat.reduceAdd, Nat.reduceSub, Nat.reduceLT, Nat.reduceLeDiff, Nat.reduceEqDiff, reduceIte, vg, lg, cg, bne_self_eq_false, beq_self_eq_true, Int.reduceBNe, Int.reduceBEq]
      refine awp_imp (imp_view (e := [(3, .int .i64 t), (6, .ref (s.c gd) 0), (7, .ref p.c 0), (8, .ref n.c 0), (11, .ref [.int .i64 r1, .int .i64 r2, .int .i64 r3, .int .i64 r4] 0), (14, .int .i64 7), (15, .bool (possB ⟨s, gd, p, n, t⟩))]) (h' := []) (nid' := 0) (n' := 280) (by simp [headW, heapW, envW, blkLt, D.ltL, D.lt, look, hget, hset, view, viewL, lg, vg])) ?_
      refine awp_peel (T := [(8, [(14, false, true, [(10, 1), (9, 1), (6, 1), (6, 0), (5, 1), (5, 0)]), (2, false, false, [])]), (13, [(10, false, true, [(4, 6), (3, 6), (0, 6)]), (3, false, false, [])]), (18, [(7, false, true, [(1, 3), (0, 3)]), (5, false, false, [])]), (30, [(24, false, false, [])])]) o54_ok (by kernel_rfl) (by kernel_rfl) ?_
      simp only [FS, ↓RE, okR, argEnv, Nat.reduceAdd, Nat.reduceSub, Nat.reduceLT, Nat.reduceLeDiff, Nat.reduceEqDiff, reduceIte, vg, lg, cg]
      have ha3 := fun h nid => app_nils (P := Tryz.prog) Fz.und_25 Fz.size_75 Fz.zero_75 rfl (by omega) Fz.bytes_75_25 h nid (x := .sl (s.w.tide.rs.map Rd.d)) (xs := s.w.tide.rs.map Rd.d) rfl (okSrc_rd _) (by rw [List.length_map]; omega) (by rw [List.length_map]; omega)
      have hd3 := fun h => litD_agg (P := Tryz.prog) Fz.und_25 Fz.size_75 Fz.zero_75 rfl (by omega) (by omega) h [.int .i64 r1, .int .i64 r2, .int .i64 r3, .int .i64 r4] rfl rfl
      have ha4 := fun h nid (hb : hget h 1 = some (.arr 75 4 (s.w.tide.rs.map Rd.d))) => app_sl (P := Tryz.prog) (h := h) (nid := nid) Fz.und_25 Fz.size_75 Fz.zero_75 rfl (by omega) Fz.bytes_75_25 (b := 1) (n := s.w.tide.rs.length) (xs := [[.int .i64 r1, .int .i64 r2, .int .i64 r3, .int .i64 r4]]) hb (List.length_map _).symm rfl (by simp only [List.length_map, List.length_cons, List.length_nil]; omega) (by simp only [List.length_map, List.length_cons, List.length_nil]; omega)
      refine awp_peel (T := [(8, [(14, false, true, [(10, 1), (9, 1), (6, 1), (6, 0), (5, 1), (5, 0)]), (2, false, false, [])]), (13, [(10, false, true, [(4, 6), (3, 6), (0, 6)]), (3, false, false, [])]), (18, [(7, false, true, [(1, 3), (0, 3)]), (5, false, false, [])]), (30, [(24, false, false, [])])]) o54_ok (by kernel_rfl) (by kernel_rfl) ?_
      simp only [FS, ↓RE, okR, argEnv, Nat.reduceAdd, Nat.reduceSub, Nat.reduceLT, Nat.reduceLeDiff, Nat.reduceEqDiff, reduceIte, vg, lg, cg, ha3, hd3, ha4, cur_osl, curC_arr, decide_true, cells_osl, List.length_append, List.length_map, Option.map_none, Option.map_some]
      have hfz : ∀ h1 h2, frzD h1 h2 gd = gd := fun h1 h2 => by rcases En.inv h.gd with e | ⟨e, _⟩ <;> rw [e] <;> rfl
      have hsx : SeL (moreS s ⟨r1, r2, r3, r4⟩) gd := seL_more h _ (by omega)
      have hMo := gSe_eq hsx
      simp only [Se.c, Se.cr, Wx.c, gaC, moreS, moreG, List.map_append, List.map_cons, List.map_nil, Rd.d] at hMo
      refine awp_peel (T := [(8, [(14, false, true, [(10, 1), (9, 1), (6, 1), (6, 0), (5, 1), (5, 0)]), (2, false, false, [])]), (13, [(10, false, true, [(4, 6), (3, 6), (0, 6)]), (3, false, false, [])]), (18, [(7, false, true, [(1, 3), (0, 3)]), (5, false, false, [])]), (30, [(24, false, false, [])])]) o54_ok (by kernel_rfl) (by kernel_rfl) ?_
      cases hs2 : okSe (moreS s ⟨r1, r2, r3, r4⟩)
      · simp only [moreS, moreG] at hs2
        simp only [FS, ↓RE, okR, argEnv, Nat.reduceAdd, Nat.reduceSub, Nat.reduceLT, Nat.reduceLeDiff, Nat.reduceEqDiff, reduceIte, vg, lg, cg, List.length_append, List.length_map, decide_true, hMo, hs2, gTrue_eq]
      have hsw2 : orc decWx okWx (fun w => .bool (soundW w)) [.agg ((moreS s ⟨r1, r2, r3, r4⟩).w.c [])] = some (.bool (soundW (moreS s ⟨r1, r2, r3, r4⟩).w)) := orc_eq (decWx_eq _) (okSe_wx hs2)
      simp only [Wx.c, gaC, moreS, moreG, List.map_append, List.map_cons, List.map_nil, Rd.d] at hsw2
      have hs2' := hs2
      simp only [moreS, moreG] at hs2'
      cases hso2 : soundW (moreS s ⟨r1, r2, r3, r4⟩).w
      · simp only [moreS, moreG] at hso2
        simp only [FS, ↓RE, okR, argEnv, Nat.reduceAdd, Nat.reduceSub, Nat.reduceLT, Nat.reduceLeDiff, Nat.reduceEqDiff, reduceIte, vg, lg, cg, List.length_append, List.length_map, decide_true, hMo, hs2', hsw2, hso2, gTrue_eq]
      have hso2' := hso2
      simp only [moreS, moreG] at hso2'
      simp only [FS, ↓RE, okR, argEnv, Nat.reduceAdd, Nat.reduceSub, Nat.reduceLT, Nat.reduceLeDiff, Nat.reduceEqDiff, reduceIte, vg, lg, cg, List.length_append, List.length_map, decide_true, hMo, hs2', hsw2, hso2', gTrue_eq]
      refine awp_imp (imp_thaw 1 (imp_view (e := [(3, .int .i64 t), (6, .ref (s.c gd) 0), (7, .ref p.c 0), (8, .ref n.c 0), (14, .int .i64 7), (15, .bool (possB ⟨s, gd, p, n, t⟩)), (24, .ref ((moreS s ⟨r1, r2, r3, r4⟩).c gd) 0)]) (h' := []) (nid' := 0) (n' := 280) (by simp [headW, heapW, envW, blkLt, D.ltL, D.lt, look, hget, hset, view, viewL, lg, vg, Rd.d, frzHH, frzBlk, herase, hfz, fz_int, fz_sl, fz_ref, fz_ptr, fz_osl, fzC_arr, fzC_some, fz_bool, fz_nils, fz_agg]))) ?_
      have hk2 : LkOk ⟨moreS s ⟨r1, r2, r3, r4⟩, gd, p, n, t⟩ := ⟨hsx, hs2, hp, hn, ht⟩
      have hPx := gPo_eq (l := ⟨moreS s ⟨r1, r2, r3, r4⟩, gd, p, n, t⟩) hsx
      have hSx := gSu_eq (l := ⟨moreS s ⟨r1, r2, r3, r4⟩, gd, p, n, t⟩) hsx
      rw [poss_form _ hk2 hso2] at hPx
      obtain ⟨a3, b3, eS3, qS3⟩ := sure_form _ hk2 hso2
      rw [eS3] at hSx
      have hpp : (possB ⟨moreS s ⟨r1, r2, r3, r4⟩, gd, p, n, t⟩ = false) ∨ (possB ⟨moreS s ⟨r1, r2, r3, r4⟩, gd, p, n, t⟩ = true ∧ possB ⟨s, gd, p, n, t⟩ = true) := by
        cases q : possB ⟨moreS s ⟨r1, r2, r3, r4⟩, gd, p, n, t⟩
        · exact .inl rfl
        · exact .inr ⟨rfl, more_poss hk hk2 q⟩
      generalize hpx : possB ⟨moreS s ⟨r1, r2, r3, r4⟩, gd, p, n, t⟩ = px at hpp hPx
      simp only [Se.c, Se.cr, Wx.c, gaC, moreS, moreG, List.map_append, List.map_cons, List.map_nil, Rd.d] at hPx hSx
      have hwx2 := okWx_gaOk (okSe_wx hs2)
      have hB1 : gGa BoundsA [.agg [.int .i64 s.w.tide.rate, .int .i64 s.w.tide.least, .int .i64 s.w.tide.most, .sl (s.w.tide.rs.map Rd.d)]] = some (.tup [.sl ((bndQ s.w.tide).map enS.d), .int .i64 0]) := by
        rw [gGa_eq _ _ _ _ (by omega), ← bounds_ok hwx.tide hso'.1]
      have hB2 : gGa BoundsA [.agg [.int .i64 s.w.tide.rate, .int .i64 s.w.tide.least, .int .i64 s.w.tide.most, .sl ((s.w.tide.rs ++ [(⟨r1, r2, r3, r4⟩ : Rd)]).map Rd.d)]] = some (.tup [.sl ((bndQ (moreG s.w.tide ⟨r1, r2, r3, r4⟩)).map enS.d), .int .i64 0]) := by
        rw [gGa_eq _ _ _ _ (by simp only [List.length_append, List.length_singleton]; omega), ← bounds_ok hwx2.tide (sound_north hso2).1]
      simp only [List.map_append, List.map_cons, List.map_nil, Rd.d] at hB2
      have hbn := fun x y => binB_ne (P := Tryz.prog) Fz.und_4 x y
      have hl1 : ∀ hp, lenOpD Tryz.prog hp 22 (.sl ((bndQ s.w.tide).map enS.d)) = some (.int .i64 1441) := fun hp => by rw [En.len (P := Tryz.prog) Fz.und_22 (En.sl_map (E := enS) (bndQ s.w.tide)) hp, bndQ_len]; rfl
      have hl2 : ∀ hp, lenOpD Tryz.prog hp 22 (.sl ((bndQ (moreG s.w.tide ⟨r1, r2, r3, r4⟩)).map enS.d)) = some (.int .i64 1441) := fun hp => by rw [En.len (P := Tryz.prog) Fz.und_22 (En.sl_map (E := enS) (bndQ (moreG s.w.tide ⟨r1, r2, r3, r4⟩))) hp, bndQ_len]; rfl
      refine awp_peel (T := [(8, [(14, false, true, [(10, 1), (9, 1), (6, 1), (6, 0), (5, 1), (5, 0)]), (2, false, false, [])]), (13, [(10, false, true, [(4, 6), (3, 6), (0, 6)]), (3, false, false, [])]), (18, [(7, false, true, [(1, 3), (0, 3)]), (5, false, false, [])]), (30, [(24, false, false, [])])]) o54_ok (by kernel_rfl) (by kernel_rfl) ?_
      simp only [FS, ↓RE, okR, argEnv, Nat.reduceAdd, Nat.reduceSub, Nat.reduceLT, Nat.reduceLeDiff, Nat.reduceEqDiff, reduceIte, vg, lg, cg, List.map_append, List.map_cons, List.map_nil, Rd.d, ex_tup, hB1]
      refine awp_peel (T := [(8, [(14, false, true, [(10, 1), (9, 1), (6, 1), (6, 0), (5, 1), (5, 0)]), (2, false, false, [])]), (13, [(10, false, true, [(4, 6), (3, 6), (0, 6)]), (3, false, false, [])]), (18, [(7, false, true, [(1, 3), (0, 3)]), (5, false, false, [])]), (30, [(24, false, false, [])])]) o54_ok (by kernel_rfl) (by kernel_rfl) ?_
      simp only [FS, ↓RE, okR, argEnv, Nat.reduceAdd, Nat.reduceSub, Nat.reduceLT, Nat.reduceLeDiff, Nat.reduceEqDiff, reduceIte, vg, lg, cg, List.map_append, List.map_cons, List.map_nil, Rd.d, ex_tup, hB2]
      refine awp_peel (T := [(8, [(14, false, true, [(10, 1), (9, 1), (6, 1), (6, 0), (5, 1), (5, 0)]), (2, false, false, [])]), (13, [(10, false, true, [(4, 6), (3, 6), (0, 6)]), (3, false, false, [])]), (18, [(7, false, true, [(1, 3), (0, 3)]), (5, false, false, [])]), (30, [(24, false, false, [])])]) o54_ok (by kernel_rfl) (by kernel_rfl) ?_
      simp only [FS, ↓RE, okR, argEnv, Nat.reduceAdd, Nat.reduceSub, Nat.reduceLT, Nat.reduceLeDiff, Nat.reduceEqDiff, reduceIte, vg, lg, cg, List.map_append, List.map_cons, List.map_nil, Rd.d, ex_tup, hSx]
      refine awp_peel (T := [(8, [(14, false, true, [(10, 1), (9, 1), (6, 1), (6, 0), (5, 1), (5, 0)]), (2, false, false, [])]), (13, [(10, false, true, [(4, 6), (3, 6), (0, 6)]), (3, false, false, [])]), (18, [(7, false, true, [(1, 3), (0, 3)]), (5, false, false, [])]), (30, [(24, false, false, [])])]) o54_ok (by kernel_rfl) (by kernel_rfl) ?_
      simp only [FS, ↓RE, okR, argEnv, Nat.reduceAdd, Nat.reduceSub, Nat.reduceLT, Nat.reduceLeDiff, Nat.reduceEqDiff, reduceIte, vg, lg, cg, List.map_append, List.map_cons, List.map_nil, Rd.d, ex_tup, hPx]
      refine awp_peel (T := [(8, [(14, false, true, [(10, 1), (9, 1), (6, 1), (6, 0), (5, 1), (5, 0)]), (2, false, false, [])]), (13, [(10, false, true, [(4, 6), (3, 6), (0, 6)]), (3, false, false, [])]), (18, [(7, false, true, [(1, 3), (0, 3)]), (5, false, false, [])]), (30, [(24, false, false, [])])]) o54_ok (by kernel_rfl) (by kernel_rfl) ?_
      rcases hpp with rfl | ⟨rfl, hpo⟩
      rotate_left
      all_goals
        try rw [hpo]
        simp only [FS, ↓RE, okR, argEnv, Nat.reduceAdd, Nat.reduceSub, Nat.reduceLT, Nat.reduceLeDiff, Nat.reduceEqDiff, reduceIte, vg, lg, cg, hl1, hl2, bne_self_eq_false, beq_self_eq_true, Int.reduceBNe, Int.reduceBEq]
        refine awp_rest (T := [(8, [(14, false, true, [(10, 1), (9, 1), (6, 1), (6, 0), (5, 1), (5, 0)]), (2, false, false, [])]), (13, [(10, false, true, [(4, 6), (3, 6), (0, 6)]), (3, false, false, [])]), (18, [(7, false, true, [(1, 3), (0, 3)]), (5, false, false, [])]), (30, [(24, false, false, [])])]) o54_ok (by kernel_rfl) (by kernel_rfl) ?_
        simp only [FS, ↓RE, okR, argEnv, Nat.reduceAdd, Nat.reduceSub, Nat.reduceLT, Nat.reduceLeDiff, Nat.reduceEqDiff, reduceIte, vg, lg, cg]
        refine loopV (ι := Nat) o54_ok [(8, [(14, false, true, [(10, 1), (9, 1), (6, 1), (6, 0), (5, 1), (5, 0)]), (2, false, false, [])]), (13, [(10, false, true, [(4, 6), (3, 6), (0, 6)]), (3, false, false, [])]), (18, [(7, false, true, [(1, 3), (0, 3)]), (5, false, false, [])]), (30, [(24, false, false, [])])] (fun i => [(25, .sl ((bndQ s.w.tide).map enS.d)), (27, .sl ((bndQ (moreG s.w.tide ⟨r1, r2, r3, r4⟩)).map enS.d)), (33, .int .i64 (i : Int))])
          (fun i => []) 0 (fun i => i ≤ 1441) (fun i => 1441 - i) 0 (by kernel_rfl) (by kernel_rfl) (Nat.zero_le _) ?_ ?_
        · simp [headW, heapW, envW, blkLt, D.ltL, D.lt, look, hget, lg]
        intro i hi
        rcases Nat.lt_or_ge i 1441 with hlt | hge
        rotate_left
        · have hc : ((i : Int) < 1441) = False := by simp; omega
          simp only [FS, ↓RE, okR, argEnv, Nat.reduceAdd, Nat.reduceSub, Nat.reduceLT, Nat.reduceLeDiff, Nat.reduceEqDiff, reduceIte, vg, lg, cg, hl1, hl2, hc, decide_false, gTrue_eq]
        have hc : ((i : Int) < 1441) = True := by simp; omega
        have hm := more_at s.w.tide ⟨r1, r2, r3, r4⟩ (i : Int)
        have hix1 : ∀ hp, indexAddrD Tryz.prog hp 22 (.sl ((bndQ s.w.tide).map enS.d)) (.int .i64 (i : Int)) = some (.ref [.int .i64 (atL s.w.tide (i : Int)).1, .int .i64 (atL s.w.tide (i : Int)).2] 0) := fun hp => En.ix (P := Tryz.prog) Fz.und_22 Fz.size_70 (En.sl_map (E := enS) (bndQ s.w.tide)) (bndQ_at _ hlt) hp .i64
        have hix2 : ∀ hp, indexAddrD Tryz.prog hp 22 (.sl ((bndQ (moreG s.w.tide ⟨r1, r2, r3, r4⟩)).map enS.d)) (.int .i64 (i : Int)) = some (.ref [.int .i64 (atL (moreG s.w.tide ⟨r1, r2, r3, r4⟩) (i : Int)).1, .int .i64 (atL (moreG s.w.tide ⟨r1, r2, r3, r4⟩) (i : Int)).2] 0) := fun hp => En.ix (P := Tryz.prog) Fz.und_22 Fz.size_70 (En.sl_map (E := enS) (bndQ (moreG s.w.tide ⟨r1, r2, r3, r4⟩))) (bndQ_at _ hlt) hp .i64
        generalize atL s.w.tide (i : Int) = A1 at hm hix1
        generalize atL (moreG s.w.tide ⟨r1, r2, r3, r4⟩) (i : Int) = A2 at hm hix2
        have c1 : (A2.1 < A1.1) = False := by simp; omega
        have c2 : (A1.2 < A2.2) = False := by simp; omega
        have hwi := wrap_i64 (z := (i : Int) + 1) (by omega) (by omega)
        simp only [FS, ↓RE, okR, argEnv, Nat.reduceAdd, Nat.reduceSub, Nat.reduceLT, Nat.reduceLeDiff, Nat.reduceEqDiff, reduceIte, vg, lg, cg, hl1, hl2, hc, decide_true, decide_false, hix1, hix2, c1, c2, hwi]
        exact ⟨i + 1, by omega, by omega, by simp [headW, heapW, envW, blkLt, D.ltL, D.lt, look, hget, lg]⟩

theorem waterMore_pure : ∀ Ds, TyL Tryz.prog Tryz.f6.params.toList Ds → Pure Tryz.prog 6 Ds (.bool true) := by
  intro Ds h
  rw [Tryz.params6] at h
  match Ds, h with
  | [_, _, _, _, _, _], ⟨⟨n, _, hg, he⟩, ⟨n2, _, hf, he2⟩, ⟨n3, _, hu, he3⟩, ⟨n4, _, h4, he4⟩, ⟨n5, _, h5, he5⟩, ⟨n6, _, h6, he6⟩, _⟩ =>
    rw [Tryz.underlying33] at he
    rw [Tryz.underlying46] at he2
    rw [Tryz.underlying36] at he3
    rw [Fz.und_3] at he4 he5
    rw [Tryz.underlying75] at he6
    dsimp only at he he2 he3 he4 he5 he6
    obtain ⟨s, rfl, hl⟩ := tySe hg
    obtain ⟨p, rfl⟩ := tySp hf
    obtain ⟨nd, rfl⟩ := tyNd hu
    obtain ⟨t, rfl, _⟩ := tyInt Fz.und_3 h4
    obtain ⟨w, rfl, _⟩ := tyInt Fz.und_3 h5
    obtain ⟨r, rfl⟩ := tyRd h6
    subst he
    subst he2
    subst he3
    cases he4
    cases he5
    subst he6
    exact waterMore_at s _ hl p nd t w r
end Go.Sx
