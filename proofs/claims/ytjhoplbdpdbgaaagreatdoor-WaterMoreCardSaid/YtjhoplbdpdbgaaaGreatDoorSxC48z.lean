/- Own work: contracts of functions, used in the proof of a law. -/
import Derived.Test.YtjhoplbdpdbgaaaGreatDoorSxCf
import Derived.Test.YtjhoplbdpdbgaaaGreatDoorSxC41z
set_option linter.unusedVariables false
set_option linter.unusedSimpArgs false
namespace Go.Sx
open Go.Proofs
set_option maxRecDepth 10000

def decD4 : List D → Option (Lk × Int)
  | [.agg cs, .agg [.int .i64 x, .int .i64 y, .int .i64 w, .int .i64 c], .int .i64 r, .int .i64 t] => match decSe [.agg cs] with
    | some (s, gd) => some (⟨s, gd, ⟨x, y, w, c⟩, nd0, t⟩, r)
    | none => none
  | _ => none
theorem decD4_eq (l : Lk) (h : enGl.sl l.gd = some l.s.glares) (r : Int) : decD4 [.agg (l.s.c l.gd), .agg l.p.c, .int .i64 r, .int .i64 l.t] = some (⟨l.s, l.gd, l.p, nd0, l.t⟩, r) := by
  have := decSe_eq h
  simp only [decD4, this]
theorem decD4_inv {ds : List D} {q : Lk × Int} (h : decD4 ds = some q) : ds = [.agg (q.1.s.c q.1.gd), .agg q.1.p.c, .int .i64 q.2, .int .i64 q.1.t] ∧ enGl.sl q.1.gd = some q.1.s.glares := by
  unfold decD4 at h
  split at h
  · split at h
    · rename_i h1
      cases h
      obtain ⟨a, b⟩ := decSe_inv h1
      refine ⟨?_, b⟩
      simp only [List.cons.injEq, and_true] at a
      rw [a]
    · cases h
  · cases h
def lkPB (l : Lk) : Bool := seLen l.s && (okSe l.s && (okSp l.s l.p && bIn l.t 0 1440))
theorem lkPB_iff {l : Lk} (hg : enGl.sl l.gd = some l.s.glares) : lkPB l = true ↔ LkP l := by
  simp only [lkPB, Bool.and_eq_true, bIn, decide_eq_true_eq, seLen_iff hg]
  exact ⟨fun ⟨a, b, c, d⟩ => ⟨a, b, c, d⟩, fun ⟨a, b, c, d⟩ => ⟨a, b, c, d⟩⟩
def gSu : List D → Option D := orc decS4 (fun l => seLen l.s) fun l => .tup [.int .i64 (SureA l).1, .int .i64 (SureA l).2]
def gPo : List D → Option D := orc decS4 (fun l => seLen l.s) fun l => .tup [.bool (PossA l).1, .int .i64 (PossA l).2]
def gDe : List D → Option D := orc decD4 (fun q => seLen q.1.s) fun q => .tup [.int .i64 (DeepA q.1 q.2).1, .int .i64 (DeepA q.1 q.2).2]
def gRd : List D → Option D := orc decD4 (fun q => lkPB q.1 && bIn q.2 1 12) fun q => .int .i64 (min (deepB q.1 q.2) 5000)
def gRp : List D → Option D := orc decS4 (fun l => lkB l && soundW l.s.w) fun l => .bool (possB l)
theorem gSu_eq {l : Lk} (h : SeL l.s l.gd) : gSu [.agg (l.s.c l.gd), .agg l.p.c, .agg l.n.c, .int .i64 l.t] = some (.tup [.int .i64 (SureA l).1, .int .i64 (SureA l).2]) := orc_eq (decS4_eq l h.gd) ((seLen_iff h.gd).2 h)
theorem gPo_eq {l : Lk} (h : SeL l.s l.gd) : gPo [.agg (l.s.c l.gd), .agg l.p.c, .agg l.n.c, .int .i64 l.t] = some (.tup [.bool (PossA l).1, .int .i64 (PossA l).2]) := orc_eq (decS4_eq l h.gd) ((seLen_iff h.gd).2 h)
theorem gDe_eq {l : Lk} (h : SeL l.s l.gd) (r : Int) : gDe [.agg (l.s.c l.gd), .agg l.p.c, .int .i64 r, .int .i64 l.t] = some (.tup [.int .i64 (DeepA l r).1, .int .i64 (DeepA l r).2]) := orc_eq (decD4_eq l h.gd r) ((seLen_iff h.gd).2 h)
theorem gRd_eq {l : Lk} (h : LkP l) {r : Int} (hr : bIn r 1 12 = true) : gRd [.agg (l.s.c l.gd), .agg l.p.c, .int .i64 r, .int .i64 l.t] = some (.int .i64 (min (deepB l r) 5000)) := orc_eq (decD4_eq l h.se.gd r) (by
  rw [hr, Bool.and_true]
  exact (lkPB_iff (l := ⟨l.s, l.gd, l.p, nd0, l.t⟩) h.se.gd).2 ⟨h.se, h.s, h.p, h.t⟩)
theorem gRp_eq {l : Lk} (h : LkOk l) (hs : soundW l.s.w = true) : gRp [.agg (l.s.c l.gd), .agg l.p.c, .agg l.n.c, .int .i64 l.t] = some (.bool (possB l)) := orc_eq (decS4_eq l h.se.gd) (by rw [hs, Bool.and_true]; exact (lkB_iff h.se.gd).2 h)

def breezeB (s : Se) : Bool := !okSe s || (decide (s.w.east.most - s.w.east.least ≤ 40) && decide (s.w.north.most - s.w.north.least ≤ 40))
theorem wx_b {w : Wx} (h : okWx w = true) : (-300 ≤ w.east.least ∧ w.east.least ≤ 300) ∧ (-300 ≤ w.east.most ∧ w.east.most ≤ 300) ∧ (-300 ≤ w.north.least ∧ w.north.least ≤ 300) ∧ (-300 ≤ w.north.most ∧ w.north.most ≤ 300) := by
  simp only [okWx, okB2, Bool.and_eq_true, decide_eq_true_eq] at h
  have e := (gaOk_inv h.2.1.1).2.2.1
  have n := (gaOk_inv h.2.2.1.1).2.2.1
  omega
theorem breeze_t (s : Se) (gd : D) (h : SeL s gd) : Pure Tryz.prog 21 [.agg (s.c gd)] (.bool (breezeB s)) := by
  have vg := fun hp => En.view h.gd hp
  have lg := En.lt h.gd
  have h1 := gSe_eq h
  simp only [Se.c, Se.cr, Wx.c, gaC] at h1
  refine pure_of_wc (rs := [.tmp 2]) (m := 30) [] o38_ok (by kernel_rfl) Tryz.func21 rfl (by kernel_rfl) rfl rfl (by kernel_rfl) ?_
  cases hs : okSe s
  · simp only [FS, ↓RE, okR, argEnv, Nat.reduceAdd, Nat.reduceSub, Nat.reduceLT, Nat.reduceLeDiff, Nat.reduceEqDiff, reduceIte, vg, lg, h1, hs]
    simp [breezeB, hs]
  have hb := wx_b (okSe_wx hs)
  have w1 := wrap_i64 (z := s.w.east.most - s.w.east.least) (by omega) (by omega)
  have w2 := wrap_i64 (z := s.w.north.most - s.w.north.least) (by omega) (by omega)
  cases q1 : decide (s.w.east.most - s.w.east.least ≤ 40) <;> cases q2 : decide (s.w.north.most - s.w.north.least ≤ 40) <;>
  · simp only [FS, ↓RE, okR, argEnv, Nat.reduceAdd, Nat.reduceSub, Nat.reduceLT, Nat.reduceLeDiff, Nat.reduceEqDiff, reduceIte, vg, lg, h1, hs, w1, w2, q1, q2]
    simp [breezeB, hs, q1, q2]
def gBz : List D → Option D := orc decSe (fun p => seLen p.1) fun p => .bool (breezeB p.1)
theorem gBz_eq {s : Se} {gd : D} (h : SeL s gd) : gBz [.agg (s.c gd)] = some (.bool (breezeB s)) := orc_eq (decSe_eq h.gd) ((seLen_iff h.gd).2 h)
abbrev o48 : List (FuncId × (List D → Option D)) := (22, gSu) :: (23, gPo) :: (24, gDe) :: (26, gRd) :: (27, gRp) :: (21, gBz) :: o41
theorem o48_ok : OkO Tryz.prog (mkO o48) :=
  mkO_ok (orc_ok fun ds l hd hk => by obtain ⟨rfl, hg⟩ := decS4_inv hd; exact Sure_t l ((seLen_iff hg).1 hk)) <|
  mkO_ok (orc_ok fun ds l hd hk => by obtain ⟨rfl, hg⟩ := decS4_inv hd; exact Possible_t l ((seLen_iff hg).1 hk)) <|
  mkO_ok (orc_ok fun ds q hd hk => by obtain ⟨rfl, hg⟩ := decD4_inv hd; exact Deepest_t q.1 ((seLen_iff hg).1 hk) q.2) <|
  mkO_ok (orc_ok fun ds q hd hk => by
    obtain ⟨rfl, hg⟩ := decD4_inv hd
    simp only [Bool.and_eq_true] at hk
    exact rDeepest_t q.1 ((lkPB_iff hg).1 hk.1) q.2 (by simpa [bIn] using hk.2)) <|
  mkO_ok (orc_ok fun ds l hd hk => by
    obtain ⟨rfl, hg⟩ := decS4_inv hd
    simp only [Bool.and_eq_true] at hk
    exact rPossible_t l ((lkB_iff hg).1 hk.1) hk.2) <|
  mkO_ok (orc_ok fun ds q hd hk => by obtain ⟨s, gd⟩ := q; obtain ⟨rfl, hg⟩ := decSe_inv hd; exact breeze_t s gd ((seLen_iff hg).1 hk)) o41_ok
end Go.Sx
