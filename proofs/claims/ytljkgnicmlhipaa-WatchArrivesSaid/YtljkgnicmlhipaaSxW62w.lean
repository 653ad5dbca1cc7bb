/- Own work: contracts of functions, used in the proof of a law. -/
import Derived.Test.YtljkgnicmlhipaaSxW61w
set_option linter.unusedVariables false
set_option linter.unusedSimpArgs false
namespace Go.Sx
open Go.Proofs
set_option maxRecDepth 10000

theorem drop_nAt {p : List Int} {i : Nat} (h : i < p.length) : p.drop i = nAt p i :: p.drop (i + 1) := by
  rw [List.drop_eq_getElem_cons h, nAt, gd_el h]
theorem drop_empty (p : List Int) (i : Nat) : (p.drop i).isEmpty = decide (p.length ≤ i) := by
  rw [Bool.eq_iff_iff, List.isEmpty_iff, List.drop_eq_nil_iff]; simp
set_option maxHeartbeats 4000000 in
theorem r_Arrives_t {w : WatchW} (hw : WatchOk w) {c m : Int} (hc : InS w.s c) (hm : 0 ≤ m ∧ m ≤ 1440) (p : List Int) (hp : BL p) : Pure Try.prog 20 [.agg w.c, .sl (intL p), .int .i64 c, .int .i64 m] (.int .i64 (rArrI w p c m)) := by
  have hs := hw.s
  have hrel := hw.n.r
  have hrn := hw.n.rn
  have oA := fun f t x => gAlong_eq (n := w.n) (fun k hk => (hw.n.l k hk).1) hw.n.ln f t x
  have hAle := fun s t x => (along_ok hw.n).le s t x
  have oH : ∀ k, k < w.n.r.length → ∃ r, w.n.r[k]? = some r ∧ gHears [.agg w.s.c, .agg (enRl.d r), .int .i64 c, .int .i64 m] = some (.bool (hAt w.s w.n.r c m k)) := fun k hk => by
    obtain ⟨r, hr⟩ : ∃ r, w.n.r[k]? = some r := ⟨w.n.r[k], by simp [hk]⟩
    refine ⟨r, hr, ?_⟩
    rw [gHears_eq hs (hrel r (List.mem_of_getElem? hr)) hc hm.1]
    simp only [hAt, hr]
  by_cases hn : p = []
  · subst hn
    have hz : ((0 : Int) == 0) = true := rfl
    have e0 : ((intL []).length : Int) = 0 := rfl
    simp only [rArrI]
    obtain ⟨⟨sw, sd, sh⟩, ⟨rl, lk⟩, cell, mi, ev, en, af⟩ := w
    simp only [WatchW.c, SkyW.c, NetW.c, List.cons_append, List.nil_append]
    refine pure_of_wc (rs := [.tmp 8]) (m := 89) [(6, [(25, false, false, [])]), (8, [(18, false, false, [])]), (11, [(14, false, false, [])])] e13_ok (by kernel_rfl) Try.func20 rfl (by kernel_rfl) rfl rfl (by kernel_rfl) ?_
    simp only [RT, FS, ↓RE, okR, argEnv, Nat.reduceAdd, Nat.reduceSub, Nat.reduceLT, Nat.reduceLeDiff, Nat.reduceEqDiff, reduceIte, RM, e0, hz]
  obtain ⟨s, r, rfl⟩ : ∃ s r, p = s :: r := by
    cases p with
    | nil => exact absurd rfl hn
    | cons s r => exact ⟨s, r, rfl⟩
  simp only [rArrI]
  have hlast : nAt (s :: r) r.length = nAt (s :: r) ((s :: r).length - 1) := rfl
  have hp0 : nAt (s :: r) 0 = s := rfl
  have hpl : (s :: r).length = r.length + 1 := rfl
  have hre : r.isEmpty = decide (r.length = 0) := by cases r <;> simp
  have hd1 : (s :: r).drop 1 = r := rfl
  rw [hre]
  generalize hpd : s :: r = p at *
  obtain ⟨H, hH⟩ : ∃ H, H = hAt w.s w.n.r c m := ⟨_, rfl⟩
  rw [← hH]
  simp only [← hH] at oH
  clear hH
  obtain ⟨⟨sw, sd, sh⟩, ⟨rl, lk⟩, cell, mi, ev, en, af⟩ := w
  dsimp only at hs hrel hrn oA hAle oH hc ⊢
  generalize alongI lk = A at *
  simp only [WatchW.c, SkyW.c, NetW.c, List.cons_append, List.nil_append] at oA oH ⊢
  have hz : ((p.length : Int) == 0) = false := by rw [beq_eq_false_iff_ne]; omega
  have wl : IntKind.i64.wrap ((p.length : Int) - 1) = ((p.length - 1 : Nat) : Int) := by rw [wrap_i64 (by omega) (by have : BL p := hp; simp only [BL] at this; omega)]; omega
  have ixl := sI_ix (nAt_get (l := p) (i := p.length - 1) (by omega))
  have hk1 := wrap_i64 (z := (rl.length : Int) - 1) (by omega) (by omega)
  rw [hlast]
  by_cases hl0 : nAt p (p.length - 1) ≠ 0
  · rw [if_pos hl0]
    have hq : (nAt p (p.length - 1) != 0) = true := by simpa using hl0
    refine pure_of_wc (rs := [.tmp 8]) (m := 89) [(6, [(25, false, false, [])]), (8, [(18, false, false, [])]), (11, [(14, false, false, [])])] e13_ok (by kernel_rfl) Try.func20 rfl (by kernel_rfl) rfl rfl (by kernel_rfl) ?_
    simp only [RT, FS, ↓RE, okR, argEnv, Nat.reduceAdd, Nat.reduceSub, Nat.reduceLT, Nat.reduceLeDiff, Nat.reduceEqDiff, reduceIte, RM, intL_len, hz, wl, ixl, hq]
  rw [if_neg hl0]
  have hq : (nAt p (p.length - 1) != 0) = false := by simpa using hl0
  obtain ⟨RES, hRES⟩ : ∃ R, R = (if (!(rI s 0 ((rl.length : Int) - 1)) || (decide (s = 0) && !(decide (r.length = 0)))) = true then -1 else if H s.toNat = false then -1 else rgo A rl.length s m r) := ⟨_, rfl⟩
  rw [← hRES]
  have hBL : p.length ≤ 9223372036854775807 := hp
  refine pure_of_wc (rs := [.tmp 8]) (m := 89) [(6, [(25, false, false, [])]), (8, [(18, false, false, [])]), (11, [(14, false, false, [])])] e13_ok (by kernel_rfl) Try.func20 rfl (by kernel_rfl) rfl rfl (by kernel_rfl) ?_
  simp only [RT, FS, ↓RE, okR, argEnv, Nat.reduceAdd, Nat.reduceSub, Nat.reduceLT, Nat.reduceLeDiff, Nat.reduceEqDiff, reduceIte, RM, intL_len, hz, wl, ixl, hq]
  refine loopV (ι := Nat × Int) e13_ok [(6, [(25, false, false, [])]), (8, [(18, false, false, [])]), (11, [(14, false, false, [])])] (fun i => [(1, .sl (intL p)), (2, .int .i64 c), (3, .int .i64 i.2), (4, .ptr 0 0), (9, .int .i64 (i.1 : Int))])
    (fun i => [(0, .box [.int .i64 sw, .int .i64 sd, shD sh, rlD rl, lkD lk, .int .i64 cell, .int .i64 mi, .int .i64 ev, .int .i64 en, inD af])]) 1 (fun i => i.1 ≤ p.length ∧ (0 ≤ i.2 ∧ i.2 ≤ 1440) ∧ (i.1 = 0 → i.2 = m) ∧ (1 ≤ i.1 → RES = rgo A rl.length (nAt p (i.1 - 1)) i.2 (p.drop i.1))) (fun i => p.length - i.1) (0, m) (by kernel_rfl) (by kernel_rfl) ⟨Nat.zero_le _, hm, fun _ => rfl, fun h => by simp at h⟩ ?_ ?_
  · simp [headW, heapW, envW, blkLt, D.ltL, D.lt, look, hget, shD]
  rintro ⟨i, x⟩ ⟨hil, hxb, hx0, hx1⟩
  dsimp only at hil hxb hx0 hx1 ⊢
  rcases Nat.lt_or_ge i p.length with hlt | hge
  rotate_left
  · have hq2 := nat_lt_false hge
    have hie : i = p.length := by omega
    subst hie
    have := hx1 (by omega)
    rw [List.drop_length] at this
    simp only [rgo] at this
    simp only [RT, FS, ↓RE, okR, argEnv, Nat.reduceAdd, Nat.reduceSub, Nat.reduceLT, Nat.reduceLeDiff, Nat.reduceEqDiff, reduceIte, RM, intL_len, hq2, decide_false]
    rw [this]
  have hq2 := nat_lt_true hlt
  have hix := sI_ix (nAt_get hlt)
  have hw1 := wrap_i64 (z := (i : Int) + 1) (by omega) (by omega)
  have cl : ((i : Int) < ((p.length - 1 : Nat) : Int)) = (i < p.length - 1) := by simp
  have hxn : decide (x < 0) = false := by simp; omega
  rcases Nat.eq_zero_or_pos i with h0 | h0
  · subst h0
    have hx0 := hx0 rfl
    subst hx0
    rw [hp0] at hix
    have hixz : ∀ h, indexAddrD Try.prog h 29 (.sl (intL p)) (.int .i64 0) = some (.ref [.int .i64 s] 0) := fun h => hix h
    have e0 : (((0 : Nat) : Int) == 0) = true := rfl
    have g0 : ((0 : Int) < ((0 : Nat) : Int)) = False := by simp
    cases q1 : rI s 0 ((rl.length : Int) - 1)
    · rw [q1] at hRES
      rw [if_pos (by rfl)] at hRES
      rw [hRES]
      simp only [RT, FS, ↓RE, okR, argEnv, Nat.reduceAdd, Nat.reduceSub, Nat.reduceLT, Nat.reduceLeDiff, Nat.reduceEqDiff, reduceIte, RM, intL_len, hq2, decide_true, hix, List.length_map, hk1, gI3_eq, q1, Bool.not_false]
    have hsr := rI_le q1
    rw [q1] at hRES
    cases q2 : (decide (s = 0) && !(decide (r.length = 0)))
    case true =>
      rw [q2] at hRES
      rw [if_pos (by rfl)] at hRES
      rw [hRES]
      simp only [Bool.and_eq_true, decide_eq_true_eq, Bool.not_eq_true', decide_eq_false_iff_not] at q2
      have hs0 : (s == 0) = true := by simpa using q2.1
      have hcl : decide (0 < p.length - 1) = true := by simp; omega
      simp only [RT, FS, ↓RE, okR, argEnv, Nat.reduceAdd, Nat.reduceSub, Nat.reduceLT, Nat.reduceLeDiff, Nat.reduceEqDiff, reduceIte, RM, intL_len, hq2, decide_true, hix, List.length_map, hk1, gI3_eq, q1, Bool.not_true, hs0, wl, cl, hcl]
    rw [q2] at hRES
    rw [if_neg (by simp)] at hRES
    obtain ⟨sn, hsn⟩ : ∃ sn : Nat, s = (sn : Int) := ⟨s.toNat, by omega⟩
    obtain ⟨rly, hrly, oHs⟩ := oH sn (by omega)
    have hixr := rlD_ix hrly
    rw [hsn] at hRES
    rw [Int.toNat_natCast] at hRES
    rw [← hsn] at hRES hixr
    simp only [enRl] at oHs
    have hfin : ∀ (X : Bool), X = X := fun _ => rfl
    have leaf : (s == 0) = false ∨ ((s == 0) = true ∧ decide (0 < p.length - 1) = false) := by
      by_cases hs0 : s = 0
      · right
        refine ⟨by simpa using hs0, ?_⟩
        have hr0 : r.length = 0 := by
          rw [decide_eq_true hs0, Bool.true_and] at q2
          simpa using q2
        rw [decide_eq_false_iff_not]; omega
      · left; simpa using hs0
    cases q3 : H sn
    · rw [q3] at oHs hRES
      rw [if_pos rfl] at hRES
      rw [hRES]
      rcases leaf with hs0 | ⟨hs0, hcl⟩
      · simp only [RT, FS, ↓RE, okR, argEnv, Nat.reduceAdd, Nat.reduceSub, Nat.reduceLT, Nat.reduceLeDiff, Nat.reduceEqDiff, reduceIte, RM, intL_len, hq2, decide_true, hix, List.length_map, hk1, gI3_eq, q1, Bool.not_true, hs0, e0, hixz, hixr, oHs, Bool.not_false]
      · simp only [RT, FS, ↓RE, okR, argEnv, Nat.reduceAdd, Nat.reduceSub, Nat.reduceLT, Nat.reduceLeDiff, Nat.reduceEqDiff, reduceIte, RM, intL_len, hq2, decide_true, hix, List.length_map, hk1, gI3_eq, q1, Bool.not_true, hs0, wl, cl, hcl, e0, hixz, hixr, oHs, Bool.not_false]
    · rw [q3] at oHs hRES
      rw [if_neg (by simp)] at hRES
      rcases leaf with hs0 | ⟨hs0, hcl⟩
      · simp only [RT, FS, ↓RE, okR, argEnv, Nat.reduceAdd, Nat.reduceSub, Nat.reduceLT, Nat.reduceLeDiff, Nat.reduceEqDiff, reduceIte, RM, intL_len, hq2, decide_true, decide_false, hix, List.length_map, hk1, gI3_eq, q1, Bool.not_true, hs0, e0, hixz, hixr, oHs, g0, hxn, hw1]
        exact ⟨(0 + 1, x), ⟨by simp only; omega, hxb, fun h => by simp at h, fun _ => by simp only [Nat.zero_add, Nat.sub_self, hp0, hd1]; exact hRES⟩, by simp only; omega, by simp [headW, heapW, envW, blkLt, D.ltL, D.lt, look, hget, shD]⟩
      · simp only [RT, FS, ↓RE, okR, argEnv, Nat.reduceAdd, Nat.reduceSub, Nat.reduceLT, Nat.reduceLeDiff, Nat.reduceEqDiff, reduceIte, RM, intL_len, hq2, decide_true, decide_false, hix, List.length_map, hk1, gI3_eq, q1, Bool.not_true, hs0, wl, cl, hcl, e0, hixz, hixr, oHs, g0, hxn, hw1]
        exact ⟨(0 + 1, x), ⟨by simp only; omega, hxb, fun h => by simp at h, fun _ => by simp only [Nat.zero_add, Nat.sub_self, hp0, hd1]; exact hRES⟩, by simp only; omega, by simp [headW, heapW, envW, blkLt, D.ltL, D.lt, look, hget, shD]⟩
  · have hR := hx1 h0
    rw [drop_nAt hlt] at hR
    simp only [rgo] at hR
    rw [drop_empty] at hR
    have hi0 : ((i : Int) == 0) = false := by rw [beq_eq_false_iff_ne]; omega
    have g0 : ((0 : Int) < (i : Int)) = True := by simp; omega
    have hix2 := sI_ix (nAt_get (l := p) (i := i - 1) (by omega))
    have hw2 : IntKind.i64.wrap ((i : Int) - 1) = ((i - 1 : Nat) : Int) := by rw [wrap_i64 (by omega) (by omega)]; omega
    have oAx := oA (nAt p (i - 1)) (nAt p i) x
    have hnz : ((nAt p i) == 0) = decide (nAt p i = 0) := by rw [Bool.eq_iff_iff]; simp
    cases q1 : rI (nAt p i) 0 ((rl.length : Int) - 1)
    · rw [q1] at hR
      rw [if_pos (by rfl)] at hR
      rw [hR]
      simp only [RT, FS, ↓RE, okR, argEnv, Nat.reduceAdd, Nat.reduceSub, Nat.reduceLT, Nat.reduceLeDiff, Nat.reduceEqDiff, reduceIte, RM, intL_len, hq2, decide_true, hix, List.length_map, hk1, gI3_eq, q1, Bool.not_false]
    rw [q1] at hR
    cases q2 : decide (nAt p i = 0)
    · rw [q2] at hR hnz
      rw [if_neg (by simp)] at hR
      cases q4 : decide (A (nAt p (i - 1)) (nAt p i) x < 0)
      · rw [if_neg (by simpa using q4)] at hR
        simp only [RT, FS, ↓RE, okR, argEnv, Nat.reduceAdd, Nat.reduceSub, Nat.reduceLT, Nat.reduceLeDiff, Nat.reduceEqDiff, reduceIte, RM, intL_len, hq2, decide_true, decide_false, hix, List.length_map, hk1, gI3_eq, q1, Bool.not_true, hnz, hi0, g0, hix2, hw2, oAx, q4, hw1]
        exact ⟨(i + 1, A (nAt p (i - 1)) (nAt p i) x), ⟨by simp only; omega, ⟨by simp at q4; omega, hAle _ _ _⟩, fun h => by simp at h, fun _ => by simp only [Nat.add_sub_cancel]; exact hR⟩, by simp only; omega, by simp [headW, heapW, envW, blkLt, D.ltL, D.lt, look, hget, shD]⟩
      · rw [if_pos (by simpa using q4)] at hR
        rw [hR]
        simp only [RT, FS, ↓RE, okR, argEnv, Nat.reduceAdd, Nat.reduceSub, Nat.reduceLT, Nat.reduceLeDiff, Nat.reduceEqDiff, reduceIte, RM, intL_len, hq2, decide_true, decide_false, hix, List.length_map, hk1, gI3_eq, q1, Bool.not_true, hnz, hi0, g0, hix2, hw2, oAx, q4]
    rw [q2] at hR hnz
    cases q3 : decide (i < p.length - 1)
    case true =>
      have hd : decide (p.length ≤ i + 1) = false := by simp at q3 ⊢; omega
      rw [hd] at hR
      rw [if_pos (by rfl)] at hR
      rw [hR]
      simp only [RT, FS, ↓RE, okR, argEnv, Nat.reduceAdd, Nat.reduceSub, Nat.reduceLT, Nat.reduceLeDiff, Nat.reduceEqDiff, reduceIte, RM, intL_len, hq2, decide_true, decide_false, hix, List.length_map, hk1, gI3_eq, q1, Bool.not_true, hnz, wl, cl, q3]
    have hd : decide (p.length ≤ i + 1) = true := by simp at q3 ⊢; omega
    rw [hd] at hR
    rw [if_neg (by simp)] at hR
    cases q4 : decide (A (nAt p (i - 1)) (nAt p i) x < 0)
    · rw [if_neg (by simpa using q4)] at hR
      simp only [RT, FS, ↓RE, okR, argEnv, Nat.reduceAdd, Nat.reduceSub, Nat.reduceLT, Nat.reduceLeDiff, Nat.reduceEqDiff, reduceIte, RM, intL_len, hq2, decide_true, decide_false, hix, List.length_map, hk1, gI3_eq, q1, Bool.not_true, hnz, wl, cl, q3, hi0, g0, hix2, hw2, oAx, q4, hw1]
      exact ⟨(i + 1, A (nAt p (i - 1)) (nAt p i) x), ⟨by simp only; omega, ⟨by simp at q4; omega, hAle _ _ _⟩, fun h => by simp at h, fun _ => by simp only [Nat.add_sub_cancel]; exact hR⟩, by simp only; omega, by simp [headW, heapW, envW, blkLt, D.ltL, D.lt, look, hget, shD]⟩
    · rw [if_pos (by simpa using q4)] at hR
      rw [hR]
      simp only [RT, FS, ↓RE, okR, argEnv, Nat.reduceAdd, Nat.reduceSub, Nat.reduceLT, Nat.reduceLeDiff, Nat.reduceEqDiff, reduceIte, RM, intL_len, hq2, decide_true, decide_false, hix, List.length_map, hk1, gI3_eq, q1, Bool.not_true, hnz, wl, cl, q3, hi0, g0, hix2, hw2, oAx, q4]
end Go.Sx
