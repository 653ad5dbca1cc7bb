/- Own work: contracts of functions, used in the proof of a law. -/
import Derived.Test.YthljonnokmkagaaSxE40r
set_option linter.unusedVariables false
set_option linter.unusedSimpArgs false
namespace Go.Sx
open Go.Proofs
set_option maxRecDepth 10000

/-! The plain law of fits -/
theorem cls_in {c : Craft} (hg : c.glass ≤ c.rough) {s : SpI} {x : Int} (hx : s.lo ≤ x ∧ x ≤ s.hi) : ∃ y ∈ wavesI c s, ∀ m al, lenI c m al x = lenI c m al y := by
  by_cases h1 : x < c.glass
  · exact ⟨s.lo, by simp [wavesI], updI_cls c (by omega) (by omega)⟩
  · by_cases h2 : c.rough < x
    · exact ⟨s.hi, by simp [wavesI], updI_cls c (by omega) (by omega)⟩
    · exact ⟨max s.lo c.glass, by simp only [wavesI]; rw [if_pos (by omega)]; simp, updI_cls c (by omega) (by omega)⟩
theorem bounds_in {c : Craft} (hn : CraftN c) {ml mh m : Int} (h1 : ml ≤ m) (h2 : m ≤ mh) {al wv : SpI} {y z : Int} (hy : al.lo ≤ y ∧ y ≤ al.hi) (hz : wv.lo ≤ z ∧ z ≤ wv.hi) :
    (boundsI c ⟨ml, mh⟩ al wv).lo ≤ lenI c m y z ∧ lenI c m y z ≤ (boundsI c ⟨ml, mh⟩ al wv).hi := by
  obtain ⟨v, hv, he⟩ := cls_in hn.gr hz
  rw [he]
  have a1 := Int.le_trans (lenI_mono_m c hn h1 al.lo v) (lenI_mono_al c hn hy.1 m v)
  have a2 := Int.le_trans (lenI_mono_al c hn hy.2 m v) (lenI_mono_m c hn h2 al.hi v)
  have m1 : lenI c ml al.lo v ∈ lensI c ⟨ml, mh⟩ al (wavesI c wv) := by simp only [lensI, List.mem_flatMap]; exact ⟨v, hv, by simp⟩
  have m2 : lenI c mh al.hi v ∈ lensI c ⟨ml, mh⟩ al (wavesI c wv) := by simp only [lensI, List.mem_flatMap]; exact ⟨v, hv, by simp⟩
  unfold boundsI
  split
  · rename_i a l hl
    rw [hl] at m1 m2
    have k1 := fmin_le l a
    have k2 := fmax_le l a
    simp only [wideI]
    refine ⟨Int.le_trans ?_ a1, Int.le_trans a2 ?_⟩
    · exact (List.mem_cons.1 m1).elim (fun e => e ▸ k1.1) fun q => k1.2 _ q
    · exact (List.mem_cons.1 m2).elim (fun e => e ▸ k2.1) fun q => k2.2 _ q
  · rename_i hl
    rw [hl] at m1; simp at m1
theorem sayO_next {sg : Int} {l : List RRow} {o : Option RRow} (h : rowsOk sg o l = true) : ∀ {i : Nat} {r : RRow}, l[i]? = some r → sayO l (r.w + 1) = (l[i + 1]?).map (·.m) := by
  induction l generalizing o with
  | nil => intro i r hr; simp at hr
  | cons a l ih =>
    intro i r hr
    simp only [rowsOk, Bool.and_eq_true] at h
    cases i with
    | zero =>
      simp at hr; subst hr
      simp only [sayO]
      rw [if_neg (by omega)]
      cases l with
      | nil => simp [sayO]
      | cons b l =>
        have := rows_gt h.2.2.2 b (by simp)
        simp only [sayO]
        rw [if_pos (by omega)]
        simp
    | succ i =>
      have hr' : l[i]? = some r := by simpa using hr
      have := rows_gt h.2.2.2 r (List.mem_of_getElem? hr')
      simp only [sayO]
      rw [if_neg (by omega), ih h.2.2.2 hr']
      simp
theorem heav_law2 {c : Craft} (hc : CraftOk c) {k metres : Int} (hk : kindB k = true) (hm : rI metres 0 20000 = true) {al wv : SpI} (hcd : condB al wv = true) :
    (HeavR c k metres al wv = (0, 7) ∧ ∃ m, sayO (tabOf c k) 0 = some m ∧ metres < (boundsI c ⟨m, m⟩ al wv).hi) ∨
    ∃ h m, HeavR c k metres al wv = (h, 0) ∧ (0 ≤ h ∧ h ≤ 100000) ∧ sayO (tabOf c k) h = some m ∧ (boundsI c ⟨m, m⟩ al wv).hi ≤ metres ∧
      (sayO (tabOf c k) (h + 1) = none ∨ ∃ m', sayO (tabOf c k) (h + 1) = some m' ∧ metres < (boundsI c ⟨m', m'⟩ al wv).hi) := by
  have hcd' := hcd
  simp only [condB, rS, Bool.and_eq_true, decide_eq_true_eq] at hcd'
  have hal : al.lo ≤ al.hi := by omega
  have hs : wv.lo ≤ wv.hi := by omega
  have ht := hc.tab k
  simp only [HeavR, hc.b, hk, hm, hcd, Bool.and_self, if_true]
  generalize hT : tabOf c k = T at *
  have hmon := bisI_mono (fun i => match T[i.toNat]? with | some r => overI c al wv metres r.m | none => false) 20 0 T.length (by omega) (by omega) (fun i j h0 hij hj hp => by
    obtain ⟨r, hr⟩ : ∃ r, T[i.toNat]? = some r := ⟨T[i.toNat]'(by omega), by simp⟩
    obtain ⟨s, hsj⟩ : ∃ s, T[j.toNat]? = some s := ⟨T[j.toNat]'(by omega), by simp⟩
    simp only [hr] at hp
    simp only [hsj]
    have h1 := rows_m ht.1 (i := i.toNat) (j := j.toNat) (by omega) hr hsj
    have h2 := bounds_hi hc.n h1 hal hs
    simp only [overI, decide_eq_true_eq] at hp ⊢
    omega)
  have hrg := bisI_range (fun i => match T[i.toNat]? with | some r => overI c al wv metres r.m | none => false) 20 0 T.length (by omega)
  generalize bisI (fun i => match T[i.toNat]? with | some r => overI c al wv metres r.m | none => false) 20 0 T.length = B at *
  by_cases h0 : B = 0
  · left
    subst h0
    refine ⟨by simp, ?_⟩
    obtain ⟨r, hr⟩ : ∃ r, T[0]? = some r := ⟨T[0]'(by omega), by simp⟩
    have hp := hmon.2 0 (by omega) (by omega)
    simp only [Int.toNat_zero, hr, overI, decide_eq_true_eq] at hp
    have hw := (rowsOk_mem ht.1 r (List.mem_of_getElem? hr)).1
    refine ⟨r.m, ?_, hp⟩
    cases T with
    | nil => simp at hr
    | cons a l => simp at hr; subst hr; simp only [sayO]; rw [if_pos hw.1]
  · right
    obtain ⟨r, hr⟩ : ∃ r, T[B.toNat - 1]? = some r := ⟨T[B.toNat - 1]'(by omega), by simp⟩
    have hw := (rowsOk_mem ht.1 r (List.mem_of_getElem? hr)).1
    have hp := hmon.1 (B - 1) (by omega) (by omega)
    simp only [show (B - 1).toNat = B.toNat - 1 by omega, hr, overI, decide_eq_false_iff_not] at hp
    refine ⟨r.w, r.m, ?_, hw, sayO_at ht.1 hr, by omega, ?_⟩
    · rw [if_neg h0, show (B - 1).toNat = B.toNat - 1 by omega, hr]
    · rw [sayO_next ht.1 hr, show B.toNat - 1 + 1 = B.toNat by omega]
      cases hn : T[B.toNat]? with
      | none => left; rfl
      | some s =>
        right
        have hlt := lt_of_getElem? hn
        have hp2 := hmon.2 B (by omega) (by omega)
        simp only [hn, overI, decide_eq_true_eq] at hp2
        exact ⟨s.m, rfl, hp2⟩
end Go.Sx
