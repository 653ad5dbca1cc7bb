/- Sx, part T: regions that draw their order: conditions out of the code. Own work. -/
import Derived.Test.YtjhoplbdpdbgaaaDoorSxS
set_option linter.unusedVariables false
set_option linter.unusedSimpArgs false
namespace Go.Sx

section
variable {P : Program} {n0 : Nat} {ro : Option Nat} {ops : Array Oper} {b len : Nat} {fl : Bool} {re : List (Nat × Nat)} {st : Nat → St} {row : Nat → Row}

/-- One phase, and what comes behind it. -/
theorem aany_phase {K : St → Prop} (hT : TRun P fl ops b len st row) (hph : PhF ops b len fl re) (hb : Back ops) (hre : ∀ p y, (p, y) ∈ re → p < len → y ≤ len → (row p).run = true → ReOk P fl (row p) (st y).h)
    (hK : adoptK P fl ((ops.toList.drop b).take len) (st len) fun s' => AAny P n0 ro ops (b + len) s' K) : AAny P n0 ro ops b (st 0) K := by
  intro X k0 k a Q hn hat hk listed fuel hs hr hf
  have hsz := hph.size
  have hnone : ∀ p, p < len → ¬ Ran listed (b + p) := fun p hp h => by have := (hr (b + p) (by omega)).1 h; omega
  have hnr : ∀ i, b + len ≤ i → ¬ Ran listed i := fun i hi h => by
    rcases Nat.lt_or_ge i ops.size with hlt | hge
    · have := (hr i hlt).1 h; omega
    · simp only [Ran, Array.getD_eq_getD_getElem?, Array.getElem?_eq_none (show listed.size ≤ i by omega)] at h; simp at h
  obtain ⟨nx, _, d1, d2, d3⟩ := next_eff ops fl b len len 0 (by omega)
  obtain ⟨s1, s2⟩ := text_stills hT hph nx (Nat.zero_le _) d1 fun q h1 h2 => d3 q h1 h2
  have hX : Pend ops b len fl X (Ran listed) (fun _ => 0) = X := funext fun c => propext ⟨fun h => h.elim id fun ⟨q, h1, _, h3, _⟩ => absurd h3 (hnone q h1), .inl⟩
  have hI : Inv P ops b len fl st row listed X k0 k a (st 0).env (fun _ => 0) nx := by
    refine ⟨hs, fun i hi => (hr i (by omega)).2 hi, hnr, fun i o ho h j hj => ?_, d1, fun h => ⟨d2 h, hnone nx h⟩, fun p h1 h2 => absurd h2 (d3 p (Nat.zero_le _) h1), ?_, fun p hp h => absurd h (hnone p hp), fun _ _ => rfl, fun p hp _ _ _ h => absurd h (hnone p hp), fun p _ hp _ _ _ h => absurd h (hnone p hp)⟩
    · have hi : i < ops.size := by
        rcases Nat.lt_or_ge i ops.size with h | h
        · exact h
        · rw [Array.getElem?_eq_none h] at ho; cases ho
      have h1 := (hr i hi).1 h
      have h2 := hb i o ho j hj
      exact (hr j (by omega)).2 (by omega)
    · rw [hX]
      exact ⟨by rw [hat.h]; exact s1.symm, by rw [hat.nid]; exact s2.symm, hat.good, hat.le, hat.act⟩
  have hunl : unl (fun i => listed.getD i true) ops.size ≤ fuel := by
    refine Nat.le_trans (unl_low (c := b) (fun i hi => ?_) ops.size) hf
    have hlt : i < listed.size := by omega
    have := (hr i (by omega)).2 hi
    simp only [Ran, Array.getD_eq_getD_getElem?, Array.getElem?_eq_getElem hlt] at this ⊢
    simpa using this
  refine phase_go hT hph hb hre hn ?_ fuel listed k a _ _ nx hI hunl
  intro listed' k' a' e fb fuel' hI' hall hf'
  have hg := hI'.at_.good
  have hran : ∀ p, p < len → Ran listed' (b + p) := fun p hp => hall _ (by omega)
  have hX' : Pend ops b len fl X (Ran listed') fb = fun c => X c ∨ ∃ q, 0 ≤ q ∧ q < len ∧ (∃ o, ops[b + q]? = some o ∧ isF fl o = true) ∧ c = fb q :=
    funext fun c => propext (or_congr Iff.rfl (exists_congr fun q => ⟨fun ⟨h1, h2, _, h4⟩ => ⟨Nat.zero_le _, h1, h2, h4⟩, fun ⟨_, h1, h2, h4⟩ => ⟨h1, h2, hran q h1, h4⟩⟩))
  have hlen : ((ops.toList.drop b).take len).length = len := by simp; omega
  have hat' : At (fun c => X c ∨ ∃ q, 0 ≤ q ∧ q < len ∧ (∃ o, ops[b + q]? = some o ∧ isF fl o = true) ∧ c = fb q) k0 k' a' (st len) := by
    rw [← hX']
    refine ⟨hI'.at_.h, hI'.at_.nid, hg, hI'.at_.le, ⟨by rw [text_n hT hph len (Nat.le_refl _)]; exact hI'.at_.act.size, fun t => ?_, hI'.at_.act.marks⟩⟩
    by_cases hw : ∃ p, p < len ∧ ∃ o, ops[b + p]? = some o ∧ o.dst = some t ∧ t < (st 0).n
    · obtain ⟨p, hp, o, ho, hd, hlt⟩ := hw
      rw [text_writer hT hph hp ho hd hlt len hp (Nat.le_refl _)]
      have h1 := hI'.e1 p hp (hran p hp) o t ho hd hlt
      have h2 := hI'.at_.act.rel t
      cases hF : isF fl o with
      | true =>
        have hstep := (hT.step p hp o ho).step
        have hrun : (row p).run = true := by
          have hg := (hT.step p hp o ho).guard
          rw [hph.flg p hp o ho hF] at hg
          exact hg
        have : (row p).d = .any := by
          rw [hrun] at hstep
          split at hstep
          · unfold OStep at hstep
            have hk : dkind fl o.op = .float := by
              unfold isF at hF
              cases hk : dkind fl o.op <;> simp_all
            rw [hk] at hstep
            exact hstep.2.1
          · rename_i hf; exact absurd rfl hf
        rw [this]; exact .any _ _
      | false =>
        rw [valP, hF] at h1
        simp only [Bool.false_eq_true, if_false] at h1
        rw [← h1]; exact h2
    · have hno : ∀ p, p < len → ∀ o, ops[b + p]? = some o → o.dst = some t → ¬ t < (st 0).n := fun p hp o ho hd hlt => hw ⟨p, hp, o, ho, hd, hlt⟩
      rw [text_other hT hph len (Nat.le_refl _) hno, ← hI'.e2 t fun p hp _ => hno p hp]
      exact hI'.at_.act.rel t
  obtain ⟨k2, s2, hw2, hat2, hK2⟩ := adopt_go (P := P) (fl := fl) (ops := ops) (b := b) (len := len) (X := X) (k0 := k0) (a := a') (fb := fb) k'.w
    (fun p q hp hq h1 h2 => hI'.inj p q hp hq h1 h2 (hran p hp) (hran q hq)) (fun p hp o ho hF => let ⟨f1, _, f2⟩ := hI'.fz p hp o ho hF (hran p hp); ⟨f1, f2⟩)
    (fun p hp o ho hF t hd ht => by
      have hlt : t < (st 0).n := by rw [hI'.at_.act.size] at ht; exact ht
      have h1 := hI'.e1 p hp (hran p hp) o t ho hd hlt
      have h2 := hI'.at_.act.rel t
      simp only at h2
      rw [h1, valP, hF, if_pos rfl] at h2
      generalize a'.tmps.getD t undef = v at h2
      cases h2; rfl)
    (fun p hp ⟨o, ho, hf⟩ => (hI'.fz p hp o ho hf (hran p hp)).2.1)
    _ 0 (st len) k' (fun j hj => by
      rw [hlen] at hj
      simp only [List.getElem?_take, List.getElem?_drop, Nat.zero_add]
      rw [if_pos hj]; simp) (by rw [hlen]; omega) rfl hat' hK
  rw [← hw2]
  refine hK2 X k0 k2 a' Q hn hat2 hk listed' fuel' hI'.size (fun i hi => ⟨fun h => ?_, hall i⟩) hf'
  rcases Nat.lt_or_ge i (b + len) with h1 | h1
  · exact h1
  · exact absurd h (hI'.hi i h1)

end
end Go.Sx
