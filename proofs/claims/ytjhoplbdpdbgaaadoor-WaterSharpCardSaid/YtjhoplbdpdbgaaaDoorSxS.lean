/- Sx, part S: regions that draw their order: the whole. Own work. -/
import Derived.Test.YtjhoplbdpdbgaaaDoorSxR
set_option linter.unusedVariables false
set_option linter.unusedSimpArgs false
namespace Go.Sx

section
variable {P : Program} {n0 : Nat} {ro : Option Nat} {ops : Array Oper} {b len : Nat} {fl : Bool} {re : List (Nat × Nat)} {st : Nat → St} {row : Nat → Row}

/-- The boxes of a phase get their names, in the order of the text. -/
def adoptK (P : Program) (fl : Bool) : List Oper → St → (St → Prop) → Prop
  | [], s, K => K s
  | o :: r, s, K =>
    if isF fl o then
      match zeroA P o.op with
      | some zs => adoptK P fl r (St.put ⟨s.env, (s.nid, .box zs) :: s.h, s.nid + 1, s.n⟩ o.dst (.ptr s.nid 0)) K
      | none => False
    else adoptK P fl r s K

theorem adopt_go {X : Nat → Prop} {k0 : Cx} {a : Act} {fb : Nat → Nat} (w : World) {K : St → Prop}
    (inj : ∀ p q, p < len → q < len → (∃ o, ops[b + p]? = some o ∧ isF fl o = true) → (∃ o, ops[b + q]? = some o ∧ isF fl o = true) → fb p = fb q → p = q)
    (fz : ∀ p, p < len → ∀ o, ops[b + p]? = some o → isF fl o = true → k0.w.heap.size ≤ fb p ∧ ∃ zs vs ty, zeroA P o.op = some zs ∧ w.heap[fb p]? = some (.cells (List.toArray vs) ty (0, 0)) ∧ ∀ R n, RelL R n vs zs)
    (tp : ∀ p, p < len → ∀ o, ops[b + p]? = some o → isF fl o = true → ∀ t, o.dst = some t → t < a.tmps.size → a.tmps.getD t undef = .pointer (some ⟨fb p, 0, none⟩))
    (hX : ∀ p, p < len → (∃ o, ops[b + p]? = some o ∧ isF fl o = true) → ¬ X (fb p)) :
    ∀ (l : List Oper) (p : Nat) (s : St) (k : Cx), (∀ j, j < l.length → l[j]? = ops[b + (p + j)]?) → p + l.length = len → k.w = w →
      At (fun c => X c ∨ ∃ q, p ≤ q ∧ q < len ∧ (∃ o, ops[b + q]? = some o ∧ isF fl o = true) ∧ c = fb q) k0 k a s → adoptK P fl l s K → ∃ k' s', k'.w = w ∧ At X k0 k' a s' ∧ K s'
  | [], p, s, k, _, hl, hw, hat, hK => by
    simp only [List.length_nil, Nat.add_zero] at hl
    have hX' : (fun c => X c ∨ ∃ q, p ≤ q ∧ q < len ∧ (∃ o, ops[b + q]? = some o ∧ isF fl o = true) ∧ c = fb q) = X := funext fun c => propext ⟨fun h => h.elim id fun ⟨q, h1, h2, _⟩ => by omega, .inl⟩
    rw [hX'] at hat
    exact ⟨k, s, hw, hat, hK⟩
  | o :: r, p, s, k, hops, hl, hw, hat, hK => by
    have hp : p < len := by simp at hl; omega
    have ho : ops[b + p]? = some o := by have := hops 0 (by simp); simpa using this.symm
    have hrest : ∀ j, j < r.length → r[j]? = ops[b + (p + 1 + j)]? := fun j hj => by
      have := hops (j + 1) (by simp; omega)
      rw [show p + 1 + j = p + (j + 1) by omega, ← this]; simp
    simp only [adoptK] at hK
    split at hK
    · rename_i hF
      split at hK
      · rename_i zs hz
        obtain ⟨f1, zs', vs, ty, f2, f3, f4⟩ := fz p hp o ho hF
        rw [hz] at f2; cases f2
        have hsplit : ∀ d, (X d ∨ ∃ q, p ≤ q ∧ q < len ∧ (∃ o, ops[b + q]? = some o ∧ isF fl o = true) ∧ d = fb q) ↔
            (X d ∨ ∃ q, p + 1 ≤ q ∧ q < len ∧ (∃ o, ops[b + q]? = some o ∧ isF fl o = true) ∧ d = fb q) ∨ d = fb p := fun d => by
          constructor
          · rintro (h | ⟨q, h1, h2, h3, h4⟩)
            · exact .inl (.inl h)
            · by_cases hq : q = p
              · subst hq; exact .inr h4
              · exact .inl (.inr ⟨q, by omega, h2, h3, h4⟩)
          · rintro ((h | ⟨q, h1, h2, h3, h4⟩) | h)
            · exact .inl h
            · exact .inr ⟨q, by omega, h2, h3, h4⟩
            · exact .inr ⟨p, Nat.le_refl _, hp, ⟨o, ho, hF⟩, h⟩
        have hnX : ¬ (X (fb p) ∨ ∃ q, p + 1 ≤ q ∧ q < len ∧ (∃ o, ops[b + q]? = some o ∧ isF fl o = true) ∧ fb p = fb q) := by
          rintro (h | ⟨q, h1, h2, h3, h4⟩)
          · exact hX p hp ⟨o, ho, hF⟩ h
          · have := inj p q hp h2 ⟨o, ho, hF⟩ h3 h4; omega
        obtain ⟨g1, g2, g3⟩ := good_adopt (zs := zs) hat.good hat.le hsplit hnX f1 (by rw [hw]; exact f3) f4
        refine adopt_go w inj fz tp hX r (p + 1) _ (k.adopt (fb p) zs) hrest (by simp at hl; omega) hw ⟨?_, ?_, g1, g2, ?_⟩ hK
        · rw [put_h]; simp [Cx.adopt, hat.h, hat.nid]
        · rw [put_nid]; simp [Cx.adopt, hat.nid]
        · have hact : ActOk (fun c => X c ∨ ∃ q, p + 1 ≤ q ∧ q < len ∧ (∃ o, ops[b + q]? = some o ∧ isF fl o = true) ∧ c = fb q) (k.adopt (fb p) zs) k0.w.heap.size a s.env s.n :=
            ⟨hat.act.size, fun i => ((hat.act.rel i).mono (g3 _ (Nat.le_refl _))).weak (Nat.le_succ _), hat.act.marks⟩
          refine ⟨by rw [put_n]; exact hact.size, fun i => ?_, hact.marks⟩
          rw [look_put]
          split
          · rename_i hi
            rw [tp p hp o ho hF i hi.1 (by rw [hact.size]; exact hi.2)]
            have := Rel.ptr (R := (k.adopt (fb p) zs).R fun c => X c ∨ ∃ q, p + 1 ≤ q ∧ q < len ∧ (∃ o, ops[b + q]? = some o ∧ isF fl o = true) ∧ c = fb q) (k.nid + 1) k.nid 0 (by omega)
            simpa [Cx.R, Cx.adopt, hat.nid] using this
          · exact hact.rel i
      · exact hK.elim
    · rename_i hF
      have hX' : (fun c => X c ∨ ∃ q, p ≤ q ∧ q < len ∧ (∃ o, ops[b + q]? = some o ∧ isF fl o = true) ∧ c = fb q) = fun c => X c ∨ ∃ q, p + 1 ≤ q ∧ q < len ∧ (∃ o, ops[b + q]? = some o ∧ isF fl o = true) ∧ c = fb q :=
        funext fun c => propext (or_congr Iff.rfl (exists_congr fun q => ⟨fun ⟨h1, h2, h3, h4⟩ => ⟨by
          rcases Nat.lt_or_ge p q with h | h
          · exact h
          · have : q = p := by omega
            subst this
            obtain ⟨o', ho', hf⟩ := h3
            rw [ho] at ho'; cases ho'; exact absurd hf hF, h2, h3, h4⟩, fun ⟨h1, h2, h3, h4⟩ => ⟨by omega, h2, h3, h4⟩⟩))
      rw [hX'] at hat
      exact adopt_go w inj fz tp hX r (p + 1) s k hrest (by simp at hl; omega) hw hat hK

/-- The rest of a region, from where all ahead of it has run. -/
def AAny (P : Program) (n0 : Nat) (ro : Option Nat) (ops : Array Oper) (b : Nat) (s : St) (K : St → Prop) : Prop :=
  ∀ X k0 k a (Q : Exit → Act → World → Prop), k0.nid = n0 → At X k0 k a s → (∀ k' a' s', K s' → At X k0 k' a' s' → Q .normal a' k'.w) →
    ∀ (listed : Array Bool) (fuel : Nat), listed.size = ops.size → (∀ i, i < ops.size → (Ran listed i ↔ i < b)) → ops.size - b ≤ fuel → wpAnyIn (FW ro) 0 P .any ops Q fuel listed a k.w

theorem aany_nil {s : St} {K : St → Prop} (hb : ops.size ≤ b) (h : K s) : AAny P n0 ro ops b s K := by
  intro X k0 k a Q hn hat hk listed fuel hs hr hf
  have hnil : Region.ready .any ops listed = [] := by
    cases hq : Region.ready .any ops listed with
    | nil => rfl
    | cons i r =>
      have hi : i ∈ Region.ready .any ops listed := by rw [hq]; simp
      obtain ⟨o, ho, hn, _⟩ := (mem_ready hs).1 hi
      have hlt : i < ops.size := by
        rcases Nat.lt_or_ge i ops.size with h | h
        · exact h
        · rw [Array.getElem?_eq_none h] at ho; cases ho
      exact absurd ((hr i hlt).2 (by omega)) hn
  have hq := hk k a s h hat
  cases fuel with
  | zero => exact ⟨hnil, hq⟩
  | succ n => exact ⟨fun _ => hq, fun i hi => by rw [hnil] at hi; cases hi⟩

/-- One step of a phase, and what is left of it. -/
theorem phase_go (hT : TRun P fl ops b len st row) (hph : PhF ops b len fl re) (hb : Back ops) (hre : ∀ p y, (p, y) ∈ re → p < len → y ≤ len → (row p).run = true → ReOk P fl (row p) (st y).h)
    {X : Nat → Prop} {k0 : Cx} {Q : Exit → Act → World → Prop} (hn : k0.nid = n0)
    (hend : ∀ listed k a e fb fuel, Inv P ops b len fl st row listed X k0 k a e fb len → (∀ i, i < b + len → Ran listed i) → ops.size - (b + len) ≤ fuel → wpAnyIn (FW ro) 0 P .any ops Q fuel listed a k.w) :
    ∀ fuel listed k a e fb nx, Inv P ops b len fl st row listed X k0 k a e fb nx → unl (fun i => listed.getD i true) ops.size ≤ fuel → wpAnyIn (FW ro) 0 P .any ops Q fuel listed a k.w := by
  intro fuel
  induction fuel with
  | zero =>
    intro listed k a e fb nx hI hf
    have hall : ∀ i, i < ops.size → Ran listed i := fun i hi => by
      cases hg : listed.getD i true with
      | true =>
        have hlt : i < listed.size := by rw [hI.size]; exact hi
        simp only [Ran, Array.getD_eq_getD_getElem?, Array.getElem?_eq_getElem hlt] at hg ⊢
        simpa using hg
      | false => have := unl_pos (f := fun i => listed.getD i true) hi hg; omega
    have hnx : nx = len := by
      rcases Nat.lt_or_ge nx len with h | h
      · have := hph.size; exact absurd (hall (b + nx) (by omega)) (hI.nx1 h).2
      · have := hI.nxle; omega
    subst hnx
    refine hend listed k a e fb 0 hI (fun i hi => hall i (by have := hph.size; omega)) ?_
    rcases Nat.lt_or_ge (b + nx) ops.size with h | h
    · exact absurd (hall _ h) (hI.hi _ (Nat.le_refl _))
    · omega
  | succ fuel ih =>
    intro listed k a e fb nx hI hf
    by_cases hfull : ∀ i, i < b + len → Ran listed i
    · have hnx : nx = len := by
        rcases Nat.lt_or_ge nx len with h | h
        · exact absurd (hfull (b + nx) (by omega)) (hI.nx1 h).2
        · have := hI.nxle; omega
      subst hnx
      refine hend listed k a e fb (fuel + 1) hI hfull ?_
      exact Nat.le_trans (by
        have : ops.size - (b + nx) ≤ unl (fun i => listed.getD i true) ops.size := by
          have key : ∀ n, n ≤ ops.size → n - (b + nx) ≤ unl (fun i => listed.getD i true) n := by
            intro n
            induction n with
            | zero => intro _; simp
            | succ n ihn =>
              intro hle
              have := ihn (by omega)
              simp only [unl]
              by_cases hn : n < b + nx
              · split <;> omega
              · have hnr := hI.hi n (by omega)
                have : listed.getD n true = false := by
                  have hlt : n < listed.size := by rw [hI.size]; omega
                  simp only [Ran, Array.getD_eq_getD_getElem?, Array.getElem?_eq_getElem hlt] at hnr ⊢
                  simpa using hnr
                simp only [this, Bool.false_eq_true, if_false]; omega
          exact key _ (Nat.le_refl _)
        exact this) hf
    · refine ⟨fun hnil => ?_, fun i hi => ?_⟩
      · exfalso
        have hmin : ∃ i, i < b + len ∧ ¬ Ran listed i ∧ ∀ j, j < i → Ran listed j := by
          have : ∀ n, (∃ i, i < n ∧ ¬ Ran listed i) → ∃ i, i < n ∧ ¬ Ran listed i ∧ ∀ j, j < i → Ran listed j := by
            intro n
            induction n with
            | zero => rintro ⟨i, h, _⟩; omega
            | succ n ihn =>
              rintro ⟨i, h1, h2⟩
              by_cases hex : ∃ i, i < n ∧ ¬ Ran listed i
              · obtain ⟨i, a, c, d⟩ := ihn hex; exact ⟨i, by omega, c, d⟩
              · refine ⟨i, h1, h2, fun j hj => ?_⟩
                by_cases hr : Ran listed j
                · exact hr
                · exact absurd ⟨j, by omega, hr⟩ hex
          refine this _ ?_
          simp only [Classical.not_forall] at hfull
          obtain ⟨i, h1, h2⟩ := hfull
          exact ⟨i, h1, h2⟩
        obtain ⟨i, h1, h2, h3⟩ := hmin
        have hlt : i < ops.size := by have := hph.size; omega
        have hm : i ∈ Region.ready .any ops listed := (mem_ready hI.size).2 ⟨ops[i], by simp [hlt], h2, fun j hj => h3 j (hb i _ (by simp [hlt]) j hj)⟩
        rw [hnil] at hm; cases hm
      · obtain ⟨o, ho, hnr, hr⟩ := (mem_ready hI.size).1 hi
        have hilt : i < ops.size := by
          rcases Nat.lt_or_ge i ops.size with h | h
          · exact h
          · rw [Array.getElem?_eq_none h] at ho; cases ho
        have hib : b ≤ i := by
          rcases Nat.lt_or_ge i b with h | h
          · exact absurd (hI.lo i h) hnr
          · exact h
        have hil : i < b + len := by
          rcases Nat.lt_or_ge i (b + len) with h | h
          · exact h
          · exfalso
            apply hfull
            intro j hj
            rcases Nat.lt_or_ge j b with h4 | h4
            · exact hI.lo j h4
            · have := hph.bar i h hilt (j - b) (by omega)
              rw [show b + (j - b) = j by omega] at this
              exact bef_sound hb hI.cl i o ho hr j this
        obtain ⟨p, rfl⟩ : ∃ p, i = b + p := ⟨i - b, by omega⟩
        have hp : p < len := by omega
        have hro := hT.step p hp o ho
        have hsz : b + p < listed.size := by rw [hI.size]; exact hilt
        have hfuel : unl (fun i => (listed.setIfInBounds (b + p) true).getD i true) ops.size ≤ fuel := by
          have hs := (unl_set (f := fun i => listed.getD i true) (g := fun i => (listed.setIfInBounds (b + p) true).getD i true) (i := b + p) (by
            simp only [Ran, Array.getD_eq_getD_getElem?, Array.getElem?_eq_getElem hsz] at hnr ⊢
            simpa using hnr) (by simp [Array.getD_eq_getD_getElem?, Array.getElem?_setIfInBounds_self_of_lt hsz]) (fun j hj => by
            simp only [Array.getD_eq_getD_getElem?, Array.getElem?_setIfInBounds_ne (Ne.symm hj)]) ops.size).2 hilt
          omega
        have hev := evO_read hT hph hb hI hp ho hnr hr
        -- the guard
        have hwant : Region.wanted o (yielded ops a.tmps) = (row p).run := by
          have hg := hro.guard
          unfold Region.wanted
          cases hgd : o.guard with
          | none => rw [hgd] at hg; simp only at hg ⊢; exact hg.symm
          | some jw =>
            obtain ⟨j, w⟩ := jw
            rw [hgd] at hg
            obtain ⟨t, g1, g⟩ := hg
            have hrd := hI.read hT hph hb hp ho hnr hr (t := t) (by simp only [readsG, hgd, g1]; simp)
            simp only
            rcases g with ⟨bb, g2, g3⟩ | ⟨g2, g3⟩
            · rw [yielded_eq hI.at_.act g1 (hrd.trans g2), g3]
              cases bb <;> cases w <;> rfl
            · rw [yielded_off hI.at_.act g1 (hrd.trans g2), g3]
              rfl
        simp only [wpOpIn, ho, hwant]
        have hstep := hro.step
        cases hrun : (row p).run with
        | false =>
          rw [hrun] at hstep
          simp only [Bool.false_eq_true, if_false] at hstep ⊢
          refine ⟨fun _ _ => trivial, ?_⟩
          have hF : isF fl o = false := by
            cases hf : isF fl o with
            | false => rfl
            | true =>
              have hg := hro.guard
              rw [hph.flg p hp o ho hf] at hg
              simp only at hg
              rw [hrun] at hg; cases hg
          have hat' : ∀ nx', (st nx').h = (st nx).h → (st nx').nid = (st nx).nid → At (Pend ops b len fl X (Ran listed) fb) k0 k (a.put o.dst undef) ⟨(St.put ⟨e, (st nx).h, (st nx).nid, (st 0).n⟩ o.dst (row p).d).env, (st nx').h, (st nx').nid, (st 0).n⟩ := fun nx' h1 h2 => by
            have := hI.at_.act.put (s := ⟨e, (st nx).h, (st nx).nid, (st 0).n⟩) o.dst (v := undef) (d := (row p).d) (by rw [hstep.1]; exact .tup _ [] [] rfl (by simp))
            rw [put_n] at this
            exact ⟨by rw [h1]; exact hI.at_.h, by rw [h2]; exact hI.at_.nid, hI.at_.good, hI.at_.le, this⟩
          cases hE : isE fl o with
          | false =>
            obtain ⟨c1, c2⟩ := nx_quiet hph hI hp ho hE
            exact ih _ _ _ _ fb nx (hI.next hph hp ho hF hr (hat' nx rfl rfl) (.refl k) (fun t => look_put _ _ _ _ _ _ _) hI.nxle c1 c2) hfuel
          | true =>
            have hnx := eff_next hph hb hI hp ho hnr hr hE
            subst hnx
            obtain ⟨nx', d1, d2, d3, c1, c2⟩ := nx_eff hph hb hI hp ho hE
            obtain ⟨s1, s2⟩ := text_stills hT hph nx' d1 d2 d3
            exact ih _ _ _ _ fb nx' (hI.next hph hp ho hF hr (hat' nx' (s1.trans hstep.2.1) (s2.trans hstep.2.2)) (.refl k) (fun t => look_put _ _ _ _ _ _ _) d2 c1 c2) hfuel
        | true =>
          rw [hrun] at hstep
          simp only [if_true] at hstep ⊢
          unfold OStep at hstep
          cases hk : dkind fl o.op with
          | float =>
            rw [hk] at hstep
            obtain ⟨zs, hz⟩ := Option.isSome_iff_exists.1 hstep.1
            have hF : isF fl o = true := by simp [isF, hk]
            obtain ⟨vs, ty, h1, h2⟩ := run_zeroA hz a o rfl k.w
            obtain ⟨e', fb', hI'⟩ := hI.float hph hp ho hF hnr hr hz h2
            refine ⟨fun _ _ => trivial, ?_⟩
            rw [semAt_eq _ _ (zeroA_not_defer hz), h1]
            exact ih _ { k with w := k.w.alloc (.cells (List.toArray vs) ty) } _ e' fb' nx hI' hfuel
          | eff =>
            rw [hk] at hstep
            have hE : isE fl o = true := by simp [isE, hk]
            have hF := not_both hE
            have hnx := eff_next hph hb hI hp ho hnr hr hE
            subst hnx
            obtain ⟨nx', d1, d2, d3, c1, c2⟩ := nx_eff hph hb hI hp ho hE
            obtain ⟨s1, s2⟩ := text_stills hT hph nx' d1 d2 d3
            have hop : opF P o.op (evO e) (st nx).h (st nx).nid = some ((row nx).d, (st (nx + 1)).h, (st (nx + 1)).nid) := by
              rw [← opF_congr hev]; exact hstep
            have hok : OpOk P n0 ro o ⟨e, (st nx).h, (st nx).nid, (st 0).n⟩ fun s' => s' = St.put ⟨e, (st (nx + 1)).h, (st (nx + 1)).nid, (st 0).n⟩ o.dst (row nx).d := opOk_eff hop rfl
            refine hok _ k0 k a Q _ hn hI.at_ fun k' a' s' hs' hat' hle => ?_
            subst hs'
            refine ih _ k' a' _ fb nx' (hI.next hph hp ho hF hr (e' := (St.put ⟨e, (st (nx + 1)).h, (st (nx + 1)).nid, (st 0).n⟩ o.dst (row nx).d).env) ⟨?_, ?_, hat'.good, hat'.le, ?_⟩ hle (fun t => look_put _ _ _ _ _ _ _) d2 c1 c2) hfuel
            · rw [hat'.h, put_h]; exact s1.symm
            · rw [hat'.nid, put_nid]; exact s2.symm
            · have := hat'.act; rw [put_n] at this; exact this
          | quiet =>
            rw [hk] at hstep
            have hE : isE fl o = false := by simp [isE, hk]
            have hF : isF fl o = false := by simp [isF, hk]
            obtain ⟨c1, c2⟩ := nx_quiet hph hI hp ho hE
            have hq : quietD P o.op (evO e) (st nx).h = some (row p).d := by
              rw [← quietD_congr hev]
              cases hi : indep o.op with
              | true => rw [quietD_indep (h' := (st p).h) hi]; exact hstep.1
              | false =>
                rcases meets hT hph hb hI hp ho hnr hr hE hF hi with h | h
                · rw [h]; exact hstep.1
                · have := hre p nx h hp hI.nxle hrun
                  unfold ReOk at this
                  rw [hro.op, hk] at this
                  exact this
            have hok : OpOk P n0 ro o ⟨e, (st nx).h, (st nx).nid, (st 0).n⟩ fun s' => s' = St.put ⟨e, (st nx).h, (st nx).nid, (st 0).n⟩ o.dst (row p).d := opOk_quiet hq rfl
            refine hok _ k0 k a Q _ hn hI.at_ fun k' a' s' hs' hat' hle => ?_
            subst hs'
            refine ih _ k' a' _ fb nx (hI.next hph hp ho hF hr (e' := (St.put ⟨e, (st nx).h, (st nx).nid, (st 0).n⟩ o.dst (row p).d).env) ⟨?_, ?_, hat'.good, hat'.le, ?_⟩ hle (fun t => look_put _ _ _ _ _ _ _) hI.nxle c1 c2) hfuel
            · rw [hat'.h, put_h]
            · rw [hat'.nid, put_nid]
            · have := hat'.act; rw [put_n] at this; exact this
          | call =>
            rw [hk] at hstep
            have hE : isE fl o = false := by simp [isE, hk]
            have hF : isF fl o = false := by simp [isF, hk]
            obtain ⟨c1, c2⟩ := nx_quiet hph hI hp ho hE
            have hcq := hstep.1
            unfold callQC at hcq
            split at hcq
            · rename_i c hop
              split at hcq
              · rename_i f ds hcal
                have hi : indep o.op = false := by rw [hop]; rfl
                have hcal' : calleeD e c = some (f, ds) := by
                  rw [← hcal]; exact (calleeD_congr (by rw [← hop]; exact fun x hx => (hev x hx))).symm
                have hqc : QC P f ds (st nx).h (row p).d := by
                  rcases meets hT hph hb hI hp ho hnr hr hE hF hi with h | h
                  · rw [h]; exact hcq
                  · have := hre p nx h hp hI.nxle hrun
                    unfold ReOk at this
                    rw [hro.op, hk] at this
                    simp only [hop, hcal] at this
                    unfold QC at hcq ⊢
                    rw [this, hro.h]
                    exact hcq
                have hok : OpOk P n0 ro o ⟨e, (st nx).h, (st nx).nid, (st 0).n⟩ fun s' => s' = St.put ⟨e, (st nx).h, (st nx).nid, (st 0).n⟩ o.dst (row p).d := opOk_qc hop hcal' hqc rfl
                refine hok _ k0 k a Q _ hn hI.at_ fun k' a' s' hs' hat' hle => ?_
                subst hs'
                refine ih _ k' a' _ fb nx (hI.next hph hp ho hF hr (e' := (St.put ⟨e, (st nx).h, (st nx).nid, (st 0).n⟩ o.dst (row p).d).env) ⟨?_, ?_, hat'.good, hat'.le, ?_⟩ hle (fun t => look_put _ _ _ _ _ _ _) hI.nxle c1 c2) hfuel
                · rw [hat'.h, put_h]
                · rw [hat'.nid, put_nid]
                · have := hat'.act; rw [put_n] at this; exact this
              · exact hcq.elim
            · exact hcq.elim

end
end Go.Sx
