/- Sx, part Q: regions that draw their order: the steps of one phase. Own work. -/
import Derived.Test.YtjhoplbdpdbgaaaDoorSxP
set_option linter.unusedVariables false
set_option linter.unusedSimpArgs false
namespace Go.Sx

section
variable {P : Program} {n0 : Nat} {ro : Option Nat} {ops : Array Oper} {b len : Nat} {fl : Bool} {re : List (Nat × Nat)} {st : Nat → St} {row : Nat → Row}

theorem next_eff (ops : Array Oper) (fl : Bool) (b len : Nat) : ∀ d m, m + d = len → ∃ nx, m ≤ nx ∧ nx ≤ len ∧ (nx < len → isEat ops fl (b + nx)) ∧ ∀ q, m ≤ q → q < nx → ¬ isEat ops fl (b + q)
  | 0, m, h => ⟨m, Nat.le_refl _, by omega, fun h => by omega, fun q h1 h2 => by omega⟩
  | d + 1, m, h => by
    by_cases hE : isEat ops fl (b + m)
    · exact ⟨m, Nat.le_refl _, by omega, fun _ => hE, fun q h1 h2 => by omega⟩
    · obtain ⟨nx, h1, h2, h3, h4⟩ := next_eff ops fl b len d (m + 1) (by omega)
      refine ⟨nx, by omega, h2, h3, fun q h5 h6 => ?_⟩
      by_cases hq : q = m
      · subst hq; exact hE
      · exact h4 q (by omega) h6

theorem Inv.next {listed : Array Bool} {X : Nat → Prop} {k0 k k' : Cx} {a a' : Act} {e e' : Env} {fb : Nat → Nat} {nx nx' : Nat} (hph : PhF ops b len fl re)
    (hI : Inv P ops b len fl st row listed X k0 k a e fb nx) {p : Nat} (hp : p < len) {o : Oper} (ho : ops[b + p]? = some o) (hF : isF fl o = false) (hr : ∀ j ∈ bnd o, Ran listed j)
    (hat : At (Pend ops b len fl X (Ran listed) fb) k0 k' a' ⟨e', (st nx').h, (st nx').nid, (st 0).n⟩) (hle : Le k k') (hl : ∀ t, look e' t = if o.dst = some t ∧ t < (st 0).n then (row p).d else look e t)
    (hn : nx' ≤ len) (c1 : nx' < len → isEat ops fl (b + nx') ∧ ¬ Ran (listed.setIfInBounds (b + p) true) (b + nx')) (c2 : ∀ q, q < nx' → isEat ops fl (b + q) → Ran (listed.setIfInBounds (b + p) true) (b + q)) :
    Inv P ops b len fl st row (listed.setIfInBounds (b + p) true) X k0 k' a' e' fb nx' := by
  have hsz : b + p < listed.size := by rw [hI.size]; have := hph.size; omega
  have hrs := fun j => ran_set (listed := listed) (j := j) hsz
  have hX : Pend ops b len fl X (Ran (listed.setIfInBounds (b + p) true)) fb = Pend ops b len fl X (Ran listed) fb := funext fun c => propext (ran_pend hsz ho hF c)
  have hfl : ∀ q, q < len → (∃ o, ops[b + q]? = some o ∧ isF fl o = true) → Ran (listed.setIfInBounds (b + p) true) (b + q) → Ran listed (b + q) := fun q hq ⟨o', ho', hf⟩ h => by
    rcases (hrs _).1 h with h | h
    · have : q = p := by omega
      subst this; rw [ho] at ho'; cases ho'; rw [hF] at hf; cases hf
    · exact h
  refine ⟨by simpa using hI.size, fun i hi => (hrs i).2 (.inr (hI.lo i hi)), fun i hi h => ?_, fun i o' ho' h j hj => ?_, hn, c1, c2, by rw [hX]; exact hat, fun q hq h o' t ho' hd hlt => ?_, fun t h => ?_, fun q hq o' ho' hf h => ?_, fun q q' hq hq' hf hf' h h' => hI.inj q q' hq hq' hf hf' (hfl q hq hf h) (hfl q' hq' hf' h')⟩
  · rcases (hrs i).1 h with h | h
    · omega
    · exact hI.hi i hi h
  · rcases (hrs i).1 h with h | h
    · subst h; rw [ho] at ho'; cases ho'; exact (hrs j).2 (.inr (hr j hj))
    · exact (hrs j).2 (.inr (hI.cl i o' ho' h j hj))
  · rw [hl]
    by_cases hqp : q = p
    · subst hqp; rw [ho] at ho'; cases ho'
      rw [if_pos ⟨hd, hlt⟩, valP, hF]; simp
    · rw [if_neg fun h' => hqp (uniq hph hq hp ho' ho hd h'.1)]
      rcases (hrs _).1 h with h | h
      · omega
      · exact hI.e1 q hq h o' t ho' hd hlt
  · rw [hl, if_neg fun h' => h p hp ((hrs _).2 (.inl rfl)) o ho h'.1 h'.2]
    exact hI.e2 t fun q hq hran => h q hq ((hrs _).2 (.inr hran))
  · have hran := hfl q hq ⟨o', ho', hf⟩ h
    obtain ⟨f1, f0, zs, vs, ty, f2, f3, f4⟩ := hI.fz q hq o' ho' hf hran
    refine ⟨f1, f0, zs, vs, ty, f2, ?_, f4⟩
    have hXf : Pend ops b len fl X (Ran listed) fb (fb q) := .inr ⟨q, hq, ⟨o', ho', hf⟩, hran, rfl⟩
    rw [hle.heap (fb q) (hI.at_.good.xlt _ hXf) fun ⟨id, hid⟩ => (hI.at_.good.lt id _ hid).2 hXf]
    exact f3

theorem evO_read {listed : Array Bool} {X : Nat → Prop} {k0 k : Cx} {a : Act} {e : Env} {fb : Nat → Nat} {nx : Nat} (hT : TRun P fl ops b len st row) (hph : PhF ops b len fl re) (hb : Back ops)
    (hI : Inv P ops b len fl st row listed X k0 k a e fb nx) {p : Nat} (hp : p < len) {o : Oper} (ho : ops[b + p]? = some o) (hnr : ¬ Ran listed (b + p)) (hr : ∀ j ∈ bnd o, Ran listed j) :
    ∀ x ∈ o.op.operands.toList, evO (row p).env x = evO e x := by
  intro x hx
  cases x with
  | tmp t =>
    simp only [evO]
    rw [(hT.step p hp o ho).env, hI.read hT hph hb hp ho hnr hr]
    simp only [readsG, List.mem_append, tmpsOf, List.mem_filterMap]
    exact .inl ⟨_, hx, rfl⟩
  | _ => rfl

/-- The memory that an operation meets: it reads there what it read in the order of the text. -/
theorem meets {listed : Array Bool} {X : Nat → Prop} {k0 k : Cx} {a : Act} {e : Env} {fb : Nat → Nat} {nx : Nat} (hT : TRun P fl ops b len st row) (hph : PhF ops b len fl re) (hb : Back ops)
    (hI : Inv P ops b len fl st row listed X k0 k a e fb nx) {p : Nat} (hp : p < len) {o : Oper} (ho : ops[b + p]? = some o) (hnr : ¬ Ran listed (b + p)) (hr : ∀ j ∈ bnd o, Ran listed j)
    (hE : isE fl o = false) (hF : isF fl o = false) (hi : indep o.op = false) : (st nx).h = (st p).h ∨ (p, nx) ∈ re := by
  rcases hph.re p hp o ho hE hF hi nx hI.nxle with ⟨h1, h2⟩ | ⟨q, h1, h2, h3⟩ | h | h
  · obtain ⟨c1, c2⟩ := hI.nx1 h1
    rcases h2 with h2 | h2
    · exact absurd c1 h2
    · exact absurd (bef_sound hb hI.cl (b + p) o ho hr _ h2) c2
  · have hran := hI.nx2 q h1 h2
    have hql : q < len := Nat.lt_of_lt_of_le h1 hI.nxle
    obtain ⟨oq, hoq⟩ := op_at hph hql
    exact absurd (bef_sound hb hI.cl (b + q) oq hoq (hI.cl _ oq hoq hran) _ h3) hnr
  · left
    rcases Nat.lt_or_ge nx p with hlt | hge
    · exact (text_stills hT hph p (Nat.le_of_lt hlt) (by omega) fun x h1 h2 hx => h x (by omega) hx (.inr ⟨h1, h2⟩)).1.symm
    · exact (text_stills hT hph nx hge hI.nxle fun x h1 h2 hx => h x (by have := hI.nxle; omega) hx (.inl ⟨h1, h2⟩)).1
  · exact .inr h

/-- An effect that may run is the next one. -/
theorem eff_next {listed : Array Bool} {X : Nat → Prop} {k0 k : Cx} {a : Act} {e : Env} {fb : Nat → Nat} {nx : Nat} (hph : PhF ops b len fl re) (hb : Back ops)
    (hI : Inv P ops b len fl st row listed X k0 k a e fb nx) {p : Nat} (hp : p < len) {o : Oper} (ho : ops[b + p]? = some o) (hnr : ¬ Ran listed (b + p)) (hr : ∀ j ∈ bnd o, Ran listed j) (hE : isE fl o = true) : nx = p := by
  have hEp : isEat ops fl (b + p) := by simp [isEat, atO, ho, hE]
  rcases Nat.lt_trichotomy nx p with h | h | h
  · obtain ⟨c1, c2⟩ := hI.nx1 (by omega)
    obtain ⟨on, hon⟩ := op_at hph (show nx < len by omega)
    have hEn : isE fl on = true := by simpa [isEat, atO, hon] using c1
    exact absurd (bef_sound hb hI.cl (b + p) o ho hr _ ((hph.pair nx p (by omega) hp (by omega) on o hon ho).2 hEn hE h)) c2
  · exact h
  · exact absurd (hI.nx2 p h hEp) hnr

/-- Behind an operation without an effect. -/
theorem nx_quiet {listed : Array Bool} {X : Nat → Prop} {k0 k : Cx} {a : Act} {e : Env} {fb : Nat → Nat} {nx : Nat} (hph : PhF ops b len fl re)
    (hI : Inv P ops b len fl st row listed X k0 k a e fb nx) {p : Nat} (hp : p < len) {o : Oper} (ho : ops[b + p]? = some o) (hE : isE fl o = false) :
    (nx < len → isEat ops fl (b + nx) ∧ ¬ Ran (listed.setIfInBounds (b + p) true) (b + nx)) ∧ (∀ q, q < nx → isEat ops fl (b + q) → Ran (listed.setIfInBounds (b + p) true) (b + q)) := by
  have hsz : b + p < listed.size := by rw [hI.size]; have := hph.size; omega
  refine ⟨fun h => ⟨(hI.nx1 h).1, fun hran => ?_⟩, fun q h1 h2 => (ran_set hsz).2 (.inr (hI.nx2 q h1 h2))⟩
  rcases (ran_set hsz).1 hran with h2 | h2
  · have : nx = p := by omega
    subst this
    have := (hI.nx1 h).1
    simp [isEat, atO, ho, hE] at this
  · exact (hI.nx1 h).2 h2

theorem nx_eff {listed : Array Bool} {X : Nat → Prop} {k0 k : Cx} {a : Act} {e : Env} {fb : Nat → Nat} {p : Nat} (hph : PhF ops b len fl re) (hb : Back ops)
    (hI : Inv P ops b len fl st row listed X k0 k a e fb p) (hp : p < len) {o : Oper} (ho : ops[b + p]? = some o) (hE : isE fl o = true) :
    ∃ nx', p + 1 ≤ nx' ∧ nx' ≤ len ∧ (∀ q, p + 1 ≤ q → q < nx' → ¬ isEat ops fl (b + q)) ∧
      (nx' < len → isEat ops fl (b + nx') ∧ ¬ Ran (listed.setIfInBounds (b + p) true) (b + nx')) ∧ (∀ q, q < nx' → isEat ops fl (b + q) → Ran (listed.setIfInBounds (b + p) true) (b + q)) := by
  have hsz : b + p < listed.size := by rw [hI.size]; have := hph.size; omega
  obtain ⟨nx', h1, h2, h3, h4⟩ := next_eff ops fl b len (len - (p + 1)) (p + 1) (by omega)
  refine ⟨nx', h1, h2, h4, fun h => ⟨h3 h, fun hran => ?_⟩, fun q h5 h6 => ?_⟩
  · rcases (ran_set hsz).1 hran with h5 | h5
    · omega
    · obtain ⟨on, hon⟩ := op_at hph h
      have hEn : isE fl on = true := by simpa [isEat, atO, hon] using h3 h
      have hbf := (hph.pair p nx' hp h (by omega) o on ho hon).2 hE hEn (by omega)
      exact (hI.nx1 hp).2 (bef_sound hb hI.cl (b + nx') on hon (hI.cl _ on hon h5) _ hbf)
  · by_cases hqp : q = p
    · subst hqp; exact (ran_set hsz).2 (.inl rfl)
    · rcases Nat.lt_or_ge q p with h | h
      · exact (ran_set hsz).2 (.inr (hI.nx2 q h h6))
      · exact absurd h6 (h4 q (by omega) h5)

theorem look_put (e : Env) (h : H) (nid n : Nat) (dst : Option Tmp) (d : D) (t : Nat) : look (St.put ⟨e, h, nid, n⟩ dst d).env t = if dst = some t ∧ t < n then d else look e t := by
  cases dst with
  | none => simp [St.put]
  | some u =>
    simp only [St.put]
    by_cases hu : u < n
    · rw [if_pos hu]
      simp only [look]
      by_cases htu : t = u
      · subst htu; simp [hu]
      · rw [if_neg htu, if_neg (by simp; intro h; exact absurd h.symm htu)]
    · rw [if_neg hu, if_neg (by rintro ⟨h1, h2⟩; simp at h1; subst h1; exact hu h2)]

end
end Go.Sx
