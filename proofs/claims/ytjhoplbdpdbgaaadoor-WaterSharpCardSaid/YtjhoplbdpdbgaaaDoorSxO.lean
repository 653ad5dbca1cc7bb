/- Sx, part O: regions that draw their order: every order comes to what the text's own order comes to. Own work. -/
import Derived.Test.YtjhoplbdpdbgaaaDoorSxN
set_option linter.unusedVariables false
set_option linter.unusedSimpArgs false
namespace Go.Sx

def isEat (ops : Array Oper) (fl : Bool) (i : Nat) : Prop := atO ops i (isE fl) = true

structure PhF (ops : Array Oper) (b len : Nat) (fl : Bool) (re : List (Nat × Nat)) : Prop where
  size : b + len ≤ ops.size
  pair : ∀ p q, p < len → q < len → p ≠ q → ∀ o o', ops[b + p]? = some o → ops[b + q]? = some o' →
    (∀ t, o'.dst = some t → (t ∈ readsG ops o → (bef (masks ops) (b + q) (b + p) = true ∧ isF fl o' = false) ∨ bef (masks ops) (b + p) (b + q) = true) ∧ o.dst ≠ some t) ∧
    (isE fl o = true → isE fl o' = true → p < q → bef (masks ops) (b + p) (b + q) = true)
  bar : ∀ i, b + len ≤ i → i < ops.size → ∀ q, q < len → bef (masks ops) (b + q) i = true
  flg : ∀ p, p < len → ∀ o, ops[b + p]? = some o → isF fl o = true → o.guard = none
  re : ∀ p, p < len → ∀ o, ops[b + p]? = some o → isE fl o = false → isF fl o = false → indep o.op = false → ∀ y, y ≤ len →
    (y < len ∧ (¬ isEat ops fl (b + y) ∨ bef (masks ops) (b + y) (b + p) = true)) ∨ (∃ q, q < y ∧ isEat ops fl (b + q) ∧ bef (masks ops) (b + p) (b + q) = true) ∨
    (∀ q, q < len → isEat ops fl (b + q) → ¬ ((p ≤ q ∧ q < y) ∨ (y ≤ q ∧ q < p))) ∨ (p, y) ∈ re

theorem phF_of {ops : Array Oper} {b len : Nat} {fl : Bool} {re : List (Nat × Nat)} (h : phOk ops (masks ops) b len fl re = true) : PhF ops b len fl re := by
  simp only [phOk, Bool.and_eq_true] at h
  obtain ⟨⟨⟨⟨h1, h2⟩, h3⟩, h4⟩, h5⟩ := h
  refine ⟨Nat.le_of_ble_eq_true h1, fun p q hp hq hne o o' ho ho' => ?_, fun i hi hi' q hq => ?_, fun p hp o ho hf => ?_, fun p hp o ho hE hF hI y hy => ?_⟩
  · have := List.all_eq_true.1 (List.all_eq_true.1 h2 (b + p) (by simp [List.mem_range']; omega)) (b + q) (by simp [List.mem_range']; omega)
    simp only [atO, ho, ho', pairOk, Bool.or_eq_true, beq_iff_eq, Bool.and_eq_true] at this
    rcases this with h | ⟨ha, hb⟩
    · omega
    · refine ⟨fun t ht => ?_, fun e1 e2 hlt => ?_⟩
      · rw [ht] at ha
        simp only [Bool.and_eq_true, Bool.or_eq_true, Bool.not_eq_true', List.contains_iff_mem, beq_eq_false_iff_ne, decide_eq_false_iff_not] at ha
        refine ⟨fun hm => ?_, ha.2⟩
        rcases ha.1 with (h | h) | h
        · simp [hm] at h
        · exact .inl h
        · exact .inr h
      · rcases hb with h | h
        · simp only [e1, e2, Bool.true_and] at h
          have : Nat.blt (b + p) (b + q) = true := by simp [Nat.blt]; omega
          rw [this] at h; cases h
        · exact h
  · exact List.all_eq_true.1 (List.all_eq_true.1 h3 i (by rw [List.mem_range'_1]; omega)) (b + q) (by rw [List.mem_range'_1]; omega)
  · have := List.all_eq_true.1 h4 (b + p) (by simp [List.mem_range']; omega)
    simp only [atO, ho, hf, Bool.not_true, Bool.false_or, Option.isNone_iff_eq_none] at this
    exact this
  · have := List.all_eq_true.1 h5 p (by simp; omega)
    simp only [atO, ho, hE, hF, hI, Bool.false_or] at this
    have := List.all_eq_true.1 this y (by simp; omega)
    simp only [Bool.or_eq_true] at this
    rcases this with ((h | h) | h) | h
    · simp only [Bool.and_eq_true, Bool.or_eq_true, Bool.not_eq_true'] at h
      refine .inl ⟨by simpa using h.1, ?_⟩
      rcases h.2 with h | h
      · exact .inl fun he => by simp only [isEat, atO] at he; simp [h] at he
      · exact .inr h
    · obtain ⟨q, h6, h7⟩ := List.any_eq_true.1 h
      simp only [Bool.and_eq_true] at h7
      exact .inr (.inl ⟨q, by simpa using h6, h7.1, h7.2⟩)
    · refine .inr (.inr (.inl fun q hq he hc => ?_))
      have := List.all_eq_true.1 h q (by simpa using hq)
      simp only [Bool.or_eq_true, Bool.not_eq_true', Bool.or_eq_false_iff, Bool.and_eq_false_iff] at this
      rcases this with h | ⟨h8, h9⟩
      · exact absurd he (by simp [isEat, atO, h])
      · rcases hc with ⟨c1, c2⟩ | ⟨c1, c2⟩
        · rw [Nat.ble_eq_true_of_le c1, show Nat.blt q y = true from Nat.ble_eq_true_of_le c2] at h8
          simp at h8
        · rw [Nat.ble_eq_true_of_le c1, show Nat.blt q p = true from Nat.ble_eq_true_of_le c2] at h9
          simp at h9
    · exact .inr (.inr (.inr (by simpa using h)))

section
variable {P : Program} {n0 : Nat} {ro : Option Nat} {ops : Array Oper} {b len : Nat} {fl : Bool} {re : List (Nat × Nat)} {st : Nat → St} {row : Nat → Row}

theorem op_at (hph : PhF ops b len fl re) {p : Nat} (hp : p < len) : ∃ o, ops[b + p]? = some o := ⟨ops[b + p]'(by have := hph.size; omega), by simp⟩

theorem put_n (s : St) (dst : Option Tmp) (d : D) : (s.put dst d).n = s.n := by
  cases dst with
  | none => rfl
  | some t => simp only [St.put]; split <;> rfl

theorem text_n (hT : TRun P fl ops b len st row) (hph : PhF ops b len fl re) : ∀ p, p ≤ len → (st p).n = (st 0).n
  | 0, _ => rfl
  | p + 1, hp => by
    obtain ⟨o, ho⟩ := op_at hph (show p < len by omega)
    have := (hT.step p (by omega) o ho).next
    rw [this, put_n]
    exact text_n hT hph p (by omega)

theorem text_look (hT : TRun P fl ops b len st row) (hph : PhF ops b len fl re) {p : Nat} (hp : p < len) {o : Oper} (ho : ops[b + p]? = some o) (t : Nat) :
    look (st (p + 1)).env t = if o.dst = some t ∧ t < (st 0).n then (row p).d else look (st p).env t := by
  have hr := hT.step p hp o ho
  rw [hr.next]
  cases hd : o.dst with
  | none => simp only [St.put]; rw [if_neg (by simp)]; exact hr.env t
  | some u =>
    simp only [St.put, text_n hT hph p (by omega)]
    by_cases hu : u < (st 0).n
    · rw [if_pos hu]
      simp only [look]
      by_cases htu : t = u
      · subst htu; simp [hu]
      · rw [if_neg htu, if_neg (by simp; intro h; exact absurd h.symm htu)]; exact hr.env t
    · rw [if_neg hu, if_neg (by rintro ⟨h1, h2⟩; simp at h1; subst h1; exact hu h2)]
      exact hr.env t

theorem uniq (hph : PhF ops b len fl re) {p q : Nat} (hp : p < len) (hq : q < len) {o o' : Oper} (ho : ops[b + p]? = some o) (ho' : ops[b + q]? = some o') {t : Nat} (h1 : o.dst = some t) (h2 : o'.dst = some t) : p = q := by
  rcases Nat.decEq p q with h | h
  · exact absurd h1 (((hph.pair p q hp hq h o o' ho ho').1 t h2).2)
  · exact h

/-- A slot behind its writer. -/
theorem text_writer (hT : TRun P fl ops b len st row) (hph : PhF ops b len fl re) {p : Nat} (hp : p < len) {o : Oper} (ho : ops[b + p]? = some o) {t : Nat} (ht : o.dst = some t) (hn : t < (st 0).n) :
    ∀ q, p < q → q ≤ len → look (st q).env t = (row p).d
  | 0, h, _ => by omega
  | q + 1, h, hq => by
    obtain ⟨o', ho'⟩ := op_at hph (show q < len by omega)
    rw [text_look hT hph (by omega) ho']
    by_cases hpq : q = p
    · subst hpq
      rw [ho] at ho'; cases ho'
      rw [if_pos ⟨ht, hn⟩]
    · rw [if_neg fun ⟨h1, _⟩ => hpq (uniq hph (by omega) hp ho' ho h1 ht)]
      exact text_writer hT hph hp ho ht hn q (by omega) (by omega)

theorem text_other (hT : TRun P fl ops b len st row) (hph : PhF ops b len fl re) {t : Nat} : ∀ q, q ≤ len → (∀ p, p < q → ∀ o, ops[b + p]? = some o → o.dst = some t → ¬ t < (st 0).n) → look (st q).env t = look (st 0).env t
  | 0, _, _ => rfl
  | q + 1, hq, h => by
    obtain ⟨o', ho'⟩ := op_at hph (show q < len by omega)
    rw [text_look hT hph (by omega) ho', if_neg fun ⟨h1, h2⟩ => h q (by omega) o' ho' h1 h2]
    exact text_other hT hph q (by omega) fun p hp => h p (by omega)

/-- Where nothing has an effect, the memory stays. -/
theorem text_still (hT : TRun P fl ops b len st row) (hph : PhF ops b len fl re) {p : Nat} (hp : p < len) (hE : ¬ isEat ops fl (b + p)) : (st (p + 1)).h = (st p).h ∧ (st (p + 1)).nid = (st p).nid := by
  obtain ⟨o, ho⟩ := op_at hph hp
  have hr := (hT.step p hp o ho).step
  have hE' : isE fl o = false := by simpa [isEat, atO, ho] using hE
  split at hr
  · unfold OStep at hr
    unfold isE at hE'
    cases hk : dkind fl o.op with
    | eff => rw [hk] at hE'; simp at hE'
    | _ =>
      rw [hk] at hr
      first
        | exact hr.2
        | exact hr.2.2
  · exact hr.2

theorem text_stills (hT : TRun P fl ops b len st row) (hph : PhF ops b len fl re) {p : Nat} : ∀ q, p ≤ q → q ≤ len → (∀ x, p ≤ x → x < q → ¬ isEat ops fl (b + x)) → (st q).h = (st p).h ∧ (st q).nid = (st p).nid
  | 0, h, _, _ => by have : p = 0 := by omega
                     subst this; exact ⟨rfl, rfl⟩
  | q + 1, h, hq, hx => by
    rcases Nat.lt_or_ge q p with h1 | h1
    · have : p = q + 1 := by omega
      subst this; exact ⟨rfl, rfl⟩
    · obtain ⟨a, c⟩ := text_still hT hph (show q < len by omega) (hx q h1 (by omega))
      obtain ⟨a', c'⟩ := text_stills hT hph q h1 (by omega) fun x h2 h3 => hx x h2 (by omega)
      exact ⟨a.trans a', c.trans c'⟩

end
end Go.Sx
