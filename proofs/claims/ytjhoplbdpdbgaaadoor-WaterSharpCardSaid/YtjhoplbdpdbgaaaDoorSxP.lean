/- Sx, part P: regions that draw their order: one phase. Own work. -/
import Derived.Test.YtjhoplbdpdbgaaaDoorSxO
set_option linter.unusedVariables false
set_option linter.unusedSimpArgs false
namespace Go.Sx

/-- How many have not run. -/
def unl (f : Nat → Bool) : Nat → Nat
  | 0 => 0
  | n + 1 => unl f n + if f n then 0 else 1

theorem unl_set {f g : Nat → Bool} {i : Nat} (hi : f i = false) (hgi : g i = true) (hg : ∀ j, j ≠ i → g j = f j) : ∀ n, (n ≤ i → unl g n = unl f n) ∧ (i < n → unl g n + 1 = unl f n)
  | 0 => ⟨fun _ => rfl, fun h => by omega⟩
  | n + 1 => by
    obtain ⟨h1, h2⟩ := unl_set hi hgi hg n
    refine ⟨fun h => ?_, fun h => ?_⟩
    · simp only [unl, h1 (by omega), hg n (by omega)]
    · by_cases hn : n = i
      · subst hn
        simp only [unl, h1 (Nat.le_refl _), hi, hgi]; simp
      · have := h2 (by omega)
        simp only [unl, hg n hn]; omega

theorem unl_le (f : Nat → Bool) : ∀ n, unl f n ≤ n
  | 0 => Nat.le_refl _
  | n + 1 => by have := unl_le f n; simp only [unl]; split <;> omega

theorem unl_pos {f : Nat → Bool} : ∀ {n i : Nat}, i < n → f i = false → 0 < unl f n
  | n + 1, i, hi, hf => by
    simp only [unl]
    by_cases h : n = i
    · subst h; rw [hf]; simp
    · have := unl_pos (show i < n by omega) hf; omega

theorem unl_low {f : Nat → Bool} {c : Nat} (h : ∀ i, i < c → f i = true) : ∀ n, unl f n ≤ n - c
  | 0 => by simp [unl]
  | n + 1 => by
    have := unl_low h n
    simp only [unl]
    by_cases hn : n < c
    · rw [h n hn]; simp; omega
    · split <;> omega

def Ran (listed : Array Bool) (i : Nat) : Prop := listed.getD i false = true

theorem mem_ready {ops : Array Oper} {listed : Array Bool} (hs : listed.size = ops.size) {i : Nat} :
    i ∈ Region.ready .any ops listed ↔ ∃ o, ops[i]? = some o ∧ ¬ Ran listed i ∧ ∀ j ∈ bnd o, Ran listed j := by
  have hall : ∀ o : Oper, (o.after.all fun e => !Region.binds .any e || listed.getD e.on false) = true ↔ ∀ j ∈ bnd o, Ran listed j := fun o => by
    rw [← Array.all_toList, List.all_eq_true]
    simp only [bnd, List.mem_map, List.mem_filter, Bool.or_eq_true, Bool.not_eq_true', Ran]
    constructor
    · rintro h j ⟨e, ⟨h1, h2⟩, rfl⟩
      rcases h e h1 with h | h
      · rw [h2] at h; cases h
      · exact h
    · intro h e he
      cases hb : Region.binds .any e with
      | false => exact .inl rfl
      | true => exact .inr (h e.on ⟨e, ⟨he, hb⟩, rfl⟩)
  simp only [Region.ready, List.mem_filter, List.mem_range, Bool.and_eq_true, Bool.not_eq_true']
  constructor
  · rintro ⟨h1, h2, h3⟩
    refine ⟨ops[i], by simp [h1], ?_, ?_⟩
    · rw [Array.getD_eq_getD_getElem?, Array.getElem?_eq_getElem (by omega)] at h2
      simp only [Ran, Array.getD_eq_getD_getElem?, Array.getElem?_eq_getElem (show i < listed.size by omega)]
      simp at h2 ⊢; exact h2
    · rw [Array.getElem?_eq_getElem h1] at h3
      exact (hall _).1 (by simpa using h3)
  · rintro ⟨o, ho, h2, h3⟩
    have h1 : i < ops.size := by
      rcases Nat.lt_or_ge i ops.size with h | h
      · exact h
      · rw [Array.getElem?_eq_none h] at ho; cases ho
    refine ⟨h1, ?_, ?_⟩
    · simp only [Ran, Array.getD_eq_getD_getElem?, Array.getElem?_eq_getElem (show i < listed.size by omega)] at h2 ⊢
      simpa using h2
    · rw [ho]; simpa using (hall o).2 h3

theorem ran_set {listed : Array Bool} {i j : Nat} (hi : i < listed.size) : Ran (listed.setIfInBounds i true) j ↔ j = i ∨ Ran listed j := by
  simp only [Ran, Array.getD_eq_getD_getElem?]
  by_cases h : j = i
  · subst h; simp [Array.getElem?_setIfInBounds_self_of_lt hi]
  · rw [Array.getElem?_setIfInBounds_ne (Ne.symm h)]; simp [h]

section
variable {P : Program} {n0 : Nat} {ro : Option Nat} {ops : Array Oper} {b len : Nat} {fl : Bool} {re : List (Nat × Nat)} {st : Nat → St} {row : Nat → Row}

/-- The blocks that have come up and are not named yet. -/
def Pend (ops : Array Oper) (b len : Nat) (fl : Bool) (X : Nat → Prop) (S : Nat → Prop) (fb : Nat → Nat) (c : Nat) : Prop :=
  X c ∨ ∃ p, p < len ∧ (∃ o, ops[b + p]? = some o ∧ isF fl o = true) ∧ S (b + p) ∧ c = fb p

def valP (fl : Bool) (o : Oper) (fb : Nat → Nat) (p : Nat) (row : Nat → Row) : D := if isF fl o then .raw (.pointer (some ⟨fb p, 0, none⟩)) else (row p).d

structure Inv (P : Program) (ops : Array Oper) (b len : Nat) (fl : Bool) (st : Nat → St) (row : Nat → Row) (listed : Array Bool) (X : Nat → Prop) (k0 k : Cx) (a : Act) (e : Env) (fb : Nat → Nat) (nx : Nat) : Prop where
  size : listed.size = ops.size
  lo : ∀ i, i < b → Ran listed i
  hi : ∀ i, b + len ≤ i → ¬ Ran listed i
  cl : ∀ i o, ops[i]? = some o → Ran listed i → ∀ j ∈ bnd o, Ran listed j
  nxle : nx ≤ len
  nx1 : nx < len → isEat ops fl (b + nx) ∧ ¬ Ran listed (b + nx)
  nx2 : ∀ p, p < nx → isEat ops fl (b + p) → Ran listed (b + p)
  at_ : At (Pend ops b len fl X (Ran listed) fb) k0 k a ⟨e, (st nx).h, (st nx).nid, (st 0).n⟩
  e1 : ∀ p, p < len → Ran listed (b + p) → ∀ o t, ops[b + p]? = some o → o.dst = some t → t < (st 0).n → look e t = valP fl o fb p row
  e2 : ∀ t, (∀ p, p < len → Ran listed (b + p) → ∀ o, ops[b + p]? = some o → o.dst = some t → ¬ t < (st 0).n) → look e t = look (st 0).env t
  fz : ∀ p, p < len → ∀ o, ops[b + p]? = some o → isF fl o = true → Ran listed (b + p) → k0.w.heap.size ≤ fb p ∧ ¬ X (fb p) ∧
    ∃ zs vs ty, zeroA P o.op = some zs ∧ k.w.heap[fb p]? = some (.cells (List.toArray vs) ty (0, 0)) ∧ ∀ R n, RelL R n vs zs
  inj : ∀ p q, p < len → q < len → (∃ o, ops[b + p]? = some o ∧ isF fl o = true) → (∃ o, ops[b + q]? = some o ∧ isF fl o = true) → Ran listed (b + p) → Ran listed (b + q) → fb p = fb q → p = q

theorem not_both {o : Oper} (h : isE fl o = true) : isF fl o = false := by
  unfold isE at h; unfold isF
  cases hk : dkind fl o.op <;> simp_all

/-- What a slot that is read holds is what it holds in the order of the text. -/
theorem Inv.read {listed : Array Bool} {X : Nat → Prop} {k0 k : Cx} {a : Act} {e : Env} {fb : Nat → Nat} {nx : Nat} (hT : TRun P fl ops b len st row) (hph : PhF ops b len fl re) (hb : Back ops)
    (hI : Inv P ops b len fl st row listed X k0 k a e fb nx) {p : Nat} (hp : p < len) {o : Oper} (ho : ops[b + p]? = some o) (hnr : ¬ Ran listed (b + p)) (hr : ∀ j ∈ bnd o, Ran listed j) {t : Nat} (ht : t ∈ readsG ops o) :
    look e t = look (st p).env t := by
  by_cases hw : ∃ q, q < len ∧ q ≠ p ∧ ∃ o', ops[b + q]? = some o' ∧ o'.dst = some t ∧ t < (st 0).n
  · obtain ⟨q, hq, hne, o', ho', hd, hn⟩ := hw
    have hpr := hph.pair p q hp hq (Ne.symm hne) o o' ho ho'
    rcases (hpr.1 t hd).1 ht with ⟨h1, h2⟩ | h1
    · have hrq := bef_sound hb hI.cl (b + p) o ho hr (b + q) h1
      have hlt := bef_lt hb (b + p) o ho (b + q) h1
      rw [hI.e1 q hq hrq o' t ho' hd hn, text_writer hT hph hq ho' hd hn p (by omega) (by omega), valP, h2]; simp
    · have hlt := bef_lt hb (b + q) o' ho' (b + p) h1
      have hnq : ¬ Ran listed (b + q) := fun h => hnr (bef_sound hb hI.cl (b + q) o' ho' (hI.cl _ o' ho' h) _ h1)
      rw [hI.e2 t fun p' hp' hr' o'' ho'' hd'' => by
        have := uniq hph hp' hq ho'' ho' hd'' hd
        subst this; exact absurd hr' hnq]
      exact (text_other hT hph p (by omega) fun p' hp' o'' ho'' hd'' => by
        have := uniq hph (by omega) hq ho'' ho' hd'' hd
        omega).symm
  · have hno : ∀ p', p' < len → p' ≠ p → ∀ o'', ops[b + p']? = some o'' → o''.dst = some t → ¬ t < (st 0).n := fun p' hp' hne o'' ho'' hd hn => hw ⟨p', hp', hne, o'', ho'', hd, hn⟩
    rw [hI.e2 t fun p' hp' hr' o'' ho'' hd'' => hno p' hp' (fun h => by subst h; exact hnr hr') o'' ho'' hd'']
    exact (text_other hT hph p (by omega) fun p' hp' o'' ho'' hd'' => hno p' (by omega) (by omega) o'' ho'' hd'').symm

theorem ran_pend {listed : Array Bool} {X : Nat → Prop} {fb : Nat → Nat} {p : Nat} {o : Oper} (hi : b + p < listed.size) (ho : ops[b + p]? = some o) (hF : isF fl o = false) (c : Nat) :
    Pend ops b len fl X (Ran (listed.setIfInBounds (b + p) true)) fb c ↔ Pend ops b len fl X (Ran listed) fb c := by
  unfold Pend
  refine or_congr Iff.rfl (exists_congr fun q => and_congr_right fun hq => ?_)
  constructor
  · rintro ⟨⟨o', ho', hf⟩, hr, hc⟩
    refine ⟨⟨o', ho', hf⟩, ?_, hc⟩
    rcases (ran_set hi).1 hr with h | h
    · have : q = p := by omega
      subst this
      rw [ho] at ho'; cases ho'; rw [hF] at hf; cases hf
    · exact h
  · rintro ⟨h1, hr, hc⟩
    exact ⟨h1, (ran_set hi).2 (.inr hr), hc⟩

end
end Go.Sx
