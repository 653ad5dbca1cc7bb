/- Sx, part H: the abstract calculus: states, wp, rules for code, contracts of functions. Own work. -/
import Derived.Test.YtjhoplbdpdbgaaaDoorSxG
set_option linter.unusedVariables false
set_option linter.unusedSimpArgs false
namespace Go.Sx

/-- What the slots hold, the newest first; of a slot that is not named nothing is known. -/
abbrev Env := List (Nat × D)

def look : Env → Nat → D
  | [], _ => .any
  | (i, d) :: e, t => if t = i then d else look e t

structure St where
  env : Env
  h : H
  nid : Nat
  n : Nat

def St.put (s : St) (dst : Option Tmp) (d : D) : St :=
  match dst with
  | none => s
  | some t => if t < s.n then { s with env := (t, d) :: s.env } else s

def evO (env : Env) : Operand → D
  | .tmp t => look env t
  | .const v => vD v
  | .global g => .raw (.pointer (some ⟨g, 0, none⟩))
  | .func f => .fn (.func f) [] []

inductive Ex where
  | normal
  | exit (id : Nat)
  | ret

def exOf : Exit → Option Ex
  | .normal => some .normal
  | .exit id => some (.exit id)
  | .ret => some .ret
  | _ => none

def markD (r : Nat) : Deferred := { target := .collected r, args := #[] }

structure ActOk (X : Nat → Prop) (k : Cx) (B : Nat) (a : Act) (env : Env) (n : Nat) : Prop where
  size : a.tmps.size = n
  rel : ∀ (i : Nat), Rel (k.R X) k.nid (a.tmps.getD i undef) (look env i)
  marks : ∃ ms : List Nat, a.defers = ms.map markD ∧ ms.Nodup ∧ ∀ r ∈ ms, B ≤ r ∧ k.w.heap[r]? = some (.deferred (some []))

structure At (X : Nat → Prop) (k0 k : Cx) (a : Act) (s : St) : Prop where
  h : k.h = s.h
  nid : k.nid = s.nid
  good : Good X k
  le : Le k0 k
  act : ActOk X k k0.w.heap.size a s.env s.n

/-- A fence that fences nothing, in a round of a loop over a function or in none. -/
def FW (ro : Option Nat) : Fence := { Fence.wide with round := ro }

def Post (X : Nat → Prop) (k0 : Cx) (Q : Ex → St → Prop) (e : Exit) (a : Act) (w : World) : Prop :=
  ∃ x k s, exOf e = some x ∧ k.w = w ∧ Q x s ∧ At X k0 k a s

/-- The abstract weakest precondition of a piece of code. -/
def AWp (P : Program) (n0 : Nat) (ro : Option Nat) (c : Code) (s : St) (Q : Ex → St → Prop) : Prop :=
  ∀ X k0 k a, k0.nid = n0 → At X k0 k a s → c.wpIn (FW ro) 0 P (Post X k0 Q) a k.w

section
variable {P : Program} {n0 : Nat} {ro : Option Nat}

theorem good_not_mut {X : Nat → Prop} {k : Cx} (hg : Good X k) {r : Nat} (h : ∀ c t f, k.w.heap[r]? ≠ some (.cells c t f)) (h' : ∀ es c, k.w.heap[r]? ≠ some (.map es c)) : ¬ k.Mut r := fun ⟨id, hid⟩ => by
  cases hq : hget k.h id with
  | none => simp [Cx.own, hq, ownOf] at hid
  | some blk =>
    have hok := hg.ok id blk hq
    rw [Cx.own, hq] at hid
    cases blk with
    | box cs =>
      simp [ownOf] at hid; subst hid
      obtain ⟨vs, ty, h1, _⟩ := hok
      exact h _ _ _ h1
    | arr ty sz es =>
      rcases hok.2 with ⟨h1, _⟩ | ⟨b, cap, vs, h1, h2, _⟩
      · simp [ownOf, h1, slBlk] at hid
      · simp [ownOf, h1, slBlk] at hid; subst hid; exact h _ _ _ h2
    | map kvs =>
      simp [ownOf] at hid; subst hid
      obtain ⟨es, c, es', h1, _⟩ := hok
      exact h' _ _ h1

theorem ActOk.le {X : Nat → Prop} {k k' : Cx} {B : Nat} {a : Act} {env : Env} {n : Nat} (h : ActOk X k B a env n) (hg : Good X k) (hle : Le k k') : ActOk X k' B a env n := by
  refine ⟨h.size, fun i => (h.rel i).le hle, ?_⟩
  obtain ⟨ms, h1, h2, h3⟩ := h.marks
  refine ⟨ms, h1, h2, fun r hr => ⟨(h3 r hr).1, ?_⟩⟩
  have hlt : r < k.w.heap.size := by
    rcases Nat.lt_or_ge r k.w.heap.size with h | h
    · exact h
    · have := (h3 r hr).2; rw [Array.getElem?_eq_none h] at this; cases this
  rw [hle.heap r hlt (good_not_mut hg (fun c t f => by rw [(h3 r hr).2]; simp) (fun c t => by rw [(h3 r hr).2]; simp))]
  exact (h3 r hr).2

theorem ActOk.put {X : Nat → Prop} {k : Cx} {B : Nat} {a : Act} {s : St} (h : ActOk X k B a s.env s.n) (dst : Option Tmp) {v : Value} {d : D} (hr : Rel (k.R X) k.nid v d) :
    ActOk X k B (a.put dst v) (s.put dst d).env (s.put dst d).n := by
  cases dst with
  | none => exact h
  | some t =>
    simp only [St.put, Act.put]
    by_cases hlt : t < s.n
    · rw [if_pos hlt]
      refine ⟨by simp [h.size], fun i => ?_, h.marks⟩
      simp only [look]
      by_cases hi : i = t
      · subst hi
        rw [if_pos rfl]
        have : i < a.tmps.size := by rw [h.size]; exact hlt
        rw [Array.getD_eq_getD_getElem?, Array.getElem?_setIfInBounds_self_of_lt this]
        exact hr
      · rw [if_neg hi]
        have := h.rel i
        rw [Array.getD_eq_getD_getElem?] at this ⊢
        rw [Array.getElem?_setIfInBounds_ne (Ne.symm hi)]
        exact this
    · rw [if_neg hlt]
      have : a.tmps.setIfInBounds t v = a.tmps := by
        unfold Array.setIfInBounds
        rw [dif_neg (by rw [h.size]; exact hlt)]
      exact ⟨by rw [this]; exact h.size, fun i => by rw [this]; exact h.rel i, h.marks⟩

theorem ActOk.eval {X : Nat → Prop} {k : Cx} {B : Nat} {a : Act} {env : Env} {n : Nat} (h : ActOk X k B a env n) (x : Operand) : Rel (k.R X) k.nid (a.eval x) (evO env x) := by
  cases x with
  | tmp t => exact h.rel t
  | const v => exact .vD _ _ _
  | global g => exact .raw _ _
  | func f => exact .fn _ _ [] [] [] [] rfl rfl (by simp) (by simp)

theorem awp_mono {c : Code} {s : St} {Q Q' : Ex → St → Prop} (h : AWp P n0 ro c s Q) (hq : ∀ e s, Q e s → Q' e s) : AWp P n0 ro c s Q' :=
  fun X k0 k a hn hat => wpIn_mono (h X k0 k a hn hat) fun e a w ⟨x, k, s, h1, h2, h3, h4⟩ => ⟨x, k, s, h1, h2, hq _ _ h3, h4⟩

theorem awp_skip {s : St} {Q : Ex → St → Prop} (h : Q .normal s) : AWp P n0 ro .skip s Q :=
  fun X k0 k a hn hat => wpIn_skip ⟨.normal, k, s, rfl, rfl, h, hat⟩

theorem awp_label {l : Nat} {s : St} {Q : Ex → St → Prop} (h : Q .normal s) : AWp P n0 ro (.label l) s Q :=
  fun X k0 k a hn hat => wpIn_label ⟨.normal, k, s, rfl, rfl, h, hat⟩

theorem awp_exit {id : Nat} {s : St} {Q : Ex → St → Prop} (h : Q (.exit id) s) : AWp P n0 ro (.exit id) s Q :=
  fun X k0 k a hn hat => wpIn_exit ⟨.exit id, k, s, rfl, rfl, h, hat⟩

theorem awp_ret {s : St} {Q : Ex → St → Prop} (h : Q .ret s) : AWp P n0 ro .ret s Q :=
  fun X k0 k a hn hat => wpIn_ret ⟨.ret, k, s, rfl, rfl, h, hat⟩

def thenQ (K : St → Prop) (Q : Ex → St → Prop) : Ex → St → Prop
  | .normal, s => K s
  | e, s => Q e s

theorem awp_seq {x y : Code} {s : St} {Q : Ex → St → Prop} (h : AWp P n0 ro x s (thenQ (fun s' => AWp P n0 ro y s' Q) Q)) : AWp P n0 ro (.seq x y) s Q :=
  fun X k0 k a hn hat => wpIn_seq (wpIn_mono (h X k0 k a hn hat) fun e a w ⟨x, k, s, h1, h2, h3, h4⟩ => by
    subst h2
    cases e <;> simp only [exOf, Option.some.injEq, reduceCtorEq] at h1 <;> subst h1
    · exact h3 X k0 k a hn h4
    · exact ⟨_, k, s, rfl, rfl, h3, h4⟩
    · exact ⟨_, k, s, rfl, rfl, h3, h4⟩)

theorem eval_bool {X : Nat → Prop} {k : Cx} {B : Nat} {a : Act} {env : Env} {n : Nat} (h : ActOk X k B a env n) {x : Operand} {t : Bool} (hx : evO env x = .bool t) : a.eval x = .bool t := by
  have hr := h.eval x
  rw [hx] at hr
  generalize a.eval x = v at hr
  cases hr; rfl

theorem awp_cond {c : Operand} {x y : Code} {s : St} {Q : Ex → St → Prop} {t : Bool} (hc : evO s.env c = .bool t) (ht : t = true → AWp P n0 ro x s Q) (hf : t = false → AWp P n0 ro y s Q) :
    AWp P n0 ro (.cond c x y) s Q :=
  fun X k0 k a hn hat => wpIn_cond (t := t) (eval_bool hat.act hc) (by
    cases t
    · exact hf rfl X k0 k a hn hat
    · exact ht rfl X k0 k a hn hat)

def blockQ (id : Nat) (Q : Ex → St → Prop) : Ex → St → Prop
  | .exit i, s => if i = id then Q .normal s else Q (.exit i) s
  | e, s => Q e s

theorem awp_block {id : Nat} {c : Code} {s : St} {Q : Ex → St → Prop} (h : AWp P n0 ro c s (blockQ id Q)) : AWp P n0 ro (.block id c) s Q :=
  fun X k0 k a hn hat => wpIn_block (wpIn_mono (h X k0 k a hn hat) fun e a w ⟨x, k, s, h1, h2, h3, h4⟩ => by
    subst h2
    cases e with
    | exit i =>
      simp only [exOf, Option.some.injEq] at h1
      subst h1
      simp only [Exit.inBlock]
      by_cases hi : i = id
      · rw [if_pos hi]
        simp only [blockQ, if_pos hi] at h3
        exact ⟨_, k, s, rfl, rfl, h3, h4⟩
      · rw [if_neg hi]
        simp only [blockQ, if_neg hi] at h3
        exact ⟨_, k, s, rfl, rfl, h3, h4⟩
    | _ =>
      simp only [exOf, Option.some.injEq, reduceCtorEq] at h1
      try (subst h1; exact ⟨_, k, s, rfl, rfl, h3, h4⟩))

/-- What is known less well is still known. -/
structure Weak (n0 : Nat) (s s' : St) : Prop where
  n : s.n = s'.n
  env : ∀ (i : Nat), look s'.env i = .any ∨ (look s.env i = look s'.env i ∧ (s.nid ≤ s'.nid ∨ (look s'.env i).lt s'.nid = true))
  sub : ∀ id blk, hget s'.h id = some blk → hget s.h id = some blk
  key : ∀ id blk, hget s'.h id = some blk → id < s'.nid
  nid : n0 ≤ s'.nid
  roll : s.nid ≤ s'.nid ∨ ∀ id blk, hget s'.h id = some blk → blkLt s'.nid blk = true

theorem At.weak {X : Nat → Prop} {k0 k : Cx} {a : Act} {s s' : St} (hat : At X k0 k a s) (hn : k0.nid = n0) (hw : Weak n0 s s') : ∃ k', k'.w = k.w ∧ At X k0 k' a s' := by
  have hsub : ∀ id blk, hget s'.h id = some blk → hget k.h id = some blk := fun id blk h => by rw [hat.h]; exact hw.sub id blk h
  refine ⟨{ k with h := s'.h, nid := s'.nid }, rfl, rfl, rfl, hat.good.drop hsub hw.key (fun hle id blk hb => ?_), hat.le.drop (by rw [hn]; exact hw.nid) hsub, ⟨by rw [hat.act.size]; exact hw.n, fun i => ?_, hat.act.marks⟩⟩
  · rcases hw.roll with h | h
    · have := hat.nid; omega
    · exact h id blk hb
  · rcases hw.env i with h1 | ⟨h1, h2⟩
    · rw [h1]; exact .any _ _
    · rw [← h1] at h2 ⊢; exact (hat.act.rel i).drop hsub (by rw [hat.nid]; exact h2)

theorem awp_weak {c : Code} {s s' : St} {Q : Ex → St → Prop} (hw : Weak n0 s s') (h : AWp P n0 ro c s' Q) : AWp P n0 ro c s Q :=
  fun X k0 k a hn hat => by
    obtain ⟨k', h1, h2⟩ := hat.weak hn hw
    rw [← h1]
    exact h X k0 k' a hn h2

/-- A loop: a family of heads, a measure, and one round. -/
theorem awp_loop {ι : Type} {c : Code} {s : St} {Q : Ex → St → Prop} (σ : ι → St) (I : ι → Prop) (μ : ι → Nat) (i0 : ι) (h0 : I i0) (hw : Weak n0 s (σ i0))
    (round : ∀ i, I i → AWp P n0 ro c (σ i) (thenQ (fun s' => ∃ j, I j ∧ μ j < μ i ∧ Weak n0 s' (σ j)) Q)) : AWp P n0 ro (.loop c) s Q := by
  intro X k0 k a hn hat
  obtain ⟨k', hk', hat'⟩ := hat.weak hn hw
  rw [← hk']
  intro b kk cs hro hb hr
  have key : ∀ n (i : ι) (k : Cx) (a : Act), μ i = n → I i → At X k0 k a (σ i) →
      ∃ e a' w', Post X k0 Q e a' w' ∧ ArrivesIn (Machine.fenced P (FW ro)) P (lone (b.atR a (.code c :: .inLoop c :: kk)) cs k.w) b kk cs e a' w' := by
    intro n
    induction n using Nat.strongRecOn with
    | _ n ih =>
      intro i k a hμ hI hat
      obtain ⟨e, a₁, w₁, ⟨x, k1, s1, hx, hw1, hq, hat1⟩, harr⟩ := round i hI X k0 k a hn hat b (.inLoop c :: kk) cs hro hb hr
      subst hw1
      cases e with
      | normal =>
        simp only [exOf, Option.some.injEq] at hx
        subst hx
        obtain ⟨j, hj, hlt, hwk⟩ := hq
        obtain ⟨k2, hk2, hat2⟩ := hat1.weak hn hwk
        obtain ⟨e₂, a₂, w₂, hq₂, harr₂⟩ := ih (μ j) (hμ ▸ hlt) j k2 a₁ rfl hj hat2
        rw [hk2] at harr₂
        exact ⟨e₂, a₂, w₂, hq₂, .of_steps (StepsIn.trans harr (.one (fenced_calm (fr := b.atR a₁ (.inLoop c :: kk)) hb hr rfl) stepR_inLoop)) harr₂⟩
      | exit id =>
        simp only [exOf, Option.some.injEq] at hx
        subst hx
        exact ⟨_, a₁, k1.w, ⟨_, k1, s1, rfl, rfl, hq, hat1⟩, .pass (x := .inLoop c) rfl (fun _ _ => .inl (by simp)) harr⟩
      | ret =>
        simp only [exOf, Option.some.injEq] at hx
        subst hx
        exact ⟨_, a₁, k1.w, ⟨_, k1, s1, rfl, rfl, hq, hat1⟩, .pass (x := .inLoop c) rfl (fun _ _ => .inl (by simp)) harr⟩
      | _ => simp [exOf] at hx
  obtain ⟨e, a', w', hq, harr⟩ := key _ i0 k' a rfl h0 hat'
  exact ⟨e, a', w', hq, .of_steps (.one (fenced_calm hb hr rfl) stepR_loop) harr⟩

/-! ## Operations -/

/-- One operation, from an abstract state. -/
def OpOk (P : Program) (n0 : Nat) (ro : Option Nat) (o : Oper) (s : St) (K : St → Prop) : Prop :=
  ∀ X k0 k a (Q : Exit → Act → World → Prop) (Kc : Act → World → Prop), k0.nid = n0 → At X k0 k a s →
    (∀ k' a' s', K s' → At X k0 k' a' s' → Le k k' → Kc a' k'.w) → o.wpIn (FW ro) 0 P a k.w Kc Q

theorem put_h (s : St) (dst : Option Tmp) (d : D) : (s.put dst d).h = s.h := by
  cases dst with
  | none => rfl
  | some t => simp only [St.put]; split <;> rfl

theorem put_nid (s : St) (dst : Option Tmp) (d : D) : (s.put dst d).nid = s.nid := by
  cases dst with
  | none => rfl
  | some t => simp only [St.put]; split <;> rfl

theorem semAt_eq {o : Oper} (ro : Option Nat) (ρ : Operand → Value) (h : ∀ c, o.op ≠ .defer c) : o.semAt ro ρ = execOp ρ o := Oper.semAt_eq ro ρ o h

theorem opR_not_defer {o : Oper} {ρ : Operand → D} {h : H} {d : D} (hq : opR P o.op ρ h = some d) : ∀ c, o.op ≠ .defer c := fun c hc => by
  rw [hc] at hq; simp [opR, opQ] at hq

theorem opOk_read {o : Oper} {s : St} {K : St → Prop} {d : D} (h : opR P o.op (evO s.env) s.h = some d) (hK : K (s.put o.dst d)) : OpOk P n0 ro o s K := by
  intro X k0 k a Q Kc hn hat hk
  rw [← hat.h] at h
  obtain ⟨v, h1, h2⟩ := opR_sound hat.good (fun x => hat.act.eval x) h
  refine ⟨fun _ _ => trivial, ?_⟩
  rw [semAt_eq _ _ (opR_not_defer h), h1]
  refine hk k _ _ hK ⟨?_, ?_, hat.good, hat.le, hat.act.put o.dst h2⟩ (.refl k)
  · rw [hat.h, put_h]
  · rw [hat.nid, put_nid]

/-- Operations with effects: new boxes, stores, literals of slices, append. -/
def opF (P : Program) (op : Op) (ρ : Operand → D) (h : H) (nid : Nat) : Option (D × H × Nat) :=
  match op with
  | .buildSlice t len parts =>
    match litSl P h t len (parts.toList.map fun p => (p.1, ρ p.2)) with
    | some (e, sz, es) => if es.all (D.ltL 0) then some (.osl nid len, (nid, .arr e sz es) :: h, nid + 1) else none
    | none => none
  | .call c =>
    match c.callee, c.args.toList, c.argTypes.toList with
    | .builtin .append, [x, y], [t, t'] => appE P h nid t t' (ρ x) (ρ y)
    | _, _, _ => none
  | op => opE P op ρ h nid

theorem opF_sound {X : Nat → Prop} {k : Cx} (hg : Good X k) {a : Act} {o : Oper} {ρ : Operand → D} (hρ : ∀ x, Rel (k.R X) k.nid (a.eval x) (ρ x)) {d : D} {h' : H} {nid' : Nat}
    (h : opF P o.op ρ k.h k.nid = some (d, h', nid')) :
    ∃ n v k', (execOp a.eval o).run P k.w = .ok n k'.w ∧ (n = .value v ∨ n = .skip ∧ d = .any) ∧ k'.h = h' ∧ k'.nid = nid' ∧ Good X k' ∧ Le k k' ∧ Rel (k'.R X) k'.nid v d := by
  unfold opF at h
  split at h
  · rename_i t len parts hop
    split at h
    · rename_i e sz es hl
      split at h
      · rename_i hpure
        cases h
        obtain ⟨us, h1, h2, h3, h4, h5, h6, h7, h8⟩ := run_litSl hg hρ hl
        have hcap : us.length = len * sz := h2
        refine ⟨.value (.slice (some ⟨k.w.heap.size, 0, none⟩) len len), .slice (some ⟨k.w.heap.size, 0, none⟩) len len, k.newArr us e sz es len, ?_, .inl rfl, rfl, rfl,
          newArr_good hg us e sz es len h4 hcap (by omega) (fun i x j d v a b c => (h8 i x j d v a b c).roll (D.ltL_get (List.all_eq_true.1 hpure x (List.mem_of_getElem? a)) j d b)), newArr_le hg us e sz es len, ?_⟩
        · unfold execOp
          rw [hop]
          exact ok_bind_value _ _ _ _ _ h1
        · refine .osl _ _ _ _ (by simp [Cx.newArr]) fun m hm => ?_
          simp [Cx.R, Cx.newArr, hget, lnOf] at hm
          subst hm
          exact ⟨by omega, fun _ => by simp [Cx.R, Cx.newArr, h3]⟩
      · cases h
    · cases h
  · rename_i c hop
    split at h
    · rename_i x y t t' hc hx ht
      obtain ⟨v, k', h1, h2, h3, h4, h5, h6⟩ := run_appE (P := P) (ty := o.type) hg (hρ x) (hρ y) h
      refine ⟨.value v, v, k', ?_, .inl rfl, h2, h3, h4, h5, h6⟩
      obtain ⟨callee, args, argTypes⟩ := c
      dsimp only at hc hx ht
      subst hc
      obtain rfl := array_eq_list hx
      obtain rfl := array_eq_list ht
      unfold execOp
      rw [hop]
      simp only [resolve, Sem.run_bind, Sem.run_pure, Result.andThen_ok, invoke, builtin]
      have e1 : Array.map a.eval [x, y].toArray = #[a.eval x, a.eval y] := by simp
      rw [e1]
      have h1' : (Builtin.append_ [t, t'].toArray o.type #[a.eval x, a.eval y]).run P k.w = .ok v k'.w := h1
      simp [h1']
    · cases h
  · exact opE_sound hg hρ h

theorem opF_not_defer {o : Oper} {ρ : Operand → D} {h : H} {nid : Nat} {r : D × H × Nat} (hq : opF P o.op ρ h nid = some r) : ∀ c, o.op ≠ .defer c := fun c hc => by
  rw [hc] at hq; simp [opF, opE] at hq

theorem opOk_eff {o : Oper} {s : St} {K : St → Prop} {d : D} {h' : H} {nid' : Nat} (h : opF P o.op (evO s.env) s.h s.nid = some (d, h', nid'))
    (hK : K (St.put { s with h := h', nid := nid' } o.dst d)) : OpOk P n0 ro o s K := by
  intro X k0 k a Q Kc hn hat hk
  rw [← hat.h, ← hat.nid] at h
  obtain ⟨n, v, k', h1, h2, h3, h4, h5, h6, h7⟩ := opF_sound hat.good (fun x => hat.act.eval x) h
  refine ⟨fun _ _ => trivial, ?_⟩
  rw [semAt_eq _ _ (opF_not_defer h), h1]
  have hact : ActOk X k' k0.w.heap.size a s.env s.n := hat.act.le hat.good h6
  have hput : ∀ u : Value, Rel (k'.R X) k'.nid u d → At X k0 k' (a.put o.dst u) (St.put { s with h := h', nid := nid' } o.dst d) := fun u hu => by
    refine ⟨?_, ?_, h5, hat.le.trans h6, ?_⟩
    · rw [h3, put_h]
    · rw [h4, put_nid]
    · have := ActOk.put (s := { s with h := h', nid := nid' }) hact o.dst hu
      exact this
  rcases h2 with rfl | ⟨rfl, rfl⟩
  · exact hk k' _ _ hK (hput v h7) h6
  · exact hk k' _ _ hK (hput undef (.any _ _)) h6

end
end Go.Sx
