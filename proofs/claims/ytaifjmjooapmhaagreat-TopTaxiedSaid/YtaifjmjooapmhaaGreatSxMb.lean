/- Own work: a calculus of contracts for the programs of this kit: parts SxH, SxI, SxJ, SxK, SxL, SxM, SxN, SxO, SxP, SxQ, SxR, SxS, SxT, SxT2. -/
import Derived.Test.YtaifjmjooapmhaaGreatSxMa
set_option linter.unusedVariables false
set_option linter.unusedSimpArgs false
namespace Go.Sx

abbrev Env := List (Nat × D)

def look : Env → Nat → D
 | [], _ => .any
 | (i, d) :: e, t => if t = i then d else look e t

structure St where
 env : Env
 h : H
 nid : Nat
 n : Nat

def St.put (s : St) (dst : Option Tmp) (d : D) : St :=
 match dst with
 | none => s
 | some t => if t < s.n then { s with env := (t, d) :: s.env } else s

def evO (env : Env) : Operand → D
 | .tmp t => look env t
 | .const v => vD v
 | .global g => .raw (.pointer (some ⟨g, 0, none⟩))
 | .func f => .fn (.func f) [] []

inductive Ex where
 | normal
 | exit (id : Nat)
 | ret

def exOf : Exit → Option Ex
 | .normal => some .normal
 | .exit id => some (.exit id)
 | .ret => some .ret
 | _ => none

def markD (r : Nat) : Deferred := { target := .collected r, args := #[] }

structure ActOk (X : Nat → Prop) (k : Cx) (B : Nat) (a : Act) (env : Env) (n : Nat) : Prop where
 size : a.tmps.size = n
 rel : ∀ (i : Nat), Rel (k.R X) k.nid (a.tmps.getD i undef) (look env i)
 marks : ∃ ms : List Nat, a.defers = ms.map markD ∧ ms.Nodup ∧ ∀ r ∈ ms, B ≤ r ∧ k.w.heap[r]? = some (.deferred (some []))

structure At (X : Nat → Prop) (k0 k : Cx) (a : Act) (s : St) : Prop where
 h : k.h = s.h
 nid : k.nid = s.nid
 good : Good X k
 le : Le k0 k
 act : ActOk X k k0.w.heap.size a s.env s.n

def FW (ro : Option Nat) : Fence := { Fence.wide with round := ro }

def Post (X : Nat → Prop) (k0 : Cx) (Q : Ex → St → Prop) (e : Exit) (a : Act) (w : World) : Prop :=
 ∃ x k s, exOf e = some x ∧ k.w = w ∧ Q x s ∧ At X k0 k a s

def AWp (P : Program) (n0 : Nat) (ro : Option Nat) (c : Code) (s : St) (Q : Ex → St → Prop) : Prop :=
 ∀ X k0 k a, k0.nid = n0 → At X k0 k a s → c.wpIn (FW ro) 0 P (Post X k0 Q) a k.w

section
variable {P : Program} {n0 : Nat} {ro : Option Nat}

theorem good_not_mut {X : Nat → Prop} {k : Cx} (hg : Good X k) {r : Nat} (h : ∀ c t f, k.w.heap[r]? ≠ some (.cells c t f)) (h' : ∀ es c, k.w.heap[r]? ≠ some (.map es c)) : ¬ k.Mut r := fun ⟨id, hid⟩ => by
 cases hq : hget k.h id with
 | none => simp [Cx.own, hq, ownOf] at hid
 | some blk =>
  have hok := hg.ok id blk hq
  rw [Cx.own, hq] at hid
  cases blk with
  | box cs =>
   simp [ownOf] at hid; subst hid
   obtain ⟨vs, ty, h1, _⟩ := hok
   exact h _ _ _ h1
  | arr ty sz es =>
   rcases hok.2 with ⟨h1, _⟩ | ⟨b, off, cap, vs, h1, h2, _⟩
   ·simp [ownOf, h1, slBlk] at hid
   ·simp [ownOf, h1, slBlk] at hid; subst hid; exact h _ _ _ h2
  | map kvs =>
   simp [ownOf] at hid; subst hid
   obtain ⟨es, c, es', h1, _⟩ := hok
   exact h' _ _ h1

theorem ActOk.le {X : Nat → Prop} {k k' : Cx} {B : Nat} {a : Act} {env : Env} {n : Nat} (h : ActOk X k B a env n) (hg : Good X k) (hle : Le k k') : ActOk X k' B a env n := by
 refine ⟨h.size, fun i => (h.rel i).le hle, ?_⟩
 obtain ⟨ms, h1, h2, h3⟩ := h.marks
 refine ⟨ms, h1, h2, fun r hr => ⟨(h3 r hr).1, ?_⟩⟩
 have hlt : r < k.w.heap.size := by
  rcases Nat.lt_or_ge r k.w.heap.size with h | h
  ·exact h
  ·have := (h3 r hr).2; rw [Array.getElem?_eq_none h] at this; cases this
 rw [hle.heap r hlt (good_not_mut hg (fun c t f => by rw [(h3 r hr).2]; simp) (fun c t => by rw [(h3 r hr).2]; simp))]
 exact (h3 r hr).2

theorem ActOk.put {X : Nat → Prop} {k : Cx} {B : Nat} {a : Act} {s : St} (h : ActOk X k B a s.env s.n) (dst : Option Tmp) {v : Value} {d : D} (hr : Rel (k.R X) k.nid v d) :
  ActOk X k B (a.put dst v) (s.put dst d).env (s.put dst d).n := by
 cases dst with
 | none => exact h
 | some t =>
  simp only [St.put, Act.put]
  by_cases hlt : t < s.n
  ·rw [if_pos hlt]
   refine ⟨by simp [h.size], fun i => ?_, h.marks⟩
   simp only [look]
   by_cases hi : i = t
   ·subst hi
    rw [if_pos rfl]
    have : i < a.tmps.size := by rw [h.size]; exact hlt
    rw [Array.getD_eq_getD_getElem?, Array.getElem?_setIfInBounds_self_of_lt this]
    exact hr
   ·rw [if_neg hi]
    have := h.rel i
    rw [Array.getD_eq_getD_getElem?] at this ⊢
    rw [Array.getElem?_setIfInBounds_ne (Ne.symm hi)]
    exact this
  ·rw [if_neg hlt]
   have : a.tmps.setIfInBounds t v = a.tmps := by
    unfold Array.setIfInBounds
    rw [dif_neg (by rw [h.size]; exact hlt)]
   exact ⟨by rw [this]; exact h.size, fun i => by rw [this]; exact h.rel i, h.marks⟩

theorem ActOk.eval {X : Nat → Prop} {k : Cx} {B : Nat} {a : Act} {env : Env} {n : Nat} (h : ActOk X k B a env n) (x : Operand) : Rel (k.R X) k.nid (a.eval x) (evO env x) := by
 cases x with
 | tmp t => exact h.rel t
 | const v => exact .vD _ _ _
 | global g => exact .raw _ _
 | func f => exact .fn _ _ [] [] [] [] rfl rfl (by simp) (by simp)

theorem awp_mono {c : Code} {s : St} {Q Q' : Ex → St → Prop} (h : AWp P n0 ro c s Q) (hq : ∀ e s, Q e s → Q' e s) : AWp P n0 ro c s Q' :=
 fun X k0 k a hn hat => wpIn_mono (h X k0 k a hn hat) fun e a w ⟨x, k, s, h1, h2, h3, h4⟩ => ⟨x, k, s, h1, h2, hq _ _ h3, h4⟩

theorem awp_skip {s : St} {Q : Ex → St → Prop} (h : Q .normal s) : AWp P n0 ro .skip s Q :=
 fun X k0 k a hn hat => wpIn_skip ⟨.normal, k, s, rfl, rfl, h, hat⟩

theorem awp_label {l : Nat} {s : St} {Q : Ex → St → Prop} (h : Q .normal s) : AWp P n0 ro (.label l) s Q :=
 fun X k0 k a hn hat => wpIn_label ⟨.normal, k, s, rfl, rfl, h, hat⟩

theorem awp_exit {id : Nat} {s : St} {Q : Ex → St → Prop} (h : Q (.exit id) s) : AWp P n0 ro (.exit id) s Q :=
 fun X k0 k a hn hat => wpIn_exit ⟨.exit id, k, s, rfl, rfl, h, hat⟩

theorem awp_ret {s : St} {Q : Ex → St → Prop} (h : Q .ret s) : AWp P n0 ro .ret s Q :=
 fun X k0 k a hn hat => wpIn_ret ⟨.ret, k, s, rfl, rfl, h, hat⟩

def thenQ (K : St → Prop) (Q : Ex → St → Prop) : Ex → St → Prop
 | .normal, s => K s
 | e, s => Q e s

theorem awp_seq {x y : Code} {s : St} {Q : Ex → St → Prop} (h : AWp P n0 ro x s (thenQ (fun s' => AWp P n0 ro y s' Q) Q)) : AWp P n0 ro (.seq x y) s Q :=
 fun X k0 k a hn hat => wpIn_seq (wpIn_mono (h X k0 k a hn hat) fun e a w ⟨x, k, s, h1, h2, h3, h4⟩ => by
  subst h2
  cases e <;> simp only [exOf, Option.some.injEq, reduceCtorEq] at h1 <;> subst h1
  ·exact h3 X k0 k a hn h4
  ·exact ⟨_, k, s, rfl, rfl, h3, h4⟩
  ·exact ⟨_, k, s, rfl, rfl, h3, h4⟩)

theorem eval_bool {X : Nat → Prop} {k : Cx} {B : Nat} {a : Act} {env : Env} {n : Nat} (h : ActOk X k B a env n) {x : Operand} {t : Bool} (hx : evO env x = .bool t) : a.eval x = .bool t := by
 have hr := h.eval x
 rw [hx] at hr
 generalize a.eval x = v at hr
 cases hr; rfl

theorem awp_cond {c : Operand} {x y : Code} {s : St} {Q : Ex → St → Prop} {t : Bool} (hc : evO s.env c = .bool t) (ht : t = true → AWp P n0 ro x s Q) (hf : t = false → AWp P n0 ro y s Q) :
  AWp P n0 ro (.cond c x y) s Q :=
 fun X k0 k a hn hat => wpIn_cond (t := t) (eval_bool hat.act hc) (by
  cases t
  ·exact hf rfl X k0 k a hn hat
  ·exact ht rfl X k0 k a hn hat)

def blockQ (id : Nat) (Q : Ex → St → Prop) : Ex → St → Prop
 | .exit i, s => if i = id then Q .normal s else Q (.exit i) s
 | e, s => Q e s

theorem awp_block {id : Nat} {c : Code} {s : St} {Q : Ex → St → Prop} (h : AWp P n0 ro c s (blockQ id Q)) : AWp P n0 ro (.block id c) s Q :=
 fun X k0 k a hn hat => wpIn_block (wpIn_mono (h X k0 k a hn hat) fun e a w ⟨x, k, s, h1, h2, h3, h4⟩ => by
  subst h2
  cases e with
  | exit i =>
   simp only [exOf, Option.some.injEq] at h1
   subst h1
   simp only [Exit.inBlock]
   by_cases hi : i = id
   ·rw [if_pos hi]
    simp only [blockQ, if_pos hi] at h3
    exact ⟨_, k, s, rfl, rfl, h3, h4⟩
   ·rw [if_neg hi]
    simp only [blockQ, if_neg hi] at h3
    exact ⟨_, k, s, rfl, rfl, h3, h4⟩
  | _ =>
   simp only [exOf, Option.some.injEq, reduceCtorEq] at h1
   try (subst h1; exact ⟨_, k, s, rfl, rfl, h3, h4⟩))

structure Weak (n0 : Nat) (s s' : St) : Prop where
 n : s.n = s'.n
 env : ∀ (i : Nat), look s'.env i = .any ∨ (look s.env i = look s'.env i ∧ (s.nid ≤ s'.nid ∨ (look s'.env i).lt s'.nid = true))
 sub : ∀ id blk, hget s'.h id = some blk → hget s.h id = some blk
 key : ∀ id blk, hget s'.h id = some blk → id < s'.nid
 nid : n0 ≤ s'.nid
 roll : s.nid ≤ s'.nid ∨ ∀ id blk, hget s'.h id = some blk → blkLt s'.nid blk = true

theorem At.weak {X : Nat → Prop} {k0 k : Cx} {a : Act} {s s' : St} (hat : At X k0 k a s) (hn : k0.nid = n0) (hw : Weak n0 s s') : ∃ k', k'.w = k.w ∧ At X k0 k' a s' := by
 have hsub : ∀ id blk, hget s'.h id = some blk → hget k.h id = some blk := fun id blk h => by rw [hat.h]; exact hw.sub id blk h
 refine ⟨{ k with h := s'.h, nid := s'.nid }, rfl, rfl, rfl, hat.good.drop hsub hw.key (fun hle id blk hb => ?_), hat.le.drop (by rw [hn]; exact hw.nid) hsub, ⟨by rw [hat.act.size]; exact hw.n, fun i => ?_, hat.act.marks⟩⟩
 ·rcases hw.roll with h | h
  ·have := hat.nid; omega
  ·exact h id blk hb
 ·rcases hw.env i with h1 | ⟨h1, h2⟩
  ·rw [h1]; exact .any _ _
  ·rw [← h1] at h2 ⊢; exact (hat.act.rel i).drop hsub (by rw [hat.nid]; exact h2)

theorem awp_weak {c : Code} {s s' : St} {Q : Ex → St → Prop} (hw : Weak n0 s s') (h : AWp P n0 ro c s' Q) : AWp P n0 ro c s Q :=
 fun X k0 k a hn hat => by
  obtain ⟨k', h1, h2⟩ := hat.weak hn hw
  rw [← h1]
  exact h X k0 k' a hn h2

theorem awp_loop {ι : Type} {c : Code} {s : St} {Q : Ex → St → Prop} (σ : ι → St) (I : ι → Prop) (μ : ι → Nat) (i0 : ι) (h0 : I i0) (hw : Weak n0 s (σ i0))
  (round : ∀ i, I i → AWp P n0 ro c (σ i) (thenQ (fun s' => ∃ j, I j ∧ μ j < μ i ∧ Weak n0 s' (σ j)) Q)) : AWp P n0 ro (.loop c) s Q := by
 intro X k0 k a hn hat
 obtain ⟨k', hk', hat'⟩ := hat.weak hn hw
 rw [← hk']
 intro b kk cs hro hb hr
 have key : ∀ n (i : ι) (k : Cx) (a : Act), μ i = n → I i → At X k0 k a (σ i) →
   ∃ e a' w', Post X k0 Q e a' w' ∧ ArrivesIn (Machine.fenced P (FW ro)) P (lone (b.atR a (.code c :: .inLoop c :: kk)) cs k.w) b kk cs e a' w' := by
  intro n
  induction n using Nat.strongRecOn with
  | _ n ih =>
   intro i k a hμ hI hat
   obtain ⟨e, a₁, w₁, ⟨x, k1, s1, hx, hw1, hq, hat1⟩, harr⟩ := round i hI X k0 k a hn hat b (.inLoop c :: kk) cs hro hb hr
   subst hw1
   cases e with
   | normal =>
    simp only [exOf, Option.some.injEq] at hx
    subst hx
    obtain ⟨j, hj, hlt, hwk⟩ := hq
    obtain ⟨k2, hk2, hat2⟩ := hat1.weak hn hwk
    obtain ⟨e₂, a₂, w₂, hq₂, harr₂⟩ := ih (μ j) (hμ ▸ hlt) j k2 a₁ rfl hj hat2
    rw [hk2] at harr₂
    exact ⟨e₂, a₂, w₂, hq₂, .of_steps (StepsIn.trans harr (.one (fenced_calm (fr := b.atR a₁ (.inLoop c :: kk)) hb hr rfl) stepR_inLoop)) harr₂⟩
   | exit id =>
    simp only [exOf, Option.some.injEq] at hx
    subst hx
    exact ⟨_, a₁, k1.w, ⟨_, k1, s1, rfl, rfl, hq, hat1⟩, .pass (x := .inLoop c) rfl (fun _ _ => .inl (by simp)) harr⟩
   | ret =>
    simp only [exOf, Option.some.injEq] at hx
    subst hx
    exact ⟨_, a₁, k1.w, ⟨_, k1, s1, rfl, rfl, hq, hat1⟩, .pass (x := .inLoop c) rfl (fun _ _ => .inl (by simp)) harr⟩
   | _ => simp [exOf] at hx
 obtain ⟨e, a', w', hq, harr⟩ := key _ i0 k' a rfl h0 hat'
 exact ⟨e, a', w', hq, .of_steps (.one (fenced_calm hb hr rfl) stepR_loop) harr⟩


theorem put_defers (a : Act) (dst : Option Tmp) (v : Value) : (a.put dst v).defers = a.defers := by
 cases dst <;> rfl
def Kept1 (o : Oper) (a a' : Act) : Prop := a'.defers = a.defers ∧ ∀ t, o.dst ≠ some t → a'.tmps.getD t undef = a.tmps.getD t undef
theorem kept1_put (o : Oper) (a : Act) (v : Value) : Kept1 o a (a.put o.dst v) := by
 refine ⟨put_defers _ _ _, fun t ht => ?_⟩
 cases hd : o.dst with
 | none => rfl
 | some d =>
  have hne : d ≠ t := fun e => ht (by rw [hd, e])
  simp only [Act.put, Array.getD_eq_getD_getElem?, Array.getElem?_setIfInBounds_ne hne]
def KeptA (ops : Array Oper) (a a' : Act) : Prop := a'.defers = a.defers ∧ ∀ t, (∀ (i : Nat) (o : Oper), ops[i]? = some o → o.dst ≠ some t) → a'.tmps.getD t undef = a.tmps.getD t undef
theorem KeptA.refl (ops : Array Oper) (a : Act) : KeptA ops a a := ⟨rfl, fun _ _ => rfl⟩
theorem KeptA.trans {ops : Array Oper} {a b c : Act} (h : KeptA ops a b) (h' : KeptA ops b c) : KeptA ops a c := ⟨h'.1.trans h.1, fun t ht => (h'.2 t ht).trans (h.2 t ht)⟩
theorem KeptA.one {ops : Array Oper} {i : Nat} {o : Oper} (ho : ops[i]? = some o) {a b : Act} (h : Kept1 o a b) : KeptA ops a b := ⟨h.1, fun t ht => h.2 t (ht i o ho)⟩
theorem KeptA.put {ops : Array Oper} {i : Nat} {o : Oper} (ho : ops[i]? = some o) (a : Act) (v : Value) : KeptA ops a (a.put o.dst v) := .one ho (kept1_put o a v)

def OpOk (P : Program) (n0 : Nat) (ro : Option Nat) (o : Oper) (s : St) (K : St → Prop) : Prop :=
 ∀ X k0 k a (Q : Exit → Act → World → Prop) (Kc : Act → World → Prop), k0.nid = n0 → At X k0 k a s →
  (∀ k' a' s', K s' → At X k0 k' a' s' → Le k k' → Kept1 o a a' → Kc a' k'.w) → o.wpIn (FW ro) 0 P a k.w Kc Q

theorem put_h (s : St) (dst : Option Tmp) (d : D) : (s.put dst d).h = s.h := by
 cases dst with
 | none => rfl
 | some t => simp only [St.put]; split <;> rfl

theorem put_nid (s : St) (dst : Option Tmp) (d : D) : (s.put dst d).nid = s.nid := by
 cases dst with
 | none => rfl
 | some t => simp only [St.put]; split <;> rfl

theorem semAt_eq {o : Oper} (ro : Option Nat) (ρ : Operand → Value) (h : ∀ c, o.op ≠ .defer c) : o.semAt ro ρ = execOp ρ o := Oper.semAt_eq ro ρ o h

theorem opR_not_defer {o : Oper} {ρ : Operand → D} {h : H} {d : D} (hq : opR P o.op ρ h = some d) : ∀ c, o.op ≠ .defer c := fun c hc => by
 rw [hc] at hq; simp [opR, opQ] at hq

theorem opOk_read {o : Oper} {s : St} {K : St → Prop} {d : D} (h : opR P o.op (evO s.env) s.h = some d) (hK : K (s.put o.dst d)) : OpOk P n0 ro o s K := by
 intro X k0 k a Q Kc hn hat hk
 rw [← hat.h] at h
 obtain ⟨v, h1, h2⟩ := opR_sound hat.good (fun x => hat.act.eval x) h
 refine ⟨fun _ _ => trivial, ?_⟩
 rw [semAt_eq _ _ (opR_not_defer h), h1]
 refine hk k _ _ hK ⟨?_, ?_, hat.good, hat.le, hat.act.put o.dst h2⟩ (.refl k) (kept1_put _ _ _)
 ·rw [hat.h, put_h]
 ·rw [hat.nid, put_nid]

def opF (P : Program) (op : Op) (ρ : Operand → D) (h : H) (nid : Nat) : Option (D × H × Nat) :=
 match op with
 | .buildSlice t len parts =>
  match litSl P h t len (parts.toList.map fun p => (p.1, ρ p.2)) with
  | some (e, sz, es) => if es.all (D.ltL 0) then some (.osl nid len, (nid, .arr e sz es) :: h, nid + 1) else none
  | none => none
 | .call c =>
  match c.callee, c.args.toList, c.argTypes.toList with
  | .builtin .append, [x, y], [t, t'] => appE P h nid t t' (ρ x) (ρ y)
  | _, _, _ => none
 | .slice t x lo hi none =>
  match ρ x with
  | .osl b n => sliceO P h nid t b n (lo.map ρ) (hi.map ρ)
  | _ => none
 | .makeSlice t l c => makeD P h nid t (ρ l) (ρ c)
 | op => opE P op ρ h nid

theorem opF_sound {X : Nat → Prop} {k : Cx} (hg : Good X k) {a : Act} {o : Oper} {ρ : Operand → D} (hρ : ∀ x, Rel (k.R X) k.nid (a.eval x) (ρ x)) {d : D} {h' : H} {nid' : Nat}
  (h : opF P o.op ρ k.h k.nid = some (d, h', nid')) :
  ∃ n v k', (execOp a.eval o).run P k.w = .ok n k'.w ∧ (n = .value v ∨ n = .skip ∧ d = .any) ∧ k'.h = h' ∧ k'.nid = nid' ∧ Good X k' ∧ Le k k' ∧ Rel (k'.R X) k'.nid v d := by
 unfold opF at h
 split at h
 ·rename_i t len parts hop
  split at h
  ·rename_i e sz es hl
   split at h
   ·rename_i hpure
    cases h
    obtain ⟨us, h1, h2, h3, h4, h5, h6, h7, h8⟩ := run_litSl hg hρ hl
    have hcap : us.length = len * sz := h2
    refine ⟨.value (.slice (some ⟨k.w.heap.size, 0, none⟩) len len), .slice (some ⟨k.w.heap.size, 0, none⟩) len len, k.newArr us e sz es len, ?_, .inl rfl, rfl, rfl,
     newArr_good hg us e sz es len (fun x hx => ⟨h4 x hx, D.nmL_lt (List.all_eq_true.1 hpure x hx)⟩) hcap (by omega) (fun i x j d v a b c => (h8 i x j d v a b c).roll (D.ltL_get (List.all_eq_true.1 hpure x (List.mem_of_getElem? a)) j d b)), newArr_le hg us e sz es len, ?_⟩
    ·unfold execOp
     rw [hop]
     exact ok_bind_value _ _ _ _ _ h1
    ·refine .osl _ _ _ _ (by simp [Cx.newArr]) fun m hm => ?_
     simp [Cx.R, Cx.newArr, hget, lnOf] at hm
     subst hm
     exact ⟨by omega, fun _ => by simp [Cx.R, Cx.newArr, h3]⟩
   ·cases h
  ·cases h
 ·rename_i c hop
  split at h
  ·rename_i x y t t' hc hx ht
   obtain ⟨v, k', h1, h2, h3, h4, h5, h6⟩ := run_appE (P := P) (ty := o.type) hg (hρ x) (hρ y) h
   refine ⟨.value v, v, k', ?_, .inl rfl, h2, h3, h4, h5, h6⟩
   obtain ⟨callee, args, argTypes⟩ := c
   dsimp only at hc hx ht
   subst hc
   obtain rfl := array_eq_list hx
   obtain rfl := array_eq_list ht
   unfold execOp
   rw [hop]
   simp only [resolve, Sem.run_bind, Sem.run_pure, Result.andThen_ok, invoke, builtin]
   have e1 : Array.map a.eval [x, y].toArray = #[a.eval x, a.eval y] := by simp
   rw [e1]
   have h1' : (Builtin.append_ [t, t'].toArray o.type #[a.eval x, a.eval y]).run P k.w = .ok v k'.w := h1
   simp [h1']
  ·cases h
 ·rename_i t x lo hi hop
  split at h
  ·rename_i b n hx
   have ho : ∀ q : Option Operand, (q.map ρ = none ∧ q.map a.eval = none) ∨ ∃ x v, q.map ρ = some x ∧ q.map a.eval = some v ∧ Rel (k.R X) k.nid v x := fun q => by
    cases q with
    | none => exact .inl ⟨rfl, rfl⟩
    | some q => exact .inr ⟨_, _, rfl, rfl, hρ q⟩
   have hr := hρ x
   rw [hx] at hr
   obtain ⟨r, k', h1, h2, h3, h4, h5, h6⟩ := run_sliceO (P := P) hg hr (ho lo) (ho hi) h
   refine ⟨.value r, r, k', ?_, .inl rfl, h2, h3, h4, h5, h6⟩
   unfold execOp
   rw [hop]
   exact ok_bind_value _ _ _ _ _ h1
  ·cases h
 ·rename_i t l c hop
  obtain ⟨r, k', h1, h2, h3, h4, h5, h6⟩ := run_makeD (P := P) hg (hρ l) (hρ c) h
  refine ⟨.value r, r, k', ?_, .inl rfl, h2, h3, h4, h5, h6⟩
  unfold execOp
  rw [hop]
  exact ok_bind_value _ _ _ _ _ h1
 ·exact opE_sound hg hρ h

theorem opF_not_defer {o : Oper} {ρ : Operand → D} {h : H} {nid : Nat} {r : D × H × Nat} (hq : opF P o.op ρ h nid = some r) : ∀ c, o.op ≠ .defer c := fun c hc => by
 rw [hc] at hq; simp [opF, opE] at hq

theorem opOk_eff {o : Oper} {s : St} {K : St → Prop} {d : D} {h' : H} {nid' : Nat} (h : opF P o.op (evO s.env) s.h s.nid = some (d, h', nid'))
  (hK : K (St.put { s with h := h', nid := nid' } o.dst d)) : OpOk P n0 ro o s K := by
 intro X k0 k a Q Kc hn hat hk
 rw [← hat.h, ← hat.nid] at h
 obtain ⟨n, v, k', h1, h2, h3, h4, h5, h6, h7⟩ := opF_sound hat.good (fun x => hat.act.eval x) h
 refine ⟨fun _ _ => trivial, ?_⟩
 rw [semAt_eq _ _ (opF_not_defer h), h1]
 have hact : ActOk X k' k0.w.heap.size a s.env s.n := hat.act.le hat.good h6
 have hput : ∀ u : Value, Rel (k'.R X) k'.nid u d → At X k0 k' (a.put o.dst u) (St.put { s with h := h', nid := nid' } o.dst d) := fun u hu => by
  refine ⟨?_, ?_, h5, hat.le.trans h6, ?_⟩
  ·rw [h3, put_h]
  ·rw [h4, put_nid]
  ·have := ActOk.put (s := { s with h := h', nid := nid' }) hact o.dst hu
   exact this
 rcases h2 with rfl | ⟨rfl, rfl⟩
 ·exact hk k' _ _ hK (hput v h7) h6 (kept1_put _ _ _)
 ·exact hk k' _ _ hK (hput undef (.any _ _)) h6 (kept1_put _ _ _)

end
end Go.Sx

/- Sx, part I: calls, contracts, regions. Own work. -/
namespace Go.Sx

def callable (P : Program) (f : FuncId) : Bool :=
 match P.funcs[f]? with
 | some fn => fn.body.isSome && !(fn.name == "runtime.NumGoroutine")
 | none => false

def ACall (P : Program) (f : FuncId) (ds : List D) (h : H) (nid : Nat) (Q : D → H → Nat → Prop) : Prop :=
 callable P f = true ∧ ∀ X k vs, k.h = h → k.nid = nid → Good X k → RelL (k.R X) k.nid vs ds →
  Calls P f (List.toArray vs) k.w fun e w' => ∃ v k' r, e = .returned v ∧ k'.w = w' ∧ Q r k'.h k'.nid ∧ Good X k' ∧ Le k k' ∧ Rel (k'.R X) k'.nid v r

def Pure (P : Program) (f : FuncId) (ds : List D) (r : D) : Prop := ACall P f ds [] 0 fun r' _ _ => r' = r

section
variable {P : Program} {n0 : Nat} {ro : Option Nat}

theorem ACall.mono {f : FuncId} {ds : List D} {h : H} {nid : Nat} {Q Q' : D → H → Nat → Prop} (hc : ACall P f ds h nid Q) (hq : ∀ r h n, Q r h n → Q' r h n) : ACall P f ds h nid Q' :=
 ⟨hc.1, fun X k vs h1 h2 h3 h4 => (hc.2 X k vs h1 h2 h3 h4).mono fun _ _ ⟨v, k', r, a, b, c, d⟩ => ⟨v, k', r, a, b, hq _ _ _ c, d⟩⟩

theorem callsIn_of_calls {ro : Option Nat} {n : Nat} {f : FuncId} {args : Array Value} {w : World} {R : Ending → World → Prop} (h : Calls P f args w R) : CallsIn (FW ro) n P f args w R :=
 ⟨trivial, fun cs _ => let ⟨e, w', fr, r, s, x⟩ := h cs; ⟨e, w', fr, r, (comesIn_wide (P := P)).2 s, x⟩⟩

theorem calls_of_callsIn {n : Nat} {f : FuncId} {args : Array Value} {w : World} {R : Ending → World → Prop} (h : CallsIn (FW none) n P f args w R) : Calls P f args w R :=
 (callsIn_wide (n := n)).1 h

theorem run_callFunc {f : FuncId} (h : callable P f = true) (args : Array Value) (w : World) : (callFunc f args).run P w = .ok (.enter f args) w := by
 unfold callable at h
 split at h
 ·rename_i fn hf
  simp only [Bool.and_eq_true, Bool.not_eq_true'] at h
  obtain ⟨body, hb⟩ := Option.isSome_iff_exists.1 h.1
  simp only [callFunc, Sem.run_bind, run_program, Result.andThen_ok, hf, h.2, hb]
  rfl
 ·cases h

def calleeD (env : Env) (c : Call) : Option (FuncId × List D) :=
 match c.callee with
 | .value x =>
  match evO env x with
  | .fn (.func f) first cap => some (f, first ++ c.args.toList.map (evO env) ++ cap)
  | _ => none
 | _ => none

theorem opOk_call {o : Oper} {c : Call} {s : St} {K : St → Prop} {f : FuncId} {ds : List D} (ho : o.op = .call c) (hcal : calleeD s.env c = some (f, ds))
  (h : ACall P f ds s.h s.nid fun r h' nid' => K (St.put { s with h := h', nid := nid' } o.dst r)) : OpOk P n0 ro o s K := by
 intro X k0 k a Q Kc hn hat hk
 refine ⟨fun _ _ => trivial, ?_⟩
 rw [semAt_eq _ _ (by rw [ho]; simp)]
 unfold calleeD at hcal
 split at hcal
 ·rename_i x hx
  split at hcal
  ·rename_i f' first cap hf
   cases hcal
   have hr := hat.act.eval x
   rw [hf] at hr
   obtain ⟨callee, args, argTypes⟩ := c
   dsimp only at hx
   subst hx
   generalize hv : a.eval x = v at hr
   cases hr with
   | fn _ _ va vc _ _ h1 h2 h3 h4 =>
    have hrun : (execOp a.eval o).run P k.w = .ok (.enter f (va ++ args.toList.map a.eval ++ vc).toArray) k.w := by
     unfold execOp
     rw [ho]
     simp only [resolve, Sem.run_bind, hv, Deferred.ofValue, Sem.run_pure, Result.andThen_ok, invoke]
     rw [run_callFunc h.1]
     congr 2
     apply Array.ext'
     simp
    rw [hrun]
    refine ⟨by simp [FW, Fence.wide], callsIn_of_calls ?_⟩
    have hl : RelL (k.R X) k.nid (va ++ args.toList.map a.eval ++ vc) (first ++ args.toList.map (evO s.env) ++ cap) :=
     (RelL.append ⟨h1, h3⟩ (RelL.map (fun x => hat.act.eval x) _)).append ⟨h2, h4⟩
    refine (h.2 X k _ hat.h hat.nid hat.good hl).mono ?_
    rintro e w' ⟨v', k', r, rfl, rfl, hK, hg', hle, hrel⟩
    have hact : ActOk X k' k0.w.heap.size a s.env s.n := hat.act.le hat.good hle
    refine hk k' _ _ hK ⟨?_, ?_, hg', hat.le.trans hle, ?_⟩ hle (kept1_put _ _ _)
    ·rw [put_h]
    ·rw [put_nid]
    ·exact ActOk.put (s := { s with h := k'.h, nid := k'.nid }) hact o.dst hrel
  ·cases hcal
 ·cases hcal

def methD (P : Program) (t : TypeId) (name : String) : Option FuncId :=
 match P.info? t, P.underlying t with
 | some i, some (.pointer _) =>
  match i.methods.find? (·.name == name) with
  | some m => if m.path.isEmpty then match m.func with
   | some (f, true) => some f
   | _ => none else none
  | none => none
 | _, _ => none
def calleeM (P : Program) (env : Env) (c : Call) : Option (FuncId × List D) :=
 match c.callee with
 | .invoke x name =>
  match evO env x with
  | .ifc t d => match methD P t name with
   | some f => some (f, d :: c.args.toList.map (evO env))
   | none => none
  | _ => none
 | _ => none

theorem run_methD {t : TypeId} {name : String} {f : FuncId} (h : methD P t name = some f) (v : Value) (w : World) : (method (P.types.size + Made.depth) t v name).run P w = .ok (f, v) w := by
 unfold methD at h
 split at h
 ·rename_i i e hi hu
  split at h
  ·rename_i m hm
   split at h
   ·rename_i hp
    split at h
    ·rename_i f' hf
     cases h
     have hpath : m.path.toList = [] := by simpa using hp
     have hfuel : P.types.size + Made.depth = (P.types.size + Made.depth - 1) + 1 := by simp [Made.depth]
     rw [hfuel]
     simp only [method, Sem.run_bind, run_typeInfo w hi, Result.andThen_ok, hm, hpath, follow, Sem.run_pure, hf, receiverAt, run_underlying hu, Place.get]
    ·cases h
   ·cases h
  ·cases h
 ·cases h

theorem opOk_callM {o : Oper} {c : Call} {s : St} {K : St → Prop} {f : FuncId} {ds : List D} (ho : o.op = .call c) (hcal : calleeM P s.env c = some (f, ds))
  (h : ACall P f ds s.h s.nid fun r h' nid' => K (St.put { s with h := h', nid := nid' } o.dst r)) : OpOk P n0 ro o s K := by
 intro X k0 k a Q Kc hn hat hk
 refine ⟨fun _ _ => trivial, ?_⟩
 rw [semAt_eq _ _ (by rw [ho]; simp)]
 unfold calleeM at hcal
 split at hcal
 ·rename_i x name hx
  split at hcal
  ·rename_i t d hf
   split at hcal
   ·rename_i f' hm
    cases hcal
    have hr := hat.act.eval x
    rw [hf] at hr
    obtain ⟨callee, args, argTypes⟩ := c
    dsimp only at hx
    subst hx
    generalize hv : a.eval x = v at hr
    cases hr with
    | ifc _ _ u _ hu =>
     have hrun : (execOp a.eval o).run P k.w = .ok (.enter f (u :: args.toList.map a.eval).toArray) k.w := by
      unfold execOp
      rw [ho]
      simp only [resolve, Sem.run_bind, hv, Sem.run_pure, Result.andThen_ok, invoke]
      have e1 : (#[Value.iface t u] ++ Array.map a.eval args)[0]? = some (.iface t u) := by rw [Array.getElem?_append]; rfl
      have e2 : (#[Value.iface t u] ++ Array.map a.eval args).extract 1 (#[Value.iface t u] ++ Array.map a.eval args).size = Array.map a.eval args := by
       apply Array.ext'; simp [List.take_of_length_le]
      simp only [e1, e2, callMethod, Sem.run_bind, run_program, Result.andThen_ok, run_methD hm]
      rw [run_callFunc h.1]
      congr 2
      apply Array.ext'
      simp
     rw [hrun]
     refine ⟨by simp [FW, Fence.wide], callsIn_of_calls ?_⟩
     have hl : RelL (k.R X) k.nid (u :: args.toList.map a.eval) (d :: args.toList.map (evO s.env)) := by
      have h2 := RelL.map (R := k.R X) (n := k.nid) (f := a.eval) (g := evO s.env) (fun x => hat.act.eval x) args.toList
      refine ⟨by simp, fun i v d' p q => ?_⟩
      cases i with
      | zero => simp at p q; subst p; subst q; exact hu
      | succ i => exact h2.2 i v d' (by simpa using p) (by simpa using q)
     refine (h.2 X k _ hat.h hat.nid hat.good hl).mono ?_
     rintro e w' ⟨v', k', r, rfl, rfl, hK, hg', hle, hrel⟩
     have hact : ActOk X k' k0.w.heap.size a s.env s.n := hat.act.le hat.good hle
     refine hk k' _ _ hK ⟨?_, ?_, hg', hat.le.trans hle, ?_⟩ hle (kept1_put _ _ _)
     ·rw [put_h]
     ·rw [put_nid]
     ·exact ActOk.put (s := { s with h := k'.h, nid := k'.nid }) hact o.dst hrel
   ·cases hcal
  ·cases hcal
 ·cases hcal


def AOps (P : Program) (n0 : Nat) (ro : Option Nat) (ops : Array Oper) (l : List Nat) (s : St) (K : St → Prop) : Prop :=
 ∀ X k0 k a (Q : Exit → Act → World → Prop), k0.nid = n0 → At X k0 k a s → (∀ k' a' s', K s' → At X k0 k' a' s' → KeptA ops a a' → Q .normal a' k'.w) →
  wpOpsIn (FW ro) 0 P ops Q l a k.w

theorem aops_nil {ops : Array Oper} {s : St} {K : St → Prop} (h : K s) : AOps P n0 ro ops [] s K :=
 fun X k0 k a Q hn hat hk => hk k a s h hat (.refl _ _)

def slotOf (ops : Array Oper) (j : Nat) : Option Tmp := (ops[j]?).bind (·.dst)

theorem yielded_eq {X : Nat → Prop} {k : Cx} {B : Nat} {a : Act} {env : Env} {n : Nat} (h : ActOk X k B a env n) {ops : Array Oper} {j : Nat} {t : Tmp} (hj : slotOf ops j = some t) {b : Bool} (hb : look env t = .bool b) :
  yielded ops a.tmps j = some b := by
 have hr := h.rel t
 rw [hb] at hr
 have hlt : t < a.tmps.size := by
  rcases Nat.lt_or_ge t a.tmps.size with h | h
  ·exact h
  ·rw [Array.getD_eq_getD_getElem?, Array.getElem?_eq_none h] at hr
   simp [undef] at hr; cases hr
 have hj' : (ops[j]?).bind (·.dst) = some t := hj
 simp only [yielded, hj', Option.bind_some]
 rw [Array.getD_eq_getD_getElem?, Array.getElem?_eq_getElem hlt] at hr
 rw [Array.getElem?_eq_getElem hlt]
 simp only [Option.getD_some] at hr
 generalize a.tmps[t] = v at hr
 cases hr; rfl

theorem yielded_off {X : Nat → Prop} {k : Cx} {B : Nat} {a : Act} {env : Env} {n : Nat} (h : ActOk X k B a env n) {ops : Array Oper} {j : Nat} {t : Tmp} (hj : slotOf ops j = some t) (hb : look env t = .tup []) :
  yielded ops a.tmps j = none := by
 have hr := h.rel t
 rw [hb] at hr
 have hj' : (ops[j]?).bind (·.dst) = some t := hj
 simp only [yielded, hj', Option.bind_some]
 rcases Nat.lt_or_ge t a.tmps.size with hlt | hge
 ·rw [Array.getD_eq_getD_getElem?, Array.getElem?_eq_getElem hlt] at hr
  rw [Array.getElem?_eq_getElem hlt]
  simp only [Option.getD_some] at hr
  generalize a.tmps[t] = v at hr
  cases hr; rfl
 ·rw [Array.getElem?_eq_none hge]

theorem aops_cons {ops : Array Oper} {i : Nat} {rest : List Nat} {o : Oper} {s : St} {K : St → Prop} (ho : ops[i]? = some o) (hg : o.guard = none)
  (h : OpOk P n0 ro o s fun s' => AOps P n0 ro ops rest s' K) : AOps P n0 ro ops (i :: rest) s K := by
 intro X k0 k a Q hn hat hk
 rw [wpOpsIn_cons]
 have hw : Region.wanted o (yielded ops a.tmps) = true := by simp [Region.wanted, hg]
 simp only [wpOpIn, ho, hw, if_true]
 exact h X k0 k a Q _ hn hat fun k' a' s' hs' hat' _ hd => hs' X k0 k' a' Q hn hat' fun k2 a2 s2 x y z => hk k2 a2 s2 x y ((KeptA.one ho hd).trans z)

theorem At.know {X : Nat → Prop} {k0 k : Cx} {a : Act} {s : St} (hat : At X k0 k a s) {t : Nat} {b : Bool} (hb : look s.env t = .bool b) : At X k0 k a { s with env := (t, .bool b) :: s.env } := by
 refine ⟨hat.h, hat.nid, hat.good, hat.le, ⟨hat.act.size, fun i => ?_, hat.act.marks⟩⟩
 simp only [look]
 by_cases hi : i = t
 ·subst hi; rw [if_pos rfl, ← hb]; exact hat.act.rel i
 ·rw [if_neg hi]; exact hat.act.rel i

theorem aops_guard {ops : Array Oper} {i j : Nat} {rest : List Nat} {o : Oper} {s : St} {K : St → Prop} {t : Tmp} {b want : Bool} (ho : ops[i]? = some o) (hg : o.guard = some (j, want)) (hj : slotOf ops j = some t)
  (hb : look s.env t = .bool b) (h1 : b = want → OpOk P n0 ro o { s with env := (t, .bool want) :: s.env } fun s' => AOps P n0 ro ops rest s' K)
  (h2 : b = !want → AOps P n0 ro ops rest (St.put { s with env := (t, .bool !want) :: s.env } o.dst (.tup [])) K) : AOps P n0 ro ops (i :: rest) s K := by
 intro X k0 k a Q hn hat hk
 rw [wpOpsIn_cons]
 have hy := yielded_eq hat.act hj hb
 simp only [wpOpIn, ho, Region.wanted, hg, hy]
 by_cases hbw : b = want
 ·subst hbw
  simp only [BEq.rfl, if_true]
  exact h1 rfl X k0 k a Q _ hn (hat.know hb) fun k' a' s' hs' hat' _ hd => hs' X k0 k' a' Q hn hat' fun k2 a2 s2 x y z => hk k2 a2 s2 x y ((KeptA.one ho hd).trans z)
 ·have hbn : b = !want := by cases b <;> cases want <;> first | rfl | exact absurd rfl hbw
  have hne : (some b == some want) = false := by cases b <;> cases want <;> first | rfl | exact absurd rfl hbw
  rw [hne]
  simp only [Bool.false_eq_true, if_false]
  refine ⟨fun _ _ => trivial, ?_⟩
  have hat' := hat.know hb
  rw [hbn] at hat'
  refine h2 hbn X k0 k _ Q hn ⟨?_, ?_, hat'.good, hat'.le, hat'.act.put o.dst (.tup _ [] [] rfl (by simp))⟩ fun k2 a2 s2 x y z => hk k2 a2 s2 x y ((KeptA.put ho _ _).trans z)
  ·rw [hat'.h, put_h]
  ·rw [hat'.nid, put_nid]

theorem aops_off {ops : Array Oper} {i j : Nat} {rest : List Nat} {o : Oper} {s : St} {K : St → Prop} {t : Tmp} {want : Bool} (ho : ops[i]? = some o) (hg : o.guard = some (j, want)) (hj : slotOf ops j = some t)
  (hb : look s.env t = .tup []) (h2 : AOps P n0 ro ops rest (St.put s o.dst (.tup [])) K) : AOps P n0 ro ops (i :: rest) s K := by
 intro X k0 k a Q hn hat hk
 rw [wpOpsIn_cons]
 have hy := yielded_off hat.act hj hb
 simp only [wpOpIn, ho, Region.wanted, hg, hy]
 have hne : ((none : Option Bool) == some want) = false := rfl
 rw [hne]
 simp only [Bool.false_eq_true, if_false]
 refine ⟨fun _ _ => trivial, ?_⟩
 refine h2 X k0 k _ Q hn ⟨?_, ?_, hat.good, hat.le, hat.act.put o.dst (.tup _ [] [] rfl (by simp))⟩ fun k2 a2 s2 x y z => hk k2 a2 s2 x y ((KeptA.put ho _ _).trans z)
 ·rw [hat.h, put_h]
 ·rw [hat.nid, put_nid]

theorem awp_region {id : Nat} {ops : Array Oper} {s : St} {Q : Ex → St → Prop} (h : AOps P n0 ro ops (List.range ops.size) s (Q .normal)) : AWp P n0 ro (.region id ops false) s Q :=
 fun X k0 k a hn hat => wpIn_region (h X k0 k a _ hn hat fun k' a' s' hs' hat' _ => ⟨.normal, k', s', rfl, rfl, hs', hat'⟩)


def resD (P : Program) (s : St) : List ResultVar → Option (List D)
 | [] => some []
 | .tmp t :: r =>
  match resD P s r with
  | some ds => some (look s.env t :: ds)
  | none => none
 | .cell a t :: r =>
  match loadAtD P s.h t (look s.env a), resD P s r with
  | some d, some ds => some (d :: ds)
  | _, _ => none

def tupD : List D → D
 | [d] => d
 | ds => .tup ds

def resV (tmps : Array Value) : ResultVar → Sem Value
 | .tmp t => pure (tmps.getD t undef)
 | .cell x t => asAddr (tmps.getD x undef) >>= loadVar t

theorem results_eq (fn : Func) (tmps : Array Value) : results fn tmps = (do
  let vs ← fn.results.mapM (resV tmps)
  pure (if h : vs.size = 1 then vs[0] else .tuple vs)) := by
 unfold results
 congr 2

theorem run_resD {X : Nat → Prop} {k : Cx} {B : Nat} {a : Act} {s : St} (hg : Good X k) (hh : k.h = s.h) (hact : ActOk X k B a s.env s.n) : ∀ (rs : List ResultVar) (ds : List D), resD P s rs = some ds →
  ∃ vs, (rs.mapM (resV a.tmps)).run P k.w = .ok vs k.w ∧ RelL (k.R X) k.nid vs ds
 | [], ds, h => by simp [resD] at h; subst h; exact ⟨[], by simp, rfl, by simp⟩
 | .tmp t :: r, ds, h => by
  simp only [resD] at h
  split at h
  ·rename_i ds' hr
   cases h
   obtain ⟨vs, h1, h2⟩ := run_resD hg hh hact r ds' hr
   refine ⟨a.tmps.getD t undef :: vs, by simp only [List.mapM_cons, resV, Sem.run_bind, Sem.run_pure, Result.andThen_ok, h1], by simp [h2.1], fun i v d hv hd => ?_⟩
   cases i with
   | zero =>
    simp only [List.getElem?_cons_zero, Option.some.injEq] at hv hd; subst hv; subst hd
    exact hact.eval (.tmp t)
   | succ i => exact h2.2 i v d (by simpa using hv) (by simpa using hd)
  ·cases h
 | .cell x t :: r, ds, h => by
  simp only [resD] at h
  split at h
  ·rename_i d ds' hl hr
   cases h
   obtain ⟨vs, h1, h2⟩ := run_resD hg hh hact r ds' hr
   rw [← hh] at hl
   have hx : Rel (k.R X) k.nid (a.tmps.getD x undef) (look s.env x) := hact.eval (.tmp x)
   obtain ⟨u, hu, hru⟩ := run_loadAtD hg hx hl
   obtain ⟨ad, had⟩ : ∃ ad, a.tmps.getD x undef = .pointer (some ad) := by
    cases hq : a.tmps.getD x undef with
    | pointer p =>
     cases p with
     | some ad => exact ⟨ad, rfl⟩
     | none => simp [Instr.loadAt, Instr.sureAddr, hq] at hu
    | _ => simp [Instr.loadAt, Instr.sureAddr, hq] at hu
   rw [had] at hu
   have hu' : (loadVar t ad).run P k.w = .ok u k.w := by simpa [Instr.loadAt, Instr.sureAddr] using hu
   refine ⟨u :: vs, by simp only [List.mapM_cons, resV, Sem.run_bind, Sem.run_pure, Result.andThen_ok, h1, had, asAddr, hu'], by simp [h2.1], fun i v d' hv hd => ?_⟩
   cases i with
   | zero => simp at hv hd; subst hv; subst hd; exact hru
   | succ i => exact h2.2 i v d' (by simpa using hv) (by simpa using hd)
  ·cases h

theorem mapM_array_run {α β : Type} (f : α → Sem β) (xs : Array α) (w : World) {ys : List β} (h : (xs.toList.mapM f).run P w = .ok ys w) : (xs.mapM f).run P w = .ok ys.toArray w := by
 rw [Array.mapM_eq_mapM_toList]
 simp [h]

theorem run_results {X : Nat → Prop} {k : Cx} {B : Nat} {a : Act} {s : St} {fn : Func} (hg : Good X k) (hh : k.h = s.h) (hact : ActOk X k B a s.env s.n) {ds : List D} (h : resD P s fn.results.toList = some ds) :
  ∃ v, (results fn a.tmps).run P k.w = .ok v k.w ∧ Rel (k.R X) k.nid v (tupD ds) := by
 obtain ⟨vs, h1, h2⟩ := run_resD (P := P) hg hh hact fn.results.toList ds h
 have hm := mapM_array_run _ fn.results k.w h1
 refine ⟨if h : vs.length = 1 then vs[0] else .tuple vs.toArray, ?_, ?_⟩
 ·rw [results_eq, Sem.run_bind, hm]
  simp
 ·split
  ·rename_i hl
   obtain ⟨d, rfl⟩ : ∃ d, ds = [d] := by
    have hdl : ds.length = 1 := by rw [← h2.1]; exact hl
    exact List.length_eq_one_iff.1 hdl
   exact h2.2 0 _ _ (List.getElem?_eq_getElem (by omega)) rfl
  ·rename_i hl
   have : tupD ds = .tup ds := by
    have hdl : ds.length ≠ 1 := by rw [← h2.1]; exact hl
    match ds, hdl with
    | [d], h => exact absurd rfl h
    | [], _ => rfl
    | _ :: _ :: _, _ => rfl
   rw [this]
   exact .tup _ _ _ h2.1 h2.2

def endQ (P : Program) (fn : Func) (Q : D → H → Nat → Prop) : Ex → St → Prop
 | .normal, s | .ret, s => ∃ ds, resD P s fn.results.toList = some ds ∧ Q (tupD ds) s.h s.nid
 | _, _ => False

theorem leavesM (fn : Func) (tmps : Array Value) (R : Ending → World → Prop) : ∀ (ms : List Nat) (w : World), ms.Nodup → (∀ r ∈ ms, w.heap[r]? = some (.deferred (some []))) →
  (∀ w' : World, (∀ b, b ∉ ms → w'.heap[b]? = w.heap[b]?) → (∀ b ∈ ms, w'.heap[b]? = some (.deferred none)) → w'.os = w.os → w'.tape = w.tape → w'.output = w.output → w'.heap.size = w.heap.size →
   ∃ v, (results fn tmps).run P w' = .ok v w' ∧ R (.returned v) w') →
  LeavesInM (FW none) 0 P fn tmps R (ms.map markD) .returning w := by
 intro ms
 induction ms with
 | nil =>
  intro w _ _ h
  obtain ⟨v, h1, h2⟩ := h w (fun _ _ => rfl) (by simp) rfl rfl rfl rfl
  exact ⟨v, h1, h2⟩
 | cons r ms ih =>
  intro w hnd hm h
  rw [List.nodup_cons] at hnd
  have hr := hm r (by simp)
  have hlt : r < w.heap.size := by
   rcases Nat.lt_or_ge r w.heap.size with h | h
   ·exact h
   ·rw [Array.getElem?_eq_none h] at hr; cases hr
  refine ⟨by simp, .inl ⟨r, { w with heap := w.heap.setIfInBounds r (.deferred none) }, rfl, ?_, ih _ hnd.2 (fun q hq => ?_) fun w' h1 h2 h3 h4 h5 h6 => h w' (fun b hb => ?_) (fun b hb => ?_) h3 h4 h5 (by simpa using h6)⟩⟩
  ·simp [Instr.takeDeferred, getObj, setObj, Sem.run, hr]
  ·have hne : r ≠ q := fun e => hnd.1 (e ▸ hq)
   simp only [Array.getElem?_setIfInBounds_ne hne]
   exact hm q (by simp [hq])
  ·have hb1 : b ∉ ms := fun e => hb (by simp [e])
   have hne : r ≠ b := fun e => hb (by simp [e])
   rw [h1 b hb1, Array.getElem?_setIfInBounds_ne hne]
  ·rcases List.mem_cons.1 hb with rfl | hb
   ·rw [h1 b hnd.1, Array.getElem?_setIfInBounds_self_of_lt hlt]
   ·exact h2 b hb

theorem good_taken {X : Nat → Prop} {k0 k : Cx} {ms : List Nat} {w' : World} (hg : Good X k) (hle : Le k0 k) (hm : ∀ r ∈ ms, k0.w.heap.size ≤ r ∧ k.w.heap[r]? = some (.deferred (some [])))
  (h1 : ∀ b, b ∉ ms → w'.heap[b]? = k.w.heap[b]?) (h2 : ∀ b ∈ ms, w'.heap[b]? = some (.deferred none)) (hos : w'.os = k.w.os) (htape : w'.tape = k.w.tape) (hout : w'.output = k.w.output)
  (hsize : w'.heap.size = k.w.heap.size) : Good X { k with w := w' } ∧ Le k0 { k with w := w' } ∧ (∀ n, RLe n (k.R X) (Cx.R X { k with w := w' })) := by
 have hnm : ∀ r ∈ ms, ¬ k.Mut r := fun r hr => good_not_mut hg (fun c t f => by rw [(hm r hr).2]; simp) (fun c t => by rw [(hm r hr).2]; simp)
 have hrle : ∀ n, RLe n (k.R X) (Cx.R X { k with w := w' }) := fun n => {
  β := fun _ _ => rfl
  arr := fun b _ m' hm' => ⟨m', hm', Nat.le_refl _, fun _ => rfl⟩
  S := fun b ⟨a1, a2, a3⟩ => ⟨by show b < w'.heap.size; rw [hsize]; exact a1, a2, a3⟩
  heap := fun b o _ => by
   show w'.cell? _ = k.w.cell? _
   by_cases hb : b ∈ ms
   ·simp [World.cell?, h2 b hb, (hm b hb).2]
   ·exact cell_of_heap (h1 b hb)
  map := fun b es c _ he => by
   by_cases hb : b ∈ ms
   ·have := (hm b hb).2; rw [show k.w.heap[b]? = _ from he] at this; cases this
   ·exact (h1 b hb).trans he }
 have hblk : ∀ id b, k.own id = some b → w'.heap[b]? = k.w.heap[b]? := fun id b hb => h1 b fun e => hnm b e ⟨id, hb⟩
 refine ⟨⟨hg.key, hg.inj, fun i b hb => ⟨by show b < w'.heap.size; rw [hsize]; exact (hg.lt i b hb).1, (hg.lt i b hb).2⟩, fun b hb => by show b < w'.heap.size; rw [hsize]; exact hg.xlt b hb, fun id blk hid => ?_⟩, ?_, hrle⟩
 ·have hok := hg.ok id blk hid
  cases blk with
  | box cs =>
   obtain ⟨vs, ty, a1, a2⟩ := hok
   exact ⟨vs, ty, by rw [hblk id _ (by rw [own_of_hget (k := k) hid]; rfl)]; exact a1, a2.1, fun i v d x y => (a2.2 i v d x y).mono (hrle _)⟩
  | arr ty sz es =>
   obtain ⟨a0, a1⟩ := hok
   refine ⟨a0, ?_⟩
   rcases a1 with a1 | ⟨b, off, cap, vs, b1, b2, b3, b4, b5⟩
   ·exact .inl a1
   ·exact .inr ⟨b, off, cap, vs, b1, by rw [hblk id b (by rw [own_of_hget (k := k) hid]; simp only [ownOf]; rw [show k.sv id = _ from b1]; rfl)]; exact b2, b3, b4, fun i e j d v x y z => (b5 i e j d v x y z).mono (hrle _)⟩
  | map kvs =>
   obtain ⟨es, c, es', a1, hp, hk, hn, a2, a3⟩ := hok
   exact ⟨es, c, es', by rw [hblk id _ (by rw [own_of_hget (k := k) hid]; rfl)]; exact a1, hp, hk, hn, ⟨a2.1, fun i v d x y => (a2.2 i v d x y).mono (hrle _)⟩, a3.1, fun i v d x y => (a3.2 i v d x y).mono (hrle _)⟩
 ·exact ⟨hle.nid, hos.trans hle.os, htape.trans hle.tape, hout.trans hle.output, by show _ ≤ w'.heap.size; rw [hsize]; exact hle.size, hle.β, hle.arr,
   fun b hb hn => (h1 b fun e => absurd (hm b e).1 (by omega)).trans (hle.heap b hb hn), hle.mb⟩

def argEnv : Nat → List D → Env
 | _, [] => []
 | i, d :: ds => (i, d) :: argEnv (i + 1) ds

theorem look_argEnv : ∀ (ds : List D) (i j : Nat), look (argEnv i ds) j = if i ≤ j then (match ds[j - i]? with | some d => d | none => .any) else .any
 | [], i, j => by simp [argEnv, look]
 | d :: ds, i, j => by
  simp only [argEnv, look, look_argEnv ds (i + 1) j]
  by_cases h : j = i
  ·subst h; simp
  ·rw [if_neg h]
   by_cases h2 : i ≤ j
   ·rw [if_pos h2, if_pos (by omega)]
    rw [show j - i = (j - (i + 1)) + 1 by omega, List.getElem?_cons_succ]
   ·rw [if_neg h2, if_neg (by omega)]

theorem acall_of_awp {f : FuncId} {fn : Func} {c : Code} {ds : List D} {h : H} {nid : Nat} {Q : D → H → Nat → Prop} (hf : P.funcs[f]? = some fn) (hb : fn.body = some c) (hcal : callable P f = true)
  (hw : AWp P nid none c { env := argEnv 0 ds, h := h, nid := nid, n := ds.length + (fn.ntmps - ds.length) } (endQ P fn Q)) : ACall P f ds h nid Q := by
 refine ⟨hcal, fun X k vs hh hn hg hr => calls_of_callsIn (n := 0) (callsIn_of_wp_marks hf hb trivial ?_ rfl)⟩
 have hat : At X k k { tmps := vs.toArray ++ Array.replicate (fn.ntmps - vs.toArray.size) undef, defers := [] } { env := argEnv 0 ds, h := h, nid := nid, n := ds.length + (fn.ntmps - ds.length) } := by
  refine ⟨hh, hn, hg, .refl k, ⟨by simp [hr.1], fun i => ?_, [], rfl, List.nodup_nil, by simp⟩⟩
  rw [look_argEnv, if_pos (Nat.zero_le _), Nat.sub_zero]
  cases hd : ds[i]? with
  | none => exact .any _ _
  | some d =>
   have hi := lt_of_getElem? hd
   have hv : i < vs.length := by rw [hr.1]; exact hi
   rw [Array.getD_eq_getD_getElem?, Array.getElem?_append_left (by simpa using hv)]
   rw [List.getElem?_toArray, List.getElem?_eq_getElem hv]
   exact hr.2 i _ d (List.getElem?_eq_getElem hv) hd
 refine wpIn_mono (hw X k k _ hn hat) ?_
 rintro e a w ⟨x, k', s, hx, rfl, hq, hat'⟩
 have key : (∃ ds, resD P s fn.results.toList = some ds ∧ Q (tupD ds) s.h s.nid) → LeavesInM (FW none) 0 P fn a.tmps
   (fun e w' => ∃ v k' r, e = Ending.returned v ∧ k'.w = w' ∧ Q r k'.h k'.nid ∧ Good X k' ∧ Le k k' ∧ Rel (k'.R X) k'.nid v r) a.defers .returning k'.w := by
  rintro ⟨rs, hrs, hq⟩
  obtain ⟨ms, hd, hnd, hms⟩ := hat'.act.marks
  rw [hd]
  refine leavesM fn a.tmps _ ms k'.w hnd (fun r hr => (hms r hr).2) fun w' h1 h2 hos htape hout hsize => ?_
  obtain ⟨g1, g2, g3⟩ := good_taken hat'.good hat'.le hms h1 h2 hos htape hout hsize
  have hact : ActOk X { k' with w := w' } 0 { a with defers := [] } s.env s.n := ⟨hat'.act.size, fun i => (hat'.act.rel i).mono (g3 _), [], rfl, List.nodup_nil, by simp⟩
  obtain ⟨v, hv1, hv2⟩ := run_results (P := P) (k := { k' with w := w' }) g1 hat'.h hact hrs
  exact ⟨v, hv1, v, { k' with w := w' }, tupD rs, rfl, rfl, by rw [show ({ k' with w := w' } : Cx).h = s.h from hat'.h, show ({ k' with w := w' } : Cx).nid = s.nid from hat'.nid]; exact hq, g1, g2, hv2⟩
 cases e with
 | normal => simp only [exOf, Option.some.injEq] at hx; subst hx; exact key hq
 | ret => simp only [exOf, Option.some.injEq] at hx; subst hx; exact key hq
 | exit id => simp only [exOf, Option.some.injEq] at hx; subst hx; exact hq.elim
 | _ => simp [exOf] at hx

end
end Go.Sx

/- Sx, part J: contracts of functions of data alone, used in whatever state. Own work. -/
namespace Go.Sx

mutual
def D.flat : D → Bool
 | .int _ _ | .bool _ | .str _ | .nils | .nilp | .nilf | .nili | .nilm | .any => true
 | .agg cs => D.flatL cs
 | .tup cs => D.flatL cs
 | _ => false
def D.flatL : List D → Bool
 | [] => true
 | d :: ds => D.flat d && D.flatL ds
end

theorem D.flatL_get : ∀ {ds : List D}, D.flatL ds = true → ∀ (i : Nat) (d : D), ds[i]? = some d → D.flat d = true
 | [], _, i, d, h => by simp at h
 | x :: xs, hl, 0, d, h => by simp [D.flatL] at hl; simp at h; subst h; exact hl.1
 | x :: xs, hl, i + 1, d, h => by simp [D.flatL] at hl; simp at h; exact D.flatL_get hl.2 i d h

theorem Rel.flat {R R' : Rx} {n m : Nat} {v : Value} {d : D} (h : Rel R n v d) (hf : d.flat = true) : Rel R' m v d := by
 induction h with
 | any => exact .any _ _
 | int => exact .int _ _ _
 | bool => exact .bool _ _
 | str => exact .str _ _
 | agg n vs ds h1 _ ih => exact .agg _ vs ds h1 fun i v d a b => ih i v d a b (D.flatL_get (by simpa [D.flat] using hf) i d b)
 | tup n vs ds h1 _ ih => exact .tup _ vs ds h1 fun i v d a b => ih i v d a b (D.flatL_get (by simpa [D.flat] using hf) i d b)
 | nils => exact .nils _
 | nilp => exact .nilp _
 | nilf => exact .nilf _
 | nili => exact .nili _
 | nilm => exact .nilm _
 | _ => simp [D.flat] at hf

mutual
def view (h : H) : D → D
 | .ptr b o => match hget h b with
  | some (.box cs) => if D.ltL 0 cs then .ref cs o else .any
  | _ => .any
 | .osl b n => match hget h b with
  | some (.arr _ _ es) => if n = es.length then .sl es else .any
  | _ => .any
 | .eptr _ _ _ _ _ => .any
 | .mp b => match hget h b with
  | some (.map kvs) => if D.ltL 0 (kvs.map (·.2)) then .mpd kvs else .any
  | _ => .any
 | .bsl b o l sz => match hget h b with
  | some (.box cs) => if D.ltL 0 cs && Nat.ble (o + l * sz) cs.length then .sl (chunk sz l (cs.drop o)) else .any
  | _ => .any
 | .agg cs => .agg (viewL h cs)
 | .tup cs => .tup (viewL h cs)
 | .fn f a c => .fn f (viewL h a) (viewL h c)
 | .ifc t d => .ifc t (view h d)
 | d => d
def viewL (h : H) : List D → List D
 | [] => []
 | d :: ds => view h d :: viewL h ds
end

theorem viewL_eq (h : H) : ∀ ds, viewL h ds = ds.map (view h)
 | [] => rfl
 | d :: ds => by simp [viewL, viewL_eq h ds]

section
variable {P : Program} {n0 : Nat} {ro : Option Nat} {X : Nat → Prop}

def Cx.sub (k : Cx) : Cx := { k with h := [], nid := 0 }

theorem sub_mut (k : Cx) (b : Nat) : ¬ k.sub.Mut b := fun ⟨id, h⟩ => by simp [Cx.own, Cx.sub, hget, ownOf] at h

theorem good_sub {k : Cx} {X' : Nat → Prop} (hx : ∀ b, X' b → b < k.w.heap.size) : Good X' k.sub where
 key := fun id blk h => by simp [Cx.sub, hget] at h
 inj := fun i j b h => by simp [Cx.own, Cx.sub, hget, ownOf] at h
 lt := fun i b h => by simp [Cx.own, Cx.sub, hget, ownOf] at h
 xlt := hx
 ok := fun id blk h => by simp [Cx.sub, hget] at h

theorem rle_sub (k : Cx) : RLe 0 (k.R X) (k.sub.R X) where
 β := fun b hb => by omega
 arr := fun b hb => by omega
 S := fun b ⟨h1, h2, h3⟩ => ⟨h1, h2, sub_mut k b⟩
 heap := fun _ _ _ => rfl
 map := fun _ _ _ _ h => h

theorem rle_sub' (k : Cx) : RLe 0 (k.R X) (k.sub.R fun b => X b ∨ k.Mut b) where
 β := fun b hb => by omega
 arr := fun b hb => by omega
 S := fun b ⟨h1, h2, h3⟩ => ⟨h1, fun h => h.elim h2 h3, sub_mut k b⟩
 heap := fun _ _ _ => rfl
 map := fun _ _ _ _ h => h

theorem Rel.view {k : Cx} (hg : Good X k) {v : Value} {d : D} (h : Rel (k.R X) k.nid v d) : Rel (k.sub.R X) 0 v (view k.h d) := by
 generalize hR : k.R X = R at h
 generalize hn : k.nid = n at h
 induction h with
 | any => exact .any _ _
 | int => exact .int _ _ _
 | bool => exact .bool _ _
 | str => exact .str _ _
 | agg n vs ds h1 _ ih =>
  subst hn
  simp only [Sx.view, viewL_eq]
  exact .agg _ vs _ (by simp [h1]) fun i v d a b => by
   rw [List.getElem?_map] at b
   cases hd : ds[i]? with
   | none => simp [hd] at b
   | some d' => simp [hd] at b; subst b; exact ih i v d' a hd rfl
 | tup n vs ds h1 _ ih =>
  subst hn
  simp only [Sx.view, viewL_eq]
  exact .tup _ vs _ (by simp [h1]) fun i v d a b => by
   rw [List.getElem?_map] at b
   cases hd : ds[i]? with
   | none => simp [hd] at b
   | some d' => simp [hd] at b; subst b; exact ih i v d' a hd rfl
 | nils => exact .nils _
 | sln => exact .sln _
 | sle n a cap => exact .sle _ a cap
 | sl n b off cap es sz vs h1 h2 h3 h4 h5 h6 _ =>
  subst hR
  exact (Rel.sl (R := k.R X) 0 b off cap es sz vs h1 h2 h3 h4 h5 h6).mono (rle_sub k)
 | ref n b off cs o vs h1 h2 h3 h4 _ =>
  subst hR
  exact (Rel.ref (R := k.R X) 0 b off cs o vs h1 h2 h3 h4).mono (rle_sub k)
 | ptr n b off h1 =>
  subst hR; subst hn
  simp only [Sx.view]
  split
  ·rename_i cs hb
   split
   ·rename_i hpure
    obtain ⟨vs, ty, a1, a2⟩ := hg.ok b _ hb
    have hown : k.own b = some (k.β b) := by rw [own_of_hget hb]; rfl
    have hlt := hg.lt b _ hown
    have := Rel.ref (R := k.sub.R X) 0 (k.β b) 0 cs off (fun j => vs.getD j undef) ⟨hlt.1, hlt.2, sub_mut k _⟩ (fun j d hd => by
     obtain ⟨v, hv, _⟩ := a2.get hd
     show k.w.cell? _ = _
     rw [row_cell a1, Nat.zero_add, hv]; simp [List.getD, hv]) (fun j d hd => by
     obtain ⟨v, hv, hr⟩ := a2.get hd
     have hr' := (hr.roll (m := 0) (D.ltL_get hpure j d hd)).mono (rle_sub k)
     simpa [List.getD, hv] using hr') (D.nmL_lt hpure)
    simpa [Cx.R] using this
   ·exact .any _ _
  ·exact .any _ _
 | osl n b l v h1 h2 =>
  subst hR; subst hn
  simp only [Sx.view]
  split
  ·rename_i ty sz es hb
   split
   ·rename_i hl
    have hv := (h2 es.length (by simp [Cx.R, hb, lnOf])).2 hl
    obtain ⟨a0, a1⟩ := hg.ok b _ hb
    rcases a1 with ⟨a1, a2⟩ | ⟨bb, bo, cap, vs, a1, a2, a3, a4, a5⟩
    ·have : (k.R X).sv b = .slice none 0 0 := a1
     rw [hv, this, a2]; exact .sln _
    ·have hs : (k.R X).sv b = .slice (some ⟨bb, bo, none⟩) es.length cap := a1
     have hown : k.own b = some bb := by rw [own_of_hget hb]; simp [ownOf, a1, slBlk]
     have hlt := hg.lt b _ hown
     rw [hv, hs]
     have hin : ∀ (i : Nat) e (j : Nat) d, es[i]? = some e → e[j]? = some d → bo + (i * sz + j) < vs.length := fun i e j d he hd => by
      refine Nat.lt_of_lt_of_le ?_ a3
      have := (a0 e (List.mem_of_getElem? he)).1
      have := lt_of_getElem? hd
      have := lt_of_getElem? he
      exact Nat.add_lt_add_left (mul_add_lt (by omega) (by omega)) _
     refine .sl _ bb bo cap es sz (fun i j => vs.getD (bo + (i * sz + j)) undef) (.inr ⟨hlt.1, hlt.2, sub_mut k _⟩) a4 (fun e he => (a0 e he).1) (fun i e j d he hd => ?_) (fun i e j d he hd => ?_) (fun e he => (a0 e he).2)
     ·show k.w.cell? _ = _
      rw [row_cell a2, List.getElem?_eq_getElem (hin i e j d he hd)]
      simp [List.getD, List.getElem?_eq_getElem (hin i e j d he hd)]
     ·have hr := a5 i e j d _ he hd (List.getElem?_eq_getElem (hin i e j d he hd))
      have hr' := hr.mono (rle_sub k)
      simpa [List.getD, List.getElem?_eq_getElem (hin i e j d he hd)] using hr'
   ·exact .any _ _
  ·exact .any _ _
 | eptr => exact .any _ _
 | fn n f va vc da dc h1 h2 _ _ i1 i2 =>
  subst hn
  simp only [Sx.view, viewL_eq]
  exact .fn _ f va vc _ _ (by simp [h1]) (by simp [h2]) (fun i v d a b => by
   rw [List.getElem?_map] at b
   cases hd : da[i]? with
   | none => simp [hd] at b
   | some d' => simp [hd] at b; subst b; exact i1 i v d' a hd rfl) (fun i v d a b => by
   rw [List.getElem?_map] at b
   cases hd : dc[i]? with
   | none => simp [hd] at b
   | some d' => simp [hd] at b; subst b; exact i2 i v d' a hd rfl)
 | nilp => exact .nilp _
 | nilf => exact .nilf _
 | nili => exact .nili _
 | nilm => exact .nilm _
 | ifc n t v d _ ih => subst hn; exact .ifc _ t v _ (ih rfl)
 | mp n b h1 =>
  subst hR; subst hn
  simp only [Sx.view]
  split
  ·rename_i kvs hb
   split
   ·rename_i hpure
    obtain ⟨es, c, es', a1, hp, hk, hnm, a2, a3⟩ := hg.ok b _ hb
    have hown : k.own b = some (k.β b) := by rw [own_of_hget hb]; rfl
    have hlt := hg.lt b _ hown
    exact .mpd 0 (k.β b) kvs es es' c ⟨hlt.1, hlt.2, sub_mut k _⟩ a1 hp hk (by simpa using a2.1) (fun i v d x y => (a2.2 i v d x y).mono (rle_sub k))
     (fun i v d x y => ((a3.2 i v d x y).roll (m := 0) (D.ltL_get hpure i d y)).mono (rle_sub k)) hnm
   ·exact .any _ _
  ·exact .any _ _
 | mpd n b kvs es es' c h2 h3 h4 h5 h6 h7 h8 h9 =>
  subst hR
  exact (Rel.mpd (R := k.R X) 0 b kvs es es' c h2 h3 h4 h5 h6 h7 h8 h9).mono (rle_sub k)
 | refm n b off kvs v h1 h2 h3 _ =>
  subst hR
  exact (Rel.refm (R := k.R X) 0 b off kvs v h1 h2 h3).mono (rle_sub k)
 | bsl n b off l cap sz h1 h2 =>
  subst hR; subst hn
  simp only [Sx.view]
  split
  ·rename_i cs hb
   split
   ·rename_i hpure
    simp only [Bool.and_eq_true] at hpure
    have hle : off + l * sz ≤ cs.length := Nat.le_of_ble_eq_true hpure.2
    obtain ⟨vs, ty, a1, a2⟩ := hg.ok b _ hb
    have hown : k.own b = some (k.β b) := by rw [own_of_hget hb]; rfl
    have hlt := hg.lt b _ hown
    have hcell : ∀ (i : Nat) e (j : Nat) d, (chunk sz l (cs.drop off))[i]? = some e → e[j]? = some d → cs[off + (i * sz + j)]? = some d := fun i e j d he hd => by
     rw [chunk_get] at he
     split at he
     ·cases he
      rw [List.getElem?_take] at hd
      split at hd
      ·rw [List.drop_drop, List.getElem?_drop] at hd
       rw [← hd]; congr 1; omega
      ·cases hd
     ·cases he
    have := Rel.sl (R := k.sub.R X) 0 (k.β b) off cap (chunk sz l (cs.drop off)) sz (fun i j => vs.getD (off + (i * sz + j)) undef) (.inr ⟨hlt.1, hlt.2, sub_mut k _⟩) (by rw [chunk_length]; exact h2) (fun e he => by
     obtain ⟨i, hi⟩ := List.getElem?_of_mem he
     rw [chunk_get] at hi
     split at hi
     ·rename_i hil
      cases hi
      rw [List.length_take, List.drop_drop, List.length_drop]
      have := mul_add_lt (i := i) (sz := sz) (cap := l) (j := 0) hil
      rcases Nat.eq_zero_or_pos sz with h0 | h0
      ·omega
      ·have h3 : (i + 1) * sz ≤ l * sz := Nat.mul_le_mul_right _ hil
       rw [Nat.add_mul] at h3; omega
     ·cases hi) (fun i e j d he hd => by
     obtain ⟨v, hv, _⟩ := a2.get (hcell i e j d he hd)
     show k.w.cell? _ = _
     rw [row_cell a1, hv]; simp [List.getD, hv]) (fun i e j d he hd => by
     obtain ⟨v, hv, hr⟩ := a2.get (hcell i e j d he hd)
     have hr' := (hr.roll (m := 0) (D.ltL_get hpure.1 _ d (hcell i e j d he hd))).mono (rle_sub k)
     simpa [List.getD, hv] using hr') (fun e he => by
     obtain ⟨i, hi⟩ := List.getElem?_of_mem he
     refine D.nmL_iff.2 fun d hd => ?_
     obtain ⟨j, hj⟩ := List.getElem?_of_mem hd
     exact D.nmL_get (D.nmL_lt hpure.1) _ d (hcell i e j d hi hj))
    rw [chunk_length] at this
    simpa [Cx.R] using this
   ·exact .any _ _
  ·exact .any _ _
 | raw => exact .raw _ _

theorem acall_borrow {f : FuncId} {ds : List D} {r : D} {h : H} {nid : Nat} (hp : Pure P f (ds.map (view h)) r) (hr : r.flat = true) :
  ACall P f ds h nid fun r' h' nid' => r' = r ∧ h' = h ∧ nid' = nid := by
 refine ⟨hp.1, fun X k vs hh hn hg hrel => ?_⟩
 subst hh; subst hn
 refine (hp.2 X k.sub vs rfl rfl (good_sub hg.xlt) ⟨by simp [hrel.1], fun i v d a b => ?_⟩).mono ?_
 ·rw [List.getElem?_map] at b
  cases hd : ds[i]? with
  | none => simp [hd] at b
  | some d' => simp [hd] at b; subst b; exact (hrel.2 i v d' a hd).view hg
 ·rintro e w' ⟨v, kc, r', rfl, rfl, rfl, hgc, hlec, hrc⟩
  have hheap : ∀ b, b < k.w.heap.size → kc.w.heap[b]? = k.w.heap[b]? := fun b hb => hlec.heap b hb (sub_mut k b)
  have hle : Le k { k with w := kc.w } := le_world hlec.os hlec.tape hlec.output hlec.size hheap
  exact ⟨v, { k with w := kc.w }, r', rfl, rfl, ⟨rfl, rfl, rfl⟩, hg.world hle hheap, hle, hrc.flat hr⟩

mutual
def D.fr : D → Bool
 | .ptr _ _ | .osl _ _ | .eptr _ _ _ _ _ | .mp _ | .bsl _ _ _ _ => false
 | .agg cs => D.frL cs
 | .tup cs => D.frL cs
 | .fn _ f c => D.frL f && D.frL c
 | .ifc _ d => D.fr d
 | _ => true
def D.frL : List D → Bool
 | [] => true
 | d :: ds => D.fr d && D.frL ds
end

mutual
theorem D.fr_lt : ∀ {d : D}, D.lt 0 d = true → D.fr d = true
 | .agg cs, h => D.frL_lt (ds := cs) (by simpa [D.lt] using h)
 | .tup cs, h => D.frL_lt (ds := cs) (by simpa [D.lt] using h)
 | .fn _ f c, h => by
  have h' : D.ltL 0 f = true ∧ D.ltL 0 c = true := by simpa [D.lt] using h
  simp only [D.fr, D.frL_lt h'.1, D.frL_lt h'.2, Bool.and_self]
 | .ifc _ d, h => D.fr_lt (d := d) (by simpa [D.lt] using h)
 | .ptr _ _, h | .osl _ _, h | .eptr _ _ _ _ _, h | .mp _, h | .bsl _ _ _ _, h => by simp [D.lt] at h
 | .any, _ | .int _ _, _ | .bool _, _ | .str _, _ | .nils, _ | .sl _, _ | .ref _ _, _ | .nilp, _ | .nilf, _ | .nili, _ | .nilm, _ | .mpd _, _ | .refm _, _ | .raw _, _ => rfl
theorem D.frL_lt : ∀ {ds : List D}, D.ltL 0 ds = true → D.frL ds = true
 | [], _ => rfl
 | d :: ds, h => by
  have h' : D.lt 0 d = true ∧ D.ltL 0 ds = true := by simpa [D.ltL] using h
  simp only [D.frL, D.fr_lt h'.1, D.frL_lt h'.2, Bool.and_self]
end

theorem D.frL_get : ∀ {ds : List D}, D.frL ds = true → ∀ (i : Nat) (d : D), ds[i]? = some d → D.fr d = true
 | [], _, i, d, h => by simp at h
 | x :: xs, hl, 0, d, h => by simp [D.frL] at hl; simp at h; subst h; exact hl.1
 | x :: xs, hl, i + 1, d, h => by simp [D.frL] at hl; simp at h; exact D.frL_get hl.2 i d h

theorem Rel.free {R : Rx} {n m : Nat} {v : Value} {d : D} (h : Rel R n v d) (hl : d.fr = true) : Rel R m v d := by
 induction h with
 | any => exact .any _ _
 | int => exact .int _ _ _
 | bool => exact .bool _ _
 | str => exact .str _ _
 | agg n vs ds h1 _ ih => exact .agg _ vs ds h1 fun i v d a b => ih i v d a b (D.frL_get (by simpa [D.fr] using hl) i d b)
 | tup n vs ds h1 _ ih => exact .tup _ vs ds h1 fun i v d a b => ih i v d a b (D.frL_get (by simpa [D.fr] using hl) i d b)
 | nils => exact .nils _
 | sln => exact .sln _
 | sle n a cap => exact .sle _ a cap
 | sl n b off cap es sz vs h1 h2 h3 h4 h5 h6 _ => exact .sl _ b off cap es sz vs h1 h2 h3 h4 h5 h6
 | ref n b off cs o vs h1 h2 h3 h4 _ => exact .ref _ b off cs o vs h1 h2 h3 h4
 | fn n f va vc da dc h1 h2 _ _ i1 i2 =>
  have hl' : D.frL da = true ∧ D.frL dc = true := by simpa [D.fr] using hl
  exact .fn _ f va vc da dc h1 h2 (fun i v d a b => i1 i v d a b (D.frL_get hl'.1 i d b)) (fun i v d a b => i2 i v d a b (D.frL_get hl'.2 i d b))
 | nilp => exact .nilp _
 | nilf => exact .nilf _
 | nili => exact .nili _
 | nilm => exact .nilm _
 | ifc n t v d _ ih => exact .ifc _ t v d (ih (by simpa [D.fr] using hl))
 | mpd n b kvs es es' c h2 h3 h4 h5 h6 h7 h8 h9 => exact .mpd _ b kvs es es' c h2 h3 h4 h5 h6 h7 h8 h9
 | refm n b off kvs v h1 h2 h3 _ => exact .refm _ b off kvs v h1 h2 h3
 | raw => exact .raw _ _
 | _ => simp [D.fr] at hl

mutual
theorem view_free (h : H) : ∀ {d : D}, d.fr = true → view h d = d
 | .any, _ => rfl
 | .int _ _, _ => rfl
 | .bool _, _ => rfl
 | .str _, _ => rfl
 | .agg cs, hl => by simp only [view, viewL_free h (show D.frL cs = true from hl)]
 | .tup cs, hl => by simp only [view, viewL_free h (show D.frL cs = true from hl)]
 | .nils, _ => rfl
 | .sl _, _ => rfl
 | .ref _ _, _ => rfl
 | .fn f a c, hl => by
  have hl' : D.frL a = true ∧ D.frL c = true := by simpa [D.fr] using hl
  simp only [view, viewL_free h hl'.1, viewL_free h hl'.2]
 | .nilp, _ => rfl
 | .nilf, _ => rfl
 | .nili, _ => rfl
 | .nilm, _ => rfl
 | .mpd _, _ => rfl
 | .refm _, _ => rfl
 | .ifc t d, hl => by simp only [view, view_free h (show d.fr = true from hl)]
 | .raw _, _ => rfl
 | .ptr _ _, hl | .osl _ _, hl | .eptr _ _ _ _ _, hl | .mp _, hl | .bsl _ _ _ _, hl => by simp [D.fr] at hl
theorem viewL_free (h : H) : ∀ {ds : List D}, D.frL ds = true → viewL h ds = ds
 | [], _ => rfl
 | d :: ds, hl => by
  have hl' : d.fr = true ∧ D.frL ds = true := by simpa [D.frL] using hl
  simp only [viewL, view_free h hl'.1, viewL_free h hl'.2]
end

theorem acall_free {f : FuncId} {ds : List D} {r : D} {h : H} {nid : Nat} (hp : Pure P f ds r) (hds : D.frL ds = true) (hr : r.fr = true) :
  ACall P f ds h nid fun r' h' nid' => r' = r ∧ h' = h ∧ nid' = nid := by
 refine ⟨hp.1, fun X k vs hh hn hg hrel => ?_⟩
 subst hh; subst hn
 refine (hp.2 (fun b => X b ∨ k.Mut b) k.sub vs rfl rfl (good_sub fun b hb => hb.elim (hg.xlt b) fun ⟨i, hi⟩ => (hg.lt i b hi).1) ⟨hrel.1, fun i v d a b => ?_⟩).mono ?_
 ·exact ((hrel.2 i v d a b).free (m := 0) (D.frL_get hds i d b)).mono (rle_sub' k)
 ·rintro e w' ⟨v, kc, r', rfl, rfl, rfl, hgc, hlec, hrc⟩
  have hheap : ∀ b, b < k.w.heap.size → kc.w.heap[b]? = k.w.heap[b]? := fun b hb => hlec.heap b hb (sub_mut k b)
  have hle : Le k { k with w := kc.w } := le_world hlec.os hlec.tape hlec.output hlec.size hheap
  refine ⟨v, { k with w := kc.w }, r', rfl, rfl, ⟨rfl, rfl, rfl⟩, hg.world hle hheap, hle, ?_⟩
  have hroll := (hrc.free (m := 0) hr).mono (R' := Cx.R X { k with w := kc.w }) {
   β := fun b hb => by omega
   arr := fun b hb => by omega
   S := fun b ⟨h1, h2, h3⟩ => ⟨h1, fun hx => h2 (.inl hx), fun hm => h2 (.inr hm)⟩
   heap := fun _ _ _ => rfl
   map := fun _ _ _ _ h => h }
  exact hroll.weak (Nat.zero_le _)

theorem acall_pure {f : FuncId} {ds : List D} {r : D} {h : H} {nid : Nat} (hp : Pure P f ds r) (hds : D.ltL 0 ds = true) (hr : r.lt 0 = true) :
  ACall P f ds h nid fun r' h' nid' => r' = r ∧ h' = h ∧ nid' = nid := acall_free hp (D.frL_lt hds) (D.fr_lt hr)

theorem opOk_borrow {o : Oper} {c : Call} {s : St} {K : St → Prop} {f : FuncId} {ds : List D} {r : D} (ho : o.op = .call c) (hcal : calleeD s.env c = some (f, ds))
  (hp : Pure P f (ds.map (view s.h)) r) (hr : r.flat = true) (hK : K (s.put o.dst r)) : OpOk P n0 ro o s K :=
 opOk_call ho hcal ((acall_borrow hp hr).mono fun _ _ _ ⟨h1, h2, h3⟩ => by subst h1; subst h2; subst h3; exact hK)

theorem opOk_pure {o : Oper} {c : Call} {s : St} {K : St → Prop} {f : FuncId} {ds : List D} {r : D} (ho : o.op = .call c) (hcal : calleeD s.env c = some (f, ds))
  (hp : Pure P f ds r) (hds : D.ltL 0 ds = true) (hr : r.lt 0 = true) (hK : K (s.put o.dst r)) : OpOk P n0 ro o s K :=
 opOk_call ho hcal ((acall_pure hp hds hr).mono fun _ _ _ ⟨h1, h2, h3⟩ => by subst h1; subst h2; subst h3; exact hK)

theorem opOk_free {o : Oper} {c : Call} {s : St} {K : St → Prop} {f : FuncId} {ds : List D} {r : D} (ho : o.op = .call c) (hcal : calleeD s.env c = some (f, ds))
  (hp : Pure P f ds r) (hds : D.frL ds = true) (hr : r.fr = true) (hK : K (s.put o.dst r)) : OpOk P n0 ro o s K :=
 opOk_call ho hcal ((acall_free hp hds hr).mono fun _ _ _ ⟨h1, h2, h3⟩ => by subst h1; subst h2; subst h3; exact hK)

theorem pure_of_awp {f : FuncId} {fn : Func} {c : Code} {ds : List D} {r : D} (hf : P.funcs[f]? = some fn) (hb : fn.body = some c) (hcal : callable P f = true)
  (hw : AWp P 0 none c { env := argEnv 0 ds, h := [], nid := 0, n := ds.length + (fn.ntmps - ds.length) } (endQ P fn fun d h _ => view h d = r)) : Pure P f ds r := by
 have h1 := acall_of_awp hf hb hcal hw
 refine ⟨hcal, fun X k vs hh hn hg hrel => (h1.2 X k vs hh hn hg hrel).mono ?_⟩
 rintro e w' ⟨v, k', r', rfl, rfl, rfl, hg', hle, hr'⟩
 refine ⟨v, k'.sub, _, rfl, rfl, rfl, good_sub hg'.xlt, ?_, hr'.view hg'⟩
 exact hle.drop (by omega) (fun id blk h => by simp [hget] at h)

end
end Go.Sx

/- Sx, part K: conditions to be proved, out of code, and that they suffice. Own work. -/
namespace Go.Sx

def BR (t : Bool) (p q : Prop) : Prop := (t = true → p) ∧ (t = false → q)

def callK (P : Program) (o : Oper) (s : St) (K : St → Prop) : Prop :=
 match o.op with
 | .call c =>
  match calleeD s.env c with
  | some (f, ds) => ACall P f ds s.h s.nid fun r h' nid' => K (St.put { s with h := h', nid := nid' } o.dst r)
  | none => False
 | _ => False

def effK (P : Program) (o : Oper) (s : St) (K : St → Prop) : Prop :=
 match opF P o.op (evO s.env) s.h s.nid with
 | some (d, h', nid') => K (St.put { s with h := h', nid := nid' } o.dst d)
 | none => False

def readK (P : Program) (o : Oper) (s : St) (K : St → Prop) : Prop :=
 match opR P o.op (evO s.env) s.h with
 | some d => K (s.put o.dst d)
 | none => False

inductive Kind where
 | read
 | eff
 | call

def kindOf (op : Op) : Kind :=
 match op with
 | .alloc _ | .box _ _ | .store _ _ _ | .buildSlice _ _ _ => .eff
 | .call c =>
  match c.callee with
  | .builtin .append => .eff
  | .builtin _ => .read
  | _ => .call
 | _ => .read

def stepK (P : Program) (o : Oper) (s : St) (K : St → Prop) : Prop :=
 match kindOf o.op with
 | .read => readK P o s K
 | .eff => effK P o s K
 | .call => callK P o s K

def vcOps (P : Program) (ops : Array Oper) : List Oper → St → (St → Prop) → Prop
 | [], s, K => K s
 | o :: rest, s, K =>
  match o.guard with
  | none => stepK P o s fun s' => vcOps P ops rest s' K
  | some (j, want) =>
   match slotOf ops j with
   | some t =>
    match look s.env t with
    | .bool b => BR (b == want) (stepK P o { s with env := (t, .bool want) :: s.env } fun s' => vcOps P ops rest s' K)
      (vcOps P ops rest (St.put { s with env := (t, .bool !want) :: s.env } o.dst (.tup [])) K)
    | _ => False
   | none => False

def AWpL (P : Program) (n0 : Nat) (ro : Option Nat) (c : Code) (s : St) (Q : Ex → St → Prop) : Prop := AWp P n0 ro c s Q

def vc (P : Program) (n0 : Nat) (ro : Option Nat) : Code → St → (Ex → St → Prop) → Prop
 | .skip, s, Q => Q .normal s
 | .label _, s, Q => Q .normal s
 | .exit id, s, Q => Q (.exit id) s
 | .ret, s, Q => Q .ret s
 | .seq a b, s, Q => vc P n0 ro a s (thenQ (fun s' => vc P n0 ro b s' Q) Q)
 | .cond c a b, s, Q =>
  match evO s.env c with
  | .bool t => BR t (vc P n0 ro a s Q) (vc P n0 ro b s Q)
  | _ => False
 | .block id c, s, Q => vc P n0 ro c s (blockQ id Q)
 | .region id ops false, s, Q => vcOps P ops ops.toList s (Q .normal)
 | c, s, Q => AWpL P n0 ro c s Q

section
variable {P : Program} {n0 : Nat} {ro : Option Nat}

theorem OpOk.mono {o : Oper} {s : St} {K K' : St → Prop} (h : OpOk P n0 ro o s K) (hk : ∀ s, K s → K' s) : OpOk P n0 ro o s K' :=
 fun X k0 k a Q Kc hn hat hkc => h X k0 k a Q Kc hn hat fun k' a' s' hs hat' hl hd => hkc k' a' s' (hk s' hs) hat' hl hd

end
end Go.Sx

/- Sx, part L: rules by which conditions are computed. Own work. -/
namespace Go.Sx

def F {α : Type} (x : α) (K : α → Prop) : Prop := K x

@[congr] theorem F_congr {α : Type} {x y : α} {K : α → Prop} (h : x = y) : F x K = F y K := by rw [h]

theorem F_eq {α : Type} (x : α) (K : α → Prop) : F x K = K x := (rfl)

@[congr] theorem AWpL_congr {P : Program} {n0 : Nat} {ro : Option Nat} {c : Code} {s : St} {Q : Ex → St → Prop} : AWpL P n0 ro c s Q = AWpL P n0 ro c s Q := (rfl)

@[congr] theorem ACall_congr {P : Program} {f : FuncId} {ds ds' : List D} {h : H} {nid : Nat} {Q : D → H → Nat → Prop} (hd : ds = ds') : ACall P f ds h nid Q = ACall P f ds' h nid Q := by rw [hd]

def optK {α : Type} (o : Option α) (K : α → Prop) : Prop :=
 match o with
 | some d => K d
 | none => False

@[congr] theorem optK_congr {α : Type} {x y : Option α} {K : α → Prop} (h : x = y) : optK x K = optK y K := by rw [h]

section
variable {P : Program} {n0 : Nat} {ro : Option Nat} {ops : Array Oper}

def condK (d : D) (p q : Prop) : Prop :=
 match d with
 | .bool t => BR t p q
 | _ => False

@[congr] theorem condK_congr {x y : D} {p q : Prop} (h : x = y) : condK x p q = condK y p q := by rw [h]

theorem vc_cond (c : Operand) (a b : Code) (s : St) (Q : Ex → St → Prop) : vc P n0 ro (.cond c a b) s Q = condK (evO s.env c) (vc P n0 ro a s Q) (vc P n0 ro b s Q) := (rfl)
@[congr] theorem BR_congr {t u : Bool} {p q : Prop} (h : t = u) : BR t p q = BR u p q := by rw [h]
theorem BR_true (p q : Prop) : BR true p q = p := by simp [BR]
theorem BR_false (p q : Prop) : BR false p q = q := by simp [BR]

theorem thenQ_normal (K : St → Prop) (Q : Ex → St → Prop) (s : St) : thenQ K Q .normal s = K s := (rfl)
theorem thenQ_exit (K : St → Prop) (Q : Ex → St → Prop) (i : Nat) (s : St) : thenQ K Q (.exit i) s = Q (.exit i) s := (rfl)
theorem thenQ_ret (K : St → Prop) (Q : Ex → St → Prop) (s : St) : thenQ K Q .ret s = Q .ret s := (rfl)
theorem blockQ_normal (id : Nat) (Q : Ex → St → Prop) (s : St) : blockQ id Q .normal s = Q .normal s := (rfl)
theorem blockQ_exit_same (id : Nat) (Q : Ex → St → Prop) (s : St) : blockQ id Q (.exit id) s = Q .normal s := by simp [blockQ]
theorem blockQ_exit_ne (id i : Nat) (Q : Ex → St → Prop) (s : St) (h : i ≠ id) : blockQ id Q (.exit i) s = Q (.exit i) s := by simp [blockQ, h]
theorem blockQ_ret (id : Nat) (Q : Ex → St → Prop) (s : St) : blockQ id Q .ret s = Q .ret s := (rfl)

def guardK (d : D) (want : Bool) (p q : Prop) : Prop :=
 match d with
 | .bool b => BR (b == want) p q
 | _ => False

@[congr] theorem guardK_congr {x y : D} {w : Bool} {p q : Prop} (h : x = y) : guardK x w p q = guardK y w p q := by rw [h]
theorem guardK_true (p q : Prop) : guardK (.bool true) true p q = p := by simp [guardK, BR]
def slotK (o : Option Tmp) (K : Tmp → Prop) : Prop :=
 match o with
 | some t => K t
 | none => False
@[congr] theorem slotK_congr {x y : Option Tmp} {K : Tmp → Prop} (h : x = y) : slotK x K = slotK y K := by rw [h]
theorem slotK_some (t : Tmp) (K : Tmp → Prop) : slotK (some t) K = K t := (rfl)

theorem slotOf_zero (o : Oper) (l : List Oper) : slotOf (o :: l).toArray 0 = o.dst := by simp [slotOf]
theorem slotOf_succ (o : Oper) (l : List Oper) (j : Nat) : slotOf (o :: l).toArray (j + 1) = slotOf l.toArray j := by simp [slotOf]

def pickD (c a b : D) : Option D :=
 match c with
 | .bool t => some (if t then a else b)
 | _ => none
def nilCheckD : D → Option D
 | .ptr b o => some (.ptr b o)
 | .ref cs o => some (.ref cs o)
 | .refm kvs => some (.refm kvs)
 | .fn (.func f) a c => some (.fn (.func f) a c)
 | .fn (.yield f) a c => some (.fn (.yield f) a c)
 | _ => none
def negD : D → Option D
 | .int k n => some (.int k (k.wrap (0 - n)))
 | _ => none
def notD : D → Option D
 | .bool b => some (.bool (!b))
 | _ => none
def convD (P : Program) (h : H) (s d : TypeId) (x : D) : Option D :=
 match strD P h s d x with
 | some r => some r
 | none =>
  match P.underlying s, P.underlying d, x with
  | some _, some (.int k), .int _ n => some (.int k (k.wrap n))
  | _, _, _ => none
def extractD (i : Nat) : D → Option D
 | .tup vs => vs[i]?
 | _ => none
def ifaceD (P : Program) (t : TypeId) (x : D) : Option D :=
 match P.underlying t with
 | some (.interface _) => none
 | some _ => some (.ifc t x)
 | none => none
def fieldAddrD (P : Program) (h : H) (t : TypeId) (f : Nat) (x : D) : Option D :=
 match fieldOff P t f with
 | some o => atOff h o x
 | none => none
def fieldD (P : Program) (t : TypeId) (f : Nat) (x : D) : Option D :=
 match fieldTy P t f, x with
 | some (ty, o), .agg cs => partD P ty cs o
 | _, _ => none
def lenOpD (P : Program) (h : H) (t : TypeId) (x : D) : Option D :=
 match P.underlying t with
 | some (.slice _) => lenD h x
 | some .string => match x with
  | .str s => some (.int .i64 s.size)
  | _ => none
 | some (.array n _) => some (.int .i64 n)
 | some (.map _ _) =>
  match x with
  | .mp b => match hget h b with
   | some (.map kvs) => some (.int .i64 kvs.length)
   | _ => none
  | .mpd kvs => some (.int .i64 kvs.length)
  | .nilm => some (.int .i64 0)
  | _ => none
 | _ => none
def maxOpD : List D → Option D
 | .int k a :: r => maxL k a r
 | _ => none
def minOpD : List D → Option D
 | .int k a :: r => minL k a r
 | _ => none
def litOpD (P : Program) (h : H) (nid : Nat) (t : TypeId) (len : Nat) (parts : List (Nat × D)) : Option (D × H × Nat) :=
 match litSl P h t len parts with
 | some (e, sz, es) => if es.all (D.ltL 0) then some (.osl nid len, (nid, .arr e sz es) :: h, nid + 1) else none
 | none => none
def allocD (P : Program) (h : H) (nid : Nat) (t : TypeId) : Option (D × H × Nat) :=
 match zeroD P t with
 | some zs => some (.ptr nid 0, (nid, .box zs) :: h, nid + 1)
 | none => none
def boxD (h : H) (nid : Nat) (x : D) : Option (D × H × Nat) :=
 match cellsE h x with
 | some cs => some (.ptr nid 0, (nid, .box cs) :: h, nid + 1)
 | none => none

def storeD (P : Program) (h : H) (nid : Nat) (t : TypeId) (p x : D) : Option (D × H × Nat) :=
 match p, cellsE h x, sizeT P t with
 | .ptr b o, some ds, some n =>
  match hget h b with
  | some (.box cs) => if ds.length = n ∧ o + n ≤ cs.length ∧ ds.all (curD h) then some (.any, hset h b (.box (putL cs o ds)), nid) else none
  | _ => none
 | .eptr b l sz i o, some ds, some n =>
  match hget h b with
  | some (.arr ty sz' es) =>
   if ds.length = n ∧ o + n ≤ sz ∧ l = es.length ∧ sz = sz' ∧ ds.all (curD h) ∧ D.ltL 0 ds then
    match es[i]? with
    | some c => some (.any, hset h b (.arr ty sz (es.set i (putL c o ds))), nid)
    | none => none
   else none
  | _ => none
 | _, _, _ => none

variable (d : Option Tmp) (ty : TypeId) (pos : String) (after : Array Edge) (g : Option (Nat × Bool)) (s : St) (K : St → Prop)

def calleeK (v : D) (x : List D) (K : FuncId → List D → Prop) : Prop :=
 match v with
 | .fn (.func f) first cap => K f (first ++ x ++ cap)
 | _ => False
@[congr] theorem calleeK_congr {v v' : D} {x : List D} {K : FuncId → List D → Prop} (h : v = v') : calleeK v x K = calleeK v' x K := by rw [h]
theorem calleeK_fn (f : FuncId) (first cap x : List D) (K : FuncId → List D → Prop) : calleeK (.fn (.func f) first cap) x K = K f (first ++ x ++ cap) := (rfl)
theorem look_same (t : Nat) (d : D) (e : Env) : look ((t, d) :: e) t = d := by simp [look]
theorem look_ne (i t : Nat) (d : D) (e : Env) (h : t ≠ i) : look ((i, d) :: e) t = look e t := by simp [look, h]
theorem put_some (env : Env) (h : H) (nid n t : Nat) (d : D) (hlt : t < n) : St.put ⟨env, h, nid, n⟩ (some t) d = ⟨(t, d) :: env, h, nid, n⟩ := by simp [St.put, hlt]
theorem put_none (s : St) (d : D) : St.put s none d = s := (rfl)
theorem evO_tmp (e : Env) (t : Nat) : evO e (.tmp t) = look e t := (rfl)
theorem evO_const (e : Env) (v : Value) : evO e (.const v) = vD v := (rfl)
theorem evO_func (e : Env) (f : FuncId) : evO e (.func f) = .fn (.func f) [] [] := (rfl)
theorem vD_int (k : IntKind) (n : Int) : vD (.int k n) = .int k n := (rfl)
theorem vD_bool (b : Bool) : vD (.bool b) = .bool b := (rfl)
theorem vD_string (s : ByteArray) : vD (.string s) = .str s := (rfl)
theorem vD_nils : vD (.slice none 0 0) = .nils := (rfl)
theorem vD_nilp : vD (.pointer none) = .nilp := (rfl)

theorem hget_same (i : Nat) (b : Blk) (r : H) : hget ((i, b) :: r) i = some b := by simp [hget]
theorem hget_ne (i k : Nat) (b : Blk) (r : H) (h : k ≠ i) : hget ((i, b) :: r) k = hget r k := by simp [hget, h]
theorem hset_same (i : Nat) (b0 b : Blk) (r : H) : hset ((i, b0) :: r) i b = (i, b) :: r := by simp [hset]
theorem hset_ne (i k : Nat) (b0 b : Blk) (r : H) (h : k ≠ i) : hset ((i, b0) :: r) k b = (i, b0) :: hset r k b := by simp [hset, h]

theorem call_borrow {f : FuncId} {ds ds' : List D} {h : H} {nid : Nat} {K : D → H → Nat → Prop} {r : D} (hp : Pure P f ds' r) (hds : viewL h ds = ds') (hr : r.flat = true) (hK : K r h nid) : ACall P f ds h nid K := by
 subst hds
 rw [viewL_eq] at hp
 exact (acall_borrow hp hr).mono fun _ _ _ ⟨h1, h2, h3⟩ => by subst h1; subst h2; subst h3; exact hK

theorem call_free {f : FuncId} {ds ds' : List D} {h : H} {nid : Nat} {K : D → H → Nat → Prop} {r : D} (hp : Pure P f ds' r) (hds : ds = ds') (hl : D.frL ds = true) (hr : r.fr = true) (hK : K r h nid) : ACall P f ds h nid K := by
 subst hds
 exact (acall_free hp hl hr).mono fun _ _ _ ⟨h1, h2, h3⟩ => by subst h1; subst h2; subst h3; exact hK

theorem call_pure {f : FuncId} {ds ds' : List D} {h : H} {nid : Nat} {K : D → H → Nat → Prop} {r : D} (hp : Pure P f ds' r) (hds : ds = ds') (hl : D.ltL 0 ds = true) (hr : r.lt 0 = true) (hK : K r h nid) : ACall P f ds h nid K := by
 subst hds
 exact (acall_pure hp hl hr).mono fun _ _ _ ⟨h1, h2, h3⟩ => by subst h1; subst h2; subst h3; exact hK

end
end Go.Sx

/- Sx, part M: regions that draw their order: operations that may come at any time. Own work. -/
namespace Go.Sx

section
variable {P : Program} {n0 : Nat} {ro : Option Nat}

theorem callQ_congr {c : Call} {ρ ρ' : Operand → D} {h : H} (he : ∀ x ∈ c.args.toList, ρ x = ρ' x) : callQ P c ρ h = callQ P c ρ' h := by
 obtain ⟨callee, args, argTypes⟩ := c
 dsimp only at he
 unfold callQ
 dsimp only
 generalize args.toList = l at he
 cases callee with
 | builtin b =>
  cases b <;> try rfl
  ·cases l with
   | nil => rfl
   | cons x xs =>
    cases xs with
    | nil =>
     generalize argTypes.toList = ts
     match ts with
     | [t] => simp only [he x (by simp)]
     | [] => rfl
     | _ :: _ :: _ => rfl
    | cons y ys => rfl
  ·cases l with
   | nil => rfl
   | cons x xs => simp only [he x (by simp), List.map_congr_left (fun y hy => he y (List.mem_cons_of_mem _ hy))]
  ·cases l with
   | nil => rfl
   | cons x xs => simp only [he x (by simp), List.map_congr_left (fun y hy => he y (List.mem_cons_of_mem _ hy))]
 | _ => rfl

theorem opQ_congr {op : Op} {ρ ρ' : Operand → D} {h : H} (he : ∀ x ∈ op.operands.toList, ρ x = ρ' x) : opQ P op ρ h = opQ P op ρ' h := by
 cases op with
 | call c =>
  refine callQ_congr fun x hx => he x ?_
  simp only [Op.operands, Call.operands, Array.toList_append, List.mem_append]
  exact .inr hx
 | slice t x lo hi m =>
  cases m with
  | none =>
   have h1 : ρ x = ρ' x := he x (by simp [Op.operands])
   have h2 : lo.map ρ = lo.map ρ' := by
    cases lo with
    | none => rfl
    | some y => simp only [Option.map_some]; rw [he y (by simp [Op.operands])]
   have h3 : hi.map ρ = hi.map ρ' := by
    cases hi with
    | none => rfl
    | some y => simp only [Option.map_some]; rw [he y (by simp [Op.operands])]
   simp only [opQ, h1, h2, h3]
  | some m => rfl
 | makeFunc fn f c =>
  have h1 : f.toList.map ρ = f.toList.map ρ' := List.map_congr_left fun x hx => he x (by simp only [Op.operands, Array.toList_append, List.mem_append]; exact .inl hx)
  have h2 : c.toList.map ρ = c.toList.map ρ' := List.map_congr_left fun x hx => he x (by simp only [Op.operands, Array.toList_append, List.mem_append]; exact .inr hx)
  simp only [opQ, h1, h2]
 | unOp u t x => cases u <;> simp only [opQ] <;> simp only [he x (by simp [Op.operands])]
 | move x => simp only [opQ]; rw [he x (by simp [Op.operands])]
 | assign x => simp only [opQ]; rw [he x (by simp [Op.operands])]
 | pick c x y => simp only [opQ]; rw [he c (by simp [Op.operands]), he x (by simp [Op.operands]), he y (by simp [Op.operands])]
 | nilCheck x => simp only [opQ]; rw [he x (by simp [Op.operands])]
 | binOp b t x y u => simp only [opQ]; rw [he x (by simp [Op.operands]), he y (by simp [Op.operands])]
 | convert s d x => simp only [opQ]; rw [he x (by simp [Op.operands])]
 | extract x i => simp only [opQ]; rw [he x (by simp [Op.operands])]
 | makeInterface t x => simp only [opQ]; rw [he x (by simp [Op.operands])]
 | fieldAddr t x f => simp only [opQ]; rw [he x (by simp [Op.operands])]
 | field t x f => simp only [opQ]; rw [he x (by simp [Op.operands])]
 | index t x y => simp only [opQ]; rw [he x (by simp [Op.operands]), he y (by simp [Op.operands])]
 | indexAddr t x y => simp only [opQ]; rw [he x (by simp [Op.operands]), he y (by simp [Op.operands])]
 | load t x => simp only [opQ]; rw [he x (by simp [Op.operands])]
 | lookup t x y ok => simp only [opQ]; rw [he x (by simp [Op.operands]), he y (by simp [Op.operands])]
 | _ => rfl

theorem parts_congr {ps : Array (Nat × Operand)} {ρ ρ' : Operand → D} (he : ∀ x ∈ (ps.toList.map (·.2)), ρ x = ρ' x) :
  (ps.toList.map fun p => (p.1, ρ p.2)) = ps.toList.map fun p => (p.1, ρ' p.2) :=
 List.map_congr_left fun p hp => by rw [he p.2 (List.mem_map_of_mem hp)]

theorem opR_congr {op : Op} {ρ ρ' : Operand → D} {h : H} (he : ∀ x ∈ op.operands.toList, ρ x = ρ' x) : opR P op ρ h = opR P op ρ' h := by
 cases op with
 | build t ps => simp only [opR]; rw [parts_congr fun x hx => he x (by simpa [Op.operands] using hx)]
 | convert s d x => simp only [opR]; rw [he x (by simp [Op.operands]), opQ_congr (P := P) (h := h) he]
 | _ => exact opQ_congr (P := P) (h := h) he

theorem opF_congr {op : Op} {ρ ρ' : Operand → D} {h : H} {nid : Nat} (he : ∀ x ∈ op.operands.toList, ρ x = ρ' x) : opF P op ρ h nid = opF P op ρ' h nid := by
 cases op with
 | buildSlice t n ps => simp only [opF]; rw [parts_congr fun x hx => he x (by simpa [Op.operands] using hx)]
 | call c =>
  have he' : ∀ x ∈ c.args.toList, ρ x = ρ' x := fun x hx => he x (by simp only [Op.operands, Call.operands, Array.toList_append, List.mem_append]; exact .inr hx)
  obtain ⟨callee, args, argTypes⟩ := c
  simp only [opF]
  dsimp only at he' ⊢
  generalize args.toList = l at he'
  generalize argTypes.toList = ts
  cases callee with
  | builtin b =>
   cases b <;> try rfl
   match l, ts with
   | [x, y], [t, t'] => simp only [he' x (by simp), he' y (by simp)]
   | [], _ => rfl
   | [_], _ => rfl
   | _ :: _ :: _ :: _, _ => rfl
   | [_, _], [] => rfl
   | [_, _], [_] => rfl
   | [_, _], _ :: _ :: _ :: _ => rfl
  | _ => rfl
 | box t x => simp only [opF, opE]; rw [he x (by simp [Op.operands])]
 | store t x y => simp only [opF, opE]; rw [he x (by simp [Op.operands]), he y (by simp [Op.operands])]
 | mapUpdate t x y z => simp only [opF, opE]; rw [he x (by simp [Op.operands]), he y (by simp [Op.operands]), he z (by simp [Op.operands])]
 | insert t x y z => simp only [opF, opE]; rw [he x (by simp [Op.operands]), he y (by simp [Op.operands]), he z (by simp [Op.operands])]
 | makeMap t r => cases r <;> rfl
 | makeSlice t x y => simp only [opF]; rw [he x (by simp [Op.operands]), he y (by simp [Op.operands])]
 | slice t x lo hi mx =>
  cases mx with
  | some m => rfl
  | none =>
   have h1 : ρ x = ρ' x := he x (by simp [Op.operands])
   have h2 : lo.map ρ = lo.map ρ' := by
    cases lo with
    | none => rfl
    | some y => rw [Option.map_some, Option.map_some, he y (by simp [Op.operands])]
   have h3 : hi.map ρ = hi.map ρ' := by
    cases hi with
    | none => rfl
    | some y => rw [Option.map_some, Option.map_some, he y (by simp [Op.operands])]
   simp only [opF, h1, h2, h3]
 | _ => rfl

theorem calleeD_congr {c : Call} {env env' : Env} (he : ∀ x ∈ (Op.call c).operands.toList, evO env x = evO env' x) : calleeD env c = calleeD env' c := by
 obtain ⟨callee, args, argTypes⟩ := c
 have h1 : args.toList.map (evO env) = args.toList.map (evO env') :=
  List.map_congr_left fun x hx => he x (by simp only [Op.operands, Call.operands, Array.toList_append, List.mem_append]; exact .inr hx)
 cases callee with
 | value x =>
  have h2 : evO env x = evO env' x := he x (by simp [Op.operands, Call.operands])
  simp only [calleeD, h1, h2]
 | _ => rfl

def litD (P : Program) (h : H) (t : TypeId) (len : Nat) (parts : List (Nat × D)) : Option D :=
 match litSl P h t len parts with
 | some (_, _, es) => if es.all (D.ltL 0) then some (.sl es) else none
 | none => none

theorem opOk_lit {o : Oper} {s : St} {K : St → Prop} {d : D} {t : TypeId} {len : Nat} {parts : Array (Nat × Operand)} (ho : o.op = .buildSlice t len parts)
  (h : litD P s.h t len (parts.toList.map fun p => (p.1, evO s.env p.2)) = some d) (hK : K (s.put o.dst d)) : OpOk P n0 ro o s K := by
 intro X k0 k a Q Kc hn hat hk
 unfold litD at h
 split at h
 ·rename_i e sz es hl
  split at h
  ·rename_i hpure
   cases h
   rw [← hat.h] at hl
   have hg := hat.good
   obtain ⟨us, h1, h2, h3, h4, h5, h6, h7, h8⟩ := run_litSl hg (fun x => hat.act.eval x) hl
   have hle : Le k { k with w := k.w.alloc (.cells (List.toArray us) e) } := le_world rfl rfl rfl (by rw [alloc_size]; omega) fun b hb => alloc_heap _ _ _ hb
   refine ⟨fun _ _ => trivial, ?_⟩
   rw [semAt_eq _ _ (by rw [ho]; simp)]
   have hrun : (execOp a.eval o).run P k.w = .ok (.value (.slice (some ⟨k.w.heap.size, 0, none⟩) len len)) (k.w.alloc (.cells (List.toArray us) e)) := by
    unfold execOp
    rw [ho]
    exact ok_bind_value _ _ _ _ _ h1
   rw [hrun]
   refine hk { k with w := k.w.alloc (.cells (List.toArray us) e) } _ _ hK ⟨?_, ?_, ?_, hat.le.trans hle, (hat.act.le hg hle).put o.dst ?_⟩ hle (kept1_put _ _ _)
   ·rw [put_h]; exact hat.h
   ·rw [put_nid]; exact hat.nid
   ·exact hg.world hle fun b hb => alloc_heap _ _ _ hb
   ·have hnm : ∀ b, Cx.Mut { k with w := k.w.alloc (.cells (List.toArray us) e) } b → b < k.w.heap.size := fun b ⟨i, hi⟩ => (hg.lt i b hi).1
    have hin : ∀ (i : Nat) x (j : Nat) d, es[i]? = some x → x[j]? = some d → i * sz + j < us.length := fun i x j d he hd => by
     rw [h2]
     have := h4 x (List.mem_of_getElem? he)
     have := lt_of_getElem? hd
     have := lt_of_getElem? he
     exact mul_add_lt (by omega) (by omega)
    rw [← h3]
    refine .sl _ k.w.heap.size 0 es.length es sz (fun i j => us.getD (i * sz + j) undef) (.inr ⟨?_, fun hx => absurd (hg.xlt _ hx) (by omega), fun hm => absurd (hnm _ hm) (by omega)⟩) (Nat.le_refl _) h4 (fun i x j d he hd => ?_) (fun i x j d he hd => ?_) fun x hx => D.nmL_lt (List.all_eq_true.1 hpure x hx)
    ·show _ < (k.w.alloc _).heap.size; rw [alloc_size]; omega
    ·have : (k.w.alloc (.cells (List.toArray us) e)).heap[k.w.heap.size]? = some (.cells us.toArray e (0, 0)) := alloc_heap_new _ _
     show World.cell? (k.w.alloc _) _ = _
     rw [row_cell this, Nat.zero_add, List.getElem?_eq_getElem (hin i x j d he hd)]
     simp [List.getD, List.getElem?_eq_getElem (hin i x j d he hd)]
    ·have hr := (h8 i x j d _ he hd (List.getElem?_eq_getElem (hin i x j d he hd))).roll (m := 0) (D.ltL_get (List.all_eq_true.1 hpure x (List.mem_of_getElem? he)) j d hd)
     have hr' := hr.mono (hle.rle (X := X) (Nat.zero_le _))
     simpa [List.getD, List.getElem?_eq_getElem (hin i x j d he hd)] using hr'
  ·cases h
 ·cases h

def QC (P : Program) (f : FuncId) (ds : List D) (h : H) (r : D) : Prop :=
 (r.flat = true ∧ Pure P f (viewL h ds) r) ∨ (D.ltL 0 ds = true ∧ r.lt 0 = true ∧ Pure P f ds r) ∨ (D.frL ds = true ∧ r.fr = true ∧ Pure P f ds r)

theorem opOk_qc {o : Oper} {c : Call} {s : St} {K : St → Prop} {f : FuncId} {ds : List D} {r : D} (ho : o.op = .call c) (hcal : calleeD s.env c = some (f, ds))
  (hp : QC P f ds s.h r) (hK : K (s.put o.dst r)) : OpOk P n0 ro o s K := by
 rcases hp with ⟨h1, h2⟩ | ⟨h1, h2, h3⟩ | ⟨h1, h2, h3⟩
 ·rw [viewL_eq] at h2; exact opOk_borrow ho hcal h2 h1 hK
 ·exact opOk_pure ho hcal h3 h1 h2 hK
 ·exact opOk_free ho hcal h3 h1 h2 hK

end
end Go.Sx

/- Sx, part N: regions that draw their order: what is checked of them, and the text's own order. Own work. -/
namespace Go.Sx


def bnd (o : Oper) : List Nat := (o.after.toList.filter (Region.binds .any)).map (·.on)

def maskOf (prev : List Nat) : List Nat → Nat
 | [] => 0
 | j :: r => ((1 <<< j) ||| prev.getD j 0) ||| maskOf prev r

def masksGo : List Oper → List Nat → List Nat
 | [], acc => acc
 | o :: r, acc => masksGo r (acc ++ [maskOf acc (bnd o)])

def masks (ops : Array Oper) : List Nat := masksGo ops.toList []

def bef (ms : List Nat) (j i : Nat) : Bool := (ms.getD i 0).testBit j

theorem maskOf_bit (prev : List Nat) (j : Nat) : ∀ l : List Nat, (maskOf prev l).testBit j = true → ∃ e ∈ l, j = e ∨ (prev.getD e 0).testBit j = true
 | [], h => by simp [maskOf] at h
 | e :: r, h => by
  simp only [maskOf, Nat.testBit_or, Bool.or_eq_true, Nat.one_shiftLeft, Nat.testBit_two_pow, decide_eq_true_eq] at h
  rcases h with (h | h) | h
  ·exact ⟨e, by simp, .inl h.symm⟩
  ·exact ⟨e, by simp, .inr h⟩
  ·obtain ⟨e', h1, h2⟩ := maskOf_bit prev j r h
   exact ⟨e', by simp [h1], h2⟩

theorem masksGo_spec : ∀ (l : List Oper) (acc : List Nat), ∃ ms, masksGo l acc = acc ++ ms ∧ ms.length = l.length ∧ ∀ p o, l[p]? = some o → ms[p]? = some (maskOf (acc ++ ms.take p) (bnd o))
 | [], acc => ⟨[], by simp [masksGo], rfl, by simp⟩
 | o :: r, acc => by
  obtain ⟨ms, h1, h2, h3⟩ := masksGo_spec r (acc ++ [maskOf acc (bnd o)])
  refine ⟨maskOf acc (bnd o) :: ms, by rw [masksGo, h1]; simp, by simp [h2], fun p o' h => ?_⟩
  cases p with
  | zero => simp at h; subst h; simp
  | succ p =>
   have := h3 p o' (by simpa using h)
   simpa using this

theorem masks_get {ops : Array Oper} {i : Nat} {o : Oper} (ho : ops[i]? = some o) : ∃ prev, (masks ops)[i]? = some (maskOf prev (bnd o)) ∧ ∀ e, prev.getD e 0 ≠ 0 → e < i ∧ prev.getD e 0 = (masks ops).getD e 0 := by
 obtain ⟨ms, h1, h2, h3⟩ := masksGo_spec ops.toList []
 have hm : masks ops = ms := by simpa [masks] using h1
 refine ⟨ms.take i, by rw [hm]; simpa using h3 i o (by simpa using ho), fun e he => ?_⟩
 rw [hm]
 have hlt : e < (ms.take i).length := by
  rcases Nat.lt_or_ge e (ms.take i).length with h | h
  ·exact h
  ·exact absurd (by simp [List.getD, List.getElem?_eq_none h]) he
 have hlt' : e < i := by simp at hlt; omega
 refine ⟨hlt', ?_⟩
 simp only [List.getD, List.getElem?_take, if_pos hlt']

def Back (ops : Array Oper) : Prop := ∀ i o, ops[i]? = some o → ∀ j ∈ bnd o, j < i

theorem bef_step {ops : Array Oper} (hb : Back ops) {i j : Nat} {o : Oper} (ho : ops[i]? = some o) (hj : bef (masks ops) j i = true) :
  ∃ e ∈ bnd o, e < i ∧ (j = e ∨ bef (masks ops) j e = true) := by
 obtain ⟨prev, h1, h2⟩ := masks_get ho
 have hbit : (maskOf prev (bnd o)).testBit j = true := by simpa [bef, List.getD, h1] using hj
 obtain ⟨e, he, h⟩ := maskOf_bit prev j _ hbit
 refine ⟨e, he, hb i o ho e he, ?_⟩
 rcases h with rfl | h
 ·exact .inl rfl
 ·have hne : prev.getD e 0 ≠ 0 := fun h0 => by rw [h0] at h; simp at h
  obtain ⟨_, heq⟩ := h2 e hne
  exact .inr (by unfold bef; rw [← heq]; exact h)

theorem bef_lt {ops : Array Oper} (hb : Back ops) : ∀ (i : Nat) (o : Oper), ops[i]? = some o → ∀ j, bef (masks ops) j i = true → j < i := by
 intro i
 induction i using Nat.strongRecOn with
 | _ i ih =>
  intro o ho j hj
  obtain ⟨e, he, hlt, h⟩ := bef_step hb ho hj
  rcases h with rfl | h
  ·exact hlt
  ·have hes : e < ops.size := Nat.lt_trans hlt (by
    rcases Nat.lt_or_ge i ops.size with h | h
    ·exact h
    ·rw [Array.getElem?_eq_none h] at ho; cases ho)
   have := ih e hlt ops[e] (by simp [hes]) j h
   omega

theorem bef_sound {ops : Array Oper} (hb : Back ops) {S : Nat → Prop} (hcl : ∀ i o, ops[i]? = some o → S i → ∀ j ∈ bnd o, S j) :
  ∀ (i : Nat) (o : Oper), ops[i]? = some o → (∀ j ∈ bnd o, S j) → ∀ j, bef (masks ops) j i = true → S j := by
 intro i
 induction i using Nat.strongRecOn with
 | _ i ih =>
  intro o ho hbo j hj
  obtain ⟨e, he, hlt, h⟩ := bef_step hb ho hj
  rcases h with rfl | h
  ·exact hbo _ he
  ·have hes : e < ops.size := Nat.lt_trans hlt (by
    rcases Nat.lt_or_ge i ops.size with h | h
    ·exact h
    ·rw [Array.getElem?_eq_none h] at ho; cases ho)
   have hoe : ops[e]? = some ops[e] := by simp [hes]
   exact ih e hlt _ hoe (hcl e _ hoe (hbo e he)) j h


inductive DK where
 | quiet
 | call
 | eff
 | float
 deriving DecidableEq

def dkind (fl : Bool) (op : Op) : DK :=
 match op with
 | .alloc _ => if fl then .float else .eff
 | .box _ _ | .store _ _ _ | .makeMap _ _ | .mapUpdate _ _ _ _ | .insert _ _ _ _ => .eff
 | .call c =>
  match c.callee with
  | .builtin .append => .eff
  | .builtin _ => .quiet
  | _ => .call
 | _ => .quiet

def isE (fl : Bool) (o : Oper) : Bool := match dkind fl o.op with | .eff => true | _ => false
def isF (fl : Bool) (o : Oper) : Bool := match dkind fl o.op with | .float => true | _ => false

def indep (op : Op) : Bool :=
 match op with
 | .move _ | .assign _ | .pick _ _ _ | .binOp _ _ _ _ _ | .unOp _ _ _ | .extract _ _ | .makeFunc _ _ _ | .makeInterface _ _ | .field _ _ _ | .index _ _ _ => true
 | _ => false

def cutD (P : Program) (s d : TypeId) (x : D) : Option D :=
 match P.underlying s, P.underlying d, x with
 | some .string, some (.slice e), .str b =>
  match P.underlying e with
  | some (.int .u8) => some (.sl (b.data.toList.map fun c => [.int .u8 c.toNat]))
  | _ => none
 | _, _, _ => none

def quietD (P : Program) (op : Op) (ρ : Operand → D) (h : H) : Option D :=
 match op with
 | .buildSlice t len parts => litD P h t len (parts.toList.map fun p => (p.1, ρ p.2))
 | .convert s d x =>
  match cutD P s d (ρ x) with
  | some r => some r
  | none => opR P (.convert s d x) ρ h
 | op => opR P op ρ h

theorem quietD_indep {P : Program} {op : Op} {ρ : Operand → D} {h h' : H} (hi : indep op = true) : quietD P op ρ h = quietD P op ρ h' := by
 cases op <;> simp only [indep, Bool.false_eq_true] at hi <;> first | rfl | (rename_i u t x; cases u <;> rfl)

theorem quietD_congr {P : Program} {op : Op} {ρ ρ' : Operand → D} {h : H} (he : ∀ x ∈ op.operands.toList, ρ x = ρ' x) : quietD P op ρ h = quietD P op ρ' h := by
 cases op with
 | buildSlice t n ps => simp only [quietD]; rw [parts_congr fun x hx => he x (by simpa [Op.operands] using hx)]
 | convert s d x => simp only [quietD]; rw [he x (by simp [Op.operands]), opR_congr (P := P) (h := h) he]
 | _ => exact opR_congr (P := P) (h := h) he

theorem opOk_cut {P : Program} {n0 : Nat} {ro : Option Nat} {o : Oper} {s : St} {K : St → Prop} {d : D} {t u : TypeId} {x : Operand} (ho : o.op = .convert t u x)
  (h : cutD P t u (evO s.env x) = some d) (hK : K (s.put o.dst d)) : OpOk P n0 ro o s K := by
 intro X k0 k a Q Kc hn hat hk
 unfold cutD at h
 split at h
 ·rename_i e b hs hd hx
  split at h
  ·rename_i he
   cases h
   have hg := hat.good
   have hr := hat.act.eval x
   rw [hx] at hr
   generalize hv : a.eval x = v at hr
   cases hr
   have hle : Le k { k with w := k.w.drew.alloc (.cells (bytesRow b (grownCap k.w b.size 0 e)) e ((bytesRow b (grownCap k.w b.size 0 e)).size, (bytesRow b (grownCap k.w b.size 0 e)).size + 1)) } :=
    le_world rfl rfl rfl (by rw [alloc_size]; show k.w.heap.size ≤ _; exact Nat.le_succ _) fun b hb => alloc_heap _ _ _ hb
   have hnew : (k.w.drew.alloc (.cells (bytesRow b (grownCap k.w b.size 0 e)) e ((bytesRow b (grownCap k.w b.size 0 e)).size, (bytesRow b (grownCap k.w b.size 0 e)).size + 1))).heap[k.w.heap.size]? = _ := alloc_heap_new k.w.drew _
   generalize hob : Obj.cells (bytesRow b (grownCap k.w b.size 0 e)) e ((bytesRow b (grownCap k.w b.size 0 e)).size, (bytesRow b (grownCap k.w b.size 0 e)).size + 1) = ob at hle hnew
   refine ⟨fun _ _ => trivial, ?_⟩
   rw [semAt_eq _ _ (by rw [ho]; simp)]
   have hrun : (execOp a.eval o).run P k.w = .ok (.value (.slice (some ⟨k.w.heap.size, 0, none⟩) b.size (grownCap k.w b.size 0 e))) (k.w.drew.alloc ob) := by
    unfold execOp
    rw [ho]
    refine ok_bind_value _ _ _ _ _ ?_
    rw [hv, run_bytes_of_string k.w t u e b hs hd he, hob]
   rw [hrun]
   refine hk { k with w := k.w.drew.alloc ob } _ _ hK ⟨?_, ?_, ?_, hat.le.trans hle, (hat.act.le hg hle).put o.dst ?_⟩ hle (kept1_put _ _ _)
   ·rw [put_h]; exact hat.h
   ·rw [put_nid]; exact hat.nid
   ·exact hg.world hle fun b hb => alloc_heap _ _ _ hb
   ·have hnm : ∀ c, Cx.Mut { k with w := k.w.drew.alloc ob } c → c < k.w.heap.size := fun c ⟨i, hi⟩ => (hg.lt i c hi).1
    have hlen : (b.data.toList.map fun c => [D.int .u8 c.toNat]).length = b.size := by rw [List.length_map, Array.length_toList]; rfl
    have hcap : b.size ≤ grownCap k.w b.size 0 e := grownCap_ge k.w b.size 0 e
    rw [← hlen]
    refine .sl _ k.w.heap.size 0 _ _ 1 (fun i j => .int .u8 ((b.data.toList.map fun c => c.toNat).getD i 0)) (.inr ⟨?_, fun h => absurd (hg.xlt _ h) (by omega), fun h => absurd (hnm _ h) (by omega)⟩) (by rw [hlen]; exact hcap) (fun c hc => ?_) (fun i c j d hi hj => ?_) (fun i c j d hi hj => ?_) (fun c hc => by obtain ⟨z, _, rfl⟩ := List.mem_map.1 hc; rfl)
    ·show _ < (k.w.drew.alloc ob).heap.size
     rw [alloc_size]; exact Nat.lt_succ_self _
    ·obtain ⟨z, _, rfl⟩ := List.mem_map.1 hc; rfl
    ·rw [List.getElem?_map] at hi
     cases hz : b.data.toList[i]? with
     | none => rw [hz] at hi; cases hi
     | some z =>
      rw [hz] at hi
      simp at hi
      subst hi
      obtain rfl : j = 0 := by
       cases j with
       | zero => rfl
       | succ j => exact absurd hj (by rw [List.getElem?_cons_succ, List.getElem?_nil]; simp)
      simp only [Cx.R, World.cell?, hnew]
      subst hob
      have hz' : b.data[i]? = some z := by rw [← Array.getElem?_toList]; exact hz
      have hil : i < b.data.size := by
       rcases Nat.lt_or_ge i b.data.size with h | h
       ·exact h
       ·rw [Array.getElem?_eq_none h] at hz'; cases hz'
      have hzi : b.data[i] = z := by rw [Array.getElem?_eq_getElem hil] at hz'; exact Option.some.inj hz'
      have hil2 : i < b.size := hil
      have h0 : (bytesRow b (grownCap k.w b.size 0 e))[0 + (i * 1 + 0)]? = some (.int .u8 z.toNat) := by
       rw [show 0 + (i * 1 + 0) = i by omega, bytesRow, Array.getElem?_append_left (by simpa using hil), Array.getElem?_map, hz']; rfl
      show (bytesRow b (grownCap k.w b.size 0 e))[0 + (i * 1 + 0)]? = _
      rw [h0, List.getD, List.getElem?_map, hz]; rfl
    ·rw [List.getElem?_map] at hi
     cases hz : b.data.toList[i]? with
     | none => rw [hz] at hi; cases hi
     | some z =>
      rw [hz] at hi
      simp at hi
      subst hi
      obtain rfl : j = 0 := by
       cases j with
       | zero => rfl
       | succ j => exact absurd hj (by rw [List.getElem?_cons_succ, List.getElem?_nil]; simp)
      rw [List.getElem?_cons_zero] at hj
      cases hj
      have : (b.data.toList.map fun c => (c.toNat : Int)).getD i 0 = (z.toNat : Int) := by rw [List.getD, List.getElem?_map, hz]; rfl
      rw [this]
      exact .int _ _ _
  ·cases h
 ·cases h

theorem opOk_quiet {P : Program} {n0 : Nat} {ro : Option Nat} {o : Oper} {s : St} {K : St → Prop} {d : D} (h : quietD P o.op (evO s.env) s.h = some d) (hK : K (s.put o.dst d)) : OpOk P n0 ro o s K := by
 cases hop : o.op with
 | buildSlice t n ps => rw [hop] at h; exact opOk_lit hop h hK
 | convert t u x =>
  rw [hop] at h
  simp only [quietD] at h
  split at h
  ·rename_i r hr
   cases h
   exact opOk_cut hop hr hK
  ·exact opOk_read (by rw [hop]; exact h) hK
 | _ => rw [hop] at h; exact opOk_read (by rw [hop]; exact h) hK


structure Row where
 o : Oper
 env : Env
 h : H
 run : Bool
 d : D

def zeroA (P : Program) (op : Op) : Option (List D) :=
 match op with
 | .alloc t => zeroD P t
 | _ => none

def callQC (P : Program) (op : Op) (env : Env) (h : H) (r : D) : Prop :=
 match op with
 | .call c =>
  match calleeD env c with
  | some (f, ds) => QC P f ds h r
  | none => False
 | _ => False

def OStep (P : Program) (fl : Bool) (o : Oper) (s : St) (d : D) (h' : H) (nid' : Nat) : Prop :=
 match dkind fl o.op with
 | .quiet => quietD P o.op (evO s.env) s.h = some d ∧ h' = s.h ∧ nid' = s.nid
 | .call => callQC P o.op s.env s.h d ∧ h' = s.h ∧ nid' = s.nid
 | .eff => opF P o.op (evO s.env) s.h s.nid = some (d, h', nid')
 | .float => (zeroA P o.op).isSome = true ∧ d = .any ∧ h' = s.h ∧ nid' = s.nid

structure RowOk (P : Program) (fl : Bool) (ops : Array Oper) (o : Oper) (s : St) (row : Row) (s' : St) : Prop where
 op : row.o = o
 env : ∀ t, look row.env t = look s.env t
 h : row.h = s.h
 guard : match o.guard with
  | none => row.run = true
  | some (j, w) => ∃ t, slotOf ops j = some t ∧ ((∃ b, look s.env t = .bool b ∧ row.run = (b == w)) ∨ (look s.env t = .tup [] ∧ row.run = false))
 step : if row.run then OStep P fl o { s with env := row.env } row.d s'.h s'.nid else row.d = .tup [] ∧ s'.h = s.h ∧ s'.nid = s.nid
 next : s' = St.put ⟨row.env, s'.h, s'.nid, s.n⟩ o.dst row.d

structure TRun (P : Program) (fl : Bool) (ops : Array Oper) (b len : Nat) (st : Nat → St) (row : Nat → Row) : Prop where
 step : ∀ p, p < len → ∀ o, ops[b + p]? = some o → RowOk P fl ops o (st p) (row p) (st (p + 1))

def ReOk (P : Program) (fl : Bool) (row : Row) (h : H) : Prop :=
 match dkind fl row.o.op with
 | .quiet => quietD P row.o.op (evO row.env) h = some row.d
 | .call =>
  match row.o.op with
  | .call c =>
   match calleeD row.env c with
   | some (_, ds) => viewL h ds = viewL row.h ds
   | none => False
  | _ => False
 | _ => True


def tmpsOf (o : Oper) : List Nat := o.op.operands.toList.filterMap fun | .tmp t => some t | _ => none
def readsG (ops : Array Oper) (o : Oper) : List Nat := tmpsOf o ++ (match o.guard with | some (j, _) => (slotOf ops j).toList | none => [])

def pairOk (ops : Array Oper) (ms : List Nat) (fl : Bool) (i q : Nat) (o o' : Oper) : Bool :=
 i == q || ((match o'.dst with
  | none => true
  | some t => (!(readsG ops o).contains t || (bef ms q i && !isF fl o') || bef ms i q) && !(o.dst == some t)) &&
 (!(isE fl o && isE fl o' && Nat.blt i q) || bef ms i q))

def atO (ops : Array Oper) (i : Nat) (f : Oper → Bool) : Bool := match ops[i]? with | some o => f o | none => false

def phOk (ops : Array Oper) (ms : List Nat) (b len : Nat) (fl : Bool) (re : List (Nat × Nat)) : Bool :=
 Nat.ble (b + len) ops.size &&
 ((List.range' b len).all fun i => (List.range' b len).all fun q => atO ops i fun o => atO ops q fun o' => pairOk ops ms fl i q o o') &&
 ((List.range' (b + len) (ops.size - (b + len))).all fun i => (List.range' b len).all fun q => bef ms q i) &&
 ((List.range' b len).all fun i => atO ops i fun o => !isF fl o || o.guard.isNone) &&
 ((List.range len).all fun p => atO ops (b + p) fun o => isE fl o || isF fl o || indep o.op ||
  (List.range (len + 1)).all fun y =>
   (Nat.blt y len && (!(atO ops (b + y) (isE fl)) || bef ms (b + y) (b + p))) ||
   ((List.range y).any fun q => atO ops (b + q) (isE fl) && bef ms (b + p) (b + q)) ||
   ((List.range len).all fun q => !(atO ops (b + q) (isE fl)) || !((Nat.ble p q && Nat.blt q y) || (Nat.ble y q && Nat.blt q p))) ||
   re.contains (p, y))

def backOk (ops : Array Oper) : Bool := (List.range ops.size).all fun i => atO ops i fun o => (bnd o).all fun j => Nat.blt j i

theorem back_of {ops : Array Oper} (h : backOk ops = true) : Back ops := fun i o ho j hj => by
 have hi : i < ops.size := by
  rcases Nat.lt_or_ge i ops.size with h | h
  ·exact h
  ·rw [Array.getElem?_eq_none h] at ho; cases ho
 have := List.all_eq_true.1 h i (List.mem_range.2 hi)
 simp only [atO, ho] at this
 have := List.all_eq_true.1 this j hj
 simpa using this

end Go.Sx

/- Sx, part O: regions that draw their order: every order comes to what the text's own order comes to. Own work. -/
namespace Go.Sx

def isEat (ops : Array Oper) (fl : Bool) (i : Nat) : Prop := atO ops i (isE fl) = true

structure PhF (ops : Array Oper) (b len : Nat) (fl : Bool) (re : List (Nat × Nat)) : Prop where
 size : b + len ≤ ops.size
 pair : ∀ p q, p < len → q < len → p ≠ q → ∀ o o', ops[b + p]? = some o → ops[b + q]? = some o' →
  (∀ t, o'.dst = some t → (t ∈ readsG ops o → (bef (masks ops) (b + q) (b + p) = true ∧ isF fl o' = false) ∨ bef (masks ops) (b + p) (b + q) = true) ∧ o.dst ≠ some t) ∧
  (isE fl o = true → isE fl o' = true → p < q → bef (masks ops) (b + p) (b + q) = true)
 bar : ∀ i, b + len ≤ i → i < ops.size → ∀ q, q < len → bef (masks ops) (b + q) i = true
 flg : ∀ p, p < len → ∀ o, ops[b + p]? = some o → isF fl o = true → o.guard = none
 re : ∀ p, p < len → ∀ o, ops[b + p]? = some o → isE fl o = false → isF fl o = false → indep o.op = false → ∀ y, y ≤ len →
  (y < len ∧ (¬ isEat ops fl (b + y) ∨ bef (masks ops) (b + y) (b + p) = true)) ∨ (∃ q, q < y ∧ isEat ops fl (b + q) ∧ bef (masks ops) (b + p) (b + q) = true) ∨
  (∀ q, q < len → isEat ops fl (b + q) → ¬ ((p ≤ q ∧ q < y) ∨ (y ≤ q ∧ q < p))) ∨ (p, y) ∈ re

theorem phF_of {ops : Array Oper} {b len : Nat} {fl : Bool} {re : List (Nat × Nat)} (h : phOk ops (masks ops) b len fl re = true) : PhF ops b len fl re := by
 simp only [phOk, Bool.and_eq_true] at h
 obtain ⟨⟨⟨⟨h1, h2⟩, h3⟩, h4⟩, h5⟩ := h
 refine ⟨Nat.le_of_ble_eq_true h1, fun p q hp hq hne o o' ho ho' => ?_, fun i hi hi' q hq => ?_, fun p hp o ho hf => ?_, fun p hp o ho hE hF hI y hy => ?_⟩
 ·have := List.all_eq_true.1 (List.all_eq_true.1 h2 (b + p) (by simp [List.mem_range']; omega)) (b + q) (by simp [List.mem_range']; omega)
  simp only [atO, ho, ho', pairOk, Bool.or_eq_true, beq_iff_eq, Bool.and_eq_true] at this
  rcases this with h | ⟨ha, hb⟩
  ·omega
  ·refine ⟨fun t ht => ?_, fun e1 e2 hlt => ?_⟩
   ·rw [ht] at ha
    simp only [Bool.and_eq_true, Bool.or_eq_true, Bool.not_eq_true', List.contains_iff_mem, beq_eq_false_iff_ne, decide_eq_false_iff_not] at ha
    refine ⟨fun hm => ?_, ha.2⟩
    rcases ha.1 with (h | h) | h
    ·simp [hm] at h
    ·exact .inl h
    ·exact .inr h
   ·rcases hb with h | h
    ·simp only [e1, e2, Bool.true_and] at h
     have : Nat.blt (b + p) (b + q) = true := by simp [Nat.blt]; omega
     rw [this] at h; cases h
    ·exact h
 ·exact List.all_eq_true.1 (List.all_eq_true.1 h3 i (by rw [List.mem_range'_1]; omega)) (b + q) (by rw [List.mem_range'_1]; omega)
 ·have := List.all_eq_true.1 h4 (b + p) (by simp [List.mem_range']; omega)
  simp only [atO, ho, hf, Bool.not_true, Bool.false_or, Option.isNone_iff_eq_none] at this
  exact this
 ·have := List.all_eq_true.1 h5 p (by simp; omega)
  simp only [atO, ho, hE, hF, hI, Bool.false_or] at this
  have := List.all_eq_true.1 this y (by simp; omega)
  simp only [Bool.or_eq_true] at this
  rcases this with ((h | h) | h) | h
  ·simp only [Bool.and_eq_true, Bool.or_eq_true, Bool.not_eq_true'] at h
   refine .inl ⟨by simpa using h.1, ?_⟩
   rcases h.2 with h | h
   ·exact .inl fun he => by simp only [isEat, atO] at he; simp [h] at he
   ·exact .inr h
  ·obtain ⟨q, h6, h7⟩ := List.any_eq_true.1 h
   simp only [Bool.and_eq_true] at h7
   exact .inr (.inl ⟨q, by simpa using h6, h7.1, h7.2⟩)
  ·refine .inr (.inr (.inl fun q hq he hc => ?_))
   have := List.all_eq_true.1 h q (by simpa using hq)
   simp only [Bool.or_eq_true, Bool.not_eq_true', Bool.or_eq_false_iff, Bool.and_eq_false_iff] at this
   rcases this with h | ⟨h8, h9⟩
   ·exact absurd he (by simp [isEat, atO, h])
   ·rcases hc with ⟨c1, c2⟩ | ⟨c1, c2⟩
    ·rw [Nat.ble_eq_true_of_le c1, show Nat.blt q y = true from Nat.ble_eq_true_of_le c2] at h8
     simp at h8
    ·rw [Nat.ble_eq_true_of_le c1, show Nat.blt q p = true from Nat.ble_eq_true_of_le c2] at h9
     simp at h9
  ·exact .inr (.inr (.inr (by simpa using h)))

section
variable {P : Program} {n0 : Nat} {ro : Option Nat} {ops : Array Oper} {b len : Nat} {fl : Bool} {re : List (Nat × Nat)} {st : Nat → St} {row : Nat → Row}

theorem op_at (hph : PhF ops b len fl re) {p : Nat} (hp : p < len) : ∃ o, ops[b + p]? = some o := ⟨ops[b + p]'(by have := hph.size; omega), by simp⟩

theorem put_n (s : St) (dst : Option Tmp) (d : D) : (s.put dst d).n = s.n := by
 cases dst with
 | none => rfl
 | some t => simp only [St.put]; split <;> rfl

theorem text_n (hT : TRun P fl ops b len st row) (hph : PhF ops b len fl re) : ∀ p, p ≤ len → (st p).n = (st 0).n
 | 0, _ => rfl
 | p + 1, hp => by
  obtain ⟨o, ho⟩ := op_at hph (show p < len by omega)
  have := (hT.step p (by omega) o ho).next
  rw [this, put_n]
  exact text_n hT hph p (by omega)

theorem text_look (hT : TRun P fl ops b len st row) (hph : PhF ops b len fl re) {p : Nat} (hp : p < len) {o : Oper} (ho : ops[b + p]? = some o) (t : Nat) :
  look (st (p + 1)).env t = if o.dst = some t ∧ t < (st 0).n then (row p).d else look (st p).env t := by
 have hr := hT.step p hp o ho
 rw [hr.next]
 cases hd : o.dst with
 | none => simp only [St.put]; rw [if_neg (by simp)]; exact hr.env t
 | some u =>
  simp only [St.put, text_n hT hph p (by omega)]
  by_cases hu : u < (st 0).n
  ·rw [if_pos hu]
   simp only [look]
   by_cases htu : t = u
   ·subst htu; simp [hu]
   ·rw [if_neg htu, if_neg (by simp; intro h; exact absurd h.symm htu)]; exact hr.env t
  ·rw [if_neg hu, if_neg (by rintro ⟨h1, h2⟩; simp at h1; subst h1; exact hu h2)]
   exact hr.env t

theorem uniq (hph : PhF ops b len fl re) {p q : Nat} (hp : p < len) (hq : q < len) {o o' : Oper} (ho : ops[b + p]? = some o) (ho' : ops[b + q]? = some o') {t : Nat} (h1 : o.dst = some t) (h2 : o'.dst = some t) : p = q := by
 rcases Nat.decEq p q with h | h
 ·exact absurd h1 (((hph.pair p q hp hq h o o' ho ho').1 t h2).2)
 ·exact h

theorem text_writer (hT : TRun P fl ops b len st row) (hph : PhF ops b len fl re) {p : Nat} (hp : p < len) {o : Oper} (ho : ops[b + p]? = some o) {t : Nat} (ht : o.dst = some t) (hn : t < (st 0).n) :
  ∀ q, p < q → q ≤ len → look (st q).env t = (row p).d
 | 0, h, _ => by omega
 | q + 1, h, hq => by
  obtain ⟨o', ho'⟩ := op_at hph (show q < len by omega)
  rw [text_look hT hph (by omega) ho']
  by_cases hpq : q = p
  ·subst hpq
   rw [ho] at ho'; cases ho'
   rw [if_pos ⟨ht, hn⟩]
  ·rw [if_neg fun ⟨h1, _⟩ => hpq (uniq hph (by omega) hp ho' ho h1 ht)]
   exact text_writer hT hph hp ho ht hn q (by omega) (by omega)

theorem text_other (hT : TRun P fl ops b len st row) (hph : PhF ops b len fl re) {t : Nat} : ∀ q, q ≤ len → (∀ p, p < q → ∀ o, ops[b + p]? = some o → o.dst = some t → ¬ t < (st 0).n) → look (st q).env t = look (st 0).env t
 | 0, _, _ => rfl
 | q + 1, hq, h => by
  obtain ⟨o', ho'⟩ := op_at hph (show q < len by omega)
  rw [text_look hT hph (by omega) ho', if_neg fun ⟨h1, h2⟩ => h q (by omega) o' ho' h1 h2]
  exact text_other hT hph q (by omega) fun p hp => h p (by omega)

theorem text_still (hT : TRun P fl ops b len st row) (hph : PhF ops b len fl re) {p : Nat} (hp : p < len) (hE : ¬ isEat ops fl (b + p)) : (st (p + 1)).h = (st p).h ∧ (st (p + 1)).nid = (st p).nid := by
 obtain ⟨o, ho⟩ := op_at hph hp
 have hr := (hT.step p hp o ho).step
 have hE' : isE fl o = false := by simpa [isEat, atO, ho] using hE
 split at hr
 ·unfold OStep at hr
  unfold isE at hE'
  cases hk : dkind fl o.op with
  | eff => rw [hk] at hE'; simp at hE'
  | _ =>
   rw [hk] at hr
   first
    | exact hr.2
    | exact hr.2.2
 ·exact hr.2

theorem text_stills (hT : TRun P fl ops b len st row) (hph : PhF ops b len fl re) {p : Nat} : ∀ q, p ≤ q → q ≤ len → (∀ x, p ≤ x → x < q → ¬ isEat ops fl (b + x)) → (st q).h = (st p).h ∧ (st q).nid = (st p).nid
 | 0, h, _, _ => by have : p = 0 := by omega
                    subst this; exact ⟨rfl, rfl⟩
 | q + 1, h, hq, hx => by
  rcases Nat.lt_or_ge q p with h1 | h1
  ·have : p = q + 1 := by omega
   subst this; exact ⟨rfl, rfl⟩
  ·obtain ⟨a, c⟩ := text_still hT hph (show q < len by omega) (hx q h1 (by omega))
   obtain ⟨a', c'⟩ := text_stills hT hph q h1 (by omega) fun x h2 h3 => hx x h2 (by omega)
   exact ⟨a.trans a', c.trans c'⟩

end
end Go.Sx

/- Sx, part P: regions that draw their order: one phase. Own work. -/
namespace Go.Sx

def unl (f : Nat → Bool) : Nat → Nat
 | 0 => 0
 | n + 1 => unl f n + if f n then 0 else 1

theorem unl_set {f g : Nat → Bool} {i : Nat} (hi : f i = false) (hgi : g i = true) (hg : ∀ j, j ≠ i → g j = f j) : ∀ n, (n ≤ i → unl g n = unl f n) ∧ (i < n → unl g n + 1 = unl f n)
 | 0 => ⟨fun _ => rfl, fun h => by omega⟩
 | n + 1 => by
  obtain ⟨h1, h2⟩ := unl_set hi hgi hg n
  refine ⟨fun h => ?_, fun h => ?_⟩
  ·simp only [unl, h1 (by omega), hg n (by omega)]
  ·by_cases hn : n = i
   ·subst hn
    simp only [unl, h1 (Nat.le_refl _), hi, hgi]; simp
   ·have := h2 (by omega)
    simp only [unl, hg n hn]; omega

theorem unl_le (f : Nat → Bool) : ∀ n, unl f n ≤ n
 | 0 => Nat.le_refl _
 | n + 1 => by have := unl_le f n; simp only [unl]; split <;> omega

theorem unl_pos {f : Nat → Bool} : ∀ {n i : Nat}, i < n → f i = false → 0 < unl f n
 | n + 1, i, hi, hf => by
  simp only [unl]
  by_cases h : n = i
  ·subst h; rw [hf]; simp
  ·have := unl_pos (show i < n by omega) hf; omega

theorem unl_low {f : Nat → Bool} {c : Nat} (h : ∀ i, i < c → f i = true) : ∀ n, unl f n ≤ n - c
 | 0 => by simp [unl]
 | n + 1 => by
  have := unl_low h n
  simp only [unl]
  by_cases hn : n < c
  ·rw [h n hn]; simp; omega
  ·split <;> omega

def Ran (listed : Array Bool) (i : Nat) : Prop := listed.getD i false = true

theorem mem_ready {ops : Array Oper} {listed : Array Bool} (hs : listed.size = ops.size) {i : Nat} :
  i ∈ Region.ready .any ops listed ↔ ∃ o, ops[i]? = some o ∧ ¬ Ran listed i ∧ ∀ j ∈ bnd o, Ran listed j := by
 have hall : ∀ o : Oper, (o.after.all fun e => !Region.binds .any e || listed.getD e.on false) = true ↔ ∀ j ∈ bnd o, Ran listed j := fun o => by
  rw [← Array.all_toList, List.all_eq_true]
  simp only [bnd, List.mem_map, List.mem_filter, Bool.or_eq_true, Bool.not_eq_true', Ran]
  constructor
  ·rintro h j ⟨e, ⟨h1, h2⟩, rfl⟩
   rcases h e h1 with h | h
   ·rw [h2] at h; cases h
   ·exact h
  ·intro h e he
   cases hb : Region.binds .any e with
   | false => exact .inl rfl
   | true => exact .inr (h e.on ⟨e, ⟨he, hb⟩, rfl⟩)
 simp only [Region.ready, List.mem_filter, List.mem_range, Bool.and_eq_true, Bool.not_eq_true']
 constructor
 ·rintro ⟨h1, h2, h3⟩
  refine ⟨ops[i], by simp [h1], ?_, ?_⟩
  ·rw [Array.getD_eq_getD_getElem?, Array.getElem?_eq_getElem (by omega)] at h2
   simp only [Ran, Array.getD_eq_getD_getElem?, Array.getElem?_eq_getElem (show i < listed.size by omega)]
   simp at h2 ⊢; exact h2
  ·rw [Array.getElem?_eq_getElem h1] at h3
   exact (hall _).1 (by simpa using h3)
 ·rintro ⟨o, ho, h2, h3⟩
  have h1 : i < ops.size := by
   rcases Nat.lt_or_ge i ops.size with h | h
   ·exact h
   ·rw [Array.getElem?_eq_none h] at ho; cases ho
  refine ⟨h1, ?_, ?_⟩
  ·simp only [Ran, Array.getD_eq_getD_getElem?, Array.getElem?_eq_getElem (show i < listed.size by omega)] at h2 ⊢
   simpa using h2
  ·rw [ho]; simpa using (hall o).2 h3

theorem ran_set {listed : Array Bool} {i j : Nat} (hi : i < listed.size) : Ran (listed.setIfInBounds i true) j ↔ j = i ∨ Ran listed j := by
 simp only [Ran, Array.getD_eq_getD_getElem?]
 by_cases h : j = i
 ·subst h; simp [Array.getElem?_setIfInBounds_self_of_lt hi]
 ·rw [Array.getElem?_setIfInBounds_ne (Ne.symm h)]; simp [h]

section
variable {P : Program} {n0 : Nat} {ro : Option Nat} {ops : Array Oper} {b len : Nat} {fl : Bool} {re : List (Nat × Nat)} {st : Nat → St} {row : Nat → Row}

def Pend (ops : Array Oper) (b len : Nat) (fl : Bool) (X : Nat → Prop) (S : Nat → Prop) (fb : Nat → Nat) (c : Nat) : Prop :=
 X c ∨ ∃ p, p < len ∧ (∃ o, ops[b + p]? = some o ∧ isF fl o = true) ∧ S (b + p) ∧ c = fb p

def valP (fl : Bool) (o : Oper) (fb : Nat → Nat) (p : Nat) (row : Nat → Row) : D := if isF fl o then .raw (.pointer (some ⟨fb p, 0, none⟩)) else (row p).d

structure Inv (P : Program) (ops : Array Oper) (b len : Nat) (fl : Bool) (st : Nat → St) (row : Nat → Row) (listed : Array Bool) (X : Nat → Prop) (k0 k : Cx) (a : Act) (e : Env) (fb : Nat → Nat) (nx : Nat) : Prop where
 size : listed.size = ops.size
 lo : ∀ i, i < b → Ran listed i
 hi : ∀ i, b + len ≤ i → ¬ Ran listed i
 cl : ∀ i o, ops[i]? = some o → Ran listed i → ∀ j ∈ bnd o, Ran listed j
 nxle : nx ≤ len
 nx1 : nx < len → isEat ops fl (b + nx) ∧ ¬ Ran listed (b + nx)
 nx2 : ∀ p, p < nx → isEat ops fl (b + p) → Ran listed (b + p)
 at_ : At (Pend ops b len fl X (Ran listed) fb) k0 k a ⟨e, (st nx).h, (st nx).nid, (st 0).n⟩
 e1 : ∀ p, p < len → Ran listed (b + p) → ∀ o t, ops[b + p]? = some o → o.dst = some t → t < (st 0).n → look e t = valP fl o fb p row
 e2 : ∀ t, (∀ p, p < len → Ran listed (b + p) → ∀ o, ops[b + p]? = some o → o.dst = some t → ¬ t < (st 0).n) → look e t = look (st 0).env t
 fz : ∀ p, p < len → ∀ o, ops[b + p]? = some o → isF fl o = true → Ran listed (b + p) → k0.w.heap.size ≤ fb p ∧ ¬ X (fb p) ∧
  ∃ zs vs ty, zeroA P o.op = some zs ∧ k.w.heap[fb p]? = some (.cells (List.toArray vs) ty (0, 0)) ∧ ∀ R n, RelL R n vs zs
 inj : ∀ p q, p < len → q < len → (∃ o, ops[b + p]? = some o ∧ isF fl o = true) → (∃ o, ops[b + q]? = some o ∧ isF fl o = true) → Ran listed (b + p) → Ran listed (b + q) → fb p = fb q → p = q

theorem not_both {o : Oper} (h : isE fl o = true) : isF fl o = false := by
 unfold isE at h; unfold isF
 cases hk : dkind fl o.op <;> simp_all

theorem Inv.read {listed : Array Bool} {X : Nat → Prop} {k0 k : Cx} {a : Act} {e : Env} {fb : Nat → Nat} {nx : Nat} (hT : TRun P fl ops b len st row) (hph : PhF ops b len fl re) (hb : Back ops)
  (hI : Inv P ops b len fl st row listed X k0 k a e fb nx) {p : Nat} (hp : p < len) {o : Oper} (ho : ops[b + p]? = some o) (hnr : ¬ Ran listed (b + p)) (hr : ∀ j ∈ bnd o, Ran listed j) {t : Nat} (ht : t ∈ readsG ops o) :
  look e t = look (st p).env t := by
 by_cases hw : ∃ q, q < len ∧ q ≠ p ∧ ∃ o', ops[b + q]? = some o' ∧ o'.dst = some t ∧ t < (st 0).n
 ·obtain ⟨q, hq, hne, o', ho', hd, hn⟩ := hw
  have hpr := hph.pair p q hp hq (Ne.symm hne) o o' ho ho'
  rcases (hpr.1 t hd).1 ht with ⟨h1, h2⟩ | h1
  ·have hrq := bef_sound hb hI.cl (b + p) o ho hr (b + q) h1
   have hlt := bef_lt hb (b + p) o ho (b + q) h1
   rw [hI.e1 q hq hrq o' t ho' hd hn, text_writer hT hph hq ho' hd hn p (by omega) (by omega), valP, h2]; simp
  ·have hlt := bef_lt hb (b + q) o' ho' (b + p) h1
   have hnq : ¬ Ran listed (b + q) := fun h => hnr (bef_sound hb hI.cl (b + q) o' ho' (hI.cl _ o' ho' h) _ h1)
   rw [hI.e2 t fun p' hp' hr' o'' ho'' hd'' => by
    have := uniq hph hp' hq ho'' ho' hd'' hd
    subst this; exact absurd hr' hnq]
   exact (text_other hT hph p (by omega) fun p' hp' o'' ho'' hd'' => by
    have := uniq hph (by omega) hq ho'' ho' hd'' hd
    omega).symm
 ·have hno : ∀ p', p' < len → p' ≠ p → ∀ o'', ops[b + p']? = some o'' → o''.dst = some t → ¬ t < (st 0).n := fun p' hp' hne o'' ho'' hd hn => hw ⟨p', hp', hne, o'', ho'', hd, hn⟩
  rw [hI.e2 t fun p' hp' hr' o'' ho'' hd'' => hno p' hp' (fun h => by subst h; exact hnr hr') o'' ho'' hd'']
  exact (text_other hT hph p (by omega) fun p' hp' o'' ho'' hd'' => hno p' (by omega) (by omega) o'' ho'' hd'').symm

theorem ran_pend {listed : Array Bool} {X : Nat → Prop} {fb : Nat → Nat} {p : Nat} {o : Oper} (hi : b + p < listed.size) (ho : ops[b + p]? = some o) (hF : isF fl o = false) (c : Nat) :
  Pend ops b len fl X (Ran (listed.setIfInBounds (b + p) true)) fb c ↔ Pend ops b len fl X (Ran listed) fb c := by
 unfold Pend
 refine or_congr Iff.rfl (exists_congr fun q => and_congr_right fun hq => ?_)
 constructor
 ·rintro ⟨⟨o', ho', hf⟩, hr, hc⟩
  refine ⟨⟨o', ho', hf⟩, ?_, hc⟩
  rcases (ran_set hi).1 hr with h | h
  ·have : q = p := by omega
   subst this
   rw [ho] at ho'; cases ho'; rw [hF] at hf; cases hf
  ·exact h
 ·rintro ⟨h1, hr, hc⟩
  exact ⟨h1, (ran_set hi).2 (.inr hr), hc⟩

end
end Go.Sx

/- Sx, part Q: regions that draw their order: the steps of one phase. Own work. -/
namespace Go.Sx

section
variable {P : Program} {n0 : Nat} {ro : Option Nat} {ops : Array Oper} {b len : Nat} {fl : Bool} {re : List (Nat × Nat)} {st : Nat → St} {row : Nat → Row}

theorem next_eff (ops : Array Oper) (fl : Bool) (b len : Nat) : ∀ d m, m + d = len → ∃ nx, m ≤ nx ∧ nx ≤ len ∧ (nx < len → isEat ops fl (b + nx)) ∧ ∀ q, m ≤ q → q < nx → ¬ isEat ops fl (b + q)
 | 0, m, h => ⟨m, Nat.le_refl _, by omega, fun h => by omega, fun q h1 h2 => by omega⟩
 | d + 1, m, h => by
  by_cases hE : isEat ops fl (b + m)
  ·exact ⟨m, Nat.le_refl _, by omega, fun _ => hE, fun q h1 h2 => by omega⟩
  ·obtain ⟨nx, h1, h2, h3, h4⟩ := next_eff ops fl b len d (m + 1) (by omega)
   refine ⟨nx, by omega, h2, h3, fun q h5 h6 => ?_⟩
   by_cases hq : q = m
   ·subst hq; exact hE
   ·exact h4 q (by omega) h6

theorem Inv.next {listed : Array Bool} {X : Nat → Prop} {k0 k k' : Cx} {a a' : Act} {e e' : Env} {fb : Nat → Nat} {nx nx' : Nat} (hph : PhF ops b len fl re)
  (hI : Inv P ops b len fl st row listed X k0 k a e fb nx) {p : Nat} (hp : p < len) {o : Oper} (ho : ops[b + p]? = some o) (hF : isF fl o = false) (hr : ∀ j ∈ bnd o, Ran listed j)
  (hat : At (Pend ops b len fl X (Ran listed) fb) k0 k' a' ⟨e', (st nx').h, (st nx').nid, (st 0).n⟩) (hle : Le k k') (hl : ∀ t, look e' t = if o.dst = some t ∧ t < (st 0).n then (row p).d else look e t)
  (hn : nx' ≤ len) (c1 : nx' < len → isEat ops fl (b + nx') ∧ ¬ Ran (listed.setIfInBounds (b + p) true) (b + nx')) (c2 : ∀ q, q < nx' → isEat ops fl (b + q) → Ran (listed.setIfInBounds (b + p) true) (b + q)) :
  Inv P ops b len fl st row (listed.setIfInBounds (b + p) true) X k0 k' a' e' fb nx' := by
 have hsz : b + p < listed.size := by rw [hI.size]; have := hph.size; omega
 have hrs := fun j => ran_set (listed := listed) (j := j) hsz
 have hX : Pend ops b len fl X (Ran (listed.setIfInBounds (b + p) true)) fb = Pend ops b len fl X (Ran listed) fb := funext fun c => propext (ran_pend hsz ho hF c)
 have hfl : ∀ q, q < len → (∃ o, ops[b + q]? = some o ∧ isF fl o = true) → Ran (listed.setIfInBounds (b + p) true) (b + q) → Ran listed (b + q) := fun q hq ⟨o', ho', hf⟩ h => by
  rcases (hrs _).1 h with h | h
  ·have : q = p := by omega
   subst this; rw [ho] at ho'; cases ho'; rw [hF] at hf; cases hf
  ·exact h
 refine ⟨by simpa using hI.size, fun i hi => (hrs i).2 (.inr (hI.lo i hi)), fun i hi h => ?_, fun i o' ho' h j hj => ?_, hn, c1, c2, by rw [hX]; exact hat, fun q hq h o' t ho' hd hlt => ?_, fun t h => ?_, fun q hq o' ho' hf h => ?_, fun q q' hq hq' hf hf' h h' => hI.inj q q' hq hq' hf hf' (hfl q hq hf h) (hfl q' hq' hf' h')⟩
 ·rcases (hrs i).1 h with h | h
  ·omega
  ·exact hI.hi i hi h
 ·rcases (hrs i).1 h with h | h
  ·subst h; rw [ho] at ho'; cases ho'; exact (hrs j).2 (.inr (hr j hj))
  ·exact (hrs j).2 (.inr (hI.cl i o' ho' h j hj))
 ·rw [hl]
  by_cases hqp : q = p
  ·subst hqp; rw [ho] at ho'; cases ho'
   rw [if_pos ⟨hd, hlt⟩, valP, hF]; simp
  ·rw [if_neg fun h' => hqp (uniq hph hq hp ho' ho hd h'.1)]
   rcases (hrs _).1 h with h | h
   ·omega
   ·exact hI.e1 q hq h o' t ho' hd hlt
 ·rw [hl, if_neg fun h' => h p hp ((hrs _).2 (.inl rfl)) o ho h'.1 h'.2]
  exact hI.e2 t fun q hq hran => h q hq ((hrs _).2 (.inr hran))
 ·have hran := hfl q hq ⟨o', ho', hf⟩ h
  obtain ⟨f1, f0, zs, vs, ty, f2, f3, f4⟩ := hI.fz q hq o' ho' hf hran
  refine ⟨f1, f0, zs, vs, ty, f2, ?_, f4⟩
  have hXf : Pend ops b len fl X (Ran listed) fb (fb q) := .inr ⟨q, hq, ⟨o', ho', hf⟩, hran, rfl⟩
  rw [hle.heap (fb q) (hI.at_.good.xlt _ hXf) fun ⟨id, hid⟩ => (hI.at_.good.lt id _ hid).2 hXf]
  exact f3

theorem evO_read {listed : Array Bool} {X : Nat → Prop} {k0 k : Cx} {a : Act} {e : Env} {fb : Nat → Nat} {nx : Nat} (hT : TRun P fl ops b len st row) (hph : PhF ops b len fl re) (hb : Back ops)
  (hI : Inv P ops b len fl st row listed X k0 k a e fb nx) {p : Nat} (hp : p < len) {o : Oper} (ho : ops[b + p]? = some o) (hnr : ¬ Ran listed (b + p)) (hr : ∀ j ∈ bnd o, Ran listed j) :
  ∀ x ∈ o.op.operands.toList, evO (row p).env x = evO e x := by
 intro x hx
 cases x with
 | tmp t =>
  simp only [evO]
  rw [(hT.step p hp o ho).env, hI.read hT hph hb hp ho hnr hr]
  simp only [readsG, List.mem_append, tmpsOf, List.mem_filterMap]
  exact .inl ⟨_, hx, rfl⟩
 | _ => rfl

theorem meets {listed : Array Bool} {X : Nat → Prop} {k0 k : Cx} {a : Act} {e : Env} {fb : Nat → Nat} {nx : Nat} (hT : TRun P fl ops b len st row) (hph : PhF ops b len fl re) (hb : Back ops)
  (hI : Inv P ops b len fl st row listed X k0 k a e fb nx) {p : Nat} (hp : p < len) {o : Oper} (ho : ops[b + p]? = some o) (hnr : ¬ Ran listed (b + p)) (hr : ∀ j ∈ bnd o, Ran listed j)
  (hE : isE fl o = false) (hF : isF fl o = false) (hi : indep o.op = false) : (st nx).h = (st p).h ∨ (p, nx) ∈ re := by
 rcases hph.re p hp o ho hE hF hi nx hI.nxle with ⟨h1, h2⟩ | ⟨q, h1, h2, h3⟩ | h | h
 ·obtain ⟨c1, c2⟩ := hI.nx1 h1
  rcases h2 with h2 | h2
  ·exact absurd c1 h2
  ·exact absurd (bef_sound hb hI.cl (b + p) o ho hr _ h2) c2
 ·have hran := hI.nx2 q h1 h2
  have hql : q < len := Nat.lt_of_lt_of_le h1 hI.nxle
  obtain ⟨oq, hoq⟩ := op_at hph hql
  exact absurd (bef_sound hb hI.cl (b + q) oq hoq (hI.cl _ oq hoq hran) _ h3) hnr
 ·left
  rcases Nat.lt_or_ge nx p with hlt | hge
  ·exact (text_stills hT hph p (Nat.le_of_lt hlt) (by omega) fun x h1 h2 hx => h x (by omega) hx (.inr ⟨h1, h2⟩)).1.symm
  ·exact (text_stills hT hph nx hge hI.nxle fun x h1 h2 hx => h x (by have := hI.nxle; omega) hx (.inl ⟨h1, h2⟩)).1
 ·exact .inr h

theorem eff_next {listed : Array Bool} {X : Nat → Prop} {k0 k : Cx} {a : Act} {e : Env} {fb : Nat → Nat} {nx : Nat} (hph : PhF ops b len fl re) (hb : Back ops)
  (hI : Inv P ops b len fl st row listed X k0 k a e fb nx) {p : Nat} (hp : p < len) {o : Oper} (ho : ops[b + p]? = some o) (hnr : ¬ Ran listed (b + p)) (hr : ∀ j ∈ bnd o, Ran listed j) (hE : isE fl o = true) : nx = p := by
 have hEp : isEat ops fl (b + p) := by simp [isEat, atO, ho, hE]
 rcases Nat.lt_trichotomy nx p with h | h | h
 ·obtain ⟨c1, c2⟩ := hI.nx1 (by omega)
  obtain ⟨on, hon⟩ := op_at hph (show nx < len by omega)
  have hEn : isE fl on = true := by simpa [isEat, atO, hon] using c1
  exact absurd (bef_sound hb hI.cl (b + p) o ho hr _ ((hph.pair nx p (by omega) hp (by omega) on o hon ho).2 hEn hE h)) c2
 ·exact h
 ·exact absurd (hI.nx2 p h hEp) hnr

theorem nx_quiet {listed : Array Bool} {X : Nat → Prop} {k0 k : Cx} {a : Act} {e : Env} {fb : Nat → Nat} {nx : Nat} (hph : PhF ops b len fl re)
  (hI : Inv P ops b len fl st row listed X k0 k a e fb nx) {p : Nat} (hp : p < len) {o : Oper} (ho : ops[b + p]? = some o) (hE : isE fl o = false) :
  (nx < len → isEat ops fl (b + nx) ∧ ¬ Ran (listed.setIfInBounds (b + p) true) (b + nx)) ∧ (∀ q, q < nx → isEat ops fl (b + q) → Ran (listed.setIfInBounds (b + p) true) (b + q)) := by
 have hsz : b + p < listed.size := by rw [hI.size]; have := hph.size; omega
 refine ⟨fun h => ⟨(hI.nx1 h).1, fun hran => ?_⟩, fun q h1 h2 => (ran_set hsz).2 (.inr (hI.nx2 q h1 h2))⟩
 rcases (ran_set hsz).1 hran with h2 | h2
 ·have : nx = p := by omega
  subst this
  have := (hI.nx1 h).1
  simp [isEat, atO, ho, hE] at this
 ·exact (hI.nx1 h).2 h2

theorem nx_eff {listed : Array Bool} {X : Nat → Prop} {k0 k : Cx} {a : Act} {e : Env} {fb : Nat → Nat} {p : Nat} (hph : PhF ops b len fl re) (hb : Back ops)
  (hI : Inv P ops b len fl st row listed X k0 k a e fb p) (hp : p < len) {o : Oper} (ho : ops[b + p]? = some o) (hE : isE fl o = true) :
  ∃ nx', p + 1 ≤ nx' ∧ nx' ≤ len ∧ (∀ q, p + 1 ≤ q → q < nx' → ¬ isEat ops fl (b + q)) ∧
   (nx' < len → isEat ops fl (b + nx') ∧ ¬ Ran (listed.setIfInBounds (b + p) true) (b + nx')) ∧ (∀ q, q < nx' → isEat ops fl (b + q) → Ran (listed.setIfInBounds (b + p) true) (b + q)) := by
 have hsz : b + p < listed.size := by rw [hI.size]; have := hph.size; omega
 obtain ⟨nx', h1, h2, h3, h4⟩ := next_eff ops fl b len (len - (p + 1)) (p + 1) (by omega)
 refine ⟨nx', h1, h2, h4, fun h => ⟨h3 h, fun hran => ?_⟩, fun q h5 h6 => ?_⟩
 ·rcases (ran_set hsz).1 hran with h5 | h5
  ·omega
  ·obtain ⟨on, hon⟩ := op_at hph h
   have hEn : isE fl on = true := by simpa [isEat, atO, hon] using h3 h
   have hbf := (hph.pair p nx' hp h (by omega) o on ho hon).2 hE hEn (by omega)
   exact (hI.nx1 hp).2 (bef_sound hb hI.cl (b + nx') on hon (hI.cl _ on hon h5) _ hbf)
 ·by_cases hqp : q = p
  ·subst hqp; exact (ran_set hsz).2 (.inl rfl)
  ·rcases Nat.lt_or_ge q p with h | h
   ·exact (ran_set hsz).2 (.inr (hI.nx2 q h h6))
   ·exact absurd h6 (h4 q (by omega) h5)

theorem look_put (e : Env) (h : H) (nid n : Nat) (dst : Option Tmp) (d : D) (t : Nat) : look (St.put ⟨e, h, nid, n⟩ dst d).env t = if dst = some t ∧ t < n then d else look e t := by
 cases dst with
 | none => simp [St.put]
 | some u =>
  simp only [St.put]
  by_cases hu : u < n
  ·rw [if_pos hu]
   simp only [look]
   by_cases htu : t = u
   ·subst htu; simp [hu]
   ·rw [if_neg htu, if_neg (by simp; intro h; exact absurd h.symm htu)]
  ·rw [if_neg hu, if_neg (by rintro ⟨h1, h2⟩; simp at h1; subst h1; exact hu h2)]

end
end Go.Sx

/- Sx, part R: regions that draw their order: boxes that come up in whatever order, and the whole of a phase. Own work. -/
namespace Go.Sx

theorem rell_mono {R R' : Rx} {n m : Nat} {vs : List Value} {ds : List D} (h : RelL R n vs ds) (hle : RLe n R R') (hm : n ≤ m) : RelL R' m vs ds :=
 ⟨h.1, fun i v d a b => ((h.2 i v d a b).mono hle).weak hm⟩

theorem good_float {X X' : Nat → Prop} {k : Cx} (hg : Good X k) (ob : Obj) (hX : ∀ c, X' c ↔ X c ∨ c = k.w.heap.size) :
  Good X' { k with w := k.w.alloc ob } ∧ ∀ n, RLe n (k.R X) (Cx.R X' { k with w := k.w.alloc ob }) := by
 have hrle : ∀ n, RLe n (k.R X) (Cx.R X' { k with w := k.w.alloc ob }) := fun n => {
  β := fun _ _ => rfl
  arr := fun b _ m' hm' => ⟨m', hm', Nat.le_refl _, fun _ => rfl⟩
  S := fun b ⟨h1, h2, h3⟩ => ⟨by show b < (k.w.alloc ob).heap.size; rw [alloc_size]; omega, fun h => (hX b).1 h |>.elim h2 fun h => by omega, h3⟩
  heap := fun b o ⟨h1, _, _⟩ => cell_of_heap (alloc_heap _ _ _ h1)
  map := fun b es c ⟨h1, _, _⟩ he => (alloc_heap _ _ _ h1).trans he }
 refine ⟨⟨hg.key, hg.inj, fun i b hb => ?_, fun b hb => ?_, fun id blk hid => ?_⟩, hrle⟩
 ·have := hg.lt i b hb
  refine ⟨by show b < (k.w.alloc ob).heap.size; rw [alloc_size]; omega, fun h => (hX b).1 h |>.elim this.2 fun h => by omega⟩
 ·show b < (k.w.alloc ob).heap.size
  rw [alloc_size]
  rcases (hX b).1 hb with h | h
  ·have := hg.xlt b h; omega
  ·omega
 ·have hok := hg.ok id blk hid
  have hold : ∀ b, k.own id = some b → (k.w.alloc ob).heap[b]? = k.w.heap[b]? := fun b hb => alloc_heap _ _ _ (hg.lt id b hb).1
  cases blk with
  | box cs =>
   obtain ⟨vs, ty, a1, a2⟩ := hok
   exact ⟨vs, ty, by rw [show Cx.β { k with w := k.w.alloc ob } id = k.β id from rfl, show Cx.w { k with w := k.w.alloc ob } = k.w.alloc ob from rfl, hold _ (by rw [own_of_hget (k := k) hid]; rfl)]; exact a1, rell_mono a2 (hrle _) (Nat.le_refl _)⟩
  | arr ty sz es =>
   obtain ⟨a0, a1⟩ := hok
   refine ⟨a0, ?_⟩
   rcases a1 with a1 | ⟨c, off, cap, vs, b1, b2, b3, b4, b5⟩
   ·exact .inl a1
   ·exact .inr ⟨c, off, cap, vs, b1, by rw [show Cx.w { k with w := k.w.alloc ob } = k.w.alloc ob from rfl, hold c (by rw [own_of_hget (k := k) hid]; simp only [ownOf]; rw [b1]; rfl)]; exact b2, b3, b4, fun i e j d v x y z => (b5 i e j d v x y z).mono (hrle _)⟩
  | map kvs =>
   obtain ⟨es, c, es', a1, hp, hk, hn, a2, a3⟩ := hok
   exact ⟨es, c, es', by rw [show Cx.β { k with w := k.w.alloc ob } id = k.β id from rfl, show Cx.w { k with w := k.w.alloc ob } = k.w.alloc ob from rfl, hold _ (by rw [own_of_hget (k := k) hid]; rfl)]; exact a1, hp, hk, hn, rell_mono a2 (hrle _) (Nat.le_refl _), rell_mono a3 (hrle _) (Nat.le_refl _)⟩

def Cx.adopt (k : Cx) (c : Nat) (zs : List D) : Cx := { w := k.w, β := fun i => if i = k.nid then c else k.β i, sv := k.sv, h := (k.nid, .box zs) :: k.h, nid := k.nid + 1 }

theorem adopt_own {k : Cx} {c : Nat} {zs : List D} (id : Nat) : (k.adopt c zs).own id = if id = k.nid then some c else k.own id := by
 simp only [Cx.own, Cx.adopt, hget]
 by_cases h : id = k.nid
 ·simp [h, ownOf]
 ·simp only [if_neg h]
  cases hq : hget k.h id with
  | none => simp [ownOf]
  | some blk => cases blk <;> simp [ownOf, h]

theorem good_adopt {X X' : Nat → Prop} {k0 k : Cx} {c : Nat} {zs : List D} {vs : List Value} {ty : TypeId} (hg : Good X k) (hle : Le k0 k) (hX : ∀ d, X d ↔ X' d ∨ d = c) (hc' : ¬ X' c) (hc : k0.w.heap.size ≤ c)
  (hh : k.w.heap[c]? = some (.cells (List.toArray vs) ty (0, 0))) (hz : ∀ R n, RelL R n vs zs) :
  Good X' (k.adopt c zs) ∧ Le k0 (k.adopt c zs) ∧ ∀ n, n ≤ k.nid → RLe n (k.R X) ((k.adopt c zs).R X') := by
 have hXc : X c := (hX c).2 (.inr rfl)
 have hnm : ¬ k.Mut c := fun ⟨i, hi⟩ => (hg.lt i c hi).2 hXc
 have hrle : ∀ n, n ≤ k.nid → RLe n (k.R X) ((k.adopt c zs).R X') := fun n hn => {
  β := fun b hb => by show (if b = k.nid then c else k.β b) = k.β b; rw [if_neg (by omega)]
  arr := fun b hb m' hm' => by
   have hm : lnOf (hget ((k.nid, .box zs) :: k.h) b) = some m' := hm'
   simp only [hget] at hm
   rw [if_neg (by omega)] at hm
   exact ⟨m', hm, Nat.le_refl _, fun _ => rfl⟩
  S := fun b ⟨h1, h2, h3⟩ => ⟨h1, fun h => h2 ((hX b).2 (.inl h)), fun ⟨i, hi⟩ => by
   rw [adopt_own] at hi
   by_cases hin : i = k.nid
   ·rw [if_pos hin] at hi; simp at hi; subst hi; exact h2 hXc
   ·rw [if_neg hin] at hi; exact h3 ⟨i, hi⟩⟩
  heap := fun _ _ _ => rfl
  map := fun _ _ _ _ h => h }
 refine ⟨⟨fun id blk h => ?_, fun i j d hi hj => ?_, fun i d hi => ?_, fun d hd => hg.xlt d ((hX d).2 (.inl hd)), fun id blk h => ?_⟩, ⟨?_, hle.os, hle.tape, hle.output, hle.size, fun id hid => ?_, fun id hid m' hm' => ?_, hle.heap, fun d hd ⟨i, hi⟩ => ?_⟩, hrle⟩
 ·simp only [Cx.adopt, hget] at h ⊢
  by_cases hi : id = k.nid
  ·omega
  ·rw [if_neg hi] at h; have := hg.key id blk h; omega
 ·rw [adopt_own] at hi hj
  by_cases h1 : i = k.nid <;> by_cases h2 : j = k.nid
  ·omega
  ·rw [if_pos h1] at hi; rw [if_neg h2] at hj; simp at hi; subst hi; exact absurd ⟨j, hj⟩ hnm
  ·rw [if_neg h1] at hi; rw [if_pos h2] at hj; simp at hj; subst hj; exact absurd ⟨i, hi⟩ hnm
  ·rw [if_neg h1] at hi; rw [if_neg h2] at hj; exact hg.inj i j d hi hj
 ·rw [adopt_own] at hi
  by_cases h1 : i = k.nid
  ·rw [if_pos h1] at hi; simp at hi; subst hi; exact ⟨hg.xlt _ hXc, hc'⟩
  ·rw [if_neg h1] at hi; have := hg.lt i d hi; exact ⟨this.1, fun h => this.2 ((hX d).2 (.inl h))⟩
 ·simp only [Cx.adopt, hget] at h
  by_cases hi : id = k.nid
  ·rw [if_pos hi] at h
   obtain rfl := Option.some.inj h
   exact ⟨vs, ty, by simp [Cx.adopt, hi]; exact hh, hz _ _⟩
  ·rw [if_neg hi] at h
   have hok := hg.ok id blk h
   cases blk with
   | box cs =>
    obtain ⟨vs', ty', a1, a2⟩ := hok
    exact ⟨vs', ty', by simp only [Cx.adopt, if_neg hi]; exact a1, rell_mono a2 (hrle _ (Nat.le_refl _)) (Nat.le_succ _)⟩
   | arr ty' sz es =>
    obtain ⟨a0, a1⟩ := hok
    refine ⟨a0, ?_⟩
    rcases a1 with a1 | ⟨d, off, cap, vs', b1, b2, b3, b4, b5⟩
    ·exact .inl a1
    ·exact .inr ⟨d, off, cap, vs', b1, b2, b3, b4, fun i e j d v x y z => (b5 i e j d v x y z).mono (hrle _ (Nat.zero_le _))⟩
   | map kvs =>
    obtain ⟨es, c', es', a1, hp, hk, hn, a2, a3⟩ := hok
    exact ⟨es, c', es', by simp only [Cx.adopt, if_neg hi]; exact a1, hp, hk, hn, rell_mono a2 (hrle _ (Nat.zero_le _)) (Nat.le_refl _), rell_mono a3 (hrle _ (Nat.le_refl _)) (Nat.le_succ _)⟩
 ·exact Nat.le_trans hle.nid (Nat.le_succ _)
 ·show (if id = k.nid then c else k.β id) = _
  have := hle.nid
  rw [if_neg (by omega)]; exact hle.β id hid
 ·have hm : lnOf (hget ((k.nid, .box zs) :: k.h) id) = some m' := hm'
  have := hle.nid
  simp only [hget] at hm
  rw [if_neg (by omega)] at hm
  exact hle.arr id hid m' hm
 ·rw [adopt_own] at hi
  by_cases h1 : i = k.nid
  ·rw [if_pos h1] at hi; simp at hi; omega
  ·rw [if_neg h1] at hi; exact hle.mb d hd ⟨i, hi⟩

section
variable {P : Program} {n0 : Nat} {ro : Option Nat} {ops : Array Oper} {b len : Nat} {fl : Bool} {re : List (Nat × Nat)} {st : Nat → St} {row : Nat → Row}

theorem run_zeroA {op : Op} {zs : List D} (h : zeroA P op = some zs) (a : Act) (o : Oper) (ho : o.op = op) (w : World) :
  ∃ vs ty, (execOp a.eval o).run P w = .ok (.value (.pointer (some ⟨w.heap.size, 0, none⟩))) (w.alloc (.cells (List.toArray vs) ty)) ∧ ∀ R n, RelL R n vs zs := by
 cases op with
 | alloc t =>
  obtain ⟨z, h1, h2⟩ := run_zeroD (P := P) (show zeroD P t = some zs from h) w
  refine ⟨z.cells.toList, t, ?_, fun R n => h2 R n⟩
  unfold execOp
  rw [ho]
  refine ok_bind_value _ _ _ _ _ ?_
  simp only [Instr.alloc, Sem.run_bind, h1, Result.andThen_ok]
  simp only [Sem.run_bind, run_alloc_box, Result.andThen_ok, Sem.run_pure]
 | _ => simp [zeroA] at h

theorem zeroA_not_defer {op : Op} {zs : List D} (h : zeroA P op = some zs) : ∀ c, op ≠ .defer c := fun c hc => by subst hc; simp [zeroA] at h

theorem Inv.float {listed : Array Bool} {X : Nat → Prop} {k0 k : Cx} {a : Act} {e : Env} {fb : Nat → Nat} {nx : Nat} (hph : PhF ops b len fl re)
  (hI : Inv P ops b len fl st row listed X k0 k a e fb nx) {p : Nat} (hp : p < len) {o : Oper} (ho : ops[b + p]? = some o) (hF : isF fl o = true) (hnr : ¬ Ran listed (b + p)) (hr : ∀ j ∈ bnd o, Ran listed j)
  {zs : List D} {vs : List Value} {ty : TypeId} (hz : zeroA P o.op = some zs) (hzs : ∀ R n, RelL R n vs zs) :
  ∃ e' fb', Inv P ops b len fl st row (listed.setIfInBounds (b + p) true) X k0 { k with w := k.w.alloc (.cells (List.toArray vs) ty) } (a.put o.dst (.pointer (some ⟨k.w.heap.size, 0, none⟩))) e' fb' nx := by
 have hE : isE fl o = false := by
  cases h : isE fl o with
  | false => rfl
  | true => rw [not_both h] at hF; cases hF
 obtain ⟨c1, c2⟩ := nx_quiet hph hI hp ho hE
 have hsz : b + p < listed.size := by rw [hI.size]; have := hph.size; omega
 have hrs := fun j => ran_set (listed := listed) (j := j) hsz
 let fb' : Nat → Nat := fun q => if q = p then k.w.heap.size else fb q
 have hg := hI.at_.good
 have hXi : ∀ c, Pend ops b len fl X (Ran (listed.setIfInBounds (b + p) true)) fb' c ↔ Pend ops b len fl X (Ran listed) fb c ∨ c = k.w.heap.size := fun c => by
  constructor
  ·rintro (h | ⟨q, hq, hf, hran, hc⟩)
   ·exact .inl (.inl h)
   ·by_cases hqp : q = p
    ·subst hqp; right; simpa [fb'] using hc
    ·rcases (hrs _).1 hran with h | h
     ·omega
     ·exact .inl (.inr ⟨q, hq, hf, h, by simpa [fb', hqp] using hc⟩)
  ·rintro ((h | ⟨q, hq, hf, hran, hc⟩) | h)
   ·exact .inl h
   ·have hqp : q ≠ p := fun h => by subst h; exact hnr hran
    exact .inr ⟨q, hq, hf, (hrs _).2 (.inr hran), by simpa [fb', hqp] using hc⟩
   ·exact .inr ⟨p, hp, ⟨o, ho, hF⟩, (hrs _).2 (.inl rfl), by simpa [fb'] using h⟩
 obtain ⟨g1, g2⟩ := good_float hg (.cells (List.toArray vs) ty) hXi
 have hle : Le k { k with w := k.w.alloc (.cells (List.toArray vs) ty) } := le_world rfl rfl rfl (by rw [alloc_size]; omega) fun c hc => alloc_heap _ _ _ hc
 have hfbs : ∀ q, q < len → (∃ o, ops[b + q]? = some o ∧ isF fl o = true) → Ran listed (b + q) → fb q < k.w.heap.size := fun q hq hf hran => hg.xlt _ (.inr ⟨q, hq, hf, hran, rfl⟩)
 have hact : ActOk (Pend ops b len fl X (Ran (listed.setIfInBounds (b + p) true)) fb') { k with w := k.w.alloc (.cells (List.toArray vs) ty) } k0.w.heap.size a e (st 0).n := by
  refine ⟨hI.at_.act.size, fun i => (hI.at_.act.rel i).mono (g2 _), ?_⟩
  obtain ⟨ms, m1, m2, m3⟩ := hI.at_.act.marks
  refine ⟨ms, m1, m2, fun r hr => ⟨(m3 r hr).1, ?_⟩⟩
  have hlt : r < k.w.heap.size := by
   rcases Nat.lt_or_ge r k.w.heap.size with h | h
   ·exact h
   ·have := (m3 r hr).2; rw [Array.getElem?_eq_none h] at this; cases this
  show (k.w.alloc _).heap[r]? = _
  rw [alloc_heap _ _ _ hlt]; exact (m3 r hr).2
 refine ⟨(St.put ⟨e, (st nx).h, (st nx).nid, (st 0).n⟩ o.dst (.raw (.pointer (some ⟨k.w.heap.size, 0, none⟩)))).env, fb', by simpa using hI.size, fun i hi => (hrs i).2 (.inr (hI.lo i hi)), fun i hi h => ?_, fun i o' ho' h j hj => ?_, hI.nxle, c1, c2,
  ⟨hI.at_.h, hI.at_.nid, g1, hI.at_.le.trans hle, ?_⟩, fun q hq h o' t ho' hd hlt => ?_, fun t h => ?_, fun q hq o' ho' hf h => ?_, fun q q' hq hq' hf hf' h h' he => ?_⟩
 ·rcases (hrs i).1 h with h | h
  ·omega
  ·exact hI.hi i hi h
 ·rcases (hrs i).1 h with h | h
  ·subst h; rw [ho] at ho'; cases ho'; exact (hrs j).2 (.inr (hr j hj))
  ·exact (hrs j).2 (.inr (hI.cl i o' ho' h j hj))
 ·have := ActOk.put (s := ⟨e, (st nx).h, (st nx).nid, (st 0).n⟩) hact o.dst (Rel.raw _ (.pointer (some ⟨k.w.heap.size, 0, none⟩)))
  rw [put_n] at this
  exact this
 ·rw [look_put]
  by_cases hqp : q = p
  ·subst hqp; rw [ho] at ho'; cases ho'
   rw [if_pos ⟨hd, hlt⟩, valP, hF]; simp [fb']
  ·rw [if_neg fun h' => hqp (uniq hph hq hp ho' ho hd h'.1)]
   rcases (hrs _).1 h with h | h
   ·omega
   ·rw [hI.e1 q hq h o' t ho' hd hlt]; simp [valP, fb', hqp]
 ·rw [look_put, if_neg fun h' => h p hp ((hrs _).2 (.inl rfl)) o ho h'.1 h'.2]
  exact hI.e2 t fun q hq hran => h q hq ((hrs _).2 (.inr hran))
 ·by_cases hqp : q = p
  ·subst hqp; rw [ho] at ho'; cases ho'
   exact ⟨by simpa [fb'] using hI.at_.le.size, fun hx => absurd (hg.xlt _ (.inl hx)) (by simp [fb']), zs, vs, ty, hz, by simp only [fb', if_true]; exact alloc_heap_new _ _, hzs⟩
  ·have hran : Ran listed (b + q) := by rcases (hrs _).1 h with h | h; · omega
                                        · exact h
   obtain ⟨f1, f0, zs', vs', ty', f2, f3, f4⟩ := hI.fz q hq o' ho' hf hran
   have hlt := hfbs q hq ⟨o', ho', hf⟩ hran
   refine ⟨by simpa [fb', hqp] using f1, by simpa [fb', hqp] using f0, zs', vs', ty', f2, ?_, f4⟩
   simp only [fb', if_neg hqp]
   show (k.w.alloc _).heap[fb q]? = _
   rw [alloc_heap _ _ _ hlt]; exact f3
 ·have hold : ∀ q, q < len → q ≠ p → Ran (listed.setIfInBounds (b + p) true) (b + q) → Ran listed (b + q) := fun q hq hqp h => by
   rcases (hrs _).1 h with h | h
   ·omega
   ·exact h
  by_cases h1 : q = p <;> by_cases h2 : q' = p
  ·omega
  ·have := hfbs q' hq' hf' (hold q' hq' h2 h')
   simp [fb', h1, h2] at he; omega
  ·have := hfbs q hq hf (hold q hq h1 h)
   simp [fb', h1, h2] at he; omega
  ·simp only [fb', if_neg h1, if_neg h2] at he
   exact hI.inj q q' hq hq' hf hf' (hold q hq h1 h) (hold q' hq' h2 h') he

end
end Go.Sx

/- Sx, part S: regions that draw their order: the whole. Own work. -/
namespace Go.Sx

section
variable {P : Program} {n0 : Nat} {ro : Option Nat} {ops : Array Oper} {b len : Nat} {fl : Bool} {re : List (Nat × Nat)} {st : Nat → St} {row : Nat → Row}

def adoptK (P : Program) (fl : Bool) : List Oper → St → (St → Prop) → Prop
 | [], s, K => K s
 | o :: r, s, K =>
  if isF fl o then
   match zeroA P o.op with
   | some zs => adoptK P fl r (St.put ⟨s.env, (s.nid, .box zs) :: s.h, s.nid + 1, s.n⟩ o.dst (.ptr s.nid 0)) K
   | none => False
  else adoptK P fl r s K

theorem adopt_go {X : Nat → Prop} {k0 : Cx} {a : Act} {fb : Nat → Nat} (w : World) {K : St → Prop}
  (inj : ∀ p q, p < len → q < len → (∃ o, ops[b + p]? = some o ∧ isF fl o = true) → (∃ o, ops[b + q]? = some o ∧ isF fl o = true) → fb p = fb q → p = q)
  (fz : ∀ p, p < len → ∀ o, ops[b + p]? = some o → isF fl o = true → k0.w.heap.size ≤ fb p ∧ ∃ zs vs ty, zeroA P o.op = some zs ∧ w.heap[fb p]? = some (.cells (List.toArray vs) ty (0, 0)) ∧ ∀ R n, RelL R n vs zs)
  (tp : ∀ p, p < len → ∀ o, ops[b + p]? = some o → isF fl o = true → ∀ t, o.dst = some t → t < a.tmps.size → a.tmps.getD t undef = .pointer (some ⟨fb p, 0, none⟩))
  (hX : ∀ p, p < len → (∃ o, ops[b + p]? = some o ∧ isF fl o = true) → ¬ X (fb p)) :
  ∀ (l : List Oper) (p : Nat) (s : St) (k : Cx), (∀ j, j < l.length → l[j]? = ops[b + (p + j)]?) → p + l.length = len → k.w = w →
   At (fun c => X c ∨ ∃ q, p ≤ q ∧ q < len ∧ (∃ o, ops[b + q]? = some o ∧ isF fl o = true) ∧ c = fb q) k0 k a s → adoptK P fl l s K → ∃ k' s', k'.w = w ∧ At X k0 k' a s' ∧ K s'
 | [], p, s, k, _, hl, hw, hat, hK => by
  simp only [List.length_nil, Nat.add_zero] at hl
  have hX' : (fun c => X c ∨ ∃ q, p ≤ q ∧ q < len ∧ (∃ o, ops[b + q]? = some o ∧ isF fl o = true) ∧ c = fb q) = X := funext fun c => propext ⟨fun h => h.elim id fun ⟨q, h1, h2, _⟩ => by omega, .inl⟩
  rw [hX'] at hat
  exact ⟨k, s, hw, hat, hK⟩
 | o :: r, p, s, k, hops, hl, hw, hat, hK => by
  have hp : p < len := by simp at hl; omega
  have ho : ops[b + p]? = some o := by have := hops 0 (by simp); simpa using this.symm
  have hrest : ∀ j, j < r.length → r[j]? = ops[b + (p + 1 + j)]? := fun j hj => by
   have := hops (j + 1) (by simp; omega)
   rw [show p + 1 + j = p + (j + 1) by omega, ← this]; simp
  simp only [adoptK] at hK
  split at hK
  ·rename_i hF
   split at hK
   ·rename_i zs hz
    obtain ⟨f1, zs', vs, ty, f2, f3, f4⟩ := fz p hp o ho hF
    rw [hz] at f2; cases f2
    have hsplit : ∀ d, (X d ∨ ∃ q, p ≤ q ∧ q < len ∧ (∃ o, ops[b + q]? = some o ∧ isF fl o = true) ∧ d = fb q) ↔
      (X d ∨ ∃ q, p + 1 ≤ q ∧ q < len ∧ (∃ o, ops[b + q]? = some o ∧ isF fl o = true) ∧ d = fb q) ∨ d = fb p := fun d => by
     constructor
     ·rintro (h | ⟨q, h1, h2, h3, h4⟩)
      ·exact .inl (.inl h)
      ·by_cases hq : q = p
       ·subst hq; exact .inr h4
       ·exact .inl (.inr ⟨q, by omega, h2, h3, h4⟩)
     ·rintro ((h | ⟨q, h1, h2, h3, h4⟩) | h)
      ·exact .inl h
      ·exact .inr ⟨q, by omega, h2, h3, h4⟩
      ·exact .inr ⟨p, Nat.le_refl _, hp, ⟨o, ho, hF⟩, h⟩
    have hnX : ¬ (X (fb p) ∨ ∃ q, p + 1 ≤ q ∧ q < len ∧ (∃ o, ops[b + q]? = some o ∧ isF fl o = true) ∧ fb p = fb q) := by
     rintro (h | ⟨q, h1, h2, h3, h4⟩)
     ·exact hX p hp ⟨o, ho, hF⟩ h
     ·have := inj p q hp h2 ⟨o, ho, hF⟩ h3 h4; omega
    obtain ⟨g1, g2, g3⟩ := good_adopt (zs := zs) hat.good hat.le hsplit hnX f1 (by rw [hw]; exact f3) f4
    refine adopt_go w inj fz tp hX r (p + 1) _ (k.adopt (fb p) zs) hrest (by simp at hl; omega) hw ⟨?_, ?_, g1, g2, ?_⟩ hK
    ·rw [put_h]; simp [Cx.adopt, hat.h, hat.nid]
    ·rw [put_nid]; simp [Cx.adopt, hat.nid]
    ·have hact : ActOk (fun c => X c ∨ ∃ q, p + 1 ≤ q ∧ q < len ∧ (∃ o, ops[b + q]? = some o ∧ isF fl o = true) ∧ c = fb q) (k.adopt (fb p) zs) k0.w.heap.size a s.env s.n :=
      ⟨hat.act.size, fun i => ((hat.act.rel i).mono (g3 _ (Nat.le_refl _))).weak (Nat.le_succ _), hat.act.marks⟩
     refine ⟨by rw [put_n]; exact hact.size, fun i => ?_, hact.marks⟩
     rw [look_put]
     split
     ·rename_i hi
      rw [tp p hp o ho hF i hi.1 (by rw [hact.size]; exact hi.2)]
      have := Rel.ptr (R := (k.adopt (fb p) zs).R fun c => X c ∨ ∃ q, p + 1 ≤ q ∧ q < len ∧ (∃ o, ops[b + q]? = some o ∧ isF fl o = true) ∧ c = fb q) (k.nid + 1) k.nid 0 (by omega)
      simpa [Cx.R, Cx.adopt, hat.nid] using this
     ·exact hact.rel i
   ·exact hK.elim
  ·rename_i hF
   have hX' : (fun c => X c ∨ ∃ q, p ≤ q ∧ q < len ∧ (∃ o, ops[b + q]? = some o ∧ isF fl o = true) ∧ c = fb q) = fun c => X c ∨ ∃ q, p + 1 ≤ q ∧ q < len ∧ (∃ o, ops[b + q]? = some o ∧ isF fl o = true) ∧ c = fb q :=
    funext fun c => propext (or_congr Iff.rfl (exists_congr fun q => ⟨fun ⟨h1, h2, h3, h4⟩ => ⟨by
     rcases Nat.lt_or_ge p q with h | h
     ·exact h
     ·have : q = p := by omega
      subst this
      obtain ⟨o', ho', hf⟩ := h3
      rw [ho] at ho'; cases ho'; exact absurd hf hF, h2, h3, h4⟩, fun ⟨h1, h2, h3, h4⟩ => ⟨by omega, h2, h3, h4⟩⟩))
   rw [hX'] at hat
   exact adopt_go w inj fz tp hX r (p + 1) s k hrest (by simp at hl; omega) hw hat hK

def AAny (P : Program) (n0 : Nat) (ro : Option Nat) (ops : Array Oper) (b : Nat) (s : St) (K : St → Prop) : Prop :=
 ∀ X k0 k a (Q : Exit → Act → World → Prop), k0.nid = n0 → At X k0 k a s → (∀ k' a' s', K s' → At X k0 k' a' s' → KeptA ops a a' → Q .normal a' k'.w) →
  ∀ (listed : Array Bool) (fuel : Nat), listed.size = ops.size → (∀ i, i < ops.size → (Ran listed i ↔ i < b)) → ops.size - b ≤ fuel → wpAnyIn (FW ro) 0 P .any ops Q fuel listed a k.w

theorem aany_nil {s : St} {K : St → Prop} (hb : ops.size ≤ b) (h : K s) : AAny P n0 ro ops b s K := by
 intro X k0 k a Q hn hat hk listed fuel hs hr hf
 have hnil : Region.ready .any ops listed = [] := by
  cases hq : Region.ready .any ops listed with
  | nil => rfl
  | cons i r =>
   have hi : i ∈ Region.ready .any ops listed := by rw [hq]; simp
   obtain ⟨o, ho, hn, _⟩ := (mem_ready hs).1 hi
   have hlt : i < ops.size := by
    rcases Nat.lt_or_ge i ops.size with h | h
    ·exact h
    ·rw [Array.getElem?_eq_none h] at ho; cases ho
   exact absurd ((hr i hlt).2 (by omega)) hn
 have hq := hk k a s h hat (.refl _ _)
 cases fuel with
 | zero => exact ⟨hnil, hq⟩
 | succ n => exact ⟨fun _ => hq, fun i hi => by rw [hnil] at hi; cases hi⟩

theorem phase_go (hT : TRun P fl ops b len st row) (hph : PhF ops b len fl re) (hb : Back ops) (hre : ∀ p y, (p, y) ∈ re → p < len → y ≤ len → (row p).run = true → ReOk P fl (row p) (st y).h)
  {X : Nat → Prop} {k0 : Cx} {Q : Exit → Act → World → Prop} (hn : k0.nid = n0) (a0 : Act)
  (hend : ∀ listed k a e fb fuel, Inv P ops b len fl st row listed X k0 k a e fb len → KeptA ops a0 a → (∀ i, i < b + len → Ran listed i) → ops.size - (b + len) ≤ fuel → wpAnyIn (FW ro) 0 P .any ops Q fuel listed a k.w) :
  ∀ fuel listed k a e fb nx, Inv P ops b len fl st row listed X k0 k a e fb nx → KeptA ops a0 a → unl (fun i => listed.getD i true) ops.size ≤ fuel → wpAnyIn (FW ro) 0 P .any ops Q fuel listed a k.w := by
 intro fuel
 induction fuel with
 | zero =>
  intro listed k a e fb nx hI hdf hf
  have hall : ∀ i, i < ops.size → Ran listed i := fun i hi => by
   cases hg : listed.getD i true with
   | true =>
    have hlt : i < listed.size := by rw [hI.size]; exact hi
    simp only [Ran, Array.getD_eq_getD_getElem?, Array.getElem?_eq_getElem hlt] at hg ⊢
    simpa using hg
   | false => have := unl_pos (f := fun i => listed.getD i true) hi hg; omega
  have hnx : nx = len := by
   rcases Nat.lt_or_ge nx len with h | h
   ·have := hph.size; exact absurd (hall (b + nx) (by omega)) (hI.nx1 h).2
   ·have := hI.nxle; omega
  subst hnx
  refine hend listed k a e fb 0 hI hdf (fun i hi => hall i (by have := hph.size; omega)) ?_
  rcases Nat.lt_or_ge (b + nx) ops.size with h | h
  ·exact absurd (hall _ h) (hI.hi _ (Nat.le_refl _))
  ·omega
 | succ fuel ih =>
  intro listed k a e fb nx hI hdf hf
  by_cases hfull : ∀ i, i < b + len → Ran listed i
  ·have hnx : nx = len := by
    rcases Nat.lt_or_ge nx len with h | h
    ·exact absurd (hfull (b + nx) (by omega)) (hI.nx1 h).2
    ·have := hI.nxle; omega
   subst hnx
   refine hend listed k a e fb (fuel + 1) hI hdf hfull ?_
   exact Nat.le_trans (by
    have : ops.size - (b + nx) ≤ unl (fun i => listed.getD i true) ops.size := by
     have key : ∀ n, n ≤ ops.size → n - (b + nx) ≤ unl (fun i => listed.getD i true) n := by
      intro n
      induction n with
      | zero => intro _; simp
      | succ n ihn =>
       intro hle
       have := ihn (by omega)
       simp only [unl]
       by_cases hn : n < b + nx
       ·split <;> omega
       ·have hnr := hI.hi n (by omega)
        have : listed.getD n true = false := by
         have hlt : n < listed.size := by rw [hI.size]; omega
         simp only [Ran, Array.getD_eq_getD_getElem?, Array.getElem?_eq_getElem hlt] at hnr ⊢
         simpa using hnr
        simp only [this, Bool.false_eq_true, if_false]; omega
     exact key _ (Nat.le_refl _)
    exact this) hf
  ·refine ⟨fun hnil => ?_, fun i hi => ?_⟩
   ·exfalso
    have hmin : ∃ i, i < b + len ∧ ¬ Ran listed i ∧ ∀ j, j < i → Ran listed j := by
     have : ∀ n, (∃ i, i < n ∧ ¬ Ran listed i) → ∃ i, i < n ∧ ¬ Ran listed i ∧ ∀ j, j < i → Ran listed j := by
      intro n
      induction n with
      | zero => rintro ⟨i, h, _⟩; omega
      | succ n ihn =>
       rintro ⟨i, h1, h2⟩
       by_cases hex : ∃ i, i < n ∧ ¬ Ran listed i
       ·obtain ⟨i, a, c, d⟩ := ihn hex; exact ⟨i, by omega, c, d⟩
       ·refine ⟨i, h1, h2, fun j hj => ?_⟩
        by_cases hr : Ran listed j
        ·exact hr
        ·exact absurd ⟨j, by omega, hr⟩ hex
     refine this _ ?_
     simp only [Classical.not_forall] at hfull
     obtain ⟨i, h1, h2⟩ := hfull
     exact ⟨i, h1, h2⟩
    obtain ⟨i, h1, h2, h3⟩ := hmin
    have hlt : i < ops.size := by have := hph.size; omega
    have hm : i ∈ Region.ready .any ops listed := (mem_ready hI.size).2 ⟨ops[i], by simp [hlt], h2, fun j hj => h3 j (hb i _ (by simp [hlt]) j hj)⟩
    rw [hnil] at hm; cases hm
   ·obtain ⟨o, ho, hnr, hr⟩ := (mem_ready hI.size).1 hi
    have hilt : i < ops.size := by
     rcases Nat.lt_or_ge i ops.size with h | h
     ·exact h
     ·rw [Array.getElem?_eq_none h] at ho; cases ho
    have hib : b ≤ i := by
     rcases Nat.lt_or_ge i b with h | h
     ·exact absurd (hI.lo i h) hnr
     ·exact h
    have hil : i < b + len := by
     rcases Nat.lt_or_ge i (b + len) with h | h
     ·exact h
     ·exfalso
      apply hfull
      intro j hj
      rcases Nat.lt_or_ge j b with h4 | h4
      ·exact hI.lo j h4
      ·have := hph.bar i h hilt (j - b) (by omega)
       rw [show b + (j - b) = j by omega] at this
       exact bef_sound hb hI.cl i o ho hr j this
    obtain ⟨p, rfl⟩ : ∃ p, i = b + p := ⟨i - b, by omega⟩
    have hp : p < len := by omega
    have hro := hT.step p hp o ho
    have hsz : b + p < listed.size := by rw [hI.size]; exact hilt
    have hfuel : unl (fun i => (listed.setIfInBounds (b + p) true).getD i true) ops.size ≤ fuel := by
     have hs := (unl_set (f := fun i => listed.getD i true) (g := fun i => (listed.setIfInBounds (b + p) true).getD i true) (i := b + p) (by
      simp only [Ran, Array.getD_eq_getD_getElem?, Array.getElem?_eq_getElem hsz] at hnr ⊢
      simpa using hnr) (by simp [Array.getD_eq_getD_getElem?, Array.getElem?_setIfInBounds_self_of_lt hsz]) (fun j hj => by
      simp only [Array.getD_eq_getD_getElem?, Array.getElem?_setIfInBounds_ne (Ne.symm hj)]) ops.size).2 hilt
     omega
    have hev := evO_read hT hph hb hI hp ho hnr hr
    -- the guard
    have hwant : Region.wanted o (yielded ops a.tmps) = (row p).run := by
     have hg := hro.guard
     unfold Region.wanted
     cases hgd : o.guard with
     | none => rw [hgd] at hg; simp only at hg ⊢; exact hg.symm
     | some jw =>
      obtain ⟨j, w⟩ := jw
      rw [hgd] at hg
      obtain ⟨t, g1, g⟩ := hg
      have hrd := hI.read hT hph hb hp ho hnr hr (t := t) (by simp only [readsG, hgd, g1]; simp)
      simp only
      rcases g with ⟨bb, g2, g3⟩ | ⟨g2, g3⟩
      ·rw [yielded_eq hI.at_.act g1 (hrd.trans g2), g3]
       cases bb <;> cases w <;> rfl
      ·rw [yielded_off hI.at_.act g1 (hrd.trans g2), g3]
       rfl
    simp only [wpOpIn, ho, hwant]
    have hstep := hro.step
    cases hrun : (row p).run with
    | false =>
     rw [hrun] at hstep
     simp only [Bool.false_eq_true, if_false] at hstep ⊢
     refine ⟨fun _ _ => trivial, ?_⟩
     have hF : isF fl o = false := by
      cases hf : isF fl o with
      | false => rfl
      | true =>
       have hg := hro.guard
       rw [hph.flg p hp o ho hf] at hg
       simp only at hg
       rw [hrun] at hg; cases hg
     have hat' : ∀ nx', (st nx').h = (st nx).h → (st nx').nid = (st nx).nid → At (Pend ops b len fl X (Ran listed) fb) k0 k (a.put o.dst undef) ⟨(St.put ⟨e, (st nx).h, (st nx).nid, (st 0).n⟩ o.dst (row p).d).env, (st nx').h, (st nx').nid, (st 0).n⟩ := fun nx' h1 h2 => by
      have := hI.at_.act.put (s := ⟨e, (st nx).h, (st nx).nid, (st 0).n⟩) o.dst (v := undef) (d := (row p).d) (by rw [hstep.1]; exact .tup _ [] [] rfl (by simp))
      rw [put_n] at this
      exact ⟨by rw [h1]; exact hI.at_.h, by rw [h2]; exact hI.at_.nid, hI.at_.good, hI.at_.le, this⟩
     cases hE : isE fl o with
     | false =>
      obtain ⟨c1, c2⟩ := nx_quiet hph hI hp ho hE
      exact ih _ _ _ _ fb nx (hI.next hph hp ho hF hr (hat' nx rfl rfl) (.refl k) (fun t => look_put _ _ _ _ _ _ _) hI.nxle c1 c2) (hdf.trans (.put ho _ _)) hfuel
     | true =>
      have hnx := eff_next hph hb hI hp ho hnr hr hE
      subst hnx
      obtain ⟨nx', d1, d2, d3, c1, c2⟩ := nx_eff hph hb hI hp ho hE
      obtain ⟨s1, s2⟩ := text_stills hT hph nx' d1 d2 d3
      exact ih _ _ _ _ fb nx' (hI.next hph hp ho hF hr (hat' nx' (s1.trans hstep.2.1) (s2.trans hstep.2.2)) (.refl k) (fun t => look_put _ _ _ _ _ _ _) d2 c1 c2) (hdf.trans (.put ho _ _)) hfuel
    | true =>
     rw [hrun] at hstep
     simp only [if_true] at hstep ⊢
     unfold OStep at hstep
     cases hk : dkind fl o.op with
     | float =>
      rw [hk] at hstep
      obtain ⟨zs, hz⟩ := Option.isSome_iff_exists.1 hstep.1
      have hF : isF fl o = true := by simp [isF, hk]
      obtain ⟨vs, ty, h1, h2⟩ := run_zeroA hz a o rfl k.w
      obtain ⟨e', fb', hI'⟩ := hI.float hph hp ho hF hnr hr hz h2
      refine ⟨fun _ _ => trivial, ?_⟩
      rw [semAt_eq _ _ (zeroA_not_defer hz), h1]
      exact ih _ { k with w := k.w.alloc (.cells (List.toArray vs) ty) } _ e' fb' nx hI' (hdf.trans (.put ho _ _)) hfuel
     | eff =>
      rw [hk] at hstep
      have hE : isE fl o = true := by simp [isE, hk]
      have hF := not_both hE
      have hnx := eff_next hph hb hI hp ho hnr hr hE
      subst hnx
      obtain ⟨nx', d1, d2, d3, c1, c2⟩ := nx_eff hph hb hI hp ho hE
      obtain ⟨s1, s2⟩ := text_stills hT hph nx' d1 d2 d3
      have hop : opF P o.op (evO e) (st nx).h (st nx).nid = some ((row nx).d, (st (nx + 1)).h, (st (nx + 1)).nid) := by
       rw [← opF_congr hev]; exact hstep
      have hok : OpOk P n0 ro o ⟨e, (st nx).h, (st nx).nid, (st 0).n⟩ fun s' => s' = St.put ⟨e, (st (nx + 1)).h, (st (nx + 1)).nid, (st 0).n⟩ o.dst (row nx).d := opOk_eff hop rfl
      refine hok _ k0 k a Q _ hn hI.at_ fun k' a' s' hs' hat' hle hd' => ?_
      subst hs'
      refine ih _ k' a' _ fb nx' (hI.next hph hp ho hF hr (e' := (St.put ⟨e, (st (nx + 1)).h, (st (nx + 1)).nid, (st 0).n⟩ o.dst (row nx).d).env) ⟨?_, ?_, hat'.good, hat'.le, ?_⟩ hle (fun t => look_put _ _ _ _ _ _ _) d2 c1 c2) (hdf.trans (.one ho hd')) hfuel
      ·rw [hat'.h, put_h]; exact s1.symm
      ·rw [hat'.nid, put_nid]; exact s2.symm
      ·have := hat'.act; rw [put_n] at this; exact this
     | quiet =>
      rw [hk] at hstep
      have hE : isE fl o = false := by simp [isE, hk]
      have hF : isF fl o = false := by simp [isF, hk]
      obtain ⟨c1, c2⟩ := nx_quiet hph hI hp ho hE
      have hq : quietD P o.op (evO e) (st nx).h = some (row p).d := by
       rw [← quietD_congr hev]
       cases hi : indep o.op with
       | true => rw [quietD_indep (h' := (st p).h) hi]; exact hstep.1
       | false =>
        rcases meets hT hph hb hI hp ho hnr hr hE hF hi with h | h
        ·rw [h]; exact hstep.1
        ·have := hre p nx h hp hI.nxle hrun
         unfold ReOk at this
         rw [hro.op, hk] at this
         exact this
      have hok : OpOk P n0 ro o ⟨e, (st nx).h, (st nx).nid, (st 0).n⟩ fun s' => s' = St.put ⟨e, (st nx).h, (st nx).nid, (st 0).n⟩ o.dst (row p).d := opOk_quiet hq rfl
      refine hok _ k0 k a Q _ hn hI.at_ fun k' a' s' hs' hat' hle hd' => ?_
      subst hs'
      refine ih _ k' a' _ fb nx (hI.next hph hp ho hF hr (e' := (St.put ⟨e, (st nx).h, (st nx).nid, (st 0).n⟩ o.dst (row p).d).env) ⟨?_, ?_, hat'.good, hat'.le, ?_⟩ hle (fun t => look_put _ _ _ _ _ _ _) hI.nxle c1 c2) (hdf.trans (.one ho hd')) hfuel
      ·rw [hat'.h, put_h]
      ·rw [hat'.nid, put_nid]
      ·have := hat'.act; rw [put_n] at this; exact this
     | call =>
      rw [hk] at hstep
      have hE : isE fl o = false := by simp [isE, hk]
      have hF : isF fl o = false := by simp [isF, hk]
      obtain ⟨c1, c2⟩ := nx_quiet hph hI hp ho hE
      have hcq := hstep.1
      unfold callQC at hcq
      split at hcq
      ·rename_i c hop
       split at hcq
       ·rename_i f ds hcal
        have hi : indep o.op = false := by rw [hop]; rfl
        have hcal' : calleeD e c = some (f, ds) := by
         rw [← hcal]; exact (calleeD_congr (by rw [← hop]; exact fun x hx => (hev x hx))).symm
        have hqc : QC P f ds (st nx).h (row p).d := by
         rcases meets hT hph hb hI hp ho hnr hr hE hF hi with h | h
         ·rw [h]; exact hcq
         ·have := hre p nx h hp hI.nxle hrun
          unfold ReOk at this
          rw [hro.op, hk] at this
          simp only [hop, hcal] at this
          unfold QC at hcq ⊢
          rw [this, hro.h]
          exact hcq
        have hok : OpOk P n0 ro o ⟨e, (st nx).h, (st nx).nid, (st 0).n⟩ fun s' => s' = St.put ⟨e, (st nx).h, (st nx).nid, (st 0).n⟩ o.dst (row p).d := opOk_qc hop hcal' hqc rfl
        refine hok _ k0 k a Q _ hn hI.at_ fun k' a' s' hs' hat' hle hd' => ?_
        subst hs'
        refine ih _ k' a' _ fb nx (hI.next hph hp ho hF hr (e' := (St.put ⟨e, (st nx).h, (st nx).nid, (st 0).n⟩ o.dst (row p).d).env) ⟨?_, ?_, hat'.good, hat'.le, ?_⟩ hle (fun t => look_put _ _ _ _ _ _ _) hI.nxle c1 c2) (hdf.trans (.one ho hd')) hfuel
        ·rw [hat'.h, put_h]
        ·rw [hat'.nid, put_nid]
        ·have := hat'.act; rw [put_n] at this; exact this
       ·exact hcq.elim
      ·exact hcq.elim

end
end Go.Sx

/- Sx, part T: regions that draw their order: conditions out of the code. Own work. -/
namespace Go.Sx

section
variable {P : Program} {n0 : Nat} {ro : Option Nat} {ops : Array Oper} {b len : Nat} {fl : Bool} {re : List (Nat × Nat)} {st : Nat → St} {row : Nat → Row}

theorem aany_phase {K : St → Prop} (hT : TRun P fl ops b len st row) (hph : PhF ops b len fl re) (hb : Back ops) (hre : ∀ p y, (p, y) ∈ re → p < len → y ≤ len → (row p).run = true → ReOk P fl (row p) (st y).h)
  (hK : adoptK P fl ((ops.toList.drop b).take len) (st len) fun s' => AAny P n0 ro ops (b + len) s' K) : AAny P n0 ro ops b (st 0) K := by
 intro X k0 k a Q hn hat hk listed fuel hs hr hf
 have hsz := hph.size
 have hnone : ∀ p, p < len → ¬ Ran listed (b + p) := fun p hp h => by have := (hr (b + p) (by omega)).1 h; omega
 have hnr : ∀ i, b + len ≤ i → ¬ Ran listed i := fun i hi h => by
  rcases Nat.lt_or_ge i ops.size with hlt | hge
  ·have := (hr i hlt).1 h; omega
  ·simp only [Ran, Array.getD_eq_getD_getElem?, Array.getElem?_eq_none (show listed.size ≤ i by omega)] at h; simp at h
 obtain ⟨nx, _, d1, d2, d3⟩ := next_eff ops fl b len len 0 (by omega)
 obtain ⟨s1, s2⟩ := text_stills hT hph nx (Nat.zero_le _) d1 fun q h1 h2 => d3 q h1 h2
 have hX : Pend ops b len fl X (Ran listed) (fun _ => 0) = X := funext fun c => propext ⟨fun h => h.elim id fun ⟨q, h1, _, h3, _⟩ => absurd h3 (hnone q h1), .inl⟩
 have hI : Inv P ops b len fl st row listed X k0 k a (st 0).env (fun _ => 0) nx := by
  refine ⟨hs, fun i hi => (hr i (by omega)).2 hi, hnr, fun i o ho h j hj => ?_, d1, fun h => ⟨d2 h, hnone nx h⟩, fun p h1 h2 => absurd h2 (d3 p (Nat.zero_le _) h1), ?_, fun p hp h => absurd h (hnone p hp), fun _ _ => rfl, fun p hp _ _ _ h => absurd h (hnone p hp), fun p _ hp _ _ _ h => absurd h (hnone p hp)⟩
  ·have hi : i < ops.size := by
    rcases Nat.lt_or_ge i ops.size with h | h
    ·exact h
    ·rw [Array.getElem?_eq_none h] at ho; cases ho
   have h1 := (hr i hi).1 h
   have h2 := hb i o ho j hj
   exact (hr j (by omega)).2 (by omega)
  ·rw [hX]
   exact ⟨by rw [hat.h]; exact s1.symm, by rw [hat.nid]; exact s2.symm, hat.good, hat.le, hat.act⟩
 have hunl : unl (fun i => listed.getD i true) ops.size ≤ fuel := by
  refine Nat.le_trans (unl_low (c := b) (fun i hi => ?_) ops.size) hf
  have hlt : i < listed.size := by omega
  have := (hr i (by omega)).2 hi
  simp only [Ran, Array.getD_eq_getD_getElem?, Array.getElem?_eq_getElem hlt] at this ⊢
  simpa using this
 refine phase_go hT hph hb hre hn a ?_ fuel listed k a _ _ nx hI (.refl _ _) hunl
 intro listed' k' a' e fb fuel' hI' hdf' hall hf'
 have hg := hI'.at_.good
 have hran : ∀ p, p < len → Ran listed' (b + p) := fun p hp => hall _ (by omega)
 have hX' : Pend ops b len fl X (Ran listed') fb = fun c => X c ∨ ∃ q, 0 ≤ q ∧ q < len ∧ (∃ o, ops[b + q]? = some o ∧ isF fl o = true) ∧ c = fb q :=
  funext fun c => propext (or_congr Iff.rfl (exists_congr fun q => ⟨fun ⟨h1, h2, _, h4⟩ => ⟨Nat.zero_le _, h1, h2, h4⟩, fun ⟨_, h1, h2, h4⟩ => ⟨h1, h2, hran q h1, h4⟩⟩))
 have hlen : ((ops.toList.drop b).take len).length = len := by simp; omega
 have hat' : At (fun c => X c ∨ ∃ q, 0 ≤ q ∧ q < len ∧ (∃ o, ops[b + q]? = some o ∧ isF fl o = true) ∧ c = fb q) k0 k' a' (st len) := by
  rw [← hX']
  refine ⟨hI'.at_.h, hI'.at_.nid, hg, hI'.at_.le, ⟨by rw [text_n hT hph len (Nat.le_refl _)]; exact hI'.at_.act.size, fun t => ?_, hI'.at_.act.marks⟩⟩
  by_cases hw : ∃ p, p < len ∧ ∃ o, ops[b + p]? = some o ∧ o.dst = some t ∧ t < (st 0).n
  ·obtain ⟨p, hp, o, ho, hd, hlt⟩ := hw
   rw [text_writer hT hph hp ho hd hlt len hp (Nat.le_refl _)]
   have h1 := hI'.e1 p hp (hran p hp) o t ho hd hlt
   have h2 := hI'.at_.act.rel t
   cases hF : isF fl o with
   | true =>
    have hstep := (hT.step p hp o ho).step
    have hrun : (row p).run = true := by
     have hg := (hT.step p hp o ho).guard
     rw [hph.flg p hp o ho hF] at hg
     exact hg
    have : (row p).d = .any := by
     rw [hrun] at hstep
     split at hstep
     ·unfold OStep at hstep
      have hk : dkind fl o.op = .float := by
       unfold isF at hF
       cases hk : dkind fl o.op <;> simp_all
      rw [hk] at hstep
      exact hstep.2.1
     ·rename_i hf; exact absurd rfl hf
    rw [this]; exact .any _ _
   | false =>
    rw [valP, hF] at h1
    simp only [Bool.false_eq_true, if_false] at h1
    rw [← h1]; exact h2
  ·have hno : ∀ p, p < len → ∀ o, ops[b + p]? = some o → o.dst = some t → ¬ t < (st 0).n := fun p hp o ho hd hlt => hw ⟨p, hp, o, ho, hd, hlt⟩
   rw [text_other hT hph len (Nat.le_refl _) hno, ← hI'.e2 t fun p hp _ => hno p hp]
   exact hI'.at_.act.rel t
 obtain ⟨k2, s2, hw2, hat2, hK2⟩ := adopt_go (P := P) (fl := fl) (ops := ops) (b := b) (len := len) (X := X) (k0 := k0) (a := a') (fb := fb) k'.w
  (fun p q hp hq h1 h2 => hI'.inj p q hp hq h1 h2 (hran p hp) (hran q hq)) (fun p hp o ho hF => let ⟨f1, _, f2⟩ := hI'.fz p hp o ho hF (hran p hp); ⟨f1, f2⟩)
  (fun p hp o ho hF t hd ht => by
   have hlt : t < (st 0).n := by rw [hI'.at_.act.size] at ht; exact ht
   have h1 := hI'.e1 p hp (hran p hp) o t ho hd hlt
   have h2 := hI'.at_.act.rel t
   simp only at h2
   rw [h1, valP, hF, if_pos rfl] at h2
   generalize a'.tmps.getD t undef = v at h2
   cases h2; rfl)
  (fun p hp ⟨o, ho, hf⟩ => (hI'.fz p hp o ho hf (hran p hp)).2.1)
  _ 0 (st len) k' (fun j hj => by
   rw [hlen] at hj
   simp only [List.getElem?_take, List.getElem?_drop, Nat.zero_add]
   rw [if_pos hj]; simp) (by rw [hlen]; omega) rfl hat' hK
 rw [← hw2]
 refine hK2 X k0 k2 a' Q hn hat2 (fun k3 a3 s3 x y z => hk k3 a3 s3 x y (hdf'.trans z)) listed' fuel' hI'.size (fun i hi => ⟨fun h => ?_, hall i⟩) hf'
 rcases Nat.lt_or_ge i (b + len) with h1 | h1
 ·exact h1
 ·exact absurd h (hI'.hi i h1)

end
end Go.Sx

/- Sx, part T2: own arrays that become data when they are put into a literal of a slice. Own work. -/
namespace Go.Sx

def isOsl : D → Bool
 | .osl _ _ => true
 | _ => false

def frzH (h : H) : List D → H
 | [] => h
 | .osl b _ :: r => herase (frzH h r) b
 | _ :: r => frzH h r

theorem frzH_sub (h : H) : ∀ (l : List D) (id : Nat) (blk : Blk), hget (frzH h l) id = some blk → hget h id = some blk
 | [], id, blk, hb => hb
 | d :: r, id, blk, hb => by
  cases d with
  | osl b n =>
   simp only [frzH, herase_get] at hb
   split at hb
   ·cases hb
   ·exact frzH_sub h r id blk hb
  | _ => exact frzH_sub h r id blk (by simpa [frzH] using hb)

def frzD (h h' : H) : D → D
 | .osl b n =>
  match hget h' b with
  | some _ => .osl b n
  | none =>
   match hget h b with
   | some (.arr _ _ es) => if n = es.length then .sl es else .osl b n
   | _ => .osl b n
 | .mp b =>
  match hget h' b with
  | some _ => .mp b
  | none =>
   match hget h b with
   | some (.map kvs) => if D.ltL 0 (kvs.map (·.2)) then .mpd kvs else .mp b
   | _ => .mp b
 | .ptr b o =>
  match hget h' b with
  | some _ => .ptr b o
  | none =>
   match hget h b with
   | some (.box cs) =>
    match cs, o with
    | [.mpd kvs], 0 => .refm kvs
    | cs, o => if D.ltL 0 cs then .ref cs o else .ptr b o
   | _ => .ptr b o
 | d => d

def selF {α : Type} (b : Bool) (x y : α) : α :=
 match b with
 | true => x
 | false => y
def partsOsl : List (Nat × D) → Bool
 | [] => false
 | q :: r => selF (isOsl q.2) true (partsOsl r)

def litFD (P : Program) (h : H) (nid : Nat) (t : TypeId) (len : Nat) (parts : List (Nat × D)) : Option (D × H × Nat) :=
 selF (partsOsl parts) (litOpD P (frzH h (parts.map (·.2))) nid t len (parts.map fun q => (q.1, frzD h (frzH h (parts.map (·.2))) q.2)))
  (litOpD P h nid t len parts)

theorem frz_rel {X : Nat → Prop} {k : Cx} (hg : Good X k) {h' : H} (hsub : ∀ id blk, hget h' id = some blk → hget k.h id = some blk) {v : Value} {d : D} (hr : Rel (k.R X) k.nid v d) :
  Rel (Cx.R X { k with h := h', nid := k.nid }) k.nid v (frzD k.h h' d) := by
 have hdrop := Rel.drop (nid' := k.nid) hsub hr (.inl (Nat.le_refl _))
 have hnot : ∀ (b bb : Nat), k.own b = some bb → hget h' b = none → ¬ Cx.Mut { k with h := h', nid := k.nid } bb := fun b bb hown hgone ⟨id, hid⟩ => by
  have hid' : k.own id = some bb := by
   simp only [Cx.own] at hid ⊢
   cases hq : hget h' id with
   | none => rw [hq] at hid; simp [ownOf] at hid
   | some blk => rw [hq] at hid; rw [hsub id blk hq]; cases blk <;> simpa [ownOf] using hid
  have := hg.inj id b bb hid' hown
  subst this
  simp only [Cx.own, hgone] at hid
  simp [ownOf] at hid
 cases d with
 | osl b n =>
  simp only [frzD]
  split
  ·exact hdrop
  ·rename_i hgone
   split
   ·rename_i ty sz es hb
    split
    ·rename_i hl
     cases hr with
     | osl _ _ _ _ h1 h2 =>
      have hv := (h2 es.length (by simp [Cx.R, hb, lnOf])).2 hl
      obtain ⟨a0, a1⟩ := hg.ok b _ hb
      rcases a1 with ⟨a1, a2⟩ | ⟨bb, bo, cap, vs, a1, a2, a3, a4, a5⟩
      ·have : (k.R X).sv b = .slice none 0 0 := a1
       rw [hv, this, a2]; exact .sln _
      ·have hs : (k.R X).sv b = .slice (some ⟨bb, bo, none⟩) es.length cap := a1
       have hown : k.own b = some bb := by rw [own_of_hget hb]; simp [ownOf, a1, slBlk]
       have hlt := hg.lt b _ hown
       rw [hv, hs]
       have hin : ∀ (i : Nat) e (j : Nat) d, es[i]? = some e → e[j]? = some d → bo + (i * sz + j) < vs.length := fun i e j d he hd => by
        refine Nat.lt_of_lt_of_le ?_ a3
        have := (a0 e (List.mem_of_getElem? he)).1
        have := lt_of_getElem? hd
        have := lt_of_getElem? he
        exact Nat.add_lt_add_left (mul_add_lt (by omega) (by omega)) _
       have hnm : ¬ Cx.Mut { k with h := h', nid := k.nid } bb := fun ⟨id, hid⟩ => by
        have hid' : k.own id = some bb := by
         simp only [Cx.own] at hid ⊢
         cases hq : hget h' id with
         | none => rw [hq] at hid; simp [ownOf] at hid
         | some blk => rw [hq] at hid; rw [hsub id blk hq]; cases blk <;> simpa [ownOf] using hid
        have := hg.inj id b bb hid' hown
        subst this
        simp only [Cx.own, hgone] at hid
        simp [ownOf] at hid
       refine .sl _ bb bo cap es sz (fun i j => vs.getD (bo + (i * sz + j)) undef) (.inr ⟨hlt.1, hlt.2, hnm⟩) a4 (fun e he => (a0 e he).1) (fun i e j d he hd => ?_) (fun i e j d he hd => ?_) (fun e he => (a0 e he).2)
       ·show k.w.cell? _ = _
        rw [row_cell a2, List.getElem?_eq_getElem (hin i e j d he hd)]
        simp [List.getD, List.getElem?_eq_getElem (hin i e j d he hd)]
       ·have hr := a5 i e j d _ he hd (List.getElem?_eq_getElem (hin i e j d he hd))
        have hr' := hr.mono ((Le.drop (h' := h') (nid' := k.nid) (Le.refl k) (Nat.le_refl _) hsub).rle (X := X) (Nat.zero_le _))
        simpa [List.getD, List.getElem?_eq_getElem (hin i e j d he hd)] using hr'
    ·exact hdrop
   ·exact hdrop
 | mp b =>
  simp only [frzD]
  split
  ·exact hdrop
  ·rename_i hgone
   split
   ·rename_i kvs hb
    split
    ·rename_i hpure
     cases hr with
     | mp _ _ h1 =>
      obtain ⟨es, c, es', a1, hp, hk, hnm, a2, a3⟩ := hg.ok b _ hb
      have hown : k.own b = some (k.β b) := by rw [own_of_hget hb]; rfl
      have hlt := hg.lt b _ hown
      have hrle := (Le.drop (h' := h') (nid' := k.nid) (Le.refl k) (Nat.le_refl _) hsub).rle (X := X) (Nat.zero_le _)
      exact .mpd _ (k.β b) kvs es es' c ⟨hlt.1, hlt.2, hnot b _ hown hgone⟩ a1 hp hk (by simpa using a2.1) (fun i v d x y => (a2.2 i v d x y).mono hrle)
       (fun i v d x y => ((a3.2 i v d x y).roll (m := 0) (D.ltL_get hpure i d y)).mono hrle) hnm
    ·exact hdrop
   ·exact hdrop
 | ptr b o =>
  simp only [frzD]
  split
  ·exact hdrop
  ·rename_i hgone
   split
   ·rename_i cs hb
    have hrle := (Le.drop (h' := h') (nid' := k.nid) (Le.refl k) (Nat.le_refl _) hsub).rle (X := X) (Nat.zero_le _)
    have hown : k.own b = some (k.β b) := by rw [own_of_hget hb]; rfl
    have hlt := hg.lt b _ hown
    obtain ⟨vs, ty, a1, a2⟩ := hg.ok b _ hb
    split
    ·rename_i kvs
     cases hr with
     | ptr _ _ _ h1 =>
      obtain ⟨v, hv, hrv⟩ := a2.get (i := 0) rfl
      exact .refm _ (k.β b) 0 kvs v ⟨hlt.1, hlt.2, hnot b _ hown hgone⟩ (by show k.w.cell? _ = _; rw [row_cell a1, hv]) (hrv.free (m := 0) rfl |>.mono hrle)
    ·split
     ·rename_i hpure
      cases hr with
      | ptr _ _ _ h1 =>
       have := Rel.ref (R := Cx.R X { k with h := h', nid := k.nid }) k.nid (k.β b) 0 cs o (fun j => vs.getD j undef) ⟨hlt.1, hlt.2, hnot b _ hown hgone⟩ (fun j d hd => by
        obtain ⟨v, hv, _⟩ := a2.get hd
        show k.w.cell? _ = _
        rw [row_cell a1, Nat.zero_add, hv]; simp [List.getD, hv]) (fun j d hd => by
        obtain ⟨v, hv, hr⟩ := a2.get hd
        have hr' := (hr.roll (m := 0) (D.ltL_get hpure j d hd)).mono hrle
        simpa [List.getD, hv] using hr') (D.nmL_lt hpure)
       simpa [Cx.R] using this
     ·exact hdrop
   ·exact hdrop
 | _ => exact hdrop

section
variable {P : Program} {n0 : Nat} {ro : Option Nat}

theorem opOk_litF {o : Oper} {s : St} {K : St → Prop} {d : D} {h' : H} {nid' : Nat} {t : TypeId} {n : Nat} {parts : Array (Nat × Operand)} (ho : o.op = .buildSlice t n parts)
  (h : litFD P s.h s.nid t n (parts.toList.map fun q => (q.1, evO s.env q.2)) = some (d, h', nid')) (hK : K (St.put { s with h := h', nid := nid' } o.dst d)) : OpOk P n0 ro o s K := by
 unfold litFD at h
 cases hb : partsOsl (parts.toList.map fun q => (q.1, evO s.env q.2))
 ·rw [hb] at h
  exact opOk_eff (by rw [ho]; exact h) hK
 rw [hb] at h
 simp only [selF] at h
 intro X k0 k a Q Kc hn hat hk
 generalize hF : frzH s.h ((parts.toList.map fun q => (q.1, evO s.env q.2)).map (·.2)) = hf at h
 have hsub : ∀ id blk, hget hf id = some blk → hget k.h id = some blk := fun id blk hb => by rw [hat.h]; rw [← hF] at hb; exact frzH_sub _ _ _ _ hb
 have hg1 : Good X { k with h := hf, nid := k.nid } := hat.good.drop hsub (fun id blk hb => hat.good.key id blk (hsub id blk hb)) fun hlt => absurd hlt (Nat.lt_irrefl _)
 have hle1 : Le k { k with h := hf, nid := k.nid } := Le.drop (Le.refl k) (Nat.le_refl _) hsub
 have hρ : ∀ x, Rel (Cx.R X { k with h := hf, nid := k.nid }) k.nid (a.eval x) (frzD k.h hf (evO s.env x)) := fun x => frz_rel hat.good hsub (hat.act.eval x)
 have hop : opF P o.op (fun x => frzD k.h hf (evO s.env x)) hf k.nid = some (d, h', nid') := by
  rw [ho, hat.h, hat.nid, ← h]
  simp only [List.map_map]
  rfl
 obtain ⟨nx, v, k2, h1, h2, h3, h4, h5, h6, h7⟩ := opF_sound hg1 hρ hop
 refine ⟨fun _ _ => trivial, ?_⟩
 have h1' : (execOp a.eval o).run P k.w = .ok nx k2.w := h1
 rw [semAt_eq _ _ (opF_not_defer hop), h1']
 have hle : Le k k2 := hle1.trans h6
 have hact1 : ActOk X { k with h := hf, nid := k.nid } k0.w.heap.size a s.env s.n := ⟨hat.act.size, fun i => Rel.drop (nid' := k.nid) hsub (hat.act.rel i) (.inl (Nat.le_refl _)), hat.act.marks⟩
 have hact : ActOk X k2 k0.w.heap.size a s.env s.n := hact1.le hg1 h6
 have hput : ∀ u : Value, Rel (k2.R X) k2.nid u d → At X k0 k2 (a.put o.dst u) (St.put { s with h := h', nid := nid' } o.dst d) := fun u hu => by
  refine ⟨?_, ?_, h5, hat.le.trans hle, ?_⟩
  ·rw [h3, put_h]
  ·rw [h4, put_nid]
  ·have := ActOk.put (s := { s with h := h', nid := nid' }) hact o.dst hu
   exact this
 rcases h2 with rfl | ⟨rfl, rfl⟩
 ·exact hk k2 _ _ hK (hput v h7) hle (kept1_put _ _ _)
 ·exact hk k2 _ _ hK (hput undef (.any _ _)) hle (kept1_put _ _ _)
end
end Go.Sx
