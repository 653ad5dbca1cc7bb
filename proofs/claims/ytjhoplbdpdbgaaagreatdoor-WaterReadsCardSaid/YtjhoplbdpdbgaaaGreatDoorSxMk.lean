/- Own work: a calculus of contracts for the programs of this kit: parts SxZ35, SxZ36. -/
import Derived.Test.YtjhoplbdpdbgaaaGreatDoorSxMj
import Derived.Recover
set_option linter.unusedVariables false
set_option linter.unusedSimpArgs false
namespace Go.Sx
variable {P : Program} {O : Oracle} {w0 : World} {n0 : Nat} {T : List (Nat × List Ann)}

structure Fr (w0 : World) (k : Cx) : Prop where
 size : w0.heap.size ≤ k.w.heap.size
 heap : ∀ b, b < w0.heap.size → k.w.heap[b]? = w0.heap[b]?
 nm : ∀ b, b < w0.heap.size → ¬ k.Mut b
theorem Fr.le {k k' : Cx} (h : Fr w0 k) (hl : Le k k') : Fr w0 k' where
 size := Nat.le_trans h.size hl.size
 heap := fun b hb => by rw [hl.heap b (Nat.lt_of_lt_of_le hb h.size) (h.nm b hb)]; exact h.heap b hb
 nm := fun b hb hm => h.nm b hb (hl.mb b (Nat.lt_of_lt_of_le hb h.size) hm)
theorem Fr.sub {k : Cx} (h : Fr w0 k) : Fr w0 k.sub := ⟨h.size, h.heap, fun b _ => sub_mut k b⟩
theorem Fr.self (k : Cx) (h : k.h = []) : Fr k.w k := ⟨Nat.le_refl _, fun _ _ => rfl, fun b _ ⟨id, e⟩ => by simp [Cx.own, h, hget, ownOf] at e⟩

inductive ExP where
 | ex (x : Ex)
 | panic (ch : List PanicEntry)
def exP : Exit → Option ExP
 | .panic ch => some (.panic ch)
 | e => (exOf e).map .ex
abbrev Tl := Bool × List Deferred
def AtT (T : Tl) (X : Nat → Prop) (k0 k : Cx) (a : Act) (s : St) : Prop := ∃ ds, a.defers = ds ++ T.2 ∧ (T.1 = true → ds = []) ∧ At X k0 k { a with defers := ds } s
def PostT (T : Tl) (X : Nat → Prop) (k0 : Cx) (Q : ExP → St → Prop) (e : Exit) (a : Act) (w : World) : Prop :=
 ∃ x k s, exP e = some x ∧ k.w = w ∧ Q x s ∧ AtT T X k0 k a s
def AWG (P : Program) (w0 : World) (n0 : Nat) (T : Tl) (c : Code) (s : St) (Q : ExP → St → Prop) : Prop :=
 ∀ X k0 k a, k0.nid = n0 → Fr w0 k0 → AtT T X k0 k a s → c.wpIn (FW none) 0 P (PostT T X k0 Q) a k.w
theorem AtT.nil {b : Bool} {X : Nat → Prop} {k0 k : Cx} {a : Act} {s : St} (h : AtT (b, []) X k0 k a s) : At X k0 k a s := by
 obtain ⟨ds, h1, _, h2⟩ := h
 dsimp only at h1
 rw [List.append_nil] at h1
 subst h1
 exact h2
theorem At.toT {X : Nat → Prop} {k0 k : Cx} {a : Act} {s : St} (h : At X k0 k a s) : AtT (false, []) X k0 k a s := ⟨a.defers, (List.append_nil _).symm, (fun h => by cases h), h⟩
theorem awg_of_awp {c : Code} {s : St} {Q : ExP → St → Prop} (h : AWp P n0 none c s fun x s' => Q (.ex x) s') : AWG P w0 n0 (false, []) c s Q := fun X k0 k a hn hfr hat =>
 wpIn_mono (h X k0 k a hn hat.nil) fun e a w ⟨x, k, s, h1, h2, h3, h4⟩ => ⟨.ex x, k, s, by cases e <;> simp_all [exOf, exP], h2, h3, h4.toT⟩
theorem awg_mono {T : Tl} {c : Code} {s : St} {Q Q' : ExP → St → Prop} (h : AWG P w0 n0 T c s Q) (hq : ∀ e s, Q e s → Q' e s) : AWG P w0 n0 T c s Q' :=
 fun X k0 k a hn hfr hat => wpIn_mono (h X k0 k a hn hfr hat) fun e a w ⟨x, k, s, h1, h2, h3, h4⟩ => ⟨x, k, s, h1, h2, hq _ _ h3, h4⟩
def thenP (K : St → Prop) (Q : ExP → St → Prop) : ExP → St → Prop
 | .ex .normal, s => K s
 | e, s => Q e s
theorem awg_seq {T : Tl} {x y : Code} {s : St} {Q : ExP → St → Prop} (h : AWG P w0 n0 T x s (thenP (fun s' => AWG P w0 n0 T y s' Q) Q)) : AWG P w0 n0 T (.seq x y) s Q :=
 fun X k0 k a hn hfr hat => wpIn_seq (wpIn_mono (h X k0 k a hn hfr hat) fun e a w ⟨x, k, s, h1, h2, h3, h4⟩ => by
  subst h2
  cases e <;> simp only [exP, exOf, Option.map_some, Option.map_none, Option.some.injEq, reduceCtorEq] at h1 <;> subst h1
  ·exact h3 X k0 k a hn hfr h4
  ·exact ⟨_, k, s, rfl, rfl, h3, h4⟩
  ·exact ⟨_, k, s, rfl, rfl, h3, h4⟩
  ·exact ⟨_, k, s, rfl, rfl, h3, h4⟩)
theorem awg_cond {T : Tl} {c : Operand} {x y : Code} {s : St} {Q : ExP → St → Prop} {t : Bool} (hc : evO s.env c = .bool t) (ht : t = true → AWG P w0 n0 T x s Q) (hf : t = false → AWG P w0 n0 T y s Q) :
  AWG P w0 n0 T (.cond c x y) s Q :=
 fun X k0 k a hn hfr hat => wpIn_cond (t := t) (by
  obtain ⟨ds, h1, _, h2⟩ := hat
  have := eval_bool h2.act hc
  cases c <;> exact this) (by
  cases t
  ·exact hf rfl X k0 k a hn hfr hat
  ·exact ht rfl X k0 k a hn hfr hat)
theorem awg_skip {T : Tl} {s : St} {Q : ExP → St → Prop} (h : Q (.ex .normal) s) : AWG P w0 n0 T .skip s Q := fun X k0 k a hn hfr hat => wpIn_skip ⟨_, k, s, rfl, rfl, h, hat⟩
theorem awg_exit {T : Tl} {id : Nat} {s : St} {Q : ExP → St → Prop} (h : Q (.ex (.exit id)) s) : AWG P w0 n0 T (.exit id) s Q := fun X k0 k a hn hfr hat => wpIn_exit ⟨_, k, s, rfl, rfl, h, hat⟩
theorem awg_ret {T : Tl} {s : St} {Q : ExP → St → Prop} (h : Q (.ex .ret) s) : AWG P w0 n0 T .ret s Q := fun X k0 k a hn hfr hat => wpIn_ret ⟨_, k, s, rfl, rfl, h, hat⟩
def blockP (id : Nat) (Q : ExP → St → Prop) : ExP → St → Prop
 | .ex (.exit i), s => if i = id then Q (.ex .normal) s else Q (.ex (.exit i)) s
 | e, s => Q e s
theorem awg_block {T : Tl} {id : Nat} {c : Code} {s : St} {Q : ExP → St → Prop} (h : AWG P w0 n0 T c s (blockP id Q)) : AWG P w0 n0 T (.block id c) s Q :=
 fun X k0 k a hn hfr hat => wpIn_block (wpIn_mono (h X k0 k a hn hfr hat) fun e a w ⟨x, k, s, h1, h2, h3, h4⟩ => by
  subst h2
  cases e with
  | exit i =>
   simp only [exP, exOf, Option.map_some, Option.some.injEq] at h1
   subst h1
   simp only [Exit.inBlock]
   by_cases hi : i = id
   ·rw [if_pos hi]
    simp only [blockP, if_pos hi] at h3
    exact ⟨_, k, s, rfl, rfl, h3, h4⟩
   ·rw [if_neg hi]
    simp only [blockP, if_neg hi] at h3
    exact ⟨_, k, s, rfl, rfl, h3, h4⟩
  | _ =>
   simp only [exP, exOf, Option.map_some, Option.map_none, Option.some.injEq, reduceCtorEq] at h1 <;> subst h1 <;> exact ⟨_, k, s, rfl, rfl, h3, h4⟩)
theorem AtT.imp {T : Tl} {X : Nat → Prop} {k0 k : Cx} {a : Act} {s s' : St} (h : AtT T X k0 k a s) (hn : k0.nid = n0) (hi : Imp n0 s s') : ∃ k', k'.w = k.w ∧ AtT T X k0 k' a s' := by
 obtain ⟨ds, h1, hz, h2⟩ := h
 obtain ⟨k', e, h3⟩ := hi X k0 k _ hn h2
 exact ⟨k', e, ds, h1, hz, h3⟩
theorem awg_imp {T : Tl} {c : Code} {s s' : St} {Q : ExP → St → Prop} (hi : Imp n0 s s') (h : AWG P w0 n0 T c s' Q) : AWG P w0 n0 T c s Q := fun X k0 k a hn hfr hat => by
 obtain ⟨k', e, hat'⟩ := hat.imp hn hi
 rw [← e]
 exact h X k0 k' a hn hfr hat'
theorem wpIn_loopP {ro : Option Nat} {ι : Type} {c : Code} {Q : Exit → Act → World → Prop} {a : Act} {w : World} (Inv : ι → Act → World → Prop) (μ : ι → Nat) (i0 : ι) (h0 : Inv i0 a w)
  (round : ∀ i a w, Inv i a w → c.wpIn (FW ro) 0 P (fun e a' w' => match e with
   | .normal => ∃ j, Inv j a' w' ∧ μ j < μ i
   | .exit id => Q (.exit id) a' w'
   | .ret => Q .ret a' w'
   | .panic ch => Q (.panic ch) a' w'
   | _ => False) a w) : (Code.loop c).wpIn (FW ro) 0 P Q a w := by
 intro b kk cs hro hb hr
 have key : ∀ n (i : ι) (a : Act) (w : World), μ i = n → Inv i a w →
   ∃ e a' w', Q e a' w' ∧ ArrivesIn (Machine.fenced P (FW ro)) P (lone (b.atR a (.code c :: .inLoop c :: kk)) cs w) b kk cs e a' w' := by
  intro n
  induction n using Nat.strongRecOn with
  | _ n ih =>
   intro i a w hμ hI
   obtain ⟨e, a₁, w₁, hq, harr⟩ := round i a w hI b (.inLoop c :: kk) cs hro hb hr
   cases e with
   | normal =>
    obtain ⟨j, hj, hlt⟩ := hq
    obtain ⟨e₂, a₂, w₂, hq₂, harr₂⟩ := ih (μ j) (hμ ▸ hlt) j a₁ w₁ rfl hj
    exact ⟨e₂, a₂, w₂, hq₂, .of_steps (StepsIn.trans harr (.one (fenced_calm (fr := b.atR a₁ (.inLoop c :: kk)) hb hr rfl) stepR_inLoop)) harr₂⟩
   | exit id => exact ⟨_, a₁, w₁, hq, .pass (x := .inLoop c) rfl (fun _ _ => .inl (by simp)) harr⟩
   | ret => exact ⟨_, a₁, w₁, hq, .pass (x := .inLoop c) rfl (fun _ _ => .inl (by simp)) harr⟩
   | panic ch => exact ⟨_, a₁, w₁, hq, .pass (x := .inLoop c) rfl (fun _ _ => .inl (by simp)) harr⟩
   | _ => exact hq.elim
 obtain ⟨e, a', w', hq, harr⟩ := key _ i0 a w rfl h0
 exact ⟨e, a', w', hq, .of_steps (.one (fenced_calm hb hr rfl) stepR_loop) harr⟩

theorem awg_loopI {T : Tl} {ι : Type} {c : Code} {s : St} {Q : ExP → St → Prop} (σ : ι → St) (I : ι → Prop) (μ : ι → Nat) (i0 : ι) (h0 : I i0) (hw : Imp n0 s (σ i0))
  (round : ∀ i, I i → AWG P w0 n0 T c (σ i) (thenP (fun s' => ∃ j, I j ∧ μ j < μ i ∧ Imp n0 s' (σ j)) Q)) : AWG P w0 n0 T (.loop c) s Q := by
 intro X k0 k a hn hfr hat
 obtain ⟨k', hk', hat'⟩ := hat.imp hn hw
 rw [← hk']
 refine wpIn_loopP (fun i a w => I i ∧ ∃ k, k.w = w ∧ AtT T X k0 k a (σ i)) μ i0 ⟨h0, k', rfl, hat'⟩ ?_
 rintro i a w ⟨hi, k, rfl, hat⟩
 refine wpIn_mono (round i hi X k0 k a hn hfr hat) ?_
 rintro e a' w' ⟨x, k1, s1, hx, rfl, hq, hat1⟩
 cases e with
 | normal =>
  simp only [exP, exOf, Option.map_some, Option.some.injEq] at hx; subst hx
  obtain ⟨j, hj, hlt, him⟩ := hq
  obtain ⟨k2, e2, hat2⟩ := hat1.imp hn him
  exact ⟨j, ⟨hj, k2, e2, hat2⟩, hlt⟩
 | exit id => simp only [exP, exOf, Option.map_some, Option.some.injEq] at hx; subst hx; exact ⟨_, k1, s1, rfl, rfl, hq, hat1⟩
 | ret => simp only [exP, exOf, Option.map_some, Option.some.injEq] at hx; subst hx; exact ⟨_, k1, s1, rfl, rfl, hq, hat1⟩
 | panic ch => simp only [exP, Option.some.injEq] at hx; subst hx; exact ⟨_, k1, s1, rfl, rfl, hq, hat1⟩
 | _ => simp [exP, exOf] at hx

def Act.tail (a : Act) (T : List Deferred) : Act := { a with defers := a.defers ++ T }
theorem tail_eval (a : Act) (T : List Deferred) : (Act.tail a T).eval = a.eval := funext fun x => by cases x <;> rfl
theorem tail_put (a : Act) (T : List Deferred) (dst : Option Tmp) (v : Value) : (Act.tail a T).put dst v = Act.tail (a.put dst v) T := by cases dst <;> rfl
theorem op_tail {F : Fence} {n : Nat} {o : Oper} {a : Act} {w : World} {next next' : Act → World → Prop} {Q Q' : Exit → Act → World → Prop} (T : List Deferred) (h : Oper.wpIn F n P o a w next Q)
  (hn : ∀ a w, next a w → next' (Act.tail a T) w) (hq : ∀ e a w, Q e a w → Q' e (Act.tail a T) w) : Oper.wpIn F n P o (Act.tail a T) w next' Q' := by
 unfold Oper.wpIn at h ⊢
 rw [tail_eval]
 refine ⟨h.1, ?_⟩
 have h2 := h.2
 generalize (o.semAt F.round a.eval).run P w = r at h2
 unfold Oper.uponIn at h2 ⊢
 split at h2
 ·rw [tail_put]; exact hn _ _ h2
 ·rw [tail_put]; exact hn _ _ h2
 ·have := hn _ _ h2
  rw [← tail_put] at this
  exact this
 ·refine ⟨h2.1, h2.2.mono fun e w' he => ?_⟩
  cases e with
  | returned v => simp only at he ⊢; rw [tail_put]; exact hn _ _ he
  | panicked ch => exact hq _ _ _ he
  | outgrown => obtain ⟨a', w', h⟩ := he; exact ⟨_, w', hq _ _ _ h⟩
 ·exact ⟨h2.1, h2.2.mono fun v w' he => by rw [tail_put]; exact hn _ _ he⟩
 ·refine ⟨h2.1, h2.2.mono fun e w' he => ?_⟩
  cases e with
  | returned v => simp only at he ⊢; rw [tail_put]; exact hn _ _ he
  | panicked ch => exact hq _ _ _ he
  | outgrown => obtain ⟨a', w', h⟩ := he; exact ⟨_, w', hq _ _ _ h⟩
 ·exact hq _ _ _ h2
 ·exact h2.elim
theorem ops_tail {F : Fence} {n : Nat} {ops : Array Oper} {Q Q' : Exit → Act → World → Prop} (T : List Deferred) (hq : ∀ e a w, Q e a w → Q' e (Act.tail a T) w) : ∀ (l : List Nat) (a : Act) (w : World), wpOpsIn F n P ops Q l a w → wpOpsIn F n P ops Q' l (Act.tail a T) w
 | [], a, w, h => hq _ _ _ h
 | i :: r, a, w, h => by
  rw [wpOpsIn_cons] at h ⊢
  unfold wpOpIn at h ⊢
  split at h
  ·exact ops_tail T hq r _ _ h
  ·rw [show (Act.tail a T).tmps = a.tmps from rfl]
   split at h
   ·rename_i hw
    rw [if_pos hw]
    exact op_tail T h (fun a w => ops_tail T hq r a w) hq
   ·rename_i hw
    rw [if_neg hw, tail_eval, tail_put]
    exact ⟨h.1, ops_tail T hq r _ _ h.2⟩

def AOpsG (P : Program) (w0 : World) (n0 : Nat) (T : Tl) (ops : Array Oper) (l : List Nat) (s : St) (Q : ExP → St → Prop) : Prop :=
 ∀ X k0 k a, k0.nid = n0 → Fr w0 k0 → AtT T X k0 k a s → wpOpsIn (FW none) 0 P ops (PostT T X k0 Q) l a k.w
theorem awg_regionT {T : Tl} {id : Nat} {ops : Array Oper} {s : St} {Q : ExP → St → Prop} (h : AOpsG P w0 n0 T ops (List.range ops.size) s Q) : AWG P w0 n0 T (.region id ops false) s Q :=
 fun X k0 k a hn hfr hat => wpIn_region (h X k0 k a hn hfr hat)
theorem tail_of {a : Act} {ds T : List Deferred} (h : a.defers = ds ++ T) : a = Act.tail { a with defers := ds } T := by
 obtain ⟨t, d⟩ := a
 simp only at h
 subst h
 rfl
theorem aopsg_nil {T : Tl} {ops : Array Oper} {s : St} {Q : ExP → St → Prop} (h : Q (.ex .normal) s) : AOpsG P w0 n0 T ops [] s Q :=
 fun _ _ k _ _ _ hat => ⟨_, k, s, rfl, rfl, h, hat⟩
theorem aopsg_app {T : Tl} {ops : Array Oper} {l1 l2 : List Nat} {s : St} {Q : ExP → St → Prop} (h : AOps P n0 none ops l1 s fun s' => AOpsG P w0 n0 T ops l2 s' Q) : AOpsG P w0 n0 T ops (l1 ++ l2) s Q := by
 intro X k0 k a hn hfr hat
 obtain ⟨ds, h1, hz, h2⟩ := hat
 refine ops_app _ _ _ _ ?_
 have h3 := h X k0 k { a with defers := ds } (fun e a' w' => e = .normal ∧ wpOpsIn (FW none) 0 P ops (PostT T X k0 Q) l2 (Act.tail a' T.2) w') hn h2 fun k' a' s' hK hat' hkept => ⟨rfl, hK X k0 k' _ hn hfr ⟨a'.defers, rfl, fun ht => hkept.1.trans (hz ht), hat'⟩⟩
 have h4 := ops_tail (Q' := appQ (PostT T X k0 Q) (wpOpsIn (FW none) 0 P ops (PostT T X k0 Q) l2)) T.2 (fun e a w ⟨he, hh⟩ => by subst he; exact hh) l1 _ _ h3
 rw [← tail_of h1] at h4
 exact h4
theorem awg_region {T : Tl} {id : Nat} {ops : Array Oper} {s : St} {Q : ExP → St → Prop} (h : AOps P n0 none ops (List.range ops.size) s fun s' => Q (.ex .normal) s') : AWG P w0 n0 T (.region id ops false) s Q :=
 awg_regionT (by
  have := aopsg_app (w0 := w0) (T := T) (l2 := []) (Q := Q) (fun X k0 k a Q' hn hat hk => h X k0 k a Q' hn hat fun k' a' s' hq hat' hkept => hk k' a' s' (aopsg_nil (w0 := w0) hq) hat' hkept)
  rwa [List.append_nil] at this)

def ResP (X : Nat → Prop) (k : Cx) (Q : D → H → Nat → Prop) (R : List PanicEntry → H → Nat → Prop) (e : Ending) (w' : World) : Prop :=
 ∃ k', k'.w = w' ∧ Good X k' ∧ Le k k' ∧ ((∃ v r, e = .returned v ∧ Q r k'.h k'.nid ∧ Rel (k'.R X) k'.nid v r) ∨ ∃ ch, e = .panicked ch ∧ R ch k'.h k'.nid)
def PCallG (P : Program) (w0 : World) (f : FuncId) (ds : List D) (h : H) (nid : Nat) (Q : D → H → Nat → Prop) (R : List PanicEntry → H → Nat → Prop) : Prop :=
 callable P f = true ∧ ∀ X k vs, Fr w0 k → k.h = h → k.nid = nid → Good X k → RelL (k.R X) k.nid vs ds → Calls P f (List.toArray vs) k.w (ResP X k Q R)
theorem PCallG.mono {f : FuncId} {ds : List D} {h : H} {nid : Nat} {Q Q' : D → H → Nat → Prop} {R R' : List PanicEntry → H → Nat → Prop} (hc : PCallG P w0 f ds h nid Q R) (hq : ∀ r h n, Q r h n → Q' r h n) (hr : ∀ c h n, R c h n → R' c h n) : PCallG P w0 f ds h nid Q' R' :=
 ⟨hc.1, fun X k vs h0 h1 h2 h3 h4 => (hc.2 X k vs h0 h1 h2 h3 h4).mono fun _ _ ⟨k', a, b, c, d⟩ => ⟨k', a, b, c, d.imp (fun ⟨v, r, x, y, z⟩ => ⟨v, r, x, hq _ _ _ y, z⟩) fun ⟨ch, x, y⟩ => ⟨ch, x, hr _ _ _ y⟩⟩⟩
theorem aopsg_call {T : Tl} {ops : Array Oper} {i : Nat} {rest : List Nat} {o : Oper} {c : Call} {s : St} {Q : ExP → St → Prop} {f : FuncId} {ds : List D} (hoi : ops[i]? = some o) (hg : o.guard = none) (ho : o.op = .call c) (hcal : calleeD s.env c = some (f, ds))
  (h : PCallG P w0 f ds s.h s.nid (fun r h' nid' => AOpsG P w0 n0 T ops rest (St.put { s with h := h', nid := nid' } o.dst r) Q) fun ch h' nid' => Q (.panic ch) { s with h := h', nid := nid' }) : AOpsG P w0 n0 T ops (i :: rest) s Q := by
 intro X k0 k a hn hfr hat
 obtain ⟨tl, h1, hz, hat⟩ := hat
 rw [wpOpsIn_cons]
 have hw : Region.wanted o (yielded ops a.tmps) = true := by simp [Region.wanted, hg]
 simp only [wpOpIn, hoi, hw, if_true]
 refine ⟨fun _ _ => trivial, ?_⟩
 rw [semAt_eq _ _ (by rw [ho]; simp)]
 have hev : ∀ x, Rel (k.R X) k.nid (a.eval x) (evO s.env x) := fun x => by
  have := hat.act.eval x
  cases x <;> exact this
 unfold calleeD at hcal
 split at hcal
 ·rename_i x hx
  split at hcal
  ·rename_i f' first cap hf
   cases hcal
   have hr := hev x
   rw [hf] at hr
   obtain ⟨callee, args, argTypes⟩ := c
   dsimp only at hx
   subst hx
   generalize hv : a.eval x = v at hr
   cases hr with
   | fn _ _ va vc _ _ h1' h2 h3 h4 =>
    have hrun : (execOp a.eval o).run P k.w = .ok (.enter f (va ++ args.toList.map a.eval ++ vc).toArray) k.w := by
     unfold execOp
     rw [ho]
     simp only [resolve, Sem.run_bind, hv, Deferred.ofValue, Sem.run_pure, Result.andThen_ok, invoke]
     rw [run_callFunc h.1]
     congr 2
     apply Array.ext'
     simp
    rw [hrun]
    refine ⟨by simp [FW, Fence.wide], callsIn_of_calls ?_⟩
    have hl : RelL (k.R X) k.nid (va ++ args.toList.map a.eval ++ vc) (first ++ args.toList.map (evO s.env) ++ cap) :=
     (RelL.append ⟨h1', h3⟩ (RelL.map (fun x => hev x) _)).append ⟨h2, h4⟩
    refine (h.2 X k _ (hfr.le hat.le) hat.h hat.nid hat.good hl).mono ?_
    rintro e w' ⟨k', rfl, hg', hle, ⟨v', r, rfl, hK, hrel⟩ | ⟨ch, rfl, hK⟩⟩
    ·have hact := hat.act.le hat.good hle
     refine hK X k0 k' _ hn hfr ⟨tl, by rw [put_defers]; exact h1, hz, ?_⟩
     refine ⟨?_, ?_, hg', hat.le.trans hle, ?_⟩
     ·rw [put_h]
     ·rw [put_nid]
     ·have := ActOk.put (s := { s with h := k'.h, nid := k'.nid }) hact o.dst hrel
      have e : ({ a.put o.dst v' with defers := tl } : Act) = ({ a with defers := tl } : Act).put o.dst v' := by cases o.dst <;> rfl
      rw [e]
      exact this
    ·exact ⟨_, k', _, rfl, rfl, hK, tl, h1, hz, rfl, rfl, hg', hat.le.trans hle, hat.act.le hat.good hle⟩
  ·cases hcal
 ·cases hcal
theorem aopsg_panic {T : Tl} {ops : Array Oper} {i : Nat} {rest : List Nat} {o : Oper} {x : Operand} {s : St} {Q : ExP → St → Prop} {t : TypeId} {d : D} (hoi : ops[i]? = some o) (hg : o.guard = none) (ho : o.op = .panic x) (hx : evO s.env x = .ifc t d)
  (h : ∀ v, (∃ R n, Rel R n v d) → Q (.panic [{ v := .iface t v, recovered := false }]) s) : AOpsG P w0 n0 T ops (i :: rest) s Q := by
 intro X k0 k a hn hfr hat
 obtain ⟨tl, h1, hz, hat⟩ := hat
 rw [wpOpsIn_cons]
 have hw : Region.wanted o (yielded ops a.tmps) = true := by simp [Region.wanted, hg]
 simp only [wpOpIn, hoi, hw, if_true]
 refine ⟨fun _ _ => trivial, ?_⟩
 rw [semAt_eq _ _ (by rw [ho]; simp)]
 have hr : Rel (k.R X) k.nid (a.eval x) (evO s.env x) := by
  have := hat.act.eval x
  cases x <;> exact this
 rw [hx] at hr
 generalize hv : a.eval x = v at hr
 cases hr with
 | ifc _ _ v' _ hd =>
  have hrun : (execOp a.eval o).run P k.w = .halt (.panic (.iface t v')) k.w := by
   unfold execOp
   rw [ho]
   simp only [hv, Instr.panic]
   rfl
  rw [hrun]
  exact ⟨_, k, s, rfl, rfl, h _ ⟨_, _, hd⟩, tl, h1, hz, hat⟩

theorem leavesMU (fn : Func) (tmps : Array Value) (R : Ending → World → Prop) (T : List Deferred) (u : FrameMode) (hu : u ≠ .run) : ∀ (ms : List Nat) (w : World), ms.Nodup → (∀ r ∈ ms, w.heap[r]? = some (.deferred (some []))) →
  (∀ w' : World, (∀ b, b ∉ ms → w'.heap[b]? = w.heap[b]?) → (∀ b ∈ ms, w'.heap[b]? = some (.deferred none)) → w'.os = w.os → w'.tape = w.tape → w'.output = w.output → w'.heap.size = w.heap.size →
   LeavesInM (FW none) 0 P fn tmps R T u w') →
  LeavesInM (FW none) 0 P fn tmps R (ms.map markD ++ T) u w := by
 intro ms
 induction ms with
 | nil =>
  intro w _ _ h
  exact h w (fun _ _ => rfl) (by simp) rfl rfl rfl rfl
 | cons r ms ih =>
  intro w hnd hm h
  rw [List.nodup_cons] at hnd
  have hr := hm r (by simp)
  have hlt : r < w.heap.size := by
   rcases Nat.lt_or_ge r w.heap.size with h | h
   ·exact h
   ·rw [Array.getElem?_eq_none h] at hr; cases hr
  refine ⟨hu, .inl ⟨r, { w with heap := w.heap.setIfInBounds r (.deferred none) }, rfl, ?_, ih _ hnd.2 (fun q hq => ?_) fun w' h1 h2 h3 h4 h5 h6 => h w' (fun b hb => ?_) (fun b hb => ?_) h3 h4 h5 (by simpa using h6)⟩⟩
  ·simp [Instr.takeDeferred, getObj, setObj, Sem.run, hr]
  ·have hne : r ≠ q := fun e => hnd.1 (e ▸ hq)
   simp only [Array.getElem?_setIfInBounds_ne hne]
   exact hm q (by simp [hq])
  ·have hb1 : b ∉ ms := fun e => hb (by simp [e])
   have hne : r ≠ b := fun e => hb (by simp [e])
   rw [h1 b hb1, Array.getElem?_setIfInBounds_ne hne]
  ·rcases List.mem_cons.1 hb with rfl | hb
   ·rw [h1 b hnd.1, Array.getElem?_setIfInBounds_self_of_lt hlt]
   ·exact h2 b hb
def endP (P : Program) (fn : Func) (Q : D → H → Nat → Prop) (R : List PanicEntry → H → Nat → Prop) : ExP → St → Prop
 | .ex .normal, s | .ex .ret, s => ∃ ds, resD P s fn.results.toList = some ds ∧ Q (tupD ds) s.h s.nid
 | .ex (.exit _), _ => False
 | .panic ch, s => R ch s.h s.nid
theorem leaves_ret {X : Nat → Prop} {k k' : Cx} {a : Act} {s : St} {fn : Func} {Q : D → H → Nat → Prop} {R : List PanicEntry → H → Nat → Prop} {ds : List D} (hat' : At X k k' a s) (hrs : resD P s fn.results.toList = some ds) (hq : Q (tupD ds) s.h s.nid) :
  LeavesInM (FW none) 0 P fn a.tmps (ResP X k Q R) a.defers .returning k'.w := by
 obtain ⟨ms, hd, hnd, hms⟩ := hat'.act.marks
 rw [hd]
 refine leavesM fn a.tmps _ ms k'.w hnd (fun r hr => (hms r hr).2) fun w' h1 h2 hos htape hout hsize => ?_
 obtain ⟨g1, g2, g3⟩ := good_taken hat'.good hat'.le hms h1 h2 hos htape hout hsize
 have hact : ActOk X { k' with w := w' } 0 { a with defers := [] } s.env s.n := ⟨hat'.act.size, fun i => (hat'.act.rel i).mono (g3 _), [], rfl, List.nodup_nil, by simp⟩
 obtain ⟨v, hv1, hv2⟩ := run_results (P := P) (k := { k' with w := w' }) g1 hat'.h hact hrs
 exact ⟨v, hv1, { k' with w := w' }, rfl, g1, g2, .inl ⟨v, tupD ds, rfl, by rw [show ({ k' with w := w' } : Cx).h = s.h from hat'.h, show ({ k' with w := w' } : Cx).nid = s.nid from hat'.nid]; exact hq, hv2⟩⟩
theorem leaves_panic {X : Nat → Prop} {k k' : Cx} {a : Act} {s : St} {fn : Func} {Q : D → H → Nat → Prop} {R : List PanicEntry → H → Nat → Prop} {ch : List PanicEntry} (hat' : At X k k' a s) (hr : R ch s.h s.nid) :
  LeavesInM (FW none) 0 P fn a.tmps (ResP X k Q R) a.defers (.panicking ch) k'.w := by
 obtain ⟨ms, hd, hnd, hms⟩ := hat'.act.marks
 rw [hd]
 have := leavesMU (P := P) fn a.tmps (ResP X k Q R) [] (.panicking ch) (by simp) ms k'.w hnd (fun r hr => (hms r hr).2) fun w' h1 h2 hos htape hout hsize => by
  obtain ⟨g1, g2, g3⟩ := good_taken hat'.good hat'.le hms h1 h2 hos htape hout hsize
  exact ⟨{ k' with w := w' }, rfl, g1, g2, .inr ⟨ch, rfl, by rw [show ({ k' with w := w' } : Cx).h = s.h from hat'.h, show ({ k' with w := w' } : Cx).nid = s.nid from hat'.nid]; exact hr⟩⟩
 rwa [List.append_nil] at this
theorem at_entry {X : Nat → Prop} {k : Cx} {vs : List Value} {ds : List D} {fn : Func} (hg : Good X k) (hr : RelL (k.R X) k.nid vs ds) :
  At X k k { tmps := vs.toArray ++ Array.replicate (fn.ntmps - vs.toArray.size) undef, defers := [] } { env := argEnv 0 ds, h := k.h, nid := k.nid, n := ds.length + (fn.ntmps - ds.length) } := by
 refine ⟨rfl, rfl, hg, .refl k, ⟨by simp [hr.1], fun i => ?_, [], rfl, List.nodup_nil, by simp⟩⟩
 rw [look_argEnv, if_pos (Nat.zero_le _), Nat.sub_zero]
 cases hd : ds[i]? with
 | none => exact .any _ _
 | some d =>
  have hi := lt_of_getElem? hd
  have hv : i < vs.length := by rw [hr.1]; exact hi
  rw [Array.getD_eq_getD_getElem?, Array.getElem?_append_left (by simpa using hv)]
  rw [List.getElem?_toArray, List.getElem?_eq_getElem hv]
  exact hr.2 i _ d (List.getElem?_eq_getElem hv) hd
theorem pcallg_of_awt {f : FuncId} {fn : Func} {c : Code} {ds : List D} {h : H} {nid : Nat} {Q : D → H → Nat → Prop} {R : List PanicEntry → H → Nat → Prop} (hf : P.funcs[f]? = some fn) (hb : fn.body = some c) (hcal : callable P f = true)
  (hw : AWG P w0 nid (false, []) c { env := argEnv 0 ds, h := h, nid := nid, n := ds.length + (fn.ntmps - ds.length) } (endP P fn Q R)) : PCallG P w0 f ds h nid Q R := by
 refine ⟨hcal, fun X k vs hfr hh hn hg hr => calls_of_callsIn (n := 0) (callsIn_of_wp_marks hf hb trivial ?_ rfl)⟩
 subst hh hn
 refine wpIn_mono (hw X k k _ rfl hfr (at_entry (fn := fn) hg hr).toT) ?_
 rintro e a w ⟨x, k', s, hx, rfl, hq, hat'⟩
 have hat' := hat'.nil
 cases e with
 | normal => simp only [exP, exOf, Option.map_some, Option.some.injEq] at hx; subst hx; obtain ⟨rs, hrs, hq⟩ := hq; exact leaves_ret hat' hrs hq
 | ret => simp only [exP, exOf, Option.map_some, Option.some.injEq] at hx; subst hx; obtain ⟨rs, hrs, hq⟩ := hq; exact leaves_ret hat' hrs hq
 | exit id => simp only [exP, exOf, Option.map_some, Option.some.injEq] at hx; subst hx; exact hq.elim
 | panic ch => simp only [exP, Option.some.injEq] at hx; subst hx; exact leaves_panic hat' hq
 | _ => simp [exP, exOf] at hx


theorem callsDIn_of_wpS {f : FuncId} {fn : Func} {c : Code} {args : Array Value} {u : FrameMode} {w : World} {n : Nat} {R : Ending → FrameMode → World → Prop}
  (hf : P.funcs[f]? = some fn) (hb : fn.body = some c)
  (h : ∀ (c₀ : Frame) (cs : List Frame), c₀.mode = u →
   c.wpS P (bodyPostS P fn c₀ cs R) { tmps := args ++ Array.replicate (fn.ntmps - args.size) undef, defers := [] } (c₀ :: cs) w) :
  CallsDIn (FW none) n P f args u w R := by
 refine ⟨trivial, fun c₀ cs hu _ => ?_⟩
 let b : Frame := { (default : Frame) with fn := f, kind := .deferred }
 have henter : Frame.enter P f args .deferred =
   b.at { tmps := args ++ Array.replicate (fn.ntmps - args.size) undef, defers := [] } [.code c] := by
  simp [Frame.enter, Frame.at, hf, hb, b]
 obtain ⟨e, a', cs', w', hq, harr⟩ := h c₀ cs hu b [] rfl rfl
 rw [← henter] at harr
 cases e with
 | normal =>
  obtain ⟨hd, u', rfl, v, hr, hR⟩ := hq
  exact ⟨.returned v, u', w', _, hR, comesIn_wide.2 (Steps.trans harr (.one step_end)), rfl, rfl, rfl, hd, fn, hf, hr⟩
 | ret =>
  obtain ⟨hd, u', rfl, v, hr, hR⟩ := hq
  obtain ⟨todo, hs⟩ := harr
  exact ⟨.returned v, u', w', _, hR, comesIn_wide.2 hs, rfl, rfl, rfl, hd, fn, hf, hr⟩
 | panic chain =>
  obtain ⟨hd, u', rfl, hR⟩ := hq
  obtain ⟨todo, hs⟩ := harr
  exact ⟨.panicked chain, u', w', _, hR, comesIn_wide.2 hs, rfl, rfl, rfl, hd, fn, hf⟩
 | exit id => exact hq.elim
 | goto l => exact hq.elim
 | outgrown =>
  obtain ⟨u', hR⟩ := hq
  exact ⟨.outgrown, u', w', b, hR, comesIn_wide.2 (harr.resolve_left (by simp [b])), rfl, rfl, trivial⟩
def RecIn (u u' : FrameMode) (v : Value) : Prop := ∀ (c₀ : Frame) (cs : List Frame), c₀.mode = u → match recoverD (c₀ :: cs) with
 | some (v', cs') => v' = v ∧ cs' = { c₀ with mode := u' } :: cs
 | none => v = .nilIface ∧ u' = u
theorem recIn_ret : RecIn .returning .returning .nilIface := fun c₀ cs h => by
 simp [recoverD, h]
theorem recIn_panic (v : Value) (older : List PanicEntry) : RecIn (.panicking ({ v, recovered := false } :: older)) (.panicking ({ v, recovered := true } :: older)) v := fun c₀ cs h => by
 simp [recoverD, h]
def NoP : List PanicEntry → H → Nat → Prop := fun _ _ _ => False
def BWg (P : Program) (w0 : World) (fn : Func) (n0 : Nat) (Q : D → H → Nat → Prop) (c : Code) (s : St) : Prop :=
 ∀ X k0 k a, k0.nid = n0 → Fr w0 k0 → AtT (true, []) X k0 k a s → c.wpIn (FW none) 0 P (bodyPostM (FW none) 0 P fn (ResP X k0 Q NoP)) a k.w
theorem bwg_seq {fn : Func} {Q : D → H → Nat → Prop} {x y : Code} {s : St} (h : AWG P w0 n0 (true, []) x s (thenP (fun s' => BWg P w0 fn n0 Q y s') (endP P fn Q NoP))) : BWg P w0 fn n0 Q (.seq x y) s :=
 fun X k0 k a hn hfr hat => wpIn_seq (wpIn_mono (h X k0 k a hn hfr hat) fun e a w ⟨x, k, s, hx, h2, hq, hat'⟩ => by
  subst h2
  cases e with
  | normal => simp only [exP, exOf, Option.map_some, Option.some.injEq] at hx; subst hx; exact hq X k0 k a hn hfr hat'
  | ret => simp only [exP, exOf, Option.map_some, Option.some.injEq] at hx; subst hx; obtain ⟨rs, hrs, hq⟩ := hq; exact leaves_ret hat'.nil hrs hq
  | exit id => simp only [exP, exOf, Option.map_some, Option.some.injEq] at hx; subst hx; exact hq.elim
  | panic ch => simp only [exP, Option.some.injEq] at hx; subst hx; exact hq.elim
  | _ => simp [exP, exOf] at hx)
theorem pcallg_of_bwg {f : FuncId} {fn : Func} {c : Code} {ds : List D} {h : H} {nid : Nat} {Q : D → H → Nat → Prop} (hf : P.funcs[f]? = some fn) (hb : fn.body = some c) (hcal : callable P f = true)
  (hw : BWg P w0 fn nid Q c { env := argEnv 0 ds, h := h, nid := nid, n := ds.length + (fn.ntmps - ds.length) }) : PCallG P w0 f ds h nid Q NoP := by
 refine ⟨hcal, fun X k vs hfr hh hn hg hr => ?_⟩
 subst hh hn
 exact calls_of_callsIn (n := 0) (callsIn_of_wp_marks hf hb trivial (hw X k k _ rfl hfr ⟨[], rfl, fun _ => rfl, at_entry (fn := fn) hg hr⟩) rfl)
def exK (Q : Ex → St → Prop) : ExP → St → Prop
 | .ex x, s => Q x s
 | .panic _, _ => False
theorem awg_peel (hO : OkO P O) (hm : P.follows .mixedOrders = true) {x y : Code} {s : St} {Q : ExP → St → Prop} (ht : tabOk T x = true) (h : wc P n0 none T O x s (thenQ (fun s' => AWG P w0 n0 (false, []) y s' Q) fun x s => Q (.ex x) s)) : AWG P w0 n0 (false, []) (.seq x y) s Q :=
 awg_seq (awg_of_awp (awp_mono (wc_sound hO hm x s _ ht h) fun e s h => by cases e <;> exact h))
def calmC : Code → Bool
 | .skip | .exit _ | .ret => true
 | .seq a b => calmC a && calmC b
 | .cond _ a b => calmC a && calmC b
 | .block _ c => calmC c
 | .region _ _ d => !d
 | _ => false
theorem awg_regW (hO : OkO P O) {TT : Tl} {id : Nat} {ops : Array Oper} {s : St} {Q : ExP → St → Prop} (h : wcOps P O ops ops.toList s fun s' => Q (.ex .normal) s') : AWG P w0 n0 TT (.region id ops false) s Q :=
 awg_region (by
  have := wcOps_aops hO (n0 := n0) (ro := none) ops.toList 0 s _ (fun j => by simp) h
  simpa using this)
theorem wct_sound (hO : OkO P O) {TT : Tl} : ∀ (c : Code) (s : St) (Q : Ex → St → Prop), calmC c = true → wc P n0 none T O c s Q → AWG P w0 n0 TT c s (exK Q)
 | .skip, s, Q, _, h => awg_skip h
 | .exit _, s, Q, _, h => awg_exit h
 | .ret, s, Q, _, h => awg_ret h
 | .seq a b, s, Q, ht, h => by
  simp only [calmC, Bool.and_eq_true] at ht
  refine awg_seq (awg_mono (wct_sound hO a s _ ht.1 h) fun e s' h' => ?_)
  cases e with
  | panic _ => exact h'
  | ex x =>
   cases x with
   | normal => exact wct_sound hO b s' Q ht.2 h'
   | exit id => exact h'
   | ret => exact h'
 | .cond c a b, s, Q, ht, h => by
  simp only [calmC, Bool.and_eq_true] at ht
  simp only [wc] at h
  split at h
  ·rename_i t hc
   exact awg_cond hc (fun e => wct_sound hO a s Q ht.1 (h.1 e)) (fun e => wct_sound hO b s Q ht.2 (h.2 e))
  ·exact h.elim
 | .block id c, s, Q, ht, h => by
  refine awg_block (awg_mono (wct_sound hO c s _ ht h) fun e s' h' => ?_)
  cases e with
  | panic _ => exact h'
  | ex x =>
   cases x with
   | normal => exact h'
   | ret => exact h'
   | exit i =>
    by_cases hi : i = id
    ·simp only [exK, blockQ, blockP, if_pos hi] at h' ⊢
     exact h'
    ·simp only [exK, blockQ, blockP, if_neg hi] at h' ⊢
     exact h'
 | .region id ops false, s, Q, _, h => awg_regW hO h
 | .region _ _ true, _, _, ht, _ => by simp [calmC] at ht
theorem awg_peelT (hO : OkO P O) {TT : Tl} {x y : Code} {s : St} {Q : ExP → St → Prop} (ht : calmC x = true) (h : wc P n0 none T O x s (thenQ (fun s' => AWG P w0 n0 TT y s' Q) fun x s => Q (.ex x) s)) : AWG P w0 n0 TT (.seq x y) s Q :=
 awg_seq (awg_mono (wct_sound hO x s _ ht h) fun e s' h' => by
  cases e with
  | panic _ => exact h'.elim
  | ex x => cases x <;> exact h')
theorem awg_restT (hO : OkO P O) {TT : Tl} {x : Code} {s : St} {Q : ExP → St → Prop} (ht : calmC x = true) (h : wc P n0 none T O x s fun x s => Q (.ex x) s) : AWG P w0 n0 TT x s Q :=
 awg_mono (wct_sound hO x s _ ht h) fun e s' h' => by
  cases e with
  | panic _ => exact h'.elim
  | ex x => exact h'
theorem bwg_peel (hO : OkO P O) {fn : Func} {rs : List ResultVar} (hrs : fn.results.toList = rs) {Q : D → H → Nat → Prop} {x y : Code} {s : St} (ht : calmC x = true) (h : wc P n0 none T O x s (thenQ (fun s' => BWg P w0 fn n0 Q y s') (endK P rs Q))) : BWg P w0 fn n0 Q (.seq x y) s :=
 bwg_seq (awg_mono (wct_sound hO x s _ ht h) fun e s' h' => by
  cases e with
  | panic _ => exact h'.elim
  | ex x =>
   cases x with
   | normal => exact h'
   | exit _ => exact h'
   | ret => exact (endQ_of hrs (show endK P rs Q .ret s' from h') : endQ P fn Q .ret s'))
def endKP (P : Program) (rs : List ResultVar) (Q : D → H → Nat → Prop) (R : List PanicEntry → H → Nat → Prop) : ExP → St → Prop
 | .ex .normal, s | .ex .ret, s => optK (resD P s rs) fun ds => Q (tupD ds) s.h s.nid
 | .ex (.exit _), _ => False
 | .panic ch, s => R ch s.h s.nid
theorem pcallg_of_pieces {f : FuncId} {fn : Func} {c : Code} {ds : List D} {h : H} {nid : Nat} {rs : List ResultVar} {m : Nat} {Q : D → H → Nat → Prop} {R : List PanicEntry → H → Nat → Prop} (hf : P.funcs[f]? = some fn) (hb : fn.body = some c) (hcal : callable P f = true)
  (hrs : fn.results.toList = rs) (hn : ds.length + (fn.ntmps - ds.length) = m) (hw : AWG P w0 nid (false, []) c ⟨argEnv 0 ds, h, nid, m⟩ (endKP P rs Q R)) : PCallG P w0 f ds h nid Q R := by
 refine pcallg_of_awt hf hb hcal ?_
 rw [hn]
 refine awg_mono hw fun e s hq => ?_
 subst hrs
 cases e with
 | panic ch => exact hq
 | ex x =>
  cases x with
  | exit _ => exact hq
  | normal => obtain ⟨ds, h1, h2⟩ := optK_inv (show optK _ _ from hq); exact ⟨ds, h1, h2⟩
  | ret => obtain ⟨ds, h1, h2⟩ := optK_inv (show optK _ _ from hq); exact ⟨ds, h1, h2⟩
theorem awg_peelI (hO : OkO P O) (hm : P.follows .mixedOrders = true) {x y : Code} {s : St} {Q : ExP → St → Prop} (E : Env) (V : H) (nid n : Nat) (ht : tabOk T x = true) (h : wc P n0 none T O x s (thenQ (fun s' => headW n0 s' E V nid n) fun x s => Q (.ex x) s))
  (h2 : AWG P w0 n0 (false, []) y ⟨E, V, nid, n⟩ Q) : AWG P w0 n0 (false, []) (.seq x y) s Q :=
 awg_seq (awg_of_awp (awp_mono (wc_sound hO hm x s _ ht h) fun e s h => by
  cases e with
  | normal => exact awg_imp (imp_head h) h2
  | exit _ => exact h
  | ret => exact h))
theorem run_eqI {d : Nat} {t : TypeId} {w : World} (hu : ∃ ms, P.underlying t = some (.interface ms)) : (Op.equalIn (d + 1) t .nilIface .nilIface).run P w = .ok true w ∧ ∀ u v, (Op.equalIn (d + 1) t (.iface u v) .nilIface).run P w = .ok false w := by
 obtain ⟨ms, hu⟩ := hu
 exact ⟨by simp [Op.equalIn, run_underlying hu], fun u v => by simp [Op.equalIn, run_underlying hu]⟩
theorem run_eqnil {t : TypeId} {x : Operand} {v : Value} {w : World} (hu : ∃ ms, P.underlying t = some (.interface ms)) {R : Rx} {n : Nat} {d : D} (hv : Rel R n v d) {b : Bool} (hd : d = .nili ∧ b = true ∨ (∃ u e, d = .ifc u e) ∧ b = false) :
  ((do eqGuard .eql t x (.const .nilIface) v .nilIface; binOp .eql t v .nilIface) : Sem Value).run P w = .ok (.bool b) w := by
 have h1 := run_eqI (P := P) (d := 9999) (w := w) hu
 rcases hd with ⟨rfl, rfl⟩ | ⟨⟨u, e, rfl⟩, rfl⟩
 ·cases hv
  have e1 : eqGuard .eql t x (.const .nilIface) .nilIface .nilIface = pure () := by simp [eqGuard]
  have e2 : binOp .eql t .nilIface .nilIface = (do pure (.bool (← Op.equal t .nilIface .nilIface))) := rfl
  have h2 : (Op.equal t .nilIface .nilIface).run P w = .ok true w := h1.1
  rw [e1, e2]
  simp only [Sem.run_bind, Sem.run_pure, Result.andThen_ok, h2]
 ·cases hv with
  | ifc _ _ v' _ _ =>
   have e1 : eqGuard .eql t x (.const .nilIface) (.iface u v') .nilIface = pure () := by simp [eqGuard]
   have e2 : binOp .eql t (.iface u v') .nilIface = (do pure (.bool (← Op.equal t (.iface u v') .nilIface))) := rfl
   have h2 : (Op.equal t (.iface u v') .nilIface).run P w = .ok false w := h1.2 _ _
   rw [e1, e2]
   simp only [Sem.run_bind, Sem.run_pure, Result.andThen_ok, h2]
theorem opOk_eqnil {o : Oper} {t yt : TypeId} {x : Operand} {s : St} {K : St → Prop} (ho : o.op = .binOp .eql t x (.const .nilIface) yt) (hu : ∃ ms, P.underlying t = some (.interface ms)) {b : Bool} (hx : evO s.env x = .nili ∧ b = true ∨ (∃ u e, evO s.env x = .ifc u e) ∧ b = false)
  (hK : K (s.put o.dst (.bool b))) : OpOk P n0 none o s K := by
 intro X k0 k a Q Kc hn hat hk
 have r1 := hat.act.eval x
 have h1 := run_eqnil (P := P) (x := x) (w := k.w) hu r1 hx
 refine ⟨fun _ _ => trivial, ?_⟩
 have hex : (execOp a.eval o).run P k.w = .ok (.value (.bool b)) k.w := by
  unfold execOp
  rw [ho]
  exact ok_bind_value _ _ _ _ _ h1
 rw [semAt_eq _ _ (by rw [ho]; simp), hex]
 refine hk k _ _ hK ⟨?_, ?_, hat.good, hat.le, hat.act.put o.dst (.bool _ _)⟩ (.refl k) (kept1_put _ _ _)
 ·rw [put_h]; exact hat.h
 ·rw [put_nid]; exact hat.nid
theorem opOk_assert {o : Oper} {xt u : TypeId} {x : Operand} {s : St} {K : St → Prop} {d : D} (ho : o.op = .typeAssert x xt u true) (hu : ∃ fs, P.underlying u = some (.struct fs)) (hx : evO s.env x = .ifc u d)
  (hK : K (s.put o.dst (.tup [d, .bool true]))) : OpOk P n0 none o s K := by
 intro X k0 k a Q Kc hn hat hk
 obtain ⟨fs, hu⟩ := hu
 have r1 := hat.act.eval x
 rw [hx] at r1
 generalize hv : a.eval x = v at r1
 cases r1 with
 | ifc _ _ v' _ hd =>
  have h1 : (Instr.typeAssert (.iface u v') xt u true).run P k.w = .ok (.tuple #[v', .bool true]) k.w := by
   simp [Instr.typeAssert, run_underlying hu, Sem.run_bind]
  refine ⟨fun _ _ => trivial, ?_⟩
  have hex : (execOp a.eval o).run P k.w = .ok (.value (.tuple #[v', .bool true])) k.w := by
   unfold execOp
   rw [ho]
   simp only [hv]
   exact ok_bind_value _ _ _ _ _ h1
  rw [semAt_eq _ _ (by rw [ho]; simp), hex]
  have hr : Rel (k.R X) k.nid (.tuple #[v', .bool true]) (.tup [d, .bool true]) := .tup _ [v', .bool true] [d, .bool true] rfl fun i v e h1 h2 => by
   match i with
   | 0 => simp at h1 h2; subst h1 h2; exact hd
   | 1 => simp at h1 h2; subst h1 h2; exact .bool _ _
   | i + 2 => simp at h1
  refine hk k _ _ hK ⟨?_, ?_, hat.good, hat.le, hat.act.put o.dst hr⟩ (.refl k) (kept1_put _ _ _)
  ·rw [put_h]; exact hat.h
  ·rw [put_nid]; exact hat.nid
end Go.Sx

/- Sx: calls of functions that may panic, by contracts on data and by contracts on one box that is lent. Own work. -/
namespace Go.Sx
variable {P : Program} {O : Oracle} {w0 : World} {n0 : Nat} {T : List (Nat × List Ann)}

theorem pcallg_data {f : FuncId} {ds : List D} {A : D → Prop} {R : List PanicEntry → Prop} {h : H} {nid : Nat} (hp : PCallG P w0 f ds [] 0 (fun r _ _ => A r) fun ch _ _ => R ch) (hds : D.frL ds = true) (hA : ∀ r, A r → r.fr = true) :
  PCallG P w0 f ds h nid (fun r' h' nid' => A r' ∧ h' = h ∧ nid' = nid) fun ch h' nid' => R ch ∧ h' = h ∧ nid' = nid := by
 refine ⟨hp.1, fun X k vs hfr hh hn hg hrel => ?_⟩
 subst hh; subst hn
 refine (hp.2 (fun b => X b ∨ k.Mut b) k.sub vs hfr.sub rfl rfl (good_sub fun b hb => hb.elim (hg.xlt b) fun ⟨i, hi⟩ => (hg.lt i b hi).1) ⟨hrel.1, fun i v d a b => ?_⟩).mono ?_
 ·exact ((hrel.2 i v d a b).free (m := 0) (D.frL_get hds i d b)).mono (rle_sub' k)
 ·rintro e w' ⟨kc, rfl, hgc, hlec, hres⟩
  have hheap : ∀ b, b < k.w.heap.size → kc.w.heap[b]? = k.w.heap[b]? := fun b hb => hlec.heap b hb (sub_mut k b)
  have hle : Le k { k with w := kc.w } := le_world hlec.os hlec.tape hlec.output hlec.size hheap
  refine ⟨{ k with w := kc.w }, rfl, hg.world hle hheap, hle, ?_⟩
  rcases hres with ⟨v, r', rfl, hA', hrc⟩ | ⟨ch, rfl, hR⟩
  ·refine .inl ⟨v, r', rfl, ⟨hA', rfl, rfl⟩, ?_⟩
   have hroll := (hrc.free (m := 0) (hA r' hA')).mono (R' := Cx.R X { k with w := kc.w }) {
    β := fun b hb => by omega
    arr := fun b hb => by omega
    S := fun b ⟨h1, h2, h3⟩ => ⟨h1, fun hx => h2 (.inl hx), fun hm => h2 (.inr hm)⟩
    heap := fun _ _ _ => rfl
    map := fun _ _ _ _ h => h }
   exact hroll.weak (Nat.zero_le _)
  ·exact .inr ⟨ch, rfl, hR, rfl, rfl⟩
def Cx.lend (k : Cx) (b : Nat) (cs : List D) : Cx := { w := k.w, β := fun _ => k.β b, sv := k.sv, h := [(0, .box cs)], nid := 1 }
theorem lend_own {k : Cx} {b : Nat} {cs : List D} {id x : Nat} (h : (k.lend b cs).own id = some x) : id = 0 ∧ x = k.β b := by
 simp only [Cx.own, Cx.lend, hget] at h
 by_cases e : id = 0
 ·subst e; simp [ownOf] at h; exact ⟨rfl, h.symm⟩
 ·simp [e, ownOf] at h
theorem pcallg_lend {f : FuncId} {b o : Nat} {cs : List D} {ds : List D} {h : H} {nid : Nat} {A : D → List D → Prop} {R : List PanicEntry → Prop} (hb : hget h b = some (.box cs)) (hcs : D.ltL 0 cs = true) (hds : D.frL ds = true)
  (hA : ∀ r cs', A r cs' → r.fr = true ∧ D.ltL 0 cs' = true) (hp : PCallG P w0 f (.ptr 0 o :: ds) [(0, .box cs)] 1 (fun r h' _ => ∃ cs', hget h' 0 = some (.box cs') ∧ A r cs') fun ch _ _ => R ch) :
  PCallG P w0 f (.ptr b o :: ds) h nid (fun r h' nid' => ∃ cs', A r cs' ∧ h' = hset h b (.box cs') ∧ nid' = nid) fun ch _ _ => R ch := by
 refine ⟨hp.1, fun X k vs hfr hh hn hg hrel => ?_⟩
 subst hh; subst hn
 have hown : k.own b = some (k.β b) := by simp [Cx.own, hb, ownOf]
 have hB := hg.lt b _ hown
 have hmut : ∀ x, (k.lend b cs).Mut x ↔ x = k.β b := fun x => ⟨fun ⟨id, h⟩ => (lend_own h).2, fun h => ⟨0, by rw [h]; simp [Cx.own, Cx.lend, hget, ownOf]⟩⟩
 have hX : ∀ x, X x ∨ (k.Mut x ∧ x ≠ k.β b) → x < k.w.heap.size := fun x hx => hx.elim (hg.xlt x) fun ⟨⟨i, hi⟩, _⟩ => (hg.lt i x hi).1
 have hrle : RLe 0 (k.R X) ((k.lend b cs).R fun x => X x ∨ (k.Mut x ∧ x ≠ k.β b)) := {
  β := fun b hb => by omega
  arr := fun b hb => by omega
  S := fun x ⟨h1, h2, h3⟩ => ⟨h1, fun hx => hx.elim h2 fun hm => h3 hm.1, fun hm => h3 ⟨b, by rw [hown, (hmut x).1 hm]⟩⟩
  heap := fun _ _ _ => rfl
  map := fun _ _ _ _ h => h }
 have hgood : Good (fun x => X x ∨ (k.Mut x ∧ x ≠ k.β b)) (k.lend b cs) := {
  key := fun id blk h => by
   simp only [Cx.lend, hget] at h
   by_cases e : id = 0
   ·subst e; exact Nat.one_pos
   ·simp [e] at h
  inj := fun i j x hi hj => by rw [(lend_own hi).1, (lend_own hj).1]
  lt := fun i x hx => by
   rw [(lend_own hx).2]
   exact ⟨hB.1, fun h => h.elim hB.2 fun h => h.2 rfl⟩
  xlt := hX
  ok := fun id blk h => by
   simp only [Cx.lend, hget] at h
   by_cases e : id = 0
   ·subst e
    simp at h; subst h
    obtain ⟨vs', ty, h1, h2⟩ := hg.ok b _ hb
    exact ⟨vs', ty, h1, h2.1, fun i v d a c => (((h2.2 i v d a c).free (m := 0) (D.fr_lt (D.ltL_get hcs i d c))).mono hrle).weak (Nat.zero_le _)⟩
   ·simp [e] at h }
 have hfr1 : Fr w0 (k.lend b cs) := ⟨hfr.size, hfr.heap, fun x hx hm => hfr.nm x hx ⟨b, by rw [hown, (hmut x).1 hm]⟩⟩
 refine (hp.2 _ (k.lend b cs) vs hfr1 rfl rfl hgood ⟨hrel.1, fun i v d a c => ?_⟩).mono ?_
 ·match i with
  | 0 =>
   simp at c; subst c
   have := hrel.2 0 v _ a rfl
   cases this with
   | ptr _ _ _ _ => exact .ptr _ _ _ Nat.one_pos
  | i + 1 =>
   simp at c
   have := hrel.2 (i + 1) v d a (by simpa using c)
   exact ((this.free (m := 0) (D.frL_get hds i d c)).mono hrle).weak (Nat.zero_le _)
 ·rintro e w' ⟨k1, rfl, hg1, hle1, hres⟩
  have hheap : ∀ x, x < k.w.heap.size → k.own b ≠ some x → k1.w.heap[x]? = k.w.heap[x]? := fun x hx hne => hle1.heap x hx fun hm => hne (by rw [hown, (hmut x).1 hm])
  rcases hres with ⟨v, r', rfl, ⟨cs', hb', hA'⟩, hrc⟩ | ⟨ch, rfl, hR⟩
  ·obtain ⟨hr1, hr2⟩ := hA r' cs' hA'
   have hβ : k1.β 0 = k.β b := hle1.β 0 Nat.one_pos
   have hm1 : k1.Mut (k.β b) := ⟨0, by simp [Cx.own, hb', ownOf, hβ]⟩
   have hownu : ∀ x, (k.upd b (.box cs') k1.w (k.sv b)).Mut x → k.Mut x := fun x ⟨id, hid⟩ => by
    by_cases e : id = b
    ·subst e
     refine ⟨id, ?_⟩
     rw [hown]
     simpa [Cx.own, Cx.upd, hget_hset, ownOf] using hid
    ·refine ⟨id, ?_⟩
     simp only [Cx.own, Cx.upd, hget_hset, if_neg e] at hid ⊢
     cases hq : hget k.h id with
     | none => rw [hq] at hid; exact hid
     | some blk => rw [hq] at hid; cases blk <;> simpa [ownOf, e] using hid
   have hrle2 : RLe 0 (k1.R fun x => X x ∨ (k.Mut x ∧ x ≠ k.β b)) ((k.upd b (.box cs') k1.w (k.sv b)).R X) := {
    β := fun b hb => by omega
    arr := fun b hb => by omega
    S := fun x ⟨h1, h2, h3⟩ => ⟨h1, fun hx => h2 (.inl hx), fun hm => by
     have hm := hownu x hm
     by_cases e : x = k.β b
     ·exact h3 (e ▸ hm1)
     ·exact h2 (.inr ⟨hm, e⟩)⟩
    heap := fun _ _ _ => rfl
    map := fun _ _ _ _ h => h }
   obtain ⟨hgu, hleu⟩ := hg.upd (blk := .box cs') (w' := k1.w) (v' := k.sv b) hb hle1.os hle1.tape hle1.output hle1.size hheap (fun x hx => .inl (by
    rw [hown]
    simpa [Cx.own, Cx.upd, hget_hset, ownOf] using hx)) (fun m' hm => by simp [lnOf] at hm) (fun _ => by
     obtain ⟨vs', ty, h1, h2⟩ := hg1.ok 0 _ hb'
     rw [hβ] at h1
     exact ⟨vs', ty, h1, h2.1, fun i v d a c => (((h2.2 i v d a c).free (m := 0) (D.fr_lt (D.ltL_get hr2 i d c))).mono hrle2).weak (Nat.zero_le _)⟩)
   exact ⟨k.upd b (.box cs') k1.w (k.sv b), rfl, hgu, hleu, .inl ⟨v, r', rfl, ⟨cs', hA', rfl, rfl⟩, ((hrc.free (m := 0) hr1).mono hrle2).weak (Nat.zero_le _)⟩⟩
  ·refine ⟨{ k with w := k1.w, h := [] }, rfl, ?_, ?_, .inr ⟨ch, rfl, hR⟩⟩
   ·exact {
     key := fun id blk h => by simp [hget] at h
     inj := fun i j x h => by simp [Cx.own, hget, ownOf] at h
     lt := fun i x h => by simp [Cx.own, hget, ownOf] at h
     xlt := fun x hx => Nat.lt_of_lt_of_le (hg.xlt x hx) hle1.size
     ok := fun id blk h => by simp [hget] at h }
   ·exact {
     nid := Nat.le_refl _
     os := hle1.os
     tape := hle1.tape
     output := hle1.output
     size := hle1.size
     β := fun _ _ => rfl
     arr := fun id _ m' hm => by simp [hget, lnOf] at hm
     heap := fun x hx hn => hheap x hx fun e => hn ⟨b, e⟩
     mb := fun x _ ⟨id, h⟩ => by simp [Cx.own, hget, ownOf] at h }
end Go.Sx
