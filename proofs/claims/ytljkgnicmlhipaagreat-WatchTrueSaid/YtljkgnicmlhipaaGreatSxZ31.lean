/- Sx: code that may panic, behind a deferred call. Own work. -/
import Derived.Test.YtljkgnicmlhipaaGreatSxZ30
set_option linter.unusedVariables false
set_option linter.unusedSimpArgs false
namespace Go.Sx
variable {P : Program} {n0 : Nat}

inductive ExP where
 | ex (x : Ex)
 | panic (ch : List PanicEntry)
def exP : Exit → Option ExP
 | .panic ch => some (.panic ch)
 | e => (exOf e).map .ex
abbrev Tl := Bool × List Deferred
def AtT (T : Tl) (X : Nat → Prop) (k0 k : Cx) (a : Act) (s : St) : Prop := ∃ ds, a.defers = ds ++ T.2 ∧ (T.1 = true → ds = []) ∧ At X k0 k { a with defers := ds } s
def PostT (T : Tl) (X : Nat → Prop) (k0 : Cx) (Q : ExP → St → Prop) (e : Exit) (a : Act) (w : World) : Prop :=
 ∃ x k s, exP e = some x ∧ k.w = w ∧ Q x s ∧ AtT T X k0 k a s
def AWT (P : Program) (n0 : Nat) (T : Tl) (c : Code) (s : St) (Q : ExP → St → Prop) : Prop :=
 ∀ X k0 k a, k0.nid = n0 → AtT T X k0 k a s → c.wpIn (FW none) 0 P (PostT T X k0 Q) a k.w
theorem AtT.nil {b : Bool} {X : Nat → Prop} {k0 k : Cx} {a : Act} {s : St} (h : AtT (b, []) X k0 k a s) : At X k0 k a s := by
 obtain ⟨ds, h1, _, h2⟩ := h
 dsimp only at h1
 rw [List.append_nil] at h1
 subst h1
 exact h2
theorem At.toT {X : Nat → Prop} {k0 k : Cx} {a : Act} {s : St} (h : At X k0 k a s) : AtT (false, []) X k0 k a s := ⟨a.defers, (List.append_nil _).symm, (fun h => by cases h), h⟩
theorem awt_of_awp {c : Code} {s : St} {Q : ExP → St → Prop} (h : AWp P n0 none c s fun x s' => Q (.ex x) s') : AWT P n0 (false, []) c s Q := fun X k0 k a hn hat =>
 wpIn_mono (h X k0 k a hn hat.nil) fun e a w ⟨x, k, s, h1, h2, h3, h4⟩ => ⟨.ex x, k, s, by cases e <;> simp_all [exOf, exP], h2, h3, h4.toT⟩
theorem awt_mono {T : Tl} {c : Code} {s : St} {Q Q' : ExP → St → Prop} (h : AWT P n0 T c s Q) (hq : ∀ e s, Q e s → Q' e s) : AWT P n0 T c s Q' :=
 fun X k0 k a hn hat => wpIn_mono (h X k0 k a hn hat) fun e a w ⟨x, k, s, h1, h2, h3, h4⟩ => ⟨x, k, s, h1, h2, hq _ _ h3, h4⟩
def thenP (K : St → Prop) (Q : ExP → St → Prop) : ExP → St → Prop
 | .ex .normal, s => K s
 | e, s => Q e s
theorem awt_seq {T : Tl} {x y : Code} {s : St} {Q : ExP → St → Prop} (h : AWT P n0 T x s (thenP (fun s' => AWT P n0 T y s' Q) Q)) : AWT P n0 T (.seq x y) s Q :=
 fun X k0 k a hn hat => wpIn_seq (wpIn_mono (h X k0 k a hn hat) fun e a w ⟨x, k, s, h1, h2, h3, h4⟩ => by
  subst h2
  cases e <;> simp only [exP, exOf, Option.map_some, Option.map_none, Option.some.injEq, reduceCtorEq] at h1 <;> subst h1
  ·exact h3 X k0 k a hn h4
  ·exact ⟨_, k, s, rfl, rfl, h3, h4⟩
  ·exact ⟨_, k, s, rfl, rfl, h3, h4⟩
  ·exact ⟨_, k, s, rfl, rfl, h3, h4⟩)
theorem awt_cond {T : Tl} {c : Operand} {x y : Code} {s : St} {Q : ExP → St → Prop} {t : Bool} (hc : evO s.env c = .bool t) (ht : t = true → AWT P n0 T x s Q) (hf : t = false → AWT P n0 T y s Q) :
  AWT P n0 T (.cond c x y) s Q :=
 fun X k0 k a hn hat => wpIn_cond (t := t) (by
  obtain ⟨ds, h1, _, h2⟩ := hat
  have := eval_bool h2.act hc
  cases c <;> exact this) (by
  cases t
  ·exact hf rfl X k0 k a hn hat
  ·exact ht rfl X k0 k a hn hat)
theorem awt_skip {T : Tl} {s : St} {Q : ExP → St → Prop} (h : Q (.ex .normal) s) : AWT P n0 T .skip s Q := fun X k0 k a hn hat => wpIn_skip ⟨_, k, s, rfl, rfl, h, hat⟩
theorem awt_exit {T : Tl} {id : Nat} {s : St} {Q : ExP → St → Prop} (h : Q (.ex (.exit id)) s) : AWT P n0 T (.exit id) s Q := fun X k0 k a hn hat => wpIn_exit ⟨_, k, s, rfl, rfl, h, hat⟩
theorem awt_ret {T : Tl} {s : St} {Q : ExP → St → Prop} (h : Q (.ex .ret) s) : AWT P n0 T .ret s Q := fun X k0 k a hn hat => wpIn_ret ⟨_, k, s, rfl, rfl, h, hat⟩
def blockP (id : Nat) (Q : ExP → St → Prop) : ExP → St → Prop
 | .ex (.exit i), s => if i = id then Q (.ex .normal) s else Q (.ex (.exit i)) s
 | e, s => Q e s
theorem awt_block {T : Tl} {id : Nat} {c : Code} {s : St} {Q : ExP → St → Prop} (h : AWT P n0 T c s (blockP id Q)) : AWT P n0 T (.block id c) s Q :=
 fun X k0 k a hn hat => wpIn_block (wpIn_mono (h X k0 k a hn hat) fun e a w ⟨x, k, s, h1, h2, h3, h4⟩ => by
  subst h2
  cases e with
  | exit i =>
   simp only [exP, exOf, Option.map_some, Option.some.injEq] at h1
   subst h1
   simp only [Exit.inBlock]
   by_cases hi : i = id
   ·rw [if_pos hi]
    simp only [blockP, if_pos hi] at h3
    exact ⟨_, k, s, rfl, rfl, h3, h4⟩
   ·rw [if_neg hi]
    simp only [blockP, if_neg hi] at h3
    exact ⟨_, k, s, rfl, rfl, h3, h4⟩
  | _ =>
   simp only [exP, exOf, Option.map_some, Option.map_none, Option.some.injEq, reduceCtorEq] at h1 <;> subst h1 <;> exact ⟨_, k, s, rfl, rfl, h3, h4⟩)
theorem AtT.imp {T : Tl} {X : Nat → Prop} {k0 k : Cx} {a : Act} {s s' : St} (h : AtT T X k0 k a s) (hn : k0.nid = n0) (hi : Imp n0 s s') : ∃ k', k'.w = k.w ∧ AtT T X k0 k' a s' := by
 obtain ⟨ds, h1, hz, h2⟩ := h
 obtain ⟨k', e, h3⟩ := hi X k0 k _ hn h2
 exact ⟨k', e, ds, h1, hz, h3⟩
theorem awt_imp {T : Tl} {c : Code} {s s' : St} {Q : ExP → St → Prop} (hi : Imp n0 s s') (h : AWT P n0 T c s' Q) : AWT P n0 T c s Q := fun X k0 k a hn hat => by
 obtain ⟨k', e, hat'⟩ := hat.imp hn hi
 rw [← e]
 exact h X k0 k' a hn hat'
theorem wpIn_loopP {ro : Option Nat} {ι : Type} {c : Code} {Q : Exit → Act → World → Prop} {a : Act} {w : World} (Inv : ι → Act → World → Prop) (μ : ι → Nat) (i0 : ι) (h0 : Inv i0 a w)
  (round : ∀ i a w, Inv i a w → c.wpIn (FW ro) 0 P (fun e a' w' => match e with
   | .normal => ∃ j, Inv j a' w' ∧ μ j < μ i
   | .exit id => Q (.exit id) a' w'
   | .ret => Q .ret a' w'
   | .panic ch => Q (.panic ch) a' w'
   | _ => False) a w) : (Code.loop c).wpIn (FW ro) 0 P Q a w := by
 intro b kk cs hro hb hr
 have key : ∀ n (i : ι) (a : Act) (w : World), μ i = n → Inv i a w →
   ∃ e a' w', Q e a' w' ∧ ArrivesIn (Machine.fenced P (FW ro)) P (lone (b.atR a (.code c :: .inLoop c :: kk)) cs w) b kk cs e a' w' := by
  intro n
  induction n using Nat.strongRecOn with
  | _ n ih =>
   intro i a w hμ hI
   obtain ⟨e, a₁, w₁, hq, harr⟩ := round i a w hI b (.inLoop c :: kk) cs hro hb hr
   cases e with
   | normal =>
    obtain ⟨j, hj, hlt⟩ := hq
    obtain ⟨e₂, a₂, w₂, hq₂, harr₂⟩ := ih (μ j) (hμ ▸ hlt) j a₁ w₁ rfl hj
    exact ⟨e₂, a₂, w₂, hq₂, .of_steps (StepsIn.trans harr (.one (fenced_calm (fr := b.atR a₁ (.inLoop c :: kk)) hb hr rfl) stepR_inLoop)) harr₂⟩
   | exit id => exact ⟨_, a₁, w₁, hq, .pass (x := .inLoop c) rfl (fun _ _ => .inl (by simp)) harr⟩
   | ret => exact ⟨_, a₁, w₁, hq, .pass (x := .inLoop c) rfl (fun _ _ => .inl (by simp)) harr⟩
   | panic ch => exact ⟨_, a₁, w₁, hq, .pass (x := .inLoop c) rfl (fun _ _ => .inl (by simp)) harr⟩
   | _ => exact hq.elim
 obtain ⟨e, a', w', hq, harr⟩ := key _ i0 a w rfl h0
 exact ⟨e, a', w', hq, .of_steps (.one (fenced_calm hb hr rfl) stepR_loop) harr⟩

theorem awt_loopI {T : Tl} {ι : Type} {c : Code} {s : St} {Q : ExP → St → Prop} (σ : ι → St) (I : ι → Prop) (μ : ι → Nat) (i0 : ι) (h0 : I i0) (hw : Imp n0 s (σ i0))
  (round : ∀ i, I i → AWT P n0 T c (σ i) (thenP (fun s' => ∃ j, I j ∧ μ j < μ i ∧ Imp n0 s' (σ j)) Q)) : AWT P n0 T (.loop c) s Q := by
 intro X k0 k a hn hat
 obtain ⟨k', hk', hat'⟩ := hat.imp hn hw
 rw [← hk']
 refine wpIn_loopP (fun i a w => I i ∧ ∃ k, k.w = w ∧ AtT T X k0 k a (σ i)) μ i0 ⟨h0, k', rfl, hat'⟩ ?_
 rintro i a w ⟨hi, k, rfl, hat⟩
 refine wpIn_mono (round i hi X k0 k a hn hat) ?_
 rintro e a' w' ⟨x, k1, s1, hx, rfl, hq, hat1⟩
 cases e with
 | normal =>
  simp only [exP, exOf, Option.map_some, Option.some.injEq] at hx; subst hx
  obtain ⟨j, hj, hlt, him⟩ := hq
  obtain ⟨k2, e2, hat2⟩ := hat1.imp hn him
  exact ⟨j, ⟨hj, k2, e2, hat2⟩, hlt⟩
 | exit id => simp only [exP, exOf, Option.map_some, Option.some.injEq] at hx; subst hx; exact ⟨_, k1, s1, rfl, rfl, hq, hat1⟩
 | ret => simp only [exP, exOf, Option.map_some, Option.some.injEq] at hx; subst hx; exact ⟨_, k1, s1, rfl, rfl, hq, hat1⟩
 | panic ch => simp only [exP, Option.some.injEq] at hx; subst hx; exact ⟨_, k1, s1, rfl, rfl, hq, hat1⟩
 | _ => simp [exP, exOf] at hx

def Act.tail (a : Act) (T : List Deferred) : Act := { a with defers := a.defers ++ T }
theorem tail_eval (a : Act) (T : List Deferred) : (Act.tail a T).eval = a.eval := funext fun x => by cases x <;> rfl
theorem tail_put (a : Act) (T : List Deferred) (dst : Option Tmp) (v : Value) : (Act.tail a T).put dst v = Act.tail (a.put dst v) T := by cases dst <;> rfl
theorem op_tail {F : Fence} {n : Nat} {o : Oper} {a : Act} {w : World} {next next' : Act → World → Prop} {Q Q' : Exit → Act → World → Prop} (T : List Deferred) (h : Oper.wpIn F n P o a w next Q)
  (hn : ∀ a w, next a w → next' (Act.tail a T) w) (hq : ∀ e a w, Q e a w → Q' e (Act.tail a T) w) : Oper.wpIn F n P o (Act.tail a T) w next' Q' := by
 unfold Oper.wpIn at h ⊢
 rw [tail_eval]
 refine ⟨h.1, ?_⟩
 have h2 := h.2
 generalize (o.semAt F.round a.eval).run P w = r at h2
 unfold Oper.uponIn at h2 ⊢
 split at h2
 ·rw [tail_put]; exact hn _ _ h2
 ·rw [tail_put]; exact hn _ _ h2
 ·have := hn _ _ h2
  rw [← tail_put] at this
  exact this
 ·refine ⟨h2.1, h2.2.mono fun e w' he => ?_⟩
  cases e with
  | returned v => simp only at he ⊢; rw [tail_put]; exact hn _ _ he
  | panicked ch => exact hq _ _ _ he
  | outgrown => obtain ⟨a', w', h⟩ := he; exact ⟨_, w', hq _ _ _ h⟩
 ·exact ⟨h2.1, h2.2.mono fun v w' he => by rw [tail_put]; exact hn _ _ he⟩
 ·refine ⟨h2.1, h2.2.mono fun e w' he => ?_⟩
  cases e with
  | returned v => simp only at he ⊢; rw [tail_put]; exact hn _ _ he
  | panicked ch => exact hq _ _ _ he
  | outgrown => obtain ⟨a', w', h⟩ := he; exact ⟨_, w', hq _ _ _ h⟩
 ·exact hq _ _ _ h2
 ·exact h2.elim
theorem ops_tail {F : Fence} {n : Nat} {ops : Array Oper} {Q Q' : Exit → Act → World → Prop} (T : List Deferred) (hq : ∀ e a w, Q e a w → Q' e (Act.tail a T) w) : ∀ (l : List Nat) (a : Act) (w : World), wpOpsIn F n P ops Q l a w → wpOpsIn F n P ops Q' l (Act.tail a T) w
 | [], a, w, h => hq _ _ _ h
 | i :: r, a, w, h => by
  rw [wpOpsIn_cons] at h ⊢
  unfold wpOpIn at h ⊢
  split at h
  ·exact ops_tail T hq r _ _ h
  ·rw [show (Act.tail a T).tmps = a.tmps from rfl]
   split at h
   ·rename_i hw
    rw [if_pos hw]
    exact op_tail T h (fun a w => ops_tail T hq r a w) hq
   ·rename_i hw
    rw [if_neg hw, tail_eval, tail_put]
    exact ⟨h.1, ops_tail T hq r _ _ h.2⟩

def AOpsT (P : Program) (n0 : Nat) (T : Tl) (ops : Array Oper) (l : List Nat) (s : St) (Q : ExP → St → Prop) : Prop :=
 ∀ X k0 k a, k0.nid = n0 → AtT T X k0 k a s → wpOpsIn (FW none) 0 P ops (PostT T X k0 Q) l a k.w
theorem awt_regionT {T : Tl} {id : Nat} {ops : Array Oper} {s : St} {Q : ExP → St → Prop} (h : AOpsT P n0 T ops (List.range ops.size) s Q) : AWT P n0 T (.region id ops false) s Q :=
 fun X k0 k a hn hat => wpIn_region (h X k0 k a hn hat)
theorem tail_of {a : Act} {ds T : List Deferred} (h : a.defers = ds ++ T) : a = Act.tail { a with defers := ds } T := by
 obtain ⟨t, d⟩ := a
 simp only at h
 subst h
 rfl
theorem aopst_nil {T : Tl} {ops : Array Oper} {s : St} {Q : ExP → St → Prop} (h : Q (.ex .normal) s) : AOpsT P n0 T ops [] s Q :=
 fun _ _ k _ _ hat => ⟨_, k, s, rfl, rfl, h, hat⟩
theorem aopst_app {T : Tl} {ops : Array Oper} {l1 l2 : List Nat} {s : St} {Q : ExP → St → Prop} (h : AOps P n0 none ops l1 s fun s' => AOpsT P n0 T ops l2 s' Q) : AOpsT P n0 T ops (l1 ++ l2) s Q := by
 intro X k0 k a hn hat
 obtain ⟨ds, h1, hz, h2⟩ := hat
 refine ops_app _ _ _ _ ?_
 have h3 := h X k0 k { a with defers := ds } (fun e a' w' => e = .normal ∧ wpOpsIn (FW none) 0 P ops (PostT T X k0 Q) l2 (Act.tail a' T.2) w') hn h2 fun k' a' s' hK hat' hkept => ⟨rfl, hK X k0 k' _ hn ⟨a'.defers, rfl, fun ht => hkept.1.trans (hz ht), hat'⟩⟩
 have h4 := ops_tail (Q' := appQ (PostT T X k0 Q) (wpOpsIn (FW none) 0 P ops (PostT T X k0 Q) l2)) T.2 (fun e a w ⟨he, hh⟩ => by subst he; exact hh) l1 _ _ h3
 rw [← tail_of h1] at h4
 exact h4
theorem awt_region {T : Tl} {id : Nat} {ops : Array Oper} {s : St} {Q : ExP → St → Prop} (h : AOps P n0 none ops (List.range ops.size) s fun s' => Q (.ex .normal) s') : AWT P n0 T (.region id ops false) s Q :=
 awt_regionT (by
  have := aopst_app (T := T) (l2 := []) (Q := Q) (fun X k0 k a Q' hn hat hk => h X k0 k a Q' hn hat fun k' a' s' hq hat' hkept => hk k' a' s' (aopst_nil hq) hat' hkept)
  rwa [List.append_nil] at this)

def ResP (X : Nat → Prop) (k : Cx) (Q : D → H → Nat → Prop) (R : List PanicEntry → H → Nat → Prop) (e : Ending) (w' : World) : Prop :=
 ∃ k', k'.w = w' ∧ Good X k' ∧ Le k k' ∧ ((∃ v r, e = .returned v ∧ Q r k'.h k'.nid ∧ Rel (k'.R X) k'.nid v r) ∨ ∃ ch, e = .panicked ch ∧ R ch k'.h k'.nid)
def PCall (P : Program) (f : FuncId) (ds : List D) (h : H) (nid : Nat) (Q : D → H → Nat → Prop) (R : List PanicEntry → H → Nat → Prop) : Prop :=
 callable P f = true ∧ ∀ X k vs, k.h = h → k.nid = nid → Good X k → RelL (k.R X) k.nid vs ds → Calls P f (List.toArray vs) k.w (ResP X k Q R)
theorem PCall.mono {f : FuncId} {ds : List D} {h : H} {nid : Nat} {Q Q' : D → H → Nat → Prop} {R R' : List PanicEntry → H → Nat → Prop} (hc : PCall P f ds h nid Q R) (hq : ∀ r h n, Q r h n → Q' r h n) (hr : ∀ c h n, R c h n → R' c h n) : PCall P f ds h nid Q' R' :=
 ⟨hc.1, fun X k vs h1 h2 h3 h4 => (hc.2 X k vs h1 h2 h3 h4).mono fun _ _ ⟨k', a, b, c, d⟩ => ⟨k', a, b, c, d.imp (fun ⟨v, r, x, y, z⟩ => ⟨v, r, x, hq _ _ _ y, z⟩) fun ⟨ch, x, y⟩ => ⟨ch, x, hr _ _ _ y⟩⟩⟩
theorem aopst_call {T : Tl} {ops : Array Oper} {i : Nat} {rest : List Nat} {o : Oper} {c : Call} {s : St} {Q : ExP → St → Prop} {f : FuncId} {ds : List D} (hoi : ops[i]? = some o) (hg : o.guard = none) (ho : o.op = .call c) (hcal : calleeD s.env c = some (f, ds))
  (h : PCall P f ds s.h s.nid (fun r h' nid' => AOpsT P n0 T ops rest (St.put { s with h := h', nid := nid' } o.dst r) Q) fun ch h' nid' => Q (.panic ch) { s with h := h', nid := nid' }) : AOpsT P n0 T ops (i :: rest) s Q := by
 intro X k0 k a hn hat
 obtain ⟨tl, h1, hz, hat⟩ := hat
 rw [wpOpsIn_cons]
 have hw : Region.wanted o (yielded ops a.tmps) = true := by simp [Region.wanted, hg]
 simp only [wpOpIn, hoi, hw, if_true]
 refine ⟨fun _ _ => trivial, ?_⟩
 rw [semAt_eq _ _ (by rw [ho]; simp)]
 have hev : ∀ x, Rel (k.R X) k.nid (a.eval x) (evO s.env x) := fun x => by
  have := hat.act.eval x
  cases x <;> exact this
 unfold calleeD at hcal
 split at hcal
 ·rename_i x hx
  split at hcal
  ·rename_i f' first cap hf
   cases hcal
   have hr := hev x
   rw [hf] at hr
   obtain ⟨callee, args, argTypes⟩ := c
   dsimp only at hx
   subst hx
   generalize hv : a.eval x = v at hr
   cases hr with
   | fn _ _ va vc _ _ h1' h2 h3 h4 =>
    have hrun : (execOp a.eval o).run P k.w = .ok (.enter f (va ++ args.toList.map a.eval ++ vc).toArray) k.w := by
     unfold execOp
     rw [ho]
     simp only [resolve, Sem.run_bind, hv, Deferred.ofValue, Sem.run_pure, Result.andThen_ok, invoke]
     rw [run_callFunc h.1]
     congr 2
     apply Array.ext'
     simp
    rw [hrun]
    refine ⟨by simp [FW, Fence.wide], callsIn_of_calls ?_⟩
    have hl : RelL (k.R X) k.nid (va ++ args.toList.map a.eval ++ vc) (first ++ args.toList.map (evO s.env) ++ cap) :=
     (RelL.append ⟨h1', h3⟩ (RelL.map (fun x => hev x) _)).append ⟨h2, h4⟩
    refine (h.2 X k _ hat.h hat.nid hat.good hl).mono ?_
    rintro e w' ⟨k', rfl, hg', hle, ⟨v', r, rfl, hK, hrel⟩ | ⟨ch, rfl, hK⟩⟩
    ·have hact := hat.act.le hat.good hle
     refine hK X k0 k' _ hn ⟨tl, by rw [put_defers]; exact h1, hz, ?_⟩
     refine ⟨?_, ?_, hg', hat.le.trans hle, ?_⟩
     ·rw [put_h]
     ·rw [put_nid]
     ·have := ActOk.put (s := { s with h := k'.h, nid := k'.nid }) hact o.dst hrel
      have e : ({ a.put o.dst v' with defers := tl } : Act) = ({ a with defers := tl } : Act).put o.dst v' := by cases o.dst <;> rfl
      rw [e]
      exact this
    ·exact ⟨_, k', _, rfl, rfl, hK, tl, h1, hz, rfl, rfl, hg', hat.le.trans hle, hat.act.le hat.good hle⟩
  ·cases hcal
 ·cases hcal
theorem aopst_panic {T : Tl} {ops : Array Oper} {i : Nat} {rest : List Nat} {o : Oper} {x : Operand} {s : St} {Q : ExP → St → Prop} {t : TypeId} {d : D} (hoi : ops[i]? = some o) (hg : o.guard = none) (ho : o.op = .panic x) (hx : evO s.env x = .ifc t d)
  (h : ∀ v, (∃ R n, Rel R n v d) → Q (.panic [{ v := .iface t v, recovered := false }]) s) : AOpsT P n0 T ops (i :: rest) s Q := by
 intro X k0 k a hn hat
 obtain ⟨tl, h1, hz, hat⟩ := hat
 rw [wpOpsIn_cons]
 have hw : Region.wanted o (yielded ops a.tmps) = true := by simp [Region.wanted, hg]
 simp only [wpOpIn, hoi, hw, if_true]
 refine ⟨fun _ _ => trivial, ?_⟩
 rw [semAt_eq _ _ (by rw [ho]; simp)]
 have hr : Rel (k.R X) k.nid (a.eval x) (evO s.env x) := by
  have := hat.act.eval x
  cases x <;> exact this
 rw [hx] at hr
 generalize hv : a.eval x = v at hr
 cases hr with
 | ifc _ _ v' _ hd =>
  have hrun : (execOp a.eval o).run P k.w = .halt (.panic (.iface t v')) k.w := by
   unfold execOp
   rw [ho]
   simp only [hv, Instr.panic]
   rfl
  rw [hrun]
  exact ⟨_, k, s, rfl, rfl, h _ ⟨_, _, hd⟩, tl, h1, hz, hat⟩

theorem leavesMU (fn : Func) (tmps : Array Value) (R : Ending → World → Prop) (T : List Deferred) (u : FrameMode) (hu : u ≠ .run) : ∀ (ms : List Nat) (w : World), ms.Nodup → (∀ r ∈ ms, w.heap[r]? = some (.deferred (some []))) →
  (∀ w' : World, (∀ b, b ∉ ms → w'.heap[b]? = w.heap[b]?) → (∀ b ∈ ms, w'.heap[b]? = some (.deferred none)) → w'.os = w.os → w'.tape = w.tape → w'.output = w.output → w'.heap.size = w.heap.size →
   LeavesInM (FW none) 0 P fn tmps R T u w') →
  LeavesInM (FW none) 0 P fn tmps R (ms.map markD ++ T) u w := by
 intro ms
 induction ms with
 | nil =>
  intro w _ _ h
  exact h w (fun _ _ => rfl) (by simp) rfl rfl rfl rfl
 | cons r ms ih =>
  intro w hnd hm h
  rw [List.nodup_cons] at hnd
  have hr := hm r (by simp)
  have hlt : r < w.heap.size := by
   rcases Nat.lt_or_ge r w.heap.size with h | h
   ·exact h
   ·rw [Array.getElem?_eq_none h] at hr; cases hr
  refine ⟨hu, .inl ⟨r, { w with heap := w.heap.setIfInBounds r (.deferred none) }, rfl, ?_, ih _ hnd.2 (fun q hq => ?_) fun w' h1 h2 h3 h4 h5 h6 => h w' (fun b hb => ?_) (fun b hb => ?_) h3 h4 h5 (by simpa using h6)⟩⟩
  ·simp [Instr.takeDeferred, getObj, setObj, Sem.run, hr]
  ·have hne : r ≠ q := fun e => hnd.1 (e ▸ hq)
   simp only [Array.getElem?_setIfInBounds_ne hne]
   exact hm q (by simp [hq])
  ·have hb1 : b ∉ ms := fun e => hb (by simp [e])
   have hne : r ≠ b := fun e => hb (by simp [e])
   rw [h1 b hb1, Array.getElem?_setIfInBounds_ne hne]
  ·rcases List.mem_cons.1 hb with rfl | hb
   ·rw [h1 b hnd.1, Array.getElem?_setIfInBounds_self_of_lt hlt]
   ·exact h2 b hb
def endP (P : Program) (fn : Func) (Q : D → H → Nat → Prop) (R : List PanicEntry → H → Nat → Prop) : ExP → St → Prop
 | .ex .normal, s | .ex .ret, s => ∃ ds, resD P s fn.results.toList = some ds ∧ Q (tupD ds) s.h s.nid
 | .ex (.exit _), _ => False
 | .panic ch, s => R ch s.h s.nid
theorem leaves_ret {X : Nat → Prop} {k k' : Cx} {a : Act} {s : St} {fn : Func} {Q : D → H → Nat → Prop} {R : List PanicEntry → H → Nat → Prop} {ds : List D} (hat' : At X k k' a s) (hrs : resD P s fn.results.toList = some ds) (hq : Q (tupD ds) s.h s.nid) :
  LeavesInM (FW none) 0 P fn a.tmps (ResP X k Q R) a.defers .returning k'.w := by
 obtain ⟨ms, hd, hnd, hms⟩ := hat'.act.marks
 rw [hd]
 refine leavesM fn a.tmps _ ms k'.w hnd (fun r hr => (hms r hr).2) fun w' h1 h2 hos htape hout hsize => ?_
 obtain ⟨g1, g2, g3⟩ := good_taken hat'.good hat'.le hms h1 h2 hos htape hout hsize
 have hact : ActOk X { k' with w := w' } 0 { a with defers := [] } s.env s.n := ⟨hat'.act.size, fun i => (hat'.act.rel i).mono (g3 _), [], rfl, List.nodup_nil, by simp⟩
 obtain ⟨v, hv1, hv2⟩ := run_results (P := P) (k := { k' with w := w' }) g1 hat'.h hact hrs
 exact ⟨v, hv1, { k' with w := w' }, rfl, g1, g2, .inl ⟨v, tupD ds, rfl, by rw [show ({ k' with w := w' } : Cx).h = s.h from hat'.h, show ({ k' with w := w' } : Cx).nid = s.nid from hat'.nid]; exact hq, hv2⟩⟩
theorem leaves_panic {X : Nat → Prop} {k k' : Cx} {a : Act} {s : St} {fn : Func} {Q : D → H → Nat → Prop} {R : List PanicEntry → H → Nat → Prop} {ch : List PanicEntry} (hat' : At X k k' a s) (hr : R ch s.h s.nid) :
  LeavesInM (FW none) 0 P fn a.tmps (ResP X k Q R) a.defers (.panicking ch) k'.w := by
 obtain ⟨ms, hd, hnd, hms⟩ := hat'.act.marks
 rw [hd]
 have := leavesMU (P := P) fn a.tmps (ResP X k Q R) [] (.panicking ch) (by simp) ms k'.w hnd (fun r hr => (hms r hr).2) fun w' h1 h2 hos htape hout hsize => by
  obtain ⟨g1, g2, g3⟩ := good_taken hat'.good hat'.le hms h1 h2 hos htape hout hsize
  exact ⟨{ k' with w := w' }, rfl, g1, g2, .inr ⟨ch, rfl, by rw [show ({ k' with w := w' } : Cx).h = s.h from hat'.h, show ({ k' with w := w' } : Cx).nid = s.nid from hat'.nid]; exact hr⟩⟩
 rwa [List.append_nil] at this
theorem at_entry {X : Nat → Prop} {k : Cx} {vs : List Value} {ds : List D} {fn : Func} (hg : Good X k) (hr : RelL (k.R X) k.nid vs ds) :
  At X k k { tmps := vs.toArray ++ Array.replicate (fn.ntmps - vs.toArray.size) undef, defers := [] } { env := argEnv 0 ds, h := k.h, nid := k.nid, n := ds.length + (fn.ntmps - ds.length) } := by
 refine ⟨rfl, rfl, hg, .refl k, ⟨by simp [hr.1], fun i => ?_, [], rfl, List.nodup_nil, by simp⟩⟩
 rw [look_argEnv, if_pos (Nat.zero_le _), Nat.sub_zero]
 cases hd : ds[i]? with
 | none => exact .any _ _
 | some d =>
  have hi := lt_of_getElem? hd
  have hv : i < vs.length := by rw [hr.1]; exact hi
  rw [Array.getD_eq_getD_getElem?, Array.getElem?_append_left (by simpa using hv)]
  rw [List.getElem?_toArray, List.getElem?_eq_getElem hv]
  exact hr.2 i _ d (List.getElem?_eq_getElem hv) hd
theorem pcall_of_awt {f : FuncId} {fn : Func} {c : Code} {ds : List D} {h : H} {nid : Nat} {Q : D → H → Nat → Prop} {R : List PanicEntry → H → Nat → Prop} (hf : P.funcs[f]? = some fn) (hb : fn.body = some c) (hcal : callable P f = true)
  (hw : AWT P nid (false, []) c { env := argEnv 0 ds, h := h, nid := nid, n := ds.length + (fn.ntmps - ds.length) } (endP P fn Q R)) : PCall P f ds h nid Q R := by
 refine ⟨hcal, fun X k vs hh hn hg hr => calls_of_callsIn (n := 0) (callsIn_of_wp_marks hf hb trivial ?_ rfl)⟩
 subst hh hn
 refine wpIn_mono (hw X k k _ rfl (at_entry (fn := fn) hg hr).toT) ?_
 rintro e a w ⟨x, k', s, hx, rfl, hq, hat'⟩
 have hat' := hat'.nil
 cases e with
 | normal => simp only [exP, exOf, Option.map_some, Option.some.injEq] at hx; subst hx; obtain ⟨rs, hrs, hq⟩ := hq; exact leaves_ret hat' hrs hq
 | ret => simp only [exP, exOf, Option.map_some, Option.some.injEq] at hx; subst hx; obtain ⟨rs, hrs, hq⟩ := hq; exact leaves_ret hat' hrs hq
 | exit id => simp only [exP, exOf, Option.map_some, Option.some.injEq] at hx; subst hx; exact hq.elim
 | panic ch => simp only [exP, Option.some.injEq] at hx; subst hx; exact leaves_panic hat' hq
 | _ => simp [exP, exOf] at hx
end Go.Sx
