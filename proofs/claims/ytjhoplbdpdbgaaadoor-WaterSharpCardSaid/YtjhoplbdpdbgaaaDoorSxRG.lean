/- Sx: ranges over functions: contracts of iterators that read no memory. Own work. -/
import Derived.Test.YtjhoplbdpdbgaaaDoorSxRF
set_option linter.unusedVariables false
set_option linter.unusedSimpArgs false
namespace Go.Sx

def NX : Nat → Prop := fun _ => False
def K0 (W : World) : Cx := ⟨W, fun _ => 0, fun _ => undef, [], 0⟩
abbrev RW (W : World) : Rx := Cx.R NX (K0 W)

theorem good_K0 (W : World) : Good NX (K0 W) :=
  ⟨fun _ _ h => by simp [K0, hget] at h, fun _ _ _ h => by simp [K0, Cx.own, hget, ownOf] at h, fun _ _ h => by simp [K0, Cx.own, hget, ownOf] at h, fun _ h => h.elim, fun _ _ h => by simp [K0, hget] at h⟩

/-- What holds of an iterator's activation. -/
structure AtQ (a : Act) (s : St) (W : World) : Prop where
  defers : a.defers = []
  h : s.h = []
  nid : s.nid = 0
  size : a.tmps.size = s.n
  rel : ∀ i : Nat, Rel (RW W) 0 (a.tmps.getD i undef) (look s.env i)

theorem AtQ.act {a : Act} {s : St} {W : World} (h : AtQ a s W) : ActOk NX (K0 W) 0 a s.env s.n := ⟨h.size, h.rel, [], by simp [h.defers], List.nodup_nil, by simp⟩

theorem AtQ.of_act {a : Act} {s : St} {W : World} (h : ActOk NX (K0 W) 0 a s.env s.n) (hd : a.defers = []) (h1 : s.h = []) (h2 : s.nid = 0) : AtQ a s W := ⟨hd, h1, h2, h.size, h.rel⟩

theorem put_defers (a : Act) (dst : Option Tmp) (v : Value) : (a.put dst v).defers = a.defers := by
  cases dst <;> rfl

theorem AtQ.put {a : Act} {s : St} {W : World} (h : AtQ a s W) (dst : Option Tmp) {v : Value} {d : D} (hr : Rel (RW W) 0 v d) : AtQ (a.put dst v) (s.put dst d) W :=
  .of_act (ActOk.put h.act dst hr) (by rw [put_defers]; exact h.defers) (by rw [put_h]; exact h.h) (by rw [put_nid]; exact h.nid)

/-- Data that leads to no memory, or a value that is known. -/
def flat1 : D → Bool
  | .raw _ => true
  | d => d.flat

theorem Rel.flat1 {R R' : Rx} {n m : Nat} {v : Value} {d : D} (h : Rel R n v d) (hf : flat1 d = true) : Rel R' m v d := by
  cases d with
  | raw => cases h; exact .raw _ _
  | _ => exact h.flat hf

def envFlat : Env → Bool
  | [] => true
  | (_, d) :: e => flat1 d && envFlat e

theorem envFlat_look : ∀ {e : Env}, envFlat e = true → ∀ i, flat1 (look e i) = true ∨ look e i = .any
  | [], _, _ => .inr rfl
  | (j, d) :: e, h, i => by
    simp only [envFlat, Bool.and_eq_true] at h
    simp only [look]
    split
    · exact .inl h.1
    · exact envFlat_look h.2 i

theorem AtQ.world {a : Act} {s : St} {W W' : World} (h : AtQ a s W) (hf : envFlat s.env = true) : AtQ a s W' :=
  ⟨h.defers, h.h, h.nid, h.size, fun i => by
    rcases envFlat_look hf i with h1 | h1
    · exact (h.rel i).flat1 h1
    · rw [h1]; exact .any _ _⟩

def PostQ (Q : Ex → St → World → Prop) (e : Exit) (a : Act) (w : World) : Prop := ∃ x s, exOf e = some x ∧ Q x s w ∧ AtQ a s w

def AWq (P : Program) (c : Code) (s : St) (W : World) (Q : Ex → St → World → Prop) : Prop := ∀ a, AtQ a s W → c.wpIn (FW none) 0 P (PostQ Q) a W

def thenR (K : St → World → Prop) (Q : Ex → St → World → Prop) : Ex → St → World → Prop
  | .normal, s, w => K s w
  | e, s, w => Q e s w

def blockR (id : Nat) (Q : Ex → St → World → Prop) : Ex → St → World → Prop
  | .exit i, s, w => if i = id then Q .normal s w else Q (.exit i) s w
  | e, s, w => Q e s w

section
variable {P : Program}

theorem awq_skip {s : St} {W : World} {Q : Ex → St → World → Prop} (h : Q .normal s W) : AWq P .skip s W Q := fun _ ha => wpIn_skip ⟨.normal, s, rfl, h, ha⟩
theorem awq_exit {id : Nat} {s : St} {W : World} {Q : Ex → St → World → Prop} (h : Q (.exit id) s W) : AWq P (.exit id) s W Q := fun _ ha => wpIn_exit ⟨.exit id, s, rfl, h, ha⟩
theorem awq_ret {s : St} {W : World} {Q : Ex → St → World → Prop} (h : Q .ret s W) : AWq P .ret s W Q := fun _ ha => wpIn_ret ⟨.ret, s, rfl, h, ha⟩

theorem awq_seq {x y : Code} {s : St} {W : World} {Q : Ex → St → World → Prop} (h : AWq P x s W (thenR (fun s' W' => AWq P y s' W' Q) Q)) : AWq P (.seq x y) s W Q :=
  fun a ha => wpIn_seq (wpIn_mono (h a ha) fun e a w ⟨x, s, h1, h3, h4⟩ => by
    cases e <;> simp only [exOf, Option.some.injEq, reduceCtorEq] at h1 <;> subst h1
    · exact h3 a h4
    · exact ⟨_, s, rfl, h3, h4⟩
    · exact ⟨_, s, rfl, h3, h4⟩)

theorem awq_cond {c : Operand} {x y : Code} {s : St} {W : World} {Q : Ex → St → World → Prop} {t : Bool} (hc : evO s.env c = .bool t) (ht : t = true → AWq P x s W Q) (hf : t = false → AWq P y s W Q) : AWq P (.cond c x y) s W Q :=
  fun a ha => wpIn_cond (t := t) (eval_bool ha.act hc) (by
    cases t
    · exact hf rfl a ha
    · exact ht rfl a ha)

theorem awq_block {id : Nat} {c : Code} {s : St} {W : World} {Q : Ex → St → World → Prop} (h : AWq P c s W (blockR id Q)) : AWq P (.block id c) s W Q :=
  fun a ha => wpIn_block (wpIn_mono (h a ha) fun e a w ⟨x, s, h1, h3, h4⟩ => by
    cases e with
    | exit i =>
      simp only [exOf, Option.some.injEq] at h1
      subst h1
      simp only [Exit.inBlock]
      by_cases hi : i = id
      · rw [if_pos hi]
        simp only [blockR, if_pos hi] at h3
        exact ⟨_, s, rfl, h3, h4⟩
      · rw [if_neg hi]
        simp only [blockR, if_neg hi] at h3
        exact ⟨_, s, rfl, h3, h4⟩
    | _ =>
      simp only [exOf, Option.some.injEq, reduceCtorEq] at h1
      try (subst h1; exact ⟨_, s, rfl, h3, h4⟩))

/-- A loop, by a family of invariants. -/
theorem wpIn_loopI {ro : Option Nat} {ι : Type} {c : Code} {Q : Exit → Act → World → Prop} {a : Act} {w : World} (Inv : ι → Act → World → Prop) (μ : ι → Nat) (i0 : ι) (h0 : Inv i0 a w)
    (round : ∀ i a w, Inv i a w → c.wpIn (FW ro) 0 P (fun e a' w' => match e with
      | .normal => ∃ j, Inv j a' w' ∧ μ j < μ i
      | .exit id => Q (.exit id) a' w'
      | .ret => Q .ret a' w'
      | _ => False) a w) : (Code.loop c).wpIn (FW ro) 0 P Q a w := by
  intro b kk cs hro hb hr
  have key : ∀ n (i : ι) (a : Act) (w : World), μ i = n → Inv i a w →
      ∃ e a' w', Q e a' w' ∧ ArrivesIn (Machine.fenced P (FW ro)) P (lone (b.atR a (.code c :: .inLoop c :: kk)) cs w) b kk cs e a' w' := by
    intro n
    induction n using Nat.strongRecOn with
    | _ n ih =>
      intro i a w hμ hI
      obtain ⟨e, a₁, w₁, hq, harr⟩ := round i a w hI b (.inLoop c :: kk) cs hro hb hr
      cases e with
      | normal =>
        obtain ⟨j, hj, hlt⟩ := hq
        obtain ⟨e₂, a₂, w₂, hq₂, harr₂⟩ := ih (μ j) (hμ ▸ hlt) j a₁ w₁ rfl hj
        exact ⟨e₂, a₂, w₂, hq₂, .of_steps (StepsIn.trans harr (.one (fenced_calm (fr := b.atR a₁ (.inLoop c :: kk)) hb hr rfl) stepR_inLoop)) harr₂⟩
      | exit id => exact ⟨_, a₁, w₁, hq, .pass (x := .inLoop c) rfl (fun _ _ => .inl (by simp)) harr⟩
      | ret => exact ⟨_, a₁, w₁, hq, .pass (x := .inLoop c) rfl (fun _ _ => .inl (by simp)) harr⟩
      | _ => exact hq.elim
  obtain ⟨e, a', w', hq, harr⟩ := key _ i0 a w rfl h0
  exact ⟨e, a', w', hq, .of_steps (.one (fenced_calm hb hr rfl) stepR_loop) harr⟩

/-- What is known less well is still known. -/
def weakQ (s s' : St) : Prop := s.n = s'.n ∧ s'.h = [] ∧ s'.nid = 0 ∧ ∀ i, look s'.env i = .any ∨ look s.env i = look s'.env i

theorem AtQ.weak {a : Act} {s s' : St} {W : World} (h : AtQ a s W) (hw : weakQ s s') : AtQ a s' W :=
  ⟨h.defers, hw.2.1, hw.2.2.1, h.size.trans hw.1, fun i => by
    rcases hw.2.2.2 i with h1 | h1
    · rw [h1]; exact .any _ _
    · rw [← h1]; exact h.rel i⟩

theorem awq_loop {ι : Type} {c : Code} {s : St} {W : World} {Q : Ex → St → World → Prop} (σ : ι → St) (I : ι → World → Prop) (μ : ι → Nat) (i0 : ι) (h0 : I i0 W) (hw : weakQ s (σ i0))
    (round : ∀ i W, I i W → AWq P c (σ i) W (thenR (fun s' W' => ∃ j, I j W' ∧ μ j < μ i ∧ weakQ s' (σ j)) Q)) : AWq P (.loop c) s W Q := fun a ha =>
  wpIn_loopI (fun i a w => I i w ∧ AtQ a (σ i) w) μ i0 ⟨h0, ha.weak hw⟩ fun i a w ⟨hi, hat⟩ => wpIn_mono (round i w hi a hat) fun e a' w' ⟨x, s', h1, h3, h4⟩ => by
    cases e with
    | normal =>
      simp only [exOf, Option.some.injEq] at h1; subst h1
      obtain ⟨j, hj, hlt, hwk⟩ := h3
      exact ⟨j, ⟨hj, h4.weak hwk⟩, hlt⟩
    | exit id => simp only [exOf, Option.some.injEq] at h1; subst h1; exact ⟨_, s', rfl, h3, h4⟩
    | ret => simp only [exOf, Option.some.injEq] at h1; subst h1; exact ⟨_, s', rfl, h3, h4⟩
    | _ => simp [exOf] at h1

/-! Operations of an iterator -/

def yieldOf (env : Env) : Op → Option (Nat × List D)
  | .call c =>
    match c.callee with
    | .value x =>
      match evO env x with
      | .raw (.func (.yield l) ⟨[]⟩ ⟨[]⟩) => some (l, c.args.toList.map (evO env))
      | _ => none
    | _ => none
  | _ => none

def qOps (P : Program) (Y : World → List D → (Bool → World → Prop) → Prop) (l : Nat) : List Oper → St → World → (St → World → Prop) → Prop
  | [], s, W, K => K s W
  | o :: r, s, W, K => o.guard = none ∧
    match yieldOf s.env o.op with
    | some (l', ds) => l' = l ∧ envFlat s.env = true ∧ Y W ds fun b W' => qOps P Y l r (s.put o.dst (.bool b)) W' K
    | none => match opR P o.op (evO s.env) s.h with
      | some d => qOps P Y l r (s.put o.dst d) W K
      | none => False

theorem yield_run {a : Act} {s : St} {W : World} {o : Oper} {l : Nat} {ds : List D} (hat : AtQ a s W) (h : yieldOf s.env o.op = some (l, ds)) :
    ∃ vs, RelL (RW W) 0 vs ds ∧ (∀ c, o.op ≠ .defer c) ∧ (execOp a.eval o).run P W = (Instr.yield l vs.toArray).run P W := by
  unfold yieldOf at h
  split at h
  · rename_i c hop
    split at h
    · rename_i x hx
      split at h
      · rename_i l' hv
        cases h
        have hr := hat.act.eval x
        rw [hv] at hr
        obtain ⟨callee, args, argTypes⟩ := c
        dsimp only at hx
        subst hx
        generalize hv' : a.eval x = v at hr
        cases hr
        refine ⟨args.toList.map a.eval, RelL.map (fun x => hat.act.eval x) _, fun c hc => (by rw [hop] at hc; cases hc), ?_⟩
        unfold execOp
        rw [hop]
        simp only [resolve, Sem.run_bind, hv', Deferred.ofValue, Sem.run_pure, Result.andThen_ok, invoke]
        congr 2
        apply Array.ext'
        simp
      · cases h
    · cases h
  · cases h

theorem qOps_sound {Y : World → List D → (Bool → World → Prop) → Prop} {l : Nat} {ops : Array Oper}
    (hY : ∀ W ds K vs, Y W ds K → RelL (RW W) 0 vs ds → YieldAt (FW none) 0 P l vs.toArray W fun e W' => ∃ b, e = .returned (.bool b) ∧ K b W') {K : St → World → Prop} {Q : Exit → Act → World → Prop}
    (hK : ∀ a s W, K s W → AtQ a s W → Q .normal a W) : ∀ (r : List Oper) (i : Nat) (s : St) (W : World) (a : Act), (∀ j, r[j]? = ops[i + j]?) → qOps P Y l r s W K → AtQ a s W →
      wpOpsIn (FW none) 0 P ops Q ((List.range r.length).map (i + ·)) a W
  | [], i, s, W, a, _, h, hat => hK a s W h hat
  | o :: rest, i, s, W, a, hl, h, hat => by
    have ho : ops[i]? = some o := by have := hl 0; simpa using this.symm
    have hrest : ∀ j, rest[j]? = ops[i + 1 + j]? := fun j => by have := hl (j + 1); simp at this; rw [this]; congr 1; omega
    have hmap : (List.range (o :: rest).length).map (i + ·) = i :: (List.range rest.length).map (i + 1 + ·) := by
      rw [List.length_cons, List.range_succ_eq_map, List.map_cons, List.map_map]
      simp only [Nat.add_zero, List.cons.injEq, true_and]
      apply List.map_congr_left
      intro a _
      simp only [Function.comp]; omega
    obtain ⟨hg, h⟩ := h
    rw [hmap, wpOpsIn_cons]
    have hw : Region.wanted o (yielded ops a.tmps) = true := by simp [Region.wanted, hg]
    simp only [wpOpIn, ho, hw, if_true]
    refine ⟨fun _ _ => trivial, ?_⟩
    split at h
    · rename_i l' ds hy
      obtain ⟨rfl, hf, h⟩ := h
      obtain ⟨vs, h1, h2, h3⟩ := yield_run hat hy
      rw [semAt_eq _ _ h2, h3]
      obtain ⟨fn, tmps, assign, body, h4, h5⟩ := hY W ds _ vs h h1
      rw [h4]
      refine ⟨by simp [FW, Fence.wide], h5.mono ?_⟩
      rintro e W' ⟨b, rfl, hk⟩
      exact qOps_sound hY hK rest (i + 1) _ W' _ hrest hk ((hat.world hf).put o.dst (.bool _ _))
    · split at h
      · rename_i d hd
        have hnd := opR_not_defer hd
        rw [hat.h] at hd
        obtain ⟨v, h1, h2⟩ := opR_sound (good_K0 W) (fun x => hat.act.eval x) hd
        have h1' : (execOp a.eval o).run P W = .ok (.value v) W := h1
        rw [semAt_eq _ _ hnd, h1']
        exact qOps_sound hY hK rest (i + 1) _ W _ hrest h (hat.put o.dst h2)
      · exact h.elim

theorem awq_region {Y : World → List D → (Bool → World → Prop) → Prop} {l : Nat} {id : Nat} {ops : Array Oper} {s : St} {W : World} {Q : Ex → St → World → Prop}
    (hY : ∀ W ds K vs, Y W ds K → RelL (RW W) 0 vs ds → YieldAt (FW none) 0 P l vs.toArray W fun e W' => ∃ b, e = .returned (.bool b) ∧ K b W')
    (h : qOps P Y l ops.toList s W (Q .normal)) : AWq P (.region id ops false) s W Q := fun a ha => by
  refine wpIn_region ?_
  have hr : List.range ops.size = (List.range ops.toList.length).map (0 + ·) := by simp
  rw [hr]
  exact qOps_sound hY (fun a s W hk hat => ⟨.normal, s, rfl, hk, hat⟩) ops.toList 0 s W a (fun j => by simp) h ha

def YJ {α : Type} (J Jx : List α → World → Prop) (N : Nat) (ds : α → List D) (W : World) (d : List D) (K : Bool → World → Prop) : Prop :=
  ∃ pre x, J pre W ∧ pre.length < N ∧ d = ds x ∧ (∀ W', J (pre ++ [x]) W' → K true W') ∧ (∀ W', Jx (pre ++ [x]) W' → K false W')

/-- An iterator's contract, out of its body. -/
theorem seq_of_awq {α : Type} {gf : FuncId} {fn : Func} {c : Code} {encs : α → Array Value} {ds : α → List D} {Sd Sp : List α → Prop} {N : Nat} {w : World}
    (hf : P.funcs[gf]? = some fn) (hb : fn.body = some c) (hres : fn.results = #[]) (henc : ∀ (R : Rx) (n : Nat) vs x, RelL R n vs (ds x) → vs = (encs x).toList)
    (hw : ∀ (l : Nat) (J Jx : List α → World → Prop) (W : World), J [] W →
      (∀ W ds' K vs, YJ J Jx N ds W ds' K → RelL (RW W) 0 vs ds' → YieldAt (FW none) 0 P l vs.toArray W fun e W' => ∃ b, e = .returned (.bool b) ∧ K b W') →
      AWq P c ⟨[(0, .raw (.func (.yield l) #[] #[]))], [], 0, 1 + (fn.ntmps - 1)⟩ W fun e _ W' => (e = .normal ∨ e = .ret) ∧ ((∃ xs, Sd xs ∧ J xs W') ∨ (∃ pre, Sp pre ∧ Jx pre W'))) :
    SeqStopsK (FW none) 0 P gf #[] encs (fun _ _ => True) Sd Sp N w := by
  intro l J Jx W _ _ _ hY h0
  have hYs : ∀ W ds' K vs, YJ J Jx N ds W ds' K → RelL (RW W) 0 vs ds' → YieldAt (FW none) 0 P l vs.toArray W fun e W' => ∃ b, e = .returned (.bool b) ∧ K b W' := by
    intro W1 ds' K vs hy hr
    obtain ⟨pre, x, h1, h2, rfl, h3, h4⟩ := hy
    have hv := henc _ _ vs x hr
    obtain ⟨fn, tmps, assign, body, h5, h6⟩ := hY pre x W1 h1 h2
    rw [hv, Array.toArray_toList]
    refine ⟨fn, tmps, assign, body, h5, h6.mono ?_⟩
    rintro e W' (⟨rfl, hj, _⟩ | ⟨rfl, hj⟩)
    · exact ⟨true, rfl, h3 W' hj⟩
    · exact ⟨false, rfl, h4 W' hj⟩
  have hbody := hw l J Jx W h0 hYs
  refine callsIn_of_wp_marks hf hb trivial ?_ rfl
  have hat : AtQ { tmps := #[Value.func (.yield l) #[] #[]] ++ #[] ++ Array.replicate (fn.ntmps - (#[Value.func (.yield l) #[] #[]] ++ #[] : Array Value).size) undef, defers := [] } ⟨[(0, .raw (.func (.yield l) #[] #[]))], [], 0, 1 + (fn.ntmps - 1)⟩ W := by
    refine ⟨rfl, rfl, rfl, by simp, fun i => ?_⟩
    simp only [look]
    split
    · rename_i hi
      subst hi
      have : (#[Value.func (.yield l) #[] #[]] ++ #[] ++ Array.replicate (fn.ntmps - (#[Value.func (.yield l) #[] #[]] ++ #[] : Array Value).size) undef).getD 0 undef = .func (.yield l) #[] #[] := by
        simp [Array.getD_eq_getD_getElem?, Array.getElem?_append]
      rw [this]
      exact .raw _ _
    · exact .any _ _
  refine wpIn_mono (hbody _ hat) ?_
  rintro e a w' ⟨x, s, hx, ⟨hq1, hq2⟩, hat'⟩
  have key : LeavesInM (FW none) 0 P fn a.tmps (fun e W' => (∃ v, e = .returned v) ∧ ((∃ xs, Sd xs ∧ J xs W') ∨ (∃ pre, Sp pre ∧ Jx pre W'))) a.defers .returning w' := by
    rw [hat'.defers]
    exact ⟨.tuple #[], by rw [results_eq, hres]; simp, ⟨_, rfl⟩, hq2⟩
  cases e with
  | normal => exact key
  | ret => exact key
  | exit id => simp only [exOf, Option.some.injEq] at hx; subst hx; rcases hq1 with h | h <;> cases h
  | _ => simp [exOf] at hx
end
end Go.Sx
