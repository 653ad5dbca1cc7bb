/- Sx, part V: conditions out of a body, and the rules by which they are computed. Own work. -/
import Derived.Test.YtjhoplbdpdbgaaaDoorSxU
import Derived.Scope
set_option linter.unusedVariables false
set_option linter.unusedSimpArgs false
namespace Go.Sx

/-- A mark that keeps what it speaks of from being looked into. -/
structure Tag {α : Sort _} (a : α) : Type where

/-- Compute the first, then go on. -/
def Z {α : Type} (x : α) (K : α → Prop) (_ : Tag K) : Prop := K x
theorem Z_eq {α : Type} (x : α) (K : α → Prop) (u : Tag K) : Z x K u = K x := (rfl)

def Zo {α : Type} (o : Option α) (K : α → Prop) (_ : Tag K) : Prop := optK o K
theorem Zo_some {α : Type} (d : α) (K : α → Prop) (u : Tag K) : Zo (some d) K u = K d := (rfl)
theorem Zo_ite {α : Type} (c : Prop) [Decidable c] (o : Option α) (K : α → Prop) (u : Tag K) : Zo (if c then o else none) K u = (c ∧ Zo o K u) := by
  by_cases h : c
  · simp [h]
  · simp [h, Zo, optK]

/-- A call, and what it reads. -/
def CallV (P : Program) (dr : Bool) (f : FuncId) (ds vs : List D) (h : H) (nid : Nat) (K : D → H → Nat → Prop) (_ : Tag K) : Prop :=
  vs = viewL h ds → if dr then ∃ r, QC P f ds h r ∧ K r h nid else ACall P f ds h nid K

theorem call_of_pure {P : Program} {dr : Bool} {f : FuncId} {ds vs : List D} {h : H} {nid : Nat} {K : D → H → Nat → Prop} {u : Tag K} {r : D} (hp : Pure P f vs r) (hr : r.flat = true) (hK : K r h nid) :
    CallV P dr f ds vs h nid K u := by
  rintro rfl
  cases dr with
  | true => exact ⟨r, .inl ⟨hr, hp⟩, hK⟩
  | false => exact call_borrow hp rfl hr hK

theorem call_of_pure' {P : Program} {dr : Bool} {f : FuncId} {ds vs : List D} {h : H} {nid : Nat} {K : D → H → Nat → Prop} {u : Tag K} {r : D} (hp : Pure P f ds r) (hl : D.ltL 0 ds = true) (hr : r.lt 0 = true) (hK : K r h nid) :
    CallV P dr f ds vs h nid K u := by
  intro _
  cases dr with
  | true => exact ⟨r, .inr ⟨hl, hr, hp⟩, hK⟩
  | false => exact call_pure hp rfl hl hr hK

/-- A call that changes the caller's own memory. -/
theorem call_of_acall {P : Program} {f : FuncId} {ds vs : List D} {h : H} {nid : Nat} {K : D → H → Nat → Prop} {u : Tag K} (ha : ACall P f ds h nid K) : CallV P false f ds vs h nid K u := fun _ => ha

section
variable {P : Program} {O : Oracle} {n0 : Nat} {ro : Option Nat} {T : List (Nat × List Ann)} {ops : Array Oper} {dr fl tr : Bool}

/-! Operations -/
def cvD (P : Program) (h : H) (s d : TypeId) (x : D) : Option D :=
  match cutD P s d x with
  | some r => some r
  | none => convD P h s d x
variable (env : Env) (h : H) (nid n : Nat) (K : D → H → Nat → Prop)

theorem r_move (x : Operand) : resK P O dr fl (.move x) env h nid K = Z (evO env x) (fun v => K v h nid) ⟨⟩ := (rfl)
theorem r_assign (x : Operand) : resK P O dr fl (.assign x) env h nid K = Z (evO env x) (fun v => K v h nid) ⟨⟩ := (rfl)
theorem r_pick (c x y : Operand) : resK P O dr fl (.pick c x y) env h nid K = Zo (pickD (evO env c) (evO env x) (evO env y)) (fun v => K v h nid) ⟨⟩ := (rfl)
theorem r_nilCheck (x : Operand) : resK P O dr fl (.nilCheck x) env h nid K = Zo (nilCheckD (evO env x)) (fun v => K v h nid) ⟨⟩ := (rfl)
theorem r_binOp (op : BinOp) (t u : TypeId) (x y : Operand) : resK P O dr fl (.binOp op t x y u) env h nid K = Zo (binD P op t (evO env x) (evO env y)) (fun v => K v h nid) ⟨⟩ := (rfl)
theorem r_neg (t : TypeId) (x : Operand) : resK P O dr fl (.unOp .neg t x) env h nid K = Zo (negD (evO env x)) (fun v => K v h nid) ⟨⟩ := (rfl)
theorem r_not (t : TypeId) (x : Operand) : resK P O dr fl (.unOp .not t x) env h nid K = Zo (notD (evO env x)) (fun v => K v h nid) ⟨⟩ := (rfl)
theorem r_convert (t u : TypeId) (x : Operand) : resK P O dr fl (.convert t u x) env h nid K = Zo (cvD P h t u (evO env x)) (fun v => K v h nid) ⟨⟩ := (rfl)
theorem r_makeMap (t : TypeId) : resK P O dr fl (.makeMap t none) env h nid K = K (.mp nid) ((nid, .map []) :: h) (nid + 1) := (rfl)
theorem r_mapUpdate (t : TypeId) (x y z : Operand) : resK P O dr fl (.mapUpdate t x y z) env h nid K = Zo (mapUpdD P h nid t (evO env x) (evO env y) (evO env z)) (fun v => K v.1 v.2.1 v.2.2) ⟨⟩ := (rfl)
theorem r_insert (t : TypeId) (x y z : Operand) : resK P O dr fl (.insert t x y z) env h nid K = Zo (mapUpdD P h nid t (evO env x) (evO env y) (evO env z)) (fun v => K v.1 v.2.1 v.2.2) ⟨⟩ := (rfl)
theorem r_lookup (t : TypeId) (x y : Operand) (ok : Bool) : resK P O dr fl (.lookup t x y ok) env h nid K = Zo (lookupD P h t (evO env x) (evO env y) ok) (fun v => K v h nid) ⟨⟩ := (rfl)
theorem r_extract (x : Operand) (i : Nat) : resK P O dr fl (.extract x i) env h nid K = Zo (extractD i (evO env x)) (fun v => K v h nid) ⟨⟩ := (rfl)
theorem r_makeFunc (f : Fn) (x y : List Operand) : resK P O dr fl (.makeFunc f x.toArray y.toArray) env h nid K = Z (D.fn f (x.map (evO env)) (y.map (evO env))) (fun v => K v h nid) ⟨⟩ := (rfl)
theorem r_iface (t : TypeId) (x : Operand) : resK P O dr fl (.makeInterface t x) env h nid K = Zo (ifaceD P t (evO env x)) (fun v => K v h nid) ⟨⟩ := (rfl)
theorem r_fieldAddr (t : TypeId) (x : Operand) (f : Nat) : resK P O dr fl (.fieldAddr t x f) env h nid K = Zo (fieldAddrD P h t f (evO env x)) (fun v => K v h nid) ⟨⟩ := (rfl)
theorem r_field (t : TypeId) (x : Operand) (f : Nat) : resK P O dr fl (.field t x f) env h nid K = Zo (fieldD P t f (evO env x)) (fun v => K v h nid) ⟨⟩ := (rfl)
theorem r_index (t : TypeId) (x i : Operand) : resK P O dr fl (.index t x i) env h nid K = Zo (indexD P t (evO env x) (evO env i)) (fun v => K v h nid) ⟨⟩ := (rfl)
theorem r_indexAddr (t : TypeId) (x i : Operand) : resK P O dr fl (.indexAddr t x i) env h nid K = Zo (indexAddrD P h t (evO env x) (evO env i)) (fun v => K v h nid) ⟨⟩ := (rfl)
theorem r_load (t : TypeId) (x : Operand) : resK P O dr fl (.load t x) env h nid K = Zo (loadAtD P h t (evO env x)) (fun v => K v h nid) ⟨⟩ := (rfl)
theorem r_slice (t : TypeId) (x : Operand) (lo hi : Option Operand) : resK P O dr fl (.slice t x lo hi none) env h nid K = Zo (sliceD P t (evO env x) (lo.map (evO env)) (hi.map (evO env))) (fun v => K v h nid) ⟨⟩ := (rfl)
theorem r_build (t : TypeId) (p : List (Nat × Operand)) : resK P O dr fl (.build t p.toArray) env h nid K = Zo (buildD P h t (p.map fun q => (q.1, evO env q.2))) (fun v => K v h nid) ⟨⟩ := (rfl)
theorem r_len (x : Operand) (t : TypeId) : resK P O dr fl (.call ⟨.builtin .len, #[x], #[t]⟩) env h nid K = Zo (lenOpD P h t (evO env x)) (fun v => K v h nid) ⟨⟩ := (rfl)
theorem r_max (x : List Operand) (t : Array TypeId) : resK P O dr fl (.call ⟨.builtin .max, x.toArray, t⟩) env h nid K = Zo (maxOpD (x.map (evO env))) (fun v => K v h nid) ⟨⟩ := by
  simp only [resK, Zo]
  congr 1
  cases x <;> simp only [opR, opQ, callQ, maxOpD, List.map_nil, List.map_cons]
  split <;> simp_all
theorem r_min (x : List Operand) (t : Array TypeId) : resK P O dr fl (.call ⟨.builtin .min, x.toArray, t⟩) env h nid K = Zo (minOpD (x.map (evO env))) (fun v => K v h nid) ⟨⟩ := by
  simp only [resK, Zo]
  congr 1
  cases x <;> simp only [opR, opQ, callQ, minOpD, List.map_nil, List.map_cons]
  split <;> simp_all
theorem r_append (x y : Operand) (t u : TypeId) : resK P O dr fl (.call ⟨.builtin .append, #[x, y], #[t, u]⟩) env h nid K = Zo (appE P h nid t u (evO env x) (evO env y)) (fun v => K v.1 v.2.1 v.2.2) ⟨⟩ := (rfl)
theorem r_alloc (t : TypeId) : resK P O dr false (.alloc t) env h nid K = Zo (allocD P h nid t) (fun v => K v.1 v.2.1 v.2.2) ⟨⟩ := (rfl)
theorem r_float (t : TypeId) : resK P O dr true (.alloc t) env h nid K = Zo (zeroD P t) (fun _ => K .any h nid) ⟨⟩ := (rfl)
theorem r_box (t : TypeId) (x : Operand) : resK P O dr fl (.box t x) env h nid K = Zo (boxD h nid (evO env x)) (fun v => K v.1 v.2.1 v.2.2) ⟨⟩ := (rfl)
theorem r_store (t : TypeId) (x y : Operand) : resK P O dr fl (.store t x y) env h nid K = Zo (storeD P h nid t (evO env x) (evO env y)) (fun v => K v.1 v.2.1 v.2.2) ⟨⟩ := (rfl)
theorem r_lit (t : TypeId) (m : Nat) (p : List (Nat × Operand)) : resK P O false fl (.buildSlice t m p.toArray) env h nid K = Zo (litOpD P h nid t m (p.map fun q => (q.1, evO env q.2))) (fun v => K v.1 v.2.1 v.2.2) ⟨⟩ := (rfl)
theorem r_litD (t : TypeId) (m : Nat) (p : List (Nat × Operand)) : resK P O true fl (.buildSlice t m p.toArray) env h nid K = Zo (litD P h t m (p.map fun q => (q.1, evO env q.2))) (fun v => K v h nid) ⟨⟩ := (rfl)

/-- A call: by a contract that is known, or else. -/
def callZ (o : Option D) (ds : List D) (K : D → Prop) (p : Prop) (_ : Tag (K, p)) : Prop :=
  match o with
  | some r => if okR r ds then K r else p
  | none => p
theorem callZ_some {r : D} {ds : List D} (hk : okR r ds = true) (K : D → Prop) (p : Prop) (u : Tag (K, p)) : callZ (some r) ds K p u = K r := by simp [callZ, hk]
theorem callZ_none (ds : List D) (K : D → Prop) (p : Prop) (u : Tag (K, p)) : callZ none ds K p u = p := (rfl)

theorem callV_eq (f : FuncId) (ds : List D) : callY P dr f ds h nid K = CallV P dr f ds (viewL h ds) h nid K ⟨⟩ := by
  simp [CallV, callY]

theorem callX_eq (f : FuncId) (ds : List D) : callX P O dr f ds h nid K = Z (viewL h ds) (fun vs => callZ (O f vs) ds (fun r => K r h nid) (CallV P dr f ds vs h nid K ⟨⟩) ⟨⟩) ⟨⟩ := by
  simp only [callX, Z, callZ, callV_eq]
  cases O f (viewL h ds) <;> rfl

theorem r_call (f : FuncId) (x : List Operand) (t : Array TypeId) : resK P O dr fl (.call ⟨.value (.func f), x.toArray, t⟩) env h nid K =
    Z (x.map (evO env)) (fun ds => Z (viewL h ds) (fun vs => callZ (O f vs) ds (fun r => K r h nid) (CallV P dr f ds vs h nid K ⟨⟩) ⟨⟩) ⟨⟩) ⟨⟩ := by
  have : resK P O dr fl (.call ⟨.value (.func f), x.toArray, t⟩) env h nid K = callX P O dr f (x.map (evO env)) h nid K := by
    simp [resK, calleeD, evO, optK]
  rw [this, callX_eq]; rfl

def calleeZ (v : D) (x : List D) (K : FuncId → List D → Prop) (_ : Tag K) : Prop :=
  match v with
  | .fn (.func f) first cap => K f (first ++ x ++ cap)
  | _ => False
theorem calleeZ_fn (f : FuncId) (first cap x : List D) (K : FuncId → List D → Prop) (u : Tag K) : calleeZ (.fn (.func f) first cap) x K u = K f (first ++ x ++ cap) := (rfl)

theorem r_callv (t0 : Tmp) (x : List Operand) (t : Array TypeId) : resK P O dr fl (.call ⟨.value (.tmp t0), x.toArray, t⟩) env h nid K =
    calleeZ (look env t0) (x.map (evO env)) (fun f ds => Z ds (fun ds => Z (viewL h ds) (fun vs => callZ (O f vs) ds (fun r => K r h nid) (CallV P dr f ds vs h nid K ⟨⟩) ⟨⟩) ⟨⟩) ⟨⟩) ⟨⟩ := by
  have : resK P O dr fl (.call ⟨.value (.tmp t0), x.toArray, t⟩) env h nid K = calleeZ (look env t0) (x.map (evO env)) (fun f ds => callX P O dr f ds h nid K) ⟨⟩ := by
    simp only [resK, calleeD, evO, calleeZ]
    cases look env t0 with
    | fn f a c => cases f <;> simp [optK]
    | _ => rfl
  rw [this]
  simp only [calleeZ]
  cases look env t0 with
  | fn f a c => cases f with
    | func f => exact callX_eq _ _ _ _ _
    | _ => rfl
  | _ => rfl

/-! Regions -/

def wcOps (P : Program) (O : Oracle) (ops : Array Oper) : List Oper → St → (St → Prop) → Prop
  | [], s, K => K s
  | o :: rest, s, K =>
    match o.guard with
    | none => resK P O false false o.op s.env s.h s.nid fun d h' nid' => wcOps P O ops rest (St.put ⟨s.env, h', nid', s.n⟩ o.dst d) K
    | some (j, want) =>
      match slotOf ops j with
      | some t =>
        match look s.env t with
        | .bool b => BR (b == want) (resK P O false false o.op ((t, .bool want) :: s.env) s.h s.nid fun d h' nid' => wcOps P O ops rest (St.put ⟨(t, .bool want) :: s.env, h', nid', s.n⟩ o.dst d) K)
            (wcOps P O ops rest (St.put { s with env := (t, .bool !want) :: s.env } o.dst (.tup [])) K)
        | .tup [] => wcOps P O ops rest (St.put ⟨s.env, s.h, s.nid, s.n⟩ o.dst (.tup [])) K
        | _ => False
      | none => False

theorem wcOps_aops (hO : OkO P O) : ∀ (l : List Oper) (i : Nat) (s : St) (K : St → Prop), (∀ j, l[j]? = ops[i + j]?) → wcOps P O ops l s K → AOps P n0 ro ops ((List.range l.length).map (i + ·)) s K
  | [], i, s, K, _, h => aops_nil h
  | o :: rest, i, s, K, hl, h => by
    have ho : ops[i]? = some o := by have := hl 0; simpa using this.symm
    have hrest : ∀ j, rest[j]? = ops[i + 1 + j]? := fun j => by have := hl (j + 1); simp at this; rw [this]; congr 1; omega
    have hmap : (List.range (o :: rest).length).map (i + ·) = i :: (List.range rest.length).map (i + 1 + ·) := by
      rw [List.length_cons, List.range_succ_eq_map, List.map_cons, List.map_map]
      simp only [Nat.add_zero, List.cons.injEq, true_and]
      apply List.map_congr_left
      intro a _
      simp only [Function.comp]; omega
    rw [hmap]
    simp only [wcOps] at h
    split at h
    · rename_i hg
      exact aops_cons ho hg (opOk_resK hO (s := s) h fun d h' nid' hk => wcOps_aops hO rest (i + 1) _ K hrest hk)
    · rename_i j want hg
      split at h
      · rename_i t hj
        split at h
        · rename_i b hb
          refine aops_guard ho hg hj hb (fun e => ?_) (fun e => ?_)
          · exact opOk_resK hO (s := { s with env := (t, .bool want) :: s.env }) (h.1 (by subst e; simp)) fun d h' nid' hk => wcOps_aops hO rest (i + 1) _ K hrest hk
          · exact wcOps_aops hO rest (i + 1) _ K hrest (h.2 (by subst e; cases want <;> rfl))
        · rename_i hb
          exact aops_off ho hg hj hb (wcOps_aops hO rest (i + 1) _ K hrest h)
        · exact h.elim
      · exact h.elim

theorem stepR_scope {b : Frame} {a : Act} {k : List Item} {cs : List Frame} {w : World} {c : Code} : step P (lone (b.atR a (.code (.scope c) :: k)) cs w) = .next (lone (b.atR a (.code c :: .inScope c :: k)) cs w) :=
  step_lone_go (by simp [stepG, stepG.exec, Frame.atR])
theorem stepR_inScope {b : Frame} {a : Act} {k : List Item} {cs : List Frame} {w : World} {c : Code} : step P (lone (b.atR a (.inScope c :: k)) cs w) = .next (lone (b.atR a k) cs w) :=
  step_lone_go (by simp [stepG, stepG.exec, Frame.atR])

/-- A scope of labels to which nothing jumps. -/
theorem awp_scope {c : Code} {s : St} {Q : Ex → St → Prop} (h : AWp P n0 ro c s Q) : AWp P n0 ro (.scope c) s Q := by
  intro X k0 k a hn hat b kk cs hro hb hr
  have h0 : (lone (b.atR a (.code (.scope c) :: kk)) cs k.w).fenced P (FW ro) := fenced_calm hb hr rfl
  obtain ⟨e, a₁, w₁, ⟨x, k1, s1, hx, hw1, hq, hat1⟩, harr⟩ := h X k0 k a hn hat b (.inScope c :: kk) cs hro hb hr
  subst hw1
  cases e with
  | normal => exact ⟨.normal, a₁, _, ⟨x, k1, s1, hx, rfl, hq, hat1⟩, .head h0 stepR_scope (StepsIn.trans harr (.one (fenced_calm hb hr rfl) stepR_inScope))⟩
  | exit id =>
    have hxx : exitTo id (.inScope c :: kk) = exitTo id kk := by simp [exitTo]
    exact ⟨.exit id, a₁, _, ⟨x, k1, s1, hx, rfl, hq, hat1⟩, fun k' hk => .head h0 stepR_scope (harr.1 k' (by rw [hxx]; exact hk)),
      fun hr' hk => let ⟨k₁, h1, h2⟩ := harr.2 hr' (by rw [hxx]; exact hk); ⟨k₁, h1, .head h0 stepR_scope h2⟩⟩
  | ret => exact ⟨_, a₁, _, ⟨x, k1, s1, hx, rfl, hq, hat1⟩, .of_steps (.one h0 stepR_scope) harr⟩
  | _ => simp [exOf] at hx

/-- What is left to be proved of a loop. -/
def LoopV (P : Program) (n0 : Nat) (ro : Option Nat) (c : Code) (s : St) (Q : Ex → St → Prop) (_ : Tag (c, Q)) : Prop := AWp P n0 ro c s Q

def annOf : List (Nat × List Ann) → Nat → Option (List Ann)
  | [], _ => none
  | (i, a) :: r, k => if k = i then some a else annOf r k

/-- The conditions of a piece of code. -/
def wc (P : Program) (n0 : Nat) (ro : Option Nat) (T : List (Nat × List Ann)) (O : Oracle) : Code → St → (Ex → St → Prop) → Prop
  | .skip, s, Q => Q .normal s
  | .label _, s, Q => Q .normal s
  | .exit id, s, Q => Q (.exit id) s
  | .ret, s, Q => Q .ret s
  | .seq a b, s, Q => wc P n0 ro T O a s (thenQ (fun s' => wc P n0 ro T O b s' Q) Q)
  | .cond c a b, s, Q =>
    match evO s.env c with
    | .bool t => BR t (wc P n0 ro T O a s Q) (wc P n0 ro T O b s Q)
    | _ => False
  | .block id c, s, Q => wc P n0 ro T O c s (blockQ id Q)
  | .scope c, s, Q => wc P n0 ro T O c s Q
  | .region _ ops false, s, Q => wcOps P O ops ops.toList s (Q .normal)
  | .region id ops true, s, Q =>
    match annOf T id with
    | some as => anyK P O ops as ops.toList s (Q .normal)
    | none => LoopV P n0 ro (.region id ops true) s Q ⟨⟩
  | c, s, Q => LoopV P n0 ro c s Q ⟨⟩

/-- Every region that draws its order has an annotation that passes. -/
def tabOk (T : List (Nat × List Ann)) : Code → Bool
  | .seq a b => tabOk T a && tabOk T b
  | .cond _ a b => tabOk T a && tabOk T b
  | .block _ c => tabOk T c
  | .scope c => tabOk T c
  | .region id ops true => match annOf T id with
    | some as => annOk ops as
    | none => true
  | _ => true

theorem wc_sound (hO : OkO P O) (hm : P.follows .mixedOrders = true) : ∀ (c : Code) (s : St) (Q : Ex → St → Prop), tabOk T c = true → wc P n0 ro T O c s Q → AWp P n0 ro c s Q
  | .skip, s, Q, _, h => awp_skip h
  | .label _, s, Q, _, h => awp_label h
  | .exit _, s, Q, _, h => awp_exit h
  | .ret, s, Q, _, h => awp_ret h
  | .seq a b, s, Q, ht, h => by
    simp only [tabOk, Bool.and_eq_true] at ht
    exact awp_seq (awp_mono (wc_sound hO hm a s _ ht.1 h) fun e s' h' => by
      cases e with
      | normal => exact wc_sound hO hm b s' Q ht.2 h'
      | exit id => exact h'
      | ret => exact h')
  | .cond c a b, s, Q, ht, h => by
    simp only [tabOk, Bool.and_eq_true] at ht
    simp only [wc] at h
    split at h
    · rename_i t hc
      exact awp_cond hc (fun e => wc_sound hO hm a s Q ht.1 (h.1 e)) (fun e => wc_sound hO hm b s Q ht.2 (h.2 e))
    · exact h.elim
  | .block id c, s, Q, ht, h => awp_block (wc_sound hO hm c s _ ht h)
  | .region id ops false, s, Q, _, h => by
    refine awp_region ?_
    have := wcOps_aops hO (n0 := n0) (ro := ro) ops.toList 0 s _ (fun j => by simp) h
    simpa using this
  | .region id ops true, s, Q, ht, h => by
    simp only [wc, tabOk] at h ht
    split at h
    · rename_i as ha
      rw [ha] at ht
      exact awp_draw hO hm ht h
    · exact h
  | .loop c, s, Q, _, h => h
  | .rangeFunc f p a b, s, Q, _, h => h
  | .scope c, s, Q, ht, h => awp_scope (wc_sound hO hm c s Q ht h)
  | .goto l, s, Q, _, h => h
  | .refuse w, s, Q, _, h => h

/-- What a body must end in. -/
def endK (P : Program) (rs : List ResultVar) (Q : D → H → Nat → Prop) : Ex → St → Prop
  | .normal, s | .ret, s => optK (resD P s rs) fun ds => Q (tupD ds) s.h s.nid
  | _, _ => False

theorem endQ_of {fn : Func} {rs : List ResultVar} (hrs : fn.results.toList = rs) {Q : D → H → Nat → Prop} {e : Ex} {s : St} (h : endK P rs Q e s) : endQ P fn Q e s := by
  cases e with
  | exit => exact h
  | _ => obtain ⟨ds, h1, h2⟩ := optK_inv (show optK _ _ from h); exact ⟨ds, by rw [hrs]; exact h1, h2⟩

/-- A contract on data, out of a body. -/
theorem pure_of_wc {f : FuncId} {fn : Func} {c : Code} {ds : List D} {r : D} {rs : List ResultVar} {m : Nat} (T : List (Nat × List Ann)) (hO : OkO P O) (hm : P.follows .mixedOrders = true) (hf : P.funcs[f]? = some fn) (hb : fn.body = some c) (hcal : callable P f = true)
    (hrs : fn.results.toList = rs) (hn : ds.length + (fn.ntmps - ds.length) = m) (ht : tabOk T c = true) (h : wc P 0 none T O c ⟨argEnv 0 ds, [], 0, m⟩ (endK P rs fun d h _ => view h d = r)) : Pure P f ds r :=
  pure_of_awp hf hb hcal (awp_mono (wc_sound hO hm _ _ _ ht (by rw [hn]; exact h)) fun e s hq => endQ_of hrs hq)

end

section
variable {P : Program} {O : Oracle} {n0 : Nat} {ro : Option Nat} {T : List (Nat × List Ann)} {ops : Array Oper} {dr fl tr : Bool}

theorem wc_skip (s : St) (Q : Ex → St → Prop) : wc P n0 ro T O .skip s Q = Q .normal s := (rfl)
theorem wc_label (l : Nat) (s : St) (Q : Ex → St → Prop) : wc P n0 ro T O (.label l) s Q = Q .normal s := (rfl)
theorem wc_exit (l : Nat) (s : St) (Q : Ex → St → Prop) : wc P n0 ro T O (.exit l) s Q = Q (.exit l) s := (rfl)
theorem wc_ret (s : St) (Q : Ex → St → Prop) : wc P n0 ro T O .ret s Q = Q .ret s := (rfl)
theorem wc_seq (a b : Code) (s : St) (Q : Ex → St → Prop) : wc P n0 ro T O (.seq a b) s Q = wc P n0 ro T O a s (thenQ (fun s' => wc P n0 ro T O b s' Q) Q) := (rfl)
theorem wc_scope (a : Code) (s : St) (Q : Ex → St → Prop) : wc P n0 ro T O (.scope a) s Q = wc P n0 ro T O a s Q := (rfl)
theorem wc_block (id : Nat) (a : Code) (s : St) (Q : Ex → St → Prop) : wc P n0 ro T O (.block id a) s Q = wc P n0 ro T O a s (blockQ id Q) := (rfl)
theorem wc_region (id : Nat) (l : List Oper) (s : St) (Q : Ex → St → Prop) : wc P n0 ro T O (.region id l.toArray false) s Q = wcOps P O l.toArray l s (Q .normal) := (rfl)
def drawZ (o : Option (List Ann)) (K : List Ann → Prop) (p : Prop) (_ : Tag (K, p)) : Prop :=
  match o with
  | some a => K a
  | none => p
theorem drawZ_some (a : List Ann) (K : List Ann → Prop) (p : Prop) (u : Tag (K, p)) : drawZ (some a) K p u = K a := (rfl)
theorem drawZ_none (K : List Ann → Prop) (p : Prop) (u : Tag (K, p)) : drawZ none K p u = p := (rfl)
theorem wc_draw (id : Nat) (l : List Oper) (s : St) (Q : Ex → St → Prop) : wc P n0 ro T O (.region id l.toArray true) s Q = drawZ (annOf T id) (fun as => anyK P O l.toArray as l s (Q .normal)) (LoopV P n0 ro (.region id l.toArray true) s Q ⟨⟩) ⟨⟩ := by
  simp only [wc, drawZ]
theorem annOf_nil (k : Nat) : annOf [] k = none := (rfl)
theorem annOf_cons (i k : Nat) (a : List Ann) (r : List (Nat × List Ann)) : annOf ((i, a) :: r) k = if k = i then some a else annOf r k := (rfl)
theorem wc_loop (c : Code) (s : St) (Q : Ex → St → Prop) : wc P n0 ro T O (.loop c) s Q = LoopV P n0 ro (.loop c) s Q ⟨⟩ := (rfl)
theorem wc_rangeFunc (f : Operand) (p : Array Tmp) (a b : Code) (s : St) (Q : Ex → St → Prop) : wc P n0 ro T O (.rangeFunc f p a b) s Q = LoopV P n0 ro (.rangeFunc f p a b) s Q ⟨⟩ := (rfl)

def condZ (d : D) (p q : Prop) (_ : Tag (p, q)) : Prop :=
  match d with
  | .bool t => BR t p q
  | _ => False
theorem wc_cond (c : Operand) (a b : Code) (s : St) (Q : Ex → St → Prop) : wc P n0 ro T O (.cond c a b) s Q = condZ (evO s.env c) (wc P n0 ro T O a s Q) (wc P n0 ro T O b s Q) ⟨⟩ := (rfl)
theorem condZ_true (p q : Prop) (u : Tag (p, q)) : condZ (.bool true) p q u = p := by simp [condZ, BR]
theorem condZ_false (p q : Prop) (u : Tag (p, q)) : condZ (.bool false) p q u = q := by simp [condZ, BR]
theorem condZ_bool (t : Bool) (p q : Prop) (u : Tag (p, q)) : condZ (.bool t) p q u = BR t p q := (rfl)

theorem wcOps_nil (s : St) (K : St → Prop) : wcOps P O ops [] s K = K s := (rfl)
theorem wcOps_cons (d : Option Tmp) (op : Op) (ty : TypeId) (pos : String) (after : Array Edge) (rest : List Oper) (env : Env) (h : H) (nid n : Nat) (K : St → Prop) :
    wcOps P O ops (⟨d, op, ty, pos, after, none⟩ :: rest) ⟨env, h, nid, n⟩ K = resK P O false false op env h nid fun v h' nid' => Z (St.put ⟨env, h', nid', n⟩ d v) (fun s' => wcOps P O ops rest s' K) ⟨⟩ := (rfl)

def guardZ (d : D) (want : Bool) (p q r : Prop) (_ : Tag (p, q, r)) : Prop :=
  match d with
  | .bool b => BR (b == want) p q
  | .tup [] => r
  | _ => False
theorem guardZ_true (p q r : Prop) (u : Tag (p, q, r)) : guardZ (.bool true) true p q r u = p := by simp [guardZ, BR]
theorem guardZ_false (p q r : Prop) (u : Tag (p, q, r)) : guardZ (.bool false) false p q r u = p := by simp [guardZ, BR]
theorem guardZ_true' (p q r : Prop) (u : Tag (p, q, r)) : guardZ (.bool false) true p q r u = q := by simp [guardZ, BR]
theorem guardZ_false' (p q r : Prop) (u : Tag (p, q, r)) : guardZ (.bool true) false p q r u = q := by simp [guardZ, BR]
theorem guardZ_bool_true (b : Bool) (p q r : Prop) (u : Tag (p, q, r)) : guardZ (.bool b) true p q r u = BR b p q := by simp [guardZ]
theorem guardZ_bool_false (b : Bool) (p q r : Prop) (u : Tag (p, q, r)) : guardZ (.bool b) false p q r u = BR b q p := by
  cases b <;> simp [guardZ, BR]
theorem guardZ_off (want : Bool) (p q r : Prop) (u : Tag (p, q, r)) : guardZ (.tup []) want p q r u = r := (rfl)
def slotZ (o : Option Tmp) (K : Tmp → Prop) (_ : Tag K) : Prop :=
  match o with
  | some t => K t
  | none => False
theorem slotZ_some (t : Tmp) (K : Tmp → Prop) (u : Tag K) : slotZ (some t) K u = K t := (rfl)
theorem wcOps_guard (d : Option Tmp) (op : Op) (ty : TypeId) (pos : String) (after : Array Edge) (j : Nat) (want : Bool) (rest : List Oper) (env : Env) (h : H) (nid n : Nat) (K : St → Prop) :
    wcOps P O ops (⟨d, op, ty, pos, after, some (j, want)⟩ :: rest) ⟨env, h, nid, n⟩ K =
      slotZ (slotOf ops j) (fun t => guardZ (look env t) want (resK P O false false op ((t, .bool want) :: env) h nid fun v h' nid' => Z (St.put ⟨(t, .bool want) :: env, h', nid', n⟩ d v) (fun s' => wcOps P O ops rest s' K) ⟨⟩)
        (Z (St.put ⟨(t, .bool !want) :: env, h, nid, n⟩ d (.tup [])) (fun s' => wcOps P O ops rest s' K) ⟨⟩)
        (Z (St.put ⟨env, h, nid, n⟩ d (.tup [])) (fun s' => wcOps P O ops rest s' K) ⟨⟩) ⟨⟩) ⟨⟩ := (rfl)

theorem phK_nil (s : St) (rows : List Row) (hs : List H) (K : St → List Row → List H → Prop) : phK P O ops fl tr [] s rows hs K = K s rows hs := (rfl)
theorem phK_cons (d : Option Tmp) (op : Op) (ty : TypeId) (pos : String) (after : Array Edge) (rest : List Oper) (env : Env) (h : H) (nid n : Nat) (rows : List Row) (hs : List H) (K : St → List Row → List H → Prop) :
    phK P O ops fl false (⟨d, op, ty, pos, after, none⟩ :: rest) ⟨env, h, nid, n⟩ rows hs K = resK P O true fl op env h nid fun v h' nid' => Z (St.put ⟨env, h', nid', n⟩ d v) (fun s' => phK P O ops fl false rest s' rows hs K) ⟨⟩ := (rfl)
theorem phK_guard (d : Option Tmp) (op : Op) (ty : TypeId) (pos : String) (after : Array Edge) (j : Nat) (want : Bool) (rest : List Oper) (env : Env) (h : H) (nid n : Nat) (rows : List Row) (hs : List H) (K : St → List Row → List H → Prop) :
    phK P O ops fl false (⟨d, op, ty, pos, after, some (j, want)⟩ :: rest) ⟨env, h, nid, n⟩ rows hs K =
      slotZ (slotOf ops j) (fun t => guardZ (look env t) want (resK P O true fl op ((t, .bool want) :: env) h nid fun v h' nid' => Z (St.put ⟨(t, .bool want) :: env, h', nid', n⟩ d v) (fun s' => phK P O ops fl false rest s' rows hs K) ⟨⟩)
        (Z (St.put ⟨(t, .bool !want) :: env, h, nid, n⟩ d (.tup [])) (fun s' => phK P O ops fl false rest s' rows hs K) ⟨⟩)
        (Z (St.put ⟨env, h, nid, n⟩ d (.tup [])) (fun s' => phK P O ops fl false rest s' rows hs K) ⟨⟩) ⟨⟩) ⟨⟩ := (rfl)
theorem phK_consT (d : Option Tmp) (op : Op) (ty : TypeId) (pos : String) (after : Array Edge) (rest : List Oper) (env : Env) (h : H) (nid n : Nat) (rows : List Row) (hs : List H) (K : St → List Row → List H → Prop) :
    phK P O ops fl true (⟨d, op, ty, pos, after, none⟩ :: rest) ⟨env, h, nid, n⟩ rows hs K = resK P O true fl op env h nid fun v h' nid' => Z (St.put ⟨env, h', nid', n⟩ d v) (fun s' => phK P O ops fl true rest s' (⟨⟨d, op, ty, pos, after, none⟩, env, h, true, v⟩ :: rows) (s'.h :: hs) K) ⟨⟩ := (rfl)
theorem phK_guardT (d : Option Tmp) (op : Op) (ty : TypeId) (pos : String) (after : Array Edge) (j : Nat) (want : Bool) (rest : List Oper) (env : Env) (h : H) (nid n : Nat) (rows : List Row) (hs : List H) (K : St → List Row → List H → Prop) :
    phK P O ops fl true (⟨d, op, ty, pos, after, some (j, want)⟩ :: rest) ⟨env, h, nid, n⟩ rows hs K =
      slotZ (slotOf ops j) (fun t => guardZ (look env t) want (resK P O true fl op ((t, .bool want) :: env) h nid fun v h' nid' => Z (St.put ⟨(t, .bool want) :: env, h', nid', n⟩ d v)
          (fun s' => phK P O ops fl true rest s' (⟨⟨d, op, ty, pos, after, some (j, want)⟩, (t, .bool want) :: env, h, true, v⟩ :: rows) (s'.h :: hs) K) ⟨⟩)
        (Z (St.put ⟨(t, .bool !want) :: env, h, nid, n⟩ d (.tup [])) (fun s' => phK P O ops fl true rest s' (⟨⟨d, op, ty, pos, after, some (j, want)⟩, (t, .bool !want) :: env, h, false, .tup []⟩ :: rows) (s'.h :: hs) K) ⟨⟩)
        (Z (St.put ⟨env, h, nid, n⟩ d (.tup [])) (fun s' => phK P O ops fl true rest s' (⟨⟨d, op, ty, pos, after, some (j, want)⟩, env, h, false, .tup []⟩ :: rows) (s'.h :: hs) K) ⟨⟩) ⟨⟩) ⟨⟩ := (rfl)

theorem isF_false (o : Oper) : isF false o = false := by
  unfold isF dkind
  cases o.op with
  | call c =>
    obtain ⟨callee, a, t⟩ := c
    cases callee with
    | builtin b => cases b <;> rfl
    | _ => rfl
  | _ => rfl
theorem adopt_false : ∀ (l : List Oper) (s : St) (K : St → Prop), adoptK P false l s K = K s
  | [], s, K => rfl
  | o :: r, s, K => by simp only [adoptK, isF_false, Bool.false_eq_true, if_false]; exact adopt_false r s K
/-- Boxes get their names. -/
theorem adopt_alloc (d : Option Tmp) (t : TypeId) (ty : TypeId) (pos : String) (after : Array Edge) (g : Option (Nat × Bool)) (r : List Oper) (env : Env) (h : H) (nid n : Nat) (K : St → Prop) :
    adoptK P true (⟨d, .alloc t, ty, pos, after, g⟩ :: r) ⟨env, h, nid, n⟩ K = Zo (zeroD P t) (fun zs => Z (St.put ⟨env, (nid, .box zs) :: h, nid + 1, n⟩ d (.ptr nid 0)) (fun s' => adoptK P true r s' K) ⟨⟩) ⟨⟩ := by
  simp only [adoptK, zeroA, Zo, optK, Z]
  cases zeroD P t <;> rfl
theorem adopt_nil (s : St) (K : St → Prop) : adoptK P true [] s K = K s := (rfl)
theorem adopt_skip (o : Oper) (r : List Oper) (s : St) (K : St → Prop) (hf : isF true o = false) : adoptK P true (o :: r) s K = adoptK P true r s K := by
  simp only [adoptK, hf, Bool.false_eq_true, if_false]

theorem anyK_nil (l : List Oper) (s : St) (K : St → Prop) : anyK P O ops [] l s K = K s := (rfl)
theorem anyK_consF (len : Nat) (as : List Ann) (l : List Oper) (env : Env) (h : H) (nid n : Nat) (K : St → Prop) : anyK P O ops ((len, false, false, []) :: as) l ⟨env, h, nid, n⟩ K =
    phK P O ops false false (l.take len) ⟨env, h, nid, n⟩ [] [] (fun s' _ _ => anyK P O ops as (l.drop len) s' K) := by
  simp only [anyK, reK, adopt_false, Bool.false_eq_true, if_false]
theorem anyK_consR (len : Nat) (re : List (Nat × Nat)) (as : List Ann) (l : List Oper) (env : Env) (h : H) (nid n : Nat) (K : St → Prop) : anyK P O ops ((len, false, true, re) :: as) l ⟨env, h, nid, n⟩ K =
    phK P O ops false true (l.take len) ⟨env, h, nid, n⟩ [] [h] (fun s' rows hs => reK P false rows hs re (anyK P O ops as (l.drop len) s' K)) := by
  simp only [anyK, adopt_false, if_true]
theorem anyK_consA (len : Nat) (as : List Ann) (l : List Oper) (env : Env) (h : H) (nid n : Nat) (K : St → Prop) : anyK P O ops ((len, true, false, []) :: as) l ⟨env, h, nid, n⟩ K =
    phK P O ops true false (l.take len) ⟨env, h, nid, n⟩ [] [] (fun s' _ _ => adoptK P true (l.take len) s' fun s2 => anyK P O ops as (l.drop len) s2 K) := by
  simp only [anyK, reK, Bool.false_eq_true, if_false]

/-- What is seen to again. -/
def ReV (P : Program) (fl : Bool) (row : Row) (h : H) : Prop := row.run = true → ReOk P fl row h
theorem reK_nil (rows : List Row) (hs : List H) (p : Prop) : reK P fl rows hs [] p = p := (rfl)
theorem reK_cons (rows : List Row) (hs : List H) (x y : Nat) (r : List (Nat × Nat)) (p : Prop) : reK P fl rows hs ((x, y) :: r) p = Zo rows[x]? (fun row => Zo hs[y]? (fun h => ReV P fl row h ∧ reK P fl rows hs r p) ⟨⟩) ⟨⟩ := by
  simp only [reK, Zo, optK, ReV]
  cases rows[x]? <;> cases hs[y]? <;> rfl

theorem endK_normal (rs : List ResultVar) (Q : D → H → Nat → Prop) (env : Env) (h : H) (nid n : Nat) : endK P rs Q .normal ⟨env, h, nid, n⟩ = Zo (resD P ⟨env, h, nid, n⟩ rs) (fun ds => Q (tupD ds) h nid) ⟨⟩ := (rfl)
theorem endK_ret (rs : List ResultVar) (Q : D → H → Nat → Prop) (env : Env) (h : H) (nid n : Nat) : endK P rs Q .ret ⟨env, h, nid, n⟩ = Zo (resD P ⟨env, h, nid, n⟩ rs) (fun ds => Q (tupD ds) h nid) ⟨⟩ := (rfl)

/-! Loops -/

/-- The slots that a head keeps hold there. -/
def envW (m : Nat) (e : Env) : Env → Prop
  | [] => True
  | (t, d) :: r => look e t = d ∧ d.lt m = true ∧ envW m e r

theorem envW_look {m : Nat} {e : Env} : ∀ {e' : Env}, envW m e e' → ∀ i, look e' i = .any ∨ (look e i = look e' i ∧ (look e' i).lt m = true)
  | [], _, i => .inl rfl
  | (t, d) :: r, h, i => by
    simp only [look]
    by_cases hi : i = t
    · subst hi; rw [if_pos rfl]; exact .inr ⟨h.1, h.2.1⟩
    · rw [if_neg hi]; exact envW_look h.2.2 i

def heapW (m : Nat) (h : H) : H → Prop
  | [] => True
  | (i, b) :: r => hget h i = some b ∧ i < m ∧ blkLt m b = true ∧ heapW m h r

theorem heapW_get {m : Nat} {h : H} : ∀ {h' : H}, heapW m h h' → ∀ id blk, hget h' id = some blk → hget h id = some blk ∧ id < m ∧ blkLt m blk = true
  | [], _, id, blk, hb => by simp [hget] at hb
  | (i, b) :: r, hw, id, blk, hb => by
    simp only [hget] at hb
    by_cases hi : id = i
    · subst hi; rw [if_pos rfl] at hb; cases hb; exact ⟨hw.1, hw.2.1, hw.2.2.1⟩
    · rw [if_neg hi] at hb; exact heapW_get hw.2.2.2 id blk hb

/-- A state is at a head. -/
def headW (n0 : Nat) (s : St) (e : Env) (h : H) (nid n : Nat) : Prop := s.n = n ∧ n0 ≤ nid ∧ heapW nid s.h h ∧ envW nid s.env e

theorem weak_of {s : St} {e : Env} {h : H} {nid n : Nat} (hw : headW n0 s e h nid n) : Weak n0 s ⟨e, h, nid, n⟩ where
  n := hw.1
  env := fun i => (envW_look hw.2.2.2 i).imp id fun ⟨a, b⟩ => ⟨a, .inr b⟩
  sub := fun id blk hb => (heapW_get hw.2.2.1 id blk hb).1
  key := fun id blk hb => (heapW_get hw.2.2.1 id blk hb).2.1
  nid := hw.2.1
  roll := .inr fun id blk hb => (heapW_get hw.2.2.1 id _ hb).2.2

/-- A loop: what its head holds, an invariant, a measure, one round. -/
theorem loopV {ι : Type} {c : Code} {s : St} {Q : Ex → St → Prop} {u : Tag (Code.loop c, Q)} (hO : OkO P O) (T : List (Nat × List Ann)) (E : ι → Env) (V : ι → H) (nid : Nat) (I : ι → Prop) (μ : ι → Nat) (i0 : ι) (hm : P.follows .mixedOrders = true) (ht : tabOk T c = true)
    (h0 : I i0) (hw : headW n0 s (E i0) (V i0) nid s.n)
    (round : ∀ i, I i → wc P n0 ro T O c ⟨E i, V i, nid, s.n⟩ (thenQ (fun s' => ∃ j, I j ∧ μ j < μ i ∧ headW n0 s' (E j) (V j) nid s.n) Q)) : LoopV P n0 ro (.loop c) s Q u :=
  awp_loop (fun i => ⟨E i, V i, nid, s.n⟩) I μ i0 h0 (weak_of hw) fun i hi => awp_mono (wc_sound hO hm c _ _ ht (round i hi)) fun e s' h' => by
    cases e with
    | normal => obtain ⟨j, a, b, d⟩ := h'; exact ⟨j, a, b, weak_of d⟩
    | exit => exact h'
    | ret => exact h'

end
end Go.Sx
