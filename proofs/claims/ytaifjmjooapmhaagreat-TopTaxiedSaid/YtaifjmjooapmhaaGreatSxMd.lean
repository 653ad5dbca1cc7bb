/- Own work: a calculus of contracts for the programs of this kit: parts SxX, SxY, SxZ. -/
import Derived.Test.YtaifjmjooapmhaaGreatSxMc
set_option linter.unusedVariables false
set_option linter.unusedSimpArgs false
namespace Go.Sx


theorem beq_ne {a b : Nat} (h : a ≠ b) : Nat.beq a b = false := by
 cases hb : Nat.beq a b with
 | false => rfl
 | true => exact absurd (Nat.eq_of_beq_eq_true hb) h
theorem blt_not {a b : Nat} (h : ¬ a < b) : Nat.blt a b = false := by
 cases hb : Nat.blt a b with
 | false => rfl
 | true => exact absurd (by simpa using hb) h

def eset : Env → Nat → D → Env
 | [], t, d => [(t, d)]
 | (i, x) :: r, t, d => bif Nat.beq t i then (i, d) :: r else (i, x) :: eset r t d

theorem look_eset (e : Env) (t : Nat) (d : D) (j : Nat) : look (eset e t d) j = if j = t then d else look e j := by
 induction e with
 | nil => simp [eset, look]
 | cons p r ih =>
  obtain ⟨i, x⟩ := p
  simp only [eset]
  by_cases hi : t = i
  ·subst hi
   simp only [show Nat.beq t t = true by simp, cond_true, look]
   by_cases hj : j = t <;> simp [hj]
  ·simp only [beq_ne hi, cond_false, look, ih]
   by_cases hj : j = i
   ·subst hj; simp [Ne.symm hi]
   ·simp [hj]

def sqz : List (Nat × D) → Env → Env
 | [], e => e
 | (t, d) :: r, e => eset (sqz r e) t d

theorem look_sqz : ∀ (l : List (Nat × D)) (e : Env) (j : Nat), look (sqz l e) j = look (l ++ e) j
 | [], e, j => rfl
 | (t, d) :: r, e, j => by simp only [sqz, look_eset, List.cons_append, look, look_sqz r e j]

def squash (m : Nat) (e : Env) : Env := sqz (e.take m) (e.drop m)

theorem look_squash (m : Nat) (e : Env) (j : Nat) : look (squash m e) j = look e j := by
 rw [squash, look_sqz, List.take_append_drop]

def lookB : Env → Nat → D
 | [], _ => .any
 | (i, d) :: e, t => bif Nat.beq t i then d else lookB e t

theorem lookB_eq : lookB = look := by
 funext e t
 induction e with
 | nil => rfl
 | cons p e ih =>
  obtain ⟨i, d⟩ := p
  simp only [lookB, look, ih]
  by_cases h : t = i
  ·subst h; simp
  ·rw [if_neg h, beq_ne h]; rfl

def evB (env : Env) : Operand → D
 | .tmp t => lookB env t
 | .const v => vD v
 | .global g => .raw (.pointer (some ⟨g, 0, none⟩))
 | .func f => .fn (.func f) [] []

theorem evB_eq (env : Env) : evB env = evO env := by
 funext x
 cases x <;> simp [evB, evO, lookB_eq]

def putB (s : St) (dst : Option Tmp) (d : D) : St :=
 match dst with
 | none => s
 | some t => bif Nat.blt t s.n then { s with env := (t, d) :: s.env } else s

theorem putB_eq (s : St) (dst : Option Tmp) (d : D) : putB s dst d = s.put dst d := by
 cases dst with
 | none => rfl
 | some t =>
  simp only [putB, St.put]
  by_cases h : t < s.n
  ·rw [if_pos h, show Nat.blt t s.n = true by simpa using h]; rfl
  ·rw [if_neg h, blt_not h]; rfl

mutual
def D.same : D → D → Bool
 | .any, .any => true
 | .int k n, .int k' m => k == k' && n == m
 | .bool a, .bool b => a == b
 | .str a, .str b => a.toList == b.toList
 | .agg a, .agg b => D.sameL a b
 | .tup a, .tup b => D.sameL a b
 | .nils, .nils => true
 | .sl a, .sl b => D.sameLL a b
 | .ref a o, .ref b p => D.sameL a b && Nat.beq o p
 | .ptr a o, .ptr b p => Nat.beq a b && Nat.beq o p
 | .osl a o, .osl b p => Nat.beq a b && Nat.beq o p
 | .eptr a b c d e, .eptr a' b' c' d' e' => Nat.beq a a' && Nat.beq b b' && Nat.beq c c' && Nat.beq d d' && Nat.beq e e'
 | .nilp, .nilp => true
 | .nilf, .nilf => true
 | .nili, .nili => true
 | .nilm, .nilm => true
 | .mp a, .mp b => Nat.beq a b
 | .bsl a b c d, .bsl a' b' c' d' => Nat.beq a a' && Nat.beq b b' && Nat.beq c c' && Nat.beq d d'
 | _, _ => false
def D.sameL : List D → List D → Bool
 | [], [] => true
 | a :: r, b :: s => D.same a b && D.sameL r s
 | _, _ => false
def D.sameLL : List (List D) → List (List D) → Bool
 | [], [] => true
 | a :: r, b :: s => D.sameL a b && D.sameLL r s
 | _, _ => false
end

mutual
theorem D.same_eq : ∀ {a b : D}, D.same a b = true → a = b
 | .any, b, h => by cases b <;> simp [D.same] at h <;> rfl
 | .int k n, b, h => by cases b <;> simp [D.same] at h; rw [h.1, h.2]
 | .bool x, b, h => by cases b <;> simp [D.same] at h; rw [h]
 | .str x, b, h => by cases b <;> simp [D.same] at h; rw [bytes_toList.1 h]
 | .agg x, b, h => by cases b <;> simp [D.same] at h; rw [D.sameL_eq h]
 | .tup x, b, h => by cases b <;> simp [D.same] at h; rw [D.sameL_eq h]
 | .nils, b, h => by cases b <;> simp [D.same] at h <;> rfl
 | .sl x, b, h => by cases b <;> simp [D.same] at h; rw [D.sameLL_eq h]
 | .ref x o, b, h => by cases b <;> simp [D.same] at h; rw [D.sameL_eq h.1, h.2]
 | .ptr x o, b, h => by cases b <;> simp [D.same] at h; rw [h.1, h.2]
 | .osl x o, b, h => by cases b <;> simp [D.same] at h; rw [h.1, h.2]
 | .eptr x y z u v, b, h => by cases b <;> simp [D.same] at h; obtain ⟨⟨⟨⟨h1, h2⟩, h3⟩, h4⟩, h5⟩ := h; rw [h1, h2, h3, h4, h5]
 | .fn _ _ _, b, h => by simp [D.same] at h
 | .nilp, b, h => by cases b <;> simp [D.same] at h <;> rfl
 | .nilf, b, h => by cases b <;> simp [D.same] at h <;> rfl
 | .nili, b, h => by cases b <;> simp [D.same] at h <;> rfl
 | .nilm, b, h => by cases b <;> simp [D.same] at h <;> rfl
 | .ifc _ _, b, h => by simp [D.same] at h
 | .mp x, b, h => by cases b <;> simp [D.same] at h; rw [h]
 | .bsl x y z u, b, h => by cases b <;> simp [D.same] at h; obtain ⟨⟨⟨h1, h2⟩, h3⟩, h4⟩ := h; rw [h1, h2, h3, h4]
 | .raw _, b, h => by simp [D.same] at h
theorem D.sameL_eq : ∀ {a b : List D}, D.sameL a b = true → a = b
 | [], b, h => by cases b <;> simp [D.sameL] at h <;> rfl
 | x :: r, b, h => by cases b <;> simp [D.sameL] at h; rw [D.same_eq h.1, D.sameL_eq h.2]
theorem D.sameLL_eq : ∀ {a b : List (List D)}, D.sameLL a b = true → a = b
 | [], b, h => by cases b <;> simp [D.sameLL] at h <;> rfl
 | x :: r, b, h => by cases b <;> simp [D.sameLL] at h; rw [D.sameL_eq h.1, D.sameLL_eq h.2]
end


def withH (h : H) (nid : Nat) : Option D → Option (D × H × Nat)
 | some d => some (d, h, nid)
 | none => none

theorem withH_inv {h : H} {nid : Nat} {o : Option D} {d : D} {h' : H} {nid' : Nat} (e : withH h nid o = some (d, h', nid')) : o = some d ∧ h' = h ∧ nid' = nid := by
 cases o with
 | none => simp [withH] at e
 | some x => simp [withH] at e; obtain ⟨rfl, rfl, rfl⟩ := e; exact ⟨rfl, rfl, rfl⟩

abbrev CallE := FuncId → List D → H → Nat → Option (D × H × Nat)
abbrev CallQ := FuncId → List D → H → Option D

def calleeB (env : Env) (c : Call) : Option (FuncId × List D) :=
 match c.callee with
 | .value x =>
  match evB env x with
  | .fn (.func f) first cap => some (f, first ++ c.args.toList.map (evB env) ++ cap)
  | _ => none
 | _ => none

theorem calleeB_eq (env : Env) (c : Call) : calleeB env c = calleeD env c := by
 unfold calleeB calleeD
 rw [evB_eq]
 obtain ⟨callee, args, ts⟩ := c
 cases callee with
 | value x => dsimp only; cases evO env x with
  | fn f a b => cases f <;> rfl
  | _ => rfl
 | _ => rfl

def callE (call : CallE) (qcall : CallQ) (dr : Bool) (h : H) (nid : Nat) : Option (FuncId × List D) → Option (D × H × Nat)
 | some (f, ds) => if dr then withH h nid (qcall f ds h) else call f ds h nid
 | none => none

def resE (P : Program) (call : CallE) (qcall : CallQ) (dr fl : Bool) (op : Op) (env : Env) (h : H) (nid : Nat) : Option (D × H × Nat) :=
 match op with
 | .alloc t => if fl then (match zeroD P t with | some _ => some (.any, h, nid) | none => none) else allocD P h nid t
 | .buildSlice t n parts =>
  if dr then withH h nid (litD P h t n (parts.toList.map fun q => (q.1, evB env q.2)))
  else litFD P h nid t n (parts.toList.map fun q => (q.1, evB env q.2))
 | .box _ x => boxD h nid (evB env x)
 | .store t x y => storeD P h nid t (evB env x) (evB env y)
 | .makeMap _ _ => opF P op (evB env) h nid
 | .mapUpdate t x y z => mapUpdD P h nid t (evB env x) (evB env y) (evB env z)
 | .insert t x y z => mapUpdD P h nid t (evB env x) (evB env y) (evB env z)
 | .convert _ _ _ => withH h nid (quietD P op (evB env) h)
 | .call c =>
  match c.callee with
  | .builtin .append => opF P op (evB env) h nid
  | .builtin _ => withH h nid (opR P op (evB env) h)
  | _ => callE call qcall dr h nid (calleeB env c)
 | op => withH h nid (opR P op (evB env) h)

def OkCall (P : Program) (call : CallE) : Prop := ∀ f ds h nid d h' nid', call f ds h nid = some (d, h', nid') → ACall P f ds h nid fun r h2 n2 => r = d ∧ h2 = h' ∧ n2 = nid'
def OkQ (P : Program) (qcall : CallQ) : Prop := ∀ f ds h d, qcall f ds h = some d → QC P f ds h d

section
variable {P : Program} {n0 : Nat} {ro : Option Nat} {call : CallE} {qcall : CallQ}

theorem resE_sound (hc : OkCall P call) (hq : OkQ P qcall) {dr fl : Bool} {op : Op} {env : Env} {h : H} {nid : Nat} {d : D} {h' : H} {nid' : Nat} {K : D → H → Nat → Prop} (e : resE P call qcall dr fl op env h nid = some (d, h', nid'))
  (hK : K d h' nid') : resK P oNone dr fl op env h nid K := by
 simp only [resE, evB_eq, calleeB_eq] at e
 have hcallE : ∀ c : Call, callE call qcall dr h nid (calleeD env c) = some (d, h', nid') → optK (calleeD env c) fun v => callX P oNone dr v.1 v.2 h nid K := by
  intro c e
  cases hcal : calleeD env c with
  | none => rw [hcal] at e; simp [callE] at e
  | some v =>
   rw [hcal] at e
   obtain ⟨f, ds⟩ := v
   simp only [callE] at e
   show callY P dr f ds h nid K
   unfold callY
   cases dr with
   | true =>
    simp only [if_true] at e ⊢
    obtain ⟨h1, rfl, rfl⟩ := withH_inv e
    exact ⟨d, hq _ _ _ _ h1, hK⟩
   | false =>
    simp only [Bool.false_eq_true, if_false] at e ⊢
    exact (hc _ _ _ _ _ _ _ e).mono fun r h2 n2 ⟨a, b, c⟩ => by subst a; subst b; subst c; exact hK
 cases op with
 | alloc t =>
  simp only [resK] at e ⊢
  cases fl with
  | true =>
   simp only [if_true] at e ⊢
   split at e
   ·rename_i zs hz; rw [hz]; cases e; exact hK
   ·cases e
  | false =>
   simp only [Bool.false_eq_true, if_false] at e ⊢
   rw [e]; exact hK
 | buildSlice t n parts =>
  simp only [resK] at e ⊢
  cases dr with
  | true =>
   simp only [if_true] at e ⊢
   obtain ⟨h1, rfl, rfl⟩ := withH_inv e
   rw [h1]; exact hK
  | false =>
   simp only [Bool.false_eq_true, if_false] at e ⊢
   rw [e]; exact hK
 | box t x => simp only [resK] at e ⊢; rw [e]; exact hK
 | store t x y => simp only [resK] at e ⊢; rw [e]; exact hK
 | makeMap t r => simp only [resK] at e ⊢; rw [e]; exact hK
 | mapUpdate t x y z => simp only [resK] at e ⊢; rw [e]; exact hK
 | insert t x y z => simp only [resK] at e ⊢; rw [e]; exact hK
 | call c =>
  obtain ⟨callee, args, ts⟩ := c
  cases callee with
  | builtin b =>
   cases b with
   | append => simp only [resK] at e ⊢; rw [e]; exact hK
   | _ =>
    simp only [resK] at e ⊢
    obtain ⟨h1, rfl, rfl⟩ := withH_inv e
    rw [h1]; exact hK
  | value x => exact hcallE ⟨.value x, args, ts⟩ e
  | invoke x m =>
   have := hcallE ⟨.invoke x m, args, ts⟩ e
   simp [calleeD, optK] at this
 | slice t x lo hi mx =>
  cases mx with
  | some m =>
   simp only [resK] at e ⊢
   obtain ⟨h1, rfl, rfl⟩ := withH_inv e
   rw [h1]; exact hK
  | none =>
   simp only [resK] at e ⊢
   obtain ⟨h1, rfl, rfl⟩ := withH_inv e
   have h2 : sliceD P t (evO env x) (lo.map (evO env)) (hi.map (evO env)) = some d := h1
   unfold sliceK
   split
   ·rename_i b n hx
    rw [hx] at h2
    unfold sliceD at h2
    split at h2 <;> first | cases h2 | (rename_i q; cases q)
   ·rw [h2]; exact hK
 | makeSlice t l c =>
  simp only [resK] at e ⊢
  obtain ⟨h1, rfl, rfl⟩ := withH_inv e
  simp [opR, opQ] at h1
 | _ =>
  simp only [resK] at e ⊢
  obtain ⟨h1, rfl, rfl⟩ := withH_inv e
  rw [h1]; exact hK


def opsE (P : Program) (call : CallE) (qcall : CallQ) (ops : Array Oper) : List Oper → St → Option St
 | [], s => some s
 | o :: rest, s =>
  match o.guard with
  | none => match resE P call qcall false false o.op s.env s.h s.nid with
   | some (d, h', nid') => opsE P call qcall ops rest (putB ⟨s.env, h', nid', s.n⟩ o.dst d)
   | none => none
  | some (j, want) =>
   match slotOf ops j with
   | some t =>
    match lookB s.env t with
    | .bool b =>
     if b == want then
      match resE P call qcall false false o.op ((t, .bool want) :: s.env) s.h s.nid with
      | some (d, h', nid') => opsE P call qcall ops rest (putB ⟨(t, .bool want) :: s.env, h', nid', s.n⟩ o.dst d)
      | none => none
     else opsE P call qcall ops rest (putB { s with env := (t, .bool !want) :: s.env } o.dst (.tup []))
    | .tup [] => opsE P call qcall ops rest (putB ⟨s.env, s.h, s.nid, s.n⟩ o.dst (.tup []))
    | _ => none
   | none => none

theorem opsE_sound (hc : OkCall P call) (hq : OkQ P qcall) {ops : Array Oper} : ∀ (l : List Oper) (s s' : St) (K : St → Prop), opsE P call qcall ops l s = some s' → K s' → wcOps P oNone ops l s K
 | [], s, s', K, e, hK => by simp only [opsE, Option.some.injEq] at e; subst e; exact hK
 | o :: rest, s, s', K, e, hK => by
  simp only [opsE, lookB_eq, putB_eq] at e
  simp only [wcOps]
  split at e
  ·rename_i hg
   simp only [hg]
   split at e
   ·rename_i d h' nid' h1
    exact resE_sound hc hq (K := fun d h' nid' => wcOps P oNone ops rest (St.put ⟨s.env, h', nid', s.n⟩ o.dst d) K) h1 (opsE_sound hc hq rest _ _ K e hK)
   ·cases e
  ·rename_i j want hg
   split at e
   ·rename_i t hj
    split at e
    ·rename_i b hb
     simp only [hg, hj, hb]
     split at e
     ·rename_i hbw
      refine ⟨fun _ => ?_, fun hf => by rw [hbw] at hf; cases hf⟩
      split at e
      ·rename_i d h' nid' h1
       exact resE_sound hc hq (K := fun d h' nid' => wcOps P oNone ops rest (St.put ⟨(t, .bool want) :: s.env, h', nid', s.n⟩ o.dst d) K) h1 (opsE_sound hc hq rest _ _ K e hK)
      ·cases e
     ·rename_i hbw
      exact ⟨fun ht => absurd ht hbw, fun _ => opsE_sound hc hq rest _ _ K e hK⟩
    ·rename_i hb
     simp only [hg, hj, hb]
     exact opsE_sound hc hq rest _ _ K e hK
    ·cases e
   ·cases e


def phE (P : Program) (call : CallE) (qcall : CallQ) (ops : Array Oper) (fl tr : Bool) : List Oper → St → List Row → List H → Option (St × List Row × List H)
 | [], s, rows, hs => some (s, rows, hs)
 | o :: rest, s, rows, hs =>
  match o.guard with
  | none => match resE P call qcall true fl o.op s.env s.h s.nid with
   | some (d, h', nid') => phE P call qcall ops fl tr rest (putB ⟨s.env, h', nid', s.n⟩ o.dst d) (if tr then ⟨o, s.env, s.h, true, d⟩ :: rows else rows) (if tr then (putB ⟨s.env, h', nid', s.n⟩ o.dst d).h :: hs else hs)
   | none => none
  | some (j, w) =>
   match slotOf ops j with
   | some t =>
    match lookB s.env t with
    | .bool bb =>
     if bb == w then
      match resE P call qcall true fl o.op ((t, .bool w) :: s.env) s.h s.nid with
      | some (d, h', nid') => phE P call qcall ops fl tr rest (putB ⟨(t, .bool w) :: s.env, h', nid', s.n⟩ o.dst d) (if tr then ⟨o, (t, .bool w) :: s.env, s.h, true, d⟩ :: rows else rows)
        (if tr then (putB ⟨(t, .bool w) :: s.env, h', nid', s.n⟩ o.dst d).h :: hs else hs)
      | none => none
     else phE P call qcall ops fl tr rest (putB ⟨(t, .bool !w) :: s.env, s.h, s.nid, s.n⟩ o.dst (.tup [])) (if tr then ⟨o, (t, .bool !w) :: s.env, s.h, false, .tup []⟩ :: rows else rows)
       (if tr then (putB ⟨(t, .bool !w) :: s.env, s.h, s.nid, s.n⟩ o.dst (.tup [])).h :: hs else hs)
    | .tup [] => phE P call qcall ops fl tr rest (putB ⟨s.env, s.h, s.nid, s.n⟩ o.dst (.tup [])) (if tr then ⟨o, s.env, s.h, false, .tup []⟩ :: rows else rows)
       (if tr then (putB ⟨s.env, s.h, s.nid, s.n⟩ o.dst (.tup [])).h :: hs else hs)
    | _ => none
   | none => none

theorem phE_sound (hc : OkCall P call) (hq : OkQ P qcall) {ops : Array Oper} {fl tr : Bool} : ∀ (l : List Oper) (s : St) (rows : List Row) (hs : List H) (s' : St) (rows' : List Row) (hs' : List H) (K : St → List Row → List H → Prop),
  phE P call qcall ops fl tr l s rows hs = some (s', rows', hs') → K s' rows' hs' → phK P oNone ops fl tr l s rows hs K
 | [], s, rows, hs, s', rows', hs', K, e, hK => by simp only [phE, Option.some.injEq, Prod.mk.injEq] at e; obtain ⟨rfl, rfl, rfl⟩ := e; exact hK
 | o :: rest, s, rows, hs, s', rows', hs', K, e, hK => by
  simp only [phE, lookB_eq, putB_eq] at e
  simp only [phK]
  split at e
  ·rename_i hg
   simp only [hg]
   split at e
   ·rename_i d h' nid' h1
    exact resE_sound hc hq (K := fun d h' nid' => F (St.put ⟨s.env, h', nid', s.n⟩ o.dst d) fun s' =>
     phK P oNone ops fl tr rest s' (if tr then ⟨o, s.env, s.h, true, d⟩ :: rows else rows) (if tr then s'.h :: hs else hs) K) h1 (phE_sound hc hq rest _ _ _ _ _ _ K e hK)
   ·cases e
  ·rename_i j want hg
   split at e
   ·rename_i t hj
    split at e
    ·rename_i b hb
     simp only [hg, hj, hb]
     split at e
     ·rename_i hbw
      refine ⟨fun _ => ?_, fun hf => by rw [hbw] at hf; cases hf⟩
      split at e
      ·rename_i d h' nid' h1
       exact resE_sound hc hq (K := fun d h' nid' => F (St.put ⟨(t, .bool want) :: s.env, h', nid', s.n⟩ o.dst d) fun s' =>
        phK P oNone ops fl tr rest s' (if tr then ⟨o, (t, .bool want) :: s.env, s.h, true, d⟩ :: rows else rows) (if tr then s'.h :: hs else hs) K) h1 (phE_sound hc hq rest _ _ _ _ _ _ K e hK)
      ·cases e
     ·rename_i hbw
      exact ⟨fun ht => absurd ht hbw, fun _ => phE_sound hc hq rest _ _ _ _ _ _ K e hK⟩
    ·rename_i hb
     simp only [hg, hj, hb]
     exact phE_sound hc hq rest _ _ _ _ _ _ K e hK
    ·cases e
   ·cases e

def reOkB (P : Program) (fl : Bool) (row : Row) (h : H) : Bool :=
 match dkind fl row.o.op with
 | .quiet => match quietD P row.o.op (evO row.env) h with
  | some d => D.same d row.d
  | none => false
 | .call =>
  match row.o.op with
  | .call c =>
   match calleeD row.env c with
   | some (_, ds) => D.sameL (viewL h ds) (viewL row.h ds)
   | none => false
  | _ => false
 | _ => true

theorem reOkB_sound {fl : Bool} {row : Row} {h : H} (e : reOkB P fl row h = true) : ReOk P fl row h := by
 unfold reOkB at e
 unfold ReOk
 cases hk : dkind fl row.o.op with
 | quiet =>
  simp only [hk] at e ⊢
  split at e
  ·rename_i d hd; rw [hd, D.same_eq e]
  ·cases e
 | call =>
  simp only [hk] at e ⊢
  cases hop : row.o.op with
  | call c =>
   simp only [hop] at e ⊢
   split at e
   ·rename_i f ds hcal; simp only [hcal]; exact D.sameL_eq e
   ·cases e
  | _ => simp [hop] at e
 | eff => simp only []
 | float => simp only []

def reE (P : Program) (fl : Bool) (rows : List Row) (hs : List H) : List (Nat × Nat) → Bool
 | [] => true
 | (x, y) :: r =>
  match rows[x]?, hs[y]? with
  | some row, some h => (!row.run || reOkB P fl row h) && reE P fl rows hs r
  | _, _ => false

theorem reE_sound {fl : Bool} {rows : List Row} {hs : List H} {p : Prop} (hp : p) : ∀ (re : List (Nat × Nat)), reE P fl rows hs re = true → reK P fl rows hs re p
 | [], _ => hp
 | (x, y) :: r, e => by
  simp only [reE] at e
  simp only [reK]
  split at e
  ·rename_i row h h1 h2
   simp only [h1, h2]
   simp only [Bool.and_eq_true, Bool.or_eq_true, Bool.not_eq_true'] at e
   exact ⟨fun hr => reOkB_sound (e.1.elim (fun hf => by rw [hr] at hf; cases hf) id), reE_sound hp r e.2⟩
  ·cases e

def adoptE (P : Program) (fl : Bool) : List Oper → St → Option St
 | [], s => some s
 | o :: r, s =>
  if isF fl o then
   match zeroA P o.op with
   | some zs => adoptE P fl r (putB ⟨s.env, (s.nid, .box zs) :: s.h, s.nid + 1, s.n⟩ o.dst (.ptr s.nid 0))
   | none => none
  else adoptE P fl r s

theorem adoptE_sound {fl : Bool} {K : St → Prop} {s' : St} (hK : K s') : ∀ (l : List Oper) (s : St), adoptE P fl l s = some s' → adoptK P fl l s K
 | [], s, e => by simp only [adoptE, Option.some.injEq] at e; subst e; exact hK
 | o :: r, s, e => by
  simp only [adoptE, putB_eq] at e
  simp only [adoptK]
  split at e
  ·rename_i hf
   rw [if_pos hf]
   split at e
   ·rename_i zs hz; simp only [hz]; exact adoptE_sound hK r _ e
   ·cases e
  ·rename_i hf
   rw [if_neg hf]
   exact adoptE_sound hK r _ e

def anyE (P : Program) (call : CallE) (qcall : CallQ) (ops : Array Oper) : List Ann → List Oper → St → Option St
 | [], _, s => some s
 | (len, fl, tr, re) :: as, l, s =>
  match phE P call qcall ops fl tr (l.take len) s [] (if tr then [s.h] else []) with
  | some (s', rows, hs) =>
   if reE P fl rows hs re then
    match (if fl then adoptE P fl (l.take len) s' else some s') with
    | some s2 => anyE P call qcall ops as (l.drop len) s2
    | none => none
   else none
  | none => none

theorem anyE_sound (hc : OkCall P call) (hq : OkQ P qcall) {ops : Array Oper} {K : St → Prop} {s' : St} (hK : K s') : ∀ (as : List Ann) (l : List Oper) (s : St), anyE P call qcall ops as l s = some s' → anyK P oNone ops as l s K
 | [], l, s, e => by simp only [anyE, Option.some.injEq] at e; subst e; exact hK
 | (len, fl, tr, re) :: as, l, s, e => by
  simp only [anyE] at e
  simp only [anyK]
  split at e
  ·rename_i s1 rows hs h1
   split at e
   ·rename_i hre
    split at e
    ·rename_i s2 h2
     refine phE_sound hc hq _ _ _ _ _ _ _ _ h1 (reE_sound ?_ re hre)
     have h3 := anyE_sound hc hq hK as (l.drop len) s2 e
     cases fl with
     | true =>
      simp only [if_true] at h2
      exact adoptE_sound h3 _ _ h2
     | false =>
      simp only [Bool.false_eq_true, if_false, Option.some.injEq] at h2
      subst h2
      rw [adopt_false]; exact h3
    ·cases e
   ·cases e
  ·cases e


theorem At.ext {X : Nat → Prop} {k0 k : Cx} {a : Act} {e e' : Env} {h : H} {nid n : Nat} (he : ∀ i, look e' i = look e i) (hat : At X k0 k a ⟨e, h, nid, n⟩) : At X k0 k a ⟨e', h, nid, n⟩ :=
 ⟨hat.h, hat.nid, hat.good, hat.le, hat.act.size, fun i => by rw [he]; exact hat.act.rel i, hat.act.marks⟩

theorem awp_loopE {ι : Type} {c : Code} {s : St} {Q : Ex → St → Prop} (σ : ι → St) (μ : ι → Nat) (i0 : ι) (hs : s = σ i0)
  (round : ∀ i, AWp P n0 ro c (σ i) (thenQ (fun s' => ∃ j, μ j < μ i ∧ s' = σ j) Q)) : AWp P n0 ro (.loop c) s Q := by
 subst hs
 intro X k0 k a hn hat
 intro b kk cs hro hb hr
 have key : ∀ n (i : ι) (k : Cx) (a : Act), μ i = n → At X k0 k a (σ i) →
   ∃ e a' w', Post X k0 Q e a' w' ∧ ArrivesIn (Machine.fenced P (FW ro)) P (lone (b.atR a (.code c :: .inLoop c :: kk)) cs k.w) b kk cs e a' w' := by
  intro n
  induction n using Nat.strongRecOn with
  | _ n ih =>
   intro i k a hμ hat
   obtain ⟨e, a₁, w₁, ⟨x, k1, s1, hx, hw1, hq, hat1⟩, harr⟩ := round i X k0 k a hn hat b (.inLoop c :: kk) cs hro hb hr
   subst hw1
   cases e with
   | normal =>
    simp only [exOf, Option.some.injEq] at hx
    subst hx
    obtain ⟨j, hlt, rfl⟩ := hq
    obtain ⟨e₂, a₂, w₂, hq₂, harr₂⟩ := ih (μ j) (hμ ▸ hlt) j k1 a₁ rfl hat1
    exact ⟨e₂, a₂, w₂, hq₂, .of_steps (StepsIn.trans harr (.one (fenced_calm (fr := b.atR a₁ (.inLoop c :: kk)) hb hr rfl) stepR_inLoop)) harr₂⟩
   | exit id =>
    simp only [exOf, Option.some.injEq] at hx
    subst hx
    exact ⟨_, a₁, k1.w, ⟨_, k1, s1, rfl, rfl, hq, hat1⟩, .pass (x := .inLoop c) rfl (fun _ _ => .inl (by simp)) harr⟩
   | ret =>
    simp only [exOf, Option.some.injEq] at hx
    subst hx
    exact ⟨_, a₁, k1.w, ⟨_, k1, s1, rfl, rfl, hq, hat1⟩, .pass (x := .inLoop c) rfl (fun _ _ => .inl (by simp)) harr⟩
   | _ => simp [exOf] at hx
 obtain ⟨e, a', w', h1, h2⟩ := key (μ i0) i0 k a rfl hat
 exact ⟨e, a', w', h1, .of_steps (.one (fenced_calm hb hr rfl) stepR_loop) h2⟩

def sqS (m : Nat) (s : St) : St := ⟨squash (s.env.length - m) s.env, s.h, s.nid, s.n⟩

def iter (f : St → Option (Ex × St)) : Nat → St → Option (Ex × St)
 | 0, _ => none
 | n + 1, s =>
  match f s with
  | some (.normal, s') => iter f n (sqS s.env.length s')
  | r => r

def seqE (f : St → Option (Ex × St)) : Option (Ex × St) → Option (Ex × St)
 | some (.normal, s) => f s
 | r => r

def inBlk (id : Nat) : Option (Ex × St) → Option (Ex × St)
 | some (.exit i, s) => if i = id then some (.normal, s) else some (.exit i, s)
 | r => r

def norm (m : Nat) : Option St → Option (Ex × St)
 | some s => some (.normal, s)
 | none => none

def evC (P : Program) (T : List (Nat × List Ann)) (call : CallE) (qcall : CallQ) (fuel : Nat) : Code → St → Option (Ex × St)
 | .skip, s => some (.normal, s)
 | .label _, s => some (.normal, s)
 | .exit id, s => some (.exit id, s)
 | .ret, s => some (.ret, s)
 | .seq a b, s => seqE (fun s => evC P T call qcall fuel b s) (evC P T call qcall fuel a s)
 | .cond c a b, s =>
  match evO s.env c with
  | .bool true => evC P T call qcall fuel a s
  | .bool false => evC P T call qcall fuel b s
  | _ => none
 | .block id c, s => inBlk id (evC P T call qcall fuel c s)
 | .scope c, s => evC P T call qcall fuel c s
 | .region _ ops false, s => norm s.env.length (opsE P call qcall ops ops.toList s)
 | .region id ops true, s =>
  match annOf T id with
  | some as => norm s.env.length (anyE P call qcall ops as ops.toList s)
  | none => none
 | .loop c, s => iter (fun s => evC P T call qcall fuel c s) fuel s
 | _, _ => none


def tabAll (T : List (Nat × List Ann)) : Code → Bool
 | .seq a b => tabAll T a && tabAll T b
 | .cond _ a b => tabAll T a && tabAll T b
 | .block _ c => tabAll T c
 | .scope c => tabAll T c
 | .loop c => tabAll T c
 | .region id ops true => match annOf T id with
  | some as => annOk ops as
  | none => false
 | _ => true

theorem norm_inv {m : Nat} {o : Option St} {e : Ex} {s' : St} (h : norm m o = some (e, s')) : ∃ s, o = some s ∧ e = .normal ∧ s' = s := by
 cases o with
 | none => simp [norm] at h
 | some s => simp only [norm, Option.some.injEq, Prod.mk.injEq] at h; exact ⟨s, rfl, h.1.symm, h.2.symm⟩

theorem awp_sq {c : Code} {s s1 : St} {m : Nat} {Q : Ex → St → Prop} (h : AWp P n0 ro c s fun e s2 => e = .normal ∧ s2 = s1) (hq : Q .normal (sqS m s1)) : AWp P n0 ro c s Q := by
 intro X k0 k a hn hat
 refine wpIn_mono (h X k0 k a hn hat) ?_
 rintro e a w ⟨x, k, s2, h1, h2, ⟨rfl, rfl⟩, h4⟩
 exact ⟨.normal, k, _, h1, h2, hq, At.ext (fun i => look_squash _ s2.env i) h4⟩

theorem evC_sound (hm : P.follows .mixedOrders = true) (hc : OkCall P call) (hq : OkQ P qcall) {T : List (Nat × List Ann)} {fuel : Nat} : ∀ (c : Code) (s : St) (e : Ex) (s' : St) (Q : Ex → St → Prop), tabAll T c = true →
  evC P T call qcall fuel c s = some (e, s') → Q e s' → AWp P n0 ro c s Q
 | .skip, s, e, s', Q, _, h, hQ => by simp only [evC, Option.some.injEq, Prod.mk.injEq] at h; obtain ⟨rfl, rfl⟩ := h; exact awp_skip hQ
 | .label _, s, e, s', Q, _, h, hQ => by simp only [evC, Option.some.injEq, Prod.mk.injEq] at h; obtain ⟨rfl, rfl⟩ := h; exact awp_label hQ
 | .exit _, s, e, s', Q, _, h, hQ => by simp only [evC, Option.some.injEq, Prod.mk.injEq] at h; obtain ⟨rfl, rfl⟩ := h; exact awp_exit hQ
 | .ret, s, e, s', Q, _, h, hQ => by simp only [evC, Option.some.injEq, Prod.mk.injEq] at h; obtain ⟨rfl, rfl⟩ := h; exact awp_ret hQ
 | .seq a b, s, e, s', Q, ht, h, hQ => by
  simp only [tabAll, Bool.and_eq_true] at ht
  simp only [evC] at h
  cases ha : evC P T call qcall fuel a s with
  | none => rw [ha] at h; simp [seqE] at h
  | some p =>
   obtain ⟨e1, s1⟩ := p
   rw [ha] at h
   refine awp_seq (evC_sound hm hc hq a s e1 s1 _ ht.1 ha ?_)
   cases e1 with
   | normal => exact evC_sound hm hc hq b s1 e s' Q ht.2 h hQ
   | exit i => simp only [seqE, Option.some.injEq, Prod.mk.injEq] at h; obtain ⟨rfl, rfl⟩ := h; exact hQ
   | ret => simp only [seqE, Option.some.injEq, Prod.mk.injEq] at h; obtain ⟨rfl, rfl⟩ := h; exact hQ
 | .cond c a b, s, e, s', Q, ht, h, hQ => by
  simp only [tabAll, Bool.and_eq_true] at ht
  simp only [evC] at h
  split at h
  ·rename_i hb
   exact awp_cond hb (fun _ => evC_sound hm hc hq a s e s' Q ht.1 h hQ) (fun hf => by cases hf)
  ·rename_i hb
   exact awp_cond hb (fun hf => by cases hf) (fun _ => evC_sound hm hc hq b s e s' Q ht.2 h hQ)
  ·cases h
 | .block id c, s, e, s', Q, ht, h, hQ => by
  simp only [tabAll] at ht
  simp only [evC] at h
  cases ha : evC P T call qcall fuel c s with
  | none => rw [ha] at h; simp [inBlk] at h
  | some p =>
   obtain ⟨e1, s1⟩ := p
   rw [ha] at h
   refine awp_block (evC_sound hm hc hq c s e1 s1 _ ht ha ?_)
   cases e1 with
   | normal => simp only [inBlk, Option.some.injEq, Prod.mk.injEq] at h; obtain ⟨rfl, rfl⟩ := h; exact hQ
   | ret => simp only [inBlk, Option.some.injEq, Prod.mk.injEq] at h; obtain ⟨rfl, rfl⟩ := h; exact hQ
   | exit i =>
    simp only [inBlk] at h
    simp only [blockQ]
    split at h
    ·rename_i hi; simp only [Option.some.injEq, Prod.mk.injEq] at h; obtain ⟨rfl, rfl⟩ := h; rw [if_pos hi]; exact hQ
    ·rename_i hi; simp only [Option.some.injEq, Prod.mk.injEq] at h; obtain ⟨rfl, rfl⟩ := h; rw [if_neg hi]; exact hQ
 | .region id ops false, s, e, s', Q, _, h, hQ => by
  simp only [evC] at h
  obtain ⟨s1, h1, rfl, rfl⟩ := norm_inv h
  refine awp_mono (awp_region (Q := fun e s2 => e = .normal ∧ s2 = s') ?_) (by rintro _ _ ⟨rfl, rfl⟩; exact hQ)
  have := wcOps_aops oNone_ok (n0 := n0) (ro := ro) ops.toList 0 s _ (fun j => by simp) (opsE_sound hc hq _ _ _ (fun s2 => Ex.normal = .normal ∧ s2 = s') h1 ⟨rfl, rfl⟩)
  simpa using this
 | .region id ops true, s, e, s', Q, ht, h, hQ => by
  simp only [evC] at h
  simp only [tabAll] at ht
  split at h
  ·rename_i as ha
   rw [ha] at ht
   obtain ⟨s1, h1, rfl, rfl⟩ := norm_inv h
   exact awp_mono (awp_draw (Q := fun e s2 => e = .normal ∧ s2 = s') oNone_ok hm ht (anyE_sound hc hq (K := fun s2 => Ex.normal = .normal ∧ s2 = s') ⟨rfl, rfl⟩ _ _ _ h1)) (by rintro _ _ ⟨rfl, rfl⟩; exact hQ)
  ·cases h
 | .loop c, s, e, s', Q, ht, h, hQ => by
  simp only [tabAll] at ht
  simp only [evC] at h
  refine awp_loopE (ι := { p : Nat × St // iter (fun s => evC P T call qcall fuel c s) p.1 p.2 = some (e, s') }) (fun p => p.1.2) (fun p => p.1.1) ⟨(fuel, s), h⟩ rfl ?_
  rintro ⟨⟨n, s0⟩, hn⟩
  cases n with
  | zero => simp [iter] at hn
  | succ n =>
   simp only [iter] at hn
   cases ha : evC P T call qcall fuel c s0 with
   | none => rw [ha] at hn; simp at hn
   | some p =>
    obtain ⟨e1, s1⟩ := p
    rw [ha] at hn
    cases e1 with
    | normal => exact awp_sq (m := s0.env.length) (evC_sound hm hc hq c s0 .normal s1 _ ht ha ⟨rfl, rfl⟩) ⟨⟨(n, sqS s0.env.length s1), hn⟩, Nat.lt_succ_self n, rfl⟩
    | exit i =>
     refine evC_sound hm hc hq c s0 _ s1 _ ht ha ?_
     simp only [Option.some.injEq, Prod.mk.injEq] at hn; obtain ⟨rfl, rfl⟩ := hn; exact hQ
    | ret =>
     refine evC_sound hm hc hq c s0 _ s1 _ ht ha ?_
     simp only [Option.some.injEq, Prod.mk.injEq] at hn; obtain ⟨rfl, rfl⟩ := hn; exact hQ
 | .rangeFunc f p a b, s, e, s', Q, _, h, hQ => by simp [evC] at h
 | .scope c, s, e, s', Q, ht, h, hQ => by
  simp only [tabAll] at ht
  simp only [evC] at h
  exact awp_scope (evC_sound hm hc hq c s e s' Q ht h hQ)
 | .goto l, s, e, s', Q, _, h, hQ => by simp [evC] at h
 | .refuse w, s, e, s', Q, _, h, hQ => by simp [evC] at h


def keepH (n : Nat) (h : H) : H := h.filter fun p => Nat.blt p.1 n
def okKeep (n : Nat) (h : H) : Bool := h.all fun p => blkLt n p.2

theorem hget_keep (n : Nat) (h : H) (i : Nat) {b : Blk} (hb : hget (keepH n h) i = some b) : hget h i = some b ∧ i < n := by
 induction h with
 | nil => simp [keepH, hget] at hb
 | cons p r ih =>
  obtain ⟨j, c⟩ := p
  simp only [keepH, List.filter_cons] at hb
  simp only [hget]
  by_cases hj : j < n
  ·rw [if_pos (by simpa using hj)] at hb
   simp only [hget] at hb
   by_cases hi : i = j
   ·rw [if_pos hi] at hb; rw [if_pos hi]; exact ⟨hb, by omega⟩
   ·rw [if_neg hi] at hb; rw [if_neg hi]; exact ih hb
  ·rw [if_neg (by simpa using hj)] at hb
   have h2 := ih hb
   by_cases hi : i = j
   ·omega
   ·rw [if_neg hi]; exact h2

theorem okKeep_get {n : Nat} {h : H} (ho : okKeep n h = true) {i : Nat} {blk : Blk} (hb : hget h i = some blk) : blkLt n blk = true := by
 induction h with
 | nil => simp [hget] at hb
 | cons p r ih =>
  obtain ⟨j, c⟩ := p
  simp only [okKeep, List.all_cons, Bool.and_eq_true] at ho
  simp only [hget] at hb
  split at hb
  ·cases hb; exact ho.1
  ·exact ih ho.2 hb

def gcE (nid : Nat) : Option (D × H × Nat) → Option (D × H × Nat)
 | some (d, h, nid') =>
  if d.lt nid && okKeep nid (keepH nid h) && Nat.ble nid nid' then some (d, keepH nid h, nid) else some (d, h, nid')
 | none => none

theorem acall_gc {f : FuncId} {ds : List D} {h : H} {nid : Nat} {d : D} {h' : H} {nid' : Nat} {o : Option (D × H × Nat)} (ho : gcE nid o = some (d, h', nid'))
  (ha : ∀ d h' nid', o = some (d, h', nid') → ACall P f ds h nid fun r h2 n2 => r = d ∧ h2 = h' ∧ n2 = nid') : ACall P f ds h nid fun r h2 n2 => r = d ∧ h2 = h' ∧ n2 = nid' := by
 cases o with
 | none => simp [gcE] at ho
 | some p =>
  obtain ⟨d1, h1, n1⟩ := p
  have h0 := ha d1 h1 n1 rfl
  simp only [gcE] at ho
  split at ho
  ·rename_i hc
   simp only [Bool.and_eq_true] at hc
   simp only [Option.some.injEq, Prod.mk.injEq] at ho
   obtain ⟨rfl, rfl, rfl⟩ := ho
   refine ⟨h0.1, fun X k vs hh hn hg hr => (h0.2 X k vs hh hn hg hr).mono ?_⟩
   rintro e w' ⟨v, k', r, rfl, rfl, ⟨rfl, h3, h4⟩, hg', hle, hr'⟩
   subst h3; subst h4
   have hsub : ∀ id blk, hget (keepH nid k'.h) id = some blk → hget k'.h id = some blk := fun id blk hb => (hget_keep _ _ _ hb).1
   refine ⟨v, { k' with h := keepH nid k'.h, nid := nid }, r, rfl, rfl, ⟨rfl, rfl, rfl⟩, hg'.drop hsub (fun id blk hb => (hget_keep _ _ _ hb).2) (fun _ id blk hb => okKeep_get hc.1.2 hb), hle.drop (by omega) hsub, hr'.drop hsub (.inr hc.1.1)⟩
  ·simp only [Option.some.injEq, Prod.mk.injEq] at ho
   obtain ⟨rfl, rfl, rfl⟩ := ho
   exact h0

theorem pure_of_acall {f : FuncId} {ds : List D} {d : D} {h' : H} {nid' : Nat} (h1 : ACall P f ds [] 0 fun r h2 n2 => r = d ∧ h2 = h' ∧ n2 = nid') : Pure P f ds (view h' d) := by
 refine ⟨h1.1, fun X k vs hh hn hg hrel => (h1.2 X k vs hh hn hg hrel).mono ?_⟩
 rintro e w' ⟨v, k', r', rfl, rfl, ⟨rfl, h3, _⟩, hg', hle, hr'⟩
 subst h3
 refine ⟨v, k'.sub, _, rfl, rfl, rfl, good_sub hg'.xlt, ?_, hr'.view hg'⟩
 exact hle.drop (by omega) (fun id blk h => by simp [hget] at h)

mutual
def D.data : D → Bool
 | .ptr _ _ | .eptr _ _ _ _ _ | .mp _ | .bsl _ _ _ _ | .any | .raw _ | .fn _ _ _ => false
 | .agg cs => D.dataL cs
 | .tup cs => D.dataL cs
 | .ifc _ d => D.data d
 | _ => true
def D.dataL : List D → Bool
 | [] => true
 | d :: ds => D.data d && D.dataL ds
end


def viewE (h : H) (nid : Nat) (full : Unit → Option (D × H × Nat)) : Option (D × H × Nat) → Option (D × H × Nat)
 | some (d, h', _) => if d.data && (view h' d).lt 0 then some (view h' d, h, nid) else full ()
 | none => none

def callOf (C : CallE) (O : Oracle) (ev : CallE) : CallE := fun f ds h nid =>
 match C f ds h nid with
 | some x => some x
 | none =>
 match O f ds with
 | some r => if D.ltL 0 ds && r.lt 0 then some (r, h, nid) else none
 | none =>
  if D.ltL 0 ds then viewE h nid (fun _ => gcE nid (ev f ds h nid)) (ev f ds [] 0)
  else gcE nid (ev f ds h nid)

def flatE (h : H) : Option (D × H × Nat) → Option D
 | some (d, h', _) => if (view h' d).flat then some (view h' d) else none
 | none => none
def lowE : Option (D × H × Nat) → Option D
 | some (d, h', _) => if d.data && (view h' d).lt 0 then some (view h' d) else none
 | none => none

def qOf (O : Oracle) (ev : CallE) : CallQ := fun f ds h =>
 match O f ds with
 | some r => if D.ltL 0 ds && r.lt 0 then some r else none
 | none => if D.ltL 0 ds then lowE (ev f ds [] 0) else flatE h (ev f (viewL h ds) [] 0)


theorem callOf_sound {C : CallE} {O : Oracle} {ev : CallE} (hC : OkCall P C) (hO : OkO P O) (hev : OkCall P ev) : OkCall P (callOf C O ev) := by
 intro f ds h nid d h' nid' e
 unfold callOf at e
 split at e
 ·rename_i x hx
  cases e
  exact hC _ _ _ _ _ _ _ hx
 split at e
 ·rename_i r hr
  split at e
  ·rename_i hc
   simp only [Bool.and_eq_true] at hc
   simp only [Option.some.injEq, Prod.mk.injEq] at e
   obtain ⟨rfl, rfl, rfl⟩ := e
   exact call_pure (hO f ds _ hr) rfl hc.1 hc.2 ⟨rfl, rfl, rfl⟩
  ·cases e
 ·split at e
  ·rename_i hl
   cases hx : ev f ds [] 0 with
   | none => rw [hx] at e; simp [viewE] at e
   | some p =>
    obtain ⟨d1, h1, n1⟩ := p
    rw [hx] at e
    simp only [viewE] at e
    split at e
    ·rename_i hc
     simp only [Bool.and_eq_true] at hc
     simp only [Option.some.injEq, Prod.mk.injEq] at e
     obtain ⟨rfl, rfl, rfl⟩ := e
     exact call_pure (pure_of_acall (hev _ _ _ _ _ _ _ hx)) rfl hl hc.2 ⟨rfl, rfl, rfl⟩
    ·exact acall_gc e fun _ _ _ hy => hev _ _ _ _ _ _ _ hy
  ·exact acall_gc e fun _ _ _ hy => hev _ _ _ _ _ _ _ hy

theorem qOf_sound {O : Oracle} {ev : CallE} (hO : OkO P O) (hev : OkCall P ev) : OkQ P (qOf O ev) := by
 intro f ds h d e
 unfold qOf at e
 split at e
 ·rename_i r hr
  split at e
  ·rename_i hc
   simp only [Bool.and_eq_true] at hc
   cases e
   exact .inr (.inl ⟨hc.1, hc.2, hO f ds _ hr⟩)
  ·cases e
 ·split at e
  ·rename_i hl
   cases hx : ev f ds [] 0 with
   | none => rw [hx] at e; simp [lowE] at e
   | some p =>
    obtain ⟨d1, h1, n1⟩ := p
    rw [hx] at e
    simp only [lowE] at e
    split at e
    ·rename_i hc
     simp only [Bool.and_eq_true] at hc
     cases e
     exact .inr (.inl ⟨hl, hc.2, pure_of_acall (hev _ _ _ _ _ _ _ hx)⟩)
    ·cases e
  ·cases hx : ev f (viewL h ds) [] 0 with
   | none => rw [hx] at e; simp [flatE] at e
   | some p =>
    obtain ⟨d1, h1, n1⟩ := p
    rw [hx] at e
    simp only [flatE] at e
    split at e
    ·rename_i hc
     cases e
     exact .inl ⟨hc, pure_of_acall (hev _ _ _ _ _ _ _ hx)⟩
    ·cases e

def finE (P : Program) (rs : List ResultVar) : Option (Ex × St) → Option (D × H × Nat)
 | some (.normal, s) => match resD P s rs with
  | some ds => some (tupD ds, s.h, s.nid)
  | none => none
 | some (.ret, s) => match resD P s rs with
  | some ds => some (tupD ds, s.h, s.nid)
  | none => none
 | _ => none

def evF (P : Program) (T : List (Nat × List (Nat × List Ann))) (C : CallE) (O : Oracle) (fuel : Nat) : Nat → CallE
 | 0, _, _, _, _ => none
 | n + 1, f, ds, h, nid =>
  match T.lookup f, P.funcs[f]? with
  | some t, some fn =>
   match fn.body with
   | some c => finE P fn.results.toList (evC P t (callOf C O (evF P T C O fuel n)) (qOf O (evF P T C O fuel n)) fuel c ⟨argEnv 0 ds, h, nid, ds.length + (fn.ntmps - ds.length)⟩)
   | none => none
  | _, _ => none

def bodyOk (P : Program) (f : FuncId) (t : List (Nat × List Ann)) : Bool :=
 callable P f && (match P.funcs[f]? with
 | some fn => match fn.body with
  | some c => tabAll t c
  | none => true
 | none => true)

theorem lookup_mem {α : Type} {l : List (Nat × α)} {k : Nat} {v : α} (h : l.lookup k = some v) : (k, v) ∈ l := by
 induction l with
 | nil => simp [List.lookup] at h
 | cons p r ih =>
  obtain ⟨i, x⟩ := p
  simp only [List.lookup] at h
  split at h
  ·rename_i hk
   have : k = i := by simpa using hk
   cases h; subst this; simp
  ·exact List.mem_cons_of_mem _ (ih h)

theorem evF_sound {T : List (Nat × List (Nat × List Ann))} {C : CallE} {O : Oracle} {fuel : Nat} (hm : P.follows .mixedOrders = true) (hT : (T.all fun p => bodyOk P p.1 p.2) = true) (hC : OkCall P C) (hO : OkO P O) : ∀ n, OkCall P (evF P T C O fuel n)
 | 0 => fun f ds h nid d h' nid' e => by simp [evF] at e
 | n + 1 => fun f ds h nid d h' nid' e => by
  have ih := evF_sound (fuel := fuel) hm hT hC hO n
  simp only [evF] at e
  split at e
  ·rename_i t fn ht hf
   split at e
   ·rename_i c hb
    have hok := List.all_eq_true.1 hT _ (lookup_mem ht)
    simp only [bodyOk, hf, hb, Bool.and_eq_true] at hok
    refine acall_of_awp hf hb hok.1 ?_
    generalize hx : evC P t (callOf C O (evF P T C O fuel n)) (qOf O (evF P T C O fuel n)) fuel c ⟨argEnv 0 ds, h, nid, ds.length + (fn.ntmps - ds.length)⟩ = x at e
    cases x with
    | none => simp [finE] at e
    | some p =>
     obtain ⟨ex, s⟩ := p
     refine evC_sound hm (callOf_sound hC hO ih) (qOf_sound hO ih) c _ ex s _ hok.2 hx ?_
     cases ex with
     | exit i => simp [finE] at e
     | _ =>
      simp only [finE] at e
      split at e
      ·rename_i rs hrs
       simp only [Option.some.injEq, Prod.mk.injEq] at e
       obtain ⟨rfl, rfl, rfl⟩ := e
       exact ⟨rs, hrs, rfl, rfl, rfl⟩
      ·cases e
   ·cases e
  ·cases e

theorem pure_of_ev {T : List (Nat × List (Nat × List Ann))} {C : CallE} {O : Oracle} {fuel n : Nat} {f : FuncId} {ds : List D} {r : D} (hm : P.follows .mixedOrders = true) (hT : (T.all fun p => bodyOk P p.1 p.2) = true) (hC : OkCall P C) (hO : OkO P O)
  (h : lowE (evF P T C O fuel n f ds [] 0) = some r) : Pure P f ds r := by
 cases hx : evF P T C O fuel n f ds [] 0 with
 | none => rw [hx] at h; simp [lowE] at h
 | some p =>
  obtain ⟨d1, h1, n1⟩ := p
  rw [hx] at h
  simp only [lowE] at h
  split at h
  ·cases h; exact pure_of_acall (evF_sound hm hT hC hO n _ _ _ _ _ _ _ hx)
  ·cases h

end
end Go.Sx

/- Sx, part Y: nil slices that will be appended to; more rules for data. Own work. -/
namespace Go.Sx

section
variable {P : Program} {n0 : Nat} {ro : Option Nat}

theorem rel_nil {X : Nat → Prop} {k : Cx} (hg : Good X k) (ty : TypeId) (sz : Nat) : Rel ((k.nilArr ty sz).R X) (k.nid + 1) (.slice none 0 0) (.osl k.nid 0) :=
 .osl _ _ _ _ (by omega) fun m hm => by
  have hm' : lnOf (hget ((k.nid, .arr ty sz []) :: k.h) k.nid) = some m := hm
  simp [hget, lnOf] at hm'
  subst hm'
  exact ⟨Nat.le_refl _, fun _ => by simp [Cx.R, Cx.nilArr]⟩

theorem at_nilB {X : Nat → Prop} {k0 k : Cx} {a : Act} {env : Env} {h : H} {nid n : Nat} (b j : Nat) (cs : List D) (ty : TypeId) (sz : Nat) (hb : hget h b = some (.box cs)) (hl : cs[j]? = some .nils) (hat : At X k0 k a ⟨env, h, nid, n⟩) :
  ∃ k', k'.w = k.w ∧ At X k0 k' a ⟨env, hset ((nid, .arr ty sz []) :: h) b (.box (cs.set j (.osl nid 0))), nid + 1, n⟩ := by
 have hle := nilArr_le hat.good ty sz
 have hg1 := nilArr_good hat.good ty sz
 have hk : k.nid = nid := hat.nid
 have hh : k.h = h := hat.h
 subst hh; subst hk
 have hbn : b < k.nid := hat.good.key b _ hb
 have hb1 : hget (k.nilArr ty sz).h b = some (.box cs) := by simp only [Cx.nilArr, hget]; rw [if_neg (by omega)]; exact hb
 obtain ⟨vs, ty', a1, a2⟩ := hat.good.ok b _ hb
 have hup := hg1.upd (blk := .box (cs.set j (.osl k.nid 0))) (w' := k.w) (v' := (k.nilArr ty sz).sv b) hb1 rfl rfl rfl (Nat.le_refl _) (fun _ _ _ => rfl)
  (fun c hc => by
   rw [own_of_hget (blk := some (.box (cs.set j (.osl k.nid 0)))) (by simp [Cx.upd, hget_hset])] at hc
   rw [own_of_hget (blk := some (.box cs)) hb1]
   exact .inl hc) (fun m' hm' => by simp [lnOf] at hm')
  (fun hle2 => by
   refine ⟨vs, ty', a1, ?_⟩
   have h3 := (a2.le hle).le hle2
   refine ⟨by rw [List.length_set]; exact h3.1, fun i v d hv hd => ?_⟩
   rw [List.getElem?_set] at hd
   by_cases hij : j = i
   ·subst hij
    rw [if_pos rfl, if_pos (lt_of_getElem? hl)] at hd
    cases hd
    have hr := a2.2 j v .nils hv hl
    cases hr
    exact (rel_nil hat.good ty sz).le hle2
   ·rw [if_neg hij] at hd
    exact h3.2 i v d hv hd)
 refine ⟨(k.nilArr ty sz).upd b (.box (cs.set j (.osl k.nid 0))) k.w ((k.nilArr ty sz).sv b), rfl, rfl, rfl, hup.1, (hat.le.trans hle).trans hup.2, ?_⟩
 exact (hat.act.le hat.good hle).le hg1 hup.2

theorem loopNilB {c : Code} {env : Env} {h : H} {nid n : Nat} {Q : Ex → St → Prop} {u : Tag (c, Q)} (b j : Nat) (cs : List D) (ty : TypeId) (sz : Nat) (hb : hget h b = some (.box cs)) (hl : cs[j]? = some .nils)
  (hw : LoopV P n0 ro c ⟨env, hset ((nid, .arr ty sz []) :: h) b (.box (cs.set j (.osl nid 0))), nid + 1, n⟩ Q u) : LoopV P n0 ro c ⟨env, h, nid, n⟩ Q u := by
 intro X k0 k a hn hat
 obtain ⟨k', h1, h2⟩ := at_nilB b j cs ty sz hb hl hat
 rw [← h1]
 exact hw X k0 k' a hn h2

theorem oNone_eq (f : FuncId) (ds : List D) : oNone f ds = none := (rfl)
def mkO : List (FuncId × (List D → Option D)) → Oracle
 | [], _, _ => none
 | (i, g) :: r, f, ds => if f = i then g ds else mkO r f ds
theorem mkO_nil (f : FuncId) (ds : List D) : mkO [] f ds = none := (rfl)
theorem mkO_cons (i : FuncId) (g : List D → Option D) (r : List (FuncId × (List D → Option D))) (f : FuncId) (ds : List D) : mkO ((i, g) :: r) f ds = if f = i then g ds else mkO r f ds := (rfl)
theorem mkO_ok_nil : OkO P (mkO []) := fun _ _ _ h => by cases h
theorem mkO_ok {i : FuncId} {g : List D → Option D} {r : List (FuncId × (List D → Option D))} (hg : ∀ ds d, g ds = some d → Pure P i ds d) (hr : OkO P (mkO r)) : OkO P (mkO ((i, g) :: r)) := fun f ds d h => by
 simp only [mkO] at h
 split at h
 ·rename_i he; subst he; exact hg ds d h
 ·exact hr f ds d h
theorem flat_int (k : IntKind) (n : Int) : D.flat (.int k n) = true := (rfl)
theorem flat_bool (b : Bool) : D.flat (.bool b) = true := (rfl)
theorem flat_str (b : ByteArray) : D.flat (.str b) = true := (rfl)
theorem flat_agg (cs : List D) : D.flat (.agg cs) = D.flatL cs := (rfl)
theorem flat_tup (cs : List D) : D.flat (.tup cs) = D.flatL cs := (rfl)
theorem flatL_nil : D.flatL [] = true := (rfl)
theorem flatL_cons (d : D) (ds : List D) : D.flatL (d :: ds) = (D.flat d && D.flatL ds) := (rfl)
def viewB (o : Nat) : Option Blk → D
 | some (.box cs) => if D.ltL 0 cs then .ref cs o else .any
 | _ => .any
theorem view_ptr (h : H) (b o : Nat) : view h (.ptr b o) = viewB o (hget h b) := by
 simp only [view, viewB]; cases hget h b with
 | none => rfl
 | some x => cases x <;> rfl
theorem viewB_box (o : Nat) (cs : List D) (hl : D.ltL 0 cs = true) : viewB o (some (.box cs)) = .ref cs o := by simp [viewB, hl]
def viewA (n : Nat) : Option Blk → D
 | some (.arr _ _ es) => if n = es.length then .sl es else .any
 | _ => .any
theorem view_osl (h : H) (b n : Nat) : view h (.osl b n) = viewA n (hget h b) := by
 simp only [view, viewA]; cases hget h b with
 | none => rfl
 | some x => cases x <;> rfl
theorem viewA_arr (n : Nat) (t : TypeId) (sz : Nat) (es : List (List D)) (hn : n = es.length) : viewA n (some (.arr t sz es)) = .sl es := by simp [viewA, hn]
theorem view_fn (h : H) (f : Fn) (a c : List D) : view h (.fn f a c) = .fn f (viewL h a) (viewL h c) := (rfl)
theorem ltL_nil (m : Nat) : D.ltL m [] = true := (rfl)
theorem ltL_cons (m : Nat) (d : D) (ds : List D) : D.ltL m (d :: ds) = (D.lt m d && D.ltL m ds) := (rfl)
theorem lt_int (m : Nat) (k : IntKind) (n : Int) : D.lt m (.int k n) = true := (rfl)
theorem lt_bool (m : Nat) (b : Bool) : D.lt m (.bool b) = true := (rfl)
theorem lt_str (m : Nat) (b : ByteArray) : D.lt m (.str b) = true := (rfl)
theorem lt_sl (m : Nat) (es : List (List D)) : D.lt m (.sl es) = true := (rfl)
theorem lt_nils (m : Nat) : D.lt m .nils = true := (rfl)
theorem lt_agg (m : Nat) (cs : List D) : D.lt m (.agg cs) = D.ltL m cs := (rfl)
theorem lt_tup (m : Nat) (cs : List D) : D.lt m (.tup cs) = D.ltL m cs := (rfl)
theorem lt_ref (m : Nat) (cs : List D) (o : Nat) : D.lt m (.ref cs o) = true := (rfl)
theorem len_str {t : TypeId} (hu : P.underlying t = some .string) (h : H) (b : ByteArray) : lenOpD P h t (.str b) = some (.int .i64 b.size) := by simp [lenOpD, hu]
theorem a_quo' {k : IntKind} {x y : Int} (h : y ≠ 0) : arith .quo k x y = some (.int k (k.wrap (x.tdiv y))) := by simp [arith, h]
theorem a_rem' {k : IntKind} {x y : Int} (h : y ≠ 0) : arith .rem k x y = some (.int k (x.tmod y)) := by simp [arith, h]
theorem litOp_of (h : H) (nid : Nat) (t : TypeId) (len : Nat) (parts : List (Nat × D)) {e : TypeId} {sz : Nat} {es : List (List D)} (hl : litSl P h t len parts = some (e, sz, es)) (hp : es.all (D.ltL 0) = true) :
  litOpD P h nid t len parts = some (.osl nid len, (nid, .arr e sz es) :: h, nid + 1) := by
 simp only [litOpD, hl, hp, if_true]

theorem lit_one {t e : TypeId} (hu : P.underlying t = some (.slice e)) (hs : sizeT P e = some 1) {z : D} (hz : zeroD P e = some [z]) (h : H) (nid : Nat) (d : D) (hd : cellsE h d = some [d]) (hl : D.lt 0 d = true) :
  litOpD P h nid t 1 [(0, d)] = some (.osl nid 1, (nid, .arr e 1 [[d]]) :: h, nid + 1) := by
 refine litOp_of h nid t 1 _ ?_ (by simp [D.ltL, hl])
 simp [litSl, hu, hs, hz, fillD, hd, repL, putL, chunk]

theorem lit_int {t e : TypeId} (hu : P.underlying t = some (.slice e)) (hs : sizeT P e = some 1) {z : D} (hz : zeroD P e = some [z]) (h : H) (nid : Nat) (k : IntKind) (n : Int) :
  litOpD P h nid t 1 [(0, .int k n)] = some (.osl nid 1, (nid, .arr e 1 [[.int k n]]) :: h, nid + 1) := lit_one hu hs hz h nid _ rfl rfl

theorem lit_agg {t e : TypeId} {sz : Nat} (hu : P.underlying t = some (.slice e)) (hs : sizeT P e = some sz) {zs : List D} (hz : zeroD P e = some zs) (hzl : zs.length = sz) (h0 : 0 < sz) (hb : sz ≤ 16777216) (h : H) (nid : Nat) (cs : List D) (hcl : cs.length = sz) (hl : D.ltL 0 cs = true) :
  litOpD P h nid t 1 [(0, .agg cs)] = some (.osl nid 1, (nid, .arr e sz [cs]) :: h, nid + 1) := by
 refine litOp_of h nid t 1 _ ?_ (by simp [hl])
 simp [litSl, hu, hs, hz, fillD, cellsE, repL, putL, chunk, hzl, hcl, h0, hb]

theorem app_osl {t e : TypeId} (hu : P.underlying t = some (.slice e)) {sz : Nat} (hs : sizeT P e = some sz) {zs : List D} (hz : zeroD P e = some zs) (hzl : zs.length = sz) (h0 : 0 < sz) {by_ : Nat} (hby : P.bytesOf e = by_) (h : H) (nid b n b2 n2 : Nat) {es xs : List (List D)} {ty2 : TypeId} {sz2 : Nat}
  (hb : hget h b = some (.arr e sz es)) (hn : n = es.length) (hb2 : hget h b2 = some (.arr ty2 sz2 xs)) (hn2 : n2 = xs.length) (hok : okSrc sz xs = true) (hc : (es.length + xs.length) * by_ ≤ 140737488355328) (hc2 : es.length + xs.length ≤ 140737488355328) :
  appE P h nid t t (.osl b n) (.osl b2 n2) = some (.osl b (es.length + xs.length), hset h b (.arr e sz (es ++ xs)), nid) := by
 subst hn; subst hn2; subst hby
 simp [appE, hu, srcD, hb2, hs, hz, hzl, h0, hok, hb, hc, hc2]

end
end Go.Sx

/- Sx, part Z: literals of maps, whose entries come in whatever order. Own work. -/
namespace Go.Sx

section
variable {P : Program} {n0 : Nat} {ro : Option Nat}

theorem acall_of_wc {f : FuncId} {fn : Func} {c : Code} {ds : List D} {h : H} {nid : Nat} {Q : D → H → Nat → Prop} {rs : List ResultVar} {m : Nat} (T : List (Nat × List Ann)) {O : Oracle} (hO : OkO P O) (hm : P.follows .mixedOrders = true) (hf : P.funcs[f]? = some fn) (hb : fn.body = some c) (hcal : callable P f = true)
  (hrs : fn.results.toList = rs) (hn : ds.length + (fn.ntmps - ds.length) = m) (ht : tabOk T c = true) (hw : wc P nid none T O c ⟨argEnv 0 ds, h, nid, m⟩ (endK P rs Q)) : ACall P f ds h nid Q :=
 acall_of_awp hf hb hcal (awp_mono (wc_sound hO hm _ _ _ ht (by rw [hn]; exact hw)) fun e s hq => endQ_of hrs hq)


variable {ops : Array Oper} {X : Nat → Prop} {k0 : Cx} {Qe : Ex → St → Prop} {fuel : Nat} {listed : Array Bool} {k : Cx} {a : Act} {env : Env} {h : H} {nid n : Nat}

structure Ins where
 t : TypeId
 m : Nat
 key : Value
 s : Nat
 ty : TypeId
 pos : String
 after : Array Edge

end
end Go.Sx
