/- Sx, part L: rules by which conditions are computed. Own work. -/
import Derived.Test.YtjhoplbdpdbgaaaDoorSxK
set_option linter.unusedVariables false
set_option linter.unusedSimpArgs false
namespace Go.Sx

/-- Compute the first, then go on. -/
def F {α : Type} (x : α) (K : α → Prop) : Prop := K x

@[congr] theorem F_congr {α : Type} {x y : α} {K : α → Prop} (h : x = y) : F x K = F y K := by rw [h]

theorem F_eq {α : Type} (x : α) (K : α → Prop) : F x K = K x := (rfl)

@[congr] theorem AWpL_congr {P : Program} {n0 : Nat} {ro : Option Nat} {c : Code} {s : St} {Q : Ex → St → Prop} : AWpL P n0 ro c s Q = AWpL P n0 ro c s Q := (rfl)

@[congr] theorem ACall_congr {P : Program} {f : FuncId} {ds ds' : List D} {h : H} {nid : Nat} {Q : D → H → Nat → Prop} (hd : ds = ds') : ACall P f ds h nid Q = ACall P f ds' h nid Q := by rw [hd]

def optK {α : Type} (o : Option α) (K : α → Prop) : Prop :=
  match o with
  | some d => K d
  | none => False

theorem optK_some {α : Type} (d : α) (K : α → Prop) : optK (some d) K = K d := (rfl)

@[congr] theorem optK_congr {α : Type} {x y : Option α} {K : α → Prop} (h : x = y) : optK x K = optK y K := by rw [h]

section
variable {P : Program} {n0 : Nat} {ro : Option Nat} {ops : Array Oper}

theorem vc_skip (s : St) (Q : Ex → St → Prop) : vc P n0 ro .skip s Q = Q .normal s := (rfl)
theorem vc_label (l : Nat) (s : St) (Q : Ex → St → Prop) : vc P n0 ro (.label l) s Q = Q .normal s := (rfl)
theorem vc_exit (l : Nat) (s : St) (Q : Ex → St → Prop) : vc P n0 ro (.exit l) s Q = Q (.exit l) s := (rfl)
theorem vc_ret (s : St) (Q : Ex → St → Prop) : vc P n0 ro .ret s Q = Q .ret s := (rfl)
theorem vc_seq (a b : Code) (s : St) (Q : Ex → St → Prop) : vc P n0 ro (.seq a b) s Q = vc P n0 ro a s (thenQ (fun s' => vc P n0 ro b s' Q) Q) := (rfl)
theorem vc_block (id : Nat) (a : Code) (s : St) (Q : Ex → St → Prop) : vc P n0 ro (.block id a) s Q = vc P n0 ro a s (blockQ id Q) := (rfl)
theorem vc_region (id : Nat) (l : List Oper) (s : St) (Q : Ex → St → Prop) : vc P n0 ro (.region id l.toArray false) s Q = vcOps P l.toArray l s (Q .normal) := (rfl)
theorem vc_loop (c : Code) (s : St) (Q : Ex → St → Prop) : vc P n0 ro (.loop c) s Q = AWpL P n0 ro (.loop c) s Q := (rfl)
theorem vc_draw (id : Nat) (l : Array Oper) (s : St) (Q : Ex → St → Prop) : vc P n0 ro (.region id l true) s Q = AWpL P n0 ro (.region id l true) s Q := (rfl)
theorem vc_rangeFunc (f : Operand) (p : Array Tmp) (a b : Code) (s : St) (Q : Ex → St → Prop) : vc P n0 ro (.rangeFunc f p a b) s Q = AWpL P n0 ro (.rangeFunc f p a b) s Q := (rfl)

def condK (d : D) (p q : Prop) : Prop :=
  match d with
  | .bool t => BR t p q
  | _ => False

@[congr] theorem condK_congr {x y : D} {p q : Prop} (h : x = y) : condK x p q = condK y p q := by rw [h]

theorem vc_cond (c : Operand) (a b : Code) (s : St) (Q : Ex → St → Prop) : vc P n0 ro (.cond c a b) s Q = condK (evO s.env c) (vc P n0 ro a s Q) (vc P n0 ro b s Q) := (rfl)
theorem condK_true (p q : Prop) : condK (.bool true) p q = p := by simp [condK, BR]
theorem condK_false (p q : Prop) : condK (.bool false) p q = q := by simp [condK, BR]
theorem condK_bool (t : Bool) (p q : Prop) : condK (.bool t) p q = BR t p q := (rfl)

/-- Both ways, but not looked into. -/
@[congr] theorem BR_congr {t u : Bool} {p q : Prop} (h : t = u) : BR t p q = BR u p q := by rw [h]
theorem BR_true (p q : Prop) : BR true p q = p := by simp [BR]
theorem BR_false (p q : Prop) : BR false p q = q := by simp [BR]

theorem thenQ_normal (K : St → Prop) (Q : Ex → St → Prop) (s : St) : thenQ K Q .normal s = K s := (rfl)
theorem thenQ_exit (K : St → Prop) (Q : Ex → St → Prop) (i : Nat) (s : St) : thenQ K Q (.exit i) s = Q (.exit i) s := (rfl)
theorem thenQ_ret (K : St → Prop) (Q : Ex → St → Prop) (s : St) : thenQ K Q .ret s = Q .ret s := (rfl)
theorem blockQ_normal (id : Nat) (Q : Ex → St → Prop) (s : St) : blockQ id Q .normal s = Q .normal s := (rfl)
theorem blockQ_exit_same (id : Nat) (Q : Ex → St → Prop) (s : St) : blockQ id Q (.exit id) s = Q .normal s := by simp [blockQ]
theorem blockQ_exit_ne (id i : Nat) (Q : Ex → St → Prop) (s : St) (h : i ≠ id) : blockQ id Q (.exit i) s = Q (.exit i) s := by simp [blockQ, h]
theorem blockQ_ret (id : Nat) (Q : Ex → St → Prop) (s : St) : blockQ id Q .ret s = Q .ret s := (rfl)

theorem vcOps_nil (s : St) (K : St → Prop) : vcOps P ops [] s K = K s := (rfl)

/-- The state behind an operation. -/
theorem vcOps_cons (d : Option Tmp) (op : Op) (ty : TypeId) (pos : String) (after : Array Edge) (rest : List Oper) (s : St) (K : St → Prop) :
    vcOps P ops (⟨d, op, ty, pos, after, none⟩ :: rest) s K = stepK P ⟨d, op, ty, pos, after, none⟩ s fun s' => vcOps P ops rest s' K := (rfl)

def guardK (d : D) (want : Bool) (p q : Prop) : Prop :=
  match d with
  | .bool b => BR (b == want) p q
  | _ => False

@[congr] theorem guardK_congr {x y : D} {w : Bool} {p q : Prop} (h : x = y) : guardK x w p q = guardK y w p q := by rw [h]
theorem guardK_true (p q : Prop) : guardK (.bool true) true p q = p := by simp [guardK, BR]
theorem guardK_false (p q : Prop) : guardK (.bool false) false p q = p := by simp [guardK, BR]
theorem guardK_true' (p q : Prop) : guardK (.bool false) true p q = q := by simp [guardK, BR]
theorem guardK_false' (p q : Prop) : guardK (.bool true) false p q = q := by simp [guardK, BR]
theorem guardK_bool_true (b : Bool) (p q : Prop) : guardK (.bool b) true p q = BR b p q := by simp [guardK]
theorem guardK_bool_false (b : Bool) (p q : Prop) : guardK (.bool b) false p q = BR b q p := by
  cases b <;> simp [guardK, BR]

def slotK (o : Option Tmp) (K : Tmp → Prop) : Prop :=
  match o with
  | some t => K t
  | none => False
@[congr] theorem slotK_congr {x y : Option Tmp} {K : Tmp → Prop} (h : x = y) : slotK x K = slotK y K := by rw [h]
theorem slotK_some (t : Tmp) (K : Tmp → Prop) : slotK (some t) K = K t := (rfl)

theorem vcOps_guard (d : Option Tmp) (op : Op) (ty : TypeId) (pos : String) (after : Array Edge) (j : Nat) (want : Bool) (rest : List Oper) (s : St) (K : St → Prop) :
    vcOps P ops (⟨d, op, ty, pos, after, some (j, want)⟩ :: rest) s K =
      slotK (slotOf ops j) fun t => guardK (look s.env t) want (stepK P ⟨d, op, ty, pos, after, some (j, want)⟩ { s with env := (t, .bool want) :: s.env } fun s' => vcOps P ops rest s' K)
        (F (St.put { s with env := (t, .bool !want) :: s.env } d (.tup [])) fun s' => vcOps P ops rest s' K) := (rfl)

theorem slotOf_zero (o : Oper) (l : List Oper) : slotOf (o :: l).toArray 0 = o.dst := by simp [slotOf]
theorem slotOf_succ (o : Oper) (l : List Oper) (j : Nat) : slotOf (o :: l).toArray (j + 1) = slotOf l.toArray j := by simp [slotOf]

theorem stepK_read (d : Option Tmp) (op : Op) (ty : TypeId) (pos : String) (after : Array Edge) (g : Option (Nat × Bool)) (s : St) (K : St → Prop) (h : kindOf op = .read) :
    stepK P ⟨d, op, ty, pos, after, g⟩ s K = F (opR P op (evO s.env) s.h) fun r => optK r fun v => F (s.put d v) K := by
  simp only [stepK, h, readK, F_eq, optK]
  cases opR P op (evO s.env) s.h <;> rfl

theorem stepK_eff (d : Option Tmp) (op : Op) (ty : TypeId) (pos : String) (after : Array Edge) (g : Option (Nat × Bool)) (s : St) (K : St → Prop) (h : kindOf op = .eff) :
    stepK P ⟨d, op, ty, pos, after, g⟩ s K = F (opF P op (evO s.env) s.h s.nid) fun r => optK r fun v => F (St.put { s with h := v.2.1, nid := v.2.2 } d v.1) K := by
  simp only [stepK, h, effK, F_eq, optK]
  cases opF P op (evO s.env) s.h s.nid <;> rfl

theorem stepK_call (d : Option Tmp) (c : Call) (ty : TypeId) (pos : String) (after : Array Edge) (g : Option (Nat × Bool)) (s : St) (K : St → Prop) (h : kindOf (.call c) = .call) :
    stepK P ⟨d, .call c, ty, pos, after, g⟩ s K = F (calleeD s.env c) fun r => optK r fun v => ACall P v.1 v.2 s.h s.nid fun r h' nid' => K (St.put { s with h := h', nid := nid' } d r) := by
  simp only [stepK, h, callK, F_eq, optK]
  cases calleeD s.env c <;> rfl

/-! One rule for each form of operation. -/
abbrev readF (P : Program) (r : Option D) (d : Option Tmp) (s : St) (K : St → Prop) : Prop := F r fun r => optK r fun v => F (s.put d v) K
abbrev effF (r : Option (D × H × Nat)) (d : Option Tmp) (s : St) (K : St → Prop) : Prop := F r fun r => optK r fun v => F (St.put { s with h := v.2.1, nid := v.2.2 } d v.1) K

def pickD (c a b : D) : Option D :=
  match c with
  | .bool t => some (if t then a else b)
  | _ => none
def nilCheckD : D → Option D
  | .ptr b o => some (.ptr b o)
  | .ref cs o => some (.ref cs o)
  | .fn (.func f) a c => some (.fn (.func f) a c)
  | .fn (.yield f) a c => some (.fn (.yield f) a c)
  | _ => none
def negD : D → Option D
  | .int k n => some (.int k (k.wrap (0 - n)))
  | _ => none
def notD : D → Option D
  | .bool b => some (.bool (!b))
  | _ => none
def convD (P : Program) (h : H) (s d : TypeId) (x : D) : Option D :=
  match strD P h s d x with
  | some r => some r
  | none =>
    match P.underlying s, P.underlying d, x with
    | some _, some (.int k), .int _ n => some (.int k (k.wrap n))
    | _, _, _ => none
def extractD (i : Nat) : D → Option D
  | .tup vs => vs[i]?
  | _ => none
def ifaceD (P : Program) (t : TypeId) (x : D) : Option D :=
  match P.underlying t with
  | some (.interface _) => none
  | some _ => some (.ifc t x)
  | none => none
def fieldAddrD (P : Program) (h : H) (t : TypeId) (f : Nat) (x : D) : Option D :=
  match fieldOff P t f with
  | some o => atOff h o x
  | none => none
def fieldD (P : Program) (t : TypeId) (f : Nat) (x : D) : Option D :=
  match fieldTy P t f, x with
  | some (ty, o), .agg cs => partD P ty cs o
  | _, _ => none
def lenOpD (P : Program) (h : H) (t : TypeId) (x : D) : Option D :=
  match P.underlying t with
  | some (.slice _) => lenD h x
  | some .string => match x with
    | .str s => some (.int .i64 s.size)
    | _ => none
  | some (.array n _) => some (.int .i64 n)
  | some (.map _ _) =>
    match x with
    | .mp b => match hget h b with
      | some (.map kvs) => some (.int .i64 kvs.length)
      | _ => none
    | .nilm => some (.int .i64 0)
    | _ => none
  | _ => none
def maxOpD : List D → Option D
  | .int k a :: r => maxL k a r
  | _ => none
def minOpD : List D → Option D
  | .int k a :: r => minL k a r
  | _ => none
def litOpD (P : Program) (h : H) (nid : Nat) (t : TypeId) (len : Nat) (parts : List (Nat × D)) : Option (D × H × Nat) :=
  match litSl P h t len parts with
  | some (e, sz, es) => if es.all (D.ltL 0) then some (.osl nid len, (nid, .arr e sz es) :: h, nid + 1) else none
  | none => none
def allocD (P : Program) (h : H) (nid : Nat) (t : TypeId) : Option (D × H × Nat) :=
  match zeroD P t with
  | some zs => some (.ptr nid 0, (nid, .box zs) :: h, nid + 1)
  | none => none
def boxD (h : H) (nid : Nat) (x : D) : Option (D × H × Nat) :=
  match cellsE h x with
  | some cs => some (.ptr nid 0, (nid, .box cs) :: h, nid + 1)
  | none => none

def storeD (P : Program) (h : H) (nid : Nat) (t : TypeId) (p x : D) : Option (D × H × Nat) :=
  match p, cellsE h x, sizeT P t with
  | .ptr b o, some ds, some n =>
    match hget h b with
    | some (.box cs) => if ds.length = n ∧ o + n ≤ cs.length ∧ ds.all (curD h) then some (.any, hset h b (.box (putL cs o ds)), nid) else none
    | _ => none
  | .eptr b l sz i o, some ds, some n =>
    match hget h b with
    | some (.arr ty sz' es) =>
      if ds.length = n ∧ o + n ≤ sz ∧ l = es.length ∧ sz = sz' ∧ ds.all (curD h) ∧ D.ltL 0 ds then
        match es[i]? with
        | some c => some (.any, hset h b (.arr ty sz (es.set i (putL c o ds))), nid)
        | none => none
      else none
    | _ => none
  | _, _, _ => none

variable (d : Option Tmp) (ty : TypeId) (pos : String) (after : Array Edge) (g : Option (Nat × Bool)) (s : St) (K : St → Prop)

theorem step_move (x : Operand) : stepK P ⟨d, .move x, ty, pos, after, g⟩ s K = F (evO s.env x) fun v => F (s.put d v) K := (rfl)
theorem step_assign (x : Operand) : stepK P ⟨d, .assign x, ty, pos, after, g⟩ s K = F (evO s.env x) fun v => F (s.put d v) K := (rfl)
theorem step_pick (c x y : Operand) : stepK P ⟨d, .pick c x y, ty, pos, after, g⟩ s K = readF P (pickD (evO s.env c) (evO s.env x) (evO s.env y)) d s K := by
  rw [stepK_read _ _ _ _ _ _ _ _ rfl]; congr 1
theorem step_nilCheck (x : Operand) : stepK P ⟨d, .nilCheck x, ty, pos, after, g⟩ s K = readF P (nilCheckD (evO s.env x)) d s K := by
  rw [stepK_read _ _ _ _ _ _ _ _ rfl]; congr 1
theorem step_binOp (op : BinOp) (t u : TypeId) (x y : Operand) : stepK P ⟨d, .binOp op t x y u, ty, pos, after, g⟩ s K = readF P (binD P op t (evO s.env x) (evO s.env y)) d s K := by
  rw [stepK_read _ _ _ _ _ _ _ _ rfl]; congr 1
theorem step_neg (t : TypeId) (x : Operand) : stepK P ⟨d, .unOp .neg t x, ty, pos, after, g⟩ s K = readF P (negD (evO s.env x)) d s K := by
  rw [stepK_read _ _ _ _ _ _ _ _ rfl]; congr 1
theorem step_not (t : TypeId) (x : Operand) : stepK P ⟨d, .unOp .not t x, ty, pos, after, g⟩ s K = readF P (notD (evO s.env x)) d s K := by
  rw [stepK_read _ _ _ _ _ _ _ _ rfl]; congr 1
theorem step_extract (x : Operand) (i : Nat) : stepK P ⟨d, .extract x i, ty, pos, after, g⟩ s K = readF P (extractD i (evO s.env x)) d s K := by
  rw [stepK_read _ _ _ _ _ _ _ _ rfl]; congr 1
theorem step_makeFunc (f : Fn) (x y : Array Operand) : stepK P ⟨d, .makeFunc f x y, ty, pos, after, g⟩ s K = F (D.fn f (x.toList.map (evO s.env)) (y.toList.map (evO s.env))) fun v => F (s.put d v) K := (rfl)
theorem step_iface (t : TypeId) (x : Operand) : stepK P ⟨d, .makeInterface t x, ty, pos, after, g⟩ s K = readF P (ifaceD P t (evO s.env x)) d s K := by
  rw [stepK_read _ _ _ _ _ _ _ _ rfl]; congr 1
theorem step_fieldAddr (t : TypeId) (x : Operand) (f : Nat) : stepK P ⟨d, .fieldAddr t x f, ty, pos, after, g⟩ s K = readF P (fieldAddrD P s.h t f (evO s.env x)) d s K := by
  rw [stepK_read _ _ _ _ _ _ _ _ rfl]; congr 1
theorem step_field (t : TypeId) (x : Operand) (f : Nat) : stepK P ⟨d, .field t x f, ty, pos, after, g⟩ s K = readF P (fieldD P t f (evO s.env x)) d s K := by
  rw [stepK_read _ _ _ _ _ _ _ _ rfl]; congr 1
theorem step_index (t : TypeId) (x i : Operand) : stepK P ⟨d, .index t x i, ty, pos, after, g⟩ s K = readF P (indexD P t (evO s.env x) (evO s.env i)) d s K := by
  rw [stepK_read _ _ _ _ _ _ _ _ rfl]; congr 1
theorem step_indexAddr (t : TypeId) (x i : Operand) : stepK P ⟨d, .indexAddr t x i, ty, pos, after, g⟩ s K = readF P (indexAddrD P s.h t (evO s.env x) (evO s.env i)) d s K := by
  rw [stepK_read _ _ _ _ _ _ _ _ rfl]; congr 1
theorem step_load (t : TypeId) (x : Operand) : stepK P ⟨d, .load t x, ty, pos, after, g⟩ s K = readF P (loadAtD P s.h t (evO s.env x)) d s K := by
  rw [stepK_read _ _ _ _ _ _ _ _ rfl]; congr 1
theorem step_slice (t : TypeId) (x : Operand) (lo hi : Option Operand) : stepK P ⟨d, .slice t x lo hi none, ty, pos, after, g⟩ s K = readF P (sliceD P t (evO s.env x) (lo.map (evO s.env)) (hi.map (evO s.env))) d s K := by
  rw [stepK_read _ _ _ _ _ _ _ _ rfl]; congr 1
theorem step_build (t : TypeId) (p : Array (Nat × Operand)) : stepK P ⟨d, .build t p, ty, pos, after, g⟩ s K = readF P (buildD P s.h t (p.toList.map fun q => (q.1, evO s.env q.2))) d s K := by
  rw [stepK_read _ _ _ _ _ _ _ _ rfl]; congr 1
theorem step_len (x : Operand) (t : TypeId) : stepK P ⟨d, .call ⟨.builtin .len, #[x], #[t]⟩, ty, pos, after, g⟩ s K = readF P (lenOpD P s.h t (evO s.env x)) d s K := by
  rw [stepK_read _ _ _ _ _ _ _ _ rfl]; congr 1
theorem step_max (x : List Operand) (t : Array TypeId) : stepK P ⟨d, .call ⟨.builtin .max, x.toArray, t⟩, ty, pos, after, g⟩ s K = readF P (maxOpD (x.map (evO s.env))) d s K := by
  rw [stepK_read _ _ _ _ _ _ _ _ rfl]; congr 1
  cases x <;> simp only [opR, opQ, callQ, maxOpD, List.map_nil, List.map_cons]
  split <;> simp_all
theorem step_min (x : List Operand) (t : Array TypeId) : stepK P ⟨d, .call ⟨.builtin .min, x.toArray, t⟩, ty, pos, after, g⟩ s K = readF P (minOpD (x.map (evO s.env))) d s K := by
  rw [stepK_read _ _ _ _ _ _ _ _ rfl]; congr 1
  cases x <;> simp only [opR, opQ, callQ, minOpD, List.map_nil, List.map_cons]
  split <;> simp_all
theorem step_append (x y : Operand) (t u : TypeId) : stepK P ⟨d, .call ⟨.builtin .append, #[x, y], #[t, u]⟩, ty, pos, after, g⟩ s K = effF (appE P s.h s.nid t u (evO s.env x) (evO s.env y)) d s K := by
  rw [stepK_eff _ _ _ _ _ _ _ _ rfl]; congr 1
theorem step_alloc (t : TypeId) : stepK P ⟨d, .alloc t, ty, pos, after, g⟩ s K = effF (allocD P s.h s.nid t) d s K := by
  rw [stepK_eff _ _ _ _ _ _ _ _ rfl]; congr 1
theorem step_box (t : TypeId) (x : Operand) : stepK P ⟨d, .box t x, ty, pos, after, g⟩ s K = effF (boxD s.h s.nid (evO s.env x)) d s K := by
  rw [stepK_eff _ _ _ _ _ _ _ _ rfl]; congr 1
theorem step_store (t : TypeId) (x y : Operand) : stepK P ⟨d, .store t x y, ty, pos, after, g⟩ s K = effF (storeD P s.h s.nid t (evO s.env x) (evO s.env y)) d s K := by
  rw [stepK_eff _ _ _ _ _ _ _ _ rfl]; congr 1
theorem step_lit (t : TypeId) (n : Nat) (p : Array (Nat × Operand)) : stepK P ⟨d, .buildSlice t n p, ty, pos, after, g⟩ s K = effF (litOpD P s.h s.nid t n (p.toList.map fun q => (q.1, evO s.env q.2))) d s K := by
  rw [stepK_eff _ _ _ _ _ _ _ _ rfl]; congr 1
/-- A call of a function that the text names. -/
theorem step_call (f : FuncId) (x : List Operand) (t : Array TypeId) : stepK P ⟨d, .call ⟨.value (.func f), x.toArray, t⟩, ty, pos, after, g⟩ s K =
    ACall P f (x.map (evO s.env)) s.h s.nid fun r h' nid' => K (St.put { s with h := h', nid := nid' } d r) := by
  rw [stepK_call _ _ _ _ _ _ _ _ rfl]
  simp [calleeD, evO, F_eq, optK]
def calleeK (v : D) (x : List D) (K : FuncId → List D → Prop) : Prop :=
  match v with
  | .fn (.func f) first cap => K f (first ++ x ++ cap)
  | _ => False
@[congr] theorem calleeK_congr {v v' : D} {x : List D} {K : FuncId → List D → Prop} (h : v = v') : calleeK v x K = calleeK v' x K := by rw [h]
theorem calleeK_fn (f : FuncId) (first cap x : List D) (K : FuncId → List D → Prop) : calleeK (.fn (.func f) first cap) x K = K f (first ++ x ++ cap) := (rfl)
/-- A call of a function value. -/
theorem step_callv (t0 : Tmp) (x : List Operand) (t : Array TypeId) : stepK P ⟨d, .call ⟨.value (.tmp t0), x.toArray, t⟩, ty, pos, after, g⟩ s K =
    calleeK (look s.env t0) (x.map (evO s.env)) fun f ds => ACall P f ds s.h s.nid fun r h' nid' => K (St.put { s with h := h', nid := nid' } d r) := by
  rw [stepK_call _ _ _ _ _ _ _ _ rfl]
  simp only [calleeD, evO, F_eq, optK, calleeK]
  cases look s.env t0 with
  | fn f a c => cases f <;> rfl
  | _ => rfl

/-! States and environments -/
theorem look_same (t : Nat) (d : D) (e : Env) : look ((t, d) :: e) t = d := by simp [look]
theorem look_ne (i t : Nat) (d : D) (e : Env) (h : t ≠ i) : look ((i, d) :: e) t = look e t := by simp [look, h]
theorem look_nil (t : Nat) : look [] t = .any := (rfl)
theorem put_some (env : Env) (h : H) (nid n t : Nat) (d : D) (hlt : t < n) : St.put ⟨env, h, nid, n⟩ (some t) d = ⟨(t, d) :: env, h, nid, n⟩ := by simp [St.put, hlt]
theorem put_none (s : St) (d : D) : St.put s none d = s := (rfl)
theorem evO_tmp (e : Env) (t : Nat) : evO e (.tmp t) = look e t := (rfl)
theorem evO_const (e : Env) (v : Value) : evO e (.const v) = vD v := (rfl)
theorem evO_func (e : Env) (f : FuncId) : evO e (.func f) = .fn (.func f) [] [] := (rfl)
theorem vD_int (k : IntKind) (n : Int) : vD (.int k n) = .int k n := (rfl)
theorem vD_bool (b : Bool) : vD (.bool b) = .bool b := (rfl)
theorem vD_string (s : ByteArray) : vD (.string s) = .str s := (rfl)
theorem vD_nils : vD (.slice none 0 0) = .nils := (rfl)
theorem vD_nilp : vD (.pointer none) = .nilp := (rfl)

theorem hget_same (i : Nat) (b : Blk) (r : H) : hget ((i, b) :: r) i = some b := by simp [hget]
theorem hget_ne (i k : Nat) (b : Blk) (r : H) (h : k ≠ i) : hget ((i, b) :: r) k = hget r k := by simp [hget, h]
theorem hset_same (i : Nat) (b0 b : Blk) (r : H) : hset ((i, b0) :: r) i b = (i, b) :: r := by simp [hset]
theorem hset_ne (i k : Nat) (b0 b : Blk) (r : H) (h : k ≠ i) : hset ((i, b0) :: r) k b = (i, b0) :: hset r k b := by simp [hset, h]

/-! A call by a contract on data. -/
theorem call_borrow {f : FuncId} {ds ds' : List D} {h : H} {nid : Nat} {K : D → H → Nat → Prop} {r : D} (hp : Pure P f ds' r) (hds : viewL h ds = ds') (hr : r.flat = true) (hK : K r h nid) : ACall P f ds h nid K := by
  subst hds
  rw [viewL_eq] at hp
  exact (acall_borrow hp hr).mono fun _ _ _ ⟨h1, h2, h3⟩ => by subst h1; subst h2; subst h3; exact hK

theorem call_pure {f : FuncId} {ds ds' : List D} {h : H} {nid : Nat} {K : D → H → Nat → Prop} {r : D} (hp : Pure P f ds' r) (hds : ds = ds') (hl : D.ltL 0 ds = true) (hr : r.lt 0 = true) (hK : K r h nid) : ACall P f ds h nid K := by
  subst hds
  exact (acall_pure hp hl hr).mono fun _ _ _ ⟨h1, h2, h3⟩ => by subst h1; subst h2; subst h3; exact hK

end
end Go.Sx
