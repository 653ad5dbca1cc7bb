/- Own work: a calculus of contracts for the programs of this kit: parts SxV, SxW. -/
import Derived.Test.YtaifjmjooapmhaaGreatSxU
import Derived.Scope
set_option linter.unusedVariables false
set_option linter.unusedSimpArgs false
namespace Go.Sx

structure Tag {α : Sort _} (a : α) : Type where

def Z {α : Type} (x : α) (K : α → Prop) (_ : Tag K) : Prop := K x
theorem Z_eq {α : Type} (x : α) (K : α → Prop) (u : Tag K) : Z x K u = K x := (rfl)

def Zo {α : Type} (o : Option α) (K : α → Prop) (_ : Tag K) : Prop := optK o K
theorem Zo_some {α : Type} (d : α) (K : α → Prop) (u : Tag K) : Zo (some d) K u = K d := (rfl)
theorem Zo_ite {α : Type} (c : Prop) [Decidable c] (o : Option α) (K : α → Prop) (u : Tag K) : Zo (if c then o else none) K u = (c ∧ Zo o K u) := by
 by_cases h : c
 ·simp [h]
 ·simp [h, Zo, optK]

def CallV (P : Program) (dr : Bool) (f : FuncId) (ds vs : List D) (h : H) (nid : Nat) (K : D → H → Nat → Prop) (_ : Tag K) : Prop :=
 vs = viewL h ds → if dr then ∃ r, QC P f ds h r ∧ K r h nid else ACall P f ds h nid K

theorem call_of_pure {P : Program} {dr : Bool} {f : FuncId} {ds vs : List D} {h : H} {nid : Nat} {K : D → H → Nat → Prop} {u : Tag K} {r : D} (hp : Pure P f vs r) (hr : r.flat = true) (hK : K r h nid) :
  CallV P dr f ds vs h nid K u := by
 rintro rfl
 cases dr with
 | true => exact ⟨r, .inl ⟨hr, hp⟩, hK⟩
 | false => exact call_borrow hp rfl hr hK

theorem call_of_pure' {P : Program} {dr : Bool} {f : FuncId} {ds vs : List D} {h : H} {nid : Nat} {K : D → H → Nat → Prop} {u : Tag K} {r : D} (hp : Pure P f ds r) (hl : D.ltL 0 ds = true) (hr : r.lt 0 = true) (hK : K r h nid) :
  CallV P dr f ds vs h nid K u := by
 intro _
 cases dr with
 | true => exact ⟨r, .inr (.inl ⟨hl, hr, hp⟩), hK⟩
 | false => exact call_pure hp rfl hl hr hK

theorem call_of_free {P : Program} {dr : Bool} {f : FuncId} {ds vs : List D} {h : H} {nid : Nat} {K : D → H → Nat → Prop} {u : Tag K} {r : D} (hp : Pure P f ds r) (hl : D.frL ds = true) (hr : r.fr = true) (hK : K r h nid) :
  CallV P dr f ds vs h nid K u := by
 intro _
 cases dr with
 | true => exact ⟨r, .inr (.inr ⟨hl, hr, hp⟩), hK⟩
 | false => exact call_free hp rfl hl hr hK

theorem call_of_acall {P : Program} {f : FuncId} {ds vs : List D} {h : H} {nid : Nat} {K : D → H → Nat → Prop} {u : Tag K} (ha : ACall P f ds h nid K) : CallV P false f ds vs h nid K u := fun _ => ha

def sliceZ (P : Program) (dr : Bool) (t : TypeId) (x : D) (lo hi : Option D) (h : H) (nid : Nat) (K : D → H → Nat → Prop) (_ : Tag K) : Prop := sliceK P dr t x lo hi h nid K
theorem sz_sl {P : Program} {dr : Bool} (t : TypeId) (es : List (List D)) (lo hi : Option D) (h : H) (nid : Nat) (K : D → H → Nat → Prop) (u : Tag K) : sliceZ P dr t (.sl es) lo hi h nid K u = Zo (sliceD P t (.sl es) lo hi) (fun v => K v h nid) ⟨⟩ := (rfl)
theorem sz_str {P : Program} {dr : Bool} (t : TypeId) (s : ByteArray) (lo hi : Option D) (h : H) (nid : Nat) (K : D → H → Nat → Prop) (u : Tag K) : sliceZ P dr t (.str s) lo hi h nid K u = Zo (sliceD P t (.str s) lo hi) (fun v => K v h nid) ⟨⟩ := (rfl)
theorem sz_ptr {P : Program} {dr : Bool} (t : TypeId) (b o : Nat) (lo hi : Option D) (h : H) (nid : Nat) (K : D → H → Nat → Prop) (u : Tag K) : sliceZ P dr t (.ptr b o) lo hi h nid K u = Zo (sliceD P t (.ptr b o) lo hi) (fun v => K v h nid) ⟨⟩ := (rfl)
theorem sz_osl {P : Program} (t : TypeId) (b n : Nat) (lo hi : Option D) (h : H) (nid : Nat) (K : D → H → Nat → Prop) (u : Tag K) : sliceZ P false t (.osl b n) lo hi h nid K u = Zo (sliceO P h nid t b n lo hi) (fun v => K v.1 v.2.1 v.2.2) ⟨⟩ := (rfl)

def invZ (P : Program) (O : Oracle) (x : D) (name : String) (ds : List D) (h : H) (nid : Nat) (K : D → H → Nat → Prop) (_ : Tag K) : Prop :=
 match x with
 | .ifc t d => match methD P t name with
  | some f => callX P O false f (d :: ds) h nid K
  | none => False
 | _ => False

section
variable {P : Program} {O : Oracle} {n0 : Nat} {ro : Option Nat} {T : List (Nat × List Ann)} {ops : Array Oper} {dr fl tr : Bool}

def cvD (P : Program) (h : H) (s d : TypeId) (x : D) : Option D :=
 match cutD P s d x with
 | some r => some r
 | none => convD P h s d x
variable (env : Env) (h : H) (nid n : Nat) (K : D → H → Nat → Prop)

theorem r_move (x : Operand) : resK P O dr fl (.move x) env h nid K = Z (evO env x) (fun v => K v h nid) ⟨⟩ := (rfl)
theorem r_assign (x : Operand) : resK P O dr fl (.assign x) env h nid K = Z (evO env x) (fun v => K v h nid) ⟨⟩ := (rfl)
theorem r_pick (c x y : Operand) : resK P O dr fl (.pick c x y) env h nid K = Zo (pickD (evO env c) (evO env x) (evO env y)) (fun v => K v h nid) ⟨⟩ := (rfl)
theorem r_nilCheck (x : Operand) : resK P O dr fl (.nilCheck x) env h nid K = Zo (nilCheckD (evO env x)) (fun v => K v h nid) ⟨⟩ := (rfl)
theorem r_binOp (op : BinOp) (t u : TypeId) (x y : Operand) : resK P O dr fl (.binOp op t x y u) env h nid K = Zo (binD P op t (evO env x) (evO env y)) (fun v => K v h nid) ⟨⟩ := (rfl)
theorem r_neg (t : TypeId) (x : Operand) : resK P O dr fl (.unOp .neg t x) env h nid K = Zo (negD (evO env x)) (fun v => K v h nid) ⟨⟩ := (rfl)
theorem r_not (t : TypeId) (x : Operand) : resK P O dr fl (.unOp .not t x) env h nid K = Zo (notD (evO env x)) (fun v => K v h nid) ⟨⟩ := (rfl)
theorem r_convert (t u : TypeId) (x : Operand) : resK P O dr fl (.convert t u x) env h nid K = Zo (cvD P h t u (evO env x)) (fun v => K v h nid) ⟨⟩ := (rfl)
theorem r_makeMap (t : TypeId) : resK P O dr fl (.makeMap t none) env h nid K = K (.mp nid) ((nid, .map []) :: h) (nid + 1) := (rfl)
theorem r_mapUpdate (t : TypeId) (x y z : Operand) : resK P O dr fl (.mapUpdate t x y z) env h nid K = Zo (mapUpdD P h nid t (evO env x) (evO env y) (evO env z)) (fun v => K v.1 v.2.1 v.2.2) ⟨⟩ := (rfl)
theorem r_insert (t : TypeId) (x y z : Operand) : resK P O dr fl (.insert t x y z) env h nid K = Zo (mapUpdD P h nid t (evO env x) (evO env y) (evO env z)) (fun v => K v.1 v.2.1 v.2.2) ⟨⟩ := (rfl)
theorem r_lookup (t : TypeId) (x y : Operand) (ok : Bool) : resK P O dr fl (.lookup t x y ok) env h nid K = Zo (lookupD P h t (evO env x) (evO env y) ok) (fun v => K v h nid) ⟨⟩ := (rfl)
theorem r_extract (x : Operand) (i : Nat) : resK P O dr fl (.extract x i) env h nid K = Zo (extractD i (evO env x)) (fun v => K v h nid) ⟨⟩ := (rfl)
theorem r_makeFunc (f : Fn) (x y : List Operand) : resK P O dr fl (.makeFunc f x.toArray y.toArray) env h nid K = Z (D.fn f (x.map (evO env)) (y.map (evO env))) (fun v => K v h nid) ⟨⟩ := (rfl)
theorem r_iface (t : TypeId) (x : Operand) : resK P O dr fl (.makeInterface t x) env h nid K = Zo (ifaceD P t (evO env x)) (fun v => K v h nid) ⟨⟩ := (rfl)
theorem r_fieldAddr (t : TypeId) (x : Operand) (f : Nat) : resK P O dr fl (.fieldAddr t x f) env h nid K = Zo (fieldAddrD P h t f (evO env x)) (fun v => K v h nid) ⟨⟩ := (rfl)
theorem r_field (t : TypeId) (x : Operand) (f : Nat) : resK P O dr fl (.field t x f) env h nid K = Zo (fieldD P t f (evO env x)) (fun v => K v h nid) ⟨⟩ := (rfl)
theorem r_index (t : TypeId) (x i : Operand) : resK P O dr fl (.index t x i) env h nid K = Zo (indexD P t (evO env x) (evO env i)) (fun v => K v h nid) ⟨⟩ := (rfl)
theorem r_indexAddr (t : TypeId) (x i : Operand) : resK P O dr fl (.indexAddr t x i) env h nid K = Zo (indexAddrD P h t (evO env x) (evO env i)) (fun v => K v h nid) ⟨⟩ := (rfl)
theorem r_load (t : TypeId) (x : Operand) : resK P O dr fl (.load t x) env h nid K = Zo (loadAtD P h t (evO env x)) (fun v => K v h nid) ⟨⟩ := (rfl)
theorem r_slice (t : TypeId) (x : Operand) (lo hi : Option Operand) : resK P O dr fl (.slice t x lo hi none) env h nid K = sliceZ P dr t (evO env x) (lo.map (evO env)) (hi.map (evO env)) h nid K ⟨⟩ := (rfl)
theorem r_slice3 (t : TypeId) (x : Operand) (lo hi : Option Operand) (m : Operand) : resK P O dr fl (.slice t x lo hi (some m)) env h nid K = Zo (opR P (.slice t x lo hi (some m)) (evO env) h) (fun v => K v h nid) ⟨⟩ := (rfl)
theorem r_makeSlice (t : TypeId) (x y : Operand) : resK P O false fl (.makeSlice t x y) env h nid K = Zo (makeD P h nid t (evO env x) (evO env y)) (fun v => K v.1 v.2.1 v.2.2) ⟨⟩ := (rfl)
theorem r_build (t : TypeId) (p : List (Nat × Operand)) : resK P O dr fl (.build t p.toArray) env h nid K = Zo (buildD P h t (p.map fun q => (q.1, evO env q.2))) (fun v => K v h nid) ⟨⟩ := (rfl)
theorem r_len (x : Operand) (t : TypeId) : resK P O dr fl (.call ⟨.builtin .len, #[x], #[t]⟩) env h nid K = Zo (lenOpD P h t (evO env x)) (fun v => K v h nid) ⟨⟩ := (rfl)
theorem r_max (x : List Operand) (t : Array TypeId) : resK P O dr fl (.call ⟨.builtin .max, x.toArray, t⟩) env h nid K = Zo (maxOpD (x.map (evO env))) (fun v => K v h nid) ⟨⟩ := by
 simp only [resK, Zo]
 congr 1
 cases x <;> simp only [opR, opQ, callQ, maxOpD, List.map_nil, List.map_cons]
 split <;> simp_all
theorem r_min (x : List Operand) (t : Array TypeId) : resK P O dr fl (.call ⟨.builtin .min, x.toArray, t⟩) env h nid K = Zo (minOpD (x.map (evO env))) (fun v => K v h nid) ⟨⟩ := by
 simp only [resK, Zo]
 congr 1
 cases x <;> simp only [opR, opQ, callQ, minOpD, List.map_nil, List.map_cons]
 split <;> simp_all
theorem r_append (x y : Operand) (t u : TypeId) : resK P O dr fl (.call ⟨.builtin .append, #[x, y], #[t, u]⟩) env h nid K = Zo (appE P h nid t u (evO env x) (evO env y)) (fun v => K v.1 v.2.1 v.2.2) ⟨⟩ := (rfl)
theorem r_alloc (t : TypeId) : resK P O dr false (.alloc t) env h nid K = Zo (allocD P h nid t) (fun v => K v.1 v.2.1 v.2.2) ⟨⟩ := (rfl)
theorem r_float (t : TypeId) : resK P O dr true (.alloc t) env h nid K = Zo (zeroD P t) (fun _ => K .any h nid) ⟨⟩ := (rfl)
theorem r_box (t : TypeId) (x : Operand) : resK P O dr fl (.box t x) env h nid K = Zo (boxD h nid (evO env x)) (fun v => K v.1 v.2.1 v.2.2) ⟨⟩ := (rfl)
theorem r_store (t : TypeId) (x y : Operand) : resK P O dr fl (.store t x y) env h nid K = Zo (storeD P h nid t (evO env x) (evO env y)) (fun v => K v.1 v.2.1 v.2.2) ⟨⟩ := (rfl)
theorem r_lit (t : TypeId) (m : Nat) (p : List (Nat × Operand)) : resK P O false fl (.buildSlice t m p.toArray) env h nid K = Zo (litFD P h nid t m (p.map fun q => (q.1, evO env q.2))) (fun v => K v.1 v.2.1 v.2.2) ⟨⟩ := (rfl)
theorem io_int (k : IntKind) (x : Int) : isOsl (.int k x) = false := (rfl)
theorem io_bool (b : Bool) : isOsl (.bool b) = false := (rfl)
theorem io_str (x : ByteArray) : isOsl (.str x) = false := (rfl)
theorem io_agg (l : List D) : isOsl (.agg l) = false := (rfl)
theorem io_nils  : isOsl .nils = false := (rfl)
theorem io_sl (l : List (List D)) : isOsl (.sl l) = false := (rfl)
theorem io_ref (l : List D) (o : Nat) : isOsl (.ref l o) = false := (rfl)
theorem io_ptr (b o : Nat) : isOsl (.ptr b o) = false := (rfl)
theorem io_fn (f : Fn) (a c : List D) : isOsl (.fn f a c) = false := (rfl)
theorem io_nilp  : isOsl .nilp = false := (rfl)
theorem io_nilf  : isOsl .nilf = false := (rfl)
theorem io_nili  : isOsl .nili = false := (rfl)
theorem io_ifc (t : TypeId) (d : D) : isOsl (.ifc t d) = false := (rfl)
theorem io_mp (b : Nat) : isOsl (.mp b) = false := (rfl)
theorem selF_true {α : Type} (x y : α) : selF true x y = x := (rfl)
theorem selF_false {α : Type} (x y : α) : selF false x y = y := (rfl)
theorem po_nil : partsOsl [] = false := (rfl)
theorem po_cons (q : Nat × D) (r : List (Nat × D)) : partsOsl (q :: r) = selF (isOsl q.2) true (partsOsl r) := (rfl)
theorem litF_eq (t : TypeId) (m : Nat) (ps : List (Nat × D)) : litFD P h nid t m ps = selF (partsOsl ps) (litOpD P (frzH h (ps.map (·.2))) nid t m (ps.map fun q => (q.1, frzD h (frzH h (ps.map (·.2))) q.2))) (litOpD P h nid t m ps) := (rfl)
theorem r_litD (t : TypeId) (m : Nat) (p : List (Nat × Operand)) : resK P O true fl (.buildSlice t m p.toArray) env h nid K = Zo (litD P h t m (p.map fun q => (q.1, evO env q.2))) (fun v => K v h nid) ⟨⟩ := (rfl)

def callZ (o : Option D) (ds : List D) (K : D → Prop) (p : Prop) (_ : Tag (K, p)) : Prop :=
 match o with
 | some r => if okR r ds then K r else p
 | none => p
theorem callZ_some {r : D} {ds : List D} (hk : okR r ds = true) (K : D → Prop) (p : Prop) (u : Tag (K, p)) : callZ (some r) ds K p u = K r := by simp [callZ, hk]
theorem callZ_none (ds : List D) (K : D → Prop) (p : Prop) (u : Tag (K, p)) : callZ none ds K p u = p := (rfl)

theorem callV_eq (f : FuncId) (ds : List D) : callY P dr f ds h nid K = CallV P dr f ds (viewL h ds) h nid K ⟨⟩ := by
 simp [CallV, callY]

theorem callX_eq (f : FuncId) (ds : List D) : callX P O dr f ds h nid K = Z (viewL h ds) (fun vs => callZ (O f vs) ds (fun r => K r h nid) (CallV P dr f ds vs h nid K ⟨⟩) ⟨⟩) ⟨⟩ := by
 simp only [callX, Z, callZ, callV_eq]
 cases O f (viewL h ds) <;> rfl

theorem r_call (f : FuncId) (x : List Operand) (t : Array TypeId) : resK P O dr fl (.call ⟨.value (.func f), x.toArray, t⟩) env h nid K =
  Z (x.map (evO env)) (fun ds => Z (viewL h ds) (fun vs => callZ (O f vs) ds (fun r => K r h nid) (CallV P dr f ds vs h nid K ⟨⟩) ⟨⟩) ⟨⟩) ⟨⟩ := by
 have : resK P O dr fl (.call ⟨.value (.func f), x.toArray, t⟩) env h nid K = callX P O dr f (x.map (evO env)) h nid K := by
  simp [resK, calleeD, evO, optK]
 rw [this, callX_eq]; rfl

theorem r_invoke (x : Operand) (name : String) (xs : List Operand) (t : Array TypeId) : resK P O false fl (.call ⟨.invoke x name, xs.toArray, t⟩) env h nid K = invZ P O (evO env x) name (xs.map (evO env)) h nid K ⟨⟩ := by
 simp only [resK, calleeM, invZ, Bool.false_eq_true, if_false]
 cases evO env x with
 | ifc t d =>
  simp only
  cases methD P t name <;> rfl
 | _ => rfl
theorem inv_ifc {t : TypeId} {name : String} {f : FuncId} (hm : methD P t name = some f) (d : D) (ds : List D) (u : Tag K) :
  invZ P O (.ifc t d) name ds h nid K u = Z (viewL h (d :: ds)) (fun vs => callZ (O f vs) (d :: ds) (fun r => K r h nid) (CallV P false f (d :: ds) vs h nid K ⟨⟩) ⟨⟩) ⟨⟩ := by
 simp only [invZ, hm]
 exact callX_eq _ _ _ _ _

def calleeZ (v : D) (x : List D) (K : FuncId → List D → Prop) (_ : Tag K) : Prop :=
 match v with
 | .fn (.func f) first cap => K f (first ++ x ++ cap)
 | _ => False
theorem calleeZ_fn (f : FuncId) (first cap x : List D) (K : FuncId → List D → Prop) (u : Tag K) : calleeZ (.fn (.func f) first cap) x K u = K f (first ++ x ++ cap) := (rfl)

theorem r_callv (t0 : Tmp) (x : List Operand) (t : Array TypeId) : resK P O dr fl (.call ⟨.value (.tmp t0), x.toArray, t⟩) env h nid K =
  calleeZ (look env t0) (x.map (evO env)) (fun f ds => Z ds (fun ds => Z (viewL h ds) (fun vs => callZ (O f vs) ds (fun r => K r h nid) (CallV P dr f ds vs h nid K ⟨⟩) ⟨⟩) ⟨⟩) ⟨⟩) ⟨⟩ := by
 have : resK P O dr fl (.call ⟨.value (.tmp t0), x.toArray, t⟩) env h nid K = calleeZ (look env t0) (x.map (evO env)) (fun f ds => callX P O dr f ds h nid K) ⟨⟩ := by
  simp only [resK, calleeD, evO, calleeZ]
  cases look env t0 with
  | fn f a c => cases f <;> simp [optK]
  | _ => rfl
 rw [this]
 simp only [calleeZ]
 cases look env t0 with
 | fn f a c => cases f with
  | func f => exact callX_eq _ _ _ _ _
  | _ => rfl
 | _ => rfl


def wcOps (P : Program) (O : Oracle) (ops : Array Oper) : List Oper → St → (St → Prop) → Prop
 | [], s, K => K s
 | o :: rest, s, K =>
  match o.guard with
  | none => resK P O false false o.op s.env s.h s.nid fun d h' nid' => wcOps P O ops rest (St.put ⟨s.env, h', nid', s.n⟩ o.dst d) K
  | some (j, want) =>
   match slotOf ops j with
   | some t =>
    match look s.env t with
    | .bool b => BR (b == want) (resK P O false false o.op ((t, .bool want) :: s.env) s.h s.nid fun d h' nid' => wcOps P O ops rest (St.put ⟨(t, .bool want) :: s.env, h', nid', s.n⟩ o.dst d) K)
      (wcOps P O ops rest (St.put { s with env := (t, .bool !want) :: s.env } o.dst (.tup [])) K)
    | .tup [] => wcOps P O ops rest (St.put ⟨s.env, s.h, s.nid, s.n⟩ o.dst (.tup [])) K
    | _ => False
   | none => False

theorem wcOps_aops (hO : OkO P O) : ∀ (l : List Oper) (i : Nat) (s : St) (K : St → Prop), (∀ j, l[j]? = ops[i + j]?) → wcOps P O ops l s K → AOps P n0 ro ops ((List.range l.length).map (i + ·)) s K
 | [], i, s, K, _, h => aops_nil h
 | o :: rest, i, s, K, hl, h => by
  have ho : ops[i]? = some o := by have := hl 0; simpa using this.symm
  have hrest : ∀ j, rest[j]? = ops[i + 1 + j]? := fun j => by have := hl (j + 1); simp at this; rw [this]; congr 1; omega
  have hmap : (List.range (o :: rest).length).map (i + ·) = i :: (List.range rest.length).map (i + 1 + ·) := by
   rw [List.length_cons, List.range_succ_eq_map, List.map_cons, List.map_map]
   simp only [Nat.add_zero, List.cons.injEq, true_and]
   apply List.map_congr_left
   intro a _
   simp only [Function.comp]; omega
  rw [hmap]
  simp only [wcOps] at h
  split at h
  ·rename_i hg
   exact aops_cons ho hg (opOk_resK hO (s := s) h fun d h' nid' hk => wcOps_aops hO rest (i + 1) _ K hrest hk)
  ·rename_i j want hg
   split at h
   ·rename_i t hj
    split at h
    ·rename_i b hb
     refine aops_guard ho hg hj hb (fun e => ?_) (fun e => ?_)
     ·exact opOk_resK hO (s := { s with env := (t, .bool want) :: s.env }) (h.1 (by subst e; simp)) fun d h' nid' hk => wcOps_aops hO rest (i + 1) _ K hrest hk
     ·exact wcOps_aops hO rest (i + 1) _ K hrest (h.2 (by subst e; cases want <;> rfl))
    ·rename_i hb
     exact aops_off ho hg hj hb (wcOps_aops hO rest (i + 1) _ K hrest h)
    ·exact h.elim
   ·exact h.elim

theorem stepR_scope {b : Frame} {a : Act} {k : List Item} {cs : List Frame} {w : World} {c : Code} : step P (lone (b.atR a (.code (.scope c) :: k)) cs w) = .next (lone (b.atR a (.code c :: .inScope c :: k)) cs w) :=
 step_lone_go (by simp [stepG, stepG.exec, Frame.atR])
theorem stepR_inScope {b : Frame} {a : Act} {k : List Item} {cs : List Frame} {w : World} {c : Code} : step P (lone (b.atR a (.inScope c :: k)) cs w) = .next (lone (b.atR a k) cs w) :=
 step_lone_go (by simp [stepG, stepG.exec, Frame.atR])

theorem awp_scope {c : Code} {s : St} {Q : Ex → St → Prop} (h : AWp P n0 ro c s Q) : AWp P n0 ro (.scope c) s Q := by
 intro X k0 k a hn hat b kk cs hro hb hr
 have h0 : (lone (b.atR a (.code (.scope c) :: kk)) cs k.w).fenced P (FW ro) := fenced_calm hb hr rfl
 obtain ⟨e, a₁, w₁, ⟨x, k1, s1, hx, hw1, hq, hat1⟩, harr⟩ := h X k0 k a hn hat b (.inScope c :: kk) cs hro hb hr
 subst hw1
 cases e with
 | normal => exact ⟨.normal, a₁, _, ⟨x, k1, s1, hx, rfl, hq, hat1⟩, .head h0 stepR_scope (StepsIn.trans harr (.one (fenced_calm hb hr rfl) stepR_inScope))⟩
 | exit id =>
  have hxx : exitTo id (.inScope c :: kk) = exitTo id kk := by simp [exitTo]
  exact ⟨.exit id, a₁, _, ⟨x, k1, s1, hx, rfl, hq, hat1⟩, fun k' hk => .head h0 stepR_scope (harr.1 k' (by rw [hxx]; exact hk)),
   fun hr' hk => let ⟨k₁, h1, h2⟩ := harr.2 hr' (by rw [hxx]; exact hk); ⟨k₁, h1, .head h0 stepR_scope h2⟩⟩
 | ret => exact ⟨_, a₁, _, ⟨x, k1, s1, hx, rfl, hq, hat1⟩, .of_steps (.one h0 stepR_scope) harr⟩
 | _ => simp [exOf] at hx

def LoopV (P : Program) (n0 : Nat) (ro : Option Nat) (c : Code) (s : St) (Q : Ex → St → Prop) (_ : Tag (c, Q)) : Prop := AWp P n0 ro c s Q

def annOf : List (Nat × List Ann) → Nat → Option (List Ann)
 | [], _ => none
 | (i, a) :: r, k => if k = i then some a else annOf r k

def wc (P : Program) (n0 : Nat) (ro : Option Nat) (T : List (Nat × List Ann)) (O : Oracle) : Code → St → (Ex → St → Prop) → Prop
 | .skip, s, Q => Q .normal s
 | .label _, s, Q => Q .normal s
 | .exit id, s, Q => Q (.exit id) s
 | .ret, s, Q => Q .ret s
 | .seq a b, s, Q => wc P n0 ro T O a s (thenQ (fun s' => wc P n0 ro T O b s' Q) Q)
 | .cond c a b, s, Q =>
  match evO s.env c with
  | .bool t => BR t (wc P n0 ro T O a s Q) (wc P n0 ro T O b s Q)
  | _ => False
 | .block id c, s, Q => wc P n0 ro T O c s (blockQ id Q)
 | .scope c, s, Q => wc P n0 ro T O c s Q
 | .region _ ops false, s, Q => wcOps P O ops ops.toList s (Q .normal)
 | .region id ops true, s, Q =>
  match annOf T id with
  | some as => anyK P O ops as ops.toList s (Q .normal)
  | none => LoopV P n0 ro (.region id ops true) s Q ⟨⟩
 | c, s, Q => LoopV P n0 ro c s Q ⟨⟩

def tabOk (T : List (Nat × List Ann)) : Code → Bool
 | .seq a b => tabOk T a && tabOk T b
 | .cond _ a b => tabOk T a && tabOk T b
 | .block _ c => tabOk T c
 | .scope c => tabOk T c
 | .region id ops true => match annOf T id with
  | some as => annOk ops as
  | none => true
 | _ => true

theorem wc_sound (hO : OkO P O) (hm : P.follows .mixedOrders = true) : ∀ (c : Code) (s : St) (Q : Ex → St → Prop), tabOk T c = true → wc P n0 ro T O c s Q → AWp P n0 ro c s Q
 | .skip, s, Q, _, h => awp_skip h
 | .label _, s, Q, _, h => awp_label h
 | .exit _, s, Q, _, h => awp_exit h
 | .ret, s, Q, _, h => awp_ret h
 | .seq a b, s, Q, ht, h => by
  simp only [tabOk, Bool.and_eq_true] at ht
  exact awp_seq (awp_mono (wc_sound hO hm a s _ ht.1 h) fun e s' h' => by
   cases e with
   | normal => exact wc_sound hO hm b s' Q ht.2 h'
   | exit id => exact h'
   | ret => exact h')
 | .cond c a b, s, Q, ht, h => by
  simp only [tabOk, Bool.and_eq_true] at ht
  simp only [wc] at h
  split at h
  ·rename_i t hc
   exact awp_cond hc (fun e => wc_sound hO hm a s Q ht.1 (h.1 e)) (fun e => wc_sound hO hm b s Q ht.2 (h.2 e))
  ·exact h.elim
 | .block id c, s, Q, ht, h => awp_block (wc_sound hO hm c s _ ht h)
 | .region id ops false, s, Q, _, h => by
  refine awp_region ?_
  have := wcOps_aops hO (n0 := n0) (ro := ro) ops.toList 0 s _ (fun j => by simp) h
  simpa using this
 | .region id ops true, s, Q, ht, h => by
  simp only [wc, tabOk] at h ht
  split at h
  ·rename_i as ha
   rw [ha] at ht
   exact awp_draw hO hm ht h
  ·exact h
 | .loop c, s, Q, _, h => h
 | .rangeFunc f p a b, s, Q, _, h => h
 | .scope c, s, Q, ht, h => awp_scope (wc_sound hO hm c s Q ht h)
 | .goto l, s, Q, _, h => h
 | .refuse w, s, Q, _, h => h

def endK (P : Program) (rs : List ResultVar) (Q : D → H → Nat → Prop) : Ex → St → Prop
 | .normal, s | .ret, s => optK (resD P s rs) fun ds => Q (tupD ds) s.h s.nid
 | _, _ => False

theorem endQ_of {fn : Func} {rs : List ResultVar} (hrs : fn.results.toList = rs) {Q : D → H → Nat → Prop} {e : Ex} {s : St} (h : endK P rs Q e s) : endQ P fn Q e s := by
 cases e with
 | exit => exact h
 | _ => obtain ⟨ds, h1, h2⟩ := optK_inv (show optK _ _ from h); exact ⟨ds, by rw [hrs]; exact h1, h2⟩

theorem pure_of_wc {f : FuncId} {fn : Func} {c : Code} {ds : List D} {r : D} {rs : List ResultVar} {m : Nat} (T : List (Nat × List Ann)) (hO : OkO P O) (hm : P.follows .mixedOrders = true) (hf : P.funcs[f]? = some fn) (hb : fn.body = some c) (hcal : callable P f = true)
  (hrs : fn.results.toList = rs) (hn : ds.length + (fn.ntmps - ds.length) = m) (ht : tabOk T c = true) (h : wc P 0 none T O c ⟨argEnv 0 ds, [], 0, m⟩ (endK P rs fun d h _ => view h d = r)) : Pure P f ds r :=
 pure_of_awp hf hb hcal (awp_mono (wc_sound hO hm _ _ _ ht (by rw [hn]; exact h)) fun e s hq => endQ_of hrs hq)

end

section
variable {P : Program} {O : Oracle} {n0 : Nat} {ro : Option Nat} {T : List (Nat × List Ann)} {ops : Array Oper} {dr fl tr : Bool}

theorem wc_skip (s : St) (Q : Ex → St → Prop) : wc P n0 ro T O .skip s Q = Q .normal s := (rfl)
theorem wc_label (l : Nat) (s : St) (Q : Ex → St → Prop) : wc P n0 ro T O (.label l) s Q = Q .normal s := (rfl)
theorem wc_exit (l : Nat) (s : St) (Q : Ex → St → Prop) : wc P n0 ro T O (.exit l) s Q = Q (.exit l) s := (rfl)
theorem wc_ret (s : St) (Q : Ex → St → Prop) : wc P n0 ro T O .ret s Q = Q .ret s := (rfl)
theorem wc_seq (a b : Code) (s : St) (Q : Ex → St → Prop) : wc P n0 ro T O (.seq a b) s Q = wc P n0 ro T O a s (thenQ (fun s' => wc P n0 ro T O b s' Q) Q) := (rfl)
theorem wc_scope (a : Code) (s : St) (Q : Ex → St → Prop) : wc P n0 ro T O (.scope a) s Q = wc P n0 ro T O a s Q := (rfl)
theorem wc_block (id : Nat) (a : Code) (s : St) (Q : Ex → St → Prop) : wc P n0 ro T O (.block id a) s Q = wc P n0 ro T O a s (blockQ id Q) := (rfl)
theorem wc_region (id : Nat) (l : List Oper) (s : St) (Q : Ex → St → Prop) : wc P n0 ro T O (.region id l.toArray false) s Q = wcOps P O l.toArray l s (Q .normal) := (rfl)
def drawZ (o : Option (List Ann)) (K : List Ann → Prop) (p : Prop) (_ : Tag (K, p)) : Prop :=
 match o with
 | some a => K a
 | none => p
theorem drawZ_some (a : List Ann) (K : List Ann → Prop) (p : Prop) (u : Tag (K, p)) : drawZ (some a) K p u = K a := (rfl)
theorem drawZ_none (K : List Ann → Prop) (p : Prop) (u : Tag (K, p)) : drawZ none K p u = p := (rfl)
theorem wc_draw (id : Nat) (l : List Oper) (s : St) (Q : Ex → St → Prop) : wc P n0 ro T O (.region id l.toArray true) s Q = drawZ (annOf T id) (fun as => anyK P O l.toArray as l s (Q .normal)) (LoopV P n0 ro (.region id l.toArray true) s Q ⟨⟩) ⟨⟩ := by
 simp only [wc, drawZ]
theorem annOf_nil (k : Nat) : annOf [] k = none := (rfl)
theorem annOf_cons (i k : Nat) (a : List Ann) (r : List (Nat × List Ann)) : annOf ((i, a) :: r) k = if k = i then some a else annOf r k := (rfl)
theorem wc_loop (c : Code) (s : St) (Q : Ex → St → Prop) : wc P n0 ro T O (.loop c) s Q = LoopV P n0 ro (.loop c) s Q ⟨⟩ := (rfl)
theorem wc_rangeFunc (f : Operand) (p : Array Tmp) (a b : Code) (s : St) (Q : Ex → St → Prop) : wc P n0 ro T O (.rangeFunc f p a b) s Q = LoopV P n0 ro (.rangeFunc f p a b) s Q ⟨⟩ := (rfl)

def condZ (d : D) (p q : Prop) (_ : Tag (p, q)) : Prop :=
 match d with
 | .bool t => BR t p q
 | _ => False
theorem wc_cond (c : Operand) (a b : Code) (s : St) (Q : Ex → St → Prop) : wc P n0 ro T O (.cond c a b) s Q = condZ (evO s.env c) (wc P n0 ro T O a s Q) (wc P n0 ro T O b s Q) ⟨⟩ := (rfl)
theorem condZ_true (p q : Prop) (u : Tag (p, q)) : condZ (.bool true) p q u = p := by simp [condZ, BR]
theorem condZ_false (p q : Prop) (u : Tag (p, q)) : condZ (.bool false) p q u = q := by simp [condZ, BR]
theorem condZ_bool (t : Bool) (p q : Prop) (u : Tag (p, q)) : condZ (.bool t) p q u = BR t p q := (rfl)

theorem wcOps_nil (s : St) (K : St → Prop) : wcOps P O ops [] s K = K s := (rfl)
theorem wcOps_cons (d : Option Tmp) (op : Op) (ty : TypeId) (pos : String) (after : Array Edge) (rest : List Oper) (env : Env) (h : H) (nid n : Nat) (K : St → Prop) :
  wcOps P O ops (⟨d, op, ty, pos, after, none⟩ :: rest) ⟨env, h, nid, n⟩ K = resK P O false false op env h nid fun v h' nid' => Z (St.put ⟨env, h', nid', n⟩ d v) (fun s' => wcOps P O ops rest s' K) ⟨⟩ := (rfl)

def guardZ (d : D) (want : Bool) (p q r : Prop) (_ : Tag (p, q, r)) : Prop :=
 match d with
 | .bool b => BR (b == want) p q
 | .tup [] => r
 | _ => False
theorem guardZ_true (p q r : Prop) (u : Tag (p, q, r)) : guardZ (.bool true) true p q r u = p := by simp [guardZ, BR]
theorem guardZ_false (p q r : Prop) (u : Tag (p, q, r)) : guardZ (.bool false) false p q r u = p := by simp [guardZ, BR]
theorem guardZ_true' (p q r : Prop) (u : Tag (p, q, r)) : guardZ (.bool false) true p q r u = q := by simp [guardZ, BR]
theorem guardZ_false' (p q r : Prop) (u : Tag (p, q, r)) : guardZ (.bool true) false p q r u = q := by simp [guardZ, BR]
theorem guardZ_bool_true (b : Bool) (p q r : Prop) (u : Tag (p, q, r)) : guardZ (.bool b) true p q r u = BR b p q := by simp [guardZ]
theorem guardZ_bool_false (b : Bool) (p q r : Prop) (u : Tag (p, q, r)) : guardZ (.bool b) false p q r u = BR b q p := by
 cases b <;> simp [guardZ, BR]
theorem guardZ_off (want : Bool) (p q r : Prop) (u : Tag (p, q, r)) : guardZ (.tup []) want p q r u = r := (rfl)
def slotZ (o : Option Tmp) (K : Tmp → Prop) (_ : Tag K) : Prop :=
 match o with
 | some t => K t
 | none => False
theorem slotZ_some (t : Tmp) (K : Tmp → Prop) (u : Tag K) : slotZ (some t) K u = K t := (rfl)
theorem wcOps_guard (d : Option Tmp) (op : Op) (ty : TypeId) (pos : String) (after : Array Edge) (j : Nat) (want : Bool) (rest : List Oper) (env : Env) (h : H) (nid n : Nat) (K : St → Prop) :
  wcOps P O ops (⟨d, op, ty, pos, after, some (j, want)⟩ :: rest) ⟨env, h, nid, n⟩ K =
   slotZ (slotOf ops j) (fun t => guardZ (look env t) want (resK P O false false op ((t, .bool want) :: env) h nid fun v h' nid' => Z (St.put ⟨(t, .bool want) :: env, h', nid', n⟩ d v) (fun s' => wcOps P O ops rest s' K) ⟨⟩)
    (Z (St.put ⟨(t, .bool !want) :: env, h, nid, n⟩ d (.tup [])) (fun s' => wcOps P O ops rest s' K) ⟨⟩)
    (Z (St.put ⟨env, h, nid, n⟩ d (.tup [])) (fun s' => wcOps P O ops rest s' K) ⟨⟩) ⟨⟩) ⟨⟩ := (rfl)

theorem phK_nil (s : St) (rows : List Row) (hs : List H) (K : St → List Row → List H → Prop) : phK P O ops fl tr [] s rows hs K = K s rows hs := (rfl)
theorem phK_cons (d : Option Tmp) (op : Op) (ty : TypeId) (pos : String) (after : Array Edge) (rest : List Oper) (env : Env) (h : H) (nid n : Nat) (rows : List Row) (hs : List H) (K : St → List Row → List H → Prop) :
  phK P O ops fl false (⟨d, op, ty, pos, after, none⟩ :: rest) ⟨env, h, nid, n⟩ rows hs K = resK P O true fl op env h nid fun v h' nid' => Z (St.put ⟨env, h', nid', n⟩ d v) (fun s' => phK P O ops fl false rest s' rows hs K) ⟨⟩ := (rfl)
theorem phK_guard (d : Option Tmp) (op : Op) (ty : TypeId) (pos : String) (after : Array Edge) (j : Nat) (want : Bool) (rest : List Oper) (env : Env) (h : H) (nid n : Nat) (rows : List Row) (hs : List H) (K : St → List Row → List H → Prop) :
  phK P O ops fl false (⟨d, op, ty, pos, after, some (j, want)⟩ :: rest) ⟨env, h, nid, n⟩ rows hs K =
   slotZ (slotOf ops j) (fun t => guardZ (look env t) want (resK P O true fl op ((t, .bool want) :: env) h nid fun v h' nid' => Z (St.put ⟨(t, .bool want) :: env, h', nid', n⟩ d v) (fun s' => phK P O ops fl false rest s' rows hs K) ⟨⟩)
    (Z (St.put ⟨(t, .bool !want) :: env, h, nid, n⟩ d (.tup [])) (fun s' => phK P O ops fl false rest s' rows hs K) ⟨⟩)
    (Z (St.put ⟨env, h, nid, n⟩ d (.tup [])) (fun s' => phK P O ops fl false rest s' rows hs K) ⟨⟩) ⟨⟩) ⟨⟩ := (rfl)
theorem phK_consT (d : Option Tmp) (op : Op) (ty : TypeId) (pos : String) (after : Array Edge) (rest : List Oper) (env : Env) (h : H) (nid n : Nat) (rows : List Row) (hs : List H) (K : St → List Row → List H → Prop) :
  phK P O ops fl true (⟨d, op, ty, pos, after, none⟩ :: rest) ⟨env, h, nid, n⟩ rows hs K = resK P O true fl op env h nid fun v h' nid' => Z (St.put ⟨env, h', nid', n⟩ d v) (fun s' => phK P O ops fl true rest s' (⟨⟨d, op, ty, pos, after, none⟩, env, h, true, v⟩ :: rows) (s'.h :: hs) K) ⟨⟩ := (rfl)
theorem phK_guardT (d : Option Tmp) (op : Op) (ty : TypeId) (pos : String) (after : Array Edge) (j : Nat) (want : Bool) (rest : List Oper) (env : Env) (h : H) (nid n : Nat) (rows : List Row) (hs : List H) (K : St → List Row → List H → Prop) :
  phK P O ops fl true (⟨d, op, ty, pos, after, some (j, want)⟩ :: rest) ⟨env, h, nid, n⟩ rows hs K =
   slotZ (slotOf ops j) (fun t => guardZ (look env t) want (resK P O true fl op ((t, .bool want) :: env) h nid fun v h' nid' => Z (St.put ⟨(t, .bool want) :: env, h', nid', n⟩ d v)
     (fun s' => phK P O ops fl true rest s' (⟨⟨d, op, ty, pos, after, some (j, want)⟩, (t, .bool want) :: env, h, true, v⟩ :: rows) (s'.h :: hs) K) ⟨⟩)
    (Z (St.put ⟨(t, .bool !want) :: env, h, nid, n⟩ d (.tup [])) (fun s' => phK P O ops fl true rest s' (⟨⟨d, op, ty, pos, after, some (j, want)⟩, (t, .bool !want) :: env, h, false, .tup []⟩ :: rows) (s'.h :: hs) K) ⟨⟩)
    (Z (St.put ⟨env, h, nid, n⟩ d (.tup [])) (fun s' => phK P O ops fl true rest s' (⟨⟨d, op, ty, pos, after, some (j, want)⟩, env, h, false, .tup []⟩ :: rows) (s'.h :: hs) K) ⟨⟩) ⟨⟩) ⟨⟩ := (rfl)

theorem isF_false (o : Oper) : isF false o = false := by
 unfold isF dkind
 cases o.op with
 | call c =>
  obtain ⟨callee, a, t⟩ := c
  cases callee with
  | builtin b => cases b <;> rfl
  | _ => rfl
 | _ => rfl
theorem adopt_false : ∀ (l : List Oper) (s : St) (K : St → Prop), adoptK P false l s K = K s
 | [], s, K => rfl
 | o :: r, s, K => by simp only [adoptK, isF_false, Bool.false_eq_true, if_false]; exact adopt_false r s K
theorem adopt_alloc (d : Option Tmp) (t : TypeId) (ty : TypeId) (pos : String) (after : Array Edge) (g : Option (Nat × Bool)) (r : List Oper) (env : Env) (h : H) (nid n : Nat) (K : St → Prop) :
  adoptK P true (⟨d, .alloc t, ty, pos, after, g⟩ :: r) ⟨env, h, nid, n⟩ K = Zo (zeroD P t) (fun zs => Z (St.put ⟨env, (nid, .box zs) :: h, nid + 1, n⟩ d (.ptr nid 0)) (fun s' => adoptK P true r s' K) ⟨⟩) ⟨⟩ := by
 simp only [adoptK, zeroA, Zo, optK, Z]
 cases zeroD P t <;> rfl
theorem adopt_nil (s : St) (K : St → Prop) : adoptK P true [] s K = K s := (rfl)
theorem adopt_skip (o : Oper) (r : List Oper) (s : St) (K : St → Prop) (hf : isF true o = false) : adoptK P true (o :: r) s K = adoptK P true r s K := by
 simp only [adoptK, hf, Bool.false_eq_true, if_false]

theorem anyK_nil (l : List Oper) (s : St) (K : St → Prop) : anyK P O ops [] l s K = K s := (rfl)
theorem anyK_consF (len : Nat) (as : List Ann) (l : List Oper) (env : Env) (h : H) (nid n : Nat) (K : St → Prop) : anyK P O ops ((len, false, false, []) :: as) l ⟨env, h, nid, n⟩ K =
  phK P O ops false false (l.take len) ⟨env, h, nid, n⟩ [] [] (fun s' _ _ => anyK P O ops as (l.drop len) s' K) := by
 simp only [anyK, reK, adopt_false, Bool.false_eq_true, if_false]
theorem anyK_consR (len : Nat) (re : List (Nat × Nat)) (as : List Ann) (l : List Oper) (env : Env) (h : H) (nid n : Nat) (K : St → Prop) : anyK P O ops ((len, false, true, re) :: as) l ⟨env, h, nid, n⟩ K =
  phK P O ops false true (l.take len) ⟨env, h, nid, n⟩ [] [h] (fun s' rows hs => reK P false rows hs re (anyK P O ops as (l.drop len) s' K)) := by
 simp only [anyK, adopt_false, if_true]
theorem anyK_consA (len : Nat) (as : List Ann) (l : List Oper) (env : Env) (h : H) (nid n : Nat) (K : St → Prop) : anyK P O ops ((len, true, false, []) :: as) l ⟨env, h, nid, n⟩ K =
  phK P O ops true false (l.take len) ⟨env, h, nid, n⟩ [] [] (fun s' _ _ => adoptK P true (l.take len) s' fun s2 => anyK P O ops as (l.drop len) s2 K) := by
 simp only [anyK, reK, Bool.false_eq_true, if_false]

def ReV (P : Program) (fl : Bool) (row : Row) (h : H) : Prop := row.run = true → ReOk P fl row h
theorem reK_nil (rows : List Row) (hs : List H) (p : Prop) : reK P fl rows hs [] p = p := (rfl)
theorem reK_cons (rows : List Row) (hs : List H) (x y : Nat) (r : List (Nat × Nat)) (p : Prop) : reK P fl rows hs ((x, y) :: r) p = Zo rows[x]? (fun row => Zo hs[y]? (fun h => ReV P fl row h ∧ reK P fl rows hs r p) ⟨⟩) ⟨⟩ := by
 simp only [reK, Zo, optK, ReV]
 cases rows[x]? <;> cases hs[y]? <;> rfl

theorem endK_normal (rs : List ResultVar) (Q : D → H → Nat → Prop) (env : Env) (h : H) (nid n : Nat) : endK P rs Q .normal ⟨env, h, nid, n⟩ = Zo (resD P ⟨env, h, nid, n⟩ rs) (fun ds => Q (tupD ds) h nid) ⟨⟩ := (rfl)
theorem endK_ret (rs : List ResultVar) (Q : D → H → Nat → Prop) (env : Env) (h : H) (nid n : Nat) : endK P rs Q .ret ⟨env, h, nid, n⟩ = Zo (resD P ⟨env, h, nid, n⟩ rs) (fun ds => Q (tupD ds) h nid) ⟨⟩ := (rfl)


def envW (m : Nat) (e : Env) : Env → Prop
 | [] => True
 | (t, d) :: r => look e t = d ∧ d.lt m = true ∧ envW m e r

theorem envW_look {m : Nat} {e : Env} : ∀ {e' : Env}, envW m e e' → ∀ i, look e' i = .any ∨ (look e i = look e' i ∧ (look e' i).lt m = true)
 | [], _, i => .inl rfl
 | (t, d) :: r, h, i => by
  simp only [look]
  by_cases hi : i = t
  ·subst hi; rw [if_pos rfl]; exact .inr ⟨h.1, h.2.1⟩
  ·rw [if_neg hi]; exact envW_look h.2.2 i

def heapW (m : Nat) (h : H) : H → Prop
 | [] => True
 | (i, b) :: r => hget h i = some b ∧ i < m ∧ blkLt m b = true ∧ heapW m h r

theorem heapW_get {m : Nat} {h : H} : ∀ {h' : H}, heapW m h h' → ∀ id blk, hget h' id = some blk → hget h id = some blk ∧ id < m ∧ blkLt m blk = true
 | [], _, id, blk, hb => by simp [hget] at hb
 | (i, b) :: r, hw, id, blk, hb => by
  simp only [hget] at hb
  by_cases hi : id = i
  ·subst hi; rw [if_pos rfl] at hb; cases hb; exact ⟨hw.1, hw.2.1, hw.2.2.1⟩
  ·rw [if_neg hi] at hb; exact heapW_get hw.2.2.2 id blk hb

def headW (n0 : Nat) (s : St) (e : Env) (h : H) (nid n : Nat) : Prop := s.n = n ∧ n0 ≤ nid ∧ heapW nid s.h h ∧ envW nid s.env e

theorem weak_of {s : St} {e : Env} {h : H} {nid n : Nat} (hw : headW n0 s e h nid n) : Weak n0 s ⟨e, h, nid, n⟩ where
 n := hw.1
 env := fun i => (envW_look hw.2.2.2 i).imp id fun ⟨a, b⟩ => ⟨a, .inr b⟩
 sub := fun id blk hb => (heapW_get hw.2.2.1 id blk hb).1
 key := fun id blk hb => (heapW_get hw.2.2.1 id blk hb).2.1
 nid := hw.2.1
 roll := .inr fun id blk hb => (heapW_get hw.2.2.1 id _ hb).2.2

theorem loopV {ι : Type} {c : Code} {s : St} {Q : Ex → St → Prop} {u : Tag (Code.loop c, Q)} (hO : OkO P O) (T : List (Nat × List Ann)) (E : ι → Env) (V : ι → H) (nid : Nat) (I : ι → Prop) (μ : ι → Nat) (i0 : ι) (hm : P.follows .mixedOrders = true) (ht : tabOk T c = true)
  (h0 : I i0) (hw : headW n0 s (E i0) (V i0) nid s.n)
  (round : ∀ i, I i → wc P n0 ro T O c ⟨E i, V i, nid, s.n⟩ (thenQ (fun s' => ∃ j, I j ∧ μ j < μ i ∧ headW n0 s' (E j) (V j) nid s.n) Q)) : LoopV P n0 ro (.loop c) s Q u :=
 awp_loop (fun i => ⟨E i, V i, nid, s.n⟩) I μ i0 h0 (weak_of hw) fun i hi => awp_mono (wc_sound hO hm c _ _ ht (round i hi)) fun e s' h' => by
  cases e with
  | normal => obtain ⟨j, a, b, d⟩ := h'; exact ⟨j, a, b, weak_of d⟩
  | exit => exact h'
  | ret => exact h'

end

theorem fr_any  : D.fr (.any) = true := (rfl)
theorem fr_int (k : IntKind) (n : Int) : D.fr (.int k n) = true := (rfl)
theorem fr_bool (b : Bool) : D.fr (.bool b) = true := (rfl)
theorem fr_str (b : ByteArray) : D.fr (.str b) = true := (rfl)
theorem fr_nils  : D.fr (.nils) = true := (rfl)
theorem fr_sl (e : List (List D)) : D.fr (.sl e) = true := (rfl)
theorem fr_ref (c : List D) (o : Nat) : D.fr (.ref c o) = true := (rfl)
theorem fr_nilp  : D.fr (.nilp) = true := (rfl)
theorem fr_nilf  : D.fr (.nilf) = true := (rfl)
theorem fr_nili  : D.fr (.nili) = true := (rfl)
theorem fr_nilm  : D.fr (.nilm) = true := (rfl)
theorem fr_mpd (k : List (D × D)) : D.fr (.mpd k) = true := (rfl)
theorem fr_refm (k : List (D × D)) : D.fr (.refm k) = true := (rfl)
theorem fr_ptr (b o : Nat) : D.fr (.ptr b o) = false := (rfl)
theorem fr_osl (b n : Nat) : D.fr (.osl b n) = false := (rfl)
theorem fr_mp (b : Nat) : D.fr (.mp b) = false := (rfl)
theorem nm_any  : D.nm (.any) = true := (rfl)
theorem nm_int (k : IntKind) (n : Int) : D.nm (.int k n) = true := (rfl)
theorem nm_bool (b : Bool) : D.nm (.bool b) = true := (rfl)
theorem nm_str (b : ByteArray) : D.nm (.str b) = true := (rfl)
theorem nm_nils  : D.nm (.nils) = true := (rfl)
theorem nm_sl (e : List (List D)) : D.nm (.sl e) = true := (rfl)
theorem nm_ref (c : List D) (o : Nat) : D.nm (.ref c o) = true := (rfl)
theorem nm_nilp  : D.nm (.nilp) = true := (rfl)
theorem nm_nilf  : D.nm (.nilf) = true := (rfl)
theorem nm_nili  : D.nm (.nili) = true := (rfl)
theorem nm_nilm  : D.nm (.nilm) = true := (rfl)
theorem nm_ptr (b o : Nat) : D.nm (.ptr b o) = true := (rfl)
theorem nm_osl (b n : Nat) : D.nm (.osl b n) = true := (rfl)
theorem nm_mp (b : Nat) : D.nm (.mp b) = true := (rfl)
theorem nm_mpd (k : List (D × D)) : D.nm (.mpd k) = false := (rfl)
theorem nm_refm (k : List (D × D)) : D.nm (.refm k) = false := (rfl)
theorem fr_agg (l : List D) : D.fr (.agg l) = D.frL l := (rfl)
theorem fr_tup (l : List D) : D.fr (.tup l) = D.frL l := (rfl)
theorem fr_fn (g : Fn) (a c : List D) : D.fr (.fn g a c) = (D.frL a && D.frL c) := (rfl)
theorem fr_ifc (t : TypeId) (d : D) : D.fr (.ifc t d) = D.fr d := (rfl)
theorem frL_nil : D.frL [] = true := (rfl)
theorem frL_cons (d : D) (l : List D) : D.frL (d :: l) = (D.fr d && D.frL l) := (rfl)
theorem nm_agg (l : List D) : D.nm (.agg l) = D.nmL l := (rfl)
theorem nm_tup (l : List D) : D.nm (.tup l) = D.nmL l := (rfl)
theorem nm_fn (g : Fn) (a c : List D) : D.nm (.fn g a c) = (D.nmL a && D.nmL c) := (rfl)
theorem nm_ifc (t : TypeId) (d : D) : D.nm (.ifc t d) = D.nm d := (rfl)
theorem nmL_nil : D.nmL [] = true := (rfl)
theorem nmL_cons (d : D) (l : List D) : D.nmL (d :: l) = (D.nm d && D.nmL l) := (rfl)
theorem flat_mpd (k : List (D × D)) : D.flat (.mpd k) = false := (rfl)
theorem flat_refm (k : List (D × D)) : D.flat (.refm k) = false := (rfl)
theorem lt_mpd (m : Nat) (k : List (D × D)) : D.lt m (.mpd k) = Nat.blt 0 m := (rfl)
theorem lt_refm (m : Nat) (k : List (D × D)) : D.lt m (.refm k) = Nat.blt 0 m := (rfl)
theorem view_mpd (h : H) (k : List (D × D)) : view h (.mpd k) = .mpd k := (rfl)
theorem view_refm (h : H) (k : List (D × D)) : view h (.refm k) = .refm k := (rfl)
theorem io_mpd (k : List (D × D)) : isOsl (.mpd k) = false := (rfl)
theorem io_refm (k : List (D × D)) : isOsl (.refm k) = false := (rfl)
end Go.Sx

/- Sx, part W: rules by which data are computed. Own work. -/
namespace Go.Sx

section
variable {P : Program}

theorem wrap_i64 {z : Int} (h1 : -9223372036854775808 ≤ z) (h2 : z ≤ 9223372036854775807) : IntKind.i64.wrap z = z := by
 simp only [IntKind.wrap, IntKind.signed, IntKind.bits, Bool.true_and]
 split <;> rename_i h <;> simp at h <;> omega

theorem bin_int (op : BinOp) (t : TypeId) (k : IntKind) (x y : Int) : binD P op t (.int k x) (.int k y) = arith op k x y := by simp [binD]
theorem bin_str (op : BinOp) (t : TypeId) (x y : ByteArray) : binD P op t (.str x) (.str y) = strOp op x y := (rfl)
theorem a_add (k : IntKind) (x y : Int) : arith .add k x y = some (.int k (k.wrap (x + y))) := (rfl)
theorem a_sub (k : IntKind) (x y : Int) : arith .sub k x y = some (.int k (k.wrap (x - y))) := (rfl)
theorem a_mul (k : IntKind) (x y : Int) : arith .mul k x y = some (.int k (k.wrap (x * y))) := (rfl)
theorem a_eql (k : IntKind) (x y : Int) : arith .eql k x y = some (.bool (x == y)) := (rfl)
theorem a_neq (k : IntKind) (x y : Int) : arith .neq k x y = some (.bool (x != y)) := (rfl)
theorem a_lss (k : IntKind) (x y : Int) : arith .lss k x y = some (.bool (decide (x < y))) := (rfl)
theorem a_leq (k : IntKind) (x y : Int) : arith .leq k x y = some (.bool (decide (x ≤ y))) := (rfl)
theorem a_gtr (k : IntKind) (x y : Int) : arith .gtr k x y = some (.bool (decide (y < x))) := (rfl)
theorem a_geq (k : IntKind) (x y : Int) : arith .geq k x y = some (.bool (decide (y ≤ x))) := (rfl)

theorem pick_true (a b : D) : pickD (.bool true) a b = some a := (rfl)
theorem pick_false (a b : D) : pickD (.bool false) a b = some b := (rfl)
theorem not_bool (b : Bool) : notD (.bool b) = some (.bool (!b)) := (rfl)
theorem neg_int (k : IntKind) (n : Int) : negD (.int k n) = some (.int k (k.wrap (0 - n))) := (rfl)

theorem fa_of {t : TypeId} {f o : Nat} (hf : fieldOff P t f = some o) (h : H) (x : D) : fieldAddrD P h t f x = atOff h o x := by simp [fieldAddrD, hf]
theorem at_ptr (h : H) (o b p : Nat) : atOff h o (.ptr b p) = some (.ptr b (p + o)) := (rfl)
theorem at_ref (h : H) (o p : Nat) (cs : List D) : atOff h o (.ref cs p) = some (.ref cs (p + o)) := (rfl)

def boxL (P : Program) (t : TypeId) (o : Nat) : Option Blk → Option D
 | some (.box cs) => loadD P t cs o
 | _ => none
theorem boxL_box (t : TypeId) (o : Nat) (cs : List D) : boxL P t o (some (.box cs)) = loadD P t cs o := (rfl)
theorem load_ptr (h : H) (t : TypeId) (b o : Nat) : loadAtD P h t (.ptr b o) = boxL P t o (hget h b) := by
 simp only [loadAtD, boxL]
 cases hget h b with
 | none => rfl
 | some x => cases x <;> rfl
theorem load_ref (h : H) (t : TypeId) (cs : List D) (o : Nat) : loadAtD P h t (.ref cs o) = loadD P t cs o := (rfl)
theorem loadD_one {t : TypeId} {n : Nat} (ha : isAggT P t = some false) (hs : sizeT P t = some n) (cs : List D) (o : Nat) : loadD P t cs o = cs[o]? := by simp [loadD, ha, hs]
theorem loadD_agg {t : TypeId} {n : Nat} (ha : isAggT P t = some true) (hs : sizeT P t = some n) (cs : List D) (o : Nat) : loadD P t cs o = if o + n ≤ cs.length then some (.agg ((cs.drop o).take n)) else none := by simp [loadD, ha, hs]
theorem partD_one {t : TypeId} {n : Nat} (ha : isAggT P t = some false) (hs : sizeT P t = some n) (cs : List D) (o : Nat) : partD P t cs o = cs[o]? := by simp [partD, ha, hs]
theorem partD_agg {t : TypeId} {n : Nat} (ha : isAggT P t = some true) (hs : sizeT P t = some n) (cs : List D) (o : Nat) : partD P t cs o = some (.agg ((cs.drop o).take n)) := by simp [partD, ha, hs]
theorem field_of {t : TypeId} {f : Nat} {ty : TypeId} {o : Nat} (hf : fieldTy P t f = some (ty, o)) (cs : List D) : fieldD P t f (.agg cs) = partD P ty cs o := by simp [fieldD, hf]

theorem alloc_of {t : TypeId} {zs : List D} (hz : zeroD P t = some zs) (h : H) (nid : Nat) : allocD P h nid t = some (.ptr nid 0, (nid, .box zs) :: h, nid + 1) := by simp [allocD, hz]
def boxB (nid : Nat) (h : H) (o : Option (List D)) : Option (D × H × Nat) :=
 match o with
 | some cs => some (.ptr nid 0, (nid, .box cs) :: h, nid + 1)
 | none => none
theorem boxB_some (nid : Nat) (h : H) (cs : List D) : boxB nid h (some cs) = some (.ptr nid 0, (nid, .box cs) :: h, nid + 1) := (rfl)
theorem box_of (h : H) (nid : Nat) (x : D) : boxD h nid x = boxB nid h (cellsE h x) := by
 simp only [boxD, boxB]; cases cellsE h x <;> rfl
theorem cells_agg (h : H) (cs : List D) : cellsE h (.agg cs) = some cs := (rfl)
theorem cells_int (h : H) (k : IntKind) (n : Int) : cellsE h (.int k n) = some [.int k n] := (rfl)
theorem cells_bool (h : H) (b : Bool) : cellsE h (.bool b) = some [.bool b] := (rfl)
theorem cells_str (h : H) (b : ByteArray) : cellsE h (.str b) = some [.str b] := (rfl)
theorem cells_sl (h : H) (es : List (List D)) : cellsE h (.sl es) = some [.sl es] := (rfl)
theorem cells_nils (h : H) : cellsE h .nils = some [.nils] := (rfl)
theorem cells_nilp (h : H) : cellsE h .nilp = some [.nilp] := (rfl)
theorem cells_nilf (h : H) : cellsE h .nilf = some [.nilf] := (rfl)
theorem cells_nili (h : H) : cellsE h .nili = some [.nili] := (rfl)
theorem cells_ptr (h : H) (b o : Nat) : cellsE h (.ptr b o) = some [.ptr b o] := (rfl)
theorem cells_ref (h : H) (cs : List D) (o : Nat) : cellsE h (.ref cs o) = some [.ref cs o] := (rfl)
theorem cells_fn (h : H) (f : Fn) (a c : List D) : cellsE h (.fn f a c) = some [.fn f a c] := (rfl)
theorem cells_ifc (h : H) (t : TypeId) (d : D) : cellsE h (.ifc t d) = some [.ifc t d] := (rfl)
theorem cells_osl (h : H) (b n : Nat) : cellsE h (.osl b n) = if curD h (.osl b n) then some [.osl b n] else none := (rfl)

def stB (h : H) (nid b o n : Nat) (ds : List D) : Option Blk → Option (D × H × Nat)
 | some (.box cs) => if ds.length = n ∧ o + n ≤ cs.length ∧ ds.all (curD h) then some (.any, hset h b (.box (putL cs o ds)), nid) else none
 | _ => none
theorem stB_box (h : H) (nid b o n : Nat) (ds cs : List D) : stB h nid b o n ds (some (.box cs)) = if ds.length = n ∧ o + n ≤ cs.length ∧ ds.all (curD h) then some (.any, hset h b (.box (putL cs o ds)), nid) else none := (rfl)
def stC (P : Program) (h : H) (nid b o n : Nat) : Option (List D) → Option (D × H × Nat)
 | some ds => stB h nid b o n ds (hget h b)
 | none => none
theorem stC_some (h : H) (nid b o n : Nat) (ds : List D) : stC P h nid b o n (some ds) = stB h nid b o n ds (hget h b) := (rfl)
theorem store_ptr {t : TypeId} {n : Nat} (hs : sizeT P t = some n) (h : H) (nid b o : Nat) (x : D) : storeD P h nid t (.ptr b o) x = stC P h nid b o n (cellsE h x) := by
 simp only [storeD, hs]
 cases cellsE h x with
 | none => rfl
 | some ds =>
  simp only [stC, stB]
  cases hget h b with
  | none => rfl
  | some q => cases q <;> rfl
theorem cur_int (h : H) (k : IntKind) (n : Int) : curD h (.int k n) = true := (rfl)
theorem cur_bool (h : H) (b : Bool) : curD h (.bool b) = true := (rfl)
theorem cur_str (h : H) (b : ByteArray) : curD h (.str b) = true := (rfl)
theorem cur_sl (h : H) (es : List (List D)) : curD h (.sl es) = true := (rfl)
theorem cur_nils (h : H) : curD h .nils = true := (rfl)
theorem cur_nilp (h : H) : curD h .nilp = true := (rfl)
theorem cur_nilf (h : H) : curD h .nilf = true := (rfl)
theorem cur_nili (h : H) : curD h .nili = true := (rfl)
theorem cur_ptr (h : H) (b o : Nat) : curD h (.ptr b o) = true := (rfl)
theorem cur_ref (h : H) (cs : List D) (o : Nat) : curD h (.ref cs o) = true := (rfl)
theorem cur_fn (h : H) (f : Fn) (a c : List D) : curD h (.fn f a c) = true := (rfl)
theorem cur_ifc (h : H) (t : TypeId) (d : D) : curD h (.ifc t d) = true := (rfl)

theorem len_sl {t e : TypeId} (hu : P.underlying t = some (.slice e)) (h : H) (es : List (List D)) : lenOpD P h t (.sl es) = some (.int .i64 es.length) := by simp [lenOpD, hu, lenD]
theorem len_nils {t e : TypeId} (hu : P.underlying t = some (.slice e)) (h : H) : lenOpD P h t .nils = some (.int .i64 0) := by simp [lenOpD, hu, lenD]
theorem ix_sl {t e : TypeId} {n : Nat} (hu : P.underlying t = some (.slice e)) (hs : sizeT P e = some n) {es : List (List D)} {i : Nat} {c : List D} (hc : es[i]? = some c) (hl : c.length = n) (h : H) (k : IntKind) :
  indexAddrD P h t (.sl es) (.int k (i : Int)) = some (.ref c 0) := by
 simp [indexAddrD, hu, hs, hc, hl]

def fillB (pl : Option (Nat × Nat)) (K : List (Nat × D)) (place : Nat → Option (Nat × Nat)) (h : H) (cells : List D) : Option (List D) → Option (List D)
 | some ds => match pl with
  | some (off, size) => if ds.length = size ∧ off + ds.length ≤ cells.length then fillD place h (putL cells off ds) K else none
  | none => none
 | none => none
theorem build_of {t : TypeId} {zs : List D} {pl : List (Nat × Nat)} (hz : zeroD P t = some zs) (hp : placesT P t = some pl) (h : H) (parts : List (Nat × D)) :
  buildD P h t parts = (fillD (fun i => pl[i]?) h zs parts).map .agg := by simp [buildD, hz, hp]
theorem fill_nil (place : Nat → Option (Nat × Nat)) (h : H) (cs : List D) : fillD place h cs [] = some cs := (rfl)
theorem fill_cons (place : Nat → Option (Nat × Nat)) (h : H) (cs : List D) (i : Nat) (d : D) (r : List (Nat × D)) : fillD place h cs ((i, d) :: r) = fillB (place i) r place h cs (cellsE h d) := by
 simp only [fillD, fillB]
 cases cellsE h d with
 | none => cases place i <;> rfl
 | some ds => cases place i <;> rfl
theorem fillB_some (off size : Nat) (K : List (Nat × D)) (place : Nat → Option (Nat × Nat)) (h : H) (cs ds : List D) :
  fillB (some (off, size)) K place h cs (some ds) = if ds.length = size ∧ off + ds.length ≤ cs.length then fillD place h (putL cs off ds) K else none := (rfl)

theorem res_tmp (s : St) (t : Tmp) (r : List ResultVar) : resD P s (.tmp t :: r) = (resD P s r).map (look s.env t :: ·) := by
 simp only [resD]; cases resD P s r <;> rfl
theorem res_nil (s : St) : resD P s [] = some [] := (rfl)
def resB (o : Option D) (r : Option (List D)) : Option (List D) :=
 match o, r with
 | some d, some ds => some (d :: ds)
 | _, _ => none
theorem res_cell (env : Env) (h : H) (nid n : Nat) (a t : Nat) (r : List ResultVar) : resD P ⟨env, h, nid, n⟩ (.cell a t :: r) = resB (loadAtD P h t (look env a)) (resD P ⟨env, h, nid, n⟩ r) := by
 simp only [resD, resB]
 cases loadAtD P h t (look env a) <;> cases resD P ⟨env, h, nid, n⟩ r <;> rfl
theorem resB_some (d : D) (ds : List D) : resB (some d) (some ds) = some (d :: ds) := (rfl)
theorem tup_one (d : D) : tupD [d] = d := (rfl)
theorem tup_two (d e : D) (r : List D) : tupD (d :: e :: r) = .tup (d :: e :: r) := (rfl)
theorem view_int (h : H) (k : IntKind) (n : Int) : view h (.int k n) = .int k n := (rfl)
theorem view_bool (h : H) (b : Bool) : view h (.bool b) = .bool b := (rfl)
theorem view_str (h : H) (b : ByteArray) : view h (.str b) = .str b := (rfl)
theorem view_sl (h : H) (es : List (List D)) : view h (.sl es) = .sl es := (rfl)
theorem view_nils (h : H) : view h .nils = .nils := (rfl)
theorem view_ref (h : H) (cs : List D) (o : Nat) : view h (.ref cs o) = .ref cs o := (rfl)
theorem view_agg (h : H) (cs : List D) : view h (.agg cs) = .agg (viewL h cs) := (rfl)
theorem view_tup (h : H) (cs : List D) : view h (.tup cs) = .tup (viewL h cs) := (rfl)
theorem viewL_nil (h : H) : viewL h [] = [] := (rfl)
theorem viewL_cons (h : H) (d : D) (ds : List D) : viewL h (d :: ds) = view h d :: viewL h ds := (rfl)
theorem max_int (k : IntKind) (a b : Int) : maxOpD [.int k a, .int k b] = some (.int k (max a b)) := by
 simp only [maxOpD, maxL]
 congr 2
 rw [Int.max_def]
 split <;> split <;> omega
theorem min_int (k : IntKind) (a b : Int) : minOpD [.int k a, .int k b] = some (.int k (min a b)) := by
 simp only [minOpD, minL]
 congr 2
 rw [Int.min_def]
 split <;> split <;> omega
theorem putL_zero (d : D) (r : List D) (e : D) (es : List D) : putL (d :: r) 0 (e :: es) = e :: putL r 0 es := by simp [putL]
theorem putL_nil (r : List D) (o : Nat) : putL r o [] = r := by simp [putL]
theorem putL_succ (d : D) (r : List D) (o : Nat) (es : List D) : putL (d :: r) (o + 1) es = d :: putL r o es := by simp [putL, Nat.add_right_comm]


variable {fl : Bool} (d : Option Tmp) (ty : TypeId) (pos : String) (after : Array Edge) (g : Option (Nat × Bool)) (env : Env) (h h' : H) (v : D)
theorem rev_off (o : Oper) : ReV P fl ⟨o, env, h, false, v⟩ h' = True := by simp [ReV]
theorem rev_quiet (op : Op) (hk : dkind fl op = .quiet) : ReV P fl ⟨⟨d, op, ty, pos, after, g⟩, env, h, true, v⟩ h' = (quietD P op (evO env) h' = some v) := by
 simp only [ReV, ReOk, hk, true_implies]
theorem rev_fieldAddr (t : TypeId) (x : Operand) (f : Nat) : ReV P fl ⟨⟨d, .fieldAddr t x f, ty, pos, after, g⟩, env, h, true, v⟩ h' = (fieldAddrD P h' t f (evO env x) = some v) := rev_quiet _ _ _ _ _ _ _ _ _ _ rfl
theorem rev_load (t : TypeId) (x : Operand) : ReV P fl ⟨⟨d, .load t x, ty, pos, after, g⟩, env, h, true, v⟩ h' = (loadAtD P h' t (evO env x) = some v) := rev_quiet _ _ _ _ _ _ _ _ _ _ rfl
theorem rev_indexAddr (t : TypeId) (x i : Operand) : ReV P fl ⟨⟨d, .indexAddr t x i, ty, pos, after, g⟩, env, h, true, v⟩ h' = (indexAddrD P h' t (evO env x) (evO env i) = some v) := rev_quiet _ _ _ _ _ _ _ _ _ _ rfl
theorem rev_convert (t u : TypeId) (x : Operand) : ReV P fl ⟨⟨d, .convert t u x, ty, pos, after, g⟩, env, h, true, v⟩ h' = (cvD P h' t u (evO env x) = some v) := rev_quiet _ _ _ _ _ _ _ _ _ _ rfl
theorem rev_lookup (t : TypeId) (x y : Operand) (ok : Bool) : ReV P fl ⟨⟨d, .lookup t x y ok, ty, pos, after, g⟩, env, h, true, v⟩ h' = (lookupD P h' t (evO env x) (evO env y) ok = some v) := rev_quiet _ _ _ _ _ _ _ _ _ _ rfl
theorem rev_build (t : TypeId) (p : List (Nat × Operand)) : ReV P fl ⟨⟨d, .build t p.toArray, ty, pos, after, g⟩, env, h, true, v⟩ h' = (buildD P h' t (p.map fun q => (q.1, evO env q.2)) = some v) := rev_quiet _ _ _ _ _ _ _ _ _ _ rfl
theorem rev_litD (t : TypeId) (m : Nat) (p : List (Nat × Operand)) : ReV P fl ⟨⟨d, .buildSlice t m p.toArray, ty, pos, after, g⟩, env, h, true, v⟩ h' = (litD P h' t m (p.map fun q => (q.1, evO env q.2)) = some v) := rev_quiet _ _ _ _ _ _ _ _ _ _ rfl
theorem rev_slice (t : TypeId) (x : Operand) (lo hi : Option Operand) : ReV P fl ⟨⟨d, .slice t x lo hi none, ty, pos, after, g⟩, env, h, true, v⟩ h' = (sliceD P t (evO env x) (lo.map (evO env)) (hi.map (evO env)) = some v) := rev_quiet _ _ _ _ _ _ _ _ _ _ rfl
theorem rev_nilCheck (x : Operand) : ReV P fl ⟨⟨d, .nilCheck x, ty, pos, after, g⟩, env, h, true, v⟩ h' = (nilCheckD (evO env x) = some v) := rev_quiet _ _ _ _ _ _ _ _ _ _ rfl
theorem rev_len (x : Operand) (t : TypeId) : ReV P fl ⟨⟨d, .call ⟨.builtin .len, #[x], #[t]⟩, ty, pos, after, g⟩, env, h, true, v⟩ h' = (lenOpD P h' t (evO env x) = some v) := rev_quiet _ _ _ _ _ _ _ _ _ _ rfl
theorem rev_max (x : List Operand) (t : Array TypeId) : ReV P fl ⟨⟨d, .call ⟨.builtin .max, x.toArray, t⟩, ty, pos, after, g⟩, env, h, true, v⟩ h' = (maxOpD (x.map (evO env)) = some v) := by
 rw [rev_quiet _ _ _ _ _ _ _ _ _ _ rfl]
 congr 1
 cases x <;> simp only [quietD, opR, opQ, callQ, maxOpD, List.map_nil, List.map_cons]
 split <;> simp_all
theorem rev_min (x : List Operand) (t : Array TypeId) : ReV P fl ⟨⟨d, .call ⟨.builtin .min, x.toArray, t⟩, ty, pos, after, g⟩, env, h, true, v⟩ h' = (minOpD (x.map (evO env)) = some v) := by
 rw [rev_quiet _ _ _ _ _ _ _ _ _ _ rfl]
 congr 1
 cases x <;> simp only [quietD, opR, opQ, callQ, minOpD, List.map_nil, List.map_cons]
 split <;> simp_all
theorem rev_call (f : FuncId) (x : List Operand) (t : Array TypeId) : ReV P fl ⟨⟨d, .call ⟨.value (.func f), x.toArray, t⟩, ty, pos, after, g⟩, env, h, true, v⟩ h' = (viewL h' (x.map (evO env)) = viewL h (x.map (evO env))) := by
 simp [ReV, ReOk, dkind, calleeD, evO]

end
end Go.Sx
