/- Sx, part C: operations that only read: their abstract meaning, and that the model's run agrees. Own work. -/
import Derived.Test.YtjhoplbdpdbgaaaDoorSxB
import Derived.Laws.StructEq
import Derived.Laws.Cells
import Derived.ChangeKeysEq
import Derived.MapKept
set_option linter.unusedVariables false
set_option linter.unusedSimpArgs false
namespace Go.Sx

def isAggT (P : Program) (t : TypeId) : Option Bool :=
  match P.underlying t with
  | some (.struct _) | some (.array _ _) => some true
  | some _ => some false
  | none => none

def sizeT (P : Program) (t : TypeId) : Option Nat := (P.info? t).map (·.size)

def partD (P : Program) (t : TypeId) (cs : List D) (off : Nat) : Option D :=
  match isAggT P t, sizeT P t with
  | some true, some n => some (.agg ((cs.drop off).take n))
  | some false, some _ => cs[off]?
  | _, _ => none

/-- Reading a variable of type t out of a row of cells. -/
def loadD (P : Program) (t : TypeId) (cs : List D) (off : Nat) : Option D :=
  match isAggT P t, sizeT P t with
  | some true, some n => if off + n ≤ cs.length then some (.agg ((cs.drop off).take n)) else none
  | some false, some _ => cs[off]?
  | _, _ => none

def eqFs (P : Program) (eq : TypeId → D → D → Option Bool) (xs ys : List D) : List Field → Option Bool
  | [] => some true
  | f :: fs =>
    if f.name = "_" then eqFs P eq xs ys fs else
    match partD P f.type xs f.offset, partD P f.type ys f.offset with
    | some a, some b =>
      match eq f.type a b, eqFs P eq xs ys fs with
      | some p, some q => some (p && q)
      | _, _ => none
    | _, _ => none

def eqT (P : Program) : Nat → TypeId → D → D → Option Bool
  | 0, _, _, _ => none
  | d + 1, t, x, y =>
    match P.underlying t, x, y with
    | some .bool, .bool a, .bool b => some (a == b)
    | some (.int _), .int k a, .int k' b => if k = k' then some (a == b) else none
    | some .string, .str a, .str b => some (a.toList == b.toList)
    | some (.struct fs), .agg xs, .agg ys => if P.stoodInHeld t then none else eqFs P (eqT P d) xs ys fs.toList
    | _, _, _ => none

def arith (op : BinOp) (k : IntKind) (x y : Int) : Option D :=
  match op with
  | .add => some (.int k (k.wrap (x + y)))
  | .sub => some (.int k (k.wrap (x - y)))
  | .mul => some (.int k (k.wrap (x * y)))
  | .quo => if y = 0 then none else some (.int k (k.wrap (x.tdiv y)))
  | .rem => if y = 0 then none else some (.int k (x.tmod y))
  | .and => some (.int k (k.wrap (BitVec.ofInt k.bits x &&& BitVec.ofInt k.bits y).toNat))
  | .or => some (.int k (k.wrap (BitVec.ofInt k.bits x ||| BitVec.ofInt k.bits y).toNat))
  | .xor => some (.int k (k.wrap (BitVec.ofInt k.bits x ^^^ BitVec.ofInt k.bits y).toNat))
  | .andNot => some (.int k (k.wrap (BitVec.ofInt k.bits x &&& ~~~BitVec.ofInt k.bits y).toNat))
  | .eql => some (.bool (x == y))
  | .neq => some (.bool (x != y))
  | .lss => some (.bool (decide (x < y)))
  | .leq => some (.bool (decide (x ≤ y)))
  | .gtr => some (.bool (decide (y < x)))
  | .geq => some (.bool (decide (y ≤ x)))
  | .shl => if y < 0 then none else some (.int k (k.wrap (x * 2 ^ (min y.toNat k.bits))))
  | .shr => if y < 0 then none else some (.int k (x.fdiv (2 ^ (min y.toNat k.bits))))

def strOp (op : BinOp) (x y : ByteArray) : Option D :=
  match op with
  | .add => if ((x.size + y.size : Nat) : Int) > 9223372036854775807 then none else some (.str (x ++ y))
  | .eql => some (.bool (x.toList == y.toList))
  | .neq => some (.bool (!(x.toList == y.toList)))
  | .lss => some (.bool (Op.bytesLess x.toList y.toList))
  | .leq => some (.bool (Op.bytesLess x.toList y.toList || x.toList == y.toList))
  | .gtr => some (.bool (!(Op.bytesLess x.toList y.toList || x.toList == y.toList)))
  | .geq => some (.bool (!Op.bytesLess x.toList y.toList))
  | _ => none

def isShift : BinOp → Bool
  | .shl | .shr => true
  | _ => false

def binD (P : Program) (op : BinOp) (t : TypeId) (a b : D) : Option D :=
  match a, b with
  | .int k x, .int k' y => if isShift op || k == k' then arith op k x y else none
  | .str x, .str y => strOp op x y
  | .bool x, .bool y =>
    match P.underlying t, op with
    | some .bool, .eql => some (.bool (x == y))
    | some .bool, .neq => some (.bool (!(x == y)))
    | _, _ => none
  | .agg xs, .agg ys =>
    if P.eqGuardType P.depth t then none else
    match op, eqT P 10000 t (.agg xs) (.agg ys) with
    | .eql, some p => some (.bool p)
    | .neq, some p => some (.bool (!p))
    | _, _ => none
  | _, _ => none

def fieldOf (P : Program) (t : TypeId) (f : Nat) : Option Field :=
  match P.underlying t with
  | some (.struct fs) => fs[f]?
  | _ => none

/-- Where a field lies in its struct (fields of no cells are not served). -/
def fieldOff (P : Program) (t : TypeId) (f : Nat) : Option Nat :=
  match fieldOf P t f with
  | some fd =>
    match sizeT P fd.type with
    | some n => if n = 0 then none else some fd.offset
    | none => none
  | none => none

def fieldTy (P : Program) (t : TypeId) (f : Nat) : Option (TypeId × Nat) :=
  match fieldOf P t f with
  | some fd => some (fd.type, fd.offset)
  | none => none

def atOff (h : H) (o : Nat) : D → Option D
  | .ptr b p => some (.ptr b (p + o))
  | .ref cs p => some (.ref cs (p + o))
  | .eptr b n sz i p =>
    match hget h b with
    | some (.arr _ _ es) => if n = es.length ∧ i < es.length then some (.eptr b n sz i (p + o)) else none
    | _ => none
  | _ => none

def lenD (h : H) : D → Option D
  | .sl es => some (.int .i64 es.length)
  | .nils => some (.int .i64 0)
  | .osl b n =>
    match hget h b with
    | some (.arr _ _ es) => if n = es.length then some (.int .i64 n) else none
    | _ => none
  | .bsl _ _ l _ => some (.int .i64 l)
  | _ => none

def indexAddrD (P : Program) (h : H) (t : TypeId) (x i : D) : Option D :=
  match P.underlying t, x, i with
  | some (.slice e), .sl es, .int _ i =>
    if 0 ≤ i then
      match es[i.toNat]?, sizeT P e with
      | some c, some n => if c.length = n then some (.ref c 0) else none
      | _, _ => none
    else none
  | some (.slice e), .osl b l, .int _ i =>
    match hget h b with
    | some (.arr _ sz es) => if 0 ≤ i ∧ i.toNat < es.length ∧ l = es.length ∧ sizeT P e = some sz then some (.eptr b l sz i.toNat 0) else none
    | _ => none
  | some (.slice e), .bsl b o l sz, .int _ i => if 0 ≤ i ∧ i.toNat < l ∧ sizeT P e = some sz then some (.ptr b (o + i.toNat * sz)) else none
  | some (.array len e), p, .int _ i =>
    if 0 ≤ i ∧ i < len then
      match sizeT P e with
      | some n => atOff h (i.toNat * n) p
      | none => none
    else none
  | _, _, _ => none

def loadAtD (P : Program) (h : H) (t : TypeId) : D → Option D
  | .ptr b o =>
    match hget h b with
    | some (.box cs) => loadD P t cs o
    | _ => none
  | .ref cs o => loadD P t cs o
  | .eptr b l sz i o =>
    match hget h b with
    | some (.arr _ sz' es) =>
      if l = es.length ∧ sz = sz' then
        match es[i]? with
        | some c => loadD P t c o
        | none => none
      else none
    | _ => none
  | _ => none

def indexD (P : Program) (t : TypeId) (x i : D) : Option D :=
  match P.underlying t, x, i with
  | some (.array len e), .agg cs, .int _ i =>
    if 0 ≤ i ∧ i < len then
      match sizeT P e with
      | some n => partD P e cs (i.toNat * n)
      | none => none
    else none
  | some .string, .str s, .int _ i =>
    if 0 ≤ i then
      match s.data[i.toNat]? with
      | some b => some (.int .u8 b.toNat)
      | none => none
    else none
  | _, _, _ => none

def boundD (y : Nat) : Option D → Nat → Option Nat
  | none, d => some d
  | some (.int _ i), _ => if 0 ≤ i ∧ i ≤ y then some i.toNat else none
  | some _, _ => none

def sliceD (P : Program) (t : TypeId) (x : D) (lo hi : Option D) : Option D :=
  match P.underlying t, x with
  | some .string, .str s =>
    match boundD s.size hi s.size with
    | some h => match boundD h lo 0 with
      | some l => some (.str (s.extract l h))
      | none => none
    | none => none
  | some (.slice e), .sl es =>
    match sizeT P e, boundD es.length hi es.length with
    | some n, some h => match boundD h lo 0 with
      | some l => if es.all (fun c => Nat.beq c.length n) then some (.sl ((es.take h).drop l)) else none
      | none => none
    | _, _ => none
  | some (.array n e), .ptr b o =>
    match boundD n hi n with
    | some h => match boundD h lo 0, sizeT P e with
      | some l, some sz => if l < n then some (.bsl b (o + l * sz) (h - l) sz) else none
      | _, _ => none
    | none => none
  | _, _ => none

/-! Maps -/

def keyFit (P : Program) (kt : TypeId) (k : D) : Bool :=
  match P.underlying kt, k with
  | some (.int j), .int j' _ => j == j'
  | some .string, .str _ => true
  | some .bool, .bool _ => true
  | _, _ => false

def keyEq : D → D → Bool
  | .int k a, .int k' b => k == k' && a == b
  | .str a, .str b => a.toList == b.toList
  | .bool a, .bool b => a == b
  | _, _ => false

def findK (k : D) : List (D × D) → Nat → Option (Nat × D)
  | [], _ => none
  | (k', v) :: r, i => if keyEq k k' then some (i, v) else findK k r (i + 1)

def zeroV (P : Program) (t : TypeId) : Option D :=
  match (P.info? t).bind (·.zero) with
  | some (.agg cs) => some (.agg (cs.toList.map vD))
  | some (.tuple _) => none
  | some v => some (vD v)
  | none => none

def lookR (P : Program) (et : TypeId) (ok : Bool) : Option (Nat × D) → Option D
  | some (_, v) => some (if ok then .tup [v, .bool true] else v)
  | none => (zeroV P et).map fun z => if ok then .tup [z, .bool false] else z

def lookupD (P : Program) (h : H) (t : TypeId) (x k : D) (ok : Bool) : Option D :=
  match P.underlying t with
  | some (.map kt et) =>
    match x with
    | .mp b =>
      match hget h b with
      | some (.map kvs) => if keyFit P kt k && kvs.all (fun p => keyFit P kt p.1) then lookR P et ok (findK k kvs 0) else none
      | _ => none
    | .nilm => if keyFit P kt k then lookR P et ok none else none
    | _ => none
  | _ => none

def maxL (k : IntKind) : Int → List D → Option D
  | a, [] => some (.int k a)
  | a, .int _ b :: r => maxL k (if a < b then b else a) r
  | _, _ => none

def minL (k : IntKind) : Int → List D → Option D
  | a, [] => some (.int k a)
  | a, .int _ b :: r => minL k (if b < a then b else a) r
  | _, _ => none

/-- Calls of builtins that only read. -/
def callQ (P : Program) (c : Call) (ρ : Operand → D) (h : H) : Option D :=
  match c.callee with
  | .builtin .len =>
    match c.args.toList, c.argTypes.toList with
    | [x], [t] =>
      match P.underlying t with
      | some (.slice _) => lenD h (ρ x)
      | some .string => match ρ x with
        | .str s => some (.int .i64 s.size)
        | _ => none
      | some (.array n _) => some (.int .i64 n)
      | some (.map _ _) =>
        match ρ x with
        | .mp b => match hget h b with
          | some (.map kvs) => some (.int .i64 kvs.length)
          | _ => none
        | .nilm => some (.int .i64 0)
        | _ => none
      | _ => none
    | _, _ => none
  | .builtin .max =>
    match c.args.toList with
    | x :: r => match ρ x with
      | .int k a => maxL k a (r.map ρ)
      | _ => none
    | _ => none
  | .builtin .min =>
    match c.args.toList with
    | x :: r => match ρ x with
      | .int k a => minL k a (r.map ρ)
      | _ => none
    | _ => none
  | _ => none

/-- What an operation that only reads gives. -/
def opQ (P : Program) (op : Op) (ρ : Operand → D) (h : H) : Option D :=
  match op with
  | .move x | .assign x => some (ρ x)
  | .pick c a b =>
    match ρ c with
    | .bool t => some (if t then ρ a else ρ b)
    | _ => none
  | .nilCheck x =>
    match ρ x with
    | .ptr b o => some (.ptr b o)
    | .ref cs o => some (.ref cs o)
    | .fn (.func f) a c => some (.fn (.func f) a c)
    | .fn (.yield f) a c => some (.fn (.yield f) a c)
    | _ => none
  | .binOp op t x y _ => binD P op t (ρ x) (ρ y)
  | .unOp .neg _ x =>
    match ρ x with
    | .int k n => some (.int k (k.wrap (0 - n)))
    | _ => none
  | .unOp .not _ x =>
    match ρ x with
    | .bool b => some (.bool (!b))
    | _ => none
  | .convert s d x =>
    match P.underlying s, P.underlying d, ρ x with
    | some _, some (.int k), .int _ n => some (.int k (k.wrap n))
    | _, _, _ => none
  | .extract x i =>
    match ρ x with
    | .tup vs => vs[i]?
    | _ => none
  | .makeFunc fn f c => some (.fn fn (f.toList.map ρ) (c.toList.map ρ))
  | .makeInterface t x =>
    match P.underlying t with
    | some (.interface _) => none
    | some _ => some (.ifc t (ρ x))
    | none => none
  | .fieldAddr t x f =>
    match fieldOff P t f with
    | some o => atOff h o (ρ x)
    | none => none
  | .field t x f =>
    match fieldTy P t f, ρ x with
    | some (ty, o), .agg cs => partD P ty cs o
    | _, _ => none
  | .index t x i => indexD P t (ρ x) (ρ i)
  | .indexAddr t x i => indexAddrD P h t (ρ x) (ρ i)
  | .load t x => loadAtD P h t (ρ x)
  | .slice t x lo hi none => sliceD P t (ρ x) (lo.map ρ) (hi.map ρ)
  | .lookup t x k ok => lookupD P h t (ρ x) (ρ k) ok
  | .call c => callQ P c ρ h
  | _ => none

/-! ## Soundness -/

section
variable {P : Program} {X : Nat → Prop} {k : Cx}

theorem run_isAgg {t : TypeId} {b : Bool} (h : isAggT P t = some b) (w : World) : (isAgg t).run P w = .ok b w := by
  unfold isAggT at h
  cases hu : P.underlying t with
  | none => simp [hu] at h
  | some d =>
    simp only [isAgg, Sem.run_bind, run_underlying hu, Result.andThen_ok]
    cases d <;> simp_all

theorem run_sizeT {t : TypeId} {n : Nat} (h : sizeT P t = some n) (w : World) : (sizeOf t).run P w = .ok n w := by
  unfold sizeT at h
  cases hi : P.info? t with
  | none => simp [hi] at h
  | some i => simp [hi] at h; rw [run_sizeOf w hi, Program.cellsOf, hi]; simp [h]

theorem RelL.sub {R : Rx} {n : Nat} {vs : List Value} {ds : List D} (h : RelL R n vs ds) (o m : Nat) : RelL R n ((vs.drop o).take m) ((ds.drop o).take m) := by
  refine ⟨by simp [h.1], fun i v d a b => h.2 (o + i) v d ?_ ?_⟩
  · rw [List.getElem?_take] at a; split at a
    · rwa [List.getElem?_drop] at a
    · cases a
  · rw [List.getElem?_take] at b; split at b
    · rwa [List.getElem?_drop] at b
    · cases b

theorem RelL.get {R : Rx} {n : Nat} {vs : List Value} {ds : List D} (h : RelL R n vs ds) {i : Nat} {d : D} (hd : ds[i]? = some d) : ∃ v, vs[i]? = some v ∧ Rel R n v d := by
  have hi : i < ds.length := by
    rcases Nat.lt_or_ge i ds.length with hi | hi
    · exact hi
    · rw [List.getElem?_eq_none hi] at hd; cases hd
  have hv : vs[i]? = some (vs[i]'(by rw [h.1]; exact hi)) := List.getElem?_eq_getElem _
  exact ⟨_, hv, h.2 i _ d hv hd⟩

theorem Rel.agg_inv {R : Rx} {n : Nat} {v : Value} {ds : List D} (h : Rel R n v (.agg ds)) : ∃ vs, v = .agg (List.toArray vs) ∧ RelL R n vs ds := by
  cases h with
  | agg _ vs _ h1 h2 => exact ⟨vs, rfl, h1, h2⟩

theorem Rel.tup_inv {R : Rx} {n : Nat} {v : Value} {ds : List D} (h : Rel R n v (.tup ds)) : ∃ vs, v = .tuple (List.toArray vs) ∧ RelL R n vs ds := by
  cases h with
  | tup _ vs _ h1 h2 => exact ⟨vs, rfl, h1, h2⟩

theorem Rel.of_list {R : Rx} {n : Nat} {vs : List Value} {ds : List D} (h : RelL R n vs ds) : Rel R n (.agg vs.toArray) (.agg ds) := .agg _ _ _ h.1 h.2

theorem run_partD {R : Rx} {n : Nat} {vs : List Value} {cs : List D} {t : TypeId} {off : Nat} {d : D} (hr : RelL R n vs cs) (h : partD P t cs off = some d) (w : World) :
    ∃ v, (part t vs.toArray off).run P w = .ok v w ∧ Rel R n v d := by
  unfold partD at h
  split at h
  · rename_i m hag hsz
    cases h
    refine ⟨_, ?_, Rel.of_list (hr.sub off m)⟩
    simp only [part, Sem.run_bind, run_isAgg hag, Result.andThen_ok, Sem.run_ite, if_true, run_sizeT hsz, Sem.run_pure]
    congr 2
    apply Array.ext'
    simp [Nat.add_sub_cancel_left]
  · rename_i m hag hsz
    obtain ⟨v, hv, hrel⟩ := hr.get h
    refine ⟨v, ?_, hrel⟩
    simp only [part, Sem.run_bind, run_isAgg hag, Result.andThen_ok, Sem.run_ite, Bool.false_eq_true, if_false]
    simp [hv]
  · cases h

theorem run_eqFs {R : Rx} {n : Nat} {xv yv : List Value} {xs ys : List D} (hx : RelL R n xv xs) (hy : RelL R n yv ys) (dp : Nat) (eq : TypeId → D → D → Option Bool)
    (heq : ∀ t a b va vb r w, Rel R n va a → Rel R n vb b → eq t a b = some r → (Op.equalIn dp t va vb).run P w = .ok r w) :
    ∀ (fs : List Field) (r : Bool) (w : World), eqFs P eq xs ys fs = some r → (Op.eqFields dp xv.toArray yv.toArray fs).run P w = .ok r w
  | [], r, w, h => by simp [eqFs] at h; subst h; simp [Op.eqFields]
  | f :: fs, r, w, h => by
    simp only [eqFs] at h
    by_cases hn : f.name = "_"
    · rw [if_pos hn] at h
      simp only [Op.eqFields, hn, ne_eq, not_true, if_false]
      exact run_eqFs hx hy dp eq heq fs r w h
    · rw [if_neg hn] at h
      cases ha : partD P f.type xs f.offset with
      | none => simp [ha] at h
      | some a =>
        cases hb : partD P f.type ys f.offset with
        | none => simp [ha, hb] at h
        | some b =>
          simp only [ha, hb] at h
          cases hp : eq f.type a b with
          | none => simp [hp] at h
          | some p =>
            cases hq : eqFs P eq xs ys fs with
            | none => simp [hp, hq] at h
            | some q =>
              simp only [hp, hq, Option.some.injEq] at h
              subst h
              obtain ⟨va, h1, r1⟩ := run_partD (P := P) hx ha w
              obtain ⟨vb, h2, r2⟩ := run_partD (P := P) hy hb w
              simp only [Op.eqFields, ne_eq, hn, not_false_eq_true, if_true, Sem.run_bind, h1, Result.andThen_ok, h2, heq _ _ _ _ _ _ w r1 r2 hp, Sem.run_ite, Sem.run_pure]
              cases p
              · simp
              · simp [run_eqFs hx hy dp eq heq fs q w hq]

theorem run_eqT {R : Rx} {n : Nat} : ∀ (dp : Nat) (t : TypeId) (a b : D) (va vb : Value) (r : Bool) (w : World), Rel R n va a → Rel R n vb b → eqT P dp t a b = some r →
    (Op.equalIn dp t va vb).run P w = .ok r w
  | 0, t, a, b, va, vb, r, w, _, _, h => by simp [eqT] at h
  | dp + 1, t, a, b, va, vb, r, w, ha, hb, h => by
    simp only [eqT] at h
    split at h
    · rename_i hu; cases ha; cases hb; cases h; exact run_equalIn_bool' w dp t _ _ hu
    · rename_i hu
      split at h
      · rename_i hk; subst hk; cases ha; cases hb; cases h; exact run_equalIn_int w dp t _ _ _ _ hu
      · cases h
    · rename_i hu; cases ha; cases hb; cases h; exact run_equalIn_string w dp t _ _ hu
    · rename_i fs xs ys hu
      split at h
      · cases h
      · rename_i hp
        obtain ⟨xv, rfl, hx⟩ := ha.agg_inv
        obtain ⟨yv, rfl, hy⟩ := hb.agg_inv
        have hf : P.fieldsOf t = fs := by simp [Program.fieldsOf, hu]
        rw [run_equalIn_agg w dp t _ _ (by rw [hf]; exact hu) (by simpa using hp), hf]
        exact run_eqFs hx hy dp (eqT P dp) (fun t a b va vb r w h1 h2 h3 => run_eqT dp t a b va vb r w h1 h2 h3) fs.toList r w h
    · cases h

theorem run_arith {op : BinOp} {kk k' : IntKind} {x y : Int} {d : D} (hk : (isShift op || kk == k') = true) (h : arith op kk x y = some d) (t : TypeId) (w : World) :
    ∃ v, (binOp op t (.int kk x) (.int k' y)).run P w = .ok v w ∧ ∀ R n, Rel R n v d := by
  cases op <;> simp only [isShift, Bool.false_or, Bool.true_or, beq_iff_eq] at hk <;> simp only [arith] at h
  case quo =>
    subst hk
    split at h
    · cases h
    · rename_i hy; cases h; exact ⟨.int kk (kk.wrap (x.tdiv y)), by simp [binOp, Op.intDiv, hy], fun R n => .int _ _ _⟩
  case rem =>
    subst hk
    split at h
    · cases h
    · rename_i hy; cases h; exact ⟨.int kk (x.tmod y), by simp [binOp, Op.intDiv, hy], fun R n => .int _ _ _⟩
  case shl =>
    split at h
    · cases h
    · rename_i hy; cases h; exact ⟨.int kk (kk.wrap (x * 2 ^ (min y.toNat kk.bits))), by simp [binOp, Op.shift, hy], fun R n => .int _ _ _⟩
  case shr =>
    split at h
    · cases h
    · rename_i hy; cases h; exact ⟨.int kk (x.fdiv (2 ^ (min y.toNat kk.bits))), by simp [binOp, Op.shift, hy], fun R n => .int _ _ _⟩
  all_goals
    subst hk; cases h
    first
      | exact ⟨.int kk _, by simp [binOp, Op.intArith, Op.intBits], fun R n => .int _ _ _⟩
      | exact ⟨.bool _, by simp [binOp, Op.intCmp], fun R n => .bool _ _⟩

theorem run_strOp {op : BinOp} {x y : ByteArray} {d : D} (h : strOp op x y = some d) (t : TypeId) (w : World) :
    ∃ v, (binOp op t (.string x) (.string y)).run P w = .ok v w ∧ ∀ R n, Rel R n v d := by
  cases op <;> simp only [strOp] at h <;> try cases h
  case add =>
    split at h
    · cases h
    · rename_i hs; cases h
      refine ⟨.string (x ++ y), ?_, fun R n => .str _ _⟩
      simp only [binOp, Op.stringOp, IntKind.max_i64]
      rw [if_neg hs]; rfl
  all_goals exact ⟨.bool _, by simp only [binOp, Op.stringOp, Sem.run_pure], fun R n => .bool _ _⟩

theorem run_binD {op : BinOp} {t : TypeId} {a b d : D} {va vb : Value} {R : Rx} {n : Nat} (ha : Rel R n va a) (hb : Rel R n vb b) (h : binD P op t a b = some d) (x y : Operand) (w : World) :
    ∃ v, (do eqGuard op t x y va vb; binOp op t va vb : Sem Value).run P w = .ok v w ∧ Rel R n v d := by
  unfold binD at h
  split at h
  · split at h
    · rename_i hk
      cases ha; cases hb
      obtain ⟨v, h1, h2⟩ := run_arith (P := P) hk h t w
      exact ⟨v, by simp [eqGuard_at_int, h1], h2 _ _⟩
    · cases h
  · cases ha; cases hb
    obtain ⟨v, h1, h2⟩ := run_strOp (P := P) h t w
    exact ⟨v, by simp [eqGuard_at_string, h1], h2 _ _⟩
  · rename_i p q
    cases ha; cases hb
    split at h
    · rename_i hu
      cases h
      exact ⟨.bool (p == q), by simp [eqGuard_at_bool, binOp, Op.equal, Op.maxDepth, run_equalIn_bool' w 9999 t p q hu], .bool _ _⟩
    · rename_i hu
      cases h
      exact ⟨.bool (!(p == q)), by simp [eqGuard_at_bool, binOp, Op.equal, Op.maxDepth, run_equalIn_bool' w 9999 t p q hu], .bool _ _⟩
    · cases h
  · split at h
    · cases h
    · rename_i hg
      split at h
      · rename_i p hp
        cases h
        have he := run_eqT (P := P) 10000 t _ _ va vb p w ha hb hp
        obtain ⟨xv, rfl, _⟩ := ha.agg_inv
        obtain ⟨yv, rfl, _⟩ := hb.agg_inv
        exact ⟨.bool p, by simp [run_eqGuard_agg w _ t x y _ _ (by simpa using hg), run_eql_struct, he], .bool _ _⟩
      · rename_i p hp
        cases h
        have he := run_eqT (P := P) 10000 t _ _ va vb p w ha hb hp
        obtain ⟨xv, rfl, _⟩ := ha.agg_inv
        obtain ⟨yv, rfl, _⟩ := hb.agg_inv
        exact ⟨.bool (!p), by simp [run_eqGuard_agg w _ t x y _ _ (by simpa using hg), run_neq_struct, he], .bool _ _⟩
      · cases h
  · cases h

end
end Go.Sx
