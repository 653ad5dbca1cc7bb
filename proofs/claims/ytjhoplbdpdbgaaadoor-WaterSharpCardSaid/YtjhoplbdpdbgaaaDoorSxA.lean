/- Sx, part A: abstract data, the relation between model values and abstract data, abstract heaps, contexts and their evolution. Own work. -/
import Derived.OrdersIn
import Derived.RangeFuncLeaves
import Derived.KernelRfl
import Derived.Laws.World
set_option linter.unusedVariables false
set_option linter.unusedSimpArgs false
namespace Go.Sx

/-- Abstract data: what a model value reads as. -/
inductive D where
  | any
  | int (k : IntKind) (n : Int)
  | bool (b : Bool)
  | str (s : ByteArray)
  | agg (cs : List D)
  | tup (vs : List D)
  | nils
  | sl (es : List (List D))
  | ref (cs : List D) (off : Nat)
  | ptr (b off : Nat)
  | osl (b n : Nat)
  | eptr (b n sz i off : Nat)
  | fn (f : Fn) (first captured : List D)
  | nilp
  | nilf
  | nili
  | nilm
  | ifc (t : TypeId) (d : D)
  | mp (b : Nat)
  | bsl (b off l sz : Nat)
  | raw (v : Value)
  deriving Inhabited

/-- A value that one cell can hold. -/
def D.cell : D → Bool
  | .any | .agg _ | .tup _ | .raw _ => false
  | _ => true

mutual
/-- All ids of own blocks that are named are below m. -/
def D.lt (m : Nat) : D → Bool
  | .ptr b _ => Nat.blt b m
  | .osl b _ => Nat.blt b m
  | .eptr b _ _ _ _ => Nat.blt b m
  | .mp b => Nat.blt b m
  | .bsl b _ _ _ => Nat.blt b m
  | .agg cs => D.ltL m cs
  | .tup cs => D.ltL m cs
  | .fn _ f c => D.ltL m f && D.ltL m c
  | .ifc _ d => D.lt m d
  | _ => true
def D.ltL (m : Nat) : List D → Bool
  | [] => true
  | d :: ds => D.lt m d && D.ltL m ds
end

structure Rx where
  w : World
  S : Nat → Prop
  β : Nat → Nat
  sv : Nat → Value
  ln : Nat → Option Nat

def eaddr (v : Value) (o : Nat) : Value :=
  match v with
  | .slice (some a) _ _ => .pointer (some ⟨a.block, a.off + o, none⟩)
  | v => v

inductive Rel (R : Rx) : Nat → Value → D → Prop
  | any (n v) : Rel R n v .any
  | int (n k x) : Rel R n (.int k x) (.int k x)
  | bool (n b) : Rel R n (.bool b) (.bool b)
  | str (n s) : Rel R n (.string s) (.str s)
  | agg (n) (vs : List Value) (ds : List D) : vs.length = ds.length → (∀ (i : Nat) v d, vs[i]? = some v → ds[i]? = some d → Rel R n v d) → Rel R n (.agg vs.toArray) (.agg ds)
  | tup (n) (vs : List Value) (ds : List D) : vs.length = ds.length → (∀ (i : Nat) v d, vs[i]? = some v → ds[i]? = some d → Rel R n v d) → Rel R n (.tuple vs.toArray) (.tup ds)
  | nils (n) : Rel R n (.slice none 0 0) .nils
  | sln (n) : Rel R n (.slice none 0 0) (.sl [])
  | sle (n) (a : Addr) (cap : Nat) : Rel R n (.slice (some a) 0 cap) (.sl [])
  | sl (n) (b off cap : Nat) (es : List (List D)) (sz : Nat) (vs : Nat → Nat → Value) : (es = [] ∨ R.S b) → es.length ≤ cap → (∀ e ∈ es, e.length = sz) →
      (∀ (i : Nat) e (j : Nat) d, es[i]? = some e → e[j]? = some d → R.w.cell? ⟨b, off + (i * sz + j), none⟩ = some (vs i j)) →
      (∀ (i : Nat) e (j : Nat) d, es[i]? = some e → e[j]? = some d → Rel R 0 (vs i j) d) → Rel R n (.slice (some ⟨b, off, none⟩) es.length cap) (.sl es)
  | ref (n) (b off : Nat) (cs : List D) (o : Nat) (vs : Nat → Value) : R.S b →
      (∀ (j : Nat) d, cs[j]? = some d → R.w.cell? ⟨b, off + j, none⟩ = some (vs j)) →
      (∀ (j : Nat) d, cs[j]? = some d → Rel R 0 (vs j) d) → Rel R n (.pointer (some ⟨b, off + o, none⟩)) (.ref cs o)
  | ptr (n) (b off : Nat) : b < n → Rel R n (.pointer (some ⟨R.β b, off, none⟩)) (.ptr b off)
  | osl (n) (b l : Nat) (v : Value) : b < n → (∀ m, R.ln b = some m → l ≤ m ∧ (l = m → v = R.sv b)) → Rel R n v (.osl b l)
  | eptr (n) (b l sz i off : Nat) (v : Value) : b < n → (∀ m, R.ln b = some m → l ≤ m ∧ (l = m → v = eaddr (R.sv b) (i * sz + off))) → Rel R n v (.eptr b l sz i off)
  | fn (n) (f : Fn) (va vc : List Value) (da dc : List D) : va.length = da.length → vc.length = dc.length →
      (∀ (i : Nat) v d, va[i]? = some v → da[i]? = some d → Rel R n v d) → (∀ (i : Nat) v d, vc[i]? = some v → dc[i]? = some d → Rel R n v d) →
      Rel R n (.func f va.toArray vc.toArray) (.fn f da dc)
  | nilp (n) : Rel R n (.pointer none) .nilp
  | nilf (n) : Rel R n .nilFunc .nilf
  | nili (n) : Rel R n .nilIface .nili
  | nilm (n) : Rel R n (.map none) .nilm
  | ifc (n) (t : TypeId) (v : Value) (d : D) : Rel R n v d → Rel R n (.iface t v) (.ifc t d)
  | mp (n) (b : Nat) : b < n → Rel R n (.map (some (R.β b))) (.mp b)
  | bsl (n) (b off l cap sz : Nat) : b < n → l ≤ cap → Rel R n (.slice (some ⟨R.β b, off, none⟩) l cap) (.bsl b off l sz)
  | raw (n v) : Rel R n v (.raw v)

def RelL (R : Rx) (n : Nat) (vs : List Value) (ds : List D) : Prop :=
  vs.length = ds.length ∧ ∀ (i : Nat) v d, vs[i]? = some v → ds[i]? = some d → Rel R n v d

theorem Rel.weak {R : Rx} {n m : Nat} {v : Value} {d : D} (h : Rel R n v d) (hle : n ≤ m) : Rel R m v d := by
  induction h with
  | any => exact .any _ _
  | int => exact .int _ _ _
  | bool => exact .bool _ _
  | str => exact .str _ _
  | agg n vs ds h1 _ ih => exact .agg _ vs ds h1 fun i v d a b => ih i v d a b hle
  | tup n vs ds h1 _ ih => exact .tup _ vs ds h1 fun i v d a b => ih i v d a b hle
  | nils => exact .nils _
  | sln => exact .sln _
  | sle n a cap => exact .sle _ a cap
  | sl n b off cap es sz vs h1 h2 h3 h4 h5 _ => exact .sl _ b off cap es sz vs h1 h2 h3 h4 h5
  | ref n b off cs o vs h1 h2 h3 _ => exact .ref _ b off cs o vs h1 h2 h3
  | ptr n b off h1 => exact .ptr _ b off (by omega)
  | osl n b l v h1 h2 => exact .osl _ b l v (by omega) h2
  | eptr n b l sz i off v h1 h2 => exact .eptr _ b l sz i off v (by omega) h2
  | fn n f va vc da dc h1 h2 _ _ i1 i2 => exact .fn _ f va vc da dc h1 h2 (fun i v d a b => i1 i v d a b hle) (fun i v d a b => i2 i v d a b hle)
  | nilp => exact .nilp _
  | nilf => exact .nilf _
  | nili => exact .nili _
  | nilm => exact .nilm _
  | ifc n t v d _ ih => exact .ifc _ t v d (ih hle)
  | mp n b h1 => exact .mp _ b (by omega)
  | bsl n b off l cap sz h1 h2 => exact .bsl _ b off l cap sz (by omega) h2
  | raw => exact .raw _ _

theorem D.ltL_get {m : Nat} : ∀ {ds : List D}, D.ltL m ds = true → ∀ (i : Nat) (d : D), ds[i]? = some d → D.lt m d = true
  | [], _, i, d, h => by simp at h
  | x :: xs, hl, 0, d, h => by simp [D.ltL] at hl; simp at h; subst h; exact hl.1
  | x :: xs, hl, i + 1, d, h => by simp [D.ltL] at hl; simp at h; exact D.ltL_get hl.2 i d h

theorem Rel.roll {R : Rx} {n m : Nat} {v : Value} {d : D} (h : Rel R n v d) (hl : d.lt m = true) : Rel R m v d := by
  induction h with
  | any => exact .any _ _
  | int => exact .int _ _ _
  | bool => exact .bool _ _
  | str => exact .str _ _
  | agg n vs ds h1 _ ih => exact .agg _ vs ds h1 fun i v d a b => ih i v d a b (D.ltL_get (by simpa [D.lt] using hl) i d b)
  | tup n vs ds h1 _ ih => exact .tup _ vs ds h1 fun i v d a b => ih i v d a b (D.ltL_get (by simpa [D.lt] using hl) i d b)
  | nils => exact .nils _
  | sln => exact .sln _
  | sle n a cap => exact .sle _ a cap
  | sl n b off cap es sz vs h1 h2 h3 h4 h5 _ => exact .sl _ b off cap es sz vs h1 h2 h3 h4 h5
  | ref n b off cs o vs h1 h2 h3 _ => exact .ref _ b off cs o vs h1 h2 h3
  | ptr n b off h1 => exact .ptr _ b off (by simpa [D.lt] using hl)
  | osl n b l v h1 h2 => exact .osl _ b l v (by simpa [D.lt] using hl) h2
  | eptr n b l sz i off v h1 h2 => exact .eptr _ b l sz i off v (by simpa [D.lt] using hl) h2
  | fn n f va vc da dc h1 h2 _ _ i1 i2 =>
    have hl' : D.ltL m da = true ∧ D.ltL m dc = true := by simpa [D.lt] using hl
    exact .fn _ f va vc da dc h1 h2 (fun i v d a b => i1 i v d a b (D.ltL_get hl'.1 i d b)) (fun i v d a b => i2 i v d a b (D.ltL_get hl'.2 i d b))
  | nilp => exact .nilp _
  | nilf => exact .nilf _
  | nili => exact .nili _
  | nilm => exact .nilm _
  | ifc n t v d _ ih => exact .ifc _ t v d (ih (by simpa [D.lt] using hl))
  | mp n b h1 => exact .mp _ b (by simpa [D.lt] using hl)
  | bsl n b off l cap sz h1 h2 => exact .bsl _ b off l cap sz (by simpa [D.lt] using hl) h2
  | raw => exact .raw _ _

structure RLe (n : Nat) (R R' : Rx) : Prop where
  β : ∀ b, b < n → R'.β b = R.β b
  arr : ∀ b, b < n → ∀ m', R'.ln b = some m' → ∃ m, R.ln b = some m ∧ m ≤ m' ∧ (m = m' → R'.sv b = R.sv b)
  S : ∀ b, R.S b → R'.S b
  heap : ∀ b o, R.S b → R'.w.cell? ⟨b, o, none⟩ = R.w.cell? ⟨b, o, none⟩

theorem RLe.down {n m : Nat} {R R' : Rx} (h : RLe n R R') (hm : m ≤ n) : RLe m R R' :=
  ⟨fun b hb => h.β b (by omega), fun b hb => h.arr b (by omega), h.S, h.heap⟩

theorem cell_of_heap {w w' : World} {a : Addr} (h : w'.heap[a.block]? = w.heap[a.block]?) : w'.cell? a = w.cell? a := by
  simp only [World.cell?, h]

theorem Rel.mono {R R' : Rx} {n : Nat} {v : Value} {d : D} (h : Rel R n v d) (hle : RLe n R R') : Rel R' n v d := by
  induction h with
  | any => exact .any _ _
  | int => exact .int _ _ _
  | bool => exact .bool _ _
  | str => exact .str _ _
  | agg n vs ds h1 _ ih => exact .agg _ vs ds h1 fun i v d a b => ih i v d a b hle
  | tup n vs ds h1 _ ih => exact .tup _ vs ds h1 fun i v d a b => ih i v d a b hle
  | nils => exact .nils _
  | sln => exact .sln _
  | sle n a cap => exact .sle _ a cap
  | sl n b off cap es sz vs h1 h2 h3 h4 _ ih =>
    exact .sl _ b off cap es sz vs (h1.imp id (hle.S b)) h2 h3 (fun i e j d a c => by rw [hle.heap b _ (h1.resolve_left (by rintro rfl; simp at a))]; exact h4 i e j d a c) (fun i e j d a c => ih i e j d a c (hle.down (Nat.zero_le _)))
  | ref n b off cs o vs h1 h2 _ ih =>
    exact .ref _ b off cs o vs (hle.S b h1) (fun j d a => by rw [hle.heap b _ h1]; exact h2 j d a) (fun j d a => ih j d a (hle.down (Nat.zero_le _)))
  | ptr n b off h1 => rw [← hle.β b h1]; exact .ptr _ b off h1
  | osl n b l v h1 h2 =>
    refine .osl _ b l v h1 fun m' hm' => ?_
    obtain ⟨m, hm, hle', he⟩ := hle.arr b h1 m' hm'
    obtain ⟨h3, h4⟩ := h2 m hm
    exact ⟨by omega, fun e => by rw [he (by omega)]; exact h4 (by omega)⟩
  | eptr n b l sz i off v h1 h2 =>
    refine .eptr _ b l sz i off v h1 fun m' hm' => ?_
    obtain ⟨m, hm, hle', he⟩ := hle.arr b h1 m' hm'
    obtain ⟨h3, h4⟩ := h2 m hm
    exact ⟨by omega, fun e => by rw [he (by omega)]; exact h4 (by omega)⟩
  | fn n f va vc da dc h1 h2 _ _ i1 i2 => exact .fn _ f va vc da dc h1 h2 (fun i v d a b => i1 i v d a b hle) (fun i v d a b => i2 i v d a b hle)
  | nilp => exact .nilp _
  | nilf => exact .nilf _
  | nili => exact .nili _
  | nilm => exact .nilm _
  | ifc n t v d _ ih => exact .ifc _ t v d (ih hle)
  | mp n b h1 => rw [← hle.β b h1]; exact .mp _ b h1
  | bsl n b off l cap sz h1 h2 => rw [← hle.β b h1]; exact .bsl _ b off l cap sz h1 h2
  | raw => exact .raw _ _

/-! Heaps -/

inductive Blk where
  | box (cs : List D)
  | arr (ty : TypeId) (sz : Nat) (es : List (List D))
  | map (kvs : List (D × D))
  deriving Inhabited

abbrev H := List (Nat × Blk)

def hget : H → Nat → Option Blk
  | [], _ => none
  | (i, b) :: r, k => if k = i then some b else hget r k

def hset : H → Nat → Blk → H
  | [], k, b => [(k, b)]
  | (i, b0) :: r, k, b => if k = i then (i, b) :: r else (i, b0) :: hset r k b

theorem hget_hset (h : H) (k : Nat) (b : Blk) (j : Nat) : hget (hset h k b) j = if j = k then some b else hget h j := by
  induction h with
  | nil => simp [hset, hget]
  | cons p r ih =>
    obtain ⟨i, b0⟩ := p
    simp only [hset]
    by_cases hk : k = i
    · subst hk
      simp only [if_true, hget]
      by_cases hj : j = k <;> simp [hj]
    · simp only [if_neg hk, hget, ih]
      by_cases hj : j = i
      · subst hj; simp [Ne.symm hk]
      · simp [hj]

structure Cx where
  w : World
  β : Nat → Nat
  sv : Nat → Value
  h : H
  nid : Nat

def slBlk : Value → Option Nat
  | .slice (some a) _ _ => some a.block
  | _ => none

def ownOf (k : Cx) (id : Nat) : Option Blk → Option Nat
  | some (.box _) => some (k.β id)
  | some (.arr _ _ _) => slBlk (k.sv id)
  | some (.map _) => some (k.β id)
  | none => none

def Cx.own (k : Cx) (id : Nat) : Option Nat := ownOf k id (hget k.h id)

def Cx.Mut (k : Cx) (b : Nat) : Prop := ∃ id, k.own id = some b

def lnOf : Option Blk → Option Nat
  | some (.arr _ _ es) => some es.length
  | _ => none

def Cx.R (X : Nat → Prop) (k : Cx) : Rx :=
  { w := k.w, S := fun b => b < k.w.heap.size ∧ ¬ X b ∧ ¬ k.Mut b, β := k.β, sv := k.sv, ln := fun id => lnOf (hget k.h id) }

/-- Keys that one knows to be different. -/
def keyNe : D → D → Bool
  | .int k a, .int k' b => k == k' && !(a == b)
  | .str a, .str b => !(a.toList == b.toList)
  | .bool a, .bool b => !(a == b)
  | _, _ => false
def keyOne : D → Bool
  | .int _ _ | .str _ | .bool _ => true
  | _ => false
def keysOk : List D → Bool
  | [] => true
  | k :: r => keyOne k && r.all (keyNe k) && keysOk r

def BlkOk (X : Nat → Prop) (k : Cx) (id : Nat) : Blk → Prop
  | .box cs => ∃ vs ty, k.w.heap[k.β id]? = some (.cells (List.toArray vs) ty (0, 0)) ∧ RelL (k.R X) k.nid vs cs
  | .arr ty sz es => (∀ e ∈ es, e.length = sz) ∧
      ((k.sv id = .slice none 0 0 ∧ es = []) ∨
       ∃ b cap vs, k.sv id = .slice (some ⟨b, 0, none⟩) es.length cap ∧ k.w.heap[b]? = some (.cells (List.toArray vs) ty (0, 0)) ∧ vs.length = cap * sz ∧ es.length ≤ cap ∧
         ∀ (i : Nat) e (j : Nat) d v, es[i]? = some e → e[j]? = some d → vs[i * sz + j]? = some v → Rel (k.R X) 0 v d)
  | .map kvs => ∃ es clock es', k.w.heap[k.β id]? = some (.map (List.toArray es) clock) ∧ List.Perm es' es ∧ keysOk (kvs.map (·.1)) = true ∧
      RelL (k.R X) 0 (es'.map (·.key)) (kvs.map (·.1)) ∧ RelL (k.R X) k.nid (es'.map (·.val)) (kvs.map (·.2))

/-- All that a block holds is older than m. -/
def blkLt (m : Nat) : Blk → Bool
  | .box cs => D.ltL m cs
  | .arr _ _ _ => true
  | .map kvs => D.ltL m (kvs.map (·.2))

structure Good (X : Nat → Prop) (k : Cx) : Prop where
  key : ∀ id blk, hget k.h id = some blk → id < k.nid
  inj : ∀ i j b, k.own i = some b → k.own j = some b → i = j
  lt : ∀ i b, k.own i = some b → b < k.w.heap.size ∧ ¬ X b
  xlt : ∀ b, X b → b < k.w.heap.size
  ok : ∀ id blk, hget k.h id = some blk → BlkOk X k id blk

structure Le (k0 k : Cx) : Prop where
  nid : k0.nid ≤ k.nid
  os : k.w.os = k0.w.os
  tape : k.w.tape = k0.w.tape
  output : k.w.output = k0.w.output
  size : k0.w.heap.size ≤ k.w.heap.size
  β : ∀ id, id < k0.nid → k.β id = k0.β id
  arr : ∀ id, id < k0.nid → ∀ m', lnOf (hget k.h id) = some m' → ∃ m, lnOf (hget k0.h id) = some m ∧ m ≤ m' ∧ (m = m' → k.sv id = k0.sv id)
  heap : ∀ b, b < k0.w.heap.size → ¬ k0.Mut b → k.w.heap[b]? = k0.w.heap[b]?
  mb : ∀ b, b < k0.w.heap.size → k.Mut b → k0.Mut b

theorem Le.refl (k : Cx) : Le k k :=
  ⟨Nat.le_refl _, rfl, rfl, rfl, Nat.le_refl _, fun _ _ => rfl, fun _ _ m hm => ⟨m, hm, Nat.le_refl _, fun _ => rfl⟩, fun _ _ _ => rfl, fun _ _ h => h⟩

theorem Le.trans {a b c : Cx} (h : Le a b) (h' : Le b c) : Le a c where
  nid := Nat.le_trans h.nid h'.nid
  os := h'.os.trans h.os
  tape := h'.tape.trans h.tape
  output := h'.output.trans h.output
  size := Nat.le_trans h.size h'.size
  β := fun id hid => (h'.β id (Nat.lt_of_lt_of_le hid h.nid)).trans (h.β id hid)
  arr := fun id hid m' hm' => by
    obtain ⟨m1, e1, l1, q1⟩ := h'.arr id (Nat.lt_of_lt_of_le hid h.nid) m' hm'
    obtain ⟨m0, e0, l0, q0⟩ := h.arr id hid m1 e1
    exact ⟨m0, e0, by omega, fun e => (q1 (by omega)).trans (q0 (by omega))⟩
  heap := fun i hi hn => (h'.heap i (Nat.lt_of_lt_of_le hi h.size) (fun hm => hn (h.mb i hi hm))).trans (h.heap i hi hn)
  mb := fun i hi hm => h.mb i hi (h'.mb i (Nat.lt_of_lt_of_le hi h.size) hm)

theorem Le.rle {X : Nat → Prop} {k0 k : Cx} (h : Le k0 k) {n : Nat} (hn : n ≤ k0.nid) : RLe n (k0.R X) (k.R X) where
  β := fun b hb => h.β b (Nat.lt_of_lt_of_le hb hn)
  arr := fun b hb => h.arr b (Nat.lt_of_lt_of_le hb hn)
  S := fun b ⟨h1, h2, h3⟩ => ⟨Nat.lt_of_lt_of_le h1 h.size, h2, fun hm => h3 (h.mb b h1 hm)⟩
  heap := fun b o ⟨h1, _, h3⟩ => cell_of_heap (h.heap b h1 h3)

theorem Rel.le {X : Nat → Prop} {k0 k : Cx} {v : Value} {d : D} (hr : Rel (k0.R X) k0.nid v d) (h : Le k0 k) : Rel (k.R X) k.nid v d :=
  (hr.mono (h.rle (Nat.le_refl _))).weak h.nid

theorem Rel.le0 {X : Nat → Prop} {k0 k : Cx} {v : Value} {d : D} (hr : Rel (k0.R X) 0 v d) (h : Le k0 k) : Rel (k.R X) 0 v d :=
  hr.mono (h.rle (Nat.zero_le _))

theorem RelL.le {X : Nat → Prop} {k0 k : Cx} {vs : List Value} {ds : List D} (hr : RelL (k0.R X) k0.nid vs ds) (h : Le k0 k) : RelL (k.R X) k.nid vs ds :=
  ⟨hr.1, fun i v d a b => (hr.2 i v d a b).le h⟩

theorem RelL.le0 {X : Nat → Prop} {k0 k : Cx} {vs : List Value} {ds : List D} (hr : RelL (k0.R X) 0 vs ds) (h : Le k0 k) : RelL (k.R X) 0 vs ds :=
  ⟨hr.1, fun i v d a b => (hr.2 i v d a b).le0 h⟩

/-- A block that has not been touched stays as it should be. -/
theorem BlkOk.le {X : Nat → Prop} {k0 k : Cx} {id : Nat} {blk : Blk} (h : BlkOk X k0 id blk) (hle : Le k0 k) (hβ : k.β id = k0.β id) (hsv : k.sv id = k0.sv id)
    (hh : ∀ b, ownOf k0 id (some blk) = some b → k.w.heap[b]? = k0.w.heap[b]?) : BlkOk X k id blk := by
  cases blk with
  | box cs =>
    obtain ⟨vs, ty, h1, h2⟩ := h
    exact ⟨vs, ty, by rw [hβ, hh _ rfl]; exact h1, h2.le hle⟩
  | arr ty sz es =>
    obtain ⟨h0, h1⟩ := h
    refine ⟨h0, ?_⟩
    rcases h1 with ⟨h1, h2⟩ | ⟨b, cap, vs, h1, h2, h3, h4, h5⟩
    · exact .inl ⟨hsv.trans h1, h2⟩
    · exact .inr ⟨b, cap, vs, hsv.trans h1, by rw [hh b (by simp [ownOf, h1, slBlk])]; exact h2, h3, h4, fun i e j d v a c f => (h5 i e j d v a c f).le0 hle⟩
  | map kvs =>
    obtain ⟨es, c, es', h1, hp, hk, h2, h3⟩ := h
    exact ⟨es, c, es', by rw [hβ, hh _ rfl]; exact h1, hp, hk, h2.le0 hle, h3.le hle⟩

/-- A context whose world alone has changed, where nothing that was there has turned: draws, what a callee has made. -/
theorem le_world {k : Cx} {w' : World} (hos : w'.os = k.w.os) (htape : w'.tape = k.w.tape) (hout : w'.output = k.w.output) (hsize : k.w.heap.size ≤ w'.heap.size)
    (hheap : ∀ b, b < k.w.heap.size → w'.heap[b]? = k.w.heap[b]?) : Le k { k with w := w' } where
  nid := Nat.le_refl _
  os := hos
  tape := htape
  output := hout
  size := hsize
  β := fun _ _ => rfl
  arr := fun _ _ m hm => ⟨m, hm, Nat.le_refl _, fun _ => rfl⟩
  heap := fun b hb _ => hheap b hb
  mb := fun _ _ ⟨id, hid⟩ => ⟨id, hid⟩

theorem Good.world {X : Nat → Prop} {k : Cx} {w' : World} (hg : Good X k) (hle : Le k { k with w := w' }) (hheap : ∀ b, b < k.w.heap.size → w'.heap[b]? = k.w.heap[b]?) :
    Good X { k with w := w' } where
  key := hg.key
  inj := hg.inj
  lt := fun i b hb => ⟨Nat.lt_of_lt_of_le (hg.lt i b hb).1 hle.size, (hg.lt i b hb).2⟩
  xlt := fun b hb => Nat.lt_of_lt_of_le (hg.xlt b hb) hle.size
  ok := fun id blk hid => (hg.ok id blk hid).le hle rfl rfl fun b hb => hheap b (hg.lt id b (by rw [Cx.own, hid]; exact hb)).1

/-- A constant value as data. -/
def vD : Value → D
  | .int k n => .int k n
  | .bool b => .bool b
  | .string s => .str s
  | .slice none 0 0 => .nils
  | .pointer none => .nilp
  | .map none => .nilm
  | .nilFunc => .nilf
  | .nilIface => .nili
  | v => .raw v

theorem Rel.vD (R : Rx) (n : Nat) (v : Value) : Rel R n v (vD v) := by
  unfold Sx.vD
  split
  · exact .int _ _ _
  · exact .bool _ _
  · exact .str _ _
  · exact .nils _
  · exact .nilp _
  · exact .nilm _
  · exact .nilf _
  · exact .nili _
  · exact .raw _ _

end Go.Sx
