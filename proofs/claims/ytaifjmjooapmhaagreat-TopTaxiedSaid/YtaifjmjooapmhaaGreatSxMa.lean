/- Own work: a calculus of contracts for the programs of this kit: parts SxA, SxB, SxC, SxD, SxD2, SxE, SxF, SxG, SxG2. -/
import Derived.OrdersIn
import Derived.RangeFuncLeaves
import Derived.KernelRfl
import Derived.Laws.World
import Derived.Laws.Entries
import Derived.Laws.StructEq
import Derived.Laws.Cells
import Derived.ChangeKeysEq
import Derived.MapKept
import Derived.Laws.CopyRow
import Derived.Laws.AppendOwn
import Derived.Laws.Append
import Derived.Laws.Tables
import Derived.Laws.BytesArg
import Derived.Laws.IdiomStrings
import Derived.Laws.MakeOwn
set_option linter.unusedVariables false
set_option linter.unusedSimpArgs false
namespace Go.Sx

inductive D where
 | any
 | int (k : IntKind) (n : Int)
 | bool (b : Bool)
 | str (s : ByteArray)
 | agg (cs : List D)
 | tup (vs : List D)
 | nils
 | sl (es : List (List D))
 | ref (cs : List D) (off : Nat)
 | ptr (b off : Nat)
 | osl (b n : Nat)
 | eptr (b n sz i off : Nat)
 | fn (f : Fn) (first captured : List D)
 | nilp
 | nilf
 | nili
 | nilm
 | ifc (t : TypeId) (d : D)
 | mp (b : Nat)
 | mpd (kvs : List (D × D))
 | refm (kvs : List (D × D))
 | bsl (b off l sz : Nat)
 | raw (v : Value)
 deriving Inhabited

def D.cell : D → Bool
 | .any | .agg _ | .tup _ | .raw _ => false
 | _ => true

mutual
def D.lt (m : Nat) : D → Bool
 | .ptr b _ => Nat.blt b m
 | .osl b _ => Nat.blt b m
 | .eptr b _ _ _ _ => Nat.blt b m
 | .mp b => Nat.blt b m
 | .mpd _ => Nat.blt 0 m
 | .refm _ => Nat.blt 0 m
 | .bsl b _ _ _ => Nat.blt b m
 | .agg cs => D.ltL m cs
 | .tup cs => D.ltL m cs
 | .fn _ f c => D.ltL m f && D.ltL m c
 | .ifc _ d => D.lt m d
 | _ => true
def D.ltL (m : Nat) : List D → Bool
 | [] => true
 | d :: ds => D.lt m d && D.ltL m ds
end

mutual
def D.nm : D → Bool
 | .mpd _ => false
 | .refm _ => false
 | .agg cs => D.nmL cs
 | .tup cs => D.nmL cs
 | .fn _ f c => D.nmL f && D.nmL c
 | .ifc _ d => D.nm d
 | _ => true
def D.nmL : List D → Bool
 | [] => true
 | d :: ds => D.nm d && D.nmL ds
end

mutual
theorem D.nm_lt : ∀ {d : D}, D.lt 0 d = true → D.nm d = true
 | .agg cs, h => D.nmL_lt (ds := cs) (by simpa [D.lt] using h)
 | .tup cs, h => D.nmL_lt (ds := cs) (by simpa [D.lt] using h)
 | .fn _ f c, h => by
  have h' : D.ltL 0 f = true ∧ D.ltL 0 c = true := by simpa [D.lt] using h
  simp only [D.nm, D.nmL_lt h'.1, D.nmL_lt h'.2, Bool.and_self]
 | .ifc _ d, h => D.nm_lt (d := d) (by simpa [D.lt] using h)
 | .mpd _, h => by simp [D.lt] at h
 | .refm _, h => by simp [D.lt] at h
 | .any, _ | .int _ _, _ | .bool _, _ | .str _, _ | .nils, _ | .sl _, _ | .ref _ _, _ | .ptr _ _, _ | .osl _ _, _ | .eptr _ _ _ _ _, _ | .nilp, _ | .nilf, _ | .nili, _ | .nilm, _ | .mp _, _ | .bsl _ _ _ _, _ | .raw _, _ => rfl
theorem D.nmL_lt : ∀ {ds : List D}, D.ltL 0 ds = true → D.nmL ds = true
 | [], _ => rfl
 | d :: ds, h => by
  have h' : D.lt 0 d = true ∧ D.ltL 0 ds = true := by simpa [D.ltL] using h
  simp only [D.nmL, D.nm_lt h'.1, D.nmL_lt h'.2, Bool.and_self]
end

theorem D.nmL_iff {ds : List D} : D.nmL ds = true ↔ ∀ d ∈ ds, D.nm d = true := by
 induction ds with
 | nil => simp [D.nmL]
 | cons x xs ih => simp [D.nmL, ih]

theorem D.nmL_get {ds : List D} (h : D.nmL ds = true) (i : Nat) (d : D) (hi : ds[i]? = some d) : D.nm d = true := D.nmL_iff.1 h d (List.mem_of_getElem? hi)

def keyNe : D → D → Bool
 | .int k a, .int k' b => k == k' && !(a == b)
 | .agg [.int k a, .int l b], .agg [.int k' a', .int l' b'] => (k == k' && l == l') && !(a == a' && b == b')
 | .str a, .str b => !(a.toList == b.toList)
 | .bool a, .bool b => !(a == b)
 | _, _ => false
def keyOne : D → Bool
 | .int _ _ | .str _ | .bool _ => true
 | .agg [.int _ _, .int _ _] => true
 | _ => false
def keysOk : List D → Bool
 | [] => true
 | k :: r => keyOne k && r.all (keyNe k) && keysOk r

structure Lays (es' es : List MapEntry) (clock : Nat) : Prop where
 perm : List.Perm es' es
 born : ∀ x ∈ es, x.born < clock
 nodup : (es.map (·.born)).Nodup

structure Rx where
 w : World
 S : Nat → Prop
 β : Nat → Nat
 sv : Nat → Value
 ln : Nat → Option Nat

def eaddr (v : Value) (o : Nat) : Value :=
 match v with
 | .slice (some a) _ _ => .pointer (some ⟨a.block, a.off + o, none⟩)
 | v => v

inductive Rel (R : Rx) : Nat → Value → D → Prop
 | any (n v) : Rel R n v .any
 | int (n k x) : Rel R n (.int k x) (.int k x)
 | bool (n b) : Rel R n (.bool b) (.bool b)
 | str (n s) : Rel R n (.string s) (.str s)
 | agg (n) (vs : List Value) (ds : List D) : vs.length = ds.length → (∀ (i : Nat) v d, vs[i]? = some v → ds[i]? = some d → Rel R n v d) → Rel R n (.agg vs.toArray) (.agg ds)
 | tup (n) (vs : List Value) (ds : List D) : vs.length = ds.length → (∀ (i : Nat) v d, vs[i]? = some v → ds[i]? = some d → Rel R n v d) → Rel R n (.tuple vs.toArray) (.tup ds)
 | nils (n) : Rel R n (.slice none 0 0) .nils
 | sln (n) : Rel R n (.slice none 0 0) (.sl [])
 | sle (n) (a : Addr) (cap : Nat) : Rel R n (.slice (some a) 0 cap) (.sl [])
 | sl (n) (b off cap : Nat) (es : List (List D)) (sz : Nat) (vs : Nat → Nat → Value) : (es = [] ∨ R.S b) → es.length ≤ cap → (∀ e ∈ es, e.length = sz) →
   (∀ (i : Nat) e (j : Nat) d, es[i]? = some e → e[j]? = some d → R.w.cell? ⟨b, off + (i * sz + j), none⟩ = some (vs i j)) →
   (∀ (i : Nat) e (j : Nat) d, es[i]? = some e → e[j]? = some d → Rel R 0 (vs i j) d) → (∀ e ∈ es, D.nmL e = true) → Rel R n (.slice (some ⟨b, off, none⟩) es.length cap) (.sl es)
 | ref (n) (b off : Nat) (cs : List D) (o : Nat) (vs : Nat → Value) : R.S b →
   (∀ (j : Nat) d, cs[j]? = some d → R.w.cell? ⟨b, off + j, none⟩ = some (vs j)) →
   (∀ (j : Nat) d, cs[j]? = some d → Rel R 0 (vs j) d) → D.nmL cs = true → Rel R n (.pointer (some ⟨b, off + o, none⟩)) (.ref cs o)
 | ptr (n) (b off : Nat) : b < n → Rel R n (.pointer (some ⟨R.β b, off, none⟩)) (.ptr b off)
 | osl (n) (b l : Nat) (v : Value) : b < n → (∀ m, R.ln b = some m → l ≤ m ∧ (l = m → v = R.sv b)) → Rel R n v (.osl b l)
 | eptr (n) (b l sz i off : Nat) (v : Value) : b < n → (∀ m, R.ln b = some m → l ≤ m ∧ (l = m → v = eaddr (R.sv b) (i * sz + off))) → Rel R n v (.eptr b l sz i off)
 | fn (n) (f : Fn) (va vc : List Value) (da dc : List D) : va.length = da.length → vc.length = dc.length →
   (∀ (i : Nat) v d, va[i]? = some v → da[i]? = some d → Rel R n v d) → (∀ (i : Nat) v d, vc[i]? = some v → dc[i]? = some d → Rel R n v d) →
   Rel R n (.func f va.toArray vc.toArray) (.fn f da dc)
 | nilp (n) : Rel R n (.pointer none) .nilp
 | nilf (n) : Rel R n .nilFunc .nilf
 | nili (n) : Rel R n .nilIface .nili
 | nilm (n) : Rel R n (.map none) .nilm
 | ifc (n) (t : TypeId) (v : Value) (d : D) : Rel R n v d → Rel R n (.iface t v) (.ifc t d)
 | mp (n) (b : Nat) : b < n → Rel R n (.map (some (R.β b))) (.mp b)
 | mpd (n) (b : Nat) (kvs : List (D × D)) (es es' : List MapEntry) (clock : Nat) : R.S b → R.w.heap[b]? = some (.map es.toArray clock) → Lays es' es clock → keysOk (kvs.map (·.1)) = true →
   es'.length = kvs.length → (∀ (i : Nat) v d, (es'.map (·.key))[i]? = some v → (kvs.map (·.1))[i]? = some d → Rel R 0 v d) →
   (∀ (i : Nat) v d, (es'.map (·.val))[i]? = some v → (kvs.map (·.2))[i]? = some d → Rel R 0 v d) → D.nmL (kvs.map (·.2)) = true → Rel R n (.map (some b)) (.mpd kvs)
 | refm (n) (b off : Nat) (kvs : List (D × D)) (v : Value) : R.S b → R.w.cell? ⟨b, off, none⟩ = some v → Rel R 0 v (.mpd kvs) → Rel R n (.pointer (some ⟨b, off, none⟩)) (.refm kvs)
 | bsl (n) (b off l cap sz : Nat) : b < n → l ≤ cap → Rel R n (.slice (some ⟨R.β b, off, none⟩) l cap) (.bsl b off l sz)
 | raw (n v) : Rel R n v (.raw v)

def RelL (R : Rx) (n : Nat) (vs : List Value) (ds : List D) : Prop :=
 vs.length = ds.length ∧ ∀ (i : Nat) v d, vs[i]? = some v → ds[i]? = some d → Rel R n v d

theorem Rel.weak {R : Rx} {n m : Nat} {v : Value} {d : D} (h : Rel R n v d) (hle : n ≤ m) : Rel R m v d := by
 induction h with
 | any => exact .any _ _
 | int => exact .int _ _ _
 | bool => exact .bool _ _
 | str => exact .str _ _
 | agg n vs ds h1 _ ih => exact .agg _ vs ds h1 fun i v d a b => ih i v d a b hle
 | tup n vs ds h1 _ ih => exact .tup _ vs ds h1 fun i v d a b => ih i v d a b hle
 | nils => exact .nils _
 | sln => exact .sln _
 | sle n a cap => exact .sle _ a cap
 | sl n b off cap es sz vs h1 h2 h3 h4 h5 h6 _ => exact .sl _ b off cap es sz vs h1 h2 h3 h4 h5 h6
 | ref n b off cs o vs h1 h2 h3 h4 _ => exact .ref _ b off cs o vs h1 h2 h3 h4
 | ptr n b off h1 => exact .ptr _ b off (by omega)
 | osl n b l v h1 h2 => exact .osl _ b l v (by omega) h2
 | eptr n b l sz i off v h1 h2 => exact .eptr _ b l sz i off v (by omega) h2
 | fn n f va vc da dc h1 h2 _ _ i1 i2 => exact .fn _ f va vc da dc h1 h2 (fun i v d a b => i1 i v d a b hle) (fun i v d a b => i2 i v d a b hle)
 | nilp => exact .nilp _
 | nilf => exact .nilf _
 | nili => exact .nili _
 | nilm => exact .nilm _
 | ifc n t v d _ ih => exact .ifc _ t v d (ih hle)
 | mp n b h1 => exact .mp _ b (by omega)
 | mpd n b kvs es es' c h2 h3 h4 h5 h6 h7 h8 h9 => exact .mpd _ b kvs es es' c h2 h3 h4 h5 h6 h7 h8 h9
 | refm n b off kvs v h1 h2 h3 _ => exact .refm _ b off kvs v h1 h2 h3
 | bsl n b off l cap sz h1 h2 => exact .bsl _ b off l cap sz (by omega) h2
 | raw => exact .raw _ _

theorem D.ltL_get {m : Nat} : ∀ {ds : List D}, D.ltL m ds = true → ∀ (i : Nat) (d : D), ds[i]? = some d → D.lt m d = true
 | [], _, i, d, h => by simp at h
 | x :: xs, hl, 0, d, h => by simp [D.ltL] at hl; simp at h; subst h; exact hl.1
 | x :: xs, hl, i + 1, d, h => by simp [D.ltL] at hl; simp at h; exact D.ltL_get hl.2 i d h

theorem Rel.roll {R : Rx} {n m : Nat} {v : Value} {d : D} (h : Rel R n v d) (hl : d.lt m = true) : Rel R m v d := by
 induction h with
 | any => exact .any _ _
 | int => exact .int _ _ _
 | bool => exact .bool _ _
 | str => exact .str _ _
 | agg n vs ds h1 _ ih => exact .agg _ vs ds h1 fun i v d a b => ih i v d a b (D.ltL_get (by simpa [D.lt] using hl) i d b)
 | tup n vs ds h1 _ ih => exact .tup _ vs ds h1 fun i v d a b => ih i v d a b (D.ltL_get (by simpa [D.lt] using hl) i d b)
 | nils => exact .nils _
 | sln => exact .sln _
 | sle n a cap => exact .sle _ a cap
 | sl n b off cap es sz vs h1 h2 h3 h4 h5 h6 _ => exact .sl _ b off cap es sz vs h1 h2 h3 h4 h5 h6
 | ref n b off cs o vs h1 h2 h3 h4 _ => exact .ref _ b off cs o vs h1 h2 h3 h4
 | ptr n b off h1 => exact .ptr _ b off (by simpa [D.lt] using hl)
 | osl n b l v h1 h2 => exact .osl _ b l v (by simpa [D.lt] using hl) h2
 | eptr n b l sz i off v h1 h2 => exact .eptr _ b l sz i off v (by simpa [D.lt] using hl) h2
 | fn n f va vc da dc h1 h2 _ _ i1 i2 =>
  have hl' : D.ltL m da = true ∧ D.ltL m dc = true := by simpa [D.lt] using hl
  exact .fn _ f va vc da dc h1 h2 (fun i v d a b => i1 i v d a b (D.ltL_get hl'.1 i d b)) (fun i v d a b => i2 i v d a b (D.ltL_get hl'.2 i d b))
 | nilp => exact .nilp _
 | nilf => exact .nilf _
 | nili => exact .nili _
 | nilm => exact .nilm _
 | ifc n t v d _ ih => exact .ifc _ t v d (ih (by simpa [D.lt] using hl))
 | mp n b h1 => exact .mp _ b (by simpa [D.lt] using hl)
 | mpd n b kvs es es' c h2 h3 h4 h5 h6 h7 h8 h9 => exact .mpd _ b kvs es es' c h2 h3 h4 h5 h6 h7 h8 h9
 | refm n b off kvs v h1 h2 h3 _ => exact .refm _ b off kvs v h1 h2 h3
 | bsl n b off l cap sz h1 h2 => exact .bsl _ b off l cap sz (by simpa [D.lt] using hl) h2
 | raw => exact .raw _ _

structure RLe (n : Nat) (R R' : Rx) : Prop where
 β : ∀ b, b < n → R'.β b = R.β b
 arr : ∀ b, b < n → ∀ m', R'.ln b = some m' → ∃ m, R.ln b = some m ∧ m ≤ m' ∧ (m = m' → R'.sv b = R.sv b)
 S : ∀ b, R.S b → R'.S b
 heap : ∀ b o, R.S b → R'.w.cell? ⟨b, o, none⟩ = R.w.cell? ⟨b, o, none⟩
 map : ∀ b es c, R.S b → R.w.heap[b]? = some (.map es c) → R'.w.heap[b]? = some (.map es c)

theorem RLe.down {n m : Nat} {R R' : Rx} (h : RLe n R R') (hm : m ≤ n) : RLe m R R' :=
 ⟨fun b hb => h.β b (by omega), fun b hb => h.arr b (by omega), h.S, h.heap, h.map⟩

theorem cell_of_heap {w w' : World} {a : Addr} (h : w'.heap[a.block]? = w.heap[a.block]?) : w'.cell? a = w.cell? a := by
 simp only [World.cell?, h]

theorem Rel.mono {R R' : Rx} {n : Nat} {v : Value} {d : D} (h : Rel R n v d) (hle : RLe n R R') : Rel R' n v d := by
 induction h with
 | any => exact .any _ _
 | int => exact .int _ _ _
 | bool => exact .bool _ _
 | str => exact .str _ _
 | agg n vs ds h1 _ ih => exact .agg _ vs ds h1 fun i v d a b => ih i v d a b hle
 | tup n vs ds h1 _ ih => exact .tup _ vs ds h1 fun i v d a b => ih i v d a b hle
 | nils => exact .nils _
 | sln => exact .sln _
 | sle n a cap => exact .sle _ a cap
 | sl n b off cap es sz vs h1 h2 h3 h4 _ h6 ih =>
  exact .sl _ b off cap es sz vs (h1.imp id (hle.S b)) h2 h3 (fun i e j d a c => by rw [hle.heap b _ (h1.resolve_left (by rintro rfl; simp at a))]; exact h4 i e j d a c) (fun i e j d a c => ih i e j d a c (hle.down (Nat.zero_le _))) h6
 | ref n b off cs o vs h1 h2 _ h4 ih =>
  exact .ref _ b off cs o vs (hle.S b h1) (fun j d a => by rw [hle.heap b _ h1]; exact h2 j d a) (fun j d a => ih j d a (hle.down (Nat.zero_le _))) h4
 | ptr n b off h1 => rw [← hle.β b h1]; exact .ptr _ b off h1
 | osl n b l v h1 h2 =>
  refine .osl _ b l v h1 fun m' hm' => ?_
  obtain ⟨m, hm, hle', he⟩ := hle.arr b h1 m' hm'
  obtain ⟨h3, h4⟩ := h2 m hm
  exact ⟨by omega, fun e => by rw [he (by omega)]; exact h4 (by omega)⟩
 | eptr n b l sz i off v h1 h2 =>
  refine .eptr _ b l sz i off v h1 fun m' hm' => ?_
  obtain ⟨m, hm, hle', he⟩ := hle.arr b h1 m' hm'
  obtain ⟨h3, h4⟩ := h2 m hm
  exact ⟨by omega, fun e => by rw [he (by omega)]; exact h4 (by omega)⟩
 | fn n f va vc da dc h1 h2 _ _ i1 i2 => exact .fn _ f va vc da dc h1 h2 (fun i v d a b => i1 i v d a b hle) (fun i v d a b => i2 i v d a b hle)
 | nilp => exact .nilp _
 | nilf => exact .nilf _
 | nili => exact .nili _
 | nilm => exact .nilm _
 | ifc n t v d _ ih => exact .ifc _ t v d (ih hle)
 | mp n b h1 => rw [← hle.β b h1]; exact .mp _ b h1
 | mpd n b kvs es es' c h2 h3 h4 h5 h6 h7 h8 h9 i7 i8 =>
  exact .mpd _ b kvs es es' c (hle.S b h2) (hle.map b _ _ h2 h3) h4 h5 h6 (fun i v d a b => i7 i v d a b (hle.down (Nat.zero_le _))) (fun i v d a b => i8 i v d a b (hle.down (Nat.zero_le _))) h9
 | refm n b off kvs v h1 h2 _ ih => exact .refm _ b off kvs v (hle.S b h1) (by rw [hle.heap b _ h1]; exact h2) (ih (hle.down (Nat.zero_le _)))
 | bsl n b off l cap sz h1 h2 => rw [← hle.β b h1]; exact .bsl _ b off l cap sz h1 h2
 | raw => exact .raw _ _


inductive Blk where
 | box (cs : List D)
 | arr (ty : TypeId) (sz : Nat) (es : List (List D))
 | map (kvs : List (D × D))
 deriving Inhabited

abbrev H := List (Nat × Blk)

def hget : H → Nat → Option Blk
 | [], _ => none
 | (i, b) :: r, k => if k = i then some b else hget r k

def hset : H → Nat → Blk → H
 | [], k, b => [(k, b)]
 | (i, b0) :: r, k, b => if k = i then (i, b) :: r else (i, b0) :: hset r k b

theorem hget_hset (h : H) (k : Nat) (b : Blk) (j : Nat) : hget (hset h k b) j = if j = k then some b else hget h j := by
 induction h with
 | nil => simp [hset, hget]
 | cons p r ih =>
  obtain ⟨i, b0⟩ := p
  simp only [hset]
  by_cases hk : k = i
  ·subst hk
   simp only [if_true, hget]
   by_cases hj : j = k <;> simp [hj]
  ·simp only [if_neg hk, hget, ih]
   by_cases hj : j = i
   ·subst hj; simp [Ne.symm hk]
   ·simp [hj]

structure Cx where
 w : World
 β : Nat → Nat
 sv : Nat → Value
 h : H
 nid : Nat

def slBlk : Value → Option Nat
 | .slice (some a) _ _ => some a.block
 | _ => none

def ownOf (k : Cx) (id : Nat) : Option Blk → Option Nat
 | some (.box _) => some (k.β id)
 | some (.arr _ _ _) => slBlk (k.sv id)
 | some (.map _) => some (k.β id)
 | none => none

def Cx.own (k : Cx) (id : Nat) : Option Nat := ownOf k id (hget k.h id)

def Cx.Mut (k : Cx) (b : Nat) : Prop := ∃ id, k.own id = some b

def lnOf : Option Blk → Option Nat
 | some (.arr _ _ es) => some es.length
 | _ => none

def Cx.R (X : Nat → Prop) (k : Cx) : Rx :=
 { w := k.w, S := fun b => b < k.w.heap.size ∧ ¬ X b ∧ ¬ k.Mut b, β := k.β, sv := k.sv, ln := fun id => lnOf (hget k.h id) }

def BlkOk (X : Nat → Prop) (k : Cx) (id : Nat) : Blk → Prop
 | .box cs => ∃ vs ty, k.w.heap[k.β id]? = some (.cells (List.toArray vs) ty (0, 0)) ∧ RelL (k.R X) k.nid vs cs
 | .arr ty sz es => (∀ e ∈ es, e.length = sz ∧ D.nmL e = true) ∧
   ((k.sv id = .slice none 0 0 ∧ es = []) ∨
    ∃ b off cap vs, k.sv id = .slice (some ⟨b, off, none⟩) es.length cap ∧ k.w.heap[b]? = some (.cells (List.toArray vs) ty (0, 0)) ∧ off + cap * sz ≤ vs.length ∧ es.length ≤ cap ∧
     ∀ (i : Nat) e (j : Nat) d v, es[i]? = some e → e[j]? = some d → vs[off + (i * sz + j)]? = some v → Rel (k.R X) 0 v d)
 | .map kvs => ∃ es clock es', k.w.heap[k.β id]? = some (.map (List.toArray es) clock) ∧ Lays es' es clock ∧ keysOk (kvs.map (·.1)) = true ∧ D.nmL (kvs.map (·.2)) = true ∧
   RelL (k.R X) 0 (es'.map (·.key)) (kvs.map (·.1)) ∧ RelL (k.R X) k.nid (es'.map (·.val)) (kvs.map (·.2))

def blkLt (m : Nat) : Blk → Bool
 | .box cs => D.ltL m cs
 | .arr _ _ _ => true
 | .map kvs => D.ltL m (kvs.map (·.2))

structure Good (X : Nat → Prop) (k : Cx) : Prop where
 key : ∀ id blk, hget k.h id = some blk → id < k.nid
 inj : ∀ i j b, k.own i = some b → k.own j = some b → i = j
 lt : ∀ i b, k.own i = some b → b < k.w.heap.size ∧ ¬ X b
 xlt : ∀ b, X b → b < k.w.heap.size
 ok : ∀ id blk, hget k.h id = some blk → BlkOk X k id blk

structure Le (k0 k : Cx) : Prop where
 nid : k0.nid ≤ k.nid
 os : k.w.os = k0.w.os
 tape : k.w.tape = k0.w.tape
 output : k.w.output = k0.w.output
 size : k0.w.heap.size ≤ k.w.heap.size
 β : ∀ id, id < k0.nid → k.β id = k0.β id
 arr : ∀ id, id < k0.nid → ∀ m', lnOf (hget k.h id) = some m' → ∃ m, lnOf (hget k0.h id) = some m ∧ m ≤ m' ∧ (m = m' → k.sv id = k0.sv id)
 heap : ∀ b, b < k0.w.heap.size → ¬ k0.Mut b → k.w.heap[b]? = k0.w.heap[b]?
 mb : ∀ b, b < k0.w.heap.size → k.Mut b → k0.Mut b

theorem Le.refl (k : Cx) : Le k k :=
 ⟨Nat.le_refl _, rfl, rfl, rfl, Nat.le_refl _, fun _ _ => rfl, fun _ _ m hm => ⟨m, hm, Nat.le_refl _, fun _ => rfl⟩, fun _ _ _ => rfl, fun _ _ h => h⟩

theorem Le.trans {a b c : Cx} (h : Le a b) (h' : Le b c) : Le a c where
 nid := Nat.le_trans h.nid h'.nid
 os := h'.os.trans h.os
 tape := h'.tape.trans h.tape
 output := h'.output.trans h.output
 size := Nat.le_trans h.size h'.size
 β := fun id hid => (h'.β id (Nat.lt_of_lt_of_le hid h.nid)).trans (h.β id hid)
 arr := fun id hid m' hm' => by
  obtain ⟨m1, e1, l1, q1⟩ := h'.arr id (Nat.lt_of_lt_of_le hid h.nid) m' hm'
  obtain ⟨m0, e0, l0, q0⟩ := h.arr id hid m1 e1
  exact ⟨m0, e0, by omega, fun e => (q1 (by omega)).trans (q0 (by omega))⟩
 heap := fun i hi hn => (h'.heap i (Nat.lt_of_lt_of_le hi h.size) (fun hm => hn (h.mb i hi hm))).trans (h.heap i hi hn)
 mb := fun i hi hm => h.mb i hi (h'.mb i (Nat.lt_of_lt_of_le hi h.size) hm)

theorem Le.rle {X : Nat → Prop} {k0 k : Cx} (h : Le k0 k) {n : Nat} (hn : n ≤ k0.nid) : RLe n (k0.R X) (k.R X) where
 β := fun b hb => h.β b (Nat.lt_of_lt_of_le hb hn)
 arr := fun b hb => h.arr b (Nat.lt_of_lt_of_le hb hn)
 S := fun b ⟨h1, h2, h3⟩ => ⟨Nat.lt_of_lt_of_le h1 h.size, h2, fun hm => h3 (h.mb b h1 hm)⟩
 heap := fun b o ⟨h1, _, h3⟩ => cell_of_heap (h.heap b h1 h3)
 map := fun b es c ⟨h1, _, h3⟩ he => (h.heap b h1 h3).trans he

theorem Rel.le {X : Nat → Prop} {k0 k : Cx} {v : Value} {d : D} (hr : Rel (k0.R X) k0.nid v d) (h : Le k0 k) : Rel (k.R X) k.nid v d :=
 (hr.mono (h.rle (Nat.le_refl _))).weak h.nid

theorem Rel.le0 {X : Nat → Prop} {k0 k : Cx} {v : Value} {d : D} (hr : Rel (k0.R X) 0 v d) (h : Le k0 k) : Rel (k.R X) 0 v d :=
 hr.mono (h.rle (Nat.zero_le _))

theorem RelL.le {X : Nat → Prop} {k0 k : Cx} {vs : List Value} {ds : List D} (hr : RelL (k0.R X) k0.nid vs ds) (h : Le k0 k) : RelL (k.R X) k.nid vs ds :=
 ⟨hr.1, fun i v d a b => (hr.2 i v d a b).le h⟩

theorem RelL.le0 {X : Nat → Prop} {k0 k : Cx} {vs : List Value} {ds : List D} (hr : RelL (k0.R X) 0 vs ds) (h : Le k0 k) : RelL (k.R X) 0 vs ds :=
 ⟨hr.1, fun i v d a b => (hr.2 i v d a b).le0 h⟩

theorem BlkOk.le {X : Nat → Prop} {k0 k : Cx} {id : Nat} {blk : Blk} (h : BlkOk X k0 id blk) (hle : Le k0 k) (hβ : k.β id = k0.β id) (hsv : k.sv id = k0.sv id)
  (hh : ∀ b, ownOf k0 id (some blk) = some b → k.w.heap[b]? = k0.w.heap[b]?) : BlkOk X k id blk := by
 cases blk with
 | box cs =>
  obtain ⟨vs, ty, h1, h2⟩ := h
  exact ⟨vs, ty, by rw [hβ, hh _ rfl]; exact h1, h2.le hle⟩
 | arr ty sz es =>
  obtain ⟨h0, h1⟩ := h
  refine ⟨h0, ?_⟩
  rcases h1 with ⟨h1, h2⟩ | ⟨b, off, cap, vs, h1, h2, h3, h4, h5⟩
  ·exact .inl ⟨hsv.trans h1, h2⟩
  ·exact .inr ⟨b, off, cap, vs, hsv.trans h1, by rw [hh b (by simp [ownOf, h1, slBlk])]; exact h2, h3, h4, fun i e j d v a c f => (h5 i e j d v a c f).le0 hle⟩
 | map kvs =>
  obtain ⟨es, c, es', h1, hp, hk, hn, h2, h3⟩ := h
  exact ⟨es, c, es', by rw [hβ, hh _ rfl]; exact h1, hp, hk, hn, h2.le0 hle, h3.le hle⟩

theorem le_world {k : Cx} {w' : World} (hos : w'.os = k.w.os) (htape : w'.tape = k.w.tape) (hout : w'.output = k.w.output) (hsize : k.w.heap.size ≤ w'.heap.size)
  (hheap : ∀ b, b < k.w.heap.size → w'.heap[b]? = k.w.heap[b]?) : Le k { k with w := w' } where
 nid := Nat.le_refl _
 os := hos
 tape := htape
 output := hout
 size := hsize
 β := fun _ _ => rfl
 arr := fun _ _ m hm => ⟨m, hm, Nat.le_refl _, fun _ => rfl⟩
 heap := fun b hb _ => hheap b hb
 mb := fun _ _ ⟨id, hid⟩ => ⟨id, hid⟩

theorem Good.world {X : Nat → Prop} {k : Cx} {w' : World} (hg : Good X k) (hle : Le k { k with w := w' }) (hheap : ∀ b, b < k.w.heap.size → w'.heap[b]? = k.w.heap[b]?) :
  Good X { k with w := w' } where
 key := hg.key
 inj := hg.inj
 lt := fun i b hb => ⟨Nat.lt_of_lt_of_le (hg.lt i b hb).1 hle.size, (hg.lt i b hb).2⟩
 xlt := fun b hb => Nat.lt_of_lt_of_le (hg.xlt b hb) hle.size
 ok := fun id blk hid => (hg.ok id blk hid).le hle rfl rfl fun b hb => hheap b (hg.lt id b (by rw [Cx.own, hid]; exact hb)).1

def vD : Value → D
 | .int k n => .int k n
 | .bool b => .bool b
 | .string s => .str s
 | .slice none 0 0 => .nils
 | .pointer none => .nilp
 | .map none => .nilm
 | .nilFunc => .nilf
 | .nilIface => .nili
 | v => .raw v

theorem Rel.vD (R : Rx) (n : Nat) (v : Value) : Rel R n v (vD v) := by
 unfold Sx.vD
 split
 ·exact .int _ _ _
 ·exact .bool _ _
 ·exact .str _ _
 ·exact .nils _
 ·exact .nilp _
 ·exact .nilm _
 ·exact .nilf _
 ·exact .nili _
 ·exact .raw _ _

end Go.Sx

/- Sx, part B: how a context evolves: new boxes, stores, arrays, appends, weakening. Own work. -/
namespace Go.Sx

theorem own_of_hget {k : Cx} {id : Nat} {blk : Option Blk} (h : hget k.h id = blk) : k.own id = ownOf k id blk := by simp [Cx.own, h]

def Cx.newBox (k : Cx) (vs : List Value) (ty : TypeId) (cs : List D) : Cx :=
 { w := k.w.alloc (.cells vs.toArray ty), β := fun i => if i = k.nid then k.w.heap.size else k.β i, sv := k.sv, h := (k.nid, .box cs) :: k.h, nid := k.nid + 1 }

theorem alloc_heap (w : World) (o : Obj) (b : Nat) (h : b < w.heap.size) : (w.alloc o).heap[b]? = w.heap[b]? := by
 show (w.heap.push o)[b]? = _
 rw [Array.getElem?_push, if_neg (by omega)]

theorem alloc_heap_new (w : World) (o : Obj) : (w.alloc o).heap[w.heap.size]? = some o := by
 show (w.heap.push o)[w.heap.size]? = _
 rw [Array.getElem?_push, if_pos rfl]

theorem alloc_size (w : World) (o : Obj) : (w.alloc o).heap.size = w.heap.size + 1 := by
 show (w.heap.push o).size = _
 simp

theorem newBox_le {X : Nat → Prop} {k : Cx} (hg : Good X k) (vs : List Value) (ty : TypeId) (cs : List D) : Le k (k.newBox vs ty cs) where
 nid := Nat.le_succ _
 os := rfl
 tape := rfl
 output := rfl
 size := by simp only [Cx.newBox, alloc_size]; omega
 β := fun id hid => by simp only [Cx.newBox]; rw [if_neg (by omega)]
 arr := fun id hid m' hm' => by
  simp only [Cx.newBox, hget] at hm'
  rw [if_neg (by omega)] at hm'
  exact ⟨m', hm', Nat.le_refl _, fun _ => rfl⟩
 heap := fun b hb _ => alloc_heap _ _ _ hb
 mb := fun b hb ⟨id, hid⟩ => by
  refine ⟨id, ?_⟩
  simp only [Cx.own, Cx.newBox, hget] at hid
  by_cases h : id = k.nid
  ·subst h; simp [ownOf] at hid; omega
  ·rw [if_neg h] at hid
   cases hq : hget k.h id with
   | none => simp [hq, ownOf] at hid
   | some blk => cases blk <;> simp_all [ownOf, Cx.own]

theorem newBox_own {k : Cx} {vs : List Value} {ty : TypeId} {cs : List D} (id : Nat) :
  (k.newBox vs ty cs).own id = if id = k.nid then some k.w.heap.size else k.own id := by
 simp only [Cx.own, Cx.newBox, hget]
 by_cases h : id = k.nid
 ·simp [h, ownOf]
 ·simp only [if_neg h]
  cases hq : hget k.h id with
  | none => simp [ownOf]
  | some blk => cases blk <;> simp [ownOf, h]

theorem newBox_good {X : Nat → Prop} {k : Cx} (hg : Good X k) (vs : List Value) (ty : TypeId) (cs : List D) (hr : RelL (k.R X) k.nid vs cs) : Good X (k.newBox vs ty cs) where
 key := fun id blk h => by
  simp only [Cx.newBox, hget] at h ⊢
  by_cases hi : id = k.nid
  ·omega
  ·rw [if_neg hi] at h; have := hg.key id blk h; omega
 inj := fun i j b hi hj => by
  rw [newBox_own] at hi hj
  by_cases h1 : i = k.nid <;> by_cases h2 : j = k.nid
  ·omega
  ·rw [if_pos h1] at hi; rw [if_neg h2] at hj
   have := (hg.lt j b hj).1; simp at hi; omega
  ·rw [if_neg h1] at hi; rw [if_pos h2] at hj
   have := (hg.lt i b hi).1; simp at hj; omega
  ·rw [if_neg h1] at hi; rw [if_neg h2] at hj; exact hg.inj i j b hi hj
 lt := fun i b hb => by
  rw [newBox_own] at hb
  have hs : (k.newBox vs ty cs).w.heap.size = k.w.heap.size + 1 := alloc_size _ _
  by_cases h1 : i = k.nid
  ·rw [if_pos h1] at hb; simp at hb; subst hb
   exact ⟨by omega, fun hx => absurd (hg.xlt _ hx) (by omega)⟩
  ·rw [if_neg h1] at hb; have := hg.lt i b hb; exact ⟨by omega, this.2⟩
 xlt := fun b hb => by have hs : (k.newBox vs ty cs).w.heap.size = k.w.heap.size + 1 := alloc_size _ _; have := hg.xlt b hb; omega
 ok := fun id blk h => by
  have hle := newBox_le hg vs ty cs
  by_cases hi : id = k.nid
  ·simp only [Cx.newBox, hget, if_pos hi] at h
   obtain rfl := Option.some.inj h
   refine ⟨vs, ty, ?_, hr.le hle⟩
   simp only [Cx.newBox, if_pos hi]
   exact alloc_heap_new _ _
  ·simp only [Cx.newBox, hget, if_neg hi] at h
   exact (hg.ok id blk h).le hle (by simp [Cx.newBox, hi]) rfl fun b hb => alloc_heap _ _ _ (hg.lt id b (by rw [Cx.own, h]; exact hb)).1

def Cx.newArr (k : Cx) (vs : List Value) (ty : TypeId) (sz : Nat) (es : List (List D)) (cap : Nat) : Cx :=
 { w := k.w.alloc (.cells vs.toArray ty), β := k.β, sv := fun i => if i = k.nid then .slice (some ⟨k.w.heap.size, 0, none⟩) es.length cap else k.sv i, h := (k.nid, .arr ty sz es) :: k.h, nid := k.nid + 1 }

theorem newArr_le {X : Nat → Prop} {k : Cx} (hg : Good X k) (vs : List Value) (ty : TypeId) (sz : Nat) (es : List (List D)) (cap : Nat) : Le k (k.newArr vs ty sz es cap) where
 nid := Nat.le_succ _
 os := rfl
 tape := rfl
 output := rfl
 size := by simp only [Cx.newArr, alloc_size]; omega
 β := fun id hid => rfl
 arr := fun id hid m' hm' => by
  simp only [Cx.newArr, hget] at hm'
  rw [if_neg (by omega)] at hm'
  exact ⟨m', hm', Nat.le_refl _, fun _ => by simp only [Cx.newArr]; rw [if_neg (by omega)]⟩
 heap := fun b hb _ => alloc_heap _ _ _ hb
 mb := fun b hb ⟨id, hid⟩ => by
  refine ⟨id, ?_⟩
  simp only [Cx.own, Cx.newArr, hget] at hid
  by_cases h : id = k.nid
  ·subst h; simp [ownOf, slBlk] at hid; omega
  ·rw [if_neg h] at hid
   cases hq : hget k.h id with
   | none => simp [hq, ownOf] at hid
   | some blk => cases blk <;> simp_all [ownOf, Cx.own]

theorem newArr_own {k : Cx} {vs : List Value} {ty : TypeId} {sz : Nat} {es : List (List D)} {cap : Nat} (id : Nat) :
  (k.newArr vs ty sz es cap).own id = if id = k.nid then some k.w.heap.size else k.own id := by
 simp only [Cx.own, Cx.newArr, hget]
 by_cases h : id = k.nid
 ·simp [h, ownOf, slBlk]
 ·simp only [if_neg h]
  cases hq : hget k.h id with
  | none => simp [ownOf]
  | some blk => cases blk <;> simp [ownOf, h]

theorem newArr_good {X : Nat → Prop} {k : Cx} (hg : Good X k) (vs : List Value) (ty : TypeId) (sz : Nat) (es : List (List D)) (cap : Nat)
  (he : ∀ e ∈ es, e.length = sz ∧ D.nmL e = true) (hlen : vs.length = cap * sz) (hcap : es.length ≤ cap)
  (hr : ∀ (i : Nat) e (j : Nat) d v, es[i]? = some e → e[j]? = some d → vs[i * sz + j]? = some v → Rel (k.R X) 0 v d) : Good X (k.newArr vs ty sz es cap) where
 key := fun id blk h => by
  simp only [Cx.newArr, hget] at h ⊢
  by_cases hi : id = k.nid
  ·omega
  ·rw [if_neg hi] at h; have := hg.key id blk h; omega
 inj := fun i j b hi hj => by
  rw [newArr_own] at hi hj
  by_cases h1 : i = k.nid <;> by_cases h2 : j = k.nid
  ·omega
  ·rw [if_pos h1] at hi; rw [if_neg h2] at hj
   have := (hg.lt j b hj).1; simp at hi; omega
  ·rw [if_neg h1] at hi; rw [if_pos h2] at hj
   have := (hg.lt i b hi).1; simp at hj; omega
  ·rw [if_neg h1] at hi; rw [if_neg h2] at hj; exact hg.inj i j b hi hj
 lt := fun i b hb => by
  rw [newArr_own] at hb
  have hs : (k.newArr vs ty sz es cap).w.heap.size = k.w.heap.size + 1 := alloc_size _ _
  by_cases h1 : i = k.nid
  ·rw [if_pos h1] at hb; simp at hb; subst hb
   exact ⟨by omega, fun hx => absurd (hg.xlt _ hx) (by omega)⟩
  ·rw [if_neg h1] at hb; have := hg.lt i b hb; exact ⟨by omega, this.2⟩
 xlt := fun b hb => by have hs : (k.newArr vs ty sz es cap).w.heap.size = k.w.heap.size + 1 := alloc_size _ _; have := hg.xlt b hb; omega
 ok := fun id blk h => by
  have hle := newArr_le hg vs ty sz es cap
  by_cases hi : id = k.nid
  ·simp only [Cx.newArr, hget, if_pos hi] at h
   obtain rfl := Option.some.inj h
   refine ⟨he, .inr ⟨k.w.heap.size, 0, cap, vs, by simp [Cx.newArr, hi], alloc_heap_new _ _, by rw [Nat.zero_add]; exact Nat.le_of_eq hlen.symm, hcap, fun i e j d v a b c => (hr i e j d v a b (by rw [Nat.zero_add] at c; exact c)).le0 hle⟩⟩
  ·simp only [Cx.newArr, hget, if_neg hi] at h
   exact (hg.ok id blk h).le hle rfl (by simp [Cx.newArr, hi]) fun b hb => alloc_heap _ _ _ (hg.lt id b (by rw [Cx.own, h]; exact hb)).1

def Cx.newMap (k : Cx) : Cx :=
 { w := k.w.alloc (.map #[] 0), β := fun i => if i = k.nid then k.w.heap.size else k.β i, sv := k.sv, h := (k.nid, .map []) :: k.h, nid := k.nid + 1 }

theorem newMap_le {X : Nat → Prop} {k : Cx} (hg : Good X k) : Le k k.newMap where
 nid := Nat.le_succ _
 os := rfl
 tape := rfl
 output := rfl
 size := by simp only [Cx.newMap, alloc_size]; omega
 β := fun id hid => by simp only [Cx.newMap]; rw [if_neg (by omega)]
 arr := fun id hid m' hm' => by
  simp only [Cx.newMap, hget] at hm'
  rw [if_neg (by omega)] at hm'
  exact ⟨m', hm', Nat.le_refl _, fun _ => rfl⟩
 heap := fun b hb _ => alloc_heap _ _ _ hb
 mb := fun b hb ⟨id, hid⟩ => by
  refine ⟨id, ?_⟩
  simp only [Cx.own, Cx.newMap, hget] at hid
  by_cases h : id = k.nid
  ·subst h; simp [ownOf] at hid; omega
  ·rw [if_neg h] at hid
   cases hq : hget k.h id with
   | none => simp [hq, ownOf] at hid
   | some blk => cases blk <;> simp_all [ownOf, Cx.own]

theorem newMap_own {k : Cx} (id : Nat) : k.newMap.own id = if id = k.nid then some k.w.heap.size else k.own id := by
 simp only [Cx.own, Cx.newMap, hget]
 by_cases h : id = k.nid
 ·simp [h, ownOf]
 ·simp only [if_neg h]
  cases hq : hget k.h id with
  | none => simp [ownOf]
  | some blk => cases blk <;> simp [ownOf, h]

theorem newMap_good {X : Nat → Prop} {k : Cx} (hg : Good X k) : Good X k.newMap where
 key := fun id blk h => by
  simp only [Cx.newMap, hget] at h ⊢
  by_cases hi : id = k.nid
  ·omega
  ·rw [if_neg hi] at h; have := hg.key id blk h; omega
 inj := fun i j b hi hj => by
  rw [newMap_own] at hi hj
  by_cases h1 : i = k.nid <;> by_cases h2 : j = k.nid
  ·omega
  ·rw [if_pos h1] at hi; rw [if_neg h2] at hj
   have := (hg.lt j b hj).1; simp at hi; omega
  ·rw [if_neg h1] at hi; rw [if_pos h2] at hj
   have := (hg.lt i b hi).1; simp at hj; omega
  ·rw [if_neg h1] at hi; rw [if_neg h2] at hj; exact hg.inj i j b hi hj
 lt := fun i b hb => by
  rw [newMap_own] at hb
  have hs : k.newMap.w.heap.size = k.w.heap.size + 1 := alloc_size _ _
  by_cases h1 : i = k.nid
  ·rw [if_pos h1] at hb; simp at hb; subst hb
   exact ⟨by omega, fun hx => absurd (hg.xlt _ hx) (by omega)⟩
  ·rw [if_neg h1] at hb; have := hg.lt i b hb; exact ⟨by omega, this.2⟩
 xlt := fun b hb => by have hs : k.newMap.w.heap.size = k.w.heap.size + 1 := alloc_size _ _; have := hg.xlt b hb; omega
 ok := fun id blk h => by
  have hle := newMap_le hg
  by_cases hi : id = k.nid
  ·simp only [Cx.newMap, hget, if_pos hi] at h
   obtain rfl := Option.some.inj h
   refine ⟨[], 0, [], ?_, ⟨.refl _, by simp, by simp⟩, rfl, rfl, ⟨rfl, by simp⟩, ⟨rfl, by simp⟩⟩
   simp only [Cx.newMap, if_pos hi]
   exact alloc_heap_new _ _
  ·simp only [Cx.newMap, hget, if_neg hi] at h
   exact (hg.ok id blk h).le hle (by simp [Cx.newMap, hi]) rfl fun b hb => alloc_heap _ _ _ (hg.lt id b (by rw [Cx.own, h]; exact hb)).1

def Cx.nilArr (k : Cx) (ty : TypeId) (sz : Nat) : Cx :=
 { w := k.w, β := k.β, sv := fun i => if i = k.nid then .slice none 0 0 else k.sv i, h := (k.nid, .arr ty sz []) :: k.h, nid := k.nid + 1 }

theorem nilArr_own {k : Cx} {ty : TypeId} {sz : Nat} (id : Nat) : (k.nilArr ty sz).own id = if id = k.nid then none else k.own id := by
 simp only [Cx.own, Cx.nilArr, hget]
 by_cases h : id = k.nid
 ·simp [h, ownOf, slBlk]
 ·simp only [if_neg h]
  cases hq : hget k.h id with
  | none => simp [ownOf]
  | some blk => cases blk <;> simp [ownOf, h]

theorem nilArr_le {X : Nat → Prop} {k : Cx} (hg : Good X k) (ty : TypeId) (sz : Nat) : Le k (k.nilArr ty sz) where
 nid := Nat.le_succ _
 os := rfl
 tape := rfl
 output := rfl
 size := Nat.le_refl _
 β := fun id hid => rfl
 arr := fun id hid m' hm' => by
  simp only [Cx.nilArr, hget] at hm'
  rw [if_neg (by omega)] at hm'
  exact ⟨m', hm', Nat.le_refl _, fun _ => by simp only [Cx.nilArr]; rw [if_neg (by omega)]⟩
 heap := fun b hb _ => rfl
 mb := fun b hb ⟨id, hid⟩ => by
  rw [nilArr_own] at hid
  by_cases h : id = k.nid
  ·simp [h] at hid
  ·rw [if_neg h] at hid; exact ⟨id, hid⟩

theorem nilArr_good {X : Nat → Prop} {k : Cx} (hg : Good X k) (ty : TypeId) (sz : Nat) : Good X (k.nilArr ty sz) where
 key := fun id blk h => by
  simp only [Cx.nilArr, hget] at h ⊢
  by_cases hi : id = k.nid
  ·omega
  ·rw [if_neg hi] at h; have := hg.key id blk h; omega
 inj := fun i j b hi hj => by
  rw [nilArr_own] at hi hj
  by_cases h1 : i = k.nid <;> by_cases h2 : j = k.nid <;> simp [h1, h2] at hi hj
  exact hg.inj i j b hi hj
 lt := fun i b hb => by
  rw [nilArr_own] at hb
  by_cases h1 : i = k.nid <;> simp [h1] at hb
  exact hg.lt i b hb
 xlt := hg.xlt
 ok := fun id blk h => by
  have hle := nilArr_le hg ty sz
  by_cases hi : id = k.nid
  ·simp only [Cx.nilArr, hget, if_pos hi] at h
   obtain rfl := Option.some.inj h
   exact ⟨by simp, .inl ⟨by simp [Cx.nilArr, hi], rfl⟩⟩
  ·simp only [Cx.nilArr, hget, if_neg hi] at h
   exact (hg.ok id blk h).le hle rfl (by simp [Cx.nilArr, hi]) fun b hb => rfl

def Cx.upd (k : Cx) (id : Nat) (blk : Blk) (w' : World) (v' : Value) : Cx :=
 { w := w', β := k.β, sv := fun i => if i = id then v' else k.sv i, h := hset k.h id blk, nid := k.nid }

theorem Good.upd {X : Nat → Prop} {k : Cx} {id : Nat} {blk blk0 : Blk} {w' : World} {v' : Value} (hg : Good X k) (h0 : hget k.h id = some blk0)
  (hos : w'.os = k.w.os) (htape : w'.tape = k.w.tape) (hout : w'.output = k.w.output) (hsize : k.w.heap.size ≤ w'.heap.size)
  (hheap : ∀ b, b < k.w.heap.size → k.own id ≠ some b → w'.heap[b]? = k.w.heap[b]?)
  (hown : ∀ b, (k.upd id blk w' v').own id = some b → (k.own id = some b) ∨ (k.w.heap.size ≤ b ∧ b < w'.heap.size))
  (harr : ∀ m', lnOf (some blk) = some m' → ∃ m, lnOf (some blk0) = some m ∧ m ≤ m' ∧ (m = m' → v' = k.sv id))
  (hok : Le k (k.upd id blk w' v') → BlkOk X (k.upd id blk w' v') id blk) :
  Good X (k.upd id blk w' v') ∧ Le k (k.upd id blk w' v') := by
 have hid := hg.key id blk0 h0
 have hownj : ∀ j, j ≠ id → (k.upd id blk w' v').own j = k.own j := fun j hj => by
  simp only [Cx.own, Cx.upd, hget_hset, if_neg hj]
  cases hq : hget k.h j with
  | none => rfl
  | some b => cases b <;> simp [ownOf, hj]
 have hle : Le k (k.upd id blk w' v') := {
  nid := Nat.le_refl _
  os := hos
  tape := htape
  output := hout
  size := hsize
  β := fun _ _ => rfl
  arr := fun j hj m' hm' => by
   simp only [Cx.upd, hget_hset] at hm'
   by_cases h : j = id
   ·subst h
    rw [if_pos rfl] at hm'
    obtain ⟨m, a, b, c⟩ := harr m' hm'
    exact ⟨m, by rw [h0]; exact a, b, fun e => by simp only [Cx.upd, if_true]; exact c e⟩
   ·rw [if_neg h] at hm'
    exact ⟨m', hm', Nat.le_refl _, fun _ => by simp only [Cx.upd, if_neg h]⟩
  heap := fun b hb hn => hheap b hb fun e => hn ⟨id, e⟩
  mb := fun b hb ⟨j, hj⟩ => by
   by_cases h : j = id
   ·subst h
    rcases hown b hj with h | h
    ·exact ⟨j, h⟩
    ·omega
   ·exact ⟨j, by rw [← hownj j h]; exact hj⟩ }
 refine ⟨{
  key := fun j b h => by
   simp only [Cx.upd, hget_hset] at h ⊢
   by_cases hj : j = id
   ·omega
   ·rw [if_neg hj] at h; exact hg.key j b h
  inj := fun i j b hi hj => by
   by_cases h1 : i = id <;> by_cases h2 : j = id
   ·omega
   ·subst h1; rw [hownj j h2] at hj
    rcases hown b hi with h | h
    ·exact hg.inj i j b h hj
    ·have := (hg.lt j b hj).1; omega
   ·subst h2; rw [hownj i h1] at hi
    rcases hown b hj with h | h
    ·exact hg.inj i j b hi h
    ·have := (hg.lt i b hi).1; omega
   ·rw [hownj i h1] at hi; rw [hownj j h2] at hj; exact hg.inj i j b hi hj
  lt := fun i b hb => by
   have hs : (k.upd id blk w' v').w.heap.size = w'.heap.size := rfl
   by_cases h1 : i = id
   ·subst h1
    rcases hown b hb with h | h
    ·have := hg.lt i b h; exact ⟨by omega, this.2⟩
    ·exact ⟨by omega, fun hx => absurd (hg.xlt b hx) (by omega)⟩
   ·rw [hownj i h1] at hb; have := hg.lt i b hb; exact ⟨by omega, this.2⟩
  xlt := fun b hb => Nat.lt_of_lt_of_le (hg.xlt b hb) hsize
  ok := fun j b h => by
   simp only [Cx.upd, hget_hset] at h
   by_cases hj : j = id
   ·rw [if_pos hj] at h
    obtain rfl := Option.some.inj h
    subst hj
    exact hok hle
   ·rw [if_neg hj] at h
    refine (hg.ok j b h).le hle rfl (by simp [Cx.upd, hj]) fun c hc => ?_
    have hcj : k.own j = some c := by rw [Cx.own, h]; exact hc
    exact hheap c (hg.lt j c hcj).1 fun e => hj (hg.inj j id c hcj e) }, hle⟩

theorem Good.drop {X : Nat → Prop} {k : Cx} {h' : H} {nid' : Nat} (hg : Good X k) (hsub : ∀ id blk, hget h' id = some blk → hget k.h id = some blk)
  (hkey : ∀ id blk, hget h' id = some blk → id < nid')
  (hroll : nid' < k.nid → ∀ id blk, hget h' id = some blk → blkLt nid' blk = true) :
  Good X { k with h := h', nid := nid' } := by
 have hown : ∀ i b, Cx.own { k with h := h', nid := nid' } i = some b → k.own i = some b := fun i b hb => by
  simp only [Cx.own] at hb ⊢
  cases hq : hget h' i with
  | none => rw [hq] at hb; simp [ownOf] at hb
  | some blk => rw [hq] at hb; rw [hsub i blk hq]; cases blk <;> simpa [ownOf] using hb
 have hrle : ∀ n, RLe n (k.R X) (Cx.R X { k with h := h', nid := nid' }) := fun n => {
  β := fun _ _ => rfl
  arr := fun b _ m' hm' => by
   have hm : lnOf (hget h' b) = some m' := hm'
   cases hq : hget h' b with
   | none => rw [hq] at hm; simp [lnOf] at hm
   | some blk => exact ⟨m', by show lnOf (hget k.h b) = _; rw [hsub b blk hq, ← hq]; exact hm, Nat.le_refl _, fun _ => rfl⟩
  S := fun b ⟨h1, h2, h3⟩ => ⟨h1, h2, fun ⟨i, hi⟩ => h3 ⟨i, hown i b hi⟩⟩
  heap := fun _ _ _ => rfl
  map := fun _ _ _ _ h => h }
 have hrel : ∀ v d, Rel (k.R X) k.nid v d → (nid' < k.nid → d.lt nid' = true) → Rel (Cx.R X { k with h := h', nid := nid' }) nid' v d := fun v d hr hl => by
  have h1 := hr.mono (hrle k.nid)
  by_cases hc : k.nid ≤ nid'
  ·exact h1.weak hc
  ·exact h1.roll (hl (by omega))
 refine ⟨hkey, fun i j b hi hj => hg.inj i j b (hown i b hi) (hown j b hj), fun i b hb => hg.lt i b (hown i b hb), hg.xlt, fun id blk hq => ?_⟩
 have h0 := hg.ok id blk (hsub id blk hq)
 have hr := fun hc => hroll hc id blk hq
 cases blk with
 | box cs =>
  obtain ⟨vs, ty, h1, h2⟩ := h0
  exact ⟨vs, ty, h1, h2.1, fun i v d a b => hrel v d (h2.2 i v d a b) fun hc => D.ltL_get (hr hc) i d b⟩
 | arr ty sz es =>
  obtain ⟨h1, h2⟩ := h0
  refine ⟨h1, ?_⟩
  rcases h2 with h2 | ⟨b, off, cap, vs, a1, a2, a3, a4, a5⟩
  ·exact .inl h2
  ·exact .inr ⟨b, off, cap, vs, a1, a2, a3, a4, fun i e j d v x y z => (a5 i e j d v x y z).mono (hrle 0)⟩
 | map kvs =>
  obtain ⟨es, c, es', h1, hp, hk, hn, h2, h3⟩ := h0
  exact ⟨es, c, es', h1, hp, hk, hn, ⟨h2.1, fun i v d a b => (h2.2 i v d a b).mono (hrle 0)⟩, h3.1, fun i v d a b => hrel v d (h3.2 i v d a b) fun hc => D.ltL_get (hr hc) i d b⟩

theorem Rel.drop {X : Nat → Prop} {k : Cx} {h' : H} {nid' : Nat} (hsub : ∀ id blk, hget h' id = some blk → hget k.h id = some blk) {v : Value} {d : D}
  (hr : Rel (k.R X) k.nid v d) (hl : k.nid ≤ nid' ∨ d.lt nid' = true) : Rel (Cx.R X { k with h := h', nid := nid' }) nid' v d := by
 have hown : ∀ i b, Cx.own { k with h := h', nid := nid' } i = some b → k.own i = some b := fun i b hb => by
  simp only [Cx.own] at hb ⊢
  cases hq : hget h' i with
  | none => rw [hq] at hb; simp [ownOf] at hb
  | some blk => rw [hq] at hb; rw [hsub i blk hq]; cases blk <;> simpa [ownOf] using hb
 have hrle : ∀ n, RLe n (k.R X) (Cx.R X { k with h := h', nid := nid' }) := fun n => {
  β := fun _ _ => rfl
  arr := fun b _ m' hm' => by
   have hm : lnOf (hget h' b) = some m' := hm'
   cases hq : hget h' b with
   | none => rw [hq] at hm; simp [lnOf] at hm
   | some blk => exact ⟨m', by show lnOf (hget k.h b) = _; rw [hsub b blk hq, ← hq]; exact hm, Nat.le_refl _, fun _ => rfl⟩
  S := fun b ⟨h1, h2, h3⟩ => ⟨h1, h2, fun ⟨i, hi⟩ => h3 ⟨i, hown i b hi⟩⟩
  heap := fun _ _ _ => rfl
  map := fun _ _ _ _ h => h }
 have h1 := hr.mono (hrle k.nid)
 rcases hl with hc | hl
 ·exact h1.weak hc
 ·exact h1.roll hl

theorem Le.drop {k0 k : Cx} {h' : H} {nid' : Nat} (hle : Le k0 k) (hn : k0.nid ≤ nid') (hsub : ∀ id blk, hget h' id = some blk → hget k.h id = some blk) :
  Le k0 { k with h := h', nid := nid' } := by
 have hown : ∀ i b, Cx.own { k with h := h', nid := nid' } i = some b → k.own i = some b := fun i b hb => by
  simp only [Cx.own] at hb ⊢
  cases hq : hget h' i with
  | none => rw [hq] at hb; simp [ownOf] at hb
  | some blk => rw [hq] at hb; rw [hsub i blk hq]; cases blk <;> simpa [ownOf] using hb
 exact ⟨hn, hle.os, hle.tape, hle.output, hle.size, hle.β, fun id hid m' hm' => by
  have hm : lnOf (hget h' id) = some m' := hm'
  cases hq : hget h' id with
  | none => rw [hq] at hm; simp [lnOf] at hm
  | some blk => exact hle.arr id hid m' (by rw [hsub id blk hq, ← hq]; exact hm), hle.heap, fun b hb ⟨i, hi⟩ => hle.mb b hb ⟨i, hown i b hi⟩⟩

end Go.Sx

/- Sx, part C: operations that only read: their abstract meaning, and that the model's run agrees. Own work. -/
namespace Go.Sx

def isAggT (P : Program) (t : TypeId) : Option Bool :=
 match P.underlying t with
 | some (.struct _) | some (.array _ _) => some true
 | some _ => some false
 | none => none

def sizeT (P : Program) (t : TypeId) : Option Nat := (P.info? t).map (·.size)

def partD (P : Program) (t : TypeId) (cs : List D) (off : Nat) : Option D :=
 match isAggT P t, sizeT P t with
 | some true, some n => some (.agg ((cs.drop off).take n))
 | some false, some _ => cs[off]?
 | _, _ => none

def loadD (P : Program) (t : TypeId) (cs : List D) (off : Nat) : Option D :=
 match isAggT P t, sizeT P t with
 | some true, some n => if off + n ≤ cs.length then some (.agg ((cs.drop off).take n)) else none
 | some false, some _ => cs[off]?
 | _, _ => none

def eqFs (P : Program) (eq : TypeId → D → D → Option Bool) (xs ys : List D) : List Field → Option Bool
 | [] => some true
 | f :: fs =>
  if f.name = "_" then eqFs P eq xs ys fs else
  match partD P f.type xs f.offset, partD P f.type ys f.offset with
  | some a, some b =>
   match eq f.type a b, eqFs P eq xs ys fs with
   | some p, some q => some (p && q)
   | _, _ => none
  | _, _ => none

def eqT (P : Program) : Nat → TypeId → D → D → Option Bool
 | 0, _, _, _ => none
 | d + 1, t, x, y =>
  match P.underlying t, x, y with
  | some .bool, .bool a, .bool b => some (a == b)
  | some (.int _), .int k a, .int k' b => if k = k' then some (a == b) else none
  | some .string, .str a, .str b => some (a.toList == b.toList)
  | some (.struct fs), .agg xs, .agg ys => if P.stoodInHeld t then none else eqFs P (eqT P d) xs ys fs.toList
  | _, _, _ => none

def arith (op : BinOp) (k : IntKind) (x y : Int) : Option D :=
 match op with
 | .add => some (.int k (k.wrap (x + y)))
 | .sub => some (.int k (k.wrap (x - y)))
 | .mul => some (.int k (k.wrap (x * y)))
 | .quo => if y = 0 then none else some (.int k (k.wrap (x.tdiv y)))
 | .rem => if y = 0 then none else some (.int k (x.tmod y))
 | .and => some (.int k (k.wrap (BitVec.ofInt k.bits x &&& BitVec.ofInt k.bits y).toNat))
 | .or => some (.int k (k.wrap (BitVec.ofInt k.bits x ||| BitVec.ofInt k.bits y).toNat))
 | .xor => some (.int k (k.wrap (BitVec.ofInt k.bits x ^^^ BitVec.ofInt k.bits y).toNat))
 | .andNot => some (.int k (k.wrap (BitVec.ofInt k.bits x &&& ~~~BitVec.ofInt k.bits y).toNat))
 | .eql => some (.bool (x == y))
 | .neq => some (.bool (x != y))
 | .lss => some (.bool (decide (x < y)))
 | .leq => some (.bool (decide (x ≤ y)))
 | .gtr => some (.bool (decide (y < x)))
 | .geq => some (.bool (decide (y ≤ x)))
 | .shl => if y < 0 then none else some (.int k (k.wrap (x * 2 ^ (min y.toNat k.bits))))
 | .shr => if y < 0 then none else some (.int k (x.fdiv (2 ^ (min y.toNat k.bits))))

def strOp (op : BinOp) (x y : ByteArray) : Option D :=
 match op with
 | .add => if ((x.size + y.size : Nat) : Int) > 9223372036854775807 then none else some (.str (x ++ y))
 | .eql => some (.bool (x.toList == y.toList))
 | .neq => some (.bool (!(x.toList == y.toList)))
 | .lss => some (.bool (Op.bytesLess x.toList y.toList))
 | .leq => some (.bool (Op.bytesLess x.toList y.toList || x.toList == y.toList))
 | .gtr => some (.bool (!(Op.bytesLess x.toList y.toList || x.toList == y.toList)))
 | .geq => some (.bool (!Op.bytesLess x.toList y.toList))
 | _ => none

def isShift : BinOp → Bool
 | .shl | .shr => true
 | _ => false

def binD (P : Program) (op : BinOp) (t : TypeId) (a b : D) : Option D :=
 match a, b with
 | .int k x, .int k' y => if isShift op || k == k' then arith op k x y else none
 | .str x, .str y => strOp op x y
 | .bool x, .bool y =>
  match P.underlying t, op with
  | some .bool, .eql => some (.bool (x == y))
  | some .bool, .neq => some (.bool (!(x == y)))
  | _, _ => none
 | .agg xs, .agg ys =>
  if P.eqGuardType P.depth t then none else
  match op, eqT P 10000 t (.agg xs) (.agg ys) with
  | .eql, some p => some (.bool p)
  | .neq, some p => some (.bool (!p))
  | _, _ => none
 | .sl (_ :: _), .nils =>
  match P.underlying t, op with
  | some (.slice _), .eql => some (.bool false)
  | some (.slice _), .neq => some (.bool true)
  | _, _ => none
 | .nils, .nils =>
  match P.underlying t, op with
  | some (.slice _), .eql => some (.bool true)
  | some (.slice _), .neq => some (.bool false)
  | _, _ => none
 | _, _ => none

def fieldOf (P : Program) (t : TypeId) (f : Nat) : Option Field :=
 match P.underlying t with
 | some (.struct fs) => fs[f]?
 | _ => none

def fieldOff (P : Program) (t : TypeId) (f : Nat) : Option Nat :=
 match fieldOf P t f with
 | some fd =>
  match sizeT P fd.type with
  | some n => if n = 0 then none else some fd.offset
  | none => none
 | none => none

def fieldTy (P : Program) (t : TypeId) (f : Nat) : Option (TypeId × Nat) :=
 match fieldOf P t f with
 | some fd => some (fd.type, fd.offset)
 | none => none

def atOff (h : H) (o : Nat) : D → Option D
 | .ptr b p => some (.ptr b (p + o))
 | .ref cs p => some (.ref cs (p + o))
 | .eptr b n sz i p =>
  match hget h b with
  | some (.arr _ _ es) => if n = es.length ∧ i < es.length then some (.eptr b n sz i (p + o)) else none
  | _ => none
 | _ => none

def lenD (h : H) : D → Option D
 | .sl es => some (.int .i64 es.length)
 | .nils => some (.int .i64 0)
 | .osl b n =>
  match hget h b with
  | some (.arr _ _ es) => if n = es.length then some (.int .i64 n) else none
  | _ => none
 | .bsl _ _ l _ => some (.int .i64 l)
 | _ => none

def indexAddrD (P : Program) (h : H) (t : TypeId) (x i : D) : Option D :=
 match P.underlying t, x, i with
 | some (.slice e), .sl es, .int _ i =>
  if 0 ≤ i then
   match es[i.toNat]?, sizeT P e with
   | some c, some n => if c.length = n then some (.ref c 0) else none
   | _, _ => none
  else none
 | some (.slice e), .osl b l, .int _ i =>
  match hget h b with
  | some (.arr _ sz es) => if 0 ≤ i ∧ i.toNat < es.length ∧ l = es.length ∧ sizeT P e = some sz then some (.eptr b l sz i.toNat 0) else none
  | _ => none
 | some (.slice e), .bsl b o l sz, .int _ i => if 0 ≤ i ∧ i.toNat < l ∧ sizeT P e = some sz then some (.ptr b (o + i.toNat * sz)) else none
 | some (.array len e), p, .int _ i =>
  if 0 ≤ i ∧ i < len then
   match sizeT P e with
   | some n => atOff h (i.toNat * n) p
   | none => none
  else none
 | _, _, _ => none

def loadAtD (P : Program) (h : H) (t : TypeId) : D → Option D
 | .ptr b o =>
  match hget h b with
  | some (.box cs) => loadD P t cs o
  | _ => none
 | .ref cs o => loadD P t cs o
 | .refm kvs => loadD P t [.mpd kvs] 0
 | .eptr b l sz i o =>
  match hget h b with
  | some (.arr _ sz' es) =>
   if l = es.length ∧ sz = sz' then
    match es[i]? with
    | some c => loadD P t c o
    | none => none
   else none
  | _ => none
 | _ => none

def indexD (P : Program) (t : TypeId) (x i : D) : Option D :=
 match P.underlying t, x, i with
 | some (.array len e), .agg cs, .int _ i =>
  if 0 ≤ i ∧ i < len then
   match sizeT P e with
   | some n => partD P e cs (i.toNat * n)
   | none => none
  else none
 | some .string, .str s, .int _ i =>
  if 0 ≤ i then
   match s.data[i.toNat]? with
   | some b => some (.int .u8 b.toNat)
   | none => none
  else none
 | _, _, _ => none

def boundD (y : Nat) : Option D → Nat → Option Nat
 | none, d => some d
 | some (.int _ i), _ => if 0 ≤ i ∧ i ≤ y then some i.toNat else none
 | some _, _ => none

def sliceD (P : Program) (t : TypeId) (x : D) (lo hi : Option D) : Option D :=
 match P.underlying t, x with
 | some .string, .str s =>
  match boundD s.size hi s.size with
  | some h => match boundD h lo 0 with
   | some l => some (.str (s.extract l h))
   | none => none
  | none => none
 | some (.slice e), .sl es =>
  match sizeT P e, boundD es.length hi es.length with
  | some n, some h => match boundD h lo 0 with
   | some l => if es.all (fun c => Nat.beq c.length n) then some (.sl ((es.take h).drop l)) else none
   | none => none
  | _, _ => none
 | some (.array n e), .ptr b o =>
  match boundD n hi n with
  | some h => match boundD h lo 0, sizeT P e with
   | some l, some sz => if l < n then some (.bsl b (o + l * sz) (h - l) sz) else none
   | _, _ => none
  | none => none
 | _, _ => none


def intT (P : Program) (t : TypeId) (j : IntKind) : Bool :=
 match P.underlying t with
 | some (.int j') => j' == j && (sizeT P t).isSome
 | _ => false

def pairT (P : Program) (kt : TypeId) (fs : List Field) (j l : IntKind) : Bool :=
 match fs with
 | [f, g] => !(f.name == "_") && !(g.name == "_") && f.offset == 0 && g.offset == 1 && !P.stoodInHeld kt && intT P f.type j && intT P g.type l
 | _ => false

def keyFit (P : Program) (kt : TypeId) (k : D) : Bool :=
 match P.underlying kt, k with
 | some (.int j), .int j' _ => j == j'
 | some .string, .str _ => true
 | some .bool, .bool _ => true
 | some (.struct fs), .agg [.int j _, .int l _] => pairT P kt fs.toList j l
 | _, _ => false

def keyEq : D → D → Bool
 | .int k a, .int k' b => k == k' && a == b
 | .str a, .str b => a.toList == b.toList
 | .bool a, .bool b => a == b
 | .agg [.int k a, .int l b], .agg [.int k' a', .int l' b'] => (k == k' && l == l') && (a == a' && b == b')
 | _, _ => false

def findK (k : D) : List (D × D) → Nat → Option (Nat × D)
 | [], _ => none
 | (k', v) :: r, i => if keyEq k k' then some (i, v) else findK k r (i + 1)

def zeroV (P : Program) (t : TypeId) : Option D :=
 match (P.info? t).bind (·.zero) with
 | some (.agg cs) => some (.agg (cs.toList.map vD))
 | some (.tuple _) => none
 | some v => some (vD v)
 | none => none

def lookR (P : Program) (et : TypeId) (ok : Bool) : Option (Nat × D) → Option D
 | some (_, v) => some (if ok then .tup [v, .bool true] else v)
 | none => (zeroV P et).map fun z => if ok then .tup [z, .bool false] else z

def lookupD (P : Program) (h : H) (t : TypeId) (x k : D) (ok : Bool) : Option D :=
 match P.underlying t with
 | some (.map kt et) =>
  match x with
  | .mp b =>
   match hget h b with
   | some (.map kvs) => if keyFit P kt k && kvs.all (fun p => keyFit P kt p.1) then lookR P et ok (findK k kvs 0) else none
   | _ => none
  | .mpd kvs => if keyFit P kt k && kvs.all (fun p => keyFit P kt p.1) then lookR P et ok (findK k kvs 0) else none
  | .nilm => if keyFit P kt k then lookR P et ok none else none
  | _ => none
 | _ => none

def maxL (k : IntKind) : Int → List D → Option D
 | a, [] => some (.int k a)
 | a, .int _ b :: r => maxL k (if a < b then b else a) r
 | _, _ => none

def minL (k : IntKind) : Int → List D → Option D
 | a, [] => some (.int k a)
 | a, .int _ b :: r => minL k (if b < a then b else a) r
 | _, _ => none

def callQ (P : Program) (c : Call) (ρ : Operand → D) (h : H) : Option D :=
 match c.callee with
 | .builtin .len =>
  match c.args.toList, c.argTypes.toList with
  | [x], [t] =>
   match P.underlying t with
   | some (.slice _) => lenD h (ρ x)
   | some .string => match ρ x with
    | .str s => some (.int .i64 s.size)
    | _ => none
   | some (.array n _) => some (.int .i64 n)
   | some (.map _ _) =>
    match ρ x with
    | .mp b => match hget h b with
     | some (.map kvs) => some (.int .i64 kvs.length)
     | _ => none
    | .mpd kvs => some (.int .i64 kvs.length)
    | .nilm => some (.int .i64 0)
    | _ => none
   | _ => none
  | _, _ => none
 | .builtin .max =>
  match c.args.toList with
  | x :: r => match ρ x with
   | .int k a => maxL k a (r.map ρ)
   | _ => none
  | _ => none
 | .builtin .min =>
  match c.args.toList with
  | x :: r => match ρ x with
   | .int k a => minL k a (r.map ρ)
   | _ => none
  | _ => none
 | _ => none

def opQ (P : Program) (op : Op) (ρ : Operand → D) (h : H) : Option D :=
 match op with
 | .move x | .assign x => some (ρ x)
 | .pick c a b =>
  match ρ c with
  | .bool t => some (if t then ρ a else ρ b)
  | _ => none
 | .nilCheck x =>
  match ρ x with
  | .ptr b o => some (.ptr b o)
  | .ref cs o => some (.ref cs o)
  | .refm kvs => some (.refm kvs)
  | .fn (.func f) a c => some (.fn (.func f) a c)
  | .fn (.yield f) a c => some (.fn (.yield f) a c)
  | _ => none
 | .binOp op t x y _ => binD P op t (ρ x) (ρ y)
 | .unOp .neg _ x =>
  match ρ x with
  | .int k n => some (.int k (k.wrap (0 - n)))
  | _ => none
 | .unOp .not _ x =>
  match ρ x with
  | .bool b => some (.bool (!b))
  | _ => none
 | .convert s d x =>
  match P.underlying s, P.underlying d, ρ x with
  | some _, some (.int k), .int _ n => some (.int k (k.wrap n))
  | _, _, _ => none
 | .extract x i =>
  match ρ x with
  | .tup vs => vs[i]?
  | _ => none
 | .makeFunc fn f c => some (.fn fn (f.toList.map ρ) (c.toList.map ρ))
 | .makeInterface t x =>
  match P.underlying t with
  | some (.interface _) => none
  | some _ => some (.ifc t (ρ x))
  | none => none
 | .fieldAddr t x f =>
  match fieldOff P t f with
  | some o => atOff h o (ρ x)
  | none => none
 | .field t x f =>
  match fieldTy P t f, ρ x with
  | some (ty, o), .agg cs => partD P ty cs o
  | _, _ => none
 | .index t x i => indexD P t (ρ x) (ρ i)
 | .indexAddr t x i => indexAddrD P h t (ρ x) (ρ i)
 | .load t x => loadAtD P h t (ρ x)
 | .slice t x lo hi none => sliceD P t (ρ x) (lo.map ρ) (hi.map ρ)
 | .lookup t x k ok => lookupD P h t (ρ x) (ρ k) ok
 | .call c => callQ P c ρ h
 | _ => none


section
variable {P : Program} {X : Nat → Prop} {k : Cx}

theorem run_isAgg {t : TypeId} {b : Bool} (h : isAggT P t = some b) (w : World) : (isAgg t).run P w = .ok b w := by
 unfold isAggT at h
 cases hu : P.underlying t with
 | none => simp [hu] at h
 | some d =>
  simp only [isAgg, Sem.run_bind, run_underlying hu, Result.andThen_ok]
  cases d <;> simp_all

theorem run_sizeT {t : TypeId} {n : Nat} (h : sizeT P t = some n) (w : World) : (sizeOf t).run P w = .ok n w := by
 unfold sizeT at h
 cases hi : P.info? t with
 | none => simp [hi] at h
 | some i => simp [hi] at h; rw [run_sizeOf w hi, Program.cellsOf, hi]; simp [h]

theorem RelL.sub {R : Rx} {n : Nat} {vs : List Value} {ds : List D} (h : RelL R n vs ds) (o m : Nat) : RelL R n ((vs.drop o).take m) ((ds.drop o).take m) := by
 refine ⟨by simp [h.1], fun i v d a b => h.2 (o + i) v d ?_ ?_⟩
 ·rw [List.getElem?_take] at a; split at a
  ·rwa [List.getElem?_drop] at a
  ·cases a
 ·rw [List.getElem?_take] at b; split at b
  ·rwa [List.getElem?_drop] at b
  ·cases b

theorem RelL.get {R : Rx} {n : Nat} {vs : List Value} {ds : List D} (h : RelL R n vs ds) {i : Nat} {d : D} (hd : ds[i]? = some d) : ∃ v, vs[i]? = some v ∧ Rel R n v d := by
 have hi : i < ds.length := by
  rcases Nat.lt_or_ge i ds.length with hi | hi
  ·exact hi
  ·rw [List.getElem?_eq_none hi] at hd; cases hd
 have hv : vs[i]? = some (vs[i]'(by rw [h.1]; exact hi)) := List.getElem?_eq_getElem _
 exact ⟨_, hv, h.2 i _ d hv hd⟩

theorem Rel.agg_inv {R : Rx} {n : Nat} {v : Value} {ds : List D} (h : Rel R n v (.agg ds)) : ∃ vs, v = .agg (List.toArray vs) ∧ RelL R n vs ds := by
 cases h with
 | agg _ vs _ h1 h2 => exact ⟨vs, rfl, h1, h2⟩

theorem Rel.tup_inv {R : Rx} {n : Nat} {v : Value} {ds : List D} (h : Rel R n v (.tup ds)) : ∃ vs, v = .tuple (List.toArray vs) ∧ RelL R n vs ds := by
 cases h with
 | tup _ vs _ h1 h2 => exact ⟨vs, rfl, h1, h2⟩

theorem Rel.of_list {R : Rx} {n : Nat} {vs : List Value} {ds : List D} (h : RelL R n vs ds) : Rel R n (.agg vs.toArray) (.agg ds) := .agg _ _ _ h.1 h.2

theorem run_partD {R : Rx} {n : Nat} {vs : List Value} {cs : List D} {t : TypeId} {off : Nat} {d : D} (hr : RelL R n vs cs) (h : partD P t cs off = some d) (w : World) :
  ∃ v, (part t vs.toArray off).run P w = .ok v w ∧ Rel R n v d := by
 unfold partD at h
 split at h
 ·rename_i m hag hsz
  cases h
  refine ⟨_, ?_, Rel.of_list (hr.sub off m)⟩
  simp only [part, Sem.run_bind, run_isAgg hag, Result.andThen_ok, Sem.run_ite, if_true, run_sizeT hsz, Sem.run_pure]
  congr 2
  apply Array.ext'
  simp [Nat.add_sub_cancel_left]
 ·rename_i m hag hsz
  obtain ⟨v, hv, hrel⟩ := hr.get h
  refine ⟨v, ?_, hrel⟩
  simp only [part, Sem.run_bind, run_isAgg hag, Result.andThen_ok, Sem.run_ite, Bool.false_eq_true, if_false]
  simp [hv]
 ·cases h

theorem run_eqFs {R : Rx} {n : Nat} {xv yv : List Value} {xs ys : List D} (hx : RelL R n xv xs) (hy : RelL R n yv ys) (dp : Nat) (eq : TypeId → D → D → Option Bool)
  (heq : ∀ t a b va vb r w, Rel R n va a → Rel R n vb b → eq t a b = some r → (Op.equalIn dp t va vb).run P w = .ok r w) :
  ∀ (fs : List Field) (r : Bool) (w : World), eqFs P eq xs ys fs = some r → (Op.eqFields dp xv.toArray yv.toArray fs).run P w = .ok r w
 | [], r, w, h => by simp [eqFs] at h; subst h; simp [Op.eqFields]
 | f :: fs, r, w, h => by
  simp only [eqFs] at h
  by_cases hn : f.name = "_"
  ·rw [if_pos hn] at h
   simp only [Op.eqFields, hn, ne_eq, not_true, if_false]
   exact run_eqFs hx hy dp eq heq fs r w h
  ·rw [if_neg hn] at h
   cases ha : partD P f.type xs f.offset with
   | none => simp [ha] at h
   | some a =>
    cases hb : partD P f.type ys f.offset with
    | none => simp [ha, hb] at h
    | some b =>
     simp only [ha, hb] at h
     cases hp : eq f.type a b with
     | none => simp [hp] at h
     | some p =>
      cases hq : eqFs P eq xs ys fs with
      | none => simp [hp, hq] at h
      | some q =>
       simp only [hp, hq, Option.some.injEq] at h
       subst h
       obtain ⟨va, h1, r1⟩ := run_partD (P := P) hx ha w
       obtain ⟨vb, h2, r2⟩ := run_partD (P := P) hy hb w
       simp only [Op.eqFields, ne_eq, hn, not_false_eq_true, if_true, Sem.run_bind, h1, Result.andThen_ok, h2, heq _ _ _ _ _ _ w r1 r2 hp, Sem.run_ite, Sem.run_pure]
       cases p
       ·simp
       ·simp [run_eqFs hx hy dp eq heq fs q w hq]

theorem run_eqT {R : Rx} {n : Nat} : ∀ (dp : Nat) (t : TypeId) (a b : D) (va vb : Value) (r : Bool) (w : World), Rel R n va a → Rel R n vb b → eqT P dp t a b = some r →
  (Op.equalIn dp t va vb).run P w = .ok r w
 | 0, t, a, b, va, vb, r, w, _, _, h => by simp [eqT] at h
 | dp + 1, t, a, b, va, vb, r, w, ha, hb, h => by
  simp only [eqT] at h
  split at h
  ·rename_i hu; cases ha; cases hb; cases h; exact run_equalIn_bool' w dp t _ _ hu
  ·rename_i hu
   split at h
   ·rename_i hk; subst hk; cases ha; cases hb; cases h; exact run_equalIn_int w dp t _ _ _ _ hu
   ·cases h
  ·rename_i hu; cases ha; cases hb; cases h; exact run_equalIn_string w dp t _ _ hu
  ·rename_i fs xs ys hu
   split at h
   ·cases h
   ·rename_i hp
    obtain ⟨xv, rfl, hx⟩ := ha.agg_inv
    obtain ⟨yv, rfl, hy⟩ := hb.agg_inv
    have hf : P.fieldsOf t = fs := by simp [Program.fieldsOf, hu]
    rw [run_equalIn_agg w dp t _ _ (by rw [hf]; exact hu) (by simpa using hp), hf]
    exact run_eqFs hx hy dp (eqT P dp) (fun t a b va vb r w h1 h2 h3 => run_eqT dp t a b va vb r w h1 h2 h3) fs.toList r w h
  ·cases h

theorem run_arith {op : BinOp} {kk k' : IntKind} {x y : Int} {d : D} (hk : (isShift op || kk == k') = true) (h : arith op kk x y = some d) (t : TypeId) (w : World) :
  ∃ v, (binOp op t (.int kk x) (.int k' y)).run P w = .ok v w ∧ ∀ R n, Rel R n v d := by
 cases op <;> simp only [isShift, Bool.false_or, Bool.true_or, beq_iff_eq] at hk <;> simp only [arith] at h
 case quo =>
  subst hk
  split at h
  ·cases h
  ·rename_i hy; cases h; exact ⟨.int kk (kk.wrap (x.tdiv y)), by simp [binOp, Op.intDiv, hy], fun R n => .int _ _ _⟩
 case rem =>
  subst hk
  split at h
  ·cases h
  ·rename_i hy; cases h; exact ⟨.int kk (x.tmod y), by simp [binOp, Op.intDiv, hy], fun R n => .int _ _ _⟩
 case shl =>
  split at h
  ·cases h
  ·rename_i hy; cases h; exact ⟨.int kk (kk.wrap (x * 2 ^ (min y.toNat kk.bits))), by simp [binOp, Op.shift, hy], fun R n => .int _ _ _⟩
 case shr =>
  split at h
  ·cases h
  ·rename_i hy; cases h; exact ⟨.int kk (x.fdiv (2 ^ (min y.toNat kk.bits))), by simp [binOp, Op.shift, hy], fun R n => .int _ _ _⟩
 all_goals
  subst hk; cases h
  first
   | exact ⟨.int kk _, by simp [binOp, Op.intArith, Op.intBits], fun R n => .int _ _ _⟩
   | exact ⟨.bool _, by simp [binOp, Op.intCmp], fun R n => .bool _ _⟩

theorem run_strOp {op : BinOp} {x y : ByteArray} {d : D} (h : strOp op x y = some d) (t : TypeId) (w : World) :
  ∃ v, (binOp op t (.string x) (.string y)).run P w = .ok v w ∧ ∀ R n, Rel R n v d := by
 cases op <;> simp only [strOp] at h <;> try cases h
 case add =>
  split at h
  ·cases h
  ·rename_i hs; cases h
   refine ⟨.string (x ++ y), ?_, fun R n => .str _ _⟩
   simp only [binOp, Op.stringOp, IntKind.max_i64]
   rw [if_neg hs]; rfl
 all_goals exact ⟨.bool _, by simp only [binOp, Op.stringOp, Sem.run_pure], fun R n => .bool _ _⟩

theorem run_eq_nilsD (d : Nat) (t e : TypeId) (a : Option Addr) (l c : Nat) (h : P.underlying t = some (.slice e)) (w : World) : (Op.equalIn (d + 1) t (.slice a l c) (.slice none 0 0)).run P w = .ok a.isNone w := by
 cases a <;> simp [Op.equalIn, run_underlying h]
theorem run_eq_nils (t e : TypeId) (a : Option Addr) (l c : Nat) (h : P.underlying t = some (.slice e)) (w : World) : (Op.equal t (.slice a l c) (.slice none 0 0)).run P w = .ok a.isNone w := run_eq_nilsD 9999 t e a l c h w
theorem run_binD {op : BinOp} {t : TypeId} {a b d : D} {va vb : Value} {R : Rx} {n : Nat} (ha : Rel R n va a) (hb : Rel R n vb b) (h : binD P op t a b = some d) (x y : Operand) (w : World) :
  ∃ v, (do eqGuard op t x y va vb; binOp op t va vb : Sem Value).run P w = .ok v w ∧ Rel R n v d := by
 unfold binD at h
 split at h
 ·split at h
  ·rename_i hk
   cases ha; cases hb
   obtain ⟨v, h1, h2⟩ := run_arith (P := P) hk h t w
   exact ⟨v, by simp [eqGuard_at_int, h1], h2 _ _⟩
  ·cases h
 ·cases ha; cases hb
  obtain ⟨v, h1, h2⟩ := run_strOp (P := P) h t w
  exact ⟨v, by simp [eqGuard_at_string, h1], h2 _ _⟩
 ·rename_i p q
  cases ha; cases hb
  split at h
  ·rename_i hu
   cases h
   exact ⟨.bool (p == q), by simp [eqGuard_at_bool, binOp, Op.equal, Op.maxDepth, run_equalIn_bool' w 9999 t p q hu], .bool _ _⟩
  ·rename_i hu
   cases h
   exact ⟨.bool (!(p == q)), by simp [eqGuard_at_bool, binOp, Op.equal, Op.maxDepth, run_equalIn_bool' w 9999 t p q hu], .bool _ _⟩
  ·cases h
 ·split at h
  ·cases h
  ·rename_i hg
   split at h
   ·rename_i p hp
    cases h
    have he := run_eqT (P := P) 10000 t _ _ va vb p w ha hb hp
    obtain ⟨xv, rfl, _⟩ := ha.agg_inv
    obtain ⟨yv, rfl, _⟩ := hb.agg_inv
    exact ⟨.bool p, by simp [run_eqGuard_agg w _ t x y _ _ (by simpa using hg), run_eql_struct, he], .bool _ _⟩
   ·rename_i p hp
    cases h
    have he := run_eqT (P := P) 10000 t _ _ va vb p w ha hb hp
    obtain ⟨xv, rfl, _⟩ := ha.agg_inv
    obtain ⟨yv, rfl, _⟩ := hb.agg_inv
    exact ⟨.bool (!p), by simp [run_eqGuard_agg w _ t x y _ _ (by simpa using hg), run_neq_struct, he], .bool _ _⟩
   ·cases h
 ·cases ha; cases hb
  split at h
  ·rename_i hu
   cases h
   exact ⟨.bool false, by simp [eqGuard_at_slice, binOp, run_eq_nils _ _ _ _ _ hu], .bool _ _⟩
  ·rename_i hu
   cases h
   exact ⟨.bool true, by simp [eqGuard_at_slice, binOp, run_eq_nils _ _ _ _ _ hu], .bool _ _⟩
  ·cases h
 ·cases ha; cases hb
  split at h
  ·rename_i hu
   cases h
   exact ⟨.bool true, by simp [eqGuard_at_slice, binOp, run_eq_nils _ _ _ _ _ hu], .bool _ _⟩
  ·rename_i hu
   cases h
   exact ⟨.bool false, by simp [eqGuard_at_slice, binOp, run_eq_nils _ _ _ _ _ hu], .bool _ _⟩
  ·cases h
 ·cases h

end
end Go.Sx

/- Sx, part D: the model's run of an operation that only reads agrees with its abstract meaning. Own work. -/
namespace Go.Sx
section
variable {P : Program} {X : Nat → Prop} {k : Cx}

theorem add_none (b o n : Nat) : (Addr.add ⟨b, o, none⟩ n) = ⟨b, o + n, none⟩ := by
 unfold Addr.add; split
 ·subst_vars; rfl
 ·rfl

theorem run_loadD {R : Rx} {n : Nat} {t : TypeId} {cs : List D} {o : Nat} {d : D} {w : World} (h : loadD P t cs o = some d) (b base : Nat) (f : Nat → Value)
  (hc : ∀ (j : Nat) e, cs[j]? = some e → w.cell? ⟨b, base + j, none⟩ = some (f j)) (hr : ∀ (j : Nat) e, cs[j]? = some e → Rel R n (f j) e) :
  ∃ v, (loadVar t ⟨b, base + o, none⟩).run P w = .ok v w ∧ Rel R n v d := by
 unfold loadD at h
 split at h
 ·rename_i m hag hsz
  split at h
  ·rename_i hle
   cases h
   refine ⟨.agg ((List.range m).map fun j => f (o + j)).toArray, ?_, .agg _ _ _ ?_ ?_⟩
   ·simp only [loadVar, Sem.run_bind, run_isAgg hag, Result.andThen_ok, Sem.run_ite, if_true, run_sizeT hsz, Sem.run_pure]
    rw [run_loadCells w ⟨b, base + o, none⟩ m (fun j => f (o + j)) fun j hj => by
     rw [add_none, Nat.add_assoc]
     exact hc (o + j) (cs[o + j]'(by omega)) (List.getElem?_eq_getElem _)]
    rfl
   ·simp; omega
   ·intro i v e hv he
    rw [List.getElem?_map] at hv
    rcases Nat.lt_or_ge i m with hi | hi
    ·rw [List.getElem?_range hi] at hv
     simp at hv; subst hv
     rw [List.getElem?_take, if_pos hi, List.getElem?_drop] at he
     exact hr _ _ he
    ·rw [List.getElem?_eq_none (by simpa using hi)] at hv; cases hv
  ·cases h
 ·rename_i m hag hsz
  refine ⟨f o, ?_, hr o d h⟩
  simp only [loadVar, Sem.run_bind, run_isAgg hag, Result.andThen_ok, Sem.run_ite, Bool.false_eq_true, if_false, run_load, hc o d h]
 ·cases h

theorem row_cell {w : World} {b : Nat} {vs : List Value} {ty : TypeId} {fz : Nat × Nat} (h : w.heap[b]? = some (.cells vs.toArray ty fz)) (i : Nat) : w.cell? ⟨b, i, none⟩ = vs[i]? := by
 simp [World.cell?, h]

theorem run_loadAtD (hg : Good X k) {t : TypeId} {x d : D} {v : Value} (hx : Rel (k.R X) k.nid v x) (h : loadAtD P k.h t x = some d) :
  ∃ u, (Instr.loadAt t v).run P k.w = .ok u k.w ∧ Rel (k.R X) k.nid u d := by
 unfold loadAtD at h
 split at h
 ·rename_i b o
  split at h
  ·rename_i cs hb
   obtain ⟨vs, ty, h1, h2⟩ := hg.ok b _ hb
   cases hx with
   | ptr _ _ _ hlt =>
    obtain ⟨u, hu, hr⟩ := run_loadD (P := P) (w := k.w) h (k.β b) 0 (fun j => vs.getD j undef) (fun j e he => by
     obtain ⟨v, hv, _⟩ := h2.get he
     rw [Nat.zero_add, row_cell h1, hv]; simp [List.getD, hv]) (R := k.R X) (n := k.nid) (fun j e he => by
     obtain ⟨v, hv, hr⟩ := h2.get he
     simpa [List.getD, hv] using hr)
    refine ⟨u, ?_, hr⟩
    simp only [Instr.loadAt, Instr.sureAddr, Sem.run_bind, Sem.run_pure, Result.andThen_ok]
    simpa [Cx.R] using hu
  ·cases h
 ·rename_i cs o
  cases hx with
  | ref _ b off _ _ vs hS hc hr =>
   obtain ⟨u, hu, hr⟩ := run_loadD (P := P) (w := k.w) h b off vs hc (R := k.R X) (n := k.nid) (fun j e he => (hr j e he).weak (Nat.zero_le _))
   exact ⟨u, by simp only [Instr.loadAt, Instr.sureAddr, Sem.run_bind, Sem.run_pure, Result.andThen_ok]; exact hu, hr⟩
 ·rename_i kvs
  cases hx with
  | refm _ b off _ vv hS hc hr =>
   obtain ⟨u, hu, hr⟩ := run_loadD (P := P) (w := k.w) h b off (fun _ => vv) (fun j e he => by
    match j with
    | 0 => simpa [Cx.R] using hc
    | _ + 1 => simp at he) (R := k.R X) (n := k.nid) (fun j e he => by
    match j with
    | 0 => simp at he; subst he; exact hr.weak (Nat.zero_le _)
    | _ + 1 => simp at he)
   exact ⟨u, by simp only [Instr.loadAt, Instr.sureAddr, Sem.run_bind, Sem.run_pure, Result.andThen_ok]; exact hu, hr⟩
 ·rename_i b l sz i o
  split at h
  ·rename_i ty' sz' es hb
   split at h
   ·rename_i hl
    obtain ⟨hl, rfl⟩ := hl
    split at h
    ·rename_i c hc
     obtain ⟨h0, h1⟩ := hg.ok b _ hb
     cases hx with
     | eptr _ _ _ _ _ _ _ hlt hv =>
      obtain ⟨_, hv⟩ := hv es.length (by simp [Cx.R, hb, lnOf])
      have hv := hv hl
      rcases h1 with ⟨_, he⟩ | ⟨bb, bo, cap, vs, a1, a2, a3, a4, a5⟩
      ·subst he; simp at hc
      ·have hsv : (k.R X).sv b = .slice (some ⟨bb, bo, none⟩) es.length cap := a1
       rw [hsv] at hv
       simp only [eaddr] at hv
       have hlen : i < es.length := by
        rcases Nat.lt_or_ge i es.length with hi | hi
        ·exact hi
        ·rw [List.getElem?_eq_none hi] at hc; cases hc
       have hcl : c.length = sz := (h0 c (List.mem_of_getElem? hc)).1
       have hin : ∀ j, j < sz → bo + (i * sz + j) < vs.length := fun j hj => by
        refine Nat.lt_of_lt_of_le ?_ a3
        have : (i + 1) * sz ≤ cap * sz := Nat.mul_le_mul_right _ (by omega)
        rw [Nat.add_mul] at this; omega
       obtain ⟨u, hu, hr⟩ := run_loadD (P := P) (w := k.w) h bb (bo + i * sz) (fun j => vs.getD (bo + (i * sz + j)) undef) (fun j e he => by
        have hj : j < c.length := by
         rcases Nat.lt_or_ge j c.length with hi | hi
         ·exact hi
         ·rw [List.getElem?_eq_none hi] at he; cases he
        rw [row_cell a2, Nat.add_assoc, List.getElem?_eq_getElem (hin j (by omega))]
        simp [List.getD, List.getElem?_eq_getElem (hin j (by omega))]) (R := k.R X) (n := k.nid) (fun j e he => by
        have hj : j < c.length := by
         rcases Nat.lt_or_ge j c.length with hi | hi
         ·exact hi
         ·rw [List.getElem?_eq_none hi] at he; cases he
        refine (a5 i c j e _ hc he ?_).weak (Nat.zero_le _)
        simp [List.getD, List.getElem?_eq_getElem (hin j (by omega))])
       refine ⟨u, ?_, hr⟩
       subst hv
       simp only [Instr.loadAt, Instr.sureAddr, Sem.run_bind, Sem.run_pure, Result.andThen_ok]
       rw [show ({ block := bb, off := bo + (i * sz + o) } : Addr) = { block := bb, off := bo + i * sz + o } from by rw [Nat.add_assoc]]; exact hu
    ·cases h
   ·cases h
  ·cases h
 ·cases h

theorem run_atOff (hg : Good X k) {o : Nat} {x d : D} {v : Value} (hx : Rel (k.R X) k.nid v x) (h : atOff k.h o x = some d) :
  ∃ a, v = .pointer (some a) ∧ Rel (k.R X) k.nid (.pointer (some (a.add o))) d := by
 unfold atOff at h
 split at h
 ·cases h; cases hx with
  | ptr _ _ _ hl => exact ⟨_, rfl, by rw [add_none]; exact .ptr _ _ _ hl⟩
 ·cases h; cases hx with
  | ref _ b off _ _ vs h1 h2 h3 h4 => exact ⟨_, rfl, by rw [add_none, Nat.add_assoc]; exact .ref _ b off _ _ vs h1 h2 h3 h4⟩
 ·rename_i b l sz i p
  split at h
  ·rename_i ty' sz' es hb
   split at h
   ·rename_i hl
    obtain ⟨hl, hi⟩ := hl
    cases h; cases hx with
    | eptr _ _ _ _ _ _ _ hlt hv =>
     have hv2 := (hv es.length (by simp [Cx.R, hb, lnOf])).2 hl
     rcases (hg.ok b _ hb).2 with ⟨_, he⟩ | ⟨bb, bo, cap, vs, a1, _⟩
     ·subst he; simp at hi
     ·have hsv : (k.R X).sv b = .slice (some ⟨bb, bo, none⟩) es.length cap := a1
      rw [hsv] at hv2
      refine ⟨_, hv2, .eptr _ b l sz i _ _ hlt fun m hm => ⟨(hv m hm).1, fun _ => ?_⟩⟩
      rw [hsv, add_none]
      simp [eaddr, Nat.add_assoc]
   ·cases h
  ·cases h
 ·cases h

theorem lt_of_getElem? {α : Type} {l : List α} {i : Nat} {x : α} (h : l[i]? = some x) : i < l.length := by
 rcases Nat.lt_or_ge i l.length with hi | hi
 ·exact hi
 ·rw [List.getElem?_eq_none hi] at h; cases h

theorem run_indexAddrD (hg : Good X k) {t : TypeId} {x y d : D} {v u : Value} (hx : Rel (k.R X) k.nid v x) (hy : Rel (k.R X) k.nid u y) (h : indexAddrD P k.h t x y = some d) :
  ∃ r, (Instr.indexAt t v u).run P k.w = .ok r k.w ∧ Rel (k.R X) k.nid r d := by
 unfold indexAddrD at h
 split at h
 ·rename_i e es kk i hu
  split at h
  ·rename_i hi
   split at h
   ·rename_i c n hc hn
    split at h
    ·rename_i hcl
     cases h; cases hy
     have hlt := lt_of_getElem? hc
     cases hx with
     | sln => simp at hlt
     | sle => simp at hlt
     | sl _ b off cap _ sz vs hS hcap hsz hcell hrel hnm =>
      have hcs : n = sz := by rw [← hcl]; exact hsz c (List.mem_of_getElem? hc)
      subst hcs
      refine ⟨.pointer (some ⟨b, off + i.toNat * n, none⟩), ?_, ?_⟩
      ·simp only [Instr.indexAt, asIntOf, Sem.run_bind, Sem.run_pure, Result.andThen_ok, run_underlying hu]
       simp only [Bool.and_false, Bool.false_eq_true, if_false, Sem.run_ite, Sem.run_bind, run_sizeT hn, Result.andThen_ok, Sem.run_pure, add_none]
       rw [if_pos ⟨hi, by omega⟩]
      ·have := Rel.ref (R := k.R X) k.nid b (off + i.toNat * n) c 0 (vs i.toNat) (hS.resolve_left (by rintro rfl; simp at hlt)) (fun j e he => by rw [Nat.add_assoc]; exact hcell i.toNat c j e hc he) (fun j e he => hrel i.toNat c j e hc he) (hnm c (List.mem_of_getElem? hc))
       simpa using this
    ·cases h
   ·cases h
  ·cases h
 ·rename_i e b l kk i hu
  split at h
  ·rename_i ty' sz es hb
   split at h
   ·rename_i hcond
    obtain ⟨hi, hlt, hl, hn⟩ := hcond
    cases h; cases hy
    cases hx with
    | osl _ _ _ _ hb' hv =>
     have hv2 := (hv es.length (by simp [Cx.R, hb, lnOf])).2 hl
     rcases (hg.ok b _ hb).2 with ⟨_, he⟩ | ⟨bb, bo, cap, vs, a1, _⟩
     ·subst he; simp at hlt
     ·have hsv : (k.R X).sv b = .slice (some ⟨bb, bo, none⟩) es.length cap := a1
      rw [hsv] at hv2; subst hv2
      refine ⟨.pointer (some ⟨bb, bo + i.toNat * sz, none⟩), ?_, ?_⟩
      ·simp only [Instr.indexAt, asIntOf, Sem.run_bind, Sem.run_pure, Result.andThen_ok, run_underlying hu]
       simp only [Bool.and_false, Bool.false_eq_true, if_false, Sem.run_ite, Sem.run_bind, run_sizeT hn, Result.andThen_ok, Sem.run_pure, add_none]
       rw [if_pos ⟨hi, by omega⟩]
      ·refine .eptr _ b l sz i.toNat 0 _ hb' fun m hm => ⟨(hv m hm).1, fun _ => ?_⟩
       rw [hsv]; simp [eaddr]
   ·cases h
  ·cases h
 ·rename_i e b o l sz kk i hu
  split at h
  ·rename_i hcond
   obtain ⟨hi, hlt, hn⟩ := hcond
   cases h; cases hy
   cases hx with
   | bsl _ _ _ _ cap _ hb' hlc =>
    refine ⟨.pointer (some ⟨(k.R X).β b, o + i.toNat * sz, none⟩), ?_, .ptr _ b _ hb'⟩
    simp only [Instr.indexAt, asIntOf, Sem.run_bind, Sem.run_pure, Result.andThen_ok, run_underlying hu]
    simp only [Bool.and_false, Bool.false_eq_true, if_false, Sem.run_ite, Sem.run_bind, run_sizeT hn, Result.andThen_ok, Sem.run_pure, add_none]
    rw [if_pos ⟨hi, by omega⟩]
  ·cases h
 ·rename_i len e p kk i hu
  split at h
  ·rename_i hi
   split at h
   ·rename_i n hn
    cases hy
    obtain ⟨a, rfl, hr⟩ := run_atOff hg hx h
    refine ⟨_, ?_, hr⟩
    simp only [Instr.indexAt, asIntOf, Sem.run_bind, Sem.run_pure, Result.andThen_ok, run_underlying hu, Instr.sureAddr]
    rw [if_pos hi]
    simp [run_sizeT hn]
   ·cases h
  ·cases h
 ·cases h

theorem run_fieldAddr (hg : Good X k) {t : TypeId} {f : Nat} {fd : Field} {n : Nat} {x d : D} {v : Value} (hf : fieldOf P t f = some fd) (hn : sizeT P fd.type = some n) (hn0 : n ≠ 0)
  (hx : Rel (k.R X) k.nid v x) (h : atOff k.h fd.offset x = some d) : ∃ r, (Instr.fieldAt t v f).run P k.w = .ok r k.w ∧ Rel (k.R X) k.nid r d := by
 obtain ⟨a, rfl, hr⟩ := run_atOff hg hx h
 unfold fieldOf at hf
 split at hf
 ·rename_i fs hu
  refine ⟨_, ?_, hr⟩
  simp only [Instr.fieldAt, Sem.run_bind, run_underlying hu, Result.andThen_ok, hf, Instr.sureAddr, Sem.run_pure, fieldPlace, run_sizeT hn, Sem.run_ite]
  rw [if_neg hn0]
  rfl
 ·cases hf

theorem run_field {t : TypeId} {f : Nat} {fd : Field} {cs : List D} {d : D} {v : Value} {R : Rx} {n : Nat} {w : World} (hf : fieldOf P t f = some fd) (hx : Rel R n v (.agg cs))
  (h : partD P fd.type cs fd.offset = some d) : ∃ r, (Instr.field t v f).run P w = .ok r w ∧ Rel R n r d := by
 obtain ⟨vs, rfl, hr⟩ := hx.agg_inv
 obtain ⟨r, h1, h2⟩ := run_partD (P := P) hr h w
 unfold fieldOf at hf
 split at hf
 ·rename_i fs hu
  exact ⟨r, by simp only [Instr.field, Sem.run_bind, run_underlying hu, Result.andThen_ok, hf, asAgg, Sem.run_pure, h1], h2⟩
 ·cases hf

theorem run_indexD {t : TypeId} {x y d : D} {v u : Value} {R : Rx} {n : Nat} {w : World} (hx : Rel R n v x) (hy : Rel R n u y) (h : indexD P t x y = some d) :
  ∃ r, (Instr.index t v u).run P w = .ok r w ∧ Rel R n r d := by
 unfold indexD at h
 split at h
 ·rename_i len e cs kk i hu
  split at h
  ·rename_i hi
   split at h
   ·rename_i sz hsz
    cases hy
    obtain ⟨vs, rfl, hr⟩ := hx.agg_inv
    obtain ⟨r, h1, h2⟩ := run_partD (P := P) hr h w
    refine ⟨r, ?_, h2⟩
    simp only [Instr.index, asIntOf, Sem.run_bind, Sem.run_pure, Result.andThen_ok, run_underlying hu]
    rw [if_pos hi]
    simp only [Sem.run_bind, run_sizeT hsz, Result.andThen_ok, h1]
   ·cases h
  ·cases h
 ·rename_i s kk i hu
  split at h
  ·rename_i hi
   split at h
   ·rename_i b hb
    cases h; cases hx; cases hy
    refine ⟨.int .u8 b.toNat, ?_, .int _ _ _⟩
    simp only [Instr.index, asIntOf, Sem.run_bind, Sem.run_pure, Result.andThen_ok, run_underlying hu, if_pos hi]
    have hs : s[i.toNat]? = some b := by
     have hlt : i.toNat < s.data.size := by
      rcases Nat.lt_or_ge i.toNat s.data.size with h | h
      ·exact h
      ·rw [Array.getElem?_eq_none h] at hb; cases hb
     rw [Array.getElem?_eq_getElem hlt] at hb
     cases hb
     exact getElem?_pos s i.toNat hlt
    rw [hs]
    rfl
   ·cases h
  ·cases h
 ·cases h

theorem run_boundD {y dflt : Nat} {o : Option D} {ov : Option Value} {l : Nat} {R : Rx} {n : Nat} {w : World} {c : BoundsCode}
  (ho : (o = none ∧ ov = none) ∨ ∃ x v, o = some x ∧ ov = some v ∧ Rel R n v x) (h : boundD y o dflt = some l) :
  (match ov with | some v => Instr.sliceBound v y c | none => pure dflt).run P w = .ok l w := by
 rcases ho with ⟨rfl, rfl⟩ | ⟨x, v, rfl, rfl, hr⟩
 ·simp [boundD] at h; subst h; rfl
 ·cases hr <;> simp only [boundD] at h <;> try cases h
  rename_i kk i
  split at h
  ·rename_i hi
   cases h
   simp only [Instr.sliceBound, asIntOf, Sem.run_bind, Sem.run_pure, Result.andThen_ok]
   rw [if_pos hi]; rfl
  ·cases h

theorem run_boundLe {y y' dflt : Nat} {o : Option D} {ov : Option Value} {l : Nat} {R : Rx} {n : Nat} {w : World} {c : BoundsCode} (hy : y' ≤ y)
  (ho : (o = none ∧ ov = none) ∨ ∃ x v, o = some x ∧ ov = some v ∧ Rel R n v x) (h : boundD y' o dflt = some l) :
  (match ov with | some v => Instr.sliceBound v y c | none => pure dflt).run P w = .ok l w := by
 rcases ho with ⟨rfl, rfl⟩ | ⟨x, v, rfl, rfl, hr⟩
 ·simp [boundD] at h; subst h; rfl
 ·cases hr <;> simp only [boundD] at h <;> try cases h
  rename_i kk i
  split at h
  ·rename_i hi
   cases h
   simp only [Instr.sliceBound, asIntOf, Sem.run_bind, Sem.run_pure, Result.andThen_ok]
   rw [if_pos ⟨hi.1, by omega⟩]; rfl
  ·cases h

theorem boundD_le {y dflt : Nat} {o : Option D} {l : Nat} (h : boundD y o dflt = some l) (hd : dflt ≤ y) : l ≤ y := by
 unfold boundD at h
 split at h
 ·cases h; exact hd
 ·split at h
  ·cases h; omega
  ·cases h
 ·cases h

theorem run_bounds {isS : Bool} {len y y' : Nat} {lo hi : Option D} {lov hiv : Option Value} {h l : Nat} {R : Rx} {n : Nat} {w : World} (hy : y' ≤ y)
  (hlo : (lo = none ∧ lov = none) ∨ ∃ x v, lo = some x ∧ lov = some v ∧ Rel R n v x) (hhi : (hi = none ∧ hiv = none) ∨ ∃ x v, hi = some x ∧ hiv = some v ∧ Rel R n v x)
  (h1 : boundD y' hi len = some h) (h2 : boundD h lo 0 = some l) : (Instr.sliceBounds isS len y lov hiv none).run P w = .ok (l, h, y) w := by
 have b1 := fun c => run_boundLe (P := P) (w := w) (c := c) hy hhi h1
 have b2 := fun c => run_boundLe (P := P) (w := w) (c := c) (Nat.le_refl h) hlo h2
 unfold Instr.sliceBounds
 rcases hhi with ⟨rfl, rfl⟩ | ⟨xh, vh, rfl, rfl, hrh⟩ <;> rcases hlo with ⟨rfl, rfl⟩ | ⟨xl, vl, rfl, rfl, hrl⟩
 ·have e1 : len = h := by simpa [boundD] using h1
  have e2 : 0 = l := by simpa [boundD] using h2
  subst e1; subst e2
  simp
 ·have e1 : len = h := by simpa [boundD] using h1
  subst e1
  simp [b2]
 ·have e2 : 0 = l := by simpa [boundD] using h2
  subst e2
  simp [b1]
 ·simp [b1, b2]

theorem run_sliceD {t : TypeId} {x d : D} {lo hi : Option D} {v : Value} {lov hiv : Option Value} {R : Rx} {n : Nat} {w : World} (hx : Rel R n v x)
  (hlo : (lo = none ∧ lov = none) ∨ ∃ x v, lo = some x ∧ lov = some v ∧ Rel R n v x) (hhi : (hi = none ∧ hiv = none) ∨ ∃ x v, hi = some x ∧ hiv = some v ∧ Rel R n v x)
  (h : sliceD P t x lo hi = some d) : ∃ r, (Instr.sliceAt t v lov hiv none).run P w = .ok r w ∧ Rel R n r d := by
 unfold sliceD at h
 split at h
 ·rename_i s hu
  split at h
  ·rename_i hh h1
   split at h
   ·rename_i ll h2
    cases h; cases hx
    have b1 := fun c => run_boundD (P := P) (w := w) (c := c) hhi h1
    have b2 := fun c => run_boundD (P := P) (w := w) (c := c) hlo h2
    refine ⟨.string (s.extract ll hh), ?_, .str _ _⟩
    simp only [Instr.sliceAt, Instr.slice, Sem.run_bind, run_underlying hu, Result.andThen_ok, Option.isSome_none, Bool.false_eq_true, if_false, Instr.sliceBounds, Sem.run_pure, Sem.run_ite]
    rcases hhi with ⟨rfl, rfl⟩ | ⟨xh, vh, rfl, rfl, hrh⟩ <;> rcases hlo with ⟨rfl, rfl⟩ | ⟨xl, vl, rfl, rfl, hrl⟩
    ·have e1 : s.size = hh := by simpa [boundD] using h1
     have e2 : 0 = ll := by simpa [boundD] using h2
     subst e1; subst e2
     simp
    ·have e1 : s.size = hh := by simpa [boundD] using h1
     subst e1
     simp [b2]
    ·have e2 : 0 = ll := by simpa [boundD] using h2
     subst e2
     simp [b1]
    ·simp [b1, b2]
   ·cases h
  ·cases h
 ·rename_i e es hu
  split at h
  ·rename_i sz hh hsz h1
   split at h
   ·rename_i ll h2
    split at h
    ·rename_i hall
     cases h
     have hle1 := boundD_le h1 (Nat.le_refl _)
     have hle2 := boundD_le h2 (Nat.zero_le _)
     have hlen : ((es.take hh).drop ll).length = hh - ll := by simp; omega
     cases hx with
     | sln =>
      have hb := run_bounds (P := P) (isS := true) (w := w) (y := 0) (Nat.le_refl _) hlo hhi h1 h2
      have e0 : hh = 0 := by simpa using hle1
      subst e0
      have e1 : ll = 0 := by omega
      subst e1
      refine ⟨.slice none 0 0, ?_, ?_⟩
      ·simp only [Instr.sliceAt, Instr.slice, Sem.run_bind, run_underlying hu, Result.andThen_ok]
       rw [show (Instr.sliceBounds true 0 0 lov hiv none).run P w = _ from hb]
       simp [run_sizeT hsz]
      ·exact .sln _
     | sle _ a cap =>
      have hb := run_bounds (P := P) (isS := true) (w := w) (y := cap) (Nat.zero_le _) hlo hhi h1 h2
      have e0 : hh = 0 := by simpa using hle1
      subst e0
      have e1 : ll = 0 := by omega
      subst e1
      refine ⟨.slice (some (if cap = 0 then a else a.add (0 * sz))) 0 cap, ?_, ?_⟩
      ·simp only [Instr.sliceAt, Instr.slice, Sem.run_bind, run_underlying hu, Result.andThen_ok]
       rw [show (Instr.sliceBounds true 0 cap lov hiv none).run P w = _ from hb]
       simp only [Result.andThen_ok, Sem.run_bind, run_sizeT hsz, Sem.run_pure]
       by_cases hc : cap = 0
       ·simp [hc]
       ·simp [hc]
      ·exact .sle _ _ _
     | sl _ b off cap _ sz' vs hS hcap hsz' hcell hrel hnm =>
      have hb := run_bounds (P := P) (isS := true) (w := w) (y := cap) hcap hlo hhi h1 h2
      have hss : ∀ c ∈ es, c.length = sz := fun c hc => Nat.eq_of_beq_eq_true (List.all_eq_true.1 hall c hc)
      have hget : ∀ (i : Nat) c, ((es.take hh).drop ll)[i]? = some c → es[ll + i]? = some c := fun i c hc => by
       rw [List.getElem?_drop, List.getElem?_take] at hc
       split at hc
       ·exact hc
       ·cases hc
      by_cases hcl : cap = ll
      ·have hnil : (es.take hh).drop ll = [] := List.eq_nil_of_length_eq_zero (by omega)
       refine ⟨.slice (some ⟨b, off, none⟩) (hh - ll) (cap - ll), ?_, ?_⟩
       ·simp only [Instr.sliceAt, Instr.slice, Sem.run_bind, run_underlying hu, Result.andThen_ok, hb, run_sizeT hsz, Sem.run_pure]
        rw [if_pos hcl]
       ·rw [hnil, show hh - ll = ([] : List (List D)).length by simp; omega]
        exact .sl _ b off _ [] sz (fun _ _ => undef) (.inl rfl) (by simp) (by simp) (fun i e j d hi => by simp at hi) (fun i e j d hi => by simp at hi) (by simp)
      ·refine ⟨.slice (some ⟨b, off + ll * sz, none⟩) (hh - ll) (cap - ll), ?_, ?_⟩
       ·simp only [Instr.sliceAt, Instr.slice, Sem.run_bind, run_underlying hu, Result.andThen_ok, hb, run_sizeT hsz, Sem.run_pure]
        rw [if_neg hcl, Option.map_some, add_none]
       ·rw [← hlen]
        refine .sl _ b (off + ll * sz) _ _ sz (fun i j => vs (ll + i) j) ?_ (by omega) (fun c hc => hss c (List.mem_of_mem_take (List.mem_of_mem_drop hc))) (fun i c j d hc hd => ?_) (fun i c j d hc hd => hrel _ c j d (hget i c hc) hd) (fun c hc => hnm c (List.mem_of_mem_take (List.mem_of_mem_drop hc)))
        ·rcases hS with rfl | hS
         ·exact .inl (by simp)
         ·exact .inr hS
        ·have h3 := hget i c hc
         have hz : sz = sz' := by rw [← hss c (List.mem_of_getElem? h3), hsz' c (List.mem_of_getElem? h3)]
         rw [← hcell _ c j d h3 hd, ← hz]
         congr 2
         rw [Nat.add_mul]; omega
    ·cases h
   ·cases h
  ·cases h
 ·rename_i m e b o hu
  split at h
  ·rename_i hh h1
   split at h
   ·rename_i ll sz h2 hsz
    split at h
    ·rename_i hlt
     cases h
     cases hx with
     | ptr _ _ _ hb' =>
      have hle1 := boundD_le h1 (Nat.le_refl _)
      have hb := run_bounds (P := P) (isS := false) (w := w) (y := m) (Nat.le_refl _) hlo hhi h1 h2
      refine ⟨.slice (some ⟨R.β b, o + ll * sz, none⟩) (hh - ll) (m - ll), ?_, .bsl _ b _ _ _ sz hb' (by omega)⟩
      simp only [Instr.sliceAt, Sem.run_bind, run_underlying hu, Result.andThen_ok, Instr.sureAddr, Sem.run_pure, hb, run_sizeT hsz]
      rw [if_neg (by omega), add_none]
    ·cases h
   ·cases h
  ·cases h
 ·cases h


def kV : D → Value
 | .int k n => .int k n
 | .str s => .string s
 | .bool b => .bool b
 | .agg [.int k a, .int l b] => .agg #[.int k a, .int l b]
 | _ => undef

theorem keyFit_cases {kt : TypeId} {k : D} (h : keyFit P kt k = true) :
  (∃ j n, k = .int j n ∧ P.underlying kt = some (.int j)) ∨ (∃ s, k = .str s ∧ P.underlying kt = some .string) ∨ (∃ b, k = .bool b ∧ P.underlying kt = some .bool) ∨
  ∃ fs j a l b, k = .agg [.int j a, .int l b] ∧ P.underlying kt = some (.struct fs) ∧ pairT P kt fs.toList j l = true := by
 unfold keyFit at h
 split at h
 ·rename_i j j' n hu; obtain rfl : j = j' := by simpa using h
  exact .inl ⟨_, _, rfl, hu⟩
 ·rename_i hu; exact .inr (.inl ⟨_, rfl, hu⟩)
 ·rename_i hu; exact .inr (.inr (.inl ⟨_, rfl, hu⟩))
 ·rename_i hu; exact .inr (.inr (.inr ⟨_, _, _, _, _, rfl, hu, h⟩))
 ·cases h

theorem intT_inv {t : TypeId} {j : IntKind} (h : intT P t j = true) : P.underlying t = some (.int j) ∧ ∃ n, sizeT P t = some n := by
 unfold intT at h
 split at h
 ·rename_i j' hu
  simp only [Bool.and_eq_true, beq_iff_eq] at h
  obtain ⟨rfl, h2⟩ := h
  exact ⟨hu, Option.isSome_iff_exists.1 h2⟩
 ·cases h

theorem pairT_inv {kt : TypeId} {fs : List Field} {j l : IntKind} (h : pairT P kt fs j l = true) : ∃ f g, fs = [f, g] ∧ f.name ≠ "_" ∧ g.name ≠ "_" ∧ f.offset = 0 ∧ g.offset = 1 ∧ P.stoodInHeld kt = false ∧
  (P.underlying f.type = some (.int j) ∧ ∃ n, sizeT P f.type = some n) ∧ (P.underlying g.type = some (.int l) ∧ ∃ n, sizeT P g.type = some n) := by
 unfold pairT at h
 split at h
 ·rename_i f g
  simp only [Bool.and_eq_true, Bool.not_eq_true', beq_eq_false_iff_ne, beq_iff_eq] at h
  obtain ⟨⟨⟨⟨⟨⟨h1, h2⟩, h3⟩, h4⟩, h5⟩, h6⟩, h7⟩ := h
  exact ⟨f, g, rfl, h1, h2, h3, h4, h5, intT_inv h6, intT_inv h7⟩
 ·cases h

theorem pair_kinds {kt : TypeId} {fs : List Field} {j l j' l' : IntKind} (h : pairT P kt fs j l = true) (h' : pairT P kt fs j' l' = true) : j = j' ∧ l = l' := by
 obtain ⟨f, g, rfl, -, -, -, -, -, ⟨h1, -⟩, ⟨h2, -⟩⟩ := pairT_inv h
 obtain ⟨f', g', e, -, -, -, -, -, ⟨h3, -⟩, ⟨h4, -⟩⟩ := pairT_inv h'
 simp only [List.cons.injEq, and_true] at e
 obtain ⟨rfl, rfl⟩ := e
 rw [h1] at h3; rw [h2] at h4
 simp at h3 h4
 exact ⟨h3, h4⟩

theorem partD_int {t : TypeId} {j : IntKind} {n : Nat} (hu : P.underlying t = some (.int j)) (hs : sizeT P t = some n) (cs : List D) (off : Nat) : partD P t cs off = cs[off]? := by
 simp [partD, isAggT, hu, hs]

theorem pair_eqT {kt : TypeId} {fs : Array Field} {j l : IntKind} (hu : P.underlying kt = some (.struct fs)) (h : pairT P kt fs.toList j l = true) (a b a' b' : Int) :
  eqT P 10000 kt (.agg [.int j a, .int l b]) (.agg [.int j a', .int l b']) = some (a == a' && b == b') := by
 obtain ⟨f, g, e, h1, h2, h3, h4, h5, ⟨h6, n, h7⟩, ⟨h8, m, h9⟩⟩ := pairT_inv h
 have key : ∀ d : Nat, eqT P (d + 2) kt (.agg [.int j a, .int l b]) (.agg [.int j a', .int l b']) = some (a == a' && b == b') := fun d => by
  simp [eqT, hu, h5, e, eqFs, h1, h2, h3, h4, partD_int h6 h7, partD_int h8 h9, h6, h8]
 exact key 9998

theorem keyVal {R : Rx} {n : Nat} {kt : TypeId} {v : Value} {k : D} (hr : Rel R n v k) (hf : keyFit P kt k = true) : v = kV k := by
 rcases keyFit_cases hf with ⟨j, n, rfl, _⟩ | ⟨s, rfl, _⟩ | ⟨b, rfl, _⟩ | ⟨fs, j, a, l, b, rfl, _, _⟩
 ·cases hr; rfl
 ·cases hr; rfl
 ·cases hr; rfl
 ·obtain ⟨xv, rfl, hx⟩ := hr.agg_inv
  match xv, hx with
  | [x, y], hx =>
   have h0 := hx.2 0 x _ rfl rfl
   have h1 := hx.2 1 y _ rfl rfl
   cases h0; cases h1; rfl
  | [], hx => exact absurd hx.1 (by simp)
  | [_], hx => exact absurd hx.1 (by simp)
  | _ :: _ :: _ :: _, hx => exact absurd hx.1 (by simp)

theorem bytes_toList {a b : ByteArray} : a.toList = b.toList ↔ a = b := by
 constructor
 ·intro h
  have h1 : a.data.toList = b.data.toList := by simpa [ByteArray.toList_eq] using h
  cases a; cases b; simp only at h1; congr 1; exact Array.ext' h1
 ·rintro rfl; rfl

theorem key_desc {kt : TypeId} {k : D} (hf : keyFit P kt k = true) : (∃ d, P.underlying kt = some d ∧ MapKept.IsKey d (kV k)) ∨ ∃ fs j a l b, k = .agg [.int j a, .int l b] ∧ P.underlying kt = some (.struct fs) ∧ pairT P kt fs.toList j l = true := by
 rcases keyFit_cases hf with ⟨j, n, rfl, h⟩ | ⟨s, rfl, h⟩ | ⟨b, rfl, h⟩ | h
 ·exact .inl ⟨_, h, by simp [kV, MapKept.IsKey]⟩
 ·exact .inl ⟨_, h, by simp [kV, MapKept.IsKey]⟩
 ·exact .inl ⟨_, h, by simp [kV, MapKept.IsKey]⟩
 ·exact .inr h

theorem keyEq_iff {kt : TypeId} {a b : D} (ha : keyFit P kt a = true) (hb : keyFit P kt b = true) : keyEq a b = true ↔ kV a = kV b := by
 rcases keyFit_cases ha with ⟨j, n, rfl, h⟩ | ⟨s, rfl, h⟩ | ⟨q, rfl, h⟩ | ⟨fs, j, x, l, y, rfl, h, hp⟩ <;>
 rcases keyFit_cases hb with ⟨j', n', rfl, h'⟩ | ⟨s', rfl, h'⟩ | ⟨q', rfl, h'⟩ | ⟨fs', j', x', l', y', rfl, h', hp'⟩ <;> rw [h] at h' <;> simp at h'
 ·subst h'; simp [keyEq, kV]
 ·simp [keyEq, kV, bytes_toList]
 ·simp [keyEq, kV]
 ·subst h'
  obtain ⟨rfl, rfl⟩ := pair_kinds hp hp'
  simp [keyEq, kV]

theorem keyNe_kV {a b : D} (h : keyNe a b = true) : kV a ≠ kV b := by
 unfold keyNe at h
 split at h
 ·simp at h; simp [kV]; intro _; exact h.2
 ·simp [keyNe] at h; simp [kV]; intro _ h1 _ h2; exact h.2.elim (fun q => q h1) (fun q => q h2)
 ·simp at h; simp [kV]; intro h2; exact h (bytes_toList.2 h2)
 ·simp at h; simp [kV]; exact h
 ·cases h

theorem kV_inj {kt : TypeId} {a b : D} (ha : keyFit P kt a = true) (hb : keyFit P kt b = true) (e : kV a = kV b) : a = b := by
 rcases keyFit_cases ha with ⟨j, n, rfl, h⟩ | ⟨s, rfl, h⟩ | ⟨q, rfl, h⟩ | ⟨fs, j, x, l, y, rfl, h, hp⟩ <;>
 rcases keyFit_cases hb with ⟨j', n', rfl, h'⟩ | ⟨s', rfl, h'⟩ | ⟨q', rfl, h'⟩ | ⟨fs', j', x', l', y', rfl, h', hp'⟩ <;> simp [kV] at e
 ·obtain ⟨rfl, rfl⟩ := e; rfl
 ·subst e; rfl
 ·subst e; rfl
 ·obtain ⟨⟨rfl, rfl⟩, rfl, rfl⟩ := e; rfl

theorem rel_pair (R : Rx) (n : Nat) (j l : IntKind) (a b : Int) : Rel R n (.agg #[.int j a, .int l b]) (.agg [.int j a, .int l b]) :=
 .agg n [.int j a, .int l b] _ rfl fun i v d p q => by
  match i with
  | 0 => simp at p q; subst p; subst q; exact .int _ _ _
  | 1 => simp at p q; subst p; subst q; exact .int _ _ _
  | _ + 2 => simp at p

theorem run_checkKey {kt : TypeId} {k : D} (hk : keyFit P kt k = true) (m : Bool) (w : World) : (Instr.checkKey m 10000 kt (kV k)).run P w = .ok () w := by
 rcases key_desc hk with ⟨d, hd, h⟩ | ⟨fs, j, a, l, b, rfl, hu, hp⟩
 ·exact MapKept.run_checkKey hd h m 9999
 ·obtain ⟨f, g, e, h1, h2, h3, h4, h5, ⟨h6, n1, h7⟩, ⟨h8, n2, h9⟩⟩ := pairT_inv hp
  obtain ⟨fl⟩ := fs
  simp only at e
  subst e
  have hx : RelL (⟨w, fun _ => False, fun _ => 0, fun _ => undef, fun _ => none⟩ : Rx) 0 [.int j a, .int l b] [.int j a, .int l b] := ⟨rfl, fun i v d p q => by
   match i with
   | 0 => simp at p q; subst p; subst q; exact .int _ _ _
   | 1 => simp at p q; subst p; subst q; exact .int _ _ _
   | _ + 2 => simp at p⟩
  obtain ⟨v1, p1, r1⟩ := run_partD (P := P) hx (t := f.type) (off := f.offset) (d := .int j a) (by rw [partD_int h6 h7, h3]; rfl) w
  obtain ⟨v2, p2, r2⟩ := run_partD (P := P) hx (t := g.type) (off := g.offset) (d := .int l b) (by rw [partD_int h8 h9, h4]; rfl) w
  cases r1; cases r2
  have c1 := MapKept.run_checkKey (w := w) h6 (k := .int j a) rfl m 9998
  have c2 := MapKept.run_checkKey (w := w) h8 (k := .int l b) rfl m 9998
  rw [show (10000 : Nat) = 9999 + 1 from rfl]
  unfold Instr.checkKey
  simp [kV, run_underlying hu, Result.andThen, h1, h2, p1, p2, c1, c2]

theorem pair_asking {kt : TypeId} {k : D} (hk : keyFit P kt k = true) {fs : Array Field} {j l : IntKind} {a b : Int} (he : k = .agg [.int j a, .int l b]) (hu : P.underlying kt = some (.struct fs)) (hp : pairT P kt fs.toList j l = true) (w : World) :
  ∀ (es : List MapEntry) (i : Nat), (∀ e ∈ es, ∃ k', keyFit P kt k' = true ∧ e.key = kV k') →
  ((Instr.findAsking kt (kV k) es i).run P w = .ok none w ∧ ∀ e ∈ es, e.key ≠ kV k) ∨ ∃ q e, (Instr.findAsking kt (kV k) es i).run P w = .ok (some (i + q, e.val)) w ∧ es[q]? = some e ∧ e.key = kV k
 | [], i, _ => .inl ⟨by simp [Instr.findAsking], by simp⟩
 | e :: es, i, h => by
  obtain ⟨k', hk', e1⟩ := h e (by simp)
  have hk2 := hk'
  rcases keyFit_cases hk' with ⟨_, _, _, h'⟩ | ⟨_, _, h'⟩ | ⟨_, _, h'⟩ | ⟨fs', j', x', l', y', rfl, h', hp'⟩ <;> rw [hu] at h' <;> simp at h'
  subst h'
  obtain ⟨rfl, rfl⟩ := pair_kinds hp hp'
  have heq : (Op.equal kt (kV k) e.key).run P w = .ok (a == x' && b == y') w := by
   subst he
   rw [e1]
   exact run_eqT (R := ⟨w, fun _ => False, fun _ => 0, fun _ => undef, fun _ => none⟩) (n := 0) 10000 kt _ _ _ _ _ w (rel_pair _ _ _ _ _ _) (rel_pair _ _ _ _ _ _) (pair_eqT hu hp a b x' y')
  have hkk := keyEq_iff hk hk2
  have hke : keyEq k (.agg [.int j x', .int l y']) = (a == x' && b == y') := by subst he; simp [keyEq]
  rw [hke] at hkk
  cases hr : (a == x' && b == y') with
  | true =>
   right
   refine ⟨0, e, ?_, rfl, by rw [e1]; exact (hkk.1 hr).symm⟩
   rw [hr] at heq
   simp [Instr.findAsking, heq, Result.andThen]
  | false =>
   have hne : e.key ≠ kV k := fun q => by rw [e1] at q; rw [hkk.2 q.symm] at hr; cases hr
   rw [hr] at heq
   rcases pair_asking hk he hu hp w es (i + 1) (fun x hx => h x (by simp [hx])) with ⟨g1, g2⟩ | ⟨q, e', g1, g2, g3⟩
   ·left
    refine ⟨by simp [Instr.findAsking, heq, Result.andThen, g1], fun x hx => ?_⟩
    rcases List.mem_cons.1 hx with rfl | hx
    ·exact hne
    ·exact g2 x hx
   ·right
    exact ⟨q + 1, e', by simp [Instr.findAsking, heq, Result.andThen, g1]; omega, by simpa using g2, g3⟩

theorem key_find {kt : TypeId} {k : D} (hk : keyFit P kt k = true) (es : List MapEntry) (w : World) (h : ∀ e ∈ es, ∃ k', keyFit P kt k' = true ∧ e.key = kV k') :
  ((Instr.findKey kt (kV k) es).run P w = .ok none w ∧ ∀ e ∈ es, e.key ≠ kV k) ∨ ∃ i e, (Instr.findKey kt (kV k) es).run P w = .ok (some (i, e.val)) w ∧ es[i]? = some e ∧ e.key = kV k := by
 rcases key_desc hk with ⟨d, hd, hkey⟩ | ⟨fs, j, a, l, b, he, hu, hp⟩
 ·have hik : ∀ e ∈ es, MapKept.IsKey d e.key := fun e hm => by
   obtain ⟨k', hk', e1⟩ := h e hm
   rcases key_desc hk' with ⟨d', hd', h3⟩ | ⟨fs, j, a, l, b, rfl, hu, hp⟩
   ·rw [hd] at hd'; cases hd'
    rw [e1]; exact h3
   ·rw [hd] at hu; cases hu
    rcases keyFit_cases hk with ⟨j, n, rfl, h4⟩ | ⟨s, rfl, h4⟩ | ⟨b, rfl, h4⟩ | ⟨fs', j', x', l', y', rfl, h4, hp'⟩ <;> rw [hd] at h4 <;> simp at h4
    simp [kV, MapKept.IsKey] at hkey
  rcases MapKept.findNow_spec hkey es 0 hik with ⟨h1, h2⟩ | ⟨i, e, h1, h2, h3⟩
  ·exact .inl ⟨MapKept.run_findKey hd h1, h2⟩
  ·exact .inr ⟨i, e, by rw [MapKept.run_findKey hd h1, Nat.zero_add], h2, h3⟩
 ·cases es with
  | nil => exact .inl ⟨MapKept.run_findKey hu rfl, by simp⟩
  | cons e es =>
   have hn : Instr.findNow (.struct fs) (kV k) (e :: es) 0 = none := by simp [Instr.findNow, Instr.sameNow]
   have hrun : (Instr.findKey kt (kV k) (e :: es)).run P w = (Instr.findAsking kt (kV k) (e :: es)).run P w := by
    simp [Instr.findKey, run_underlying hu, Result.andThen, hn]
   rcases pair_asking hk he hu hp w (e :: es) 0 h with ⟨g1, g2⟩ | ⟨q, e', g1, g2, g3⟩
   ·exact .inl ⟨hrun.trans g1, g2⟩
   ·exact .inr ⟨q, e', by rw [hrun, g1, Nat.zero_add], g2, g3⟩

theorem keys_nodup : ∀ {ks : List D}, keysOk ks = true → (ks.map kV).Nodup
 | [], _ => List.nodup_nil
 | k :: r, h => by
  simp only [keysOk, Bool.and_eq_true] at h
  rw [List.map_cons, List.nodup_cons]
  refine ⟨fun hm => ?_, keys_nodup h.2⟩
  obtain ⟨k', hk', e⟩ := List.mem_map.1 hm
  exact keyNe_kV (List.all_eq_true.1 h.1.2 k' hk') e.symm

theorem findK_spec {kt : TypeId} {k : D} (hk : keyFit P kt k = true) : ∀ (kvs : List (D × D)) (i : Nat), (∀ p ∈ kvs, keyFit P kt p.1 = true) →
  (findK k kvs i = none ∧ ∀ p ∈ kvs, kV p.1 ≠ kV k) ∨ ∃ j p, findK k kvs i = some (i + j, p.2) ∧ kvs[j]? = some p ∧ kV p.1 = kV k
 | [], _, _ => .inl ⟨rfl, by simp⟩
 | (k', v) :: r, i, h => by
  have hf := h (k', v) (by simp)
  simp only [findK]
  by_cases he : keyEq k k' = true
  ·rw [if_pos he]
   exact .inr ⟨0, (k', v), rfl, rfl, ((keyEq_iff hk hf).1 he).symm⟩
  ·rw [if_neg he]
   have hne : kV k' ≠ kV k := fun e => he ((keyEq_iff hk hf).2 e.symm)
   rcases findK_spec hk r (i + 1) (fun p hp => h p (by simp [hp])) with ⟨h1, h2⟩ | ⟨j, p, h1, h2, h3⟩
   ·exact .inl ⟨h1, fun p hp => by
     rcases List.mem_cons.1 hp with rfl | hp
     ·exact hne
     ·exact h2 p hp⟩
   ·exact .inr ⟨j + 1, p, by rw [h1]; congr 2; omega, by simpa using h2, h3⟩

theorem find_sound {kt : TypeId} {kx : Value} {k : D} {R : Rx} {n : Nat} {es es' : List MapEntry} {kvs : List (D × D)} (hx : Rel R n kx k) (hk : keyFit P kt k = true) (hfit : (kvs.all fun p => keyFit P kt p.1) = true)
  (hp : List.Perm es' es) (hok : keysOk (kvs.map (·.1)) = true) (hkeys : RelL R 0 (es'.map (·.key)) (kvs.map (·.1))) (w : World) :
  (findK k kvs 0 = none ∧ (Instr.findKey kt kx es).run P w = .ok none w ∧ ∀ e ∈ es, e.key ≠ kx) ∨
  ∃ (i j : Nat) (e : MapEntry) (p : D × D), findK k kvs 0 = some (j, p.2) ∧ kvs[j]? = some p ∧ (Instr.findKey kt kx es).run P w = .ok (some (i, e.val)) w ∧ es[i]? = some e ∧ es'[j]? = some e ∧ e.key = kx ∧ p.1 = k := by
 have hkx := keyVal hx hk
 have hlen : es'.length = kvs.length := by simpa using hkeys.1
 have hkv : ∀ (j : Nat) e p, es'[j]? = some e → kvs[j]? = some p → e.key = kV p.1 := fun j e p he hp2 => by
  have hr := hkeys.2 j e.key p.1 (by simp [he]) (by simp [hp2])
  exact keyVal hr (List.all_eq_true.1 hfit p (List.mem_of_getElem? hp2))
 have hkm : es'.map (·.key) = (kvs.map (·.1)).map kV := by
  apply List.ext_getElem?
  intro j
  rcases Nat.lt_or_ge j es'.length with hj | hj
  ·have h2 : j < kvs.length := by omega
   simp [List.getElem?_eq_getElem hj, List.getElem?_eq_getElem h2, hkv j _ _ (List.getElem?_eq_getElem hj) (List.getElem?_eq_getElem h2)]
  ·rw [List.getElem?_eq_none (by simpa using hj), List.getElem?_eq_none (by simp; omega)]
 have hnd : (es.map (·.key)).Nodup := ((hp.map (·.key)).nodup_iff).1 (by rw [hkm]; exact keys_nodup hok)
 have hik : ∀ e ∈ es, ∃ k', keyFit P kt k' = true ∧ e.key = kV k' := fun e he => by
  have : e.key ∈ (kvs.map (·.1)).map kV := by rw [← hkm]; exact List.mem_map_of_mem (hp.mem_iff.2 he)
  obtain ⟨k', hk', e1⟩ := List.mem_map.1 this
  obtain ⟨p, hpm, rfl⟩ := List.mem_map.1 hk'
  exact ⟨p.1, List.all_eq_true.1 hfit p hpm, e1.symm⟩
 have hfn := key_find hk es w hik
 rw [← hkx] at hfn
 rcases findK_spec hk kvs 0 (fun p hp2 => List.all_eq_true.1 hfit p hp2) with ⟨h1, h2⟩ | ⟨j, p, h1, h2, h3⟩
 ·left
  have hno : ∀ e ∈ es, e.key ≠ kx := fun e he hek => by
   have : e.key ∈ (kvs.map (·.1)).map kV := by rw [← hkm]; exact List.mem_map_of_mem (hp.mem_iff.2 he)
   obtain ⟨k', hk', e1⟩ := List.mem_map.1 this
   obtain ⟨p, hpm, rfl⟩ := List.mem_map.1 hk'
   exact h2 p hpm (by rw [e1, hek, hkx])
  rcases hfn with ⟨h4, _⟩ | ⟨i, e, h4, h5, h6⟩
  ·exact ⟨h1, h4, hno⟩
  ·exact absurd h6 (hno e (List.mem_of_getElem? h5))
 ·right
  have hj : j < es'.length := by rw [hlen]; exact lt_of_getElem? h2
  have he' : es'[j]? = some es'[j] := List.getElem?_eq_getElem hj
  have hek : es'[j].key = kx := by rw [hkv j _ p he' h2, h3, hkx]
  have hpk : p.1 = k := kV_inj (List.all_eq_true.1 hfit p (List.mem_of_getElem? h2)) hk h3
  rcases hfn with ⟨_, h5⟩ | ⟨i, e, h4, h5, h6⟩
  ·exact absurd hek (h5 _ (hp.mem_iff.1 (List.mem_of_getElem? he')))
  ·have hee : e = es'[j] := by
    obtain ⟨q, hq⟩ := List.getElem?_of_mem (hp.mem_iff.1 (List.mem_of_getElem? he'))
    have hqi : q = i := by
     have a1 : (es.map (·.key))[q]? = some kx := by rw [List.getElem?_map, hq]; simp [hek]
     have a2 : (es.map (·.key))[i]? = some kx := by rw [List.getElem?_map, h5]; simp [h6]
     have l1 := lt_of_getElem? a1
     exact (List.getElem?_inj l1 hnd).1 (a1.trans a2.symm)
    subst hqi; rw [hq] at h5; exact (Option.some.inj h5).symm
   subst hee
   exact ⟨i, j, _, p, by rw [h1, Nat.zero_add], h2, h4, h5, he', hek, hpk⟩

theorem run_zeroV {t : TypeId} {d : D} (h : zeroV P t = some d) (w : World) : ∃ z, (zeroValue t).run P w = .ok z w ∧ ∀ R n, Rel R n z d := by
 unfold zeroV at h
 cases hi : P.info? t with
 | none => rw [hi] at h; simp at h
 | some i =>
  rw [hi] at h
  cases hz : i.zero with
  | none => simp [hz] at h
  | some z =>
   simp only [Option.bind_some, hz] at h
   refine ⟨z, by simp [zeroValue, run_typeInfo w hi, hz], fun R n => ?_⟩
   split at h
   ·rename_i cs he
    cases h; cases he
    obtain ⟨l⟩ := cs
    exact .agg _ l _ (by simp) fun i v d a b => by
     simp only [List.getElem?_map] at b
     rw [a] at b; simp at b; subst b; exact .vD _ _ _
   ·cases h
   ·rename_i v _ _ he; cases h; cases he; exact .vD _ _ _
   ·rename_i he; cases he

theorem Rel.tup2 {R : Rx} {n : Nat} {a b : Value} {x y : D} (h1 : Rel R n a x) (h2 : Rel R n b y) : Rel R n (.tuple #[a, b]) (.tup [x, y]) :=
 .tup n [a, b] _ rfl fun i v d p q => by
  match i with
  | 0 => simp at p q; subst p; subst q; exact h1
  | 1 => simp at p q; subst p; subst q; exact h2
  | _ + 2 => simp at p

theorem run_lookup_kvs {R : Rx} {n : Nat} {w : World} {t kt et : TypeId} {y d : D} {u : Value} {ok : Bool} {kvs : List (D × D)} {b : Nat} {es es' : List MapEntry} {clock : Nat} (hu : P.underlying t = some (.map kt et))
  (h1 : w.heap[b]? = some (.map es.toArray clock)) (hp : List.Perm es' es) (hok : keysOk (kvs.map (·.1)) = true) (h2 : RelL R 0 (es'.map (·.key)) (kvs.map (·.1))) (h3 : RelL R n (es'.map (·.val)) (kvs.map (·.2)))
  (hy : Rel R n u y) (hc : keyFit P kt y = true ∧ kvs.all (fun p => keyFit P kt p.1) = true) (h : lookR P et ok (findK y kvs 0) = some d) :
  ∃ r, (Instr.lookup t (.map (some b)) u ok).run P w = .ok r w ∧ Rel R n r d := by
 have hck : ∀ m, (Instr.checkKey m 10000 kt u).run P w = .ok () w := fun m => by rw [keyVal hy hc.1]; exact run_checkKey hc.1 m w
 have hgo := MapKept.run_getObj_map (P := P) (w := w) h1
 rcases find_sound hy hc.1 hc.2 hp hok h2 w with ⟨f1, f2, _⟩ | ⟨i, j, e, p, f1, f2, f3, f4, f5, f6, f7⟩
 ·rw [f1] at h
  simp only [lookR] at h
  cases hz : zeroV P et with
  | none => rw [hz] at h; simp at h
  | some z =>
   rw [hz] at h
   simp at h
   obtain ⟨zv, z1, z2⟩ := run_zeroV hz w
   refine ⟨if ok then .tuple #[zv, .bool false] else zv, ?_, ?_⟩
   ·simp [Instr.lookup, run_underlying hu, hgo, hck, f2, z1, Result.andThen]
   ·subst h
    cases ok with
    | true => exact Rel.tup2 (z2 _ _) (.bool _ _)
    | false => exact z2 _ _
 ·rw [f1] at h
  simp only [lookR, Option.some.injEq] at h
  have hrv := h3.2 j e.val p.2 (by simp [f5]) (by simp [f2])
  refine ⟨if ok then .tuple #[e.val, .bool true] else e.val, ?_, ?_⟩
  ·simp [Instr.lookup, run_underlying hu, hgo, hck, f3, Result.andThen]
  ·subst h
   cases ok with
   | true => exact Rel.tup2 hrv (.bool _ _)
   | false => exact hrv

theorem run_lookupD (hg : Good X k) {t : TypeId} {x y d : D} {ok : Bool} {v u : Value} (hx : Rel (k.R X) k.nid v x) (hy : Rel (k.R X) k.nid u y) (h : lookupD P k.h t x y ok = some d) :
  ∃ r, (Instr.lookup t v u ok).run P k.w = .ok r k.w ∧ Rel (k.R X) k.nid r d := by
 unfold lookupD at h
 split at h
 ·rename_i kt et hu
  split at h
  ·rename_i b
   split at h
   ·rename_i kvs hb
    split at h
    ·rename_i hc
     simp only [Bool.and_eq_true] at hc
     cases hx with
     | mp _ _ hlt =>
      obtain ⟨es, clock, es', h1, hp, hok, _, h2, h3⟩ := hg.ok b _ hb
      exact run_lookup_kvs hu h1 hp.perm hok h2 h3 hy hc h
    ·cases h
   ·cases h
  ·rename_i kvs
   split at h
   ·rename_i hc
    simp only [Bool.and_eq_true] at hc
    cases hx with
    | mpd _ b _ es es' c h2 h3 h4 h5 h6 h7 h8 h9 =>
     exact run_lookup_kvs hu h3 h4.perm h5 ⟨by simpa using h6, h7⟩ ⟨by simpa using h6, fun i v d a b => (h8 i v d a b).weak (Nat.zero_le _)⟩ hy hc h
   ·cases h
  ·split at h
   ·rename_i hc
    cases hx
    have hck : ∀ m, (Instr.checkKey m 10000 kt u).run P k.w = .ok () k.w := fun m => by rw [keyVal hy hc]; exact run_checkKey hc m k.w
    have hf : (Instr.findKey kt u []).run P k.w = .ok none k.w := by
     rcases key_find (P := P) hc [] k.w (by simp) with ⟨h1, _⟩ | ⟨i, e, _, h2, _⟩
     ·rw [keyVal hy hc]; exact h1
     ·simp at h2
    simp only [lookR] at h
    cases hz : zeroV P et with
    | none => rw [hz] at h; simp at h
    | some z =>
     rw [hz] at h
     simp at h
     obtain ⟨zv, z1, z2⟩ := run_zeroV hz k.w
     refine ⟨if ok then .tuple #[zv, .bool false] else zv, ?_, ?_⟩
     ·simp [Instr.lookup, run_underlying hu, hck, hf, z1, Result.andThen]
     ·subst h
      cases ok with
      | true => exact Rel.tup2 (z2 _ _) (.bool _ _)
      | false => exact z2 _ _
   ·cases h
  ·cases h
 ·cases h

theorem ok_bind_value {α : Type} (x : Sem α) (f : α → Next) (w w' : World) (r : α) (h : x.run P w = .ok r w') : (do pure (f (← x)) : Sem Next).run P w = .ok (f r) w' := by
 simp [h]

theorem run_maxL {R : Rx} {n : Nat} {kk : IntKind} {w : World} : ∀ (ds : List D) (vs : List Value) (a : Int) (d : D), RelL R n vs ds → maxL kk a ds = some d →
  ∃ v, (vs.foldlM Builtin.max2 (.int kk a)).run P w = .ok v w ∧ Rel R n v d
 | [], vs, a, d, hr, h => by
  obtain rfl : vs = [] := List.eq_nil_of_length_eq_zero hr.1
  simp [maxL] at h; subst h
  exact ⟨_, rfl, .int _ _ _⟩
 | x :: ds, [], a, d, hr, h => by simp [RelL] at hr
 | x :: ds, v :: vs, a, d, hr, h => by
  have hx := hr.2 0 v x rfl rfl
  have hr' : RelL R n vs ds := ⟨by have := hr.1; simpa using this, fun i v d a b => hr.2 (i + 1) v d (by simpa using a) (by simpa using b)⟩
  cases hx <;> simp only [maxL] at h <;> try cases h
  rename_i k2 b
  obtain ⟨u, h1, h2⟩ := run_maxL ds vs _ d hr' h
  refine ⟨u, ?_, h2⟩
  simp only [List.foldlM_cons, Builtin.max2, Sem.run_bind, Sem.run_pure, Result.andThen_ok]
  exact h1

theorem run_minL {R : Rx} {n : Nat} {kk : IntKind} {w : World} : ∀ (ds : List D) (vs : List Value) (a : Int) (d : D), RelL R n vs ds → minL kk a ds = some d →
  ∃ v, (vs.foldlM Builtin.min2 (.int kk a)).run P w = .ok v w ∧ Rel R n v d
 | [], vs, a, d, hr, h => by
  obtain rfl : vs = [] := List.eq_nil_of_length_eq_zero hr.1
  simp [minL] at h; subst h
  exact ⟨_, rfl, .int _ _ _⟩
 | x :: ds, [], a, d, hr, h => by simp [RelL] at hr
 | x :: ds, v :: vs, a, d, hr, h => by
  have hx := hr.2 0 v x rfl rfl
  have hr' : RelL R n vs ds := ⟨by have := hr.1; simpa using this, fun i v d a b => hr.2 (i + 1) v d (by simpa using a) (by simpa using b)⟩
  cases hx <;> simp only [minL] at h <;> try cases h
  rename_i k2 b
  obtain ⟨u, h1, h2⟩ := run_minL ds vs _ d hr' h
  refine ⟨u, ?_, h2⟩
  simp only [List.foldlM_cons, Builtin.min2, Sem.run_bind, Sem.run_pure, Result.andThen_ok]
  exact h1

theorem RelL.map {R : Rx} {n : Nat} {f : Operand → Value} {g : Operand → D} (h : ∀ x, Rel R n (f x) (g x)) (l : List Operand) : RelL R n (l.map f) (l.map g) :=
 ⟨by simp, fun i v d a b => by
  rw [List.getElem?_map] at a b
  cases hl : l[i]? with
  | none => simp [hl] at a
  | some x => simp [hl] at a b; subst a; subst b; exact h x⟩

theorem array_eq_list {α : Type} {a : Array α} {l : List α} (h : a.toList = l) : a = l.toArray := by subst h; rfl

theorem run_callQ (hg : Good X k) {a : Act} {c : Call} {ρ : Operand → D} (hρ : ∀ x, Rel (k.R X) k.nid (a.eval x) (ρ x)) {d : D} (h : callQ P c ρ k.h = some d) (ty : TypeId) :
  ∃ v, (do let d ← resolve a.eval c ty; invoke d.target d.args : Sem Next).run P k.w = .ok (.value v) k.w ∧ Rel (k.R X) k.nid v d := by
 obtain ⟨callee, args, argTypes⟩ := c
 unfold callQ at h
 dsimp only at h
 split at h
 ·split at h
  ·rename_i x t hx ht
   obtain rfl := array_eq_list hx
   obtain rfl := array_eq_list ht
   have hval : ∀ v, (Builtin.len_ #[t] ty #[a.eval x]).run P k.w = .ok v k.w → (do let d ← resolve a.eval ⟨.builtin .len, #[x], #[t]⟩ ty; invoke d.target d.args : Sem Next).run P k.w = .ok (.value v) k.w := fun v hv => by
    simp only [resolve, Sem.run_bind, Sem.run_pure, Result.andThen_ok, invoke, builtin]
    simp [hv]
   split at h
   ·rename_i e hu
    unfold lenD at h
    split at h
    ·rename_i es hx
     cases h
     have hr := hρ x
     rw [hx] at hr
     refine ⟨.int .i64 es.length, hval _ ?_, .int _ _ _⟩
     generalize a.eval x = v at hr
     cases hr with
     | sln => simp [Builtin.len_, run_underlying hu, goInt]
     | sle => simp [Builtin.len_, run_underlying hu, goInt]
     | sl => simp [Builtin.len_, run_underlying hu, goInt]
    ·rename_i hx
     cases h
     have hr := hρ x
     rw [hx] at hr
     refine ⟨.int .i64 0, hval _ ?_, .int _ _ _⟩
     generalize a.eval x = v at hr
     cases hr
     simp [Builtin.len_, run_underlying hu, goInt]
    ·rename_i b n hx
     split at h
     ·rename_i ty' sz es hb
      split at h
      ·rename_i hn
       cases h
       have hr := hρ x
       rw [hx] at hr
       refine ⟨.int .i64 n, hval _ ?_, .int _ _ _⟩
       generalize a.eval x = v at hr
       cases hr with
       | osl _ _ _ _ hb' hv =>
        have hv2 := (hv es.length (by simp [Cx.R, hb, lnOf])).2 hn
        subst hv2
        rcases (hg.ok b _ hb).2 with ⟨h1, h2⟩ | ⟨bb, bo, cap, vs, h1, _⟩
        ·have : (k.R X).sv b = .slice none 0 0 := h1
         rw [this]; subst h2; subst hn; simp [Builtin.len_, run_underlying hu, goInt]
        ·have : (k.R X).sv b = .slice (some ⟨bb, bo, none⟩) es.length cap := h1
         rw [this]; subst hn; simp [Builtin.len_, run_underlying hu, goInt]
      ·cases h
     ·cases h
    ·rename_i b o l sz hx
     cases h
     have hr := hρ x
     rw [hx] at hr
     refine ⟨.int .i64 l, hval _ ?_, .int _ _ _⟩
     generalize a.eval x = v at hr
     cases hr
     simp [Builtin.len_, run_underlying hu, goInt]
    ·cases h
   ·rename_i hu
    split at h
    ·rename_i s hx
     cases h
     have hr := hρ x
     rw [hx] at hr
     refine ⟨.int .i64 s.size, hval _ ?_, .int _ _ _⟩
     generalize a.eval x = v at hr
     cases hr
     simp [Builtin.len_, run_underlying hu, goInt]
    ·cases h
   ·rename_i n e hu
    cases h
    exact ⟨.int .i64 n, hval _ (by simp [Builtin.len_, run_underlying hu, goInt]), .int _ _ _⟩
   ·rename_i kt et hu
    split at h
    ·rename_i b hx
     split at h
     ·rename_i kvs hb
      cases h
      have hr := hρ x
      rw [hx] at hr
      refine ⟨.int .i64 kvs.length, hval _ ?_, .int _ _ _⟩
      generalize a.eval x = v at hr
      cases hr with
      | mp _ _ hlt =>
       obtain ⟨es, clock, es', h1, hp, hok, _, h2, h3⟩ := hg.ok b _ hb
       have hl : es.length = kvs.length := by rw [← hp.perm.length_eq]; simpa using h2.1
       simp [Builtin.len_, run_underlying hu, goInt, Cx.R, MapKept.run_getObj_map (P := P) (w := k.w) h1, hl]
     ·cases h
    ·rename_i kvs hx
     cases h
     have hr := hρ x
     rw [hx] at hr
     refine ⟨.int .i64 kvs.length, hval _ ?_, .int _ _ _⟩
     generalize a.eval x = v at hr
     cases hr with
     | mpd _ b _ es es' c h2 h3 h4 h5 h6 h7 h8 h9 =>
      have h3' : k.w.heap[b]? = _ := h3
      have hl : es.length = kvs.length := by rw [← h4.perm.length_eq]; exact h6
      simp [Builtin.len_, run_underlying hu, goInt, MapKept.run_getObj_map (P := P) (w := k.w) h3', hl]
    ·rename_i hx
     cases h
     have hr := hρ x
     rw [hx] at hr
     refine ⟨.int .i64 0, hval _ ?_, .int _ _ _⟩
     generalize a.eval x = v at hr
     cases hr
     simp [Builtin.len_, run_underlying hu, goInt]
    ·cases h
   ·cases h
  ·cases h
 ·split at h
  ·rename_i x r hx
   obtain rfl := array_eq_list hx
   split at h
   ·rename_i kk n hx
    have hr := hρ x
    rw [hx] at hr
    obtain ⟨v, h1, h2⟩ := run_maxL (P := P) (w := k.w) _ _ n d (RelL.map hρ r) h
    refine ⟨v, ?_, h2⟩
    cases hq : a.eval x with
    | int k2 n2 =>
     rw [hq] at hr; cases hr
     simp only [resolve, Sem.run_bind, Sem.run_pure, Result.andThen_ok, invoke, builtin, Builtin.max_, List.map_toArray, List.map_cons, hq]
     simp [h1]
    | _ => rw [hq] at hr; cases hr
   ·cases h
  ·cases h
 ·split at h
  ·rename_i x r hx
   obtain rfl := array_eq_list hx
   split at h
   ·rename_i kk n hx
    have hr := hρ x
    rw [hx] at hr
    obtain ⟨v, h1, h2⟩ := run_minL (P := P) (w := k.w) _ _ n d (RelL.map hρ r) h
    refine ⟨v, ?_, h2⟩
    cases hq : a.eval x with
    | int k2 n2 =>
     rw [hq] at hr; cases hr
     simp only [resolve, Sem.run_bind, Sem.run_pure, Result.andThen_ok, invoke, builtin, Builtin.min_, List.map_toArray, List.map_cons, hq]
     simp [h1]
    | _ => rw [hq] at hr; cases hr
   ·cases h
  ·cases h
 ·cases h

theorem opQ_sound (hg : Good X k) {a : Act} {o : Oper} {ρ : Operand → D} (hρ : ∀ x, Rel (k.R X) k.nid (a.eval x) (ρ x)) {d : D} (h : opQ P o.op ρ k.h = some d) :
  ∃ v, (execOp a.eval o).run P k.w = .ok (.value v) k.w ∧ Rel (k.R X) k.nid v d := by
 obtain ⟨dst, op, ty, pos, after, guard⟩ := o
 cases op <;> simp only [opQ] at h <;> try cases h
 case move x => exact ⟨_, rfl, hρ x⟩
 case assign x => exact ⟨_, rfl, hρ x⟩
 case pick c x y =>
  split at h
  ·rename_i t hc
   cases h
   have hr := hρ c
   rw [hc] at hr
   refine ⟨if t then a.eval x else a.eval y, ?_, ?_⟩
   ·cases hq : a.eval c with
    | bool b =>
     rw [hq] at hr; cases hr
     simp only [execOp, hq, asBool, Sem.run_bind, Sem.run_pure, Result.andThen_ok]
    | _ => rw [hq] at hr; cases hr
   ·cases t
    ·exact hρ y
    ·exact hρ x
  ·cases h
 case nilCheck x =>
  have hr := hρ x
  split at h
  ·rename_i hx; cases h; rw [hx] at hr
   generalize hv : a.eval x = v at hr
   cases hr with
   | ptr _ _ _ hl => exact ⟨_, by simp only [execOp, hv]; rfl, .ptr _ _ _ hl⟩
  ·rename_i hx; cases h; rw [hx] at hr
   generalize hv : a.eval x = v at hr
   cases hr with
   | ref _ b off _ _ vs h1 h2 h3 h4 => exact ⟨_, by simp only [execOp, hv]; rfl, .ref _ b off _ _ vs h1 h2 h3 h4⟩
  ·rename_i hx; cases h; rw [hx] at hr
   generalize hv : a.eval x = v at hr
   cases hr with
   | refm _ b off _ vv h1 h2 h3 => exact ⟨_, by simp only [execOp, hv]; rfl, .refm _ b off _ vv h1 h2 h3⟩
  ·rename_i hx; cases h; rw [hx] at hr
   generalize hv : a.eval x = v at hr
   cases hr with
   | fn _ _ va vc _ _ h1 h2 h3 h4 => exact ⟨_, by simp only [execOp, hv]; rfl, .fn _ _ va vc _ _ h1 h2 h3 h4⟩
  ·rename_i hx; cases h; rw [hx] at hr
   generalize hv : a.eval x = v at hr
   cases hr with
   | fn _ _ va vc _ _ h1 h2 h3 h4 => exact ⟨_, by simp only [execOp, hv]; rfl, .fn _ _ va vc _ _ h1 h2 h3 h4⟩
  ·cases h
 case binOp op t x y yt =>
  obtain ⟨v, h1, h2⟩ := run_binD (P := P) (hρ x) (hρ y) h x y k.w
  exact ⟨v, by simp only [execOp]; exact ok_bind_value _ _ _ _ _ h1, h2⟩
 case unOp op t x =>
  have hr := hρ x
  cases op <;> simp only [opQ] at h <;> try cases h
  ·split at h
   ·rename_i kk n hx; cases h; rw [hx] at hr
    generalize hv : a.eval x = v at hr
    cases hr
    exact ⟨_, by simp only [execOp, hv, Op.unary, Op.intArith]; rfl, .int _ _ _⟩
   ·cases h
  ·split at h
   ·rename_i b hx; cases h; rw [hx] at hr
    generalize hv : a.eval x = v at hr
    cases hr
    exact ⟨_, by simp only [execOp, hv, Op.unary]; rfl, .bool _ _⟩
   ·cases h
 case convert s dd x =>
  have hr := hρ x
  split at h
  ·rename_i u kk q n hs hd hx; cases h; rw [hx] at hr
   generalize hv : a.eval x = v at hr
   cases hr
   refine ⟨.int kk (kk.wrap n), ?_, .int _ _ _⟩
   simp only [execOp, hv]
   refine ok_bind_value _ _ _ _ _ ?_
   simp [convert, run_underlying hs, run_underlying hd, Conv.intToInt]
  ·cases h
 case extract x i =>
  have hr := hρ x
  split at h
  ·rename_i vs hx; rw [hx] at hr
   generalize hv : a.eval x = v at hr
   obtain ⟨us, rfl, hl⟩ := hr.tup_inv
   obtain ⟨u, hu, hru⟩ := hl.get h
   refine ⟨u, ?_, hru⟩
   simp only [execOp, hv]
   refine ok_bind_value _ _ _ _ _ ?_
   simp [Instr.extract, hu]
  ·cases h
 case makeFunc fn f c =>
  have h1 := RelL.map hρ f.toList
  have h2 := RelL.map hρ c.toList
  refine ⟨.func fn (f.map a.eval) (c.map a.eval), rfl, ?_⟩
  have e1 : f.map a.eval = (f.toList.map a.eval).toArray := by apply Array.ext'; simp
  have e2 : c.map a.eval = (c.toList.map a.eval).toArray := by apply Array.ext'; simp
  rw [e1, e2]
  exact .fn _ _ _ _ _ _ h1.1 h2.1 h1.2 h2.2
 case makeInterface t x =>
  split at h
  ·cases h
  ·rename_i u hni hu; cases h
   refine ⟨.iface t (a.eval x), ?_, .ifc _ _ _ _ (hρ x)⟩
   simp only [execOp]
   refine ok_bind_value _ _ _ _ _ ?_
   simp only [Instr.makeInterface, Sem.run_bind, run_underlying hu, Result.andThen_ok]
   cases u <;> first | rfl | (exact absurd rfl (hni _))
  ·cases h
 case fieldAddr t x f =>
  split at h
  ·rename_i oo ho
   unfold fieldOff at ho
   split at ho
   ·rename_i fd hf
    split at ho
    ·rename_i n hn
     split at ho
     ·cases ho
     ·rename_i hn0
      cases ho
      obtain ⟨r, h1, h2⟩ := run_fieldAddr hg hf hn hn0 (hρ x) h
      exact ⟨r, by simp only [execOp]; exact ok_bind_value _ _ _ _ _ h1, h2⟩
    ·cases ho
   ·cases ho
  ·cases h
 case field t x f =>
  split at h
  ·rename_i ft cs tt oo hf hx
   have hr := hρ x
   rw [hx] at hr
   unfold fieldTy at hf
   split at hf
   ·rename_i fd hfd
    cases hf
    obtain ⟨r, h1, h2⟩ := run_field (P := P) (w := k.w) hfd hr h
    exact ⟨r, by simp only [execOp]; exact ok_bind_value _ _ _ _ _ h1, h2⟩
   ·cases hf
  ·cases h
 case index t x i =>
  obtain ⟨r, h1, h2⟩ := run_indexD (P := P) (w := k.w) (hρ x) (hρ i) h
  exact ⟨r, by simp only [execOp]; exact ok_bind_value _ _ _ _ _ h1, h2⟩
 case indexAddr t x i =>
  obtain ⟨r, h1, h2⟩ := run_indexAddrD hg (hρ x) (hρ i) h
  exact ⟨r, by simp only [execOp]; exact ok_bind_value _ _ _ _ _ h1, h2⟩
 case load t x =>
  obtain ⟨r, h1, h2⟩ := run_loadAtD hg (hρ x) h
  exact ⟨r, by simp only [execOp]; exact ok_bind_value _ _ _ _ _ h1, h2⟩
 case slice t x lo hi mx =>
  cases mx with
  | some m => simp [opQ] at h
  | none =>
   simp only [opQ] at h
   have ho : ∀ q : Option Operand, (q.map ρ = none ∧ q.map a.eval = none) ∨ ∃ x v, q.map ρ = some x ∧ q.map a.eval = some v ∧ Rel (k.R X) k.nid v x := fun q => by
    cases q with
    | none => exact .inl ⟨rfl, rfl⟩
    | some q => exact .inr ⟨_, _, rfl, rfl, hρ q⟩
   obtain ⟨r, h1, h2⟩ := run_sliceD (P := P) (w := k.w) (hρ x) (ho lo) (ho hi) h
   exact ⟨r, by simp only [execOp]; exact ok_bind_value _ _ _ _ _ h1, h2⟩
 case lookup t x i ok =>
  obtain ⟨r, h1, h2⟩ := run_lookupD hg (hρ x) (hρ i) h
  exact ⟨r, by simp only [execOp]; exact ok_bind_value _ _ _ _ _ h1, h2⟩
 case call c =>
  obtain ⟨v, h1, h2⟩ := run_callQ hg hρ h ty
  exact ⟨v, by simp only [execOp]; exact h1, h2⟩
end
end Go.Sx

/- Sx, part D2: stores into maps of the function's own. Own work. -/
namespace Go.Sx

theorem RelL.append {R : Rx} {n : Nat} {vs us : List Value} {ds es : List D} (h : RelL R n vs ds) (h' : RelL R n us es) : RelL R n (vs ++ us) (ds ++ es) := by
 refine ⟨by simp [h.1, h'.1], fun i v d a b => ?_⟩
 rcases Nat.lt_or_ge i vs.length with hi | hi
 ·rw [List.getElem?_append_left hi] at a
  rw [List.getElem?_append_left (by rw [← h.1]; exact hi)] at b
  exact h.2 i v d a b
 ·rw [List.getElem?_append_right hi] at a
  rw [List.getElem?_append_right (by rw [← h.1]; exact hi), ← h.1] at b
  exact h'.2 _ v d a b

theorem perm_pull {α : Type} : ∀ {l : List α} {j : Nat} {x : α}, l[j]? = some x → List.Perm l (x :: l.eraseIdx j)
 | [], j, x, h => by simp at h
 | a :: r, 0, x, h => by simp at h; subst h; exact .refl _
 | a :: r, j + 1, x, h => by
  simp at h
  rw [List.eraseIdx_cons_succ]
  exact ((perm_pull h).cons a).trans (List.Perm.swap _ _ _)

theorem perm_set {α : Type} : ∀ {l : List α} {j : Nat} {x y : α}, l[j]? = some x → List.Perm (l.set j y) (y :: l.eraseIdx j)
 | [], j, x, y, h => by simp at h
 | a :: r, 0, x, y, h => by simp
 | a :: r, j + 1, x, y, h => by
  simp at h
  rw [List.eraseIdx_cons_succ, List.set_cons_succ]
  exact ((perm_set h).cons a).trans (List.Perm.swap _ _ _)

def mapUpdD (P : Program) (h : H) (nid : Nat) (t : TypeId) (m k v : D) : Option (D × H × Nat) :=
 match P.underlying t, m with
 | some (.map kt _), .mp b =>
  match hget h b with
  | some (.map kvs) =>
   if (keyFit P kt k && kvs.all (fun p => keyFit P kt p.1)) && v.nm then
    match findK k kvs 0 with
    | some (j, _) => some (.any, hset h b (.map (kvs.set j (k, v))), nid)
    | none => some (.any, hset h b (.map (kvs ++ [(k, v)])), nid)
   else none
  | _ => none
 | _, _ => none

theorem keysOk_snoc : ∀ {ks : List D} {k : D}, keysOk ks = true → keyOne k = true → (∀ k' ∈ ks, keyNe k' k = true) → keysOk (ks ++ [k]) = true
 | [], k, _, h2, _ => by simp [keysOk, h2]
 | x :: r, k, h1, h2, h3 => by
  simp only [keysOk, Bool.and_eq_true] at h1
  simp only [List.cons_append, keysOk, Bool.and_eq_true, List.all_append]
  exact ⟨⟨h1.1.1, h1.1.2, by simp [h3 x (by simp)]⟩, keysOk_snoc h1.2 h2 fun k' hk' => h3 k' (by simp [hk'])⟩

theorem keyNe_of {P : Program} {kt : TypeId} {a b : D} (ha : keyFit P kt a = true) (hb : keyFit P kt b = true) (h : kV a ≠ kV b) : keyNe a b = true := by
 rcases keyFit_cases ha with ⟨j, n, rfl, h1⟩ | ⟨s, rfl, h1⟩ | ⟨q, rfl, h1⟩ | ⟨fs, j, x, l, y, rfl, h1, hp⟩ <;>
 rcases keyFit_cases hb with ⟨j', n', rfl, h'⟩ | ⟨s', rfl, h'⟩ | ⟨q', rfl, h'⟩ | ⟨fs', j', x', l', y', rfl, h', hp'⟩ <;> rw [h1] at h' <;> simp at h'
 ·subst h'; simpa [keyNe, kV] using h
 ·simpa [keyNe, kV, bytes_toList] using h
 ·simpa [keyNe, kV] using h
 ·subst h'
  obtain ⟨rfl, rfl⟩ := pair_kinds hp hp'
  have h2 : x = x' → ¬ y = y' := by simpa [kV] using h
  simp only [keyNe, beq_self_eq_true, Bool.and_self, Bool.true_and, Bool.not_eq_true', Bool.and_eq_false_iff, beq_eq_false_iff_ne]
  exact (Decidable.em (x = x')).elim (fun e => .inr (h2 e)) .inl

theorem keyFit_one {P : Program} {kt : TypeId} {a : D} (ha : keyFit P kt a = true) : keyOne a = true := by
 rcases keyFit_cases ha with ⟨j, n, rfl, h1⟩ | ⟨s, rfl, h1⟩ | ⟨q, rfl, h1⟩ | ⟨fs, j, x, l, y, rfl, h1, hp⟩ <;> rfl

theorem kV_rel {R : Rx} {n : Nat} : ∀ {a : D}, keyOne a = true → Rel R n (kV a) a
 | .int _ _, _ => .int _ _ _
 | .str _, _ => .str _ _
 | .bool _, _ => .bool _ _
 | .agg [.int _ _, .int _ _], _ => rel_pair _ _ _ _ _ _

theorem sameBits_kV {P : Program} {kt : TypeId} {a : D} (ha : keyFit P kt a = true) (n : Nat) : Instr.sameBits (n + 1) (kV a) (kV a) = true := by
 rcases keyFit_cases ha with ⟨j, n, rfl, h1⟩ | ⟨s, rfl, h1⟩ | ⟨q, rfl, h1⟩ | ⟨fs, j, x, l, y, rfl, h1, hp⟩
 ·simp [kV, Instr.sameBits]
 ·simp only [kV, Instr.sameBits]
  exact (MapKept.bytes_beq s s).2 rfl
 ·simp [kV, Instr.sameBits]
 ·simp [kV, Instr.sameBits]

theorem RelL.set {R : Rx} {n : Nat} {vs : List Value} {ds : List D} (h : RelL R n vs ds) {j : Nat} {v : Value} {d : D} (hr : Rel R n v d) : RelL R n (vs.set j v) (ds.set j d) :=
 ⟨by simp [h.1], fun i v' d' a b => by
  rw [List.getElem?_set] at a b
  by_cases hij : j = i
  ·subst hij
   simp only [if_true] at a b
   split at a
   ·split at b
    ·cases a; cases b; exact hr
    ·cases b
   ·cases a
  ·rw [if_neg hij] at a b; exact h.2 i v' d' a b⟩

theorem RelL.snoc {R : Rx} {n : Nat} {vs : List Value} {ds : List D} (h : RelL R n vs ds) {v : Value} {d : D} (hr : Rel R n v d) : RelL R n (vs ++ [v]) (ds ++ [d]) :=
 RelL.append h ⟨rfl, fun i v' d' a b => by
  match i with
  | 0 => simp at a b; subst a; subst b; exact hr
  | _ + 1 => simp at a⟩

theorem run_mapUpdD {P : Program} {X : Nat → Prop} {k : Cx} (hg : Good X k) {t : TypeId} {m y z d : D} {vm vk vv : Value} {h' : H} {nid' : Nat} (hm : Rel (k.R X) k.nid vm m) (hy : Rel (k.R X) k.nid vk y) (hz : Rel (k.R X) k.nid vv z)
  (h : mapUpdD P k.h k.nid t m y z = some (d, h', nid')) :
  ∃ k', (Instr.mapUpdate t vm vk vv).run P k.w = .ok () k'.w ∧ d = .any ∧ k'.h = h' ∧ k'.nid = nid' ∧ Good X k' ∧ Le k k' := by
 unfold mapUpdD at h
 split at h
 ·rename_i kt et b hu
  split at h
  ·rename_i kvs hb
   split at h
   ·rename_i hc
    rw [Bool.and_eq_true] at hc
    obtain ⟨hc, hvn⟩ := hc
    simp only [Bool.and_eq_true] at hc
    cases hm with
    | mp _ _ hlt =>
     obtain ⟨es, clock, es', h1, hp, hok, hnm, h2, h3⟩ := hg.ok b _ hb
     have hkv := keyVal hy hc.1
     have hck : ∀ m, (Instr.checkKey m 10000 kt vk).run P k.w = .ok () k.w := fun m => by rw [hkv]; exact run_checkKey hc.1 m k.w
     have hgo := MapKept.run_getObj_map (P := P) (w := k.w) h1
     have hown : k.own b = some (k.β b) := by rw [own_of_hget hb]; rfl
     have hsize : k.β b < k.w.heap.size := (hg.lt b _ hown).1
     have hget : ∀ o, (k.w.heap.setIfInBounds (k.β b) o)[k.β b]? = some o := fun o => by simp [hsize]
     have hupd : ∀ (kvs' : List (D × D)) (o : Obj), (∀ k' : Cx, Le k k' → k'.β b = k.β b → k'.nid = k.nid → k'.w.heap[k.β b]? = some o → BlkOk X k' b (.map kvs')) →
       Good X (k.upd b (.map kvs') { k.w with heap := k.w.heap.setIfInBounds (k.β b) o } (k.sv b)) ∧ Le k (k.upd b (.map kvs') { k.w with heap := k.w.heap.setIfInBounds (k.β b) o } (k.sv b)) := fun kvs' o hok' =>
      hg.upd hb rfl rfl rfl (by simp) (fun c hcs hne => by
       have : k.β b ≠ c := fun e => hne (by rw [hown, e])
       simp [this]) (fun c hcs => .inl (by
       rw [own_of_hget (blk := some (.map kvs')) (by simp [Cx.upd, hget_hset])] at hcs
       rw [hown]; simpa [ownOf, Cx.upd] using hcs)) (fun m' hm' => by simp [lnOf] at hm') (fun hle => hok' _ hle rfl rfl (hget o))
     rcases find_sound hy hc.1 hc.2 hp.perm hok h2 k.w with ⟨f1, f2, f3⟩ | ⟨i, j, e, p, f1, f2, f3, f4, f5, f6, f7⟩
     ·rw [f1] at h
      simp only [Option.some.injEq, Prod.mk.injEq] at h
      obtain ⟨rfl, rfl, rfl⟩ := h
      have hu2 := hupd (kvs ++ [(y, z)]) (.map ((List.toArray es).push { key := vk, val := vv, born := clock }) (clock + 1)) (fun k' hle hβ hnid hob => by
       refine ⟨es ++ [{ key := vk, val := vv, born := clock }], clock + 1, es' ++ [{ key := vk, val := vv, born := clock }], by rw [hβ, hob]; simp, ⟨hp.perm.append_right _, ?_, ?_⟩, ?_, ?_, ?_, ?_⟩
       ·intro x hx
        rcases List.mem_append.1 hx with hx | hx
        ·exact Nat.lt_succ_of_lt (hp.born x hx)
        ·simp at hx; subst hx; exact Nat.lt_succ_self _
       ·rw [List.map_append]
        refine List.nodup_append.2 ⟨hp.nodup, by simp, ?_⟩
        intro a ha b hb
        simp at hb; subst hb
        obtain ⟨x, hx, rfl⟩ := List.mem_map.1 ha
        exact Nat.ne_of_lt (hp.born x hx)
       ·rw [List.map_append]
        refine keysOk_snoc hok (keyFit_one hc.1) fun k2 hk2 => ?_
        obtain ⟨q, hq, rfl⟩ := List.mem_map.1 hk2
        refine keyNe_of (List.all_eq_true.1 hc.2 q hq) hc.1 fun e => ?_
        obtain ⟨i, hi⟩ := List.getElem?_of_mem hq
        have hl : es'.length = kvs.length := by simpa using h2.1
        have hi2 : i < es'.length := by rw [hl]; exact lt_of_getElem? hi
        have hr := h2.2 i es'[i].key q.1 (by simp [List.getElem?_eq_getElem hi2]) (by simp [hi])
        have := keyVal hr (List.all_eq_true.1 hc.2 q hq)
        exact f3 es'[i] (hp.perm.mem_iff.1 (List.getElem_mem hi2)) (by rw [this, e, hkv])
       ·rw [List.map_append]
        refine D.nmL_iff.2 fun d hd => ?_
        rcases List.mem_append.1 hd with hd | hd
        ·exact D.nmL_iff.1 hnm d hd
        ·simp at hd; subst hd; exact hvn
       ·rw [List.map_append, List.map_append]
        refine (h2.le0 hle).snoc ?_
        show Rel _ 0 vk y
        rw [hkv]
        exact kV_rel (keyFit_one hc.1)
       ·rw [List.map_append, List.map_append]
        exact (h3.le hle).snoc (hz.le hle))
      refine ⟨k.upd b (.map (kvs ++ [(y, z)])) { k.w with heap := k.w.heap.setIfInBounds (k.β b) (.map ((List.toArray es).push { key := vk, val := vv, born := clock }) (clock + 1)) } (k.sv b), ?_, rfl, rfl, rfl, hu2.1, hu2.2⟩
      simp [Instr.mapUpdate, run_underlying hu, Cx.R, hgo, hck, f2, Result.andThen, MapKept.run_setObj_map _ h1, Cx.upd]
     ·rw [f1] at h
      simp only [Option.some.injEq, Prod.mk.injEq] at h
      obtain ⟨rfl, rfl, rfl⟩ := h
      have hthat : (Instr.keyThatStays e.key vk).run P k.w = .ok vk k.w := by
       have : Instr.sameBits 10000 e.key vk = true := by rw [f6, hkv]; exact sameBits_kV hc.1 9999
       simp [Instr.keyThatStays, this]
      have hu2 := hupd (kvs.set j (y, z)) (.map ((List.toArray es).modify i fun e => { e with key := vk, val := vv }) clock) (fun k' hle hβ hnid hob => by
       refine ⟨((List.toArray es).modify i fun e => { e with key := vk, val := vv }).toList, clock, es'.set j { e with key := vk, val := vv }, by rw [hβ, hob], ?_, ?_, ?_, ?_, ?_⟩
       ·have hbm : (es.set i { e with key := vk, val := vv }).map (·.born) = es.map (·.born) := by
         rw [List.map_set]
         apply List.ext_getElem?
         intro q
         rw [List.getElem?_set]
         by_cases hq : i = q
         ·subst hq
          rw [if_pos rfl, if_pos (by simpa using lt_of_getElem? f4), List.getElem?_map, f4]; simp
         ·simp [hq]
        have hm : ((List.toArray es).modify i fun e => { e with key := vk, val := vv }).toList = es.set i { e with key := vk, val := vv } := by
         apply List.ext_getElem?
         intro q
         rw [Array.getElem?_toList, Array.getElem?_modify, List.getElem?_set]
         by_cases hq : i = q
         ·subst hq
          rw [if_pos rfl, if_pos rfl, if_pos (lt_of_getElem? f4), List.getElem?_toArray, f4]; rfl
         ·simp [hq]
        rw [hm]
        have p1 : List.Perm es' (e :: es'.eraseIdx j) := perm_pull f5
        have p2 : List.Perm es (e :: es.eraseIdx i) := perm_pull f4
        have p3 : List.Perm (es'.eraseIdx j) (es.eraseIdx i) := (List.perm_cons e).1 ((p1.symm.trans hp.perm).trans p2)
        have q1 : List.Perm (es'.set j { e with key := vk, val := vv }) ({ e with key := vk, val := vv } :: es'.eraseIdx j) := perm_set f5
        have q2 : List.Perm (es.set i { e with key := vk, val := vv }) ({ e with key := vk, val := vv } :: es.eraseIdx i) := perm_set f4
        refine ⟨(q1.trans (p3.cons _)).trans q2.symm, fun x hx => ?_, by rw [hbm]; exact hp.nodup⟩
        rcases List.mem_or_eq_of_mem_set hx with hx | hx
        ·exact hp.born x hx
        ·subst hx; exact hp.born e (List.mem_of_getElem? f4)
       ·have : (kvs.set j (y, z)).map (·.1) = kvs.map (·.1) := by
         rw [List.map_set]
         apply List.ext_getElem?
         intro q
         rw [List.getElem?_set]
         by_cases hq : j = q
         ·subst hq
          rw [if_pos rfl, if_pos (by simpa using lt_of_getElem? f2), List.getElem?_map, f2]; simp [f7]
         ·simp [hq]
        rw [this]; exact hok
       ·rw [List.map_set]
        refine D.nmL_iff.2 fun d hd => ?_
        rcases List.mem_or_eq_of_mem_set hd with hd | hd
        ·exact D.nmL_iff.1 hnm d hd
        ·subst hd; exact hvn
       ·rw [List.map_set, List.map_set]
        refine (h2.le0 hle).set ?_
        show Rel _ 0 vk y
        rw [hkv]
        exact kV_rel (keyFit_one hc.1)
       ·rw [List.map_set, List.map_set]
        exact (h3.le hle).set (hz.le hle))
      refine ⟨k.upd b (.map (kvs.set j (y, z))) { k.w with heap := k.w.heap.setIfInBounds (k.β b) (.map ((List.toArray es).modify i fun e => { e with key := vk, val := vv }) clock) } (k.sv b), ?_, rfl, rfl, rfl, hu2.1, hu2.2⟩
      simp [Instr.mapUpdate, run_underlying hu, Cx.R, hgo, hck, f3, f4, hthat, Result.andThen, MapKept.run_setObj_map _ h1, Cx.upd]
   ·cases h
  ·cases h
 ·cases h


end Go.Sx

/- Sx, part E: operations that make blocks or store: their abstract meaning, and that the model's run agrees. Own work. -/
namespace Go.Sx

def oneD : D → Bool
 | .any | .agg _ | .tup _ => false
 | .raw v => v.oneCell'
 | .osl _ _ => false
 | .eptr _ _ _ _ _ => false
 | _ => true

theorem Rel.one {R : Rx} {n : Nat} {v : Value} {d : D} (h : Rel R n v d) (ho : oneD d = true) : v.oneCell' = true := by
 cases h <;> simp_all [oneD, Value.oneCell']

def curD (h : H) : D → Bool
 | .osl b n => match hget h b with
  | some (.arr _ _ es) => Nat.beq n es.length
  | _ => false
 | .eptr b l _ i _ => match hget h b with
  | some (.arr _ _ es) => Nat.beq l es.length && Nat.blt i es.length
  | _ => false
 | d => oneD d

section
variable {P : Program} {X : Nat → Prop} {k : Cx}

theorem Rel.cur (hg : Good X k) {v : Value} {d : D} (h : Rel (k.R X) k.nid v d) (ho : curD k.h d = true) : v.oneCell' = true := by
 unfold curD at ho
 split at ho
 ·rename_i b n
  split at ho
  ·rename_i ty sz es hb
   have ho : n = es.length := Nat.eq_of_beq_eq_true ho
   cases h with
   | osl _ _ _ _ hlt hv =>
    have hv2 := (hv es.length (by simp [Cx.R, hb, lnOf])).2 ho
    subst hv2
    rcases (hg.ok b _ hb).2 with ⟨h1, _⟩ | ⟨bb, bo, cap, vs, h1, _⟩
    ·have : (k.R X).sv b = .slice none 0 0 := h1
     rw [this]; rfl
    ·have : (k.R X).sv b = .slice (some ⟨bb, bo, none⟩) es.length cap := h1
     rw [this]; rfl
  ·cases ho
 ·rename_i b l sz i o
  split at ho
  ·rename_i ty sz' es hb
   simp only [Bool.and_eq_true] at ho
   have ho1 : l = es.length := Nat.eq_of_beq_eq_true ho.1
   have ho2 : i < es.length := by simpa [Nat.blt_eq] using ho.2
   cases h with
   | eptr _ _ _ _ _ _ _ hlt hv =>
    have hv2 := (hv es.length (by simp [Cx.R, hb, lnOf])).2 ho1
    rcases (hg.ok b _ hb).2 with ⟨_, he⟩ | ⟨bb, bo, cap, vs, h1, _⟩
    ·subst he; simp at ho2
    ·have hsv : (k.R X).sv b = .slice (some ⟨bb, bo, none⟩) es.length cap := h1
     rw [hsv] at hv2; subst hv2; rfl
  ·cases ho
 ·exact h.one ho

def cellsE (h : H) : D → Option (List D)
 | .agg cs => some cs
 | d => if curD h d then some [d] else none

theorem cellsE_sound (hg : Good X k) {v : Value} {d : D} {cs : List D} (h : Rel (k.R X) k.nid v d) (hc : cellsE k.h d = some cs) : ∃ vs, v.cells = List.toArray vs ∧ RelL (k.R X) k.nid vs cs := by
 unfold cellsE at hc
 split at hc
 ·cases hc
  obtain ⟨vs, rfl, hr⟩ := h.agg_inv
  exact ⟨vs, rfl, hr⟩
 ·split at hc
  ·rename_i ho
   cases hc
   have h1 := h.cur hg ho
   refine ⟨[v], ?_, rfl, fun i u e hu he => ?_⟩
   ·cases v <;> simp_all [Value.cells, Value.oneCell']
   ·cases i with
    | zero => simp at hu he; subst hu; subst he; exact h
    | succ i => simp at hu
  ·cases hc

def zeroD (P : Program) (t : TypeId) : Option (List D) :=
 match P.info? t with
 | some i => match i.zero with
  | some z => some (z.cells.toList.map vD)
  | none => none
 | none => none

theorem run_zeroD {t : TypeId} {cs : List D} (h : zeroD P t = some cs) (w : World) : ∃ z, (zeroValue t).run P w = .ok z w ∧ ∀ R n, RelL R n z.cells.toList cs := by
 unfold zeroD at h
 split at h
 ·rename_i i hi
  split at h
  ·rename_i z hz
   cases h
   refine ⟨z, by simp [zeroValue, run_typeInfo w hi, hz], fun R n => ⟨by simp, fun j v d a b => ?_⟩⟩
   rw [List.getElem?_map, a] at b
   simp at b; subst b; exact .vD _ _ _
  ·cases h
 ·cases h

def putL (cs : List D) (o : Nat) (ds : List D) : List D := cs.take o ++ ds ++ cs.drop (o + ds.length)

theorem RelL.take {R : Rx} {n : Nat} {vs : List Value} {ds : List D} (h : RelL R n vs ds) (m : Nat) : RelL R n (vs.take m) (ds.take m) := by
 simpa using h.sub 0 m

theorem RelL.drop {R : Rx} {n : Nat} {vs : List Value} {ds : List D} (h : RelL R n vs ds) (m : Nat) : RelL R n (vs.drop m) (ds.drop m) :=
 ⟨by simp [h.1], fun i v d a b => h.2 (m + i) v d (by rwa [List.getElem?_drop] at a) (by rwa [List.getElem?_drop] at b)⟩

theorem RelL.put {R : Rx} {n : Nat} {vs us : List Value} {ds es : List D} (h : RelL R n vs ds) (h' : RelL R n us es) (o : Nat) :
  RelL R n (vs.take o ++ us ++ vs.drop (o + us.length)) (putL ds o es) := by
 unfold putL
 rw [← h'.1]
 exact ((h.take o).append h').append (h.drop _)

def opE (P : Program) (op : Op) (ρ : Operand → D) (h : H) (nid : Nat) : Option (D × H × Nat) :=
 match op with
 | .alloc t =>
  match zeroD P t with
  | some zs => some (.ptr nid 0, (nid, .box zs) :: h, nid + 1)
  | none => none
 | .box _ x =>
  match cellsE h (ρ x) with
  | some cs => some (.ptr nid 0, (nid, .box cs) :: h, nid + 1)
  | none => none
 | .store t a x =>
  match ρ a, cellsE h (ρ x), sizeT P t with
  | .ptr b o, some ds, some n =>
   match hget h b with
   | some (.box cs) => if ds.length = n ∧ o + n ≤ cs.length ∧ ds.all (curD h) then some (.any, hset h b (.box (putL cs o ds)), nid) else none
   | _ => none
  | .eptr b l sz i o, some ds, some n =>
   match hget h b with
   | some (.arr ty sz' es) =>
    if ds.length = n ∧ o + n ≤ sz ∧ l = es.length ∧ sz = sz' ∧ ds.all (curD h) ∧ D.ltL 0 ds then
     match es[i]? with
     | some c => some (.any, hset h b (.arr ty sz (es.set i (putL c o ds))), nid)
     | none => none
    else none
   | _ => none
  | _, _, _ => none
 | .makeMap _ none => some (.mp nid, (nid, .map []) :: h, nid + 1)
 | .mapUpdate t m k v => mapUpdD P h nid t (ρ m) (ρ k) (ρ v)
 | .insert t m k v => mapUpdD P h nid t (ρ m) (ρ k) (ρ v)
 | _ => none

theorem run_alloc_box (w : World) (t : TypeId) (v : Value) : (newVar t v).run P w = .ok ⟨w.heap.size, 0, none⟩ (w.alloc (.cells v.cells t)) := by
 simp only [newVar, newRow, Sem.run_bind, run_newObj, Result.andThen_ok, Sem.run_pure]; rfl

theorem setRow_size' (w : World) (g : Nat) (cs : Array Value) : (w.setRow g cs).heap.size = w.heap.size := setRow_size w g cs

theorem store_box (hg : Good X k) {b o : Nat} {cs ds : List D} {us : List Value} (hb : hget k.h b = some (.box cs)) (hlen : o + ds.length ≤ cs.length) (hr : RelL (k.R X) k.nid us ds)
  (h1 : ∀ u ∈ us, u.oneCell' = true) :
  ∃ k', (storeCells ⟨k.β b, o, none⟩ us).run P k.w = .ok () k'.w ∧ k'.h = hset k.h b (.box (putL cs o ds)) ∧ k'.nid = k.nid ∧ Good X k' ∧ Le k k' := by
 obtain ⟨vs, ty, hw, hvs⟩ := hg.ok b _ hb
 have hst := run_storeCells_at P (k.β b) o ty us 0 vs.toArray k.w hw (by simp; have := hr.1; have := hvs.1; omega) h1
 simp only [Nat.add_zero] at hst
 have hrow := setRow_heap k.w (k.β b) vs.toArray (vs.take o ++ us ++ vs.drop (o + us.length)).toArray ty (0, 0) hw
 have hk := hg.upd (blk := .box (putL cs o ds)) (w' := k.w.setRow (k.β b) (vs.take o ++ us ++ vs.drop (o + us.length)).toArray) (v' := k.sv b) hb rfl rfl rfl
  (by rw [setRow_size']; exact Nat.le_refl _) (fun c hc hn => setRow_other _ _ _ _ fun e => hn (by rw [own_of_hget hb, e]; rfl))
  (fun c hc => .inl (by
   have : (Cx.own (k.upd b (.box (putL cs o ds)) (k.w.setRow (k.β b) (vs.take o ++ us ++ vs.drop (o + us.length)).toArray) (k.sv b)) b) = some (k.β b) := by rw [own_of_hget (blk := some (.box (putL cs o ds))) (by simp [Cx.upd, hget_hset])]; rfl
   rw [this] at hc; rw [own_of_hget hb]; exact hc))
  (fun m hm => by simp [lnOf] at hm)
  (fun hle => ⟨_, ty, hrow, (hvs.put hr o).le hle⟩)
 exact ⟨k.upd b (.box (putL cs o ds)) (k.w.setRow (k.β b) (vs.take o ++ us ++ vs.drop (o + us.length)).toArray) (k.sv b), hst, rfl, rfl, hk.1, hk.2⟩

theorem mul_add_lt {i sz cap j : Nat} (hi : i < cap) (hj : j < sz) : i * sz + j < cap * sz := by
 have : (i + 1) * sz ≤ cap * sz := Nat.mul_le_mul_right _ hi
 rw [Nat.add_mul] at this; omega

theorem store_arr (hg : Good X k) {b i o sz : Nat} {ty : TypeId} {es : List (List D)} {c ds : List D} {us : List Value} (hb : hget k.h b = some (.arr ty sz es)) (hc : es[i]? = some c)
  (hlen : o + ds.length ≤ sz) (hr : RelL (k.R X) 0 us ds) (hds : D.nmL ds = true) (h1 : ∀ u ∈ us, u.oneCell' = true) :
  ∃ k' bb bo cap, k.sv b = .slice (some ⟨bb, bo, none⟩) es.length cap ∧ (storeCells ⟨bb, bo + (i * sz + o), none⟩ us).run P k.w = .ok () k'.w ∧
   k'.h = hset k.h b (.arr ty sz (es.set i (putL c o ds))) ∧ k'.nid = k.nid ∧ Good X k' ∧ Le k k' := by
 obtain ⟨h0, hv⟩ := hg.ok b _ hb
 have hi := lt_of_getElem? hc
 rcases hv with ⟨_, he⟩ | ⟨bb, bo, cap, vs, a1, a2, a3, a4, a5⟩
 ·subst he; simp at hi
 ·have hul := hr.1
  have hfit : bo + (i * sz + o) + us.length ≤ vs.length := by
   refine Nat.le_trans ?_ a3
   have : (i + 1) * sz ≤ cap * sz := Nat.mul_le_mul_right _ (by omega)
   rw [Nat.add_mul] at this; omega
  have hst := run_storeCells_at P bb (bo + (i * sz + o)) ty us 0 vs.toArray k.w a2 (by simpa using hfit) h1
  simp only [Nat.add_zero] at hst
  have hrow := setRow_heap k.w bb vs.toArray (vs.take (bo + (i * sz + o)) ++ us ++ vs.drop (bo + (i * sz + o) + us.length)).toArray ty (0, 0) a2
  have hcl : c.length = sz := (h0 c (List.mem_of_getElem? hc)).1
  have hpn : D.nmL (putL c o ds) = true := D.nmL_iff.2 fun d hd => by
   have hc' := D.nmL_iff.1 (h0 c (List.mem_of_getElem? hc)).2
   simp only [putL, List.mem_append] at hd
   rcases hd with (hd | hd) | hd
   ·exact hc' d (List.mem_of_mem_take hd)
   ·exact D.nmL_iff.1 hds d hd
   ·exact hc' d (List.mem_of_mem_drop hd)
  have hpl : (putL c o ds).length = sz := by simp only [putL, List.length_append, List.length_take, List.length_drop]; omega
  have hk := hg.upd (blk := .arr ty sz (es.set i (putL c o ds))) (w' := k.w.setRow bb (vs.take (bo + (i * sz + o)) ++ us ++ vs.drop (bo + (i * sz + o) + us.length)).toArray) (v' := k.sv b) hb rfl rfl rfl
   (by rw [setRow_size']; exact Nat.le_refl _) (fun c' hc' hn => setRow_other _ _ _ _ fun e => hn (by rw [own_of_hget hb, e]; simp [ownOf, a1, slBlk]))
   (fun c' hc' => .inl (by
    have : (Cx.own (k.upd b (.arr ty sz (es.set i (putL c o ds))) (k.w.setRow bb (vs.take (bo + (i * sz + o)) ++ us ++ vs.drop (bo + (i * sz + o) + us.length)).toArray) (k.sv b)) b) = some bb := by
     rw [own_of_hget (blk := some (.arr ty sz (es.set i (putL c o ds)))) (by simp [Cx.upd, hget_hset])]; simp [ownOf, Cx.upd, a1, slBlk]
    rw [this] at hc'; rw [own_of_hget hb]; simpa [ownOf, a1, slBlk] using hc'))
   (fun m hm => ⟨es.length, rfl, by simp only [lnOf, List.length_set, Option.some.injEq] at hm; omega, fun _ => rfl⟩)
   (fun hle => ⟨fun e he => by
     rcases List.mem_or_eq_of_mem_set he with h | h
     ·exact h0 e h
     ·rw [h]; exact ⟨hpl, hpn⟩, .inr ⟨bb, bo, cap, _, by simp [Cx.upd, a1], hrow, by
     simp only [List.length_append, List.length_take, List.length_drop]; omega, by simpa using a4, fun i' e j d v x y z => by
     rw [List.getElem?_set] at x
     by_cases hii : i = i'
     ·subst hii
      rw [if_pos rfl, if_pos hi] at x
      ·cases x
       have hj := lt_of_getElem? y
       rw [hpl] at hj
       -- the cell lies in the element that is stored into
       simp only [putL] at y
       rcases Nat.lt_or_ge j o with hjo | hjo
       ·rw [List.append_assoc, List.getElem?_append_left (by simp; omega), List.getElem?_take, if_pos hjo] at y
        rw [List.append_assoc, List.getElem?_append_left (by simp; omega), List.getElem?_take, if_pos (by omega)] at z
        exact (a5 i c j d v hc y z).le0 hle
       ·rcases Nat.lt_or_ge j (o + us.length) with hju | hju
        ·rw [List.getElem?_append_left (by simp; omega), List.getElem?_append_right (by simp; omega)] at y z
         simp only [List.length_take] at y z
         rw [show min o c.length = o by omega] at y
         rw [show min (bo + (i * sz + o)) vs.length = bo + (i * sz + o) by omega] at z
         exact (hr.2 (j - o) v d (by rw [← z]; congr 1; omega) y).le0 hle
        ·rw [List.getElem?_append_right (by simp; omega)] at y z
         simp only [List.length_append, List.length_take, List.getElem?_drop] at y z
         refine (a5 i c j d v hc ?_ ?_).le0 hle
         ·rw [← y]; congr 1; omega
         ·rw [← z]; congr 1; omega
     ·rw [if_neg hii] at x
      have hi' := lt_of_getElem? x
      have hel : e.length = sz := (h0 e (List.mem_of_getElem? x)).1
      have hj := lt_of_getElem? y
      refine (a5 i' e j d v x y ?_).le0 hle
      have hne : i' * sz + j < i * sz + o ∨ i * sz + o + us.length ≤ i' * sz + j := by
       rcases Nat.lt_or_gt_of_ne hii with h | h
       ·right
        have : (i + 1) * sz ≤ i' * sz := Nat.mul_le_mul_right _ h
        rw [Nat.add_mul] at this; omega
       ·left
        have : (i' + 1) * sz ≤ i * sz := Nat.mul_le_mul_right _ h
        rw [Nat.add_mul] at this; omega
      rcases hne with hne | hne
      ·rw [List.append_assoc, List.getElem?_append_left (by simp; omega), List.getElem?_take, if_pos (by omega)] at z
       exact z
      ·rw [List.getElem?_append_right (by simp; omega)] at z
       simp only [List.length_append, List.length_take, List.getElem?_drop] at z
       rw [← z]; congr 1; omega⟩⟩)
  exact ⟨k.upd b (.arr ty sz (es.set i (putL c o ds))) (k.w.setRow bb (vs.take (bo + (i * sz + o)) ++ us ++ vs.drop (bo + (i * sz + o) + us.length)).toArray) (k.sv b), bb, bo, cap, a1, hst, rfl, rfl, hk.1, hk.2⟩

theorem opE_sound (hg : Good X k) {a : Act} {o : Oper} {ρ : Operand → D} (hρ : ∀ x, Rel (k.R X) k.nid (a.eval x) (ρ x)) {d : D} {h' : H} {nid' : Nat}
  (h : opE P o.op ρ k.h k.nid = some (d, h', nid')) :
  ∃ n v k', (execOp a.eval o).run P k.w = .ok n k'.w ∧ (n = .value v ∨ n = .skip ∧ d = .any) ∧ k'.h = h' ∧ k'.nid = nid' ∧ Good X k' ∧ Le k k' ∧ Rel (k'.R X) k'.nid v d := by
 obtain ⟨dst, op, ty, pos, after, guard⟩ := o
 cases op <;> simp only [opE] at h <;> try cases h
 case alloc t =>
  split at h
  ·rename_i zs hz
   cases h
   obtain ⟨z, h1, h2⟩ := run_zeroD hz k.w
   have hr := h2 (k.R X) k.nid
   refine ⟨.value (.pointer (some ⟨k.w.heap.size, 0, none⟩)), .pointer (some ⟨k.w.heap.size, 0, none⟩), k.newBox z.cells.toList t zs, ?_, .inl rfl, rfl, rfl, newBox_good hg _ _ _ hr, newBox_le hg _ _ _, ?_⟩
   ·simp only [execOp]
    refine ok_bind_value _ _ _ _ _ ?_
    simp only [Instr.alloc, Sem.run_bind, h1, Result.andThen_ok]
    simp only [Sem.run_bind, run_alloc_box, Result.andThen_ok, Sem.run_pure]
    simp [Cx.newBox]
   ·have := Rel.ptr (R := (k.newBox z.cells.toList t zs).R X) (k.nid + 1) k.nid 0 (by omega)
    simpa [Cx.R, Cx.newBox] using this
  ·cases h
 case box t x =>
  split at h
  ·rename_i cs hc
   cases h
   obtain ⟨vs, h1, h2⟩ := cellsE_sound hg (hρ x) hc
   refine ⟨.value (.pointer (some ⟨k.w.heap.size, 0, none⟩)), .pointer (some ⟨k.w.heap.size, 0, none⟩), k.newBox vs t cs, ?_, .inl rfl, rfl, rfl, newBox_good hg _ _ _ h2, newBox_le hg _ _ _, ?_⟩
   ·simp only [execOp]
    refine ok_bind_value _ _ _ _ _ ?_
    simp only [Instr.box, Sem.run_bind, run_alloc_box, Result.andThen_ok, Sem.run_pure, h1]
    rfl
   ·have := Rel.ptr (R := (k.newBox vs t cs).R X) (k.nid + 1) k.nid 0 (by omega)
    simpa [Cx.R, Cx.newBox] using this
  ·cases h
 case store t p x =>
  split at h
  ·rename_i b oo ds n hp hc hn
   split at h
   ·rename_i cs hb
    split at h
    ·rename_i hcond
     obtain ⟨hl, hle, hall⟩ := hcond
     cases h
     obtain ⟨us, h1, h2⟩ := cellsE_sound hg (hρ x) hc
     have hone : ∀ u ∈ us, u.oneCell' = true := fun u hu => by
      obtain ⟨i, hi⟩ := List.getElem?_of_mem hu
      have hlt : i < ds.length := by rw [← h2.1]; exact lt_of_getElem? hi
      exact (h2.2 i u _ hi (List.getElem?_eq_getElem hlt)).cur hg (List.all_eq_true.1 hall _ (List.getElem_mem hlt))
     obtain ⟨k', s1, s2, s3, s4, s5⟩ := store_box (P := P) hg hb (by omega) h2 hone (o := oo)
     have hr := hρ p
     rw [hp] at hr
     generalize hv : a.eval p = v at hr
     cases hr with
     | ptr _ _ _ hlt =>
      refine ⟨.skip, undef, k', ?_, .inr ⟨rfl, rfl⟩, s2, s3, s4, s5, .any _ _⟩
      have hsz : (a.eval x).cells.size = n := by rw [h1]; simp [h2.1, hl]
      simp only [execOp, hv, Instr.storeAt, Instr.sureAddr, Sem.run_bind, Sem.run_pure, Result.andThen_ok, storeVar, run_sizeT hn, Sem.run_ite, hsz, ne_eq, not_true, if_false]
      simp only [h1]
      have s1' : (storeCells ⟨(k.R X).β b, oo, none⟩ us).run P k.w = .ok () k'.w := s1
      simp [s1']
    ·cases h
   ·cases h
  ·rename_i b l sz i oo ds n hp hc hn
   split at h
   ·rename_i ty sz' es hb
    split at h
    ·rename_i hcond
     obtain ⟨hl, hle, hl2, rfl, hall, hpure⟩ := hcond
     split at h
     ·rename_i c hci
      cases h
      obtain ⟨us, h1, h2⟩ := cellsE_sound hg (hρ x) hc
      have hone : ∀ u ∈ us, u.oneCell' = true := fun u hu => by
       obtain ⟨i, hi⟩ := List.getElem?_of_mem hu
       have hlt : i < ds.length := by rw [← h2.1]; exact lt_of_getElem? hi
       exact (h2.2 i u _ hi (List.getElem?_eq_getElem hlt)).cur hg (List.all_eq_true.1 hall _ (List.getElem_mem hlt))
      obtain ⟨k', bb, bo, cap, s0, s1, s2, s3, s4, s5⟩ := store_arr (P := P) hg hb hci (by omega) ⟨h2.1, fun i v d a b => (h2.2 i v d a b).roll (D.ltL_get hpure i d b)⟩ (D.nmL_lt hpure) hone (o := oo)
      have hr := hρ p
      rw [hp] at hr
      generalize hv : a.eval p = v at hr
      cases hr with
      | eptr _ _ _ _ _ _ _ hlt hvv =>
       have hv2 := (hvv es.length (by simp [Cx.R, hb, lnOf])).2 hl2
       have hsv : (k.R X).sv b = .slice (some ⟨bb, bo, none⟩) es.length cap := s0
       rw [hsv] at hv2
       subst hv2
       refine ⟨.skip, undef, k', ?_, .inr ⟨rfl, rfl⟩, s2, s3, s4, s5, .any _ _⟩
       have hsz : (a.eval x).cells.size = n := by rw [h1]; simp [h2.1, hl]
       simp only [execOp, hv, eaddr, Instr.storeAt, Instr.sureAddr, Sem.run_bind, Sem.run_pure, Result.andThen_ok, storeVar, run_sizeT hn, Sem.run_ite, hsz, ne_eq, not_true, if_false]
       simp only [h1]
       simp [s1]
     ·cases h
    ·cases h
   ·cases h
  ·cases h
 case makeMap t r =>
  cases r with
  | some r => simp at h
  | none =>
   simp only [Option.some.injEq, Prod.mk.injEq] at h
   obtain ⟨rfl, rfl, rfl⟩ := h
   refine ⟨.value (.map (some k.w.heap.size)), .map (some k.w.heap.size), k.newMap, ?_, .inl rfl, rfl, rfl, newMap_good hg, newMap_le hg, ?_⟩
   ·simp only [execOp]
    exact ok_bind_value _ _ _ _ _ rfl
   ·have := Rel.mp (R := k.newMap.R X) (k.nid + 1) k.nid (by omega)
    simpa [Cx.R, Cx.newMap] using this
 case mapUpdate t m q v =>
  obtain ⟨k', h1, h2, h3, h4, h5, h6⟩ := run_mapUpdD hg (hρ m) (hρ q) (hρ v) h
  refine ⟨.skip, undef, k', ?_, .inr ⟨rfl, h2⟩, h3, h4, h5, h6, by rw [h2]; exact .any _ _⟩
  simp only [execOp, Sem.run_bind, h1, Result.andThen_ok, Sem.run_pure]
 case insert t m q v =>
  obtain ⟨k', h1, h2, h3, h4, h5, h6⟩ := run_mapUpdD hg (hρ m) (hρ q) (hρ v) h
  refine ⟨.skip, undef, k', ?_, .inr ⟨rfl, h2⟩, h3, h4, h5, h6, by rw [h2]; exact .any _ _⟩
  simp only [execOp, Sem.run_bind, h1, Result.andThen_ok, Sem.run_pure]
end
end Go.Sx

/- Sx, part F: literals (build, buildSlice) and append. Own work. -/
namespace Go.Sx
section
variable {P : Program} {X : Nat → Prop} {k : Cx}

def fillD (place : Nat → Option (Nat × Nat)) (h : H) : List D → List (Nat × D) → Option (List D)
 | cells, [] => some cells
 | cells, (i, d) :: rest =>
  match place i, cellsE h d with
  | some (off, size), some ds => if ds.length = size ∧ off + ds.length ≤ cells.length then fillD place h (putL cells off ds) rest else none
  | _, _ => none

theorem foldl_set (us : List Value) : ∀ (off q : Nat) (cells : List Value), off + q + us.length ≤ cells.length →
  ((us.zipIdx q).foldl (fun (cs : Array Value) (x : Value × Nat) => cs.setIfInBounds (off + x.2) x.1) cells.toArray) = (cells.take (off + q) ++ us ++ cells.drop (off + q + us.length)).toArray := by
 induction us with
 | nil => intro off q cells _; simp
 | cons u us ih =>
  intro off q cells hl
  simp only [List.zipIdx_cons, List.foldl_cons]
  have e1 : cells.toArray.setIfInBounds (off + q) u = (cells.set (off + q) u).toArray := by simp
  rw [e1, ih off (q + 1) (cells.set (off + q) u) (by simp at hl ⊢; omega)]
  congr 1
  have := list_seg_step cells (off + q) u us (by simp at hl ⊢; omega)
  simpa [Nat.add_assoc] using this

theorem run_fill (hg : Good X k) (place placeD : Nat → Option (Nat × Nat)) (hplace : ∀ i p, placeD i = some p → place i = some p) : ∀ (parts : List (Nat × Value)) (dparts : List (Nat × D)) (vs : List Value) (cs ds : List D),
  RelL (k.R X) k.nid vs cs → parts.length = dparts.length → (∀ (i : Nat) p q, parts[i]? = some p → dparts[i]? = some q → p.1 = q.1 ∧ Rel (k.R X) k.nid p.2 q.2) →
  fillD placeD k.h cs dparts = some ds → ∃ us, Instr.fill place vs.toArray parts = some (List.toArray us) ∧ RelL (k.R X) k.nid us ds
 | [], [], vs, cs, ds, hr, _, _, h => by
  simp [fillD] at h; subst h
  exact ⟨vs, rfl, hr⟩
 | [], _ :: _, _, _, _, _, hl, _, _ => by simp at hl
 | _ :: _, [], _, _, _, _, hl, _, _ => by simp at hl
 | (i, v) :: parts, (j, d) :: dparts, vs, cs, ds, hr, hl, hp, h => by
  obtain ⟨rfl, hrel⟩ := hp 0 _ _ rfl rfl
  simp only [fillD] at h
  split at h
  ·rename_i off size es hpl hce
   split at h
   ·rename_i hc
    obtain ⟨ws, hw, hrw⟩ := cellsE_sound hg hrel hce
    have hlen := hrw.1
    have hvl := hr.1
    obtain ⟨us, hu, hru⟩ := run_fill hg place placeD hplace parts dparts _ _ ds (hr.put hrw off) (by simpa using hl) (fun q a b ha hb => hp (q + 1) a b (by simpa using ha) (by simpa using hb)) h
    refine ⟨us, ?_, hru⟩
    simp only [Instr.fill, hplace _ _ hpl]
    dsimp only at hw
    have hne : ¬ ((v.cells.size ≠ size) || decide (off + v.cells.size > vs.toArray.size)) = true := by
     rw [hw]; simp; omega
    rw [if_neg (by simpa using hne), hw]
    have := foldl_set ws off 0 vs (by omega)
    simp only [Nat.add_zero] at this
    rw [Array.zipIdx_toArray] 
    simp only [List.foldl_toArray'] at *
    rw [show (List.foldl (fun cs x => match x with | (c, j) => cs.setIfInBounds (off + j) c) vs.toArray (ws.zipIdx)) = _ from this]
    exact hu
   ·cases h
  ·cases h


def placesT (P : Program) (t : TypeId) : Option (List (Nat × Nat)) :=
 match P.underlying t with
 | some (.array n e) => (P.info? e).map fun ie => (List.range n).map fun i => (i * ie.size, ie.size)
 | some (.struct fields) => fields.toList.mapM (fun f => (P.info? f.type).map fun i => (f.offset, i.size))
 | _ => none

def buildD (P : Program) (h : H) (t : TypeId) (parts : List (Nat × D)) : Option D :=
 match zeroD P t, placesT P t with
 | some zs, some pl => (fillD (fun i => pl[i]?) h zs parts).map .agg
 | _, _ => none

theorem run_buildD (hg : Good X k) {t : TypeId} {a : Act} {ρ : Operand → D} (hρ : ∀ x, Rel (k.R X) k.nid (a.eval x) (ρ x)) {parts : Array (Nat × Operand)} {d : D}
  (h : buildD P k.h t (parts.toList.map fun p => (p.1, ρ p.2)) = some d) :
  ∃ v, (Instr.build t (parts.map fun (i, x) => (i, a.eval x))).run P k.w = .ok v k.w ∧ Rel (k.R X) k.nid v d := by
 unfold buildD at h
 split at h
 ·rename_i zs pl hz hpl
  cases hf : fillD (fun i => pl[i]?) k.h zs (parts.toList.map fun p => (p.1, ρ p.2)) with
  | none => simp [hf] at h
  | some ds =>
   simp [hf] at h; subst h
   unfold zeroD at hz
   split at hz
   ·rename_i it hit
    split at hz
    ·rename_i z hzz
     cases hz
     have hzr : RelL (k.R X) k.nid z.cells.toList (z.cells.toList.map vD) := ⟨by simp, fun j v d x y => by
      rw [List.getElem?_map, x] at y; simp at y; subst y; exact .vD _ _ _⟩
     have hparts : (parts.map fun (i, x) => (i, a.eval x)).toList = parts.toList.map fun p => (p.1, a.eval p.2) := by simp
     have hfit := fun (place : Nat → Option (Nat × Nat)) (hplace : ∀ i p, pl[i]? = some p → place i = some p) => run_fill hg place (fun i => pl[i]?) hplace (parts.toList.map fun p => (p.1, a.eval p.2)) _ _ _ ds hzr (by simp) (fun i p q hp hq => by
      rw [List.getElem?_map] at hp hq
      cases hi : parts.toList[i]? with
      | none => simp [hi] at hp
      | some x => simp [hi] at hp hq; subst hp; subst hq; exact ⟨rfl, hρ _⟩) hf
     unfold placesT at hpl
     split at hpl
     ·rename_i n e hue
      cases hie : P.info? e with
      | none => simp [hie] at hpl
      | some ie =>
       simp [hie] at hpl; subst hpl
       obtain ⟨us, hu, hru⟩ := hfit (fun i => some (i * ie.size, ie.size)) (fun i p hp => by
        rw [List.getElem?_map] at hp
        have hi : i < n := by simpa using lt_of_getElem? (l := (List.range n)) (i := i) (x := (List.range n)[i]'(by
         rcases Nat.lt_or_ge i (List.range n).length with h | h
         ·exact h
         ·rw [List.getElem?_eq_none h] at hp; simp at hp)) (List.getElem?_eq_getElem _)
        rw [List.getElem?_range hi] at hp
        simpa using hp)
       refine ⟨.agg us.toArray, run_build k.w t _ us.toArray ?_, .of_list hru⟩
       rw [hparts]
       simp only [Program.built, hit, hue, hzz, hie]
       exact hu
     ·rename_i fields hue
      obtain ⟨us, hu, hru⟩ := hfit (fun i => pl[i]?) (fun i p hp => hp)
      refine ⟨.agg us.toArray, run_build k.w t _ us.toArray ?_, .of_list hru⟩
      rw [hparts]
      simp only [Program.built, hit, hue, hzz, hpl]
      have : (fun i : Nat => pl.toArray[i]?) = (fun i => pl[i]?) := by funext i; simp
      simpa [this] using hu
     ·cases hpl
    ·cases hz
   ·cases hz
 ·cases h


def chunk (sz : Nat) : Nat → List D → List (List D)
 | 0, _ => []
 | n + 1, l => l.take sz :: chunk sz n (l.drop sz)

theorem chunk_get (sz : Nat) : ∀ (n : Nat) (l : List D) (i : Nat), (chunk sz n l)[i]? = if i < n then some ((l.drop (i * sz)).take sz) else none
 | 0, l, i => by simp [chunk]
 | n + 1, l, 0 => by simp [chunk]
 | n + 1, l, i + 1 => by
  simp only [chunk, List.getElem?_cons_succ, chunk_get sz n, List.drop_drop]
  by_cases h : i < n
  ·rw [if_pos h, if_pos (by omega)]; congr 3; rw [Nat.add_mul]; omega
  ·rw [if_neg h, if_neg (by omega)]

theorem chunk_length (sz : Nat) : ∀ (n : Nat) (l : List D), (chunk sz n l).length = n
 | 0, _ => rfl
 | n + 1, l => by simp [chunk, chunk_length sz n]

def repL (n : Nat) (l : List D) : List D := (List.replicate n l).flatten

def litSl (P : Program) (h : H) (t : TypeId) (len : Nat) (parts : List (Nat × D)) : Option (TypeId × Nat × List (List D)) :=
 match P.underlying t with
 | some (.slice e) =>
  match sizeT P e, zeroD P e with
  | some sz, some zs =>
   if len * sz ≤ 16777216 ∧ zs.length = sz ∧ 0 < sz then
    match fillD (fun i => some (i * sz, sz)) h (repL len zs) parts with
    | some flat => some (e, sz, chunk sz len flat)
    | none => none
   else none
  | _, _ => none
 | _ => none

theorem repL_length (n : Nat) (l : List D) : (repL n l).length = n * l.length := by simp [repL, List.sum_replicate_nat]

theorem fillD_length {place : Nat → Option (Nat × Nat)} {h : H} : ∀ (parts : List (Nat × D)) (cs ds : List D), fillD place h cs parts = some ds → ds.length = cs.length
 | [], cs, ds, hf => by simp [fillD] at hf; subst hf; rfl
 | (i, d) :: rest, cs, ds, hf => by
  simp only [fillD] at hf
  split at hf
  ·rename_i off size es hpl hce
   split at hf
   ·rename_i hc
    rw [fillD_length rest _ ds hf]
    simp only [putL, List.length_append, List.length_take, List.length_drop]; omega
   ·cases hf
  ·cases hf

theorem rep_get (zv : List Value) (n : Nat) (hz : 0 < zv.length) (i : Nat) (hi : i < n * zv.length) : ((List.replicate n zv).flatten)[i]? = zv[i % zv.length]? := by
 induction n generalizing i with
 | zero => simp at hi
 | succ n ih =>
  rw [List.replicate_succ, List.flatten_cons]
  rcases Nat.lt_or_ge i zv.length with h | h
  ·rw [List.getElem?_append_left h, Nat.mod_eq_of_lt h]
  ·rw [List.getElem?_append_right h, ih (i - zv.length) (by rw [Nat.add_mul] at hi; omega)]
   congr 1
   conv => rhs; rw [show i = (i - zv.length) + zv.length by omega]
   simp

theorem run_litSl (hg : Good X k) {t : TypeId} {len : Nat} {a : Act} {ρ : Operand → D} (hρ : ∀ x, Rel (k.R X) k.nid (a.eval x) (ρ x)) {parts : Array (Nat × Operand)} {e : TypeId} {sz : Nat} {es : List (List D)}
  (h : litSl P k.h t len (parts.toList.map fun p => (p.1, ρ p.2)) = some (e, sz, es)) :
  ∃ us, (Instr.buildSlice t len (parts.map fun (i, x) => (i, a.eval x))).run P k.w = .ok (.slice (some ⟨k.w.heap.size, 0, none⟩) len len) (k.w.alloc (.cells (List.toArray us) e)) ∧
   us.length = len * sz ∧ es.length = len ∧ (∀ x ∈ es, x.length = sz) ∧ 0 < sz ∧ sizeT P e = some sz ∧ P.underlying t = some (.slice e) ∧
   ∀ (i : Nat) x (j : Nat) d v, es[i]? = some x → x[j]? = some d → us[i * sz + j]? = some v → Rel (k.R X) k.nid v d := by
 unfold litSl at h
 split at h
 ·rename_i e' hu
  split at h
  ·rename_i sz' zs hsz hz
   split at h
   ·rename_i hc
    obtain ⟨hc1, hc2, hc3⟩ := hc
    split at h
    ·rename_i flat hf
     cases h
     unfold zeroD at hz
     split at hz
     ·rename_i it hit
      split at hz
      ·rename_i z hzz
       cases hz
       have hits : it.size = sz := by simpa [sizeT, hit] using hsz
       have hzl : z.cells.size = sz := by simpa using hc2
       have hzr : RelL (k.R X) k.nid (List.replicate len z.cells.toList).flatten (repL len (z.cells.toList.map vD)) := by
        have : repL len (z.cells.toList.map vD) = (List.replicate len z.cells.toList).flatten.map vD := by
         simp [repL, List.map_flatten]
        rw [this]
        exact ⟨by simp, fun j v d x y => by rw [List.getElem?_map, x] at y; simp at y; subst y; exact .vD _ _ _⟩
       obtain ⟨us, hu2, hru⟩ := run_fill hg _ _ (fun _ _ h => h) (parts.toList.map fun p => (p.1, a.eval p.2)) _ _ _ flat hzr (by simp) (fun i p q hp hq => by
        rw [List.getElem?_map] at hp hq
        cases hi : parts.toList[i]? with
        | none => simp [hi] at hp
        | some x => simp [hi] at hp hq; subst hp; subst hq; exact ⟨rfl, hρ _⟩) hf
       have hflen : flat.length = len * sz := by
        rw [fillD_length _ _ _ hf, repL_length]; simp [hzl]
       have husl : us.length = len * sz := by rw [hru.1, hflen]
       have hzero : ((Array.range (len * it.size)).map (z.cells[· % z.cells.size]!)) = ((List.replicate len z.cells.toList).flatten).toArray := by
        apply Array.ext'
        apply List.ext_getElem?
        intro i
        rcases Nat.lt_or_ge i (len * sz) with hi | hi
        ·have hzc : 0 < z.cells.toList.length := by simp [hzl]; exact hc3
         have hr := rep_get z.cells.toList len hzc i (by simpa [hzl] using hi)
         have hm : i % z.cells.size < z.cells.size := Nat.mod_lt _ (by omega)
         simp only [List.toList_toArray, hr]
         simp [hits, hi, hzl, Array.getElem?_eq_getElem, hm]
         rw [hzl] at hm
         simp [hzl, hm]
        ·simp [hits, hi, hzl, List.sum_replicate_nat]
       refine ⟨us, ?_, husl, chunk_length _ _ _, ?_, hc3, hsz, hu, ?_⟩
       ·have hparts : (parts.map fun (i, x) => (i, a.eval x)).toList = parts.toList.map fun p => (p.1, a.eval p.2) := by simp
        simp only [Instr.buildSlice, Sem.run_bind, run_underlying hu, Result.andThen_ok, run_sizeT hsz, Sem.run_ite]
        rw [if_neg (by omega)]
        simp only [Sem.run_pure, Result.andThen_ok]
        by_cases h0 : len * sz = 0
        ·rw [if_pos h0]
         have hl0 : len = 0 := by rcases Nat.mul_eq_zero.1 h0 with h | h <;> omega
         subst hl0
         have hz0 : ((Array.range (0 * sz)).map (fun (x : Nat) => (#[] : Array Value)[x % (#[] : Array Value).size]!)) = ((List.replicate 0 z.cells.toList).flatten).toArray := by simp
         rw [hz0, hparts, hu2]
         simp only [newRow, Sem.run_bind, run_newObj, Result.andThen_ok, Sem.run_pure]; rfl
        ·rw [if_neg h0]
         have hzv : (zeroValue e).run P k.w = .ok z k.w := by simp [zeroValue, run_typeInfo k.w hit, hzz]
         simp only [Sem.run_bind, hzv, Result.andThen_ok, Sem.run_pure]
         rw [hits] at hzero
         rw [hzero, hparts, hu2]
         simp only [newRow, Sem.run_bind, run_newObj, Result.andThen_ok, Sem.run_pure]; rfl
       ·intro x hx
        obtain ⟨i, hi⟩ := List.getElem?_of_mem hx
        rw [chunk_get] at hi
        split at hi
        ·rename_i hlt
         cases hi
         simp only [List.length_take, List.length_drop]
         have := mul_add_lt (sz := sz) (j := sz - 1) hlt (by omega)
         omega
        ·cases hi
       ·intro i x j d v hx hd hv
        rw [chunk_get] at hx
        split at hx
        ·cases hx
         have hj := lt_of_getElem? hd
         simp only [List.length_take] at hj
         rw [List.getElem?_take, if_pos (by omega), List.getElem?_drop] at hd
         exact hru.2 _ v d hv hd
        ·cases hx
      ·cases hz
     ·cases hz
    ·cases h
   ·cases h
  ·cases h
 ·cases h


def srcD (h : H) : D → Option (List (List D))
 | .nils => some []
 | .sl es => some es
 | .osl b n => match hget h b with
  | some (.arr _ _ es) => if n = es.length then some es else none
  | _ => none
 | _ => none

theorem divmod_get {i j sz : Nat} (hj : j < sz) : (i * sz + j) / sz = i ∧ (i * sz + j) % sz = j := by
 have h : 0 < sz := by omega
 constructor
 ·rw [Nat.mul_comm, Nat.mul_add_div h, Nat.div_eq_of_lt hj]; rfl
 ·rw [Nat.mul_comm, Nat.mul_add_mod, Nat.mod_eq_of_lt hj]

theorem src_sound (hg : Good X k) {v : Value} {x : D} {es : List (List D)} (hx : Rel (k.R X) k.nid v x) (h : srcD k.h x = some es) {sz : Nat} (hsz : 0 < sz) (hel : ∀ e ∈ es, e.length = sz) :
  (v = .slice none 0 0 ∧ es = []) ∨ ∃ (a : Addr) (c : Nat) (news : List Value), v = .slice (some a) es.length c ∧ news.length = es.length * sz ∧ (∀ j u, news[j]? = some u → k.w.cell? (a.add j) = some u) ∧
   ∀ (i : Nat) e (j : Nat) d, es[i]? = some e → e[j]? = some d → ∃ u, news[i * sz + j]? = some u ∧ Rel (k.R X) k.nid u d := by
 unfold srcD at h
 split at h
 ·cases h; cases hx; exact .inl ⟨rfl, rfl⟩
 ·cases h
  cases hx with
  | sln => exact .inl ⟨rfl, rfl⟩
  | sle _ a cap => exact .inr ⟨a, cap, [], rfl, by simp, fun j u hj => by simp at hj, fun i e j d hi => by simp at hi⟩
  | sl _ b off cap _ sz' vs hS hcap hlen hcell hrel =>
   right
   refine ⟨⟨b, off, none⟩, cap, (List.range (es.length * sz)).map (fun q => vs (q / sz) (q % sz)), rfl, by simp, fun j u hj => ?_, fun i e j d hi hjd => ?_⟩
   ·have hjl : j < es.length * sz := by simpa using lt_of_getElem? hj
    rw [List.getElem?_map, List.getElem?_range hjl] at hj
    simp at hj; subst hj
    have hq : j / sz < es.length := Nat.div_lt_of_lt_mul (by rw [Nat.mul_comm]; exact hjl)
    have hm : j % sz < sz := Nat.mod_lt _ hsz
    have he := List.getElem_mem hq
    have h1 : es[j / sz].length = sz := hel _ he
    have h2 : es[j / sz].length = sz' := hlen _ he
    have := hcell (j / sz) _ (j % sz) _ (List.getElem?_eq_getElem hq) (List.getElem?_eq_getElem (by omega))
    rw [add_none, ← this]
    congr 2
    rw [show sz' = sz by omega]
    have := Nat.div_add_mod j sz
    rw [Nat.mul_comm] at this; rw [this]
   ·have hil := lt_of_getElem? hi
    have hjl : j < sz := by rw [← hel e (List.mem_of_getElem? hi)]; exact lt_of_getElem? hjd
    refine ⟨vs i j, ?_, (hrel i e j d hi hjd).weak (Nat.zero_le _)⟩
    rw [List.getElem?_map, List.getElem?_range (mul_add_lt hil hjl)]
    simp [divmod_get hjl]
 ·rename_i b n
  split at h
  ·rename_i ty sz' es' hb
   split at h
   ·rename_i hn
    cases h
    cases hx with
    | osl _ _ _ _ hb' hv =>
     have hv2 := (hv es.length (by simp [Cx.R, hb, lnOf])).2 hn
     obtain ⟨h0, h1⟩ := hg.ok b _ hb
     rcases h1 with ⟨h1, h2⟩ | ⟨bb, bo, cap, vs, a1, a2, a3, a4, a5⟩
     ·left
      have : (k.R X).sv b = .slice none 0 0 := h1
      rw [this] at hv2; exact ⟨hv2, h2⟩
     ·right
      have : (k.R X).sv b = .slice (some ⟨bb, bo, none⟩) es.length cap := a1
      rw [this] at hv2
      by_cases hes : es = []
      ·subst hes
       exact ⟨⟨bb, bo, none⟩, cap, [], hv2, by simp, fun j u hj => by simp at hj, fun i e j d hi => by simp at hi⟩
      ·have hss : sz' = sz := by
        obtain ⟨e, rest, rfl⟩ := List.exists_cons_of_ne_nil hes
        rw [← (h0 e (by simp)).1, hel e (by simp)]
       subst hss
       have hfit : bo + es.length * sz' ≤ vs.length := Nat.le_trans (Nat.add_le_add_left (Nat.mul_le_mul_right _ a4) _) a3
       refine ⟨⟨bb, bo, none⟩, cap, (vs.drop bo).take (es.length * sz'), hv2, by simp; omega, fun j u hj => ?_, fun i e j d hi hjd => ?_⟩
       ·have hjl := lt_of_getElem? hj
        simp only [List.length_take] at hjl
        rw [List.getElem?_take, if_pos (by omega), List.getElem?_drop] at hj
        rw [add_none, row_cell a2]; exact hj
       ·have hil := lt_of_getElem? hi
        have hjl : j < sz' := by rw [← hel e (List.mem_of_getElem? hi)]; exact lt_of_getElem? hjd
        have hlt := mul_add_lt hil hjl
        have hv : vs[bo + (i * sz' + j)]? = some (vs[bo + (i * sz' + j)]'(by omega)) := List.getElem?_eq_getElem _
        exact ⟨_, by rw [List.getElem?_take, if_pos hlt, List.getElem?_drop]; exact hv, (a5 i e j d _ hi hjd hv).weak (Nat.zero_le _)⟩
   ·cases h
  ·cases h
 ·cases h


def byteOf : List D → Option UInt8
 | [.int .u8 n] => some (UInt8.ofNat n.toNat)
 | _ => none
def bytesOf : List (List D) → Option (List UInt8)
 | [] => some []
 | e :: r =>
  match byteOf e, bytesOf r with
  | some b, some l => some (b :: l)
  | _, _ => none
def numOf : List D → Int
 | [.int .u8 n] => n
 | _ => 0

def strD (P : Program) (h : H) (s d : TypeId) (x : D) : Option D :=
 match P.underlying s, P.underlying d with
 | some (.slice e), some .string =>
  match P.underlying e with
  | some (.int .u8) =>
   match srcD h x with
   | some es =>
    match bytesOf es with
    | some l => some (.str ⟨l.toArray⟩)
    | none => none
   | none => none
  | _ => none
 | _, _ => none

theorem bytesOf_get : ∀ (es : List (List D)) (l : List UInt8), bytesOf es = some l → es = (es.map numOf).map (fun n => [D.int .u8 n]) ∧ l = (es.map numOf).map fun n => UInt8.ofNat n.toNat
 | [], l, h => by simp [bytesOf] at h; subst h; exact ⟨rfl, rfl⟩
 | e :: r, l, h => by
  simp only [bytesOf] at h
  split at h
  ·rename_i b l' h1 h2
   obtain ⟨i1, i2⟩ := bytesOf_get r l' h2
   cases h
   unfold byteOf at h1
   split at h1
   ·rename_i n
    cases h1
    simp only [List.map_cons, numOf]
    exact ⟨by rw [← i1], by rw [← i2]⟩
   ·cases h1
  ·cases h

theorem run_strD (hg : Good X k) {s d : TypeId} {x r : D} {v : Value} (hx : Rel (k.R X) k.nid v x) (h : strD P k.h s d x = some r) : ∃ u, (convert s d v).run P k.w = .ok u k.w ∧ Rel (k.R X) k.nid u r := by
 unfold strD at h
 split at h
 ·rename_i e hs hd
  split at h
  ·rename_i he
   split at h
   ·rename_i es hsrc
    split at h
    ·rename_i l hl
     cases h
     obtain ⟨e1, e2⟩ := bytesOf_get es l hl
     refine ⟨_, ?_, .str _ _⟩
     have hlen : ∀ c ∈ es, c.length = 1 := fun c hc => by
      rw [e1] at hc
      obtain ⟨n, _, rfl⟩ := List.mem_map.1 hc
      rfl
     rcases src_sound hg hx hsrc (sz := 1) (by omega) hlen with ⟨rfl, rfl⟩ | ⟨a, c, news, rfl, h1, h2, h3⟩
     ·rw [run_convert_bytes_string _ _ _ e _ _ _ hs he hd]
      simp [bytesOf] at hl; subst hl
      rfl
     ·have hll : l.length = es.length := by rw [e2]; simp
      rw [← hll]
      rw [run_convert_bytes_string k.w s d e (some a) l.length c hs he hd]
      have hnews : news = (es.map numOf).map (Value.int .u8) := by
       apply List.ext_getElem?
       intro i
       rw [Nat.mul_one] at h1
       rcases Nat.lt_or_ge i es.length with hi | hi
       ·obtain ⟨u, hu, hru⟩ := h3 i es[i] 0 (.int .u8 ((es.map numOf)[i]'(by simpa using hi))) (List.getElem?_eq_getElem hi) (by
         have : es[i]? = ((es.map numOf).map (fun n => [D.int .u8 n]))[i]? := by rw [← e1]
         rw [List.getElem?_eq_getElem hi] at this
         have h5 : es[i] = [D.int .u8 ((es.map numOf)[i]'(by simpa using hi))] := by
          simp at this
          rw [List.getElem?_eq_getElem hi] at this
          simpa using this
         rw [h5]; rfl)
        cases hru
        rw [Nat.mul_one, Nat.add_zero] at hu
        rw [hu]; simp [List.getElem?_eq_getElem hi]
       ·rw [List.getElem?_eq_none (by omega), List.getElem?_eq_none (by simpa using hi)]
      have hload := run_loadCells_list (P := P) k.w a ((es.map numOf).map (Value.int .u8)) (fun j v hj => h2 j v (by rw [hnews]; exact hj))
      have hlen2 : ((es.map numOf).map (Value.int .u8)).length = l.length := by simp [hll]
      rw [hlen2] at hload
      rw [run_bytesToString k.w a l.length c _ hload, foldl_push_bytes]
      congr 1
      rw [e2]
      simp [ByteArray.empty, ByteArray.emptyWithCapacity]
      rfl
    ·cases h
   ·cases h
  ·cases h
 ·cases h

def opR (P : Program) (op : Op) (ρ : Operand → D) (h : H) : Option D :=
 match op with
 | .build t parts => buildD P h t (parts.toList.map fun p => (p.1, ρ p.2))
 | .convert s d x =>
  match strD P h s d (ρ x) with
  | some r => some r
  | none => opQ P (.convert s d x) ρ h
 | op => opQ P op ρ h

theorem opR_sound (hg : Good X k) {a : Act} {o : Oper} {ρ : Operand → D} (hρ : ∀ x, Rel (k.R X) k.nid (a.eval x) (ρ x)) {d : D} (h : opR P o.op ρ k.h = some d) :
  ∃ v, (execOp a.eval o).run P k.w = .ok (.value v) k.w ∧ Rel (k.R X) k.nid v d := by
 unfold opR at h
 split at h
 ·rename_i t parts hop
  obtain ⟨v, h1, h2⟩ := run_buildD hg hρ h
  refine ⟨v, ?_, h2⟩
  unfold execOp
  rw [hop]
  exact ok_bind_value _ _ _ _ _ h1
 ·rename_i s dd x hop
  split at h
  ·rename_i r hr
   cases h
   obtain ⟨u, h1, h2⟩ := run_strD hg (hρ x) hr
   refine ⟨u, ?_, h2⟩
   unfold execOp
   rw [hop]
   exact ok_bind_value _ _ _ _ _ h1
  ·rw [← hop] at h
   exact opQ_sound hg hρ h
 ·exact opQ_sound hg hρ h

end
end Go.Sx

/- Sx, part G: append. Own work. -/
namespace Go.Sx
section
variable {P : Program} {X : Nat → Prop} {k : Cx}

def okSrc (sz : Nat) (xs : List (List D)) : Bool := xs.all fun e => Nat.beq e.length sz && (e.all oneD && D.ltL 0 e)

def appE (P : Program) (h : H) (nid : Nat) (t t' : TypeId) (s x : D) : Option (D × H × Nat) :=
 match P.underlying t, srcD h x with
 | some (.slice e), some xs =>
  match sizeT P e, zeroD P e with
  | some sz, some zs =>
   if t = t' ∧ zs.length = sz ∧ 0 < sz ∧ okSrc sz xs = true then
    match s with
    | .nils => if xs.length * P.bytesOf e ≤ 140737488355328 ∧ xs.length ≤ 140737488355328 then some (.osl nid xs.length, (nid, .arr e sz xs) :: h, nid + 1) else none
    | .osl b n =>
     match hget h b with
     | some (.arr ty sz' es) =>
      if ty = e ∧ sz' = sz ∧ n = es.length ∧ (es.length + xs.length) * P.bytesOf e ≤ 140737488355328 ∧ es.length + xs.length ≤ 140737488355328 then
       some (.osl b (es.length + xs.length), hset h b (.arr ty sz (es ++ xs)), nid)
      else none
     | _ => none
    | _ => none
   else none
  | _, _ => none
 | _, _ => none

theorem okSrc_len {sz : Nat} {xs : List (List D)} (h : okSrc sz xs = true) : ∀ e ∈ xs, e.length = sz := fun e he => by
 have := List.all_eq_true.1 h e he
 simp only [Bool.and_eq_true] at this
 exact Nat.eq_of_beq_eq_true this.1

theorem okSrc_one {sz : Nat} {xs : List (List D)} (h : okSrc sz xs = true) : ∀ e ∈ xs, ∀ d ∈ e, oneD d = true := fun e he d hd => by
 have := List.all_eq_true.1 h e he
 simp only [Bool.and_eq_true] at this
 exact List.all_eq_true.1 this.2.1 d hd

theorem okSrc_pure {sz : Nat} {xs : List (List D)} (h : okSrc sz xs = true) : ∀ e ∈ xs, D.ltL 0 e = true := fun e he => by
 have := List.all_eq_true.1 h e he
 simp only [Bool.and_eq_true] at this
 exact this.2.2

theorem run_append_room_at {P : Program} (w : World) (t ty e : TypeId) (i : TypeInfo) (ht : P.underlying t = some (.slice e)) (hi : P.info? e = some i)
  (g go sLen sCap : Nat) (cur : Array Value) (hg : w.heap[g]? = some (.cells cur e (0, 0)))
  (a : Addr) (m c : Nat) (news : List Value) (hl : news.length = m * i.size) (hnews : ∀ j u, news[j]? = some u → w.cell? (a.add j) = some u) (h1 : ∀ u ∈ news, u.oneCell' = true)
  (hroom : sLen + m ≤ sCap) (hfit : go + sLen * i.size + news.length ≤ cur.size) :
  (Builtin.append_ #[t, t] ty #[.slice (some ⟨g, go, none⟩) sLen sCap, .slice (some a) m c]).run P w =
   .ok (.slice (some ⟨g, go, none⟩) (sLen + m) sCap) (w.setRow g (cur.toList.take (go + sLen * i.size) ++ news ++ cur.toList.drop (go + sLen * i.size + news.length)).toArray) := by
 have hf := run_firstCells_some (P := P) w i.size m a m c news hl hnews
 have hst := run_storeCells_at P g (go + sLen * i.size) e news 0 cur w hg (by simpa using hfit) h1
 simp only [Nat.add_zero] at hst
 simp [Builtin.append_, run_underlying ht, sizeOf, typeInfo, hi, Builtin.lenOf, hroom, hf, Addr.add_lit, hst]

theorem arr_grown_at (hg : Good X k) {b : Nat} {ty : TypeId} {sz : Nat} {es xs : List (List D)} (hb : hget k.h b = some (.arr ty sz es)) (hx : ∀ e ∈ xs, e.length = sz ∧ D.nmL e = true)
  {w' : World} {g go cap : Nat} {vs : List Value} (hxl : 0 < xs.length)
  (hos : w'.os = k.w.os) (htape : w'.tape = k.w.tape) (hout : w'.output = k.w.output) (hsize : k.w.heap.size ≤ w'.heap.size)
  (hheap : ∀ c, c < k.w.heap.size → k.own b ≠ some c → w'.heap[c]? = k.w.heap[c]?)
  (hgb : k.own b = some g ∨ (k.w.heap.size ≤ g ∧ g < w'.heap.size)) (hrow : w'.heap[g]? = some (.cells vs.toArray ty (0, 0))) (hvl : go + cap * sz ≤ vs.length) (hcap : es.length + xs.length ≤ cap)
  (hr : ∀ (i : Nat) e (j : Nat) d v, (es ++ xs)[i]? = some e → e[j]? = some d → vs[go + (i * sz + j)]? = some v → Rel (k.R X) 0 v d) :
  Good X (k.upd b (.arr ty sz (es ++ xs)) w' (.slice (some ⟨g, go, none⟩) (es.length + xs.length) cap)) ∧
  Le k (k.upd b (.arr ty sz (es ++ xs)) w' (.slice (some ⟨g, go, none⟩) (es.length + xs.length) cap)) := by
 refine hg.upd hb hos htape hout hsize hheap (fun c hc => ?_) (fun m' hm' => ?_) (fun hle => ⟨?_, .inr ⟨g, go, cap, vs, ?_, hrow, hvl, by simpa using hcap, fun i e j d v a b c => (hr i e j d v a b c).le0 hle⟩⟩)
 ·rw [own_of_hget (blk := some (.arr ty sz (es ++ xs))) (by simp [Cx.upd, hget_hset])] at hc
  simp [ownOf, Cx.upd, slBlk] at hc
  subst hc; exact hgb
 ·simp only [lnOf, List.length_append, Option.some.injEq] at hm'
  exact ⟨es.length, rfl, by omega, fun e => by omega⟩
 ·intro e he
  rcases List.mem_append.1 he with h | h
  ·exact (hg.ok b _ hb).1 e h
  ·exact hx e h
 ·simp [Cx.upd]

theorem arr_grown (hg : Good X k) {b : Nat} {ty : TypeId} {sz : Nat} {es xs : List (List D)} (hb : hget k.h b = some (.arr ty sz es)) (hx : ∀ e ∈ xs, e.length = sz ∧ D.nmL e = true)
  {w' : World} {g cap : Nat} {vs : List Value} (hxl : 0 < xs.length)
  (hos : w'.os = k.w.os) (htape : w'.tape = k.w.tape) (hout : w'.output = k.w.output) (hsize : k.w.heap.size ≤ w'.heap.size)
  (hheap : ∀ c, c < k.w.heap.size → k.own b ≠ some c → w'.heap[c]? = k.w.heap[c]?)
  (hgb : k.own b = some g ∨ (k.w.heap.size ≤ g ∧ g < w'.heap.size)) (hrow : w'.heap[g]? = some (.cells vs.toArray ty (0, 0))) (hvl : vs.length = cap * sz) (hcap : es.length + xs.length ≤ cap)
  (hr : ∀ (i : Nat) e (j : Nat) d v, (es ++ xs)[i]? = some e → e[j]? = some d → vs[i * sz + j]? = some v → Rel (k.R X) 0 v d) :
  Good X (k.upd b (.arr ty sz (es ++ xs)) w' (.slice (some ⟨g, 0, none⟩) (es.length + xs.length) cap)) ∧
  Le k (k.upd b (.arr ty sz (es ++ xs)) w' (.slice (some ⟨g, 0, none⟩) (es.length + xs.length) cap)) :=
 arr_grown_at (go := 0) hg hb hx hxl hos htape hout hsize hheap hgb hrow (by rw [Nat.zero_add]; exact Nat.le_of_eq hvl.symm) hcap fun i e j d v a b c => hr i e j d v a b (by rw [Nat.zero_add] at c; exact c)

theorem zeroCells_length (z : Array Value) (n : Nat) : (Builtin.zeroCells z n).toList.length = n * z.size := by simp [Builtin.zeroCells]

theorem run_append_zero (w : World) (t t' ty e : TypeId) (i : TypeInfo) (ht : P.underlying t = some (.slice e)) (hi : P.info? e = some i) (ht' : ∃ e', P.underlying t' = some (.slice e'))
  (base : Option Addr) (n cap : Nat) (hn : n ≤ cap) (x : Value) (hx : x = .slice none 0 0 ∨ ∃ a c, x = .slice (some a) 0 c) :
  (Builtin.append_ #[t, t'] ty #[.slice base n cap, x]).run P w = .ok (.slice base n cap) w := by
 obtain ⟨e', ht'⟩ := ht'
 have hl : (Builtin.lenOf x).run P w = .ok 0 w := by rcases hx with rfl | ⟨a, c, rfl⟩ <;> rfl
 have hf : (Builtin.firstCells i.size 0 x).run P w = .ok #[] w := by
  rcases hx with rfl | ⟨a, c, rfl⟩
  ·rfl
  ·simp [Builtin.firstCells, loadCells, loadCellsFrom]
 cases base with
 | none => simp [Builtin.append_, run_underlying ht, run_underlying ht', sizeOf, typeInfo, hi, hl, hn, hf]
 | some a => simp [Builtin.append_, run_underlying ht, run_underlying ht', sizeOf, typeInfo, hi, hl, hn, hf, storeCells]

theorem run_appE (hg : Good X k) {t t' ty : TypeId} {s x d : D} {vs vx : Value} {h' : H} {nid' : Nat} (hs : Rel (k.R X) k.nid vs s) (hx : Rel (k.R X) k.nid vx x)
  (h : appE P k.h k.nid t t' s x = some (d, h', nid')) :
  ∃ v k', (Builtin.append_ #[t, t'] ty #[vs, vx]).run P k.w = .ok v k'.w ∧ k'.h = h' ∧ k'.nid = nid' ∧ Good X k' ∧ Le k k' ∧ Rel (k'.R X) k'.nid v d := by
 unfold appE at h
 split at h
 ·rename_i e xs hu hsrc
  split at h
  ·rename_i sz zs hsz hz
   split at h
   ·rename_i hc
    obtain ⟨rfl, hzl, hsz0, hok⟩ := hc
    have hlen := okSrc_len hok
    have hlen2 : ∀ e ∈ xs, e.length = sz ∧ D.nmL e = true := fun e he => ⟨hlen e he, D.nmL_lt (okSrc_pure hok e he)⟩
    have hone := okSrc_one hok
    have hpure := okSrc_pure hok
    have hsrc : (vx = .slice none 0 0 ∧ xs = []) ∨ ∃ (a : Addr) (c : Nat) (news : List Value), vx = .slice (some a) xs.length c ∧ news.length = xs.length * sz ∧ (∀ j u, news[j]? = some u → k.w.cell? (a.add j) = some u) ∧
      ∀ (i : Nat) e (j : Nat) d, xs[i]? = some e → e[j]? = some d → ∃ u, news[i * sz + j]? = some u ∧ Rel (k.R X) 0 u d := by
     rcases src_sound hg hx hsrc hsz0 hlen with h | ⟨a, c, news, h1, h2, h3, h4⟩
     ·exact .inl h
     ·exact .inr ⟨a, c, news, h1, h2, h3, fun i e j d he hd => by
       obtain ⟨u, hu1, hu2⟩ := h4 i e j d he hd
       exact ⟨u, hu1, hu2.roll (D.ltL_get (hpure e (List.mem_of_getElem? he)) j d hd)⟩⟩
    obtain ⟨it, hit⟩ : ∃ it, P.info? e = some it := by
     cases hq : P.info? e with
     | none => simp [sizeT, hq] at hsz
     | some it => exact ⟨it, rfl⟩
    have hits : it.size = sz := by simpa [sizeT, hit] using hsz
    have hby : P.bytesOf e = it.bytes := by simp [Program.bytesOf, hit]
    obtain ⟨z, hzz, hzc⟩ : ∃ z, it.zero = some z ∧ z.cells.size = sz := by
     unfold zeroD at hz
     rw [hit] at hz
     dsimp only at hz
     split at hz
     ·rename_i z hq
      cases hz
      exact ⟨z, hq, by simpa using hzl⟩
     ·cases hz
    have hone' : ∀ (a : Addr) (c : Nat) (news : List Value), news.length = xs.length * sz →
      (∀ (i : Nat) e (j : Nat) d, xs[i]? = some e → e[j]? = some d → ∃ u, news[i * sz + j]? = some u ∧ Rel (k.R X) 0 u d) → ∀ u ∈ news, u.oneCell' = true := fun a c news hnl hnr u hu => by
     obtain ⟨q, hq⟩ := List.getElem?_of_mem hu
     have hql := lt_of_getElem? hq
     have hi : q / sz < xs.length := Nat.div_lt_of_lt_mul (by rw [Nat.mul_comm]; omega)
     have hj : q % sz < sz := Nat.mod_lt _ hsz0
     have hel := hlen _ (List.getElem_mem hi)
     obtain ⟨u', hu', hr⟩ := hnr (q / sz) _ (q % sz) _ (List.getElem?_eq_getElem hi) (List.getElem?_eq_getElem (by omega))
     have hqq : q / sz * sz + q % sz = q := by have := Nat.div_add_mod q sz; rw [Nat.mul_comm] at this; exact this
     rw [hqq, hq] at hu'
     cases hu'
     exact hr.one (hone _ (List.getElem_mem hi) _ (List.getElem_mem _))
    split at h
    ·-- onto nil
     split at h
     ·rename_i hbd
      cases h
      cases hs
      have hnil : vx = .slice none 0 0 ∨ (∃ a c, vx = .slice (some a) 0 c) → xs = [] → ∃ v k', (Builtin.append_ #[t, t] ty #[.slice none 0 0, vx]).run P k.w = .ok v k'.w ∧ k'.h = (k.nid, .arr e sz xs) :: k.h ∧ k'.nid = k.nid + 1 ∧ Good X k' ∧ Le k k' ∧ Rel (k'.R X) k'.nid v (.osl k.nid xs.length) := fun hv hxs => by
       subst hxs
       refine ⟨_, k.nilArr e sz, run_append_zero k.w t t ty e it hu hit ⟨e, hu⟩ none 0 0 (Nat.le_refl _) vx hv, rfl, rfl, nilArr_good hg e sz, nilArr_le hg e sz, .osl _ _ _ _ (by simp [Cx.nilArr]) fun m hm => ?_⟩
       simp [Cx.R, Cx.nilArr, hget, lnOf] at hm
       subst hm
       exact ⟨Nat.le_refl _, fun _ => by simp [Cx.R, Cx.nilArr]⟩
      rcases hsrc with ⟨hv, hxs⟩ | ⟨a, c, news, hv, hnl, hnews, hnr⟩
      ·exact hnil (.inl hv) hxs
      ·by_cases hm0 : xs.length = 0
       ·exact hnil (.inr ⟨a, c, by rw [hv, hm0]⟩) (List.eq_nil_of_length_eq_zero hm0)
       ·subst hv
        have hap := run_append_nil (P := P) k.w t ty e it z hu hit hzz a xs.length c news (by rw [hits]; exact hnl) hnews (by omega) (by omega) (by rw [← hby]; omega)
        have hcap := grownCap_ge k.w xs.length 0 e
        have hdle : Le k { k with w := k.w.drew } := le_world rfl rfl rfl (Nat.le_refl _) fun _ _ => rfl
        have hdg : Good X { k with w := k.w.drew } := hg.world hdle fun _ _ => rfl
        have hvsl : (news ++ (Builtin.zeroCells z.cells (grownCap k.w xs.length 0 e - xs.length)).toList).length = grownCap k.w xs.length 0 e * sz := by
         rw [List.length_append, hnl, zeroCells_length, hzc, ← Nat.add_mul]; congr 1; omega
        have hrel : ∀ (i : Nat) x (j : Nat) d v, xs[i]? = some x → x[j]? = some d → (news ++ (Builtin.zeroCells z.cells (grownCap k.w xs.length 0 e - xs.length)).toList)[i * sz + j]? = some v → Rel (k.R X) 0 v d := fun i x j d v h1 h2 h3 => by
         obtain ⟨u, hu1, hu2⟩ := hnr i x j d h1 h2
         rw [List.getElem?_append_left (lt_of_getElem? hu1), hu1] at h3
         cases h3; exact hu2
        refine ⟨.slice (some ⟨k.w.heap.size, 0, none⟩) xs.length (grownCap k.w xs.length 0 e), Cx.newArr { k with w := k.w.drew } (news ++ (Builtin.zeroCells z.cells (grownCap k.w xs.length 0 e - xs.length)).toList) e sz xs (grownCap k.w xs.length 0 e), ?_, rfl, rfl,
         newArr_good hdg _ _ _ _ _ hlen2 hvsl hcap (fun i x j d v h1 h2 h3 => (hrel i x j d v h1 h2 h3).le0 hdle), hdle.trans (newArr_le hdg _ _ _ _ _), .osl _ _ _ _ (by simp [Cx.newArr]) fun m hm => ?_⟩
        ·rw [hap]
         have : (news ++ (Builtin.zeroCells z.cells (grownCap k.w xs.length 0 e - xs.length)).toList).toArray = news.toArray ++ Builtin.zeroCells z.cells (grownCap k.w xs.length 0 e - xs.length) := by
          apply Array.ext'; simp
         simp only [Cx.newArr, this]
        ·simp [Cx.R, Cx.newArr, hget, lnOf] at hm
         subst hm
         exact ⟨Nat.le_refl _, fun _ => by simp [Cx.R, Cx.newArr]⟩
     ·cases h
    ·-- onto an array of the function's own
     rename_i b n
     split at h
     ·rename_i ty' sz' es hb
      split at h
      ·rename_i hcond
       obtain ⟨rfl, rfl, hn, hbd, hbd2⟩ := hcond
       cases h
       have hblt := hg.key b _ hb
       cases hs with
       | osl _ _ _ _ hb' hv =>
        have hv2 := (hv es.length (by simp [Cx.R, hb, lnOf])).2 hn
        have hsv : (k.R X).sv b = k.sv b := rfl
        rw [hsv] at hv2
        obtain ⟨h0, h1⟩ := hg.ok b _ hb
        have hrelosl : ∀ w' g go cap, Rel (Cx.R X (k.upd b (.arr ty' sz' (es ++ xs)) w' (.slice (some ⟨g, go, none⟩) (es.length + xs.length) cap))) k.nid (.slice (some ⟨g, go, none⟩) (es.length + xs.length) cap) (.osl b (es.length + xs.length)) := fun w' g go cap => by
         refine .osl _ _ _ _ hb' fun m hm => ?_
         simp [Cx.R, Cx.upd, hget_hset, lnOf] at hm
         subst hm
         exact ⟨Nat.le_refl _, fun _ => by simp [Cx.R, Cx.upd]⟩
        -- nothing is appended
        have hnone : (vx = .slice none 0 0 ∨ ∃ a c, vx = .slice (some a) 0 c) → xs = [] → ∃ v k', (Builtin.append_ #[t, t] ty #[vs, vx]).run P k.w = .ok v k'.w ∧ k'.h = hset k.h b (.arr ty' sz' (es ++ xs)) ∧ k'.nid = k.nid ∧ Good X k' ∧ Le k k' ∧ Rel (k'.R X) k'.nid v (.osl b (es.length + xs.length)) := fun hvx hxs => by
         subst hxs
         have hup := hg.upd (blk := .arr ty' sz' (es ++ [])) (w' := k.w) (v' := k.sv b) hb rfl rfl rfl (Nat.le_refl _) (fun _ _ _ => rfl)
          (fun c hc => .inl (by
           rw [own_of_hget (blk := some (.arr ty' sz' (es ++ []))) (by simp [Cx.upd, hget_hset])] at hc
           rw [own_of_hget hb]; simpa [ownOf, Cx.upd] using hc))
          (fun m hm => ⟨es.length, rfl, by simp [lnOf] at hm; omega, fun _ => rfl⟩)
          (fun hle => by
           have hbo := (hg.ok b _ hb).le hle rfl (by simp [Cx.upd]) (fun _ _ => rfl)
           simpa using hbo)
         refine ⟨vs, k.upd b (.arr ty' sz' (es ++ [])) k.w (k.sv b), ?_, rfl, rfl, hup.1, hup.2, .osl _ _ _ _ hb' fun m hm => ?_⟩
         ·rcases h1 with ⟨h1, h2⟩ | ⟨bb, bo, cap, vv, a1, a2, a3, a4, a5⟩
          ·rw [hv2, h1]; exact run_append_zero k.w t t ty ty' it hu hit ⟨ty', hu⟩ none 0 0 (Nat.le_refl _) vx hvx
          ·rw [hv2, a1]; exact run_append_zero k.w t t ty ty' it hu hit ⟨ty', hu⟩ _ _ _ a4 vx hvx
         ·simp [Cx.R, Cx.upd, hget_hset, lnOf] at hm
          subst hm
          exact ⟨by simp, fun _ => by simp [Cx.R, Cx.upd, hv2]⟩
        rcases hsrc with ⟨hvx, hxs⟩ | ⟨a, c, news, hvx, hnl, hnews, hnr⟩
        ·exact hnone (.inl hvx) hxs
        ·by_cases hm0 : xs.length = 0
         ·exact hnone (.inr ⟨a, c, by rw [hvx, hm0]⟩) (List.eq_nil_of_length_eq_zero hm0)
         ·subst hvx
          rcases h1 with ⟨h1, h2⟩ | ⟨bb, bo, cap, vv, a1, a2, a3, a4, a5⟩
          ·-- it was nil
           subst h2
           rw [hv2, h1]
           have hap := run_append_nil (P := P) k.w t ty ty' it z hu hit hzz a xs.length c news (by rw [hits]; exact hnl) hnews (by omega) (by simp at hbd2; omega) (by rw [← hby]; simp at hbd; omega)
           have hcap := grownCap_ge k.w xs.length 0 ty'
           have hrow : (k.w.drew.alloc (.cells (news.toArray ++ Builtin.zeroCells z.cells (grownCap k.w xs.length 0 ty' - xs.length)) ty')).heap[k.w.heap.size]? =
             some (.cells (news ++ (Builtin.zeroCells z.cells (grownCap k.w xs.length 0 ty' - xs.length)).toList).toArray ty' (0, 0)) := by
            rw [show (k.w.heap.size) = k.w.drew.heap.size from rfl, alloc_heap_new]
            congr 2; apply Array.ext'; simp
           have hup := arr_grown (w' := k.w.drew.alloc (.cells (news.toArray ++ Builtin.zeroCells z.cells (grownCap k.w xs.length 0 ty' - xs.length)) ty')) (cap := grownCap k.w xs.length 0 ty') hg hb hlen2 (by omega) rfl rfl rfl (by rw [alloc_size]; exact Nat.le_succ _)
            (fun c' hc' _ => alloc_heap k.w.drew _ c' hc') (.inr ⟨Nat.le_refl _, by rw [alloc_size]; exact Nat.lt_succ_self _⟩) hrow
            (by rw [List.length_append, hnl, zeroCells_length, hzc, ← Nat.add_mul]; congr 1; omega) (by simpa using hcap)
            (fun i x j d v q1 q2 q3 => by
             simp at q1
             obtain ⟨u, hu1, hu2⟩ := hnr i x j d q1 q2
             rw [List.getElem?_append_left (lt_of_getElem? hu1), hu1] at q3
             cases q3; exact hu2)
           refine ⟨_, _, ?_, ?_, ?_, hup.1, hup.2, hrelosl _ _ _ _⟩ <;> first | rfl | skip
           rw [hap]; simp [Cx.upd]
          ·by_cases hroom : es.length + xs.length ≤ cap
           ·-- there is room
            have hap := run_append_room_at (P := P) k.w t ty ty' it hu hit bb bo es.length cap vv.toArray a2 a xs.length c news (by rw [hits]; exact hnl) hnews (hone' a c news hnl hnr) hroom
             (by rw [hits, hnl, Nat.add_assoc, ← Nat.add_mul, List.size_toArray]; exact Nat.le_trans (Nat.add_le_add_left (Nat.mul_le_mul_right _ hroom) _) a3)
            rw [hits] at hap
            have hvl : bo + es.length * sz' + news.length ≤ vv.length := by rw [hnl, Nat.add_assoc, ← Nat.add_mul]; exact Nat.le_trans (Nat.add_le_add_left (Nat.mul_le_mul_right _ hroom) _) a3
            have hrow := setRow_heap k.w bb vv.toArray (vv.take (bo + es.length * sz') ++ news ++ vv.drop (bo + es.length * sz' + news.length)).toArray ty' (0, 0) a2
            have hup := arr_grown_at (cap := cap) (go := bo) hg hb hlen2 (by omega) (w' := k.w.setRow bb (vv.take (bo + es.length * sz') ++ news ++ vv.drop (bo + es.length * sz' + news.length)).toArray) (g := bb) rfl rfl rfl
             (by rw [setRow_size']; exact Nat.le_refl _) (fun c' hc' hne => setRow_other _ _ _ _ fun e' => hne (by rw [own_of_hget hb, e']; simp [ownOf, a1, slBlk]))
             (.inl (by rw [own_of_hget hb]; simp [ownOf, a1, slBlk])) hrow
             (by simp only [List.length_append, List.length_take, List.length_drop]; omega) hroom
             (fun i x j d v q1 q2 q3 => by
              rcases Nat.lt_or_ge i es.length with hi | hi
              ·rw [List.getElem?_append_left hi] at q1
               have hxl := (h0 x (List.mem_of_getElem? q1)).1
               have hj := lt_of_getElem? q2
               have hlt := mul_add_lt hi (show j < sz' by omega)
               rw [List.append_assoc, List.getElem?_append_left (by simp; omega), List.getElem?_take, if_pos (by omega)] at q3
               exact a5 i x j d v q1 q2 q3
              ·rw [List.getElem?_append_right hi] at q1
               obtain ⟨u, hu1, hu2⟩ := hnr (i - es.length) x j d q1 q2
               have hul := lt_of_getElem? hu1
               have hij : i * sz' + j = es.length * sz' + ((i - es.length) * sz' + j) := by
                rw [← Nat.add_assoc, ← Nat.add_mul]; congr 2; omega
               have hij : bo + (i * sz' + j) = bo + es.length * sz' + ((i - es.length) * sz' + j) := by omega
               rw [hij, List.getElem?_append_left (by simp; omega), List.getElem?_append_right (by simp; omega)] at q3
               simp only [List.length_take] at q3
               rw [show bo + es.length * sz' + ((i - es.length) * sz' + j) - min (bo + es.length * sz') vv.length = (i - es.length) * sz' + j by omega, hu1] at q3
               cases q3; exact hu2)
            refine ⟨_, _, ?_, ?_, ?_, hup.1, hup.2, hrelosl _ _ _ _⟩ <;> first | rfl | skip
            rw [hv2, a1, hap]; simp [Cx.upd]
           ·-- a new array
            have hbd' : Builtin.nextslicecap (es.length + xs.length) cap * it.bytes ≤ 281474976710656 := growslice_fits (by omega) (by rw [← hby]; exact hbd)
            have hol : ((vv.drop bo).take (es.length * sz')).length = es.length * sz' := by
             rw [List.length_take, List.length_drop]; have := Nat.mul_le_mul_right sz' a4; omega
            have hap := run_append_grow (P := P) k.w t ty ty' it z hu hit hzz ⟨bb, bo, none⟩ es.length cap ((vv.drop bo).take (es.length * sz')) (by rw [hits]; exact hol)
             (fun j v hj => by
              have hjl := lt_of_getElem? hj
              rw [hol] at hjl
              rw [List.getElem?_take, if_pos hjl, List.getElem?_drop] at hj
              rw [add_none, row_cell a2]; exact hj)
             a xs.length c news (by rw [hits]; exact hnl) hnews (by omega) (by omega) hbd'
            have hcap := grownCap_ge k.w (es.length + xs.length) cap ty'
            have hrow : (k.w.drew.alloc (.cells (((vv.drop bo).take (es.length * sz')).toArray ++ news.toArray ++ Builtin.zeroCells z.cells (grownCap k.w (es.length + xs.length) cap ty' - (es.length + xs.length))) ty')).heap[k.w.heap.size]? =
              some (.cells ((vv.drop bo).take (es.length * sz') ++ news ++ (Builtin.zeroCells z.cells (grownCap k.w (es.length + xs.length) cap ty' - (es.length + xs.length))).toList).toArray ty' (0, 0)) := by
             rw [show (k.w.heap.size) = k.w.drew.heap.size from rfl, alloc_heap_new]
             congr 2; apply Array.ext'; simp
            have hup := arr_grown (w' := k.w.drew.alloc (.cells (((vv.drop bo).take (es.length * sz')).toArray ++ news.toArray ++ Builtin.zeroCells z.cells (grownCap k.w (es.length + xs.length) cap ty' - (es.length + xs.length))) ty')) (cap := grownCap k.w (es.length + xs.length) cap ty') hg hb hlen2 (by omega) rfl rfl rfl (by rw [alloc_size]; exact Nat.le_succ _)
             (fun c' hc' _ => alloc_heap k.w.drew _ c' hc') (.inr ⟨Nat.le_refl _, by rw [alloc_size]; exact Nat.lt_succ_self _⟩) hrow
             (by rw [List.length_append, List.length_append, hol, hnl, zeroCells_length, hzc, ← Nat.add_mul, ← Nat.add_mul]; congr 1; omega) hcap
             (fun i x j d v q1 q2 q3 => by
              rcases Nat.lt_or_ge i es.length with hi | hi
              ·rw [List.getElem?_append_left hi] at q1
               have hxl := (h0 x (List.mem_of_getElem? q1)).1
               have hj := lt_of_getElem? q2
               have hlt := mul_add_lt hi (show j < sz' by omega)
               rw [List.append_assoc, List.getElem?_append_left (by rw [hol]; exact hlt), List.getElem?_take, if_pos hlt, List.getElem?_drop] at q3
               exact a5 i x j d v q1 q2 q3
              ·rw [List.getElem?_append_right hi] at q1
               obtain ⟨u, hu1, hu2⟩ := hnr (i - es.length) x j d q1 q2
               have hul := lt_of_getElem? hu1
               have hij : i * sz' + j = es.length * sz' + ((i - es.length) * sz' + j) := by
                rw [← Nat.add_assoc, ← Nat.add_mul]; congr 2; omega
               rw [hij, List.getElem?_append_left (by rw [List.length_append, hol]; omega), List.getElem?_append_right (by rw [hol]; omega), hol,
                show es.length * sz' + ((i - es.length) * sz' + j) - es.length * sz' = (i - es.length) * sz' + j by omega, hu1] at q3
               cases q3; exact hu2)
            refine ⟨_, _, ?_, ?_, ?_, hup.1, hup.2, hrelosl _ _ _ _⟩ <;> first | rfl | skip
            rw [hv2, a1, hap]; simp [Cx.upd]
      ·cases h
     ·cases h
    ·cases h
   ·cases h
  ·cases h
 ·cases h

end
end Go.Sx

/- Sx, part G2: slices of own arrays, arrays that are made. Own work. -/
namespace Go.Sx

def herase : H → Nat → H
 | [], _ => []
 | (i, b) :: r, k => if k = i then herase r k else (i, b) :: herase r k

theorem herase_get : ∀ (h : H) (k j : Nat), hget (herase h k) j = if j = k then none else hget h j
 | [], k, j => by simp [herase, hget]
 | (i, b) :: r, k, j => by
  simp only [herase]
  by_cases hk : k = i
  ·subst hk
   rw [if_pos rfl, herase_get r k j]
   by_cases hj : j = k <;> simp [hj, hget]
  ·rw [if_neg hk]
   simp only [hget, herase_get r k j]
   by_cases hj : j = i
   ·subst hj; simp [Ne.symm hk]
   ·simp [hj]

section
variable {P : Program} {X : Nat → Prop} {k : Cx}

def Cx.subArr (k : Cx) (b : Nat) (v : Value) (ty : TypeId) (sz : Nat) (es : List (List D)) : Cx :=
 { w := k.w, β := k.β, sv := fun i => if i = k.nid then v else k.sv i, h := (k.nid, .arr ty sz es) :: herase k.h b, nid := k.nid + 1 }

theorem subArr_own {b : Nat} {v : Value} {ty : TypeId} {sz : Nat} {es : List (List D)} (id : Nat) :
  (k.subArr b v ty sz es).own id = if id = k.nid then slBlk v else if id = b then none else k.own id := by
 simp only [Cx.own, Cx.subArr, hget]
 by_cases h : id = k.nid
 ·simp [h, ownOf]
 ·simp only [if_neg h, herase_get]
  by_cases hb : id = b
  ·simp [hb, ownOf]
  ·simp only [if_neg hb]
   cases hq : hget k.h id with
   | none => simp [ownOf]
   | some blk => cases blk <;> simp [ownOf, h]

theorem subArr_le (hg : Good X k) {b : Nat} {v : Value} {ty : TypeId} {sz : Nat} {es es0 : List (List D)} (hb : hget k.h b = some (.arr ty sz es0)) (hv : slBlk v = slBlk (k.sv b)) : Le k (k.subArr b v ty sz es) where
 nid := Nat.le_succ _
 os := rfl
 tape := rfl
 output := rfl
 size := Nat.le_refl _
 β := fun id hid => rfl
 arr := fun id hid m' hm' => by
  simp only [Cx.subArr, hget] at hm'
  rw [if_neg (by omega), herase_get] at hm'
  split at hm'
  ·simp [lnOf] at hm'
  ·exact ⟨m', hm', Nat.le_refl _, fun _ => by simp only [Cx.subArr]; rw [if_neg (by omega)]⟩
 heap := fun b hb _ => rfl
 mb := fun c hc ⟨id, hid⟩ => by
  rw [subArr_own] at hid
  split at hid
  ·exact ⟨b, by rw [own_of_hget hb]; simpa [ownOf, hv] using hid⟩
  ·split at hid
   ·cases hid
   ·exact ⟨id, hid⟩

theorem subArr_good (hg : Good X k) {b : Nat} {v : Value} {ty : TypeId} {sz : Nat} {es es0 : List (List D)} (hb : hget k.h b = some (.arr ty sz es0)) (hv : slBlk v = slBlk (k.sv b))
  (he : ∀ e ∈ es, e.length = sz ∧ D.nmL e = true)
  (hok : (v = .slice none 0 0 ∧ es = []) ∨ ∃ bb off cap vs, v = .slice (some ⟨bb, off, none⟩) es.length cap ∧ k.w.heap[bb]? = some (.cells (List.toArray vs) ty (0, 0)) ∧ off + cap * sz ≤ vs.length ∧ es.length ≤ cap ∧
   ∀ (i : Nat) e (j : Nat) d v, es[i]? = some e → e[j]? = some d → vs[off + (i * sz + j)]? = some v → Rel (k.R X) 0 v d) : Good X (k.subArr b v ty sz es) where
 key := fun id blk h => by
  simp only [Cx.subArr, hget] at h ⊢
  by_cases hi : id = k.nid
  ·omega
  ·rw [if_neg hi, herase_get] at h
   split at h
   ·cases h
   ·have := hg.key id blk h; omega
 inj := fun i j c hi hj => by
  have hob : k.own b = slBlk v := by rw [own_of_hget hb]; simp [ownOf, hv]
  have hbn := hg.key b _ hb
  rw [subArr_own] at hi hj
  by_cases h1 : i = k.nid <;> by_cases h2 : j = k.nid
  ·omega
  ·rw [if_pos h1] at hi; rw [if_neg h2] at hj
   split at hj
   ·cases hj
   ·rename_i hjb
    exact absurd (hg.inj j b c hj (hob.trans hi)) hjb
  ·rw [if_neg h1] at hi; rw [if_pos h2] at hj
   split at hi
   ·cases hi
   ·rename_i hib
    exact absurd (hg.inj i b c hi (hob.trans hj)) hib
  ·rw [if_neg h1] at hi; rw [if_neg h2] at hj
   split at hi
   ·cases hi
   ·split at hj
    ·cases hj
    ·exact hg.inj i j c hi hj
 lt := fun i c hc => by
  have hob : k.own b = slBlk v := by rw [own_of_hget hb]; simp [ownOf, hv]
  rw [subArr_own] at hc
  split at hc
  ·exact hg.lt b c (hob.trans hc)
  ·split at hc
   ·cases hc
   ·exact hg.lt i c hc
 xlt := hg.xlt
 ok := fun id blk h => by
  have hle := subArr_le (es := es) hg hb hv
  by_cases hi : id = k.nid
  ·simp only [Cx.subArr, hget, if_pos hi] at h
   obtain rfl := Option.some.inj h
   refine ⟨he, ?_⟩
   rcases hok with ⟨h1, h2⟩ | ⟨bb, off, cap, vs, h1, h2, h3, h4, h5⟩
   ·exact .inl ⟨by simp [Cx.subArr, hi, h1], h2⟩
   ·exact .inr ⟨bb, off, cap, vs, by simp [Cx.subArr, hi, h1], h2, h3, h4, fun i e j d v a b c => (h5 i e j d v a b c).le0 hle⟩
  ·simp only [Cx.subArr, hget, if_neg hi, herase_get] at h
   split at h
   ·cases h
   ·exact (hg.ok id blk h).le hle rfl (by simp [Cx.subArr, hi]) fun _ _ => rfl

def sliceO (P : Program) (h : H) (nid : Nat) (t : TypeId) (b n : Nat) (lo hi : Option D) : Option (D × H × Nat) :=
 match P.underlying t, hget h b with
 | some (.slice e), some (.arr ty sz es) =>
  match sizeT P e, boundD es.length hi es.length with
  | some sz', some hh =>
   match boundD hh lo 0 with
   | some ll => if sz' = sz ∧ n = es.length then some (.osl nid (hh - ll), (nid, .arr ty sz ((es.take hh).drop ll)) :: herase h b, nid + 1) else none
   | none => none
  | _, _ => none
 | _, _ => none

theorem run_sliceO (hg : Good X k) {t : TypeId} {b n : Nat} {lo hi : Option D} {v : Value} {lov hiv : Option Value} (hx : Rel (k.R X) k.nid v (.osl b n))
  (hlo : (lo = none ∧ lov = none) ∨ ∃ x v, lo = some x ∧ lov = some v ∧ Rel (k.R X) k.nid v x) (hhi : (hi = none ∧ hiv = none) ∨ ∃ x v, hi = some x ∧ hiv = some v ∧ Rel (k.R X) k.nid v x)
  {d : D} {h' : H} {nid' : Nat} (h : sliceO P k.h k.nid t b n lo hi = some (d, h', nid')) :
  ∃ r k', (Instr.sliceAt t v lov hiv none).run P k.w = .ok r k'.w ∧ k'.h = h' ∧ k'.nid = nid' ∧ Good X k' ∧ Le k k' ∧ Rel (k'.R X) k'.nid r d := by
 unfold sliceO at h
 split at h
 ·rename_i e ty sz es hu hb
  split at h
  ·rename_i sz' hh hsz h1
   split at h
   ·rename_i ll h2
    split at h
    ·rename_i hc
     obtain ⟨rfl, hn⟩ := hc
     cases h
     have hle1 := boundD_le h1 (Nat.le_refl _)
     have hle2 := boundD_le h2 (Nat.zero_le _)
     have hlen : ((es.take hh).drop ll).length = hh - ll := by simp; omega
     have hget : ∀ (i : Nat) c, ((es.take hh).drop ll)[i]? = some c → es[ll + i]? = some c := fun i c hc => by
      rw [List.getElem?_drop, List.getElem?_take] at hc
      split at hc
      ·exact hc
      ·cases hc
     cases hx with
     | osl _ _ _ _ hlt hv =>
      have hv2 := (hv es.length (by simp [Cx.R, hb, lnOf])).2 hn
      have hsv : (k.R X).sv b = k.sv b := rfl
      rw [hsv] at hv2
      obtain ⟨h0, hok⟩ := hg.ok b _ hb
      have he : ∀ c ∈ (es.take hh).drop ll, c.length = sz' ∧ D.nmL c = true := fun c hc => h0 c (List.mem_of_mem_take (List.mem_of_mem_drop hc))
      have hrel : ∀ v', Rel ((k.subArr b v' ty sz' ((es.take hh).drop ll)).R X) (k.nid + 1) v' (.osl k.nid (hh - ll)) := fun v' => by
       refine .osl _ _ _ _ (Nat.lt_succ_self _) fun m hm => ?_
       simp [Cx.R, Cx.subArr, Sx.hget, lnOf] at hm
       subst hm
       exact ⟨by omega, fun _ => by simp [Cx.R, Cx.subArr]⟩
      rcases hok with ⟨a1, a2⟩ | ⟨bb, bo, cap, vs, a1, a2, a3, a4, a5⟩
      ·subst a2
       have e0 : hh = 0 := by simpa using hle1
       have e1 : ll = 0 := by omega
       subst e0; subst e1
       have hbd := run_bounds (P := P) (isS := true) (w := k.w) (y := 0) (Nat.le_refl _) hlo hhi h1 h2
       refine ⟨.slice none 0 0, k.subArr b (.slice none 0 0) ty sz' (([] : List (List D)).take 0 |>.drop 0), ?_, rfl, rfl, subArr_good hg hb (by rw [a1]) he (.inl ⟨rfl, rfl⟩), subArr_le hg hb (by rw [a1]), hrel _⟩
       rw [hv2, a1]
       simp only [Instr.sliceAt, Instr.slice, Sem.run_bind, run_underlying hu, Result.andThen_ok]
       rw [show (Instr.sliceBounds true 0 0 lov hiv none).run P k.w = _ from hbd]
       simp [run_sizeT hsz, Cx.subArr]
      ·have hbd := run_bounds (P := P) (isS := true) (w := k.w) (y := cap) a4 hlo hhi h1 h2
       by_cases hcl : cap = ll
       ·have hnil : (es.take hh).drop ll = [] := List.eq_nil_of_length_eq_zero (by omega)
        refine ⟨.slice (some ⟨bb, bo, none⟩) (hh - ll) (cap - ll), k.subArr b (.slice (some ⟨bb, bo, none⟩) (hh - ll) (cap - ll)) ty sz' ((es.take hh).drop ll), ?_, rfl, rfl,
         subArr_good hg hb (by rw [a1]; rfl) he (.inr ⟨bb, bo, cap - ll, vs, by rw [hlen], a2, ?_, by omega, fun i c j d v hi => by rw [hnil] at hi; simp at hi⟩), subArr_le hg hb (by rw [a1]; rfl), hrel _⟩
        ·rw [hv2, a1]
         simp only [Instr.sliceAt, Instr.slice, Sem.run_bind, run_underlying hu, Result.andThen_ok, hbd, run_sizeT hsz, Sem.run_pure]
         rw [if_pos hcl]; rfl
        ·have : (cap - ll) * sz' ≤ cap * sz' := Nat.mul_le_mul_right _ (Nat.sub_le _ _)
         omega
       ·refine ⟨.slice (some ⟨bb, bo + ll * sz', none⟩) (hh - ll) (cap - ll), k.subArr b (.slice (some ⟨bb, bo + ll * sz', none⟩) (hh - ll) (cap - ll)) ty sz' ((es.take hh).drop ll), ?_, rfl, rfl,
         subArr_good hg hb (by rw [a1]; rfl) he (.inr ⟨bb, bo + ll * sz', cap - ll, vs, by rw [hlen], a2, ?_, by omega, fun i c j d v hi hj hvv => a5 (ll + i) c j d v (hget i c hi) hj (by rw [← hvv]; congr 1; rw [Nat.add_mul]; omega)⟩),
         subArr_le hg hb (by rw [a1]; rfl), hrel _⟩
        ·rw [hv2, a1]
         simp only [Instr.sliceAt, Instr.slice, Sem.run_bind, run_underlying hu, Result.andThen_ok, hbd, run_sizeT hsz, Sem.run_pure]
         rw [if_neg hcl, Option.map_some, add_none]; rfl
        ·have : ll * sz' + (cap - ll) * sz' = cap * sz' := by rw [← Nat.add_mul]; congr 1; omega
         omega
    ·cases h
   ·cases h
  ·cases h
 ·cases h

theorem vD_nm (v : Value) : (vD v).nm = true := by unfold vD; split <;> rfl

def makeD (P : Program) (h : H) (nid : Nat) (t : TypeId) (l c : D) : Option (D × H × Nat) :=
 match P.underlying t, l, c with
 | some (.slice e), .int _ l, .int _ c =>
  match sizeT P e, zeroD P e with
  | some sz, some zs =>
   if 0 ≤ l ∧ l ≤ c ∧ (P.bytesOf e : Int) * c ≤ 281474976710656 ∧ c ≤ 9223372036854775807 ∧ zs.length = sz then some (.osl nid l.toNat, (nid, .arr e sz (List.replicate l.toNat zs)) :: h, nid + 1) else none
  | _, _ => none
 | _, _, _ => none

theorem run_makeD (hg : Good X k) {t : TypeId} {x y d : D} {vx vy : Value} (hx : Rel (k.R X) k.nid vx x) (hy : Rel (k.R X) k.nid vy y) {h' : H} {nid' : Nat} (h : makeD P k.h k.nid t x y = some (d, h', nid')) :
  ∃ r k', (Instr.makeSlice t vx vy).run P k.w = .ok r k'.w ∧ k'.h = h' ∧ k'.nid = nid' ∧ Good X k' ∧ Le k k' ∧ Rel (k'.R X) k'.nid r d := by
 unfold makeD at h
 split at h
 ·rename_i e kl l kc c hu
  split at h
  ·rename_i sz zs hsz hz
   split at h
   ·rename_i hc
    obtain ⟨h0, hlc, hby, h63, hzl⟩ := hc
    cases h
    cases hx; cases hy
    obtain ⟨i, hi⟩ : ∃ i, P.info? e = some i := by
     cases hq : P.info? e with
     | none => simp [sizeT, hq] at hsz
     | some i => exact ⟨i, rfl⟩
    have his : i.size = sz := by simpa [sizeT, hi] using hsz
    have hib : P.bytesOf e = i.bytes := by simp [Program.bytesOf, hi]
    obtain ⟨z, hzz, rfl⟩ : ∃ z, i.zero = some z ∧ zs = z.cells.toList.map vD := by
     unfold zeroD at hz
     rw [hi] at hz
     dsimp only at hz
     split at hz
     ·rename_i z hq; cases hz; exact ⟨z, hq, rfl⟩
     ·cases hz
    have hzs : z.cells.size = sz := by simpa using hzl
    have hr := run_make (P := P) k.w t e i z hu hi hzz kl kc l c h0 hlc (by rw [← hib]; exact hby) h63
    rw [his] at hr
    have hvl : (madeCells z.cells (c.toNat * sz)).toList.length = c.toNat * sz := by rw [Array.length_toList]; exact size_madeCells _ _
    have hll : (List.replicate l.toNat (z.cells.toList.map vD)).length = l.toNat := by simp
    refine ⟨.slice (some ⟨k.w.heap.size, 0, none⟩) l.toNat c.toNat, k.newArr (madeCells z.cells (c.toNat * sz)).toList e sz (List.replicate l.toNat (z.cells.toList.map vD)) c.toNat, ?_, rfl, rfl,
     newArr_good hg _ _ _ _ _ (fun x hx => ?_) hvl (by rw [hll]; omega) (fun i e j d v a b q => ?_), newArr_le hg _ _ _ _ _, ?_⟩
    ·rw [hr]; simp [Cx.newArr]
    ·obtain rfl := List.eq_of_mem_replicate hx
     exact ⟨hzl, D.nmL_iff.2 fun d hd => by obtain ⟨v, _, rfl⟩ := List.mem_map.1 hd; exact vD_nm v⟩
    ·obtain rfl := List.eq_of_mem_replicate (List.mem_of_getElem? a)
     have hj := lt_of_getElem? b
     rw [List.length_map, Array.length_toList, hzs] at hj
     have hil := lt_of_getElem? a
     rw [hll] at hil
     have hq := lt_of_getElem? q
     rw [hvl] at hq
     have hv : (madeCells z.cells (c.toNat * sz))[i * sz + j]? = some v := by rw [← Array.getElem?_toList]; exact q
     have hmod : (i * sz + j) % sz = j := by rw [Nat.mul_comm, Nat.mul_add_mod]; exact Nat.mod_eq_of_lt hj
     simp only [madeCells, Array.getElem?_map, hzs] at hv
     rw [Array.getElem?_range] at hv
     simp only [hq, if_true, Option.map_some, Option.some.injEq, hmod] at hv
     rw [List.getElem?_map, Array.getElem?_toList, Array.getElem?_eq_getElem (by omega)] at b
     simp only [Option.map_some, Option.some.injEq] at b
     rw [getElem!_pos z.cells j (by omega)] at hv
     subst hv; subst b
     exact .vD _ _ _
    ·refine .osl _ _ _ _ (by simp [Cx.newArr]) fun m hm => ?_
     simp [Cx.R, Cx.newArr, hget, lnOf] at hm
     subst hm
     exact ⟨Nat.le_refl _, fun _ => by simp [Cx.R, Cx.newArr]⟩
   ·cases h
  ·cases h
 ·cases h
end
end Go.Sx
