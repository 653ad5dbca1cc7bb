/- Own work: a calculus of contracts for the programs of this kit: parts SxZ10, SxRH, SxRI, SxZ11, SxZ12, SxZ13. -/
import Derived.Test.YtjhoplbdpdbgaaaGreatDoorSxCw
set_option linter.unusedVariables false
set_option linter.unusedSimpArgs false
namespace Go.Sx
variable {P : Program} {n0 : Nat}

def frzBlk (h h' : H) : Blk → Blk
 | .box cs => .box (cs.map (frzD h h'))
 | x => x
def frzHH (h h' : H) : H := h'.map fun p => (p.1, frzBlk h h' p.2)
theorem frzHH_get (g h' : H) : ∀ (l : H) (id : Nat), hget (l.map fun p => (p.1, frzBlk g h' p.2)) id = (hget l id).map (frzBlk g h')
 | [], id => rfl
 | (i, b) :: r, id => by
  simp only [List.map_cons, hget, frzHH_get g h' r id]
  split <;> rfl
theorem ownOf_frz (k k2 : Cx) (hβ : k2.β = k.β) (hs : k2.sv = k.sv) (g h' : H) (id : Nat) (o : Option Blk) : ownOf k2 id (o.map (frzBlk g h')) = ownOf k id o := by
 cases o with
 | none => rfl
 | some b => cases b <;> simp [frzBlk, ownOf, hβ, hs]
theorem lnOf_frz (g h' : H) (o : Option Blk) : lnOf (o.map (frzBlk g h')) = lnOf o := by
 cases o with
 | none => rfl
 | some b => cases b <;> simp [frzBlk, lnOf]
def Cx.bare (k : Cx) (h' : H) : Cx := { k with h := h', nid := k.nid }
def Cx.thaw (k : Cx) (h' : H) : Cx := { k with h := frzHH k.h h', nid := k.nid }
theorem thaw_own (k : Cx) (h' : H) (i : Nat) : (k.thaw h').own i = (k.bare h').own i := by
 simp only [Cx.own, Cx.thaw, Cx.bare, frzHH, frzHH_get]
 exact ownOf_frz _ _ rfl rfl _ _ _ _
theorem thaw_mut (k : Cx) (h' : H) (b : Nat) : (k.thaw h').Mut b ↔ (k.bare h').Mut b := by simp only [Cx.Mut, thaw_own]
theorem thaw_R (X : Nat → Prop) (k : Cx) (h' : H) : (k.thaw h').R X = (k.bare h').R X := by
 have e1 : (fun b => b < k.w.heap.size ∧ ¬ X b ∧ ¬ (k.thaw h').Mut b) = fun b => b < k.w.heap.size ∧ ¬ X b ∧ ¬ (k.bare h').Mut b := by
  funext b; rw [thaw_mut]
 have e2 : (fun id => lnOf (hget (k.thaw h').h id)) = fun id => lnOf (hget (k.bare h').h id) := by
  funext id
  simp only [Cx.thaw, Cx.bare, frzHH, frzHH_get, lnOf_frz]
 show Rx.mk _ _ _ _ _ = Rx.mk _ _ _ _ _
 rw [show (k.thaw h').w = k.w from rfl, e1, e2]
 rfl
theorem Good.thaw {X : Nat → Prop} {k : Cx} {h' : H} (hg : Good X k) (hsub : ∀ id blk, hget h' id = some blk → hget k.h id = some blk) : Good X (k.thaw h') := by
 have hb : Good X (k.bare h') := hg.drop hsub (fun id blk hb => hg.key id blk (hsub id blk hb)) (fun hlt => absurd hlt (Nat.lt_irrefl _))
 refine ⟨fun id blk hq => ?_, fun i j b hi hj => hb.inj i j b (by rw [← thaw_own]; exact hi) (by rw [← thaw_own]; exact hj), fun i b hi => hb.lt i b (by rw [← thaw_own]; exact hi), hb.xlt, fun id blk hq => ?_⟩
 ·have hq : (hget h' id).map (frzBlk k.h h') = some blk := by rw [← frzHH_get]; exact hq
  cases e : hget h' id with
  | none => rw [e] at hq; cases hq
  | some b0 => exact hb.key id b0 e
 ·have hq : (hget h' id).map (frzBlk k.h h') = some blk := by rw [← frzHH_get]; exact hq
  cases e : hget h' id with
  | none => rw [e] at hq; cases hq
  | some b0 =>
   rw [e] at hq
   simp only [Option.map_some, Option.some.injEq] at hq
   subst hq
   have h1 := hb.ok id b0 e
   cases b0 with
   | box cs =>
    obtain ⟨vs, ty, a, b⟩ := hg.ok id _ (hsub id _ e)
    refine ⟨vs, ty, a, by rw [List.length_map]; exact b.1, fun i v d hv hd => ?_⟩
    rw [thaw_R]
    rw [List.getElem?_map] at hd
    cases hc : cs[i]? with
    | none => rw [hc] at hd; cases hd
    | some c =>
     rw [hc] at hd
     simp only [Option.map_some, Option.some.injEq] at hd
     subst hd
     exact frz_rel hg hsub (b.2 i v c hv hc)
   | arr ty sz es =>
    obtain ⟨a0, a1⟩ := h1
    refine ⟨a0, ?_⟩
    rcases a1 with a1 | ⟨b, off, cap, vs, x1, x2, x3, x4, x5⟩
    ·exact .inl a1
    ·exact .inr ⟨b, off, cap, vs, x1, x2, x3, x4, fun i e j d v p q r => by rw [thaw_R]; exact x5 i e j d v p q r⟩
   | map kvs =>
    obtain ⟨es, c, es', x1, x2, x3, x6, x4, x5⟩ := h1
    exact ⟨es, c, es', x1, x2, x3, x6, by rw [thaw_R]; exact x4, by rw [thaw_R]; exact x5⟩
theorem Le.thaw {k0 k : Cx} {h' : H} (hle : Le k0 k) (hsub : ∀ id blk, hget h' id = some blk → hget k.h id = some blk) : Le k0 (k.thaw h') := by
 have hb : Le k0 (k.bare h') := Le.drop hle hle.nid hsub
 refine ⟨hb.nid, hb.os, hb.tape, hb.output, hb.size, hb.β, fun id hid m hm => hb.arr id hid m ?_, hb.heap, fun b hlt hm => hb.mb b hlt ((thaw_mut k h' b).1 hm)⟩
 rw [← lnOf_frz k.h h' (hget (k.bare h').h id)]
 have : hget (k.thaw h').h id = (hget h' id).map (frzBlk k.h h') := frzHH_get _ _ _ _
 rw [this] at hm
 exact hm
theorem Imp.thaw {env : Env} {h : H} {nid n : Nat} (b : Nat) : Imp n0 ⟨env, h, nid, n⟩ ⟨env.map fun p => (p.1, frzD h (herase h b) p.2), frzHH h (herase h b), nid, n⟩ := fun X k0 k a hn hat => by
 have hh : k.h = h := hat.h
 have hnid : k.nid = nid := hat.nid
 subst hh; subst hnid
 have hsub : ∀ id blk, hget (herase k.h b) id = some blk → hget k.h id = some blk := fun id blk hb => by
  rw [herase_get] at hb
  split at hb
  ·cases hb
  ·exact hb
 refine ⟨k.thaw (herase k.h b), rfl, rfl, rfl, hat.good.thaw hsub, hat.le.thaw hsub, hat.act.size, fun i => ?_, hat.act.marks⟩
 have hl : look (env.map fun p => (p.1, frzD k.h (herase k.h b) p.2)) i = frzD k.h (herase k.h b) (look env i) := by
  clear hat hsub
  induction env with
  | nil => rfl
  | cons p e ih =>
   obtain ⟨j, d⟩ := p
   simp only [List.map_cons, look]
   split
   ·rfl
   ·exact ih
 show Rel _ _ _ (look (env.map fun p => (p.1, frzD k.h (herase k.h b) p.2)) i)
 rw [hl, thaw_R]
 exact frz_rel hat.good hsub (hat.act.rel i)
theorem imp_thaw {env e : Env} {h h' : H} {nid nid' n n' : Nat} (b : Nat) (hw : Imp n0 ⟨env.map fun p => (p.1, frzD h (herase h b) p.2), frzHH h (herase h b), nid, n⟩ ⟨e, h', nid', n'⟩) : Imp n0 ⟨env, h, nid, n⟩ ⟨e, h', nid', n'⟩ := (Imp.thaw b).trans hw
end Go.Sx

/- Sx: pieces of code that add no deferred call and keep slots; iterators that read what they were handed. Own work. -/
namespace Go.Sx

def KeptW (ws : List Tmp) (a a' : Act) : Prop := a'.defers = a.defers ∧ ∀ t, t ∉ ws → a'.tmps.getD t undef = a.tmps.getD t undef
theorem KeptW.refl (ws : List Tmp) (a : Act) : KeptW ws a a := ⟨rfl, fun _ _ => rfl⟩
theorem KeptW.trans {ws : List Tmp} {a b c : Act} (h : KeptW ws a b) (h' : KeptW ws b c) : KeptW ws a c := ⟨h'.1.trans h.1, fun t ht => (h'.2 t ht).trans (h.2 t ht)⟩
theorem KeptW.mono {ws ws' : List Tmp} {a b : Act} (h : KeptW ws a b) (hs : ∀ t, t ∈ ws → t ∈ ws') : KeptW ws' a b := ⟨h.1, fun t ht => h.2 t fun x => ht (hs t x)⟩
theorem KeptW.of {ops : Array Oper} {a b : Act} (h : KeptA ops a b) : KeptW (ops.toList.filterMap (·.dst)) a b := ⟨h.1, fun t ht => h.2 t fun i o ho hd => ht (List.mem_filterMap.2 ⟨o, by rw [Array.mem_toList_iff]; exact Array.mem_of_getElem? ho, hd⟩)⟩

section
variable {P : Program} {n0 : Nat} {ro : Option Nat} {O : Oracle}

end

def NS (S0 : Nat → Prop) (W : World) : Nat → Prop := fun b => b < W.heap.size ∧ ¬ S0 b
abbrev RXS (S0 : Nat → Prop) (W : World) : Rx := Cx.R (NS S0 W) (K0 W)
theorem good_KS (S0 : Nat → Prop) (W : World) : Good (NS S0 W) (K0 W) :=
 ⟨fun _ _ h => by simp [K0, hget] at h, fun _ _ _ h => by simp [K0, Cx.own, hget, ownOf] at h, fun _ _ h => by simp [K0, Cx.own, hget, ownOf] at h, fun _ h => h.1, fun _ _ h => by simp [K0, hget] at h⟩
variable {α : Type}
structure AtP (S0 : Nat → Prop) (a : Act) (s : St) (W : World) : Prop where
 defers : a.defers = []
 h : s.h = []
 nid : s.nid = 0
 size : a.tmps.size = s.n
 rel : ∀ i : Nat, Rel (RXS S0 W) 0 (a.tmps.getD i undef) (look s.env i)
 lt : ∀ b, S0 b → b < W.heap.size
theorem AtP.at_ {S0 : Nat → Prop} {a : Act} {s : St} {W : World} (h : AtP S0 a s W) : At (NS S0 W) (K0 W) (K0 W) a s :=
 ⟨h.h.symm, h.nid.symm, good_KS S0 W, .refl _, ⟨h.size, h.rel, [], by simp [h.defers], List.nodup_nil, by simp⟩⟩
section
variable {P : Program} {S0 : Nat → Prop} {JJ : List α × Bool → World → Prop} {O : Oracle}
theorem AtP.put {S0 : Nat → Prop} {a : Act} {s : St} {W : World} (h : AtP S0 a s W) (dst : Option Tmp) {v : Value} {d : D} (hr : Rel (RXS S0 W) 0 v d) : AtP S0 (a.put dst v) (s.put dst d) W := by
 have := ActOk.put h.at_.act dst hr
 exact ⟨by rw [put_defers]; exact h.defers, by rw [put_h]; exact h.h, by rw [put_nid]; exact h.nid, this.size, this.rel, h.lt⟩
end
section
variable {P : Program} {O : Oracle}
end
end Go.Sx

/- Sx: ranges over iterators that read what they were handed; the rule. Own work. -/
namespace Go.Sx

section
variable {P : Program} {O : Oracle} {n0 : Nat}
end
end Go.Sx

/- Sx: a statement, and what is known behind it. Own work. -/
namespace Go.Sx
variable {P : Program} {O : Oracle} {n0 : Nat} {ro : Option Nat} {T : List (Nat × List Ann)}
end Go.Sx

/- Sx: oracles out of families of contracts. Own work. -/
namespace Go.Sx
variable {P : Program}
noncomputable def orcF {α : Type} (ok : α → Prop) (dsf : α → List D) (rf : α → D) (ds : List D) : Option D :=
 open Classical in if h : ∃ a, ok a ∧ dsf a = ds then some (rf h.choose) else none
theorem orcF_ok {α : Type} {f : FuncId} {ok : α → Prop} {dsf : α → List D} {rf : α → D} (h : ∀ a, ok a → Pure P f (dsf a) (rf a)) (ds : List D) (r : D) (hr : orcF ok dsf rf ds = some r) : Pure P f ds r := by
 unfold orcF at hr
 split at hr
 ·rename_i hx
  cases hr
  have := hx.choose_spec
  have h2 := h _ this.1
  rw [this.2] at h2
  exact h2
 ·cases hr
theorem orcF_eq {α : Type} {ok : α → Prop} {dsf : α → List D} {rf : α → D} (a : α) (h : ok a) (hi : ∀ b, dsf b = dsf a → rf b = rf a) : orcF ok dsf rf (dsf a) = some (rf a) := by
 unfold orcF
 have hx : ∃ b, ok b ∧ dsf b = dsf a := ⟨a, h, rfl⟩
 rw [dif_pos hx, hi _ hx.choose_spec.2]
theorem map_inj {α β : Type} {f : α → β} (hf : ∀ a b, f a = f b → a = b) : ∀ {l r : List α}, l.map f = r.map f → l = r
 | [], [], _ => rfl
 | [], _ :: _, h => by cases h
 | _ :: _, [], h => by cases h
 | a :: l, b :: r, h => by
  simp only [List.map_cons, List.cons.injEq] at h
  rw [hf a b h.1, map_inj hf h.2]
theorem rev_callv {fl : Bool} {d : Option Tmp} {ty : TypeId} {pos : String} {after : Array Edge} {g : Option (Nat × Bool)} {env : Env} {h h' : H} {v : D} (t0 : Tmp) (x : List Operand) (t : Array TypeId) :
  ReV P fl ⟨⟨d, .call ⟨.value (.tmp t0), x.toArray, t⟩, ty, pos, after, g⟩, env, h, true, v⟩ h' = calleeZ (look env t0) (x.map (evO env)) (fun _ ds => viewL h' ds = viewL h ds) ⟨⟩ := by
 simp only [ReV, ReOk, dkind, calleeD, evO, calleeZ, true_implies]
 cases look env t0 with
 | fn f a c => cases f <;> simp
 | _ => simp
theorem nc_ref (cs : List D) (o : Nat) : nilCheckD (.ref cs o) = some (.ref cs o) := (rfl)
theorem nc_refm (kvs : List (D × D)) : nilCheckD (.refm kvs) = some (.refm kvs) := (rfl)
theorem nc_ptr (b o : Nat) : nilCheckD (.ptr b o) = some (.ptr b o) := (rfl)
theorem nc_fn (f : FuncId) (a c : List D) : nilCheckD (.fn (.func f) a c) = some (.fn (.func f) a c) := (rfl)
set_option linter.defProp false
def RT := And.intro @nc_ref <| And.intro @nc_refm <| And.intro @nc_ptr <| And.intro @nc_fn <| And.intro @rev_callv <| And.intro @calleeZ_fn <| And.intro @ex_tup <| And.intro @List.nil_append.{0} <| And.intro @List.append_nil.{0} <| @List.cons_append.{0}
end Go.Sx

/- Sx: a region that draws its order, with a yield in it, of an iterator that reads what it was handed. Own work. -/
namespace Go.Sx

section
variable {P : Program} {n0 : Nat} {ro : Option Nat} {ops : Array Oper} {b len : Nat} {fl : Bool} {re : List (Nat × Nat)} {st : Nat → St} {row : Nat → Row}

variable {O : Oracle}
end

section
variable {α : Type} {P : Program} {S0 : Nat → Prop} {JJ : List α × Bool → World → Prop} {O : Oracle}
end
section
variable {α : Type} {P : Program} {O : Oracle}
end
end Go.Sx
