/- Sx: an own array becomes data, in the boxes that lead to it too. Own work. -/
import Derived.Test.YtjhoplbdpdbgaaaGreatDoorSxCw
set_option linter.unusedVariables false
set_option linter.unusedSimpArgs false
namespace Go.Sx
variable {P : Program} {n0 : Nat}

def frzBlk (h h' : H) : Blk → Blk
  | .box cs => .box (cs.map (frzD h h'))
  | x => x
def frzHH (h h' : H) : H := h'.map fun p => (p.1, frzBlk h h' p.2)
theorem frzHH_get (g h' : H) : ∀ (l : H) (id : Nat), hget (l.map fun p => (p.1, frzBlk g h' p.2)) id = (hget l id).map (frzBlk g h')
  | [], id => rfl
  | (i, b) :: r, id => by
    simp only [List.map_cons, hget, frzHH_get g h' r id]
    split <;> rfl
theorem ownOf_frz (k k2 : Cx) (hβ : k2.β = k.β) (hs : k2.sv = k.sv) (g h' : H) (id : Nat) (o : Option Blk) : ownOf k2 id (o.map (frzBlk g h')) = ownOf k id o := by
  cases o with
  | none => rfl
  | some b => cases b <;> simp [frzBlk, ownOf, hβ, hs]
theorem lnOf_frz (g h' : H) (o : Option Blk) : lnOf (o.map (frzBlk g h')) = lnOf o := by
  cases o with
  | none => rfl
  | some b => cases b <;> simp [frzBlk, lnOf]
def Cx.bare (k : Cx) (h' : H) : Cx := { k with h := h', nid := k.nid }
def Cx.thaw (k : Cx) (h' : H) : Cx := { k with h := frzHH k.h h', nid := k.nid }
theorem thaw_own (k : Cx) (h' : H) (i : Nat) : (k.thaw h').own i = (k.bare h').own i := by
  simp only [Cx.own, Cx.thaw, Cx.bare, frzHH, frzHH_get]
  exact ownOf_frz _ _ rfl rfl _ _ _ _
theorem thaw_mut (k : Cx) (h' : H) (b : Nat) : (k.thaw h').Mut b ↔ (k.bare h').Mut b := by simp only [Cx.Mut, thaw_own]
theorem thaw_R (X : Nat → Prop) (k : Cx) (h' : H) : (k.thaw h').R X = (k.bare h').R X := by
  have e1 : (fun b => b < k.w.heap.size ∧ ¬ X b ∧ ¬ (k.thaw h').Mut b) = fun b => b < k.w.heap.size ∧ ¬ X b ∧ ¬ (k.bare h').Mut b := by
    funext b; rw [thaw_mut]
  have e2 : (fun id => lnOf (hget (k.thaw h').h id)) = fun id => lnOf (hget (k.bare h').h id) := by
    funext id
    simp only [Cx.thaw, Cx.bare, frzHH, frzHH_get, lnOf_frz]
  show Rx.mk _ _ _ _ _ = Rx.mk _ _ _ _ _
  rw [show (k.thaw h').w = k.w from rfl, e1, e2]
  rfl
theorem Good.thaw {X : Nat → Prop} {k : Cx} {h' : H} (hg : Good X k) (hsub : ∀ id blk, hget h' id = some blk → hget k.h id = some blk) : Good X (k.thaw h') := by
  have hb : Good X (k.bare h') := hg.drop hsub (fun id blk hb => hg.key id blk (hsub id blk hb)) (fun hlt => absurd hlt (Nat.lt_irrefl _))
  refine ⟨fun id blk hq => ?_, fun i j b hi hj => hb.inj i j b (by rw [← thaw_own]; exact hi) (by rw [← thaw_own]; exact hj), fun i b hi => hb.lt i b (by rw [← thaw_own]; exact hi), hb.xlt, fun id blk hq => ?_⟩
  · have hq : (hget h' id).map (frzBlk k.h h') = some blk := by rw [← frzHH_get]; exact hq
    cases e : hget h' id with
    | none => rw [e] at hq; cases hq
    | some b0 => exact hb.key id b0 e
  · have hq : (hget h' id).map (frzBlk k.h h') = some blk := by rw [← frzHH_get]; exact hq
    cases e : hget h' id with
    | none => rw [e] at hq; cases hq
    | some b0 =>
      rw [e] at hq
      simp only [Option.map_some, Option.some.injEq] at hq
      subst hq
      have h1 := hb.ok id b0 e
      cases b0 with
      | box cs =>
        obtain ⟨vs, ty, a, b⟩ := hg.ok id _ (hsub id _ e)
        refine ⟨vs, ty, a, by rw [List.length_map]; exact b.1, fun i v d hv hd => ?_⟩
        rw [thaw_R]
        rw [List.getElem?_map] at hd
        cases hc : cs[i]? with
        | none => rw [hc] at hd; cases hd
        | some c =>
          rw [hc] at hd
          simp only [Option.map_some, Option.some.injEq] at hd
          subst hd
          exact frz_rel hg hsub (b.2 i v c hv hc)
      | arr ty sz es =>
        obtain ⟨a0, a1⟩ := h1
        refine ⟨a0, ?_⟩
        rcases a1 with a1 | ⟨b, cap, vs, x1, x2, x3, x4, x5⟩
        · exact .inl a1
        · exact .inr ⟨b, cap, vs, x1, x2, x3, x4, fun i e j d v p q r => by rw [thaw_R]; exact x5 i e j d v p q r⟩
      | map kvs =>
        obtain ⟨es, c, es', x1, x2, x3, x4, x5⟩ := h1
        exact ⟨es, c, es', x1, x2, x3, by rw [thaw_R]; exact x4, by rw [thaw_R]; exact x5⟩
theorem Le.thaw {k0 k : Cx} {h' : H} (hle : Le k0 k) (hsub : ∀ id blk, hget h' id = some blk → hget k.h id = some blk) : Le k0 (k.thaw h') := by
  have hb : Le k0 (k.bare h') := Le.drop hle hle.nid hsub
  refine ⟨hb.nid, hb.os, hb.tape, hb.output, hb.size, hb.β, fun id hid m hm => hb.arr id hid m ?_, hb.heap, fun b hlt hm => hb.mb b hlt ((thaw_mut k h' b).1 hm)⟩
  rw [← lnOf_frz k.h h' (hget (k.bare h').h id)]
  have : hget (k.thaw h').h id = (hget h' id).map (frzBlk k.h h') := frzHH_get _ _ _ _
  rw [this] at hm
  exact hm
/-- An own array becomes data, wherever slots and boxes lead to it. -/
theorem Imp.thaw {env : Env} {h : H} {nid n : Nat} (b : Nat) : Imp n0 ⟨env, h, nid, n⟩ ⟨env.map fun p => (p.1, frzD h (herase h b) p.2), frzHH h (herase h b), nid, n⟩ := fun X k0 k a hn hat => by
  have hh : k.h = h := hat.h
  have hnid : k.nid = nid := hat.nid
  subst hh; subst hnid
  have hsub : ∀ id blk, hget (herase k.h b) id = some blk → hget k.h id = some blk := fun id blk hb => by
    rw [herase_get] at hb
    split at hb
    · cases hb
    · exact hb
  refine ⟨k.thaw (herase k.h b), rfl, rfl, rfl, hat.good.thaw hsub, hat.le.thaw hsub, hat.act.size, fun i => ?_, hat.act.marks⟩
  have hl : look (env.map fun p => (p.1, frzD k.h (herase k.h b) p.2)) i = frzD k.h (herase k.h b) (look env i) := by
    clear hat hsub
    induction env with
    | nil => rfl
    | cons p e ih =>
      obtain ⟨j, d⟩ := p
      simp only [List.map_cons, look]
      split
      · rfl
      · exact ih
  show Rel _ _ _ (look (env.map fun p => (p.1, frzD k.h (herase k.h b) p.2)) i)
  rw [hl, thaw_R]
  exact frz_rel hat.good hsub (hat.act.rel i)
theorem imp_thaw {env e : Env} {h h' : H} {nid nid' n n' : Nat} (b : Nat) (hw : Imp n0 ⟨env.map fun p => (p.1, frzD h (herase h b) p.2), frzHH h (herase h b), nid, n⟩ ⟨e, h', nid', n'⟩) : Imp n0 ⟨env, h, nid, n⟩ ⟨e, h', nid', n'⟩ := (Imp.thaw b).trans hw
end Go.Sx
