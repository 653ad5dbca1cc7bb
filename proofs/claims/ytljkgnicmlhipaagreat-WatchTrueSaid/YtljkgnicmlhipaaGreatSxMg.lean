/- Own work: a calculus of contracts for the programs of this kit: parts SxZ10, SxRH, SxRI, SxZ11, SxZ12, SxZ13. -/
import Derived.Test.YtljkgnicmlhipaaGreatSxCw
set_option linter.unusedVariables false
set_option linter.unusedSimpArgs false
namespace Go.Sx
variable {P : Program} {n0 : Nat}

def frzBlk (h h' : H) : Blk → Blk
 | .box cs => .box (cs.map (frzD h h'))
 | x => x
def frzHH (h h' : H) : H := h'.map fun p => (p.1, frzBlk h h' p.2)
theorem frzHH_get (g h' : H) : ∀ (l : H) (id : Nat), hget (l.map fun p => (p.1, frzBlk g h' p.2)) id = (hget l id).map (frzBlk g h')
 | [], id => rfl
 | (i, b) :: r, id => by
  simp only [List.map_cons, hget, frzHH_get g h' r id]
  split <;> rfl
theorem ownOf_frz (k k2 : Cx) (hβ : k2.β = k.β) (hs : k2.sv = k.sv) (g h' : H) (id : Nat) (o : Option Blk) : ownOf k2 id (o.map (frzBlk g h')) = ownOf k id o := by
 cases o with
 | none => rfl
 | some b => cases b <;> simp [frzBlk, ownOf, hβ, hs]
theorem lnOf_frz (g h' : H) (o : Option Blk) : lnOf (o.map (frzBlk g h')) = lnOf o := by
 cases o with
 | none => rfl
 | some b => cases b <;> simp [frzBlk, lnOf]
def Cx.bare (k : Cx) (h' : H) : Cx := { k with h := h', nid := k.nid }
def Cx.thaw (k : Cx) (h' : H) : Cx := { k with h := frzHH k.h h', nid := k.nid }
theorem thaw_own (k : Cx) (h' : H) (i : Nat) : (k.thaw h').own i = (k.bare h').own i := by
 simp only [Cx.own, Cx.thaw, Cx.bare, frzHH, frzHH_get]
 exact ownOf_frz _ _ rfl rfl _ _ _ _
theorem thaw_mut (k : Cx) (h' : H) (b : Nat) : (k.thaw h').Mut b ↔ (k.bare h').Mut b := by simp only [Cx.Mut, thaw_own]
theorem thaw_R (X : Nat → Prop) (k : Cx) (h' : H) : (k.thaw h').R X = (k.bare h').R X := by
 have e1 : (fun b => b < k.w.heap.size ∧ ¬ X b ∧ ¬ (k.thaw h').Mut b) = fun b => b < k.w.heap.size ∧ ¬ X b ∧ ¬ (k.bare h').Mut b := by
  funext b; rw [thaw_mut]
 have e2 : (fun id => lnOf (hget (k.thaw h').h id)) = fun id => lnOf (hget (k.bare h').h id) := by
  funext id
  simp only [Cx.thaw, Cx.bare, frzHH, frzHH_get, lnOf_frz]
 show Rx.mk _ _ _ _ _ = Rx.mk _ _ _ _ _
 rw [show (k.thaw h').w = k.w from rfl, e1, e2]
 rfl
theorem Good.thaw {X : Nat → Prop} {k : Cx} {h' : H} (hg : Good X k) (hsub : ∀ id blk, hget h' id = some blk → hget k.h id = some blk) : Good X (k.thaw h') := by
 have hb : Good X (k.bare h') := hg.drop hsub (fun id blk hb => hg.key id blk (hsub id blk hb)) (fun hlt => absurd hlt (Nat.lt_irrefl _))
 refine ⟨fun id blk hq => ?_, fun i j b hi hj => hb.inj i j b (by rw [← thaw_own]; exact hi) (by rw [← thaw_own]; exact hj), fun i b hi => hb.lt i b (by rw [← thaw_own]; exact hi), hb.xlt, fun id blk hq => ?_⟩
 ·have hq : (hget h' id).map (frzBlk k.h h') = some blk := by rw [← frzHH_get]; exact hq
  cases e : hget h' id with
  | none => rw [e] at hq; cases hq
  | some b0 => exact hb.key id b0 e
 ·have hq : (hget h' id).map (frzBlk k.h h') = some blk := by rw [← frzHH_get]; exact hq
  cases e : hget h' id with
  | none => rw [e] at hq; cases hq
  | some b0 =>
   rw [e] at hq
   simp only [Option.map_some, Option.some.injEq] at hq
   subst hq
   have h1 := hb.ok id b0 e
   cases b0 with
   | box cs =>
    obtain ⟨vs, ty, a, b⟩ := hg.ok id _ (hsub id _ e)
    refine ⟨vs, ty, a, by rw [List.length_map]; exact b.1, fun i v d hv hd => ?_⟩
    rw [thaw_R]
    rw [List.getElem?_map] at hd
    cases hc : cs[i]? with
    | none => rw [hc] at hd; cases hd
    | some c =>
     rw [hc] at hd
     simp only [Option.map_some, Option.some.injEq] at hd
     subst hd
     exact frz_rel hg hsub (b.2 i v c hv hc)
   | arr ty sz es =>
    obtain ⟨a0, a1⟩ := h1
    refine ⟨a0, ?_⟩
    rcases a1 with a1 | ⟨b, off, cap, vs, x1, x2, x3, x4, x5⟩
    ·exact .inl a1
    ·exact .inr ⟨b, off, cap, vs, x1, x2, x3, x4, fun i e j d v p q r => by rw [thaw_R]; exact x5 i e j d v p q r⟩
   | map kvs =>
    obtain ⟨es, c, es', x1, x2, x3, x6, x4, x5⟩ := h1
    exact ⟨es, c, es', x1, x2, x3, x6, by rw [thaw_R]; exact x4, by rw [thaw_R]; exact x5⟩
theorem Le.thaw {k0 k : Cx} {h' : H} (hle : Le k0 k) (hsub : ∀ id blk, hget h' id = some blk → hget k.h id = some blk) : Le k0 (k.thaw h') := by
 have hb : Le k0 (k.bare h') := Le.drop hle hle.nid hsub
 refine ⟨hb.nid, hb.os, hb.tape, hb.output, hb.size, hb.β, fun id hid m hm => hb.arr id hid m ?_, hb.heap, fun b hlt hm => hb.mb b hlt ((thaw_mut k h' b).1 hm)⟩
 rw [← lnOf_frz k.h h' (hget (k.bare h').h id)]
 have : hget (k.thaw h').h id = (hget h' id).map (frzBlk k.h h') := frzHH_get _ _ _ _
 rw [this] at hm
 exact hm
theorem Imp.thaw {env : Env} {h : H} {nid n : Nat} (b : Nat) : Imp n0 ⟨env, h, nid, n⟩ ⟨env.map fun p => (p.1, frzD h (herase h b) p.2), frzHH h (herase h b), nid, n⟩ := fun X k0 k a hn hat => by
 have hh : k.h = h := hat.h
 have hnid : k.nid = nid := hat.nid
 subst hh; subst hnid
 have hsub : ∀ id blk, hget (herase k.h b) id = some blk → hget k.h id = some blk := fun id blk hb => by
  rw [herase_get] at hb
  split at hb
  ·cases hb
  ·exact hb
 refine ⟨k.thaw (herase k.h b), rfl, rfl, rfl, hat.good.thaw hsub, hat.le.thaw hsub, hat.act.size, fun i => ?_, hat.act.marks⟩
 have hl : look (env.map fun p => (p.1, frzD k.h (herase k.h b) p.2)) i = frzD k.h (herase k.h b) (look env i) := by
  clear hat hsub
  induction env with
  | nil => rfl
  | cons p e ih =>
   obtain ⟨j, d⟩ := p
   simp only [List.map_cons, look]
   split
   ·rfl
   ·exact ih
 show Rel _ _ _ (look (env.map fun p => (p.1, frzD k.h (herase k.h b) p.2)) i)
 rw [hl, thaw_R]
 exact frz_rel hat.good hsub (hat.act.rel i)
theorem imp_thaw {env e : Env} {h h' : H} {nid nid' n n' : Nat} (b : Nat) (hw : Imp n0 ⟨env.map fun p => (p.1, frzD h (herase h b) p.2), frzHH h (herase h b), nid, n⟩ ⟨e, h', nid', n'⟩) : Imp n0 ⟨env, h, nid, n⟩ ⟨e, h', nid', n'⟩ := (Imp.thaw b).trans hw
end Go.Sx

/- Sx: pieces of code that add no deferred call and keep slots; iterators that read what they were handed. Own work. -/
namespace Go.Sx

def wrs : Code → List Tmp
 | .seq a b => wrs a ++ wrs b
 | .cond _ a b => wrs a ++ wrs b
 | .block _ c => wrs c
 | .scope c => wrs c
 | .loop c => wrs c
 | .region _ ops _ => ops.toList.filterMap (·.dst)
 | _ => []
def plainC (T : List (Nat × List Ann)) : Code → Bool
 | .skip => true
 | .label _ => true
 | .exit _ => true
 | .ret => true
 | .seq a b => plainC T a && plainC T b
 | .cond _ a b => plainC T a && plainC T b
 | .block _ c => plainC T c
 | .region _ _ false => true
 | .region id _ true => (annOf T id).isSome
 | _ => false
def KeptW (ws : List Tmp) (a a' : Act) : Prop := a'.defers = a.defers ∧ ∀ t, t ∉ ws → a'.tmps.getD t undef = a.tmps.getD t undef
theorem KeptW.refl (ws : List Tmp) (a : Act) : KeptW ws a a := ⟨rfl, fun _ _ => rfl⟩
theorem KeptW.trans {ws : List Tmp} {a b c : Act} (h : KeptW ws a b) (h' : KeptW ws b c) : KeptW ws a c := ⟨h'.1.trans h.1, fun t ht => (h'.2 t ht).trans (h.2 t ht)⟩
theorem KeptW.mono {ws ws' : List Tmp} {a b : Act} (h : KeptW ws a b) (hs : ∀ t, t ∈ ws → t ∈ ws') : KeptW ws' a b := ⟨h.1, fun t ht => h.2 t fun x => ht (hs t x)⟩
theorem KeptW.of {ops : Array Oper} {a b : Act} (h : KeptA ops a b) : KeptW (ops.toList.filterMap (·.dst)) a b := ⟨h.1, fun t ht => h.2 t fun i o ho hd => ht (List.mem_filterMap.2 ⟨o, by rw [Array.mem_toList_iff]; exact Array.mem_of_getElem? ho, hd⟩)⟩

def PostD (X : Nat → Prop) (k0 : Cx) (Q : Ex → St → Prop) (ws : List Tmp) (a0 : Act) (e : Exit) (a : Act) (w : World) : Prop :=
 ∃ x k s, exOf e = some x ∧ k.w = w ∧ Q x s ∧ At X k0 k a s ∧ KeptW ws a0 a
def AWd (P : Program) (n0 : Nat) (ro : Option Nat) (c : Code) (s : St) (Q : Ex → St → Prop) : Prop :=
 ∀ X k0 k a, k0.nid = n0 → At X k0 k a s → c.wpIn (FW ro) 0 P (PostD X k0 Q (wrs c) a) a k.w
section
variable {P : Program} {n0 : Nat} {ro : Option Nat} {O : Oracle}

theorem awd_region {id : Nat} {ops : Array Oper} {s : St} {Q : Ex → St → Prop} (h : AOps P n0 ro ops (List.range ops.size) s (Q .normal)) : AWd P n0 ro (.region id ops false) s Q :=
 fun X k0 k a hn hat => wpIn_region (h X k0 k a _ hn hat fun k' a' s' hs' hat' hd => ⟨.normal, k', s', rfl, rfl, hs', hat', .of hd⟩)
theorem awd_draw (hO : OkO P O) {id : Nat} {ops : Array Oper} {as : List Ann} {s : St} {Q : Ex → St → Prop} (hm : P.follows .mixedOrders = true) (ha : annOk ops as = true) (h : anyK P O ops as ops.toList s (Q .normal)) :
  AWd P n0 ro (.region id ops true) s Q := by
 simp only [annOk, Bool.and_eq_true] at ha
 have hA : AAny P n0 ro ops 0 s (Q .normal) := anyK_sound hO (back_of ha.1) as 0 ops.toList s (by simp) ha.2 h
 intro X k0 k a hn hat
 refine wpIn_region_any hm ?_
 have hle : Le k { k with w := { k.w with drawn := k.w.drawn + 1 } } := le_world rfl rfl rfl (Nat.le_refl _) fun _ _ => rfl
 have hat' : At X k0 { k with w := { k.w with drawn := k.w.drawn + 1 } } a s := ⟨hat.h, hat.nid, hat.good.world hle fun _ _ => rfl, hat.le.trans hle, hat.act.le hat.good hle⟩
 refine hA X k0 { k with w := { k.w with drawn := k.w.drawn + 1 } } a (PostD X k0 Q _ a) hn hat' (fun k' a' s' hs' hat2 hd => ⟨.normal, k', s', rfl, rfl, hs', hat2, .of hd⟩) _ _ (by simp) (fun i hi => ?_) (by omega)
 simp [Ran, Array.getD_eq_getD_getElem?, hi]
theorem wd_sound (hO : OkO P O) (hm : P.follows .mixedOrders = true) {T : List (Nat × List Ann)} : ∀ (c : Code) (s : St) (Q : Ex → St → Prop), plainC T c = true → tabOk T c = true → wc P n0 ro T O c s Q → AWd P n0 ro c s Q
 | .skip, s, Q, _, _, h => fun X k0 k a hn hat => wpIn_skip ⟨.normal, k, s, rfl, rfl, h, hat, .refl _ _⟩
 | .label _, s, Q, _, _, h => fun X k0 k a hn hat => wpIn_label ⟨.normal, k, s, rfl, rfl, h, hat, .refl _ _⟩
 | .exit id, s, Q, _, _, h => fun X k0 k a hn hat => wpIn_exit ⟨.exit id, k, s, rfl, rfl, h, hat, .refl _ _⟩
 | .ret, s, Q, _, _, h => fun X k0 k a hn hat => wpIn_ret ⟨.ret, k, s, rfl, rfl, h, hat, .refl _ _⟩
 | .seq x y, s, Q, hp, ht, h => fun X k0 k a hn hat => by
  simp only [plainC, Bool.and_eq_true] at hp
  simp only [tabOk, Bool.and_eq_true] at ht
  refine wpIn_seq (wpIn_mono (wd_sound hO hm x s _ hp.1 ht.1 h X k0 k a hn hat) fun e a1 w ⟨e', k1, s1, h1, h2, h3, h4, h5⟩ => ?_)
  subst h2
  have hk : KeptW (wrs (.seq x y)) a a1 := h5.mono fun t ht => by simp only [wrs, List.mem_append]; exact .inl ht
  cases e <;> simp only [exOf, Option.some.injEq, reduceCtorEq] at h1 <;> subst h1
  ·exact wpIn_mono (wd_sound hO hm y s1 Q hp.2 ht.2 h3 X k0 k1 a1 hn h4) fun e a2 w ⟨e', k2, s2, g1, g2, g3, g4, g5⟩ => ⟨e', k2, s2, g1, g2, g3, g4, hk.trans (g5.mono fun t ht => by simp only [wrs, List.mem_append]; exact .inr ht)⟩
  ·exact ⟨_, k1, s1, rfl, rfl, h3, h4, hk⟩
  ·exact ⟨_, k1, s1, rfl, rfl, h3, h4, hk⟩
 | .cond c x y, s, Q, hp, ht, h => fun X k0 k a hn hat => by
  simp only [plainC, Bool.and_eq_true] at hp
  simp only [tabOk, Bool.and_eq_true] at ht
  simp only [wc] at h
  split at h
  ·rename_i t hc
   refine wpIn_cond (t := t) (eval_bool hat.act hc) ?_
   cases t
   ·exact wpIn_mono (wd_sound hO hm y s Q hp.2 ht.2 (h.2 rfl) X k0 k a hn hat) fun e a2 w ⟨e', k2, s2, g1, g2, g3, g4, g5⟩ => ⟨e', k2, s2, g1, g2, g3, g4, g5.mono fun t ht => by simp only [wrs, List.mem_append]; exact .inr ht⟩
   ·exact wpIn_mono (wd_sound hO hm x s Q hp.1 ht.1 (h.1 rfl) X k0 k a hn hat) fun e a2 w ⟨e', k2, s2, g1, g2, g3, g4, g5⟩ => ⟨e', k2, s2, g1, g2, g3, g4, g5.mono fun t ht => by simp only [wrs, List.mem_append]; exact .inl ht⟩
  ·exact h.elim
 | .block id c, s, Q, hp, ht, h => fun X k0 k a hn hat => wpIn_block (wpIn_mono (wd_sound hO hm c s _ hp ht h X k0 k a hn hat) fun e a w ⟨x, k, s, h1, h2, h3, h4, h5⟩ => by
  subst h2
  cases e with
  | exit i =>
   simp only [exOf, Option.some.injEq] at h1
   subst h1
   simp only [Exit.inBlock]
   by_cases hi : i = id
   ·rw [if_pos hi]
    simp only [blockQ, if_pos hi] at h3
    exact ⟨_, k, s, rfl, rfl, h3, h4, h5⟩
   ·rw [if_neg hi]
    simp only [blockQ, if_neg hi] at h3
    exact ⟨_, k, s, rfl, rfl, h3, h4, h5⟩
  | _ =>
   simp only [exOf, Option.some.injEq, reduceCtorEq] at h1
   try (subst h1; exact ⟨_, k, s, rfl, rfl, h3, h4, h5⟩))
 | .region id ops false, s, Q, _, _, h => by
  refine awd_region ?_
  have := wcOps_aops hO (n0 := n0) (ro := ro) ops.toList 0 s _ (fun j => by simp) h
  simpa using this
 | .region id ops true, s, Q, hp, ht, h => by
  simp only [plainC] at hp
  simp only [wc, tabOk] at h ht
  split at h
  ·rename_i as ha
   rw [ha] at ht
   exact awd_draw hO hm ht h
  ·rename_i ha; rw [ha] at hp; cases hp
 | .loop c, s, Q, hp, _, h => by cases hp
 | .rangeFunc f p a b, s, Q, hp, _, h => by cases hp
 | .scope c, s, Q, hp, _, h => by cases hp
 | .goto l, s, Q, hp, _, h => by cases hp
 | .refuse w, s, Q, hp, _, h => by cases hp
end

def NS (S0 : Nat → Prop) (W : World) : Nat → Prop := fun b => b < W.heap.size ∧ ¬ S0 b
abbrev RXS (S0 : Nat → Prop) (W : World) : Rx := Cx.R (NS S0 W) (K0 W)
theorem good_KS (S0 : Nat → Prop) (W : World) : Good (NS S0 W) (K0 W) :=
 ⟨fun _ _ h => by simp [K0, hget] at h, fun _ _ _ h => by simp [K0, Cx.own, hget, ownOf] at h, fun _ _ h => by simp [K0, Cx.own, hget, ownOf] at h, fun _ h => h.1, fun _ _ h => by simp [K0, hget] at h⟩
theorem k0_mut (W : World) (b : Nat) : ¬ (K0 W).Mut b := fun ⟨id, h⟩ => by simp [K0, Cx.own, hget, ownOf] at h
theorem rs_S {S0 : Nat → Prop} {W : World} {b : Nat} : (RXS S0 W).S b ↔ b < W.heap.size ∧ S0 b :=
 ⟨fun ⟨h1, h2, _⟩ => ⟨h1, Classical.byContradiction fun h => h2 ⟨h1, h⟩⟩, fun ⟨h1, h2⟩ => ⟨h1, fun h => h.2 h2, k0_mut W b⟩⟩
theorem rs_mono {S0 : Nat → Prop} {W W' : World} (hk : ∀ b, S0 b → W'.heap[b]? = W.heap[b]?) (hs : W.heap.size ≤ W'.heap.size) : RLe 0 (RXS S0 W) (RXS S0 W') where
 β := fun _ _ => rfl
 arr := fun _ _ m hm => ⟨m, hm, Nat.le_refl _, fun _ => rfl⟩
 S := fun b h => rs_S.2 ⟨Nat.lt_of_lt_of_le (rs_S.1 h).1 hs, (rs_S.1 h).2⟩
 heap := fun b o h => cell_of_heap (hk b (rs_S.1 h).2)
 map := fun b es c h he => (hk b (rs_S.1 h).2).trans he

variable {α : Type}
structure AtP (S0 : Nat → Prop) (a : Act) (s : St) (W : World) : Prop where
 defers : a.defers = []
 h : s.h = []
 nid : s.nid = 0
 size : a.tmps.size = s.n
 rel : ∀ i : Nat, Rel (RXS S0 W) 0 (a.tmps.getD i undef) (look s.env i)
 lt : ∀ b, S0 b → b < W.heap.size
theorem AtP.at_ {S0 : Nat → Prop} {a : Act} {s : St} {W : World} (h : AtP S0 a s W) : At (NS S0 W) (K0 W) (K0 W) a s :=
 ⟨h.h.symm, h.nid.symm, good_KS S0 W, .refl _, ⟨h.size, h.rel, [], by simp [h.defers], List.nodup_nil, by simp⟩⟩
def weakJ (ws : List Tmp) (s0 s s' : St) : Prop :=
 s'.n = s.n ∧ s'.h = [] ∧ s'.nid = 0 ∧ ∀ i, look s'.env i = .any ∨ (look s.env i = look s'.env i ∧ flat1 (look s'.env i) = true) ∨ (i ∉ ws ∧ look s0.env i = look s'.env i)
def SG (S0 : Nat → Prop) (g : List α × Bool) : Nat → Prop := fun b => g.2 = false ∧ S0 b
def AWj (P : Program) (S0 : Nat → Prop) (JJ : List α × Bool → World → Prop) (c : Code) (s : St) (g : List α × Bool) (Q : Ex → St → List α × Bool → Prop) : Prop :=
 ∀ a W, AtP (SG S0 g) a s W → JJ g W → c.wpIn (FW none) 0 P (fun e a' w' => ∃ x s' g', exOf e = some x ∧ Q x s' g' ∧ AtP (SG S0 g') a' s' w' ∧ JJ g' w') a W

def thenJ (K : St → List α × Bool → Prop) (Q : Ex → St → List α × Bool → Prop) : Ex → St → List α × Bool → Prop
 | .normal, s, g => K s g
 | e, s, g => Q e s g
def blockJ (id : Nat) (Q : Ex → St → List α × Bool → Prop) : Ex → St → List α × Bool → Prop
 | .exit i, s, g => if i = id then Q .normal s g else Q (.exit i) s g
 | e, s, g => Q e s g
section
variable {P : Program} {S0 : Nat → Prop} {JJ : List α × Bool → World → Prop} {O : Oracle}
theorem awj_skip {s : St} {g : List α × Bool} {Q : Ex → St → List α × Bool → Prop} (h : Q .normal s g) : AWj P S0 JJ .skip s g Q := fun _ _ ha hj => wpIn_skip ⟨.normal, s, g, rfl, h, ha, hj⟩
theorem awj_ret {s : St} {g : List α × Bool} {Q : Ex → St → List α × Bool → Prop} (h : Q .ret s g) : AWj P S0 JJ .ret s g Q := fun _ _ ha hj => wpIn_ret ⟨.ret, s, g, rfl, h, ha, hj⟩
theorem awj_seq {x y : Code} {s : St} {g : List α × Bool} {Q : Ex → St → List α × Bool → Prop} (h : AWj P S0 JJ x s g (thenJ (fun s' g' => AWj P S0 JJ y s' g' Q) Q)) : AWj P S0 JJ (.seq x y) s g Q :=
 fun a W ha hj => wpIn_seq (wpIn_mono (h a W ha hj) fun e a w ⟨x, s, g, h1, h3, h4, h5⟩ => by
  cases e <;> simp only [exOf, Option.some.injEq, reduceCtorEq] at h1 <;> subst h1
  ·exact h3 a w h4 h5
  ·exact ⟨_, s, g, rfl, h3, h4, h5⟩
  ·exact ⟨_, s, g, rfl, h3, h4, h5⟩)
theorem awj_cond {c : Operand} {x y : Code} {s : St} {g : List α × Bool} {Q : Ex → St → List α × Bool → Prop} {t : Bool} (hc : evO s.env c = .bool t) (ht : t = true → AWj P S0 JJ x s g Q) (hf : t = false → AWj P S0 JJ y s g Q) : AWj P S0 JJ (.cond c x y) s g Q :=
 fun a W ha hj => wpIn_cond (t := t) (eval_bool ha.at_.act hc) (by
  cases t
  ·exact hf rfl a W ha hj
  ·exact ht rfl a W ha hj)
theorem awj_block {id : Nat} {c : Code} {s : St} {g : List α × Bool} {Q : Ex → St → List α × Bool → Prop} (h : AWj P S0 JJ c s g (blockJ id Q)) : AWj P S0 JJ (.block id c) s g Q :=
 fun a W ha hj => wpIn_block (wpIn_mono (h a W ha hj) fun e a w ⟨x, s, g, h1, h3, h4, h5⟩ => by
  cases e with
  | exit i =>
   simp only [exOf, Option.some.injEq] at h1
   subst h1
   simp only [Exit.inBlock]
   by_cases hi : i = id
   ·rw [if_pos hi]
    simp only [blockJ, if_pos hi] at h3
    exact ⟨_, s, g, rfl, h3, h4, h5⟩
   ·rw [if_neg hi]
    simp only [blockJ, if_neg hi] at h3
    exact ⟨_, s, g, rfl, h3, h4, h5⟩
  | _ =>
   simp only [exOf, Option.some.injEq, reduceCtorEq] at h1
   try (subst h1; exact ⟨_, s, g, rfl, h3, h4, h5⟩))
def lessJ (s s' : St) : Prop := s'.n = s.n ∧ s'.h = [] ∧ s'.nid = 0 ∧ ∀ i, look s'.env i = .any ∨ look s.env i = look s'.env i
theorem AtP.less {a : Act} {s s' : St} {W : World} (h : AtP S0 a s W) (hw : lessJ s s') : AtP S0 a s' W :=
 ⟨h.defers, hw.2.1, hw.2.2.1, h.size.trans hw.1.symm, fun i => by
  rcases hw.2.2.2 i with h1 | h1
  ·rw [h1]; exact .any _ _
  ·rw [← h1]; exact h.rel i, h.lt⟩
theorem awj_loop {ι : Type} {c : Code} {s : St} {g : List α × Bool} {Q : Ex → St → List α × Bool → Prop} (σ : ι → St) (γ : ι → List α × Bool) (I : ι → Prop) (μ : ι → Nat) (i0 : ι) (h0 : I i0) (hg : g = γ i0) (hw : lessJ s (σ i0))
  (round : ∀ i, I i → AWj P S0 JJ c (σ i) (γ i) (thenJ (fun s' g' => ∃ j, I j ∧ μ j < μ i ∧ g' = γ j ∧ lessJ s' (σ j)) Q)) : AWj P S0 JJ (.loop c) s g Q := fun a W ha hj =>
 wpIn_loopI (fun i a w => I i ∧ AtP (SG S0 (γ i)) a (σ i) w ∧ JJ (γ i) w) μ i0 ⟨h0, by rw [← hg]; exact ha.less hw, hg ▸ hj⟩ fun i a w ⟨hi, hat, hji⟩ => wpIn_mono (round i hi a w hat hji) fun e a' w' ⟨x, s', g', h1, h3, h4, h5⟩ => by
  cases e with
  | normal =>
   simp only [exOf, Option.some.injEq] at h1; subst h1
   obtain ⟨j, hj, hlt, rfl, hwk⟩ := h3
   exact ⟨j, ⟨hj, h4.less hwk, h5⟩, hlt⟩
  | exit id => simp only [exOf, Option.some.injEq] at h1; subst h1; exact ⟨_, s', g', rfl, h3, h4, h5⟩
  | ret => simp only [exOf, Option.some.injEq] at h1; subst h1; exact ⟨_, s', g', rfl, h3, h4, h5⟩
  | _ => simp [exOf] at h1
theorem awj_piece (hO : OkO P O) (hm : P.follows .mixedOrders = true) (T : List (Nat × List Ann)) (hJ : ∀ g W W', JJ g W → W.grownBy W' none → JJ g W') {c : Code} {s : St} {g : List α × Bool} {Q : Ex → St → List α × Bool → Prop}
  (hp : plainC T c = true) (ht : tabOk T c = true) (h : wc P 0 none T O c s fun e s' => ∃ s2, weakJ (wrs c) s s' s2 ∧ Q e s2 g) : AWj P S0 JJ c s g Q := fun a W ha hj =>
 wpIn_mono (wd_sound (n0 := 0) (ro := none) hO hm c s _ hp ht h (NS (SG S0 g) W) (K0 W) (K0 W) a rfl ha.at_) fun e a' w' ⟨x, k, s1, h1, h2, ⟨s2, hw, hq⟩, hat, hk⟩ => by
  subst h2
  have hblk : ∀ b, b < W.heap.size → k.w.heap[b]? = W.heap[b]? := fun b hb => hat.le.heap b hb (k0_mut W b)
  have hsz : W.heap.size ≤ k.w.heap.size := hat.le.size
  refine ⟨x, s2, g, h1, hq, ⟨hk.1.trans ha.defers, hw.2.1, hw.2.2.1, hat.act.size.trans hw.1.symm, fun i => ?_, fun b hb => Nat.lt_of_lt_of_le (ha.lt b hb) hsz⟩, hJ g W k.w hj ⟨hat.le.os, hat.le.tape, hat.le.output, hsz, fun b hb _ => hblk b hb⟩⟩
  ·rcases hw.2.2.2 i with h | ⟨h, hf⟩ | ⟨h, hl⟩
   ·rw [h]; exact .any _ _
   ·have := hat.act.rel i
    rw [h] at this
    exact this.flat1 hf
   ·rw [hk.2 i h, ← hl]
    exact (ha.rel i).mono (rs_mono (fun b hb => hblk b (ha.lt b hb)) hsz)

def KpS (S0 : Nat → Prop) (W W' : World) : Prop := W.heap.size ≤ W'.heap.size ∧ ∀ b, S0 b → W'.heap[b]? = W.heap[b]?
def flS (s : St) : St := ⟨s.env.map fun p => (p.1, if flat1 p.2 = true then p.2 else .any), s.h, s.nid, s.n⟩
theorem look_fl (e : Env) (i : Nat) : look (e.map fun p => (p.1, if flat1 p.2 = true then p.2 else .any)) i = if flat1 (look e i) = true then look e i else .any := by
 induction e with
 | nil =>
  show D.any = _
  by_cases h : flat1 D.any = true
  ·rw [show look [] i = D.any from rfl, if_pos h]
  ·rw [show look [] i = D.any from rfl, if_neg h]
 | cons p e ih =>
  obtain ⟨j, d⟩ := p
  simp only [List.map_cons, look]
  split
  ·rfl
  ·exact ih
def yOps (P : Program) (dsf : α → List D) (N : Nat) (l : Nat) : List Oper → St → List α × Bool → (St → List α × Bool → Prop) → Prop
 | [], s, g, K => K s g
 | o :: r, s, g, K => o.guard = none ∧
  match yieldOf s.env o.op with
  | some (l', ds) => l' = l ∧ ∃ pre x, g = (pre, false) ∧ pre.length < N ∧ ds = dsf x ∧ yOps P dsf N l r (s.put o.dst (.bool true)) (pre ++ [x], false) K ∧ yOps P dsf N l r ((flS s).put o.dst (.bool false)) (pre ++ [x], true) K
  | none => match opR P o.op (evO s.env) s.h with
   | some d => yOps P dsf N l r (s.put o.dst d) g K
   | none => False
theorem AtP.put {S0 : Nat → Prop} {a : Act} {s : St} {W : World} (h : AtP S0 a s W) (dst : Option Tmp) {v : Value} {d : D} (hr : Rel (RXS S0 W) 0 v d) : AtP S0 (a.put dst v) (s.put dst d) W := by
 have := ActOk.put h.at_.act dst hr
 exact ⟨by rw [put_defers]; exact h.defers, by rw [put_h]; exact h.h, by rw [put_nid]; exact h.nid, this.size, this.rel, h.lt⟩
theorem yield_runP {S0 : Nat → Prop} {a : Act} {s : St} {W : World} {o : Oper} {l : Nat} {ds : List D} (hat : AtP S0 a s W) (h : yieldOf s.env o.op = some (l, ds)) :
  ∃ vs, RelL (RXS S0 W) 0 vs ds ∧ (∀ c, o.op ≠ .defer c) ∧ (execOp a.eval o).run P W = (Instr.yield l vs.toArray).run P W := by
 unfold yieldOf at h
 split at h
 ·rename_i c hop
  split at h
  ·rename_i x hx
   split at h
   ·rename_i l' hv
    cases h
    have hr := hat.at_.act.eval x
    rw [hv] at hr
    obtain ⟨callee, args, argTypes⟩ := c
    dsimp only at hx
    subst hx
    generalize hv' : a.eval x = v at hr
    cases hr
    refine ⟨args.toList.map a.eval, RelL.map (fun x => hat.at_.act.eval x) _, fun c hc => (by rw [hop] at hc; cases hc), ?_⟩
    unfold execOp
    rw [hop]
    simp only [resolve, Sem.run_bind, hv', Deferred.ofValue, Sem.run_pure, Result.andThen_ok, invoke]
    congr 2
    apply Array.ext'
    simp
   ·cases h
  ·cases h
 ·cases h
theorem yOps_sound {dsf : α → List D} {encs : α → Array Value} {N l : Nat} {ops : Array Oper} (henc : ∀ (R : Rx) (n : Nat) vs x, RelL R n vs (dsf x) → vs = (encs x).toList)
  (hY : ∀ pre x W1, JJ (pre, false) W1 → pre.length < N → YieldAt (FW none) 0 P l (encs x) W1 fun e W' => (e = .returned (.bool true) ∧ JJ (pre ++ [x], false) W' ∧ KpS S0 W1 W') ∨ (e = .returned (.bool false) ∧ JJ (pre ++ [x], true) W'))
  {K : St → List α × Bool → Prop} {Q : Exit → Act → World → Prop} (hK : ∀ a s g W, K s g → AtP (SG S0 g) a s W → JJ g W → Q .normal a W) : ∀ (r : List Oper) (i : Nat) (s : St) (g : List α × Bool) (W : World) (a : Act), (∀ j, r[j]? = ops[i + j]?) → yOps P dsf N l r s g K → AtP (SG S0 g) a s W → JJ g W →
   wpOpsIn (FW none) 0 P ops Q ((List.range r.length).map (i + ·)) a W
 | [], i, s, g, W, a, _, h, hat, hj => hK a s g W h hat hj
 | o :: rest, i, s, g, W, a, hl, h, hat, hj => by
  have ho : ops[i]? = some o := by have := hl 0; simpa using this.symm
  have hrest : ∀ j, rest[j]? = ops[i + 1 + j]? := fun j => by have := hl (j + 1); simp at this; rw [this]; congr 1; omega
  have hmap : (List.range (o :: rest).length).map (i + ·) = i :: (List.range rest.length).map (i + 1 + ·) := by
   rw [List.length_cons, List.range_succ_eq_map, List.map_cons, List.map_map]
   simp only [Nat.add_zero, List.cons.injEq, true_and]
   apply List.map_congr_left
   intro a _
   simp only [Function.comp]; omega
  obtain ⟨hg, h⟩ := h
  rw [hmap, wpOpsIn_cons]
  have hw : Region.wanted o (yielded ops a.tmps) = true := by simp [Region.wanted, hg]
  simp only [wpOpIn, ho, hw, if_true]
  refine ⟨fun _ _ => trivial, ?_⟩
  split at h
  ·rename_i l' ds hy
   obtain ⟨rfl, pre, x, rfl, hN, rfl, h1, h2⟩ := h
   obtain ⟨vs, r1, r2, r3⟩ := yield_runP (P := P) hat hy
   rw [semAt_eq _ _ r2, r3, henc _ _ vs x r1, Array.toArray_toList]
   obtain ⟨fn, tmps, assign, body, h4, h5⟩ := hY pre x W hj hN
   rw [h4]
   refine ⟨by simp [FW, Fence.wide], h5.mono ?_⟩
   rintro e W' (⟨rfl, hj', hk⟩ | ⟨rfl, hj'⟩)
   ·have hat' : AtP (SG S0 (pre ++ [x], false)) a s W' := ⟨hat.defers, hat.h, hat.nid, hat.size, fun i => (hat.rel i).mono (rs_mono (fun b hb => hk.2 b hb.2) hk.1), fun b hb => Nat.lt_of_lt_of_le (hat.lt b hb) hk.1⟩
    exact yOps_sound henc hY hK rest (i + 1) _ _ W' _ hrest h1 (hat'.put o.dst (.bool _ _)) hj'
   ·have hat' : AtP (SG S0 (pre ++ [x], true)) a (flS s) W' := ⟨hat.defers, hat.h, hat.nid, hat.size, fun i => by
     simp only [flS, look_fl]
     split
     ·rename_i hf; exact (hat.rel i).flat1 hf
     ·exact .any _ _, fun b hb => by cases hb.1⟩
    exact yOps_sound henc hY hK rest (i + 1) _ _ W' _ hrest h2 (hat'.put o.dst (.bool _ _)) hj'
  ·split at h
   ·rename_i d hd
    have hnd := opR_not_defer hd
    rw [hat.h] at hd
    obtain ⟨v, h1, h2⟩ := opR_sound (good_KS (SG S0 g) W) (fun x => hat.at_.act.eval x) hd
    have h1' : (execOp a.eval o).run P W = .ok (.value v) W := h1
    rw [semAt_eq _ _ hnd, h1']
    exact yOps_sound henc hY hK rest (i + 1) _ g W _ hrest h (hat.put o.dst h2) hj
   ·exact h.elim
end
section
variable {P : Program} {O : Oracle}
def SeqP (P : Program) (gf : FuncId) (caps : List D) (encs : α → Array Value) (Sd Sp : List α → Prop) (N : Nat) : Prop :=
 ∀ (S0 : Nat → Prop) (w : World) (vc : List Value), (∀ b, S0 b → b < w.heap.size) → RelL (RXS S0 w) 0 vc caps → SeqStopsK (FW none) 0 P gf vc.toArray encs (KpS S0) Sd Sp N w
theorem seq_of_awj {gf : FuncId} {fn : Func} {c : Code} {caps : List D} {encs : α → Array Value} {dsf : α → List D} {Sd Sp : List α → Prop} {N : Nat}
  (hf : P.funcs[gf]? = some fn) (hb : fn.body = some c) (hres : fn.results = #[]) (henc : ∀ (R : Rx) (n : Nat) vs x, RelL R n vs (dsf x) → vs = (encs x).toList)
  (hw : ∀ (S0 : Nat → Prop) (l : Nat) (JJ : List α × Bool → World → Prop), (∀ g W W', JJ g W → W.grownBy W' none → JJ g W') →
   (∀ (id : Nat) (ops : Array Oper) (s : St) (g : List α × Bool) (Q : Ex → St → List α × Bool → Prop), yOps P dsf N l ops.toList s g (Q .normal) → AWj P S0 JJ (.region id ops false) s g Q) →
   AWj P S0 JJ c ⟨(0, .raw (.func (.yield l) #[] #[])) :: argEnv 1 caps, [], 0, 1 + caps.length + (fn.ntmps - (1 + caps.length))⟩ ([], false) fun e _ g => (e = .normal ∨ e = .ret) ∧ ((g.2 = false ∧ Sd g.1) ∨ (g.2 = true ∧ Sp g.1))) :
  SeqP P gf caps encs Sd Sp N := by
 intro S0 w vc hS hrel l J Jx W hWb hJa hJxa hY h0
 have hgrow : ∀ g W W', (fun (g : List α × Bool) W => if g.2 = true then Jx g.1 W else J g.1 W) g W → W.grownBy W' none → (fun (g : List α × Bool) W => if g.2 = true then Jx g.1 W else J g.1 W) g W' := by
  rintro ⟨pre, b⟩ A B hA hAB
  cases b
  ·exact hJa pre A B none hA hAB fun r e => by cases e
  ·exact hJxa pre A B none hA hAB fun r e => by cases e
 have hbody := hw S0 l (fun g W => if g.2 = true then Jx g.1 W else J g.1 W) hgrow (fun id ops s g Q hq a A hat hj => by
  refine wpIn_region ?_
  have hr : List.range ops.size = (List.range ops.toList.length).map (0 + ·) := by simp
  rw [hr]
  exact yOps_sound henc (fun pre x W1 h1 h2 => hY pre x W1 h1 h2) (fun a s g W hk hat hj => ⟨.normal, s, g, rfl, hk, hat, hj⟩) ops.toList 0 s g A a (fun j => by simp) hq hat hj)
 refine callsIn_of_wp_marks hf hb trivial ?_ rfl
 have hlen : vc.length = caps.length := hrel.1
 have hrelW : RelL (RXS (SG S0 (([] : List α), false)) W) 0 vc caps := ⟨hlen, fun i v d h1 h2 => by
  have := (hrel.2 i v d h1 h2).mono (rs_mono (fun b hb => hWb.block b (hS b hb)) hWb.size)
  exact this.mono { β := fun _ _ => rfl, arr := fun _ _ m hm => ⟨m, hm, Nat.le_refl _, fun _ => rfl⟩, S := fun b h => rs_S.2 ⟨(rs_S.1 h).1, rfl, (rs_S.1 h).2⟩, heap := fun b o _ => rfl, map := fun _ _ _ _ h => h }⟩
 have hat : AtP (SG S0 (([] : List α), false)) { tmps := #[Value.func (.yield l) #[] #[]] ++ vc.toArray ++ Array.replicate (fn.ntmps - (#[Value.func (.yield l) #[] #[]] ++ vc.toArray : Array Value).size) undef, defers := [] }
   ⟨(0, .raw (.func (.yield l) #[] #[])) :: argEnv 1 caps, [], 0, 1 + caps.length + (fn.ntmps - (1 + caps.length))⟩ W := by
  refine ⟨rfl, rfl, rfl, by simp [hlen, Nat.add_comm], fun i => ?_, fun b hb => Nat.lt_of_lt_of_le (hS b hb.2) hWb.size⟩
  cases i with
  | zero =>
   have : (#[Value.func (.yield l) #[] #[]] ++ vc.toArray ++ Array.replicate (fn.ntmps - (#[Value.func (.yield l) #[] #[]] ++ vc.toArray : Array Value).size) undef).getD 0 undef = .func (.yield l) #[] #[] := by
    simp [Array.getD_eq_getD_getElem?, Array.getElem?_append]
   simp only [look, if_true]
   rw [this]
   exact .raw _ _
  | succ j =>
   simp only [look, Nat.add_eq_zero_iff, Nat.succ_ne_self, and_false, if_false, reduceCtorEq]
   rw [look_argEnv, if_pos (by omega), show j + 1 - 1 = j by omega]
   cases hc : caps[j]? with
   | none => exact .any _ _
   | some d =>
    have hj : j < vc.length := by rw [hlen]; exact (List.getElem?_eq_some_iff.1 hc).1
    have hv : (#[Value.func (.yield l) #[] #[]] ++ vc.toArray ++ Array.replicate (fn.ntmps - (#[Value.func (.yield l) #[] #[]] ++ vc.toArray : Array Value).size) undef).getD (j + 1) undef = vc[j] := by
     simp [Array.getD_eq_getD_getElem?, Array.getElem?_append, hj]
    rw [hv]
    exact hrelW.2 j _ d (by simp [hj]) hc
 refine wpIn_mono (hbody _ W hat h0) ?_
 rintro e a w' ⟨x, s, g, hx, ⟨hq1, hq2⟩, hat', hj⟩
 have key : LeavesInM (FW none) 0 P fn a.tmps (fun e W' => (∃ v, e = .returned v) ∧ ((∃ xs, Sd xs ∧ J xs W') ∨ (∃ pre, Sp pre ∧ Jx pre W'))) a.defers .returning w' := by
  rw [hat'.defers]
  refine ⟨.tuple #[], by rw [results_eq, hres]; simp, ⟨_, rfl⟩, ?_⟩
  obtain ⟨pre, b⟩ := g
  rcases hq2 with ⟨h1, h2⟩ | ⟨h1, h2⟩
  ·dsimp only at h1; subst h1; exact .inl ⟨pre, h2, hj⟩
  ·dsimp only at h1; subst h1; exact .inr ⟨pre, h2, hj⟩
 cases e with
 | normal => exact key
 | ret => exact key
 | exit id => simp only [exOf, Option.some.injEq] at hx; subst hx; rcases hq1 with h | h <;> cases h
 | _ => simp [exOf] at hx
end
end Go.Sx

/- Sx: ranges over iterators that read what they were handed; the rule. Own work. -/
namespace Go.Sx

def mapIds : H → List Nat
 | [] => []
 | (i, .map _) :: r => i :: mapIds r
 | (_, .box _) :: r => mapIds r
 | (_, .arr _ _ _) :: r => mapIds r
def isMapAt (h : H) (i : Nat) : Bool := match hget h i with
 | some (.map _) => true
 | _ => false
def mapsIn (h0 h : H) : Bool := (mapIds h).all (isMapAt h0) && boxNm h
theorem mapIds_get : ∀ {h : H} {id : Nat} {kvs : List (D × D)}, hget h id = some (.map kvs) → id ∈ mapIds h
 | [], id, kvs, h => by simp [hget] at h
 | (i, .box cs) :: r, id, kvs, h => by
  simp only [hget] at h; split at h
  ·cases h
  ·exact mapIds_get (h := r) h
 | (i, .arr t s es) :: r, id, kvs, h => by
  simp only [hget] at h; split at h
  ·cases h
  ·exact mapIds_get (h := r) h
 | (i, .map k) :: r, id, kvs, h => by
  simp only [hget] at h; split at h
  ·rename_i hi; subst hi; exact List.mem_cons_self
  ·exact List.mem_cons_of_mem _ (mapIds_get (h := r) h)
theorem mapsIn_get {h0 h : H} (hb : mapsIn h0 h = true) {id : Nat} {kvs : List (D × D)} (hg : hget h id = some (.map kvs)) : ∃ kvs', hget h0 id = some (.map kvs') := by
 simp only [mapsIn, Bool.and_eq_true] at hb
 have := List.all_eq_true.1 hb.1 id (mapIds_get hg)
 unfold isMapAt at this
 split at this
 ·exact ⟨_, by assumption⟩
 ·cases this
theorem own_kind {X : Nat → Prop} {k : Cx} (hg : Good X k) {id b : Nat} (h : k.own id = some b) : (∃ c t f, k.w.heap[b]? = some (.cells c t f)) ∨ ∃ kvs, hget k.h id = some (.map kvs) ∧ b = k.β id := by
 cases hq : hget k.h id with
 | none => simp [Cx.own, hq, ownOf] at h
 | some blk =>
  have hok := hg.ok id blk hq
  rw [Cx.own, hq] at h
  cases blk with
  | box cs =>
   simp [ownOf] at h; subst h
   obtain ⟨vs, ty, h1, _⟩ := hok
   exact .inl ⟨_, _, _, h1⟩
  | arr ty sz es =>
   rcases hok.2 with ⟨h1, _⟩ | ⟨b', off, cap, vs, h1, h2, _⟩
   ·simp [ownOf, h1, slBlk] at h
   ·simp [ownOf, h1, slBlk] at h; subst h; exact .inl ⟨_, _, _, h2⟩
  | map kvs => simp [ownOf] at h; exact .inr ⟨kvs, rfl, h.symm⟩
theorem mapsIn_nm {h0 h : H} (hb : mapsIn h0 h = true) : boxNm h = true := by
 simp only [mapsIn, Bool.and_eq_true] at hb; exact hb.2
theorem At.grownM {X : Nat → Prop} {k0 k1 k : Cx} {a : Act} {s s1 : St} {W' : World} {row : Option Nat} (hat1 : At X k0 k1 a s1) (he : s1.env = s.env) (hle1 : Le k1 k) (hat : At X k0 k a s) (hgr : k.w.grownBy W' row)
  (hrow : ∀ r, row = some r → k1.w.heap.size ≤ r ∧ ∃ o : Obj, k.w.heap[r]? = some o ∧ o.isCells = false) (hbx : boxNm s.h = true) (hmp : ∀ id kvs, hget k.h id = some (.map kvs) → k.β id < k1.w.heap.size)
  (hmk : ∀ r, markD r ∈ a.defers → r < k1.w.heap.size) : At X k0 { k with w := W' } a s :=
 hat1.grownG he hle1 hat hgr (fun r h => (hrow r h).1) hbx hmk (fun id b hb => by
  rcases own_kind hat.good hb with ⟨c, t, f, hc⟩ | ⟨kvs, hm, rfl⟩
  ·refine hgr.block b (hat.good.lt id b hb).1 fun e => ?_
   obtain ⟨_, o, h1, h2⟩ := hrow b e.symm
   rw [hc] at h1; cases h1; cases h2
  ·refine hgr.block _ (hat.good.lt id _ hb).1 fun e => ?_
   have := (hrow _ e.symm).1
   have := hmp id kvs hm
   omega) (cells_grown hgr fun r h => (hrow r h).2)
section
variable {P : Program} {O : Oracle} {n0 : Nat}
end
end Go.Sx

/- Sx: a statement, and what is known behind it. Own work. -/
namespace Go.Sx
variable {P : Program} {O : Oracle} {n0 : Nat} {ro : Option Nat} {T : List (Nat × List Ann)}
end Go.Sx

/- Sx: oracles out of families of contracts. Own work. -/
namespace Go.Sx
variable {P : Program}
noncomputable def orcF {α : Type} (ok : α → Prop) (dsf : α → List D) (rf : α → D) (ds : List D) : Option D :=
 open Classical in if h : ∃ a, ok a ∧ dsf a = ds then some (rf h.choose) else none
theorem orcF_ok {α : Type} {f : FuncId} {ok : α → Prop} {dsf : α → List D} {rf : α → D} (h : ∀ a, ok a → Pure P f (dsf a) (rf a)) (ds : List D) (r : D) (hr : orcF ok dsf rf ds = some r) : Pure P f ds r := by
 unfold orcF at hr
 split at hr
 ·rename_i hx
  cases hr
  have := hx.choose_spec
  have h2 := h _ this.1
  rw [this.2] at h2
  exact h2
 ·cases hr
theorem orcF_eq {α : Type} {ok : α → Prop} {dsf : α → List D} {rf : α → D} (a : α) (h : ok a) (hi : ∀ b, dsf b = dsf a → rf b = rf a) : orcF ok dsf rf (dsf a) = some (rf a) := by
 unfold orcF
 have hx : ∃ b, ok b ∧ dsf b = dsf a := ⟨a, h, rfl⟩
 rw [dif_pos hx, hi _ hx.choose_spec.2]
theorem map_inj {α β : Type} {f : α → β} (hf : ∀ a b, f a = f b → a = b) : ∀ {l r : List α}, l.map f = r.map f → l = r
 | [], [], _ => rfl
 | [], _ :: _, h => by cases h
 | _ :: _, [], h => by cases h
 | a :: l, b :: r, h => by
  simp only [List.map_cons, List.cons.injEq] at h
  rw [hf a b h.1, map_inj hf h.2]
theorem rev_callv {fl : Bool} {d : Option Tmp} {ty : TypeId} {pos : String} {after : Array Edge} {g : Option (Nat × Bool)} {env : Env} {h h' : H} {v : D} (t0 : Tmp) (x : List Operand) (t : Array TypeId) :
  ReV P fl ⟨⟨d, .call ⟨.value (.tmp t0), x.toArray, t⟩, ty, pos, after, g⟩, env, h, true, v⟩ h' = calleeZ (look env t0) (x.map (evO env)) (fun _ ds => viewL h' ds = viewL h ds) ⟨⟩ := by
 simp only [ReV, ReOk, dkind, calleeD, evO, calleeZ, true_implies]
 cases look env t0 with
 | fn f a c => cases f <;> simp
 | _ => simp
theorem nc_ref (cs : List D) (o : Nat) : nilCheckD (.ref cs o) = some (.ref cs o) := (rfl)
theorem nc_refm (kvs : List (D × D)) : nilCheckD (.refm kvs) = some (.refm kvs) := (rfl)
theorem nc_ptr (b o : Nat) : nilCheckD (.ptr b o) = some (.ptr b o) := (rfl)
theorem nc_fn (f : FuncId) (a c : List D) : nilCheckD (.fn (.func f) a c) = some (.fn (.func f) a c) := (rfl)
set_option linter.defProp false
def RT := And.intro @nc_ref <| And.intro @nc_refm <| And.intro @nc_ptr <| And.intro @nc_fn <| And.intro @rev_callv <| And.intro @calleeZ_fn <| And.intro @ex_tup <| And.intro @List.nil_append.{0} <| And.intro @List.append_nil.{0} <| @List.cons_append.{0}
end Go.Sx

/- Sx: a region that draws its order, with a yield in it, of an iterator that reads what it was handed. Own work. -/
namespace Go.Sx

section
variable {P : Program} {n0 : Nat} {ro : Option Nat} {ops : Array Oper} {b len : Nat} {fl : Bool} {re : List (Nat × Nat)} {st : Nat → St} {row : Nat → Row}

variable {O : Oracle}
end

section
variable {α : Type} {P : Program} {S0 : Nat → Prop} {JJ : List α × Bool → World → Prop} {O : Oracle}
end
section
variable {α : Type} {P : Program} {O : Oracle}
end
def envJ (ws : List Tmp) (e0 e' : Env) : Env → Prop
 | [] => True
 | (i, d) :: r => ((look e' i = d ∧ flat1 d = true) ∨ (ws.contains i = false ∧ look e0 i = d)) ∧ envJ ws e0 e' r
theorem envJ_look {ws : List Tmp} {e0 e' : Env} : ∀ {e : Env}, envJ ws e0 e' e → ∀ i, look e i = .any ∨ (look e' i = look e i ∧ flat1 (look e i) = true) ∨ (i ∉ ws ∧ look e0 i = look e i)
 | [], _, i => .inl rfl
 | (j, d) :: r, h, i => by
  simp only [look]
  split
  ·rename_i hij
   subst hij
   rcases h.1 with ⟨h1, h2⟩ | ⟨h1, h2⟩
   ·exact .inr (.inl ⟨h1, h2⟩)
   ·exact .inr (.inr ⟨fun hm => (by rw [List.contains_iff_mem.2 hm] at h1; cases h1), h2⟩)
  ·exact envJ_look h.2 i
theorem weakJ_of {ws : List Tmp} {e0 e' e : Env} {h0 h' : H} {n0 n' n : Nat} (h : envJ ws e0 e' e) : weakJ ws ⟨e0, h0, n0, n⟩ ⟨e', h', n', n⟩ ⟨e, [], 0, n⟩ := ⟨rfl, rfl, rfl, envJ_look h⟩
def envL (e' : Env) : Env → Prop
 | [] => True
 | (i, d) :: r => look e' i = d ∧ envL e' r
theorem envL_look {e' : Env} : ∀ {e : Env}, envL e' e → ∀ i, look e i = .any ∨ look e' i = look e i
 | [], _, i => .inl rfl
 | (j, d) :: r, h, i => by
  simp only [look]
  split
  ·rename_i hij; subst hij; exact .inr h.1
  ·exact envL_look h.2 i
theorem lessJ_of {e' e : Env} {h' : H} {n' n : Nat} (h : envL e' e) : lessJ ⟨e', h', n', n⟩ ⟨e, [], 0, n⟩ := ⟨rfl, rfl, rfl, envL_look h⟩
theorem awj_mono {α : Type} {P : Program} {S0 : Nat → Prop} {JJ : List α × Bool → World → Prop} {c : Code} {s : St} {g : List α × Bool} {Q Q' : Ex → St → List α × Bool → Prop} (h : AWj P S0 JJ c s g Q) (hq : ∀ e s g, Q e s g → Q' e s g) : AWj P S0 JJ c s g Q' :=
 fun a W ha hj => wpIn_mono (h a W ha hj) fun e a w ⟨x, s, g, h1, h2, h3⟩ => ⟨x, s, g, h1, hq x s g h2, h3⟩
end Go.Sx
