/- Own work: a calculus of contracts for the programs of this kit: parts SxZ10, SxRH, SxRI, SxZ11, SxZ12, SxZ13. -/
import Derived.Test.YtaifjmjooapmhaaGreatSxCw
set_option linter.unusedVariables false
set_option linter.unusedSimpArgs false
namespace Go.Sx
variable {P : Program} {n0 : Nat}

def frzBlk (h h' : H) : Blk → Blk
 | .box cs => .box (cs.map (frzD h h'))
 | x => x
def frzHH (h h' : H) : H := h'.map fun p => (p.1, frzBlk h h' p.2)
theorem frzHH_get (g h' : H) : ∀ (l : H) (id : Nat), hget (l.map fun p => (p.1, frzBlk g h' p.2)) id = (hget l id).map (frzBlk g h')
 | [], id => rfl
 | (i, b) :: r, id => by
  simp only [List.map_cons, hget, frzHH_get g h' r id]
  split <;> rfl
theorem ownOf_frz (k k2 : Cx) (hβ : k2.β = k.β) (hs : k2.sv = k.sv) (g h' : H) (id : Nat) (o : Option Blk) : ownOf k2 id (o.map (frzBlk g h')) = ownOf k id o := by
 cases o with
 | none => rfl
 | some b => cases b <;> simp [frzBlk, ownOf, hβ, hs]
theorem lnOf_frz (g h' : H) (o : Option Blk) : lnOf (o.map (frzBlk g h')) = lnOf o := by
 cases o with
 | none => rfl
 | some b => cases b <;> simp [frzBlk, lnOf]
def Cx.bare (k : Cx) (h' : H) : Cx := { k with h := h', nid := k.nid }
def Cx.thaw (k : Cx) (h' : H) : Cx := { k with h := frzHH k.h h', nid := k.nid }
theorem thaw_own (k : Cx) (h' : H) (i : Nat) : (k.thaw h').own i = (k.bare h').own i := by
 simp only [Cx.own, Cx.thaw, Cx.bare, frzHH, frzHH_get]
 exact ownOf_frz _ _ rfl rfl _ _ _ _
theorem thaw_mut (k : Cx) (h' : H) (b : Nat) : (k.thaw h').Mut b ↔ (k.bare h').Mut b := by simp only [Cx.Mut, thaw_own]
theorem thaw_R (X : Nat → Prop) (k : Cx) (h' : H) : (k.thaw h').R X = (k.bare h').R X := by
 have e1 : (fun b => b < k.w.heap.size ∧ ¬ X b ∧ ¬ (k.thaw h').Mut b) = fun b => b < k.w.heap.size ∧ ¬ X b ∧ ¬ (k.bare h').Mut b := by
  funext b; rw [thaw_mut]
 have e2 : (fun id => lnOf (hget (k.thaw h').h id)) = fun id => lnOf (hget (k.bare h').h id) := by
  funext id
  simp only [Cx.thaw, Cx.bare, frzHH, frzHH_get, lnOf_frz]
 show Rx.mk _ _ _ _ _ = Rx.mk _ _ _ _ _
 rw [show (k.thaw h').w = k.w from rfl, e1, e2]
 rfl
theorem Good.thaw {X : Nat → Prop} {k : Cx} {h' : H} (hg : Good X k) (hsub : ∀ id blk, hget h' id = some blk → hget k.h id = some blk) : Good X (k.thaw h') := by
 have hb : Good X (k.bare h') := hg.drop hsub (fun id blk hb => hg.key id blk (hsub id blk hb)) (fun hlt => absurd hlt (Nat.lt_irrefl _))
 refine ⟨fun id blk hq => ?_, fun i j b hi hj => hb.inj i j b (by rw [← thaw_own]; exact hi) (by rw [← thaw_own]; exact hj), fun i b hi => hb.lt i b (by rw [← thaw_own]; exact hi), hb.xlt, fun id blk hq => ?_⟩
 ·have hq : (hget h' id).map (frzBlk k.h h') = some blk := by rw [← frzHH_get]; exact hq
  cases e : hget h' id with
  | none => rw [e] at hq; cases hq
  | some b0 => exact hb.key id b0 e
 ·have hq : (hget h' id).map (frzBlk k.h h') = some blk := by rw [← frzHH_get]; exact hq
  cases e : hget h' id with
  | none => rw [e] at hq; cases hq
  | some b0 =>
   rw [e] at hq
   simp only [Option.map_some, Option.some.injEq] at hq
   subst hq
   have h1 := hb.ok id b0 e
   cases b0 with
   | box cs =>
    obtain ⟨vs, ty, a, b⟩ := hg.ok id _ (hsub id _ e)
    refine ⟨vs, ty, a, by rw [List.length_map]; exact b.1, fun i v d hv hd => ?_⟩
    rw [thaw_R]
    rw [List.getElem?_map] at hd
    cases hc : cs[i]? with
    | none => rw [hc] at hd; cases hd
    | some c =>
     rw [hc] at hd
     simp only [Option.map_some, Option.some.injEq] at hd
     subst hd
     exact frz_rel hg hsub (b.2 i v c hv hc)
   | arr ty sz es =>
    obtain ⟨a0, a1⟩ := h1
    refine ⟨a0, ?_⟩
    rcases a1 with a1 | ⟨b, off, cap, vs, x1, x2, x3, x4, x5⟩
    ·exact .inl a1
    ·exact .inr ⟨b, off, cap, vs, x1, x2, x3, x4, fun i e j d v p q r => by rw [thaw_R]; exact x5 i e j d v p q r⟩
   | map kvs =>
    obtain ⟨es, c, es', x1, x2, x3, x6, x4, x5⟩ := h1
    exact ⟨es, c, es', x1, x2, x3, x6, by rw [thaw_R]; exact x4, by rw [thaw_R]; exact x5⟩
theorem Le.thaw {k0 k : Cx} {h' : H} (hle : Le k0 k) (hsub : ∀ id blk, hget h' id = some blk → hget k.h id = some blk) : Le k0 (k.thaw h') := by
 have hb : Le k0 (k.bare h') := Le.drop hle hle.nid hsub
 refine ⟨hb.nid, hb.os, hb.tape, hb.output, hb.size, hb.β, fun id hid m hm => hb.arr id hid m ?_, hb.heap, fun b hlt hm => hb.mb b hlt ((thaw_mut k h' b).1 hm)⟩
 rw [← lnOf_frz k.h h' (hget (k.bare h').h id)]
 have : hget (k.thaw h').h id = (hget h' id).map (frzBlk k.h h') := frzHH_get _ _ _ _
 rw [this] at hm
 exact hm
theorem Imp.thaw {env : Env} {h : H} {nid n : Nat} (b : Nat) : Imp n0 ⟨env, h, nid, n⟩ ⟨env.map fun p => (p.1, frzD h (herase h b) p.2), frzHH h (herase h b), nid, n⟩ := fun X k0 k a hn hat => by
 have hh : k.h = h := hat.h
 have hnid : k.nid = nid := hat.nid
 subst hh; subst hnid
 have hsub : ∀ id blk, hget (herase k.h b) id = some blk → hget k.h id = some blk := fun id blk hb => by
  rw [herase_get] at hb
  split at hb
  ·cases hb
  ·exact hb
 refine ⟨k.thaw (herase k.h b), rfl, rfl, rfl, hat.good.thaw hsub, hat.le.thaw hsub, hat.act.size, fun i => ?_, hat.act.marks⟩
 have hl : look (env.map fun p => (p.1, frzD k.h (herase k.h b) p.2)) i = frzD k.h (herase k.h b) (look env i) := by
  clear hat hsub
  induction env with
  | nil => rfl
  | cons p e ih =>
   obtain ⟨j, d⟩ := p
   simp only [List.map_cons, look]
   split
   ·rfl
   ·exact ih
 show Rel _ _ _ (look (env.map fun p => (p.1, frzD k.h (herase k.h b) p.2)) i)
 rw [hl, thaw_R]
 exact frz_rel hat.good hsub (hat.act.rel i)
theorem imp_thaw {env e : Env} {h h' : H} {nid nid' n n' : Nat} (b : Nat) (hw : Imp n0 ⟨env.map fun p => (p.1, frzD h (herase h b) p.2), frzHH h (herase h b), nid, n⟩ ⟨e, h', nid', n'⟩) : Imp n0 ⟨env, h, nid, n⟩ ⟨e, h', nid', n'⟩ := (Imp.thaw b).trans hw
end Go.Sx

/- Sx: pieces of code that add no deferred call and keep slots; iterators that read what they were handed. Own work. -/
namespace Go.Sx

def wrs : Code → List Tmp
 | .seq a b => wrs a ++ wrs b
 | .cond _ a b => wrs a ++ wrs b
 | .block _ c => wrs c
 | .scope c => wrs c
 | .loop c => wrs c
 | .region _ ops _ => ops.toList.filterMap (·.dst)
 | _ => []
def plainC (T : List (Nat × List Ann)) : Code → Bool
 | .skip => true
 | .label _ => true
 | .exit _ => true
 | .ret => true
 | .seq a b => plainC T a && plainC T b
 | .cond _ a b => plainC T a && plainC T b
 | .block _ c => plainC T c
 | .region _ _ false => true
 | .region id _ true => (annOf T id).isSome
 | _ => false
def KeptW (ws : List Tmp) (a a' : Act) : Prop := a'.defers = a.defers ∧ ∀ t, t ∉ ws → a'.tmps.getD t undef = a.tmps.getD t undef
theorem KeptW.refl (ws : List Tmp) (a : Act) : KeptW ws a a := ⟨rfl, fun _ _ => rfl⟩
theorem KeptW.trans {ws : List Tmp} {a b c : Act} (h : KeptW ws a b) (h' : KeptW ws b c) : KeptW ws a c := ⟨h'.1.trans h.1, fun t ht => (h'.2 t ht).trans (h.2 t ht)⟩
theorem KeptW.mono {ws ws' : List Tmp} {a b : Act} (h : KeptW ws a b) (hs : ∀ t, t ∈ ws → t ∈ ws') : KeptW ws' a b := ⟨h.1, fun t ht => h.2 t fun x => ht (hs t x)⟩
theorem KeptW.of {ops : Array Oper} {a b : Act} (h : KeptA ops a b) : KeptW (ops.toList.filterMap (·.dst)) a b := ⟨h.1, fun t ht => h.2 t fun i o ho hd => ht (List.mem_filterMap.2 ⟨o, by rw [Array.mem_toList_iff]; exact Array.mem_of_getElem? ho, hd⟩)⟩

def PostD (X : Nat → Prop) (k0 : Cx) (Q : Ex → St → Prop) (ws : List Tmp) (a0 : Act) (e : Exit) (a : Act) (w : World) : Prop :=
 ∃ x k s, exOf e = some x ∧ k.w = w ∧ Q x s ∧ At X k0 k a s ∧ KeptW ws a0 a
def AWd (P : Program) (n0 : Nat) (ro : Option Nat) (c : Code) (s : St) (Q : Ex → St → Prop) : Prop :=
 ∀ X k0 k a, k0.nid = n0 → At X k0 k a s → c.wpIn (FW ro) 0 P (PostD X k0 Q (wrs c) a) a k.w
section
variable {P : Program} {n0 : Nat} {ro : Option Nat} {O : Oracle}

theorem awd_region {id : Nat} {ops : Array Oper} {s : St} {Q : Ex → St → Prop} (h : AOps P n0 ro ops (List.range ops.size) s (Q .normal)) : AWd P n0 ro (.region id ops false) s Q :=
 fun X k0 k a hn hat => wpIn_region (h X k0 k a _ hn hat fun k' a' s' hs' hat' hd => ⟨.normal, k', s', rfl, rfl, hs', hat', .of hd⟩)
theorem awd_draw (hO : OkO P O) {id : Nat} {ops : Array Oper} {as : List Ann} {s : St} {Q : Ex → St → Prop} (hm : P.follows .mixedOrders = true) (ha : annOk ops as = true) (h : anyK P O ops as ops.toList s (Q .normal)) :
  AWd P n0 ro (.region id ops true) s Q := by
 simp only [annOk, Bool.and_eq_true] at ha
 have hA : AAny P n0 ro ops 0 s (Q .normal) := anyK_sound hO (back_of ha.1) as 0 ops.toList s (by simp) ha.2 h
 intro X k0 k a hn hat
 refine wpIn_region_any hm ?_
 have hle : Le k { k with w := { k.w with drawn := k.w.drawn + 1 } } := le_world rfl rfl rfl (Nat.le_refl _) fun _ _ => rfl
 have hat' : At X k0 { k with w := { k.w with drawn := k.w.drawn + 1 } } a s := ⟨hat.h, hat.nid, hat.good.world hle fun _ _ => rfl, hat.le.trans hle, hat.act.le hat.good hle⟩
 refine hA X k0 { k with w := { k.w with drawn := k.w.drawn + 1 } } a (PostD X k0 Q _ a) hn hat' (fun k' a' s' hs' hat2 hd => ⟨.normal, k', s', rfl, rfl, hs', hat2, .of hd⟩) _ _ (by simp) (fun i hi => ?_) (by omega)
 simp [Ran, Array.getD_eq_getD_getElem?, hi]
theorem wd_sound (hO : OkO P O) (hm : P.follows .mixedOrders = true) {T : List (Nat × List Ann)} : ∀ (c : Code) (s : St) (Q : Ex → St → Prop), plainC T c = true → tabOk T c = true → wc P n0 ro T O c s Q → AWd P n0 ro c s Q
 | .skip, s, Q, _, _, h => fun X k0 k a hn hat => wpIn_skip ⟨.normal, k, s, rfl, rfl, h, hat, .refl _ _⟩
 | .label _, s, Q, _, _, h => fun X k0 k a hn hat => wpIn_label ⟨.normal, k, s, rfl, rfl, h, hat, .refl _ _⟩
 | .exit id, s, Q, _, _, h => fun X k0 k a hn hat => wpIn_exit ⟨.exit id, k, s, rfl, rfl, h, hat, .refl _ _⟩
 | .ret, s, Q, _, _, h => fun X k0 k a hn hat => wpIn_ret ⟨.ret, k, s, rfl, rfl, h, hat, .refl _ _⟩
 | .seq x y, s, Q, hp, ht, h => fun X k0 k a hn hat => by
  simp only [plainC, Bool.and_eq_true] at hp
  simp only [tabOk, Bool.and_eq_true] at ht
  refine wpIn_seq (wpIn_mono (wd_sound hO hm x s _ hp.1 ht.1 h X k0 k a hn hat) fun e a1 w ⟨e', k1, s1, h1, h2, h3, h4, h5⟩ => ?_)
  subst h2
  have hk : KeptW (wrs (.seq x y)) a a1 := h5.mono fun t ht => by simp only [wrs, List.mem_append]; exact .inl ht
  cases e <;> simp only [exOf, Option.some.injEq, reduceCtorEq] at h1 <;> subst h1
  ·exact wpIn_mono (wd_sound hO hm y s1 Q hp.2 ht.2 h3 X k0 k1 a1 hn h4) fun e a2 w ⟨e', k2, s2, g1, g2, g3, g4, g5⟩ => ⟨e', k2, s2, g1, g2, g3, g4, hk.trans (g5.mono fun t ht => by simp only [wrs, List.mem_append]; exact .inr ht)⟩
  ·exact ⟨_, k1, s1, rfl, rfl, h3, h4, hk⟩
  ·exact ⟨_, k1, s1, rfl, rfl, h3, h4, hk⟩
 | .cond c x y, s, Q, hp, ht, h => fun X k0 k a hn hat => by
  simp only [plainC, Bool.and_eq_true] at hp
  simp only [tabOk, Bool.and_eq_true] at ht
  simp only [wc] at h
  split at h
  ·rename_i t hc
   refine wpIn_cond (t := t) (eval_bool hat.act hc) ?_
   cases t
   ·exact wpIn_mono (wd_sound hO hm y s Q hp.2 ht.2 (h.2 rfl) X k0 k a hn hat) fun e a2 w ⟨e', k2, s2, g1, g2, g3, g4, g5⟩ => ⟨e', k2, s2, g1, g2, g3, g4, g5.mono fun t ht => by simp only [wrs, List.mem_append]; exact .inr ht⟩
   ·exact wpIn_mono (wd_sound hO hm x s Q hp.1 ht.1 (h.1 rfl) X k0 k a hn hat) fun e a2 w ⟨e', k2, s2, g1, g2, g3, g4, g5⟩ => ⟨e', k2, s2, g1, g2, g3, g4, g5.mono fun t ht => by simp only [wrs, List.mem_append]; exact .inl ht⟩
  ·exact h.elim
 | .block id c, s, Q, hp, ht, h => fun X k0 k a hn hat => wpIn_block (wpIn_mono (wd_sound hO hm c s _ hp ht h X k0 k a hn hat) fun e a w ⟨x, k, s, h1, h2, h3, h4, h5⟩ => by
  subst h2
  cases e with
  | exit i =>
   simp only [exOf, Option.some.injEq] at h1
   subst h1
   simp only [Exit.inBlock]
   by_cases hi : i = id
   ·rw [if_pos hi]
    simp only [blockQ, if_pos hi] at h3
    exact ⟨_, k, s, rfl, rfl, h3, h4, h5⟩
   ·rw [if_neg hi]
    simp only [blockQ, if_neg hi] at h3
    exact ⟨_, k, s, rfl, rfl, h3, h4, h5⟩
  | _ =>
   simp only [exOf, Option.some.injEq, reduceCtorEq] at h1
   try (subst h1; exact ⟨_, k, s, rfl, rfl, h3, h4, h5⟩))
 | .region id ops false, s, Q, _, _, h => by
  refine awd_region ?_
  have := wcOps_aops hO (n0 := n0) (ro := ro) ops.toList 0 s _ (fun j => by simp) h
  simpa using this
 | .region id ops true, s, Q, hp, ht, h => by
  simp only [plainC] at hp
  simp only [wc, tabOk] at h ht
  split at h
  ·rename_i as ha
   rw [ha] at ht
   exact awd_draw hO hm ht h
  ·rename_i ha; rw [ha] at hp; cases hp
 | .loop c, s, Q, hp, _, h => by cases hp
 | .rangeFunc f p a b, s, Q, hp, _, h => by cases hp
 | .scope c, s, Q, hp, _, h => by cases hp
 | .goto l, s, Q, hp, _, h => by cases hp
 | .refuse w, s, Q, hp, _, h => by cases hp
end

def NS (S0 : Nat → Prop) (W : World) : Nat → Prop := fun b => b < W.heap.size ∧ ¬ S0 b
abbrev RXS (S0 : Nat → Prop) (W : World) : Rx := Cx.R (NS S0 W) (K0 W)
theorem good_KS (S0 : Nat → Prop) (W : World) : Good (NS S0 W) (K0 W) :=
 ⟨fun _ _ h => by simp [K0, hget] at h, fun _ _ _ h => by simp [K0, Cx.own, hget, ownOf] at h, fun _ _ h => by simp [K0, Cx.own, hget, ownOf] at h, fun _ h => h.1, fun _ _ h => by simp [K0, hget] at h⟩
theorem k0_mut (W : World) (b : Nat) : ¬ (K0 W).Mut b := fun ⟨id, h⟩ => by simp [K0, Cx.own, hget, ownOf] at h
theorem rs_S {S0 : Nat → Prop} {W : World} {b : Nat} : (RXS S0 W).S b ↔ b < W.heap.size ∧ S0 b :=
 ⟨fun ⟨h1, h2, _⟩ => ⟨h1, Classical.byContradiction fun h => h2 ⟨h1, h⟩⟩, fun ⟨h1, h2⟩ => ⟨h1, fun h => h.2 h2, k0_mut W b⟩⟩
theorem rs_mono {S0 : Nat → Prop} {W W' : World} (hk : ∀ b, S0 b → W'.heap[b]? = W.heap[b]?) (hs : W.heap.size ≤ W'.heap.size) : RLe 0 (RXS S0 W) (RXS S0 W') where
 β := fun _ _ => rfl
 arr := fun _ _ m hm => ⟨m, hm, Nat.le_refl _, fun _ => rfl⟩
 S := fun b h => rs_S.2 ⟨Nat.lt_of_lt_of_le (rs_S.1 h).1 hs, (rs_S.1 h).2⟩
 heap := fun b o h => cell_of_heap (hk b (rs_S.1 h).2)
 map := fun b es c h he => (hk b (rs_S.1 h).2).trans he

variable {α : Type}
structure AtP (S0 : Nat → Prop) (a : Act) (s : St) (W : World) : Prop where
 defers : a.defers = []
 h : s.h = []
 nid : s.nid = 0
 size : a.tmps.size = s.n
 rel : ∀ i : Nat, Rel (RXS S0 W) 0 (a.tmps.getD i undef) (look s.env i)
 lt : ∀ b, S0 b → b < W.heap.size
theorem AtP.at_ {S0 : Nat → Prop} {a : Act} {s : St} {W : World} (h : AtP S0 a s W) : At (NS S0 W) (K0 W) (K0 W) a s :=
 ⟨h.h.symm, h.nid.symm, good_KS S0 W, .refl _, ⟨h.size, h.rel, [], by simp [h.defers], List.nodup_nil, by simp⟩⟩
def weakJ (ws : List Tmp) (s0 s s' : St) : Prop :=
 s'.n = s.n ∧ s'.h = [] ∧ s'.nid = 0 ∧ ∀ i, look s'.env i = .any ∨ (look s.env i = look s'.env i ∧ flat1 (look s'.env i) = true) ∨ (i ∉ ws ∧ look s0.env i = look s'.env i)
def SG (S0 : Nat → Prop) (g : List α × Bool) : Nat → Prop := fun b => g.2 = false ∧ S0 b
def AWj (P : Program) (S0 : Nat → Prop) (JJ : List α × Bool → World → Prop) (c : Code) (s : St) (g : List α × Bool) (Q : Ex → St → List α × Bool → Prop) : Prop :=
 ∀ a W, AtP (SG S0 g) a s W → JJ g W → c.wpIn (FW none) 0 P (fun e a' w' => ∃ x s' g', exOf e = some x ∧ Q x s' g' ∧ AtP (SG S0 g') a' s' w' ∧ JJ g' w') a W

def thenJ (K : St → List α × Bool → Prop) (Q : Ex → St → List α × Bool → Prop) : Ex → St → List α × Bool → Prop
 | .normal, s, g => K s g
 | e, s, g => Q e s g
def blockJ (id : Nat) (Q : Ex → St → List α × Bool → Prop) : Ex → St → List α × Bool → Prop
 | .exit i, s, g => if i = id then Q .normal s g else Q (.exit i) s g
 | e, s, g => Q e s g
section
variable {P : Program} {S0 : Nat → Prop} {JJ : List α × Bool → World → Prop} {O : Oracle}
theorem awj_skip {s : St} {g : List α × Bool} {Q : Ex → St → List α × Bool → Prop} (h : Q .normal s g) : AWj P S0 JJ .skip s g Q := fun _ _ ha hj => wpIn_skip ⟨.normal, s, g, rfl, h, ha, hj⟩
theorem awj_exit {id : Nat} {s : St} {g : List α × Bool} {Q : Ex → St → List α × Bool → Prop} (h : Q (.exit id) s g) : AWj P S0 JJ (.exit id) s g Q := fun _ _ ha hj => wpIn_exit ⟨.exit id, s, g, rfl, h, ha, hj⟩
theorem awj_ret {s : St} {g : List α × Bool} {Q : Ex → St → List α × Bool → Prop} (h : Q .ret s g) : AWj P S0 JJ .ret s g Q := fun _ _ ha hj => wpIn_ret ⟨.ret, s, g, rfl, h, ha, hj⟩
theorem awj_seq {x y : Code} {s : St} {g : List α × Bool} {Q : Ex → St → List α × Bool → Prop} (h : AWj P S0 JJ x s g (thenJ (fun s' g' => AWj P S0 JJ y s' g' Q) Q)) : AWj P S0 JJ (.seq x y) s g Q :=
 fun a W ha hj => wpIn_seq (wpIn_mono (h a W ha hj) fun e a w ⟨x, s, g, h1, h3, h4, h5⟩ => by
  cases e <;> simp only [exOf, Option.some.injEq, reduceCtorEq] at h1 <;> subst h1
  ·exact h3 a w h4 h5
  ·exact ⟨_, s, g, rfl, h3, h4, h5⟩
  ·exact ⟨_, s, g, rfl, h3, h4, h5⟩)
theorem awj_cond {c : Operand} {x y : Code} {s : St} {g : List α × Bool} {Q : Ex → St → List α × Bool → Prop} {t : Bool} (hc : evO s.env c = .bool t) (ht : t = true → AWj P S0 JJ x s g Q) (hf : t = false → AWj P S0 JJ y s g Q) : AWj P S0 JJ (.cond c x y) s g Q :=
 fun a W ha hj => wpIn_cond (t := t) (eval_bool ha.at_.act hc) (by
  cases t
  ·exact hf rfl a W ha hj
  ·exact ht rfl a W ha hj)
theorem awj_block {id : Nat} {c : Code} {s : St} {g : List α × Bool} {Q : Ex → St → List α × Bool → Prop} (h : AWj P S0 JJ c s g (blockJ id Q)) : AWj P S0 JJ (.block id c) s g Q :=
 fun a W ha hj => wpIn_block (wpIn_mono (h a W ha hj) fun e a w ⟨x, s, g, h1, h3, h4, h5⟩ => by
  cases e with
  | exit i =>
   simp only [exOf, Option.some.injEq] at h1
   subst h1
   simp only [Exit.inBlock]
   by_cases hi : i = id
   ·rw [if_pos hi]
    simp only [blockJ, if_pos hi] at h3
    exact ⟨_, s, g, rfl, h3, h4, h5⟩
   ·rw [if_neg hi]
    simp only [blockJ, if_neg hi] at h3
    exact ⟨_, s, g, rfl, h3, h4, h5⟩
  | _ =>
   simp only [exOf, Option.some.injEq, reduceCtorEq] at h1
   try (subst h1; exact ⟨_, s, g, rfl, h3, h4, h5⟩))
def lessJ (s s' : St) : Prop := s'.n = s.n ∧ s'.h = [] ∧ s'.nid = 0 ∧ ∀ i, look s'.env i = .any ∨ look s.env i = look s'.env i
theorem AtP.less {a : Act} {s s' : St} {W : World} (h : AtP S0 a s W) (hw : lessJ s s') : AtP S0 a s' W :=
 ⟨h.defers, hw.2.1, hw.2.2.1, h.size.trans hw.1.symm, fun i => by
  rcases hw.2.2.2 i with h1 | h1
  ·rw [h1]; exact .any _ _
  ·rw [← h1]; exact h.rel i, h.lt⟩
theorem awj_less {c : Code} {s s' : St} {g : List α × Bool} {Q : Ex → St → List α × Bool → Prop} (hw : lessJ s s') (h : AWj P S0 JJ c s' g Q) : AWj P S0 JJ c s g Q := fun a W ha hj => h a W (ha.less hw) hj
theorem awj_loop {ι : Type} {c : Code} {s : St} {g : List α × Bool} {Q : Ex → St → List α × Bool → Prop} (σ : ι → St) (γ : ι → List α × Bool) (I : ι → Prop) (μ : ι → Nat) (i0 : ι) (h0 : I i0) (hg : g = γ i0) (hw : lessJ s (σ i0))
  (round : ∀ i, I i → AWj P S0 JJ c (σ i) (γ i) (thenJ (fun s' g' => ∃ j, I j ∧ μ j < μ i ∧ g' = γ j ∧ lessJ s' (σ j)) Q)) : AWj P S0 JJ (.loop c) s g Q := fun a W ha hj =>
 wpIn_loopI (fun i a w => I i ∧ AtP (SG S0 (γ i)) a (σ i) w ∧ JJ (γ i) w) μ i0 ⟨h0, by rw [← hg]; exact ha.less hw, hg ▸ hj⟩ fun i a w ⟨hi, hat, hji⟩ => wpIn_mono (round i hi a w hat hji) fun e a' w' ⟨x, s', g', h1, h3, h4, h5⟩ => by
  cases e with
  | normal =>
   simp only [exOf, Option.some.injEq] at h1; subst h1
   obtain ⟨j, hj, hlt, rfl, hwk⟩ := h3
   exact ⟨j, ⟨hj, h4.less hwk, h5⟩, hlt⟩
  | exit id => simp only [exOf, Option.some.injEq] at h1; subst h1; exact ⟨_, s', g', rfl, h3, h4, h5⟩
  | ret => simp only [exOf, Option.some.injEq] at h1; subst h1; exact ⟨_, s', g', rfl, h3, h4, h5⟩
  | _ => simp [exOf] at h1
theorem awj_piece (hO : OkO P O) (hm : P.follows .mixedOrders = true) (T : List (Nat × List Ann)) (hJ : ∀ g W W', JJ g W → W.grownBy W' none → JJ g W') {c : Code} {s : St} {g : List α × Bool} {Q : Ex → St → List α × Bool → Prop}
  (hp : plainC T c = true) (ht : tabOk T c = true) (h : wc P 0 none T O c s fun e s' => ∃ s2, weakJ (wrs c) s s' s2 ∧ Q e s2 g) : AWj P S0 JJ c s g Q := fun a W ha hj =>
 wpIn_mono (wd_sound (n0 := 0) (ro := none) hO hm c s _ hp ht h (NS (SG S0 g) W) (K0 W) (K0 W) a rfl ha.at_) fun e a' w' ⟨x, k, s1, h1, h2, ⟨s2, hw, hq⟩, hat, hk⟩ => by
  subst h2
  have hblk : ∀ b, b < W.heap.size → k.w.heap[b]? = W.heap[b]? := fun b hb => hat.le.heap b hb (k0_mut W b)
  have hsz : W.heap.size ≤ k.w.heap.size := hat.le.size
  refine ⟨x, s2, g, h1, hq, ⟨hk.1.trans ha.defers, hw.2.1, hw.2.2.1, hat.act.size.trans hw.1.symm, fun i => ?_, fun b hb => Nat.lt_of_lt_of_le (ha.lt b hb) hsz⟩, hJ g W k.w hj ⟨hat.le.os, hat.le.tape, hat.le.output, hsz, fun b hb _ => hblk b hb⟩⟩
  ·rcases hw.2.2.2 i with h | ⟨h, hf⟩ | ⟨h, hl⟩
   ·rw [h]; exact .any _ _
   ·have := hat.act.rel i
    rw [h] at this
    exact this.flat1 hf
   ·rw [hk.2 i h, ← hl]
    exact (ha.rel i).mono (rs_mono (fun b hb => hblk b (ha.lt b hb)) hsz)

def KpS (S0 : Nat → Prop) (W W' : World) : Prop := W.heap.size ≤ W'.heap.size ∧ ∀ b, S0 b → W'.heap[b]? = W.heap[b]?
def flS (s : St) : St := ⟨s.env.map fun p => (p.1, if flat1 p.2 = true then p.2 else .any), s.h, s.nid, s.n⟩
theorem look_fl (e : Env) (i : Nat) : look (e.map fun p => (p.1, if flat1 p.2 = true then p.2 else .any)) i = if flat1 (look e i) = true then look e i else .any := by
 induction e with
 | nil =>
  show D.any = _
  by_cases h : flat1 D.any = true
  ·rw [show look [] i = D.any from rfl, if_pos h]
  ·rw [show look [] i = D.any from rfl, if_neg h]
 | cons p e ih =>
  obtain ⟨j, d⟩ := p
  simp only [List.map_cons, look]
  split
  ·rfl
  ·exact ih
def yOps (P : Program) (dsf : α → List D) (N : Nat) (l : Nat) : List Oper → St → List α × Bool → (St → List α × Bool → Prop) → Prop
 | [], s, g, K => K s g
 | o :: r, s, g, K => o.guard = none ∧
  match yieldOf s.env o.op with
  | some (l', ds) => l' = l ∧ ∃ pre x, g = (pre, false) ∧ pre.length < N ∧ ds = dsf x ∧ yOps P dsf N l r (s.put o.dst (.bool true)) (pre ++ [x], false) K ∧ yOps P dsf N l r ((flS s).put o.dst (.bool false)) (pre ++ [x], true) K
  | none => match opR P o.op (evO s.env) s.h with
   | some d => yOps P dsf N l r (s.put o.dst d) g K
   | none => False
theorem AtP.put {S0 : Nat → Prop} {a : Act} {s : St} {W : World} (h : AtP S0 a s W) (dst : Option Tmp) {v : Value} {d : D} (hr : Rel (RXS S0 W) 0 v d) : AtP S0 (a.put dst v) (s.put dst d) W := by
 have := ActOk.put h.at_.act dst hr
 exact ⟨by rw [put_defers]; exact h.defers, by rw [put_h]; exact h.h, by rw [put_nid]; exact h.nid, this.size, this.rel, h.lt⟩
theorem yield_runP {S0 : Nat → Prop} {a : Act} {s : St} {W : World} {o : Oper} {l : Nat} {ds : List D} (hat : AtP S0 a s W) (h : yieldOf s.env o.op = some (l, ds)) :
  ∃ vs, RelL (RXS S0 W) 0 vs ds ∧ (∀ c, o.op ≠ .defer c) ∧ (execOp a.eval o).run P W = (Instr.yield l vs.toArray).run P W := by
 unfold yieldOf at h
 split at h
 ·rename_i c hop
  split at h
  ·rename_i x hx
   split at h
   ·rename_i l' hv
    cases h
    have hr := hat.at_.act.eval x
    rw [hv] at hr
    obtain ⟨callee, args, argTypes⟩ := c
    dsimp only at hx
    subst hx
    generalize hv' : a.eval x = v at hr
    cases hr
    refine ⟨args.toList.map a.eval, RelL.map (fun x => hat.at_.act.eval x) _, fun c hc => (by rw [hop] at hc; cases hc), ?_⟩
    unfold execOp
    rw [hop]
    simp only [resolve, Sem.run_bind, hv', Deferred.ofValue, Sem.run_pure, Result.andThen_ok, invoke]
    congr 2
    apply Array.ext'
    simp
   ·cases h
  ·cases h
 ·cases h
theorem yOps_sound {dsf : α → List D} {encs : α → Array Value} {N l : Nat} {ops : Array Oper} (henc : ∀ (R : Rx) (n : Nat) vs x, RelL R n vs (dsf x) → vs = (encs x).toList)
  (hY : ∀ pre x W1, JJ (pre, false) W1 → pre.length < N → YieldAt (FW none) 0 P l (encs x) W1 fun e W' => (e = .returned (.bool true) ∧ JJ (pre ++ [x], false) W' ∧ KpS S0 W1 W') ∨ (e = .returned (.bool false) ∧ JJ (pre ++ [x], true) W'))
  {K : St → List α × Bool → Prop} {Q : Exit → Act → World → Prop} (hK : ∀ a s g W, K s g → AtP (SG S0 g) a s W → JJ g W → Q .normal a W) : ∀ (r : List Oper) (i : Nat) (s : St) (g : List α × Bool) (W : World) (a : Act), (∀ j, r[j]? = ops[i + j]?) → yOps P dsf N l r s g K → AtP (SG S0 g) a s W → JJ g W →
   wpOpsIn (FW none) 0 P ops Q ((List.range r.length).map (i + ·)) a W
 | [], i, s, g, W, a, _, h, hat, hj => hK a s g W h hat hj
 | o :: rest, i, s, g, W, a, hl, h, hat, hj => by
  have ho : ops[i]? = some o := by have := hl 0; simpa using this.symm
  have hrest : ∀ j, rest[j]? = ops[i + 1 + j]? := fun j => by have := hl (j + 1); simp at this; rw [this]; congr 1; omega
  have hmap : (List.range (o :: rest).length).map (i + ·) = i :: (List.range rest.length).map (i + 1 + ·) := by
   rw [List.length_cons, List.range_succ_eq_map, List.map_cons, List.map_map]
   simp only [Nat.add_zero, List.cons.injEq, true_and]
   apply List.map_congr_left
   intro a _
   simp only [Function.comp]; omega
  obtain ⟨hg, h⟩ := h
  rw [hmap, wpOpsIn_cons]
  have hw : Region.wanted o (yielded ops a.tmps) = true := by simp [Region.wanted, hg]
  simp only [wpOpIn, ho, hw, if_true]
  refine ⟨fun _ _ => trivial, ?_⟩
  split at h
  ·rename_i l' ds hy
   obtain ⟨rfl, pre, x, rfl, hN, rfl, h1, h2⟩ := h
   obtain ⟨vs, r1, r2, r3⟩ := yield_runP (P := P) hat hy
   rw [semAt_eq _ _ r2, r3, henc _ _ vs x r1, Array.toArray_toList]
   obtain ⟨fn, tmps, assign, body, h4, h5⟩ := hY pre x W hj hN
   rw [h4]
   refine ⟨by simp [FW, Fence.wide], h5.mono ?_⟩
   rintro e W' (⟨rfl, hj', hk⟩ | ⟨rfl, hj'⟩)
   ·have hat' : AtP (SG S0 (pre ++ [x], false)) a s W' := ⟨hat.defers, hat.h, hat.nid, hat.size, fun i => (hat.rel i).mono (rs_mono (fun b hb => hk.2 b hb.2) hk.1), fun b hb => Nat.lt_of_lt_of_le (hat.lt b hb) hk.1⟩
    exact yOps_sound henc hY hK rest (i + 1) _ _ W' _ hrest h1 (hat'.put o.dst (.bool _ _)) hj'
   ·have hat' : AtP (SG S0 (pre ++ [x], true)) a (flS s) W' := ⟨hat.defers, hat.h, hat.nid, hat.size, fun i => by
     simp only [flS, look_fl]
     split
     ·rename_i hf; exact (hat.rel i).flat1 hf
     ·exact .any _ _, fun b hb => by cases hb.1⟩
    exact yOps_sound henc hY hK rest (i + 1) _ _ W' _ hrest h2 (hat'.put o.dst (.bool _ _)) hj'
  ·split at h
   ·rename_i d hd
    have hnd := opR_not_defer hd
    rw [hat.h] at hd
    obtain ⟨v, h1, h2⟩ := opR_sound (good_KS (SG S0 g) W) (fun x => hat.at_.act.eval x) hd
    have h1' : (execOp a.eval o).run P W = .ok (.value v) W := h1
    rw [semAt_eq _ _ hnd, h1']
    exact yOps_sound henc hY hK rest (i + 1) _ g W _ hrest h (hat.put o.dst h2) hj
   ·exact h.elim
end
section
variable {P : Program} {O : Oracle}
def SeqP (P : Program) (gf : FuncId) (caps : List D) (encs : α → Array Value) (Sd Sp : List α → Prop) (N : Nat) : Prop :=
 ∀ (S0 : Nat → Prop) (w : World) (vc : List Value), (∀ b, S0 b → b < w.heap.size) → RelL (RXS S0 w) 0 vc caps → SeqStopsK (FW none) 0 P gf vc.toArray encs (KpS S0) Sd Sp N w
end
end Go.Sx

/- Sx: ranges over iterators that read what they were handed; the rule. Own work. -/
namespace Go.Sx

def mapIds : H → List Nat
 | [] => []
 | (i, .map _) :: r => i :: mapIds r
 | (_, .box _) :: r => mapIds r
 | (_, .arr _ _ _) :: r => mapIds r
def isMapAt (h : H) (i : Nat) : Bool := match hget h i with
 | some (.map _) => true
 | _ => false
def mapsIn (h0 h : H) : Bool := (mapIds h).all (isMapAt h0) && boxNm h
theorem mapIds_get : ∀ {h : H} {id : Nat} {kvs : List (D × D)}, hget h id = some (.map kvs) → id ∈ mapIds h
 | [], id, kvs, h => by simp [hget] at h
 | (i, .box cs) :: r, id, kvs, h => by
  simp only [hget] at h; split at h
  ·cases h
  ·exact mapIds_get (h := r) h
 | (i, .arr t s es) :: r, id, kvs, h => by
  simp only [hget] at h; split at h
  ·cases h
  ·exact mapIds_get (h := r) h
 | (i, .map k) :: r, id, kvs, h => by
  simp only [hget] at h; split at h
  ·rename_i hi; subst hi; exact List.mem_cons_self
  ·exact List.mem_cons_of_mem _ (mapIds_get (h := r) h)
theorem mapsIn_get {h0 h : H} (hb : mapsIn h0 h = true) {id : Nat} {kvs : List (D × D)} (hg : hget h id = some (.map kvs)) : ∃ kvs', hget h0 id = some (.map kvs') := by
 simp only [mapsIn, Bool.and_eq_true] at hb
 have := List.all_eq_true.1 hb.1 id (mapIds_get hg)
 unfold isMapAt at this
 split at this
 ·exact ⟨_, by assumption⟩
 ·cases this
theorem own_kind {X : Nat → Prop} {k : Cx} (hg : Good X k) {id b : Nat} (h : k.own id = some b) : (∃ c t f, k.w.heap[b]? = some (.cells c t f)) ∨ ∃ kvs, hget k.h id = some (.map kvs) ∧ b = k.β id := by
 cases hq : hget k.h id with
 | none => simp [Cx.own, hq, ownOf] at h
 | some blk =>
  have hok := hg.ok id blk hq
  rw [Cx.own, hq] at h
  cases blk with
  | box cs =>
   simp [ownOf] at h; subst h
   obtain ⟨vs, ty, h1, _⟩ := hok
   exact .inl ⟨_, _, _, h1⟩
  | arr ty sz es =>
   rcases hok.2 with ⟨h1, _⟩ | ⟨b', off, cap, vs, h1, h2, _⟩
   ·simp [ownOf, h1, slBlk] at h
   ·simp [ownOf, h1, slBlk] at h; subst h; exact .inl ⟨_, _, _, h2⟩
  | map kvs => simp [ownOf] at h; exact .inr ⟨kvs, rfl, h.symm⟩
theorem mapsIn_nm {h0 h : H} (hb : mapsIn h0 h = true) : boxNm h = true := by
 simp only [mapsIn, Bool.and_eq_true] at hb; exact hb.2
theorem At.grownM {X : Nat → Prop} {k0 k1 k : Cx} {a : Act} {s s1 : St} {W' : World} {row : Option Nat} (hat1 : At X k0 k1 a s1) (he : s1.env = s.env) (hle1 : Le k1 k) (hat : At X k0 k a s) (hgr : k.w.grownBy W' row)
  (hrow : ∀ r, row = some r → k1.w.heap.size ≤ r ∧ ∃ o : Obj, k.w.heap[r]? = some o ∧ o.isCells = false) (hbx : boxNm s.h = true) (hmp : ∀ id kvs, hget k.h id = some (.map kvs) → k.β id < k1.w.heap.size)
  (hmk : ∀ r, markD r ∈ a.defers → r < k1.w.heap.size) : At X k0 { k with w := W' } a s :=
 hat1.grownG he hle1 hat hgr (fun r h => (hrow r h).1) hbx hmk (fun id b hb => by
  rcases own_kind hat.good hb with ⟨c, t, f, hc⟩ | ⟨kvs, hm, rfl⟩
  ·refine hgr.block b (hat.good.lt id b hb).1 fun e => ?_
   obtain ⟨_, o, h1, h2⟩ := hrow b e.symm
   rw [hc] at h1; cases h1; cases h2
  ·refine hgr.block _ (hat.good.lt id _ hb).1 fun e => ?_
   have := (hrow _ e.symm).1
   have := hmp id kvs hm
   omega) (cells_grown hgr fun r h => (hrow r h).2)
section
variable {P : Program} {O : Oracle} {n0 : Nat}
end
end Go.Sx

/- Sx: a statement, and what is known behind it. Own work. -/
namespace Go.Sx
variable {P : Program} {O : Oracle} {n0 : Nat} {ro : Option Nat} {T : List (Nat × List Ann)}
theorem awp_cut (hO : OkO P O) (hm : P.follows .mixedOrders = true) (e : Env) (hh : H) (nid n : Nat) {x y : Code} {s : St} {Q : Ex → St → Prop} (ht : tabOk T x = true)
  (h : wc P n0 ro T O x s (thenQ (fun s' => headW n0 s' e hh nid n) Q)) (h2 : AWp P n0 ro y ⟨e, hh, nid, n⟩ Q) : AWp P n0 ro (.seq x y) s Q :=
 awp_seq (awp_mono (wc_sound hO hm x s _ ht h) fun ex s' hs => by
  cases ex with
  | normal => exact awp_weak (weak_of hs) h2
  | exit i => exact hs
  | ret => exact hs)
end Go.Sx

/- Sx: oracles out of families of contracts. Own work. -/
namespace Go.Sx
variable {P : Program}
noncomputable def orcF {α : Type} (ok : α → Prop) (dsf : α → List D) (rf : α → D) (ds : List D) : Option D :=
 open Classical in if h : ∃ a, ok a ∧ dsf a = ds then some (rf h.choose) else none
theorem orcF_ok {α : Type} {f : FuncId} {ok : α → Prop} {dsf : α → List D} {rf : α → D} (h : ∀ a, ok a → Pure P f (dsf a) (rf a)) (ds : List D) (r : D) (hr : orcF ok dsf rf ds = some r) : Pure P f ds r := by
 unfold orcF at hr
 split at hr
 ·rename_i hx
  cases hr
  have := hx.choose_spec
  have h2 := h _ this.1
  rw [this.2] at h2
  exact h2
 ·cases hr
theorem orcF_eq {α : Type} {ok : α → Prop} {dsf : α → List D} {rf : α → D} (a : α) (h : ok a) (hi : ∀ b, dsf b = dsf a → rf b = rf a) : orcF ok dsf rf (dsf a) = some (rf a) := by
 unfold orcF
 have hx : ∃ b, ok b ∧ dsf b = dsf a := ⟨a, h, rfl⟩
 rw [dif_pos hx, hi _ hx.choose_spec.2]
theorem map_inj {α β : Type} {f : α → β} (hf : ∀ a b, f a = f b → a = b) : ∀ {l r : List α}, l.map f = r.map f → l = r
 | [], [], _ => rfl
 | [], _ :: _, h => by cases h
 | _ :: _, [], h => by cases h
 | a :: l, b :: r, h => by
  simp only [List.map_cons, List.cons.injEq] at h
  rw [hf a b h.1, map_inj hf h.2]
theorem rev_callv {fl : Bool} {d : Option Tmp} {ty : TypeId} {pos : String} {after : Array Edge} {g : Option (Nat × Bool)} {env : Env} {h h' : H} {v : D} (t0 : Tmp) (x : List Operand) (t : Array TypeId) :
  ReV P fl ⟨⟨d, .call ⟨.value (.tmp t0), x.toArray, t⟩, ty, pos, after, g⟩, env, h, true, v⟩ h' = calleeZ (look env t0) (x.map (evO env)) (fun _ ds => viewL h' ds = viewL h ds) ⟨⟩ := by
 simp only [ReV, ReOk, dkind, calleeD, evO, calleeZ, true_implies]
 cases look env t0 with
 | fn f a c => cases f <;> simp
 | _ => simp
theorem bin_slnil {t e : TypeId} (hu : P.underlying t = some (.slice e)) (x : List D) (xs : List (List D)) : binD P .eql t (.sl (x :: xs)) .nils = some (.bool false) := by simp [binD, hu]
theorem bin_slnil' {t e : TypeId} (hu : P.underlying t = some (.slice e)) {xs : List (List D)} (hx : 1 ≤ xs.length) : binD P .eql t (.sl xs) .nils = some (.bool false) := by
 cases xs with
 | nil => simp at hx
 | cons x xs => exact bin_slnil hu x xs
theorem nc_ref (cs : List D) (o : Nat) : nilCheckD (.ref cs o) = some (.ref cs o) := (rfl)
theorem nc_refm (kvs : List (D × D)) : nilCheckD (.refm kvs) = some (.refm kvs) := (rfl)
theorem nc_ptr (b o : Nat) : nilCheckD (.ptr b o) = some (.ptr b o) := (rfl)
theorem nc_fn (f : FuncId) (a c : List D) : nilCheckD (.fn (.func f) a c) = some (.fn (.func f) a c) := (rfl)
set_option linter.defProp false
def RT := And.intro @nc_ref <| And.intro @nc_refm <| And.intro @nc_ptr <| And.intro @nc_fn <| And.intro @rev_callv <| And.intro @calleeZ_fn <| And.intro @ex_tup <| And.intro @List.nil_append.{0} <| And.intro @List.append_nil.{0} <| @List.cons_append.{0}
end Go.Sx

/- Sx: a region that draws its order, with a yield in it, of an iterator that reads what it was handed. Own work. -/
namespace Go.Sx

section
variable {P : Program} {n0 : Nat} {ro : Option Nat} {ops : Array Oper} {b len : Nat} {fl : Bool} {re : List (Nat × Nat)} {st : Nat → St} {row : Nat → Row}

theorem phase_gen {R : St → Prop} (hT : TRun P fl ops b len st row) (hph : PhF ops b len fl re) (hb : Back ops) (hre : ∀ p y, (p, y) ∈ re → p < len → y ≤ len → (row p).run = true → ReOk P fl (row p) (st y).h)
  (hK : adoptK P fl ((ops.toList.drop b).take len) (st len) R) {X : Nat → Prop} {k0 k : Cx} {a : Act} {Q : Exit → Act → World → Prop} (hn : k0.nid = n0) (hat : At X k0 k a (st 0))
  (hR : ∀ s2 k2 a2, R s2 → At X k0 k2 a2 s2 → KeptA ops a a2 → ∀ (listed : Array Bool) (fuel : Nat), listed.size = ops.size → (∀ i, i < ops.size → (Ran listed i ↔ i < b + len)) → ops.size - (b + len) ≤ fuel → wpAnyIn (FW ro) 0 P .any ops Q fuel listed a2 k2.w)
  (listed : Array Bool) (fuel : Nat) (hs : listed.size = ops.size) (hr : ∀ i, i < ops.size → (Ran listed i ↔ i < b)) (hf : ops.size - b ≤ fuel) : wpAnyIn (FW ro) 0 P .any ops Q fuel listed a k.w := by
 have hsz := hph.size
 have hnone : ∀ p, p < len → ¬ Ran listed (b + p) := fun p hp h => by have := (hr (b + p) (by omega)).1 h; omega
 have hnr : ∀ i, b + len ≤ i → ¬ Ran listed i := fun i hi h => by
  rcases Nat.lt_or_ge i ops.size with hlt | hge
  ·have := (hr i hlt).1 h; omega
  ·simp only [Ran, Array.getD_eq_getD_getElem?, Array.getElem?_eq_none (show listed.size ≤ i by omega)] at h; simp at h
 obtain ⟨nx, _, d1, d2, d3⟩ := next_eff ops fl b len len 0 (by omega)
 obtain ⟨s1, s2⟩ := text_stills hT hph nx (Nat.zero_le _) d1 fun q h1 h2 => d3 q h1 h2
 have hX : Pend ops b len fl X (Ran listed) (fun _ => 0) = X := funext fun c => propext ⟨fun h => h.elim id fun ⟨q, h1, _, h3, _⟩ => absurd h3 (hnone q h1), .inl⟩
 have hI : Inv P ops b len fl st row listed X k0 k a (st 0).env (fun _ => 0) nx := by
  refine ⟨hs, fun i hi => (hr i (by omega)).2 hi, hnr, fun i o ho h j hj => ?_, d1, fun h => ⟨d2 h, hnone nx h⟩, fun p h1 h2 => absurd h2 (d3 p (Nat.zero_le _) h1), ?_, fun p hp h => absurd h (hnone p hp), fun _ _ => rfl, fun p hp _ _ _ h => absurd h (hnone p hp), fun p _ hp _ _ _ h => absurd h (hnone p hp)⟩
  ·have hi : i < ops.size := by
    rcases Nat.lt_or_ge i ops.size with h | h
    ·exact h
    ·rw [Array.getElem?_eq_none h] at ho; cases ho
   have h1 := (hr i hi).1 h
   have h2 := hb i o ho j hj
   exact (hr j (by omega)).2 (by omega)
  ·rw [hX]
   exact ⟨by rw [hat.h]; exact s1.symm, by rw [hat.nid]; exact s2.symm, hat.good, hat.le, hat.act⟩
 have hunl : unl (fun i => listed.getD i true) ops.size ≤ fuel := by
  refine Nat.le_trans (unl_low (c := b) (fun i hi => ?_) ops.size) hf
  have hlt : i < listed.size := by omega
  have := (hr i (by omega)).2 hi
  simp only [Ran, Array.getD_eq_getD_getElem?, Array.getElem?_eq_getElem hlt] at this ⊢
  simpa using this
 refine phase_go hT hph hb hre hn a ?_ fuel listed k a _ _ nx hI (.refl _ _) hunl
 intro listed' k' a' e fb fuel' hI' hdf' hall hf'
 have hg := hI'.at_.good
 have hran : ∀ p, p < len → Ran listed' (b + p) := fun p hp => hall _ (by omega)
 have hX' : Pend ops b len fl X (Ran listed') fb = fun c => X c ∨ ∃ q, 0 ≤ q ∧ q < len ∧ (∃ o, ops[b + q]? = some o ∧ isF fl o = true) ∧ c = fb q :=
  funext fun c => propext (or_congr Iff.rfl (exists_congr fun q => ⟨fun ⟨h1, h2, _, h4⟩ => ⟨Nat.zero_le _, h1, h2, h4⟩, fun ⟨_, h1, h2, h4⟩ => ⟨h1, h2, hran q h1, h4⟩⟩))
 have hlen : ((ops.toList.drop b).take len).length = len := by simp; omega
 have hat' : At (fun c => X c ∨ ∃ q, 0 ≤ q ∧ q < len ∧ (∃ o, ops[b + q]? = some o ∧ isF fl o = true) ∧ c = fb q) k0 k' a' (st len) := by
  rw [← hX']
  refine ⟨hI'.at_.h, hI'.at_.nid, hg, hI'.at_.le, ⟨by rw [text_n hT hph len (Nat.le_refl _)]; exact hI'.at_.act.size, fun t => ?_, hI'.at_.act.marks⟩⟩
  by_cases hw : ∃ p, p < len ∧ ∃ o, ops[b + p]? = some o ∧ o.dst = some t ∧ t < (st 0).n
  ·obtain ⟨p, hp, o, ho, hd, hlt⟩ := hw
   rw [text_writer hT hph hp ho hd hlt len hp (Nat.le_refl _)]
   have h1 := hI'.e1 p hp (hran p hp) o t ho hd hlt
   have h2 := hI'.at_.act.rel t
   cases hF : isF fl o with
   | true =>
    have hstep := (hT.step p hp o ho).step
    have hrun : (row p).run = true := by
     have hg := (hT.step p hp o ho).guard
     rw [hph.flg p hp o ho hF] at hg
     exact hg
    have : (row p).d = .any := by
     rw [hrun] at hstep
     split at hstep
     ·unfold OStep at hstep
      have hk : dkind fl o.op = .float := by
       unfold isF at hF
       cases hk : dkind fl o.op <;> simp_all
      rw [hk] at hstep
      exact hstep.2.1
     ·rename_i hf; exact absurd rfl hf
    rw [this]; exact .any _ _
   | false =>
    rw [valP, hF] at h1
    simp only [Bool.false_eq_true, if_false] at h1
    rw [← h1]; exact h2
  ·have hno : ∀ p, p < len → ∀ o, ops[b + p]? = some o → o.dst = some t → ¬ t < (st 0).n := fun p hp o ho hd hlt => hw ⟨p, hp, o, ho, hd, hlt⟩
   rw [text_other hT hph len (Nat.le_refl _) hno, ← hI'.e2 t fun p hp _ => hno p hp]
   exact hI'.at_.act.rel t
 obtain ⟨k2, s2, hw2, hat2, hK2⟩ := adopt_go (P := P) (fl := fl) (ops := ops) (b := b) (len := len) (X := X) (k0 := k0) (a := a') (fb := fb) k'.w
  (fun p q hp hq h1 h2 => hI'.inj p q hp hq h1 h2 (hran p hp) (hran q hq)) (fun p hp o ho hF => let ⟨f1, _, f2⟩ := hI'.fz p hp o ho hF (hran p hp); ⟨f1, f2⟩)
  (fun p hp o ho hF t hd ht => by
   have hlt : t < (st 0).n := by rw [hI'.at_.act.size] at ht; exact ht
   have h1 := hI'.e1 p hp (hran p hp) o t ho hd hlt
   have h2 := hI'.at_.act.rel t
   simp only at h2
   rw [h1, valP, hF, if_pos rfl] at h2
   generalize a'.tmps.getD t undef = v at h2
   cases h2; rfl)
  (fun p hp ⟨o, ho, hf⟩ => (hI'.fz p hp o ho hf (hran p hp)).2.1)
  _ 0 (st len) k' (fun j hj => by
   rw [hlen] at hj
   simp only [List.getElem?_take, List.getElem?_drop, Nat.zero_add]
   rw [if_pos hj]; simp) (by rw [hlen]; omega) rfl hat' hK
 rw [← hw2]
 refine hR s2 k2 a' hK2 hat2 hdf' listed' fuel' hI'.size (fun i hi => ⟨fun h => ?_, hall i⟩) hf'
 rcases Nat.lt_or_ge i (b + len) with h1 | h1
 ·exact h1
 ·exact absurd h (hI'.hi i h1)

variable {O : Oracle}
theorem phaseK_gen (hO : OkO P O) (hb : Back ops) {len : Nat} {fl tr : Bool} {re : List (Nat × Nat)} {b : Nat} {l : List Oper} {s : St} {R : St → Prop} (hl : l = ops.toList.drop b)
  (h1 : phOk ops (masks ops) b len fl (re.map fun q => (len - 1 - q.1, len - q.2)) = true) (h2 : (tr || re.isEmpty) = true) (h3 : (re.all fun q => Nat.blt q.1 len && Nat.ble q.2 len) = true)
  (h : phK P O ops fl tr (l.take len) s [] (if tr then [s.h] else []) fun s' rows hs => reK P fl rows hs re (adoptK P fl (l.take len) s' R))
  {X : Nat → Prop} {k0 k : Cx} {a : Act} {Q : Exit → Act → World → Prop} (hn : k0.nid = n0) (hat : At X k0 k a s)
  (hR : ∀ s2 k2 a2, R s2 → At X k0 k2 a2 s2 → KeptA ops a a2 → ∀ (listed : Array Bool) (fuel : Nat), listed.size = ops.size → (∀ i, i < ops.size → (Ran listed i ↔ i < b + len)) → ops.size - (b + len) ≤ fuel → wpAnyIn (FW ro) 0 P .any ops Q fuel listed a2 k2.w)
  (listed : Array Bool) (fuel : Nat) (hs : listed.size = ops.size) (hr : ∀ i, i < ops.size → (Ran listed i ↔ i < b)) (hf : ops.size - b ≤ fuel) : wpAnyIn (FW ro) 0 P .any ops Q fuel listed a k.w := by
 have hph := phF_of h1
 have hlen : (l.take len).length = len := by have := hph.size; simp [hl]; omega
 obtain ⟨st, row, e0, hT, hK⟩ := phK_sound hO (l.take len) b s [] _ _ (fun j hj => by
  rw [hlen] at hj
  rw [hl, List.getElem?_take, if_pos hj, List.getElem?_drop]; simp) h
 rw [hlen] at hT hK
 obtain ⟨hA, hre⟩ := reK_sound re hK
 subst e0
 refine phase_gen hT hph hb (fun p y hm hp hy hrun => ?_) (by rw [← hl]; exact hA) hn hat hR listed fuel hs hr hf
 obtain ⟨⟨x, z⟩, hxz, he⟩ := List.mem_map.1 hm
 simp only [Prod.mk.injEq] at he
 have hlt := List.all_eq_true.1 h3 _ hxz
 simp only [Bool.and_eq_true] at hlt
 have hx : x < len := Nat.le_of_ble_eq_true hlt.1
 have hz : z ≤ len := Nat.le_of_ble_eq_true hlt.2
 obtain ⟨r', h', a1, a2, a3⟩ := hre x z hxz
 have htr : tr = true := by
  rcases Bool.or_eq_true _ _ ▸ h2 with h | h
  ·exact h
  ·cases re with
   | nil => cases hxz
   | cons q r => simp at h
 subst htr
 simp only [if_true, List.append_nil] at a1 a2
 have e1 : (rowsR row len)[x]? = some (row (len - 1 - x)) := by
  simp only [rowsR]
  rw [List.getElem?_reverse (by simpa using hx)]
  simp [show len - 1 - x < len by omega]
 have e2 : (hsR st len ++ [(st 0).h])[z]? = some (st (len - z)).h := by
  rcases Nat.lt_or_ge z len with h | h
  ·rw [List.getElem?_append_left (by simpa [hsR] using h)]
   simp only [hsR]
   rw [List.getElem?_reverse (by simpa using h)]
   simp [show len - 1 - z < len by omega, show len - 1 - z + 1 = len - z by omega]
  ·rw [List.getElem?_append_right (by simpa [hsR] using h)]
   have : z = len := by omega
   subst this
   simp [hsR]
 rw [e1] at a1; cases a1
 rw [e2] at a2; cases a2
 obtain ⟨rfl, rfl⟩ := he
 exact a3 hrun


end

section
variable {α : Type} {P : Program} {S0 : Nat → Prop} {JJ : List α × Bool → World → Prop} {O : Oracle}
def yDraw (P : Program) (O : Oracle) (dsf : α → List D) (N l : Nat) (ops : Array Oper) (len : Nat) (tr : Bool) (re : List (Nat × Nat)) (as : List Ann) (s : St) (g : List α × Bool) (K : St → List α × Bool → Prop) : Prop :=
 phK P O ops false tr (ops.toList.take len) s [] (if tr then [s.h] else []) fun s' rows hs => reK P false rows hs re (adoptK P false (ops.toList.take len) s' fun s1 =>
  ∃ s2, weakJ (ops.toList.filterMap (·.dst)) s s1 s2 ∧ ∃ o, ops.toList[len]? = some o ∧ o.guard = none ∧ ∃ pre x, g = (pre, false) ∧ pre.length < N ∧ yieldOf s2.env o.op = some (l, dsf x) ∧
   (anyK P O ops as (ops.toList.drop (len + 1)) (s2.put o.dst (.bool true)) fun s3 => ∃ s4, weakJ (ops.toList.filterMap (·.dst)) s2 s3 s4 ∧ K s4 (pre ++ [x], false)) ∧
   (anyK P O ops as (ops.toList.drop (len + 1)) ((flS s2).put o.dst (.bool false)) fun s3 => ∃ s4, weakJ (ops.toList.filterMap (·.dst)) (flS s2) s3 s4 ∧ K s4 (pre ++ [x], true)))
theorem atP_of {S0 : Nat → Prop} {a a' : Act} {W : World} {s s1 s2 : St} {k : Cx} {ws : List Tmp} (ha : AtP S0 a s W) (hat : At (NS S0 W) (K0 W) k a' s1) (hd : a'.defers = a.defers) (hk : ∀ t, t ∉ ws → a'.tmps.getD t undef = a.tmps.getD t undef) (hw : weakJ ws s s1 s2) :
  AtP S0 a' s2 k.w ∧ W.grownBy k.w none := by
 have hblk : ∀ b, b < W.heap.size → k.w.heap[b]? = W.heap[b]? := fun b hb => hat.le.heap b hb (k0_mut W b)
 have hsz : W.heap.size ≤ k.w.heap.size := hat.le.size
 refine ⟨⟨hd.trans ha.defers, hw.2.1, hw.2.2.1, hat.act.size.trans hw.1.symm, fun i => ?_, fun b hb => Nat.lt_of_lt_of_le (ha.lt b hb) hsz⟩, ⟨hat.le.os, hat.le.tape, hat.le.output, hsz, fun b hb _ => hblk b hb⟩⟩
 rcases hw.2.2.2 i with h | ⟨h, hf⟩ | ⟨h, hl⟩
 ·rw [h]; exact .any _ _
 ·have := hat.act.rel i
  rw [h] at this
  exact this.flat1 hf
 ·rw [hk i h, ← hl]
  exact (ha.rel i).mono (rs_mono (fun b hb => hblk b (ha.lt b hb)) hsz)

theorem awj_draw (hO : OkO P O) (hm : P.follows .mixedOrders = true) (hJ : ∀ g W W', JJ g W → W.grownBy W' none → JJ g W') {dsf : α → List D} {encs : α → Array Value} {N l : Nat} (henc : ∀ (R : Rx) (n : Nat) vs x, RelL R n vs (dsf x) → vs = (encs x).toList)
  (hY : ∀ pre x W1, JJ (pre, false) W1 → pre.length < N → YieldAt (FW none) 0 P l (encs x) W1 fun e W' => (e = .returned (.bool true) ∧ JJ (pre ++ [x], false) W' ∧ KpS S0 W1 W') ∨ (e = .returned (.bool false) ∧ JJ (pre ++ [x], true) W'))
  {id : Nat} {ops : Array Oper} (len : Nat) (tr : Bool) (re : List (Nat × Nat)) (as : List Ann) (hann : annOk ops ((len, false, tr, re) :: (1, false, false, []) :: as) = true) {s : St} {g : List α × Bool} {Q : Ex → St → List α × Bool → Prop}
  (h : yDraw P O dsf N l ops len tr re as s g (Q .normal)) : AWj P S0 JJ (.region id ops true) s g Q := by
 simp only [annOk, annGo, Bool.and_eq_true, Nat.zero_add] at hann
 obtain ⟨hb0, ⟨⟨h1, h2⟩, h3⟩, ⟨⟨g1, _⟩, _⟩, h4⟩ := hann
 have hb := back_of hb0
 have hph1 := phF_of g1
 have hkw : ∀ {a a' : Act}, KeptA ops a a' → ∀ t, t ∉ ops.toList.filterMap (·.dst) → a'.tmps.getD t undef = a.tmps.getD t undef := fun hk t ht =>
  hk.2 t fun i o ho hd => ht (List.mem_filterMap.2 ⟨o, by rw [Array.mem_toList_iff]; exact Array.mem_of_getElem? ho, hd⟩)
 intro a W ha hj
 refine wpIn_region_any hm ?_
 have hat : At (NS (SG S0 g) W) (K0 W) (K0 W) a s := ha.at_
 have hle : Le (K0 W) { (K0 W) with w := { (K0 W).w with drawn := (K0 W).w.drawn + 1 } } := le_world rfl rfl rfl (Nat.le_refl _) fun _ _ => rfl
 have hat' : At (NS (SG S0 g) W) (K0 W) { (K0 W) with w := { (K0 W).w with drawn := (K0 W).w.drawn + 1 } } a s := ⟨hat.h, hat.nid, hat.good.world hle fun _ _ => rfl, hat.le.trans hle, hat.act.le hat.good hle⟩
 refine phaseK_gen (n0 := 0) (ro := none) hO hb (b := 0) (l := ops.toList) (by simp) h1 h2 h3 h rfl hat' ?_ _ _ (by simp) (fun i hi => by simp [Ran, Array.getD_eq_getD_getElem?, hi]) (by omega)
 intro s1 k1 a1 hR1 hat1 hkept listed fuel hs hr hf
 obtain ⟨s2, hw, o, ho, hg, pre, x, rfl, hN, hy, hT, hF⟩ := hR1
 obtain ⟨hP1, hgr⟩ := atP_of ha hat1 hkept.1 (hkw hkept) hw
 have hj1 := hJ _ _ _ hj hgr
 have ho' : ops[len]? = some o := by rw [← ho]; simp
 have hlt : len < ops.size := by
  rcases Nat.lt_or_ge len ops.size with h | h
  ·exact h
  ·rw [Array.getElem?_eq_none h] at ho'; cases ho'
 have hback : ∀ i o, ops[i]? = some o → Ran listed i → ∀ j ∈ bnd o, Ran listed j := fun i o hio hi j hj => by
  have hil : i < ops.size := by
   rcases Nat.lt_or_ge i ops.size with h | h
   ·exact h
   ·rw [Array.getElem?_eq_none h] at hio; cases hio
  have := hb i o hio j hj
  have := (hr i hil).1 hi
  exact (hr j (by omega)).2 (by omega)
 have hmem : len ∈ Region.ready .any ops listed := (mem_ready hs).2 ⟨o, ho', fun h => by have := (hr len hlt).1 h; omega, fun j hj => (hr j (by have := hb len o ho' j hj; omega)).2 (by have := hb len o ho' j hj; omega)⟩
 cases fuel with
 | zero => omega
 | succ fuel =>
 refine ⟨fun hnil => (by rw [hnil] at hmem; cases hmem), fun i hi => ?_⟩
 obtain ⟨oi, hoi, hnr, hbi⟩ := (mem_ready hs).1 hi
 have hil : i < ops.size := by
  rcases Nat.lt_or_ge i ops.size with h | h
  ·exact h
  ·rw [Array.getElem?_eq_none h] at hoi; cases hoi
 have hie : i = len := by
  rcases Nat.lt_trichotomy i len with h | h | h
  ·exact absurd ((hr i hil).2 (by omega)) hnr
  ·exact h
  ·have hbef := hph1.bar i (by omega) hil 0 (by omega)
   have := bef_sound hb (S := Ran listed) hback i oi hoi hbi len hbef
   have := (hr len hlt).1 this
   omega
 subst hie
 have hwn : Region.wanted o (yielded ops a1.tmps) = true := by simp [Region.wanted, hg]
 obtain ⟨vs, r1, r2, r3⟩ := yield_runP (P := P) hP1 hy
 simp only [wpOpIn, ho', hwn, if_true]
 refine ⟨fun _ _ => trivial, ?_⟩
 rw [semAt_eq _ _ r2, r3, henc _ _ vs x r1, Array.toArray_toList]
 obtain ⟨fn, tmps, assign, body, h5, h6⟩ := hY pre x k1.w hj1 hN
 rw [h5]
 have hls : ∀ j, j < ops.size → (Ran (listed.setIfInBounds i true) j ↔ j < i + 1) := fun j hj => by
  rw [ran_set (by omega)]
  have := hr j hj
  constructor
  ·rintro (h | h)
   ·omega
   ·have := this.1 h; omega
  ·intro h
   rcases Nat.lt_or_ge j i with h' | h'
   ·exact .inr (this.2 (by omega))
   ·exact .inl (by omega)
 have hrest : ∀ (W' : World) (b : Bool) (s' : St) (K : St → Prop) (sx : St), JJ (pre ++ [x], b) W' → AtP (SG S0 (pre ++ [x], b)) (a1.put o.dst (.bool (!b))) s' W' →
   anyK P O ops as (ops.toList.drop (i + 1)) s' (fun s3 => ∃ s4, weakJ (ops.toList.filterMap (·.dst)) sx s3 s4 ∧ Q .normal s4 (pre ++ [x], b)) → (∀ t, t ∉ ops.toList.filterMap (·.dst) → look sx.env t = look s'.env t) → sx.n = s'.n →
   wpAnyIn (FW none) 0 P .any ops (fun e a' w' => ∃ x s' g', exOf e = some x ∧ Q x s' g' ∧ AtP (SG S0 g') a' s' w' ∧ JJ g' w') fuel (listed.setIfInBounds i true) (a1.put o.dst (.bool (!b))) W' := fun W' b s' K sx hj' hat' hk hl hn => by
  have hA : AAny P 0 none ops (i + 1) s' _ := anyK_sound hO hb as (i + 1) _ s' rfl h4 hk
  refine hA (NS (SG S0 (pre ++ [x], b)) W') (K0 W') (K0 W') _ _ rfl hat'.at_ (fun k3 a3 s3 ⟨s4, hw4, hq⟩ hat3 hk3 => ?_) _ _ (by rw [Array.size_setIfInBounds, hs]) hls (by omega)
  have hw4' : weakJ (ops.toList.filterMap (·.dst)) s' s3 s4 := ⟨hw4.1, hw4.2.1, hw4.2.2.1, fun j => by
   rcases hw4.2.2.2 j with h | h | ⟨h, h'⟩
   ·exact .inl h
   ·exact .inr (.inl h)
   ·exact .inr (.inr ⟨h, by rw [← hl j h]; exact h'⟩)⟩
  obtain ⟨hP3, hgr3⟩ := atP_of hat' hat3 hk3.1 (hkw hk3) hw4'
  exact ⟨.normal, s4, _, rfl, hq, hP3, hJ _ _ _ hj' hgr3⟩
 have hod : ∀ (s : St) (d : D) (t : Nat), t ∉ ops.toList.filterMap (·.dst) → look s.env t = look (s.put o.dst d).env t := fun s d t ht => by
  have hne : o.dst ≠ some t := fun h => ht (List.mem_filterMap.2 ⟨o, by rw [Array.mem_toList_iff]; exact Array.mem_of_getElem? ho', h⟩)
  cases hd : o.dst with
  | none => rfl
  | some u =>
   simp only [St.put]
   split
   ·have : t ≠ u := fun e => hne (by rw [hd, e])
    simp [look, this]
   ·rfl
 refine ⟨by simp [FW, Fence.wide], h6.mono ?_⟩
 rintro e W' (⟨rfl, hj', hk⟩ | ⟨rfl, hj'⟩)
 ·have hat' : AtP (SG S0 (pre ++ [x], false)) a1 s2 W' := ⟨hP1.defers, hP1.h, hP1.nid, hP1.size, fun i => (hP1.rel i).mono (rs_mono (fun b hb => hk.2 b hb.2) hk.1), fun b hb => Nat.lt_of_lt_of_le (hP1.lt b hb) hk.1⟩
  exact hrest W' false (s2.put o.dst (.bool true)) (fun _ => True) s2 hj' (hat'.put o.dst (.bool _ _)) hT (hod _ _) (put_n _ _ _).symm
 ·have hat' : AtP (SG S0 (pre ++ [x], true)) a1 (flS s2) W' := ⟨hP1.defers, hP1.h, hP1.nid, hP1.size, fun i => by
   simp only [flS, look_fl]
   split
   ·rename_i hf; exact (hP1.rel i).flat1 hf
   ·exact .any _ _, fun b hb => by cases hb.1⟩
  exact hrest W' true ((flS s2).put o.dst (.bool false)) (fun _ => True) (flS s2) hj' (hat'.put o.dst (.bool _ _)) hF (hod _ _) (put_n _ _ _).symm
end
section
variable {α : Type} {P : Program} {O : Oracle}
theorem seq_of_awjY {gf : FuncId} {fn : Func} {c : Code} {caps : List D} {encs : α → Array Value} {dsf : α → List D} {Sd Sp : List α → Prop} {N : Nat}
  (hf : P.funcs[gf]? = some fn) (hb : fn.body = some c) (hres : fn.results = #[]) (henc : ∀ (R : Rx) (n : Nat) vs x, RelL R n vs (dsf x) → vs = (encs x).toList)
  (hw : ∀ (S0 : Nat → Prop) (l : Nat) (JJ : List α × Bool → World → Prop), (∀ g W W', JJ g W → W.grownBy W' none → JJ g W') →
   (∀ pre x W1, JJ (pre, false) W1 → pre.length < N → YieldAt (FW none) 0 P l (encs x) W1 fun e W' => (e = .returned (.bool true) ∧ JJ (pre ++ [x], false) W' ∧ KpS S0 W1 W') ∨ (e = .returned (.bool false) ∧ JJ (pre ++ [x], true) W')) →
   AWj P S0 JJ c ⟨(0, .raw (.func (.yield l) #[] #[])) :: argEnv 1 caps, [], 0, 1 + caps.length + (fn.ntmps - (1 + caps.length))⟩ ([], false) fun e _ g => (e = .normal ∨ e = .ret) ∧ ((g.2 = false ∧ Sd g.1) ∨ (g.2 = true ∧ Sp g.1))) :
  SeqP P gf caps encs Sd Sp N := by
 intro S0 w vc hS hrel l J Jx W hWb hJa hJxa hY h0
 have hgrow : ∀ g W W', (fun (g : List α × Bool) W => if g.2 = true then Jx g.1 W else J g.1 W) g W → W.grownBy W' none → (fun (g : List α × Bool) W => if g.2 = true then Jx g.1 W else J g.1 W) g W' := by
  rintro ⟨pre, b⟩ A B hA hAB
  cases b
  ·exact hJa pre A B none hA hAB fun r e => by cases e
  ·exact hJxa pre A B none hA hAB fun r e => by cases e
 have hbody := hw S0 l (fun g W => if g.2 = true then Jx g.1 W else J g.1 W) hgrow (fun pre x W1 h1 h2 => hY pre x W1 h1 h2)
 refine callsIn_of_wp_marks hf hb trivial ?_ rfl
 have hlen : vc.length = caps.length := hrel.1
 have hrelW : RelL (RXS (SG S0 (([] : List α), false)) W) 0 vc caps := ⟨hlen, fun i v d h1 h2 => by
  have := (hrel.2 i v d h1 h2).mono (rs_mono (fun b hb => hWb.block b (hS b hb)) hWb.size)
  exact this.mono { β := fun _ _ => rfl, arr := fun _ _ m hm => ⟨m, hm, Nat.le_refl _, fun _ => rfl⟩, S := fun b h => rs_S.2 ⟨(rs_S.1 h).1, rfl, (rs_S.1 h).2⟩, heap := fun b o _ => rfl, map := fun _ _ _ _ h => h }⟩
 have hat : AtP (SG S0 (([] : List α), false)) { tmps := #[Value.func (.yield l) #[] #[]] ++ vc.toArray ++ Array.replicate (fn.ntmps - (#[Value.func (.yield l) #[] #[]] ++ vc.toArray : Array Value).size) undef, defers := [] }
   ⟨(0, .raw (.func (.yield l) #[] #[])) :: argEnv 1 caps, [], 0, 1 + caps.length + (fn.ntmps - (1 + caps.length))⟩ W := by
  refine ⟨rfl, rfl, rfl, by simp [hlen, Nat.add_comm], fun i => ?_, fun b hb => Nat.lt_of_lt_of_le (hS b hb.2) hWb.size⟩
  cases i with
  | zero =>
   have : (#[Value.func (.yield l) #[] #[]] ++ vc.toArray ++ Array.replicate (fn.ntmps - (#[Value.func (.yield l) #[] #[]] ++ vc.toArray : Array Value).size) undef).getD 0 undef = .func (.yield l) #[] #[] := by
    simp [Array.getD_eq_getD_getElem?, Array.getElem?_append]
   simp only [look, if_true]
   rw [this]
   exact .raw _ _
  | succ j =>
   simp only [look, Nat.add_eq_zero_iff, Nat.succ_ne_self, and_false, if_false, reduceCtorEq]
   rw [look_argEnv, if_pos (by omega), show j + 1 - 1 = j by omega]
   cases hc : caps[j]? with
   | none => exact .any _ _
   | some d =>
    have hj : j < vc.length := by rw [hlen]; exact (List.getElem?_eq_some_iff.1 hc).1
    have hv : (#[Value.func (.yield l) #[] #[]] ++ vc.toArray ++ Array.replicate (fn.ntmps - (#[Value.func (.yield l) #[] #[]] ++ vc.toArray : Array Value).size) undef).getD (j + 1) undef = vc[j] := by
     simp [Array.getD_eq_getD_getElem?, Array.getElem?_append, hj]
    rw [hv]
    exact hrelW.2 j _ d (by simp [hj]) hc
 refine wpIn_mono (hbody _ W hat h0) ?_
 rintro e a w' ⟨x, s, g, hx, ⟨hq1, hq2⟩, hat', hj⟩
 have key : LeavesInM (FW none) 0 P fn a.tmps (fun e W' => (∃ v, e = .returned v) ∧ ((∃ xs, Sd xs ∧ J xs W') ∨ (∃ pre, Sp pre ∧ Jx pre W'))) a.defers .returning w' := by
  rw [hat'.defers]
  refine ⟨.tuple #[], by rw [results_eq, hres]; simp, ⟨_, rfl⟩, ?_⟩
  obtain ⟨pre, b⟩ := g
  rcases hq2 with ⟨h1, h2⟩ | ⟨h1, h2⟩
  ·dsimp only at h1; subst h1; exact .inl ⟨pre, h2, hj⟩
  ·dsimp only at h1; subst h1; exact .inr ⟨pre, h2, hj⟩
 cases e with
 | normal => exact key
 | ret => exact key
 | exit id => simp only [exOf, Option.some.injEq] at hx; subst hx; rcases hq1 with h | h <;> cases h
 | _ => simp [exOf] at hx
end
def envJ (ws : List Tmp) (e0 e' : Env) : Env → Prop
 | [] => True
 | (i, d) :: r => ((look e' i = d ∧ flat1 d = true) ∨ (ws.contains i = false ∧ look e0 i = d)) ∧ envJ ws e0 e' r
theorem envJ_look {ws : List Tmp} {e0 e' : Env} : ∀ {e : Env}, envJ ws e0 e' e → ∀ i, look e i = .any ∨ (look e' i = look e i ∧ flat1 (look e i) = true) ∨ (i ∉ ws ∧ look e0 i = look e i)
 | [], _, i => .inl rfl
 | (j, d) :: r, h, i => by
  simp only [look]
  split
  ·rename_i hij
   subst hij
   rcases h.1 with ⟨h1, h2⟩ | ⟨h1, h2⟩
   ·exact .inr (.inl ⟨h1, h2⟩)
   ·exact .inr (.inr ⟨fun hm => (by rw [List.contains_iff_mem.2 hm] at h1; cases h1), h2⟩)
  ·exact envJ_look h.2 i
theorem weakJ_of {ws : List Tmp} {e0 e' e : Env} {h0 h' : H} {n0 n' n : Nat} (h : envJ ws e0 e' e) : weakJ ws ⟨e0, h0, n0, n⟩ ⟨e', h', n', n⟩ ⟨e, [], 0, n⟩ := ⟨rfl, rfl, rfl, envJ_look h⟩
def envL (e' : Env) : Env → Prop
 | [] => True
 | (i, d) :: r => look e' i = d ∧ envL e' r
theorem envL_look {e' : Env} : ∀ {e : Env}, envL e' e → ∀ i, look e i = .any ∨ look e' i = look e i
 | [], _, i => .inl rfl
 | (j, d) :: r, h, i => by
  simp only [look]
  split
  ·rename_i hij; subst hij; exact .inr h.1
  ·exact envL_look h.2 i
theorem lessJ_of {e' e : Env} {h' : H} {n' n : Nat} (h : envL e' e) : lessJ ⟨e', h', n', n⟩ ⟨e, [], 0, n⟩ := ⟨rfl, rfl, rfl, envL_look h⟩
theorem awj_mono {α : Type} {P : Program} {S0 : Nat → Prop} {JJ : List α × Bool → World → Prop} {c : Code} {s : St} {g : List α × Bool} {Q Q' : Ex → St → List α × Bool → Prop} (h : AWj P S0 JJ c s g Q) (hq : ∀ e s g, Q e s g → Q' e s g) : AWj P S0 JJ c s g Q' :=
 fun a W ha hj => wpIn_mono (h a W ha hj) fun e a w ⟨x, s, g, h1, h2, h3⟩ => ⟨x, s, g, h1, hq x s g h2, h3⟩
end Go.Sx
