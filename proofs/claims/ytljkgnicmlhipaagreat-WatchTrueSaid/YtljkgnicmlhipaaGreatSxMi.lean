/- Own work: a calculus of contracts for the programs of this kit: parts SxZ22, SxZ23, SxZ24, SxZ25, SxZ26, SxZ27, SxZ28. -/
import Derived.Test.YtljkgnicmlhipaaGreatSxMh
import Derived.Maps.Own
import Derived.Lib.SlKeysI
import Derived.Lib.SlMapMerge
import Derived.RangeFuncGives
import Derived.Laws.AppendOwn
import Derived.Below
set_option linter.unusedVariables false
set_option linter.unusedSimpArgs false
namespace Go.Sx
open Go.Maps Go.WideShapes Go.MapKept
open Go.WideElems (Fit rd rg)
variable {P : Program}

theorem perm_lift {α β : Type} {f : α → β} {l1 l2 : List β} (h : l1.Perm l2) : ∀ l : List α, l.map f = l1 → ∃ l' : List α, l'.Perm l ∧ l'.map f = l2 := by
 induction h with
 | nil => intro l hl; exact ⟨l, .refl _, hl⟩
 | cons x hp ih =>
  intro l hl
  cases l with
  | nil => simp at hl
  | cons a l =>
   simp only [List.map_cons, List.cons.injEq] at hl
   obtain ⟨l', p1, p2⟩ := ih l hl.2
   exact ⟨a :: l', p1.cons a, by simp [hl.1, p2]⟩
 | swap x y l0 =>
  intro l hl
  match l, hl with
  | [], hl => simp at hl
  | [_], hl => simp at hl
  | a :: b :: l, hl =>
   simp only [List.map_cons, List.cons.injEq] at hl
   exact ⟨b :: a :: l, List.Perm.swap _ _ _, by simp [hl.1, hl.2.1, hl.2.2]⟩
 | trans _ _ ih1 ih2 =>
  intro l hl
  obtain ⟨l1, a1, a2⟩ := ih1 l hl
  obtain ⟨l2, b1, b2⟩ := ih2 l1 a2
  exact ⟨l2, b1.trans a1, b2⟩

abbrev MpB := MpG Bool
abbrev bkv (m : MpB) : List (D × D) := gkv D.bool m
def pv (m : MpB) : List (Value × Value) := m.map fun p => (.int .i64 p.1, .bool p.2)
abbrev gnd {β : Type} (m : MpG β) : Prop := (m.map (·.1)).Nodup
def litP (p : Int × Bool) : Lit × DataW Unit := (.int .i64 p.1, .lit (.bool p.2))
def MapAt (w : World) (b : Nat) (l : List (Value × Value)) : Prop :=
 ∃ (es : List MapEntry) (clock : Nat), w.heap[b]? = some (.map (List.toArray es) clock) ∧ (∀ x ∈ es, x.born < clock) ∧ (es.map (·.born)).Nodup ∧ (es.map fun e => (e.key, e.val)).Perm l

theorem gkv_fst {β : Type} (vd : β → D) (m : MpG β) : (gkv vd m).map (·.1) = m.map fun p => D.int .i64 p.1 := by simp [gkv, Function.comp_def]
theorem gkv_snd {β : Type} (vd : β → D) (m : MpG β) : (gkv vd m).map (·.2) = m.map fun p => vd p.2 := by simp [gkv, Function.comp_def]
theorem gkv_len {β : Type} (vd : β → D) (m : MpG β) : (gkv vd m).length = m.length := by simp [gkv]

theorem relL_ints {R : Rx} {n : Nat} {β : Type} (f : β → Int) : ∀ (m : List β) (vs : List Value), RelL R n vs (m.map fun p => D.int .i64 (f p)) → vs = m.map fun p => Value.int .i64 (f p)
 | [], [], _ => rfl
 | [], _ :: _, h => absurd h.1 (by simp)
 | _ :: _, [], h => absurd h.1 (by simp)
 | p :: m, v :: vs, h => by
  have h0 := h.2 0 v _ rfl rfl
  cases h0
  rw [List.map_cons, relL_ints f m vs ⟨by simpa using h.1, fun i v d a b => h.2 (i + 1) v d (by simpa using a) (by simpa using b)⟩]
theorem relL_bools {R : Rx} {n : Nat} {β : Type} (f : β → Bool) : ∀ (m : List β) (vs : List Value), RelL R n vs (m.map fun p => D.bool (f p)) → vs = m.map fun p => Value.bool (f p)
 | [], [], _ => rfl
 | [], _ :: _, h => absurd h.1 (by simp)
 | _ :: _, [], h => absurd h.1 (by simp)
 | p :: m, v :: vs, h => by
  have h0 := h.2 0 v _ rfl rfl
  cases h0
  rw [List.map_cons, relL_bools f m vs ⟨by simpa using h.1, fun i v d a b => h.2 (i + 1) v d (by simpa using a) (by simpa using b)⟩]
theorem pairs_of : ∀ (es : List MapEntry) (m : MpB), es.map (·.key) = m.map (fun p => Value.int .i64 p.1) → es.map (·.val) = m.map (fun p => Value.bool p.2) → es.map (fun e => (e.key, e.val)) = pv m
 | [], [], _, _ => rfl
 | [], _ :: _, h, _ => by simp at h
 | _ :: _, [], h, _ => by simp at h
 | e :: es, p :: m, h1, h2 => by
  simp only [List.map_cons, List.cons.injEq] at h1 h2
  have := pairs_of es m h1.2 h2.2
  simp only [pv, List.map_cons, h1.1, h2.1] at this ⊢
  rw [this]

theorem mapAt_of {R : Rx} {n n' b : Nat} {m : MpB} {es es' : List MapEntry} {clock : Nat} (h1 : R.w.heap[b]? = some (.map (List.toArray es) clock)) (hl : Lays es' es clock)
  (h2 : RelL R n (es'.map (·.key)) ((bkv m).map (·.1))) (h3 : RelL R n' (es'.map (·.val)) ((bkv m).map (·.2))) : MapAt R.w b (pv m) := by
 rw [gkv_fst] at h2
 rw [gkv_snd] at h3
 have := pairs_of es' m (relL_ints _ m _ h2) (relL_bools _ m _ h3)
 exact ⟨es, clock, h1, hl.born, hl.nodup, by rw [← this]; exact (hl.perm.map _).symm⟩

theorem gnd_of {β : Type} {vd : β → D} : ∀ {m : MpG β}, keysOk ((gkv vd m).map (·.1)) = true → gnd m
 | [], _ => List.nodup_nil
 | p :: m, h => by
  simp only [gkv, List.map_cons, keysOk, Bool.and_eq_true] at h
  rw [gnd, List.map_cons, List.nodup_cons]
  refine ⟨fun hm => ?_, gnd_of (vd := vd) h.2⟩
  obtain ⟨q, hq, e⟩ := List.mem_map.1 hm
  have := List.all_eq_true.1 h.1.2 (.int .i64 q.1) (by simp only [List.map_map, List.mem_map, Function.comp_def]; exact ⟨q, hq, rfl⟩)
  simp [keyNe, e] at this
theorem keysOk_of {β : Type} (vd : β → D) : ∀ {m : MpG β}, gnd m → keysOk ((gkv vd m).map (·.1)) = true
 | [], _ => rfl
 | p :: m, h => by
  rw [gnd, List.map_cons, List.nodup_cons] at h
  simp only [gkv, List.map_cons, keysOk, Bool.and_eq_true, keyOne, true_and]
  refine ⟨List.all_eq_true.2 fun d hd => ?_, keysOk_of vd h.2⟩
  simp only [List.map_map, List.mem_map, Function.comp_def] at hd
  obtain ⟨q, hq, rfl⟩ := hd
  have : ¬ p.1 = q.1 := fun e => h.1 (List.mem_map.2 ⟨q, hq, e.symm⟩)
  simp [keyNe, this]
theorem nmL_bools (m : MpB) : D.nmL ((bkv m).map (·.2)) = true := by
 rw [gkv_snd]; exact D.nmL_iff.2 fun d hd => by obtain ⟨p, _, rfl⟩ := List.mem_map.1 hd; rfl
theorem relL_map {R : Rx} {n : Nat} {β : Type} {f : β → Value} {g : β → D} (h : ∀ x, Rel R n (f x) (g x)) (m : List β) : RelL R n (m.map f) (m.map g) :=
 ⟨by simp, fun i v d a b => by
  rw [List.getElem?_map] at a b
  cases hx : m[i]? with
  | none => simp [hx] at a
  | some x => simp [hx] at a b; subst a; subst b; exact h x⟩
theorem MapAt.blk {X : Nat → Prop} {k : Cx} {id : Nat} {m : MpB} (h : MapAt k.w (k.β id) (pv m)) (hn : gnd m) : BlkOk X k id (.map (bkv m)) := by
 obtain ⟨es, clock, h1, h2, h3, h4⟩ := h
 obtain ⟨es', p1, p2⟩ := perm_lift h4 es rfl
 have pk : es'.map (·.key) = m.map fun p => Value.int .i64 p.1 := by
  have := congrArg (List.map Prod.fst) p2
  simpa [pv, Function.comp_def] using this
 have pw : es'.map (·.val) = m.map fun p => Value.bool p.2 := by
  have := congrArg (List.map Prod.snd) p2
  simpa [pv, Function.comp_def] using this
 refine ⟨es, clock, es', h1, ⟨p1, h2, h3⟩, keysOk_of _ hn, nmL_bools m, ?_, ?_⟩
 ·rw [gkv_fst, pk]; exact relL_map (fun p => .int _ _ _) m
 ·rw [gkv_snd, pw]; exact relL_map (fun p => .bool _ _) m

section
variable {kt et : TypeId} (hk : P.underlying kt = some (.int .i64)) (he : P.underlying et = some .bool)
def InR {β : Type} (m : MpG β) : Prop := ∀ p ∈ m, (Lit.int .i64 p.1).wf = true
def lvP : Value × Value → Lit × DataW Unit
 | (.int _ a, .bool v) => (.int .i64 a, .lit (.bool v))
 | _ => (.bool false, .nil)
def ulP : Lit × DataW Unit → Value × Value
 | (.int _ a, .lit (.bool v)) => (.int .i64 a, .bool v)
 | _ => (undef, undef)
include hk he in
theorem rd_bool {e : MapEntry} {a : Int} {v : Bool} (h1 : e.key = .int .i64 a) (h2 : e.val = .bool v) (hw : (Lit.int .i64 a).wf = true) : rd (H := Unit) P kt (plainElem P et) e = some (litP (a, v)) := by
 simp [rd, h1, h2, keyOf, hk, mapKey, hw, plainElem, he, litP]
include hk he in
theorem MapAt.owns {w : World} {b : Nat} {m : MpB} (h : MapAt w b (pv m)) (hn : gnd m) (hr : InR m) (hl : m.length ≤ maxLen) :
  ∃ S, w.ownsMap P kt (plainElem P et) b m.length (.map S : DataW Unit) ∧ S.Perm (m.map litP) := by
 obtain ⟨es, clock, h1, h2, h3, h4⟩ := h
 have hlen : es.length = m.length := by have := h4.length_eq; simpa [pv] using this
 have hkeys : (es.map (·.key)).Nodup := by
  have hp : ((es.map fun e => (e.key, e.val)).map Prod.fst).Perm ((pv m).map Prod.fst) := h4.map _
  have e1 : (es.map fun e => (e.key, e.val)).map Prod.fst = es.map (·.key) := by simp [Function.comp_def]
  rw [e1] at hp
  refine hp.nodup_iff.2 ?_
  have e2 : (pv m).map Prod.fst = (m.map (·.1)).map fun a => Value.int .i64 a := by simp [pv, Function.comp_def]
  rw [e2]
  exact List.Pairwise.map _ (fun a b hab e => hab (by simpa using e)) hn
 have hent : ∀ e ∈ es, ∃ p ∈ m, e.key = .int .i64 p.1 ∧ e.val = .bool p.2 := fun e hm => by
  have : (e.key, e.val) ∈ pv m := h4.mem_iff.1 (List.mem_map.2 ⟨e, hm, rfl⟩)
  obtain ⟨p, hp, e1⟩ := List.mem_map.1 this
  simp only [Prod.mk.injEq] at e1
  exact ⟨p, hp, e1.1.symm, e1.2.symm⟩
 have hread : ∀ e ∈ es, ∃ y, rd (H := Unit) P kt (plainElem P et) e = some y := fun e hm => by
  obtain ⟨p, hp, e1, e2⟩ := hent e hm
  exact ⟨_, rd_bool hk he e1 e2 (hr p hp)⟩
 refine ⟨_, ⟨es.toArray, clock, h1, ⟨by simpa [hlen] using hl, ⟨h2, h3, hkeys⟩, hread⟩, by simp [hlen], rfl⟩, ?_⟩
 refine (sorted_perm _).trans ?_
 have e1 : es.map (rg (H := Unit) P kt (plainElem P et)) = (es.map fun e => (e.key, e.val)).map lvP := by
  rw [List.map_map]
  refine List.map_congr_left fun e hm => ?_
  obtain ⟨p, hp, e1, e2⟩ := hent e hm
  rw [WideElems.rg_of (rd_bool hk he e1 e2 (hr p hp))]
  simp [lvP, e1, e2, litP]
 have e2 : m.map litP = (pv m).map lvP := by simp [pv, Function.comp_def, lvP, litP]
 show (es.map _).Perm _
 rw [e1, e2]
 exact h4.map _
include hk he in
theorem mapAt_owns {w : World} {b n : Nat} {S : List (Lit × DataW Unit)} {m : MpB} (h : w.ownsMap P kt (plainElem P et) b n (.map S)) (hS : S.Perm (m.map litP)) : MapAt w b (pv m) := by
 obtain ⟨es, clock, h1, F, _, hD⟩ := h
 simp only [DataW.map.injEq] at hD
 have hp : (es.toList.map (rg (H := Unit) P kt (plainElem P et))).Perm (m.map litP) := (hD ▸ (sorted_perm _)).symm.trans hS
 obtain ⟨s1, s2, _⟩ := F.stamped
 refine ⟨es.toList, clock, h1, s1, s2, ?_⟩
 have e1 : es.toList.map (fun e => (e.key, e.val)) = (es.toList.map (rg (H := Unit) P kt (plainElem P et))).map ulP := by
  rw [List.map_map]
  refine List.map_congr_left fun e hm => ?_
  obtain ⟨y, hy⟩ := F.reads e hm
  have hy2 := hy
  unfold rd at hy2
  simp only [Option.bind_eq_some_iff, Option.map_eq_some_iff] at hy2
  obtain ⟨kl, hkl, z, hz, rfl⟩ := hy2
  obtain ⟨a, ha, rfl, _⟩ := Maps.keyOf_i64 hk hkl
  have hv : ∃ v, e.val = .bool v ∧ z = (.lit (.bool v), []) := by
   cases hq : e.val <;> rw [hq] at hz <;> simp [plainElem, he] at hz
   exact ⟨_, rfl, hz.symm⟩
  obtain ⟨v, hv, rfl⟩ := hv
  simp only [Function.comp, WideElems.rg_of hy, ulP, ha, hv]
 have e2 : pv m = (m.map litP).map ulP := by simp [pv, Function.comp_def, ulP, litP]
 rw [e1, e2]
 exact hp.map _
end

def mergeG {β : Type} (md ms : MpG β) : MpG β := ms.foldl (fun m p => gput m p.1 p.2) md
theorem gput_perm {β : Type} (a : Int) (v : β) : ∀ {m : MpG β}, gnd m → (gput m a v).Perm ((a, v) :: m.filter fun p => !(p.1 == a))
 | [], _ => .refl _
 | (x, u) :: m, h => by
  rw [gnd, List.map_cons, List.nodup_cons] at h
  simp only [gput]
  by_cases e : a = x
  ·subst e
   rw [if_pos rfl, List.filter_cons_of_neg (by simp)]
   have : m.filter (fun p => !(p.1 == a)) = m := List.filter_eq_self.2 fun p hp => by
    have : ¬ p.1 = a := fun e => h.1 (List.mem_map.2 ⟨p, hp, e⟩)
    simp [this]
   rw [this]
  ·rw [if_neg e, List.filter_cons_of_pos (by simp [Ne.symm e])]
   exact ((gput_perm a v h.2).cons _).trans (List.Perm.swap _ _ _)
theorem gput_nd {β : Type} {m : MpG β} (h : gnd m) (a : Int) (v : β) : gnd (gput m a v) := by
 have hp := (gput_perm a v h).map (·.1)
 refine hp.nodup_iff.2 ?_
 rw [List.map_cons, List.nodup_cons]
 refine ⟨fun hm => ?_, (List.Sublist.map _ (List.filter_sublist)).nodup h⟩
 obtain ⟨p, hp, e⟩ := List.mem_map.1 hm
 simpa [e] using (List.mem_filter.1 hp).2
theorem put_perm {S : List (Lit × DataW Unit)} {m : MpB} (hS : S.Perm (m.map litP)) (hn : gnd m) (a : Int) (v : Bool) :
  ∃ S2, (DataW.map S).put (.int .i64 a) (.lit (.bool v)) = .map S2 ∧ S2.Perm ((gput m a v).map litP) := by
 refine ⟨_, rfl, (insert_perm _ _).trans ?_⟩
 refine List.Perm.trans ?_ ((gput_perm a v hn).map litP).symm
 refine List.Perm.cons _ ?_
 have e : (m.map litP).filter (fun p => !p.1.sameKey (.int .i64 a)) = (m.filter fun p => !(p.1 == a)).map litP := by
  rw [List.filter_map]
  exact congrArg _ (List.filter_congr fun p _ => by simp [litP, Lit.sameKey]; rfl)
 rw [← e]
 exact hS.filter _
theorem merge_perm : ∀ (ms : MpB) (S : List (Lit × DataW Unit)) (md : MpB), S.Perm (md.map litP) → gnd md →
  ∃ S', (ms.map litP).foldl (fun D p => DataW.put D p.1 p.2) (.map S) = .map S' ∧ S'.Perm ((mergeG md ms).map litP) ∧ gnd (mergeG md ms)
 | [], S, md, h, hn => ⟨S, rfl, h, hn⟩
 | p :: ms, S, md, h, hn => by
  obtain ⟨S2, e2, p2⟩ := put_perm h hn p.1 p.2
  obtain ⟨S3, e3, p3⟩ := merge_perm ms S2 (gput md p.1 p.2) p2 (gput_nd hn _ _)
  exact ⟨S3, by rw [List.map_cons, List.foldl_cons, show (litP p).1 = .int .i64 p.1 from rfl, show (litP p).2 = .lit (.bool p.2) from rfl, e2]; exact e3, p3⟩
theorem gget_mem {β : Type} : ∀ {m : MpG β}, gnd m → ∀ (a : Int) (v : β), gget m a = some v ↔ (a, v) ∈ m
 | [], _, a, v => by simp [gget]
 | (x, u) :: m, h, a, v => by
  rw [gnd, List.map_cons, List.nodup_cons] at h
  simp only [gget, List.mem_cons, Prod.mk.injEq]
  by_cases e : a = x
  ·subst e
   rw [if_pos rfl]
   constructor
   ·intro hq; exact .inl ⟨rfl, (Option.some.inj hq).symm⟩
   ·rintro (⟨_, rfl⟩ | hm)
    ·rfl
    ·exact absurd (List.mem_map.2 ⟨(a, v), hm, rfl⟩) h.1
  ·rw [if_neg e, gget_mem h.2 a v]
   simp [e]
theorem gget_perm {β : Type} {m m' : MpG β} (hp : m'.Perm m) (hn : gnd m) (a : Int) : gget m' a = gget m a := by
 have hn' : gnd m' := ((hp.map (·.1)).nodup_iff).2 hn
 cases h : gget m a with
 | some v => exact (gget_mem hn' a v).2 (hp.mem_iff.2 ((gget_mem hn a v).1 h))
 | none =>
  cases h' : gget m' a with
  | none => rfl
  | some v =>
   have := (gget_mem hn a v).2 (hp.mem_iff.1 ((gget_mem hn' a v).1 h'))
   rw [h] at this; cases this
theorem gget_none {β : Type} : ∀ {m : MpG β} {a : Int}, a ∉ m.map (·.1) → gget m a = none
 | [], _, _ => rfl
 | (x, u) :: m, a, h => by
  simp only [List.map_cons, List.mem_cons, not_or] at h
  rw [gget, if_neg h.1, gget_none h.2]
theorem gget_merge {β : Type} : ∀ (ms md : MpG β), gnd ms → ∀ a, gget (mergeG md ms) a = (gget ms a).or (gget md a)
 | [], md, _, a => by simp [mergeG, gget]
 | (x, u) :: ms, md, h, a => by
  rw [gnd, List.map_cons, List.nodup_cons] at h
  have := gget_merge ms (gput md x u) h.2 a
  rw [show mergeG md ((x, u) :: ms) = mergeG (gput md x u) ms from rfl, this, gget_put, gget]
  by_cases e : a = x
  ·subst e
   rw [gget_none h.1]; simp
  ·simp [e]
theorem merged_at {w : World} {b n : Nat} {kt et : TypeId} (hk : P.underlying kt = some (.int .i64)) (he : P.underlying et = some .bool) {md ms : MpB} {Sd Ss : List (Lit × DataW Unit)} (hd : Sd.Perm (md.map litP)) (hs : Ss.Perm (ms.map litP)) (nd : gnd md) (ns : gnd ms)
  (h : w.ownsMap P kt (plainElem P et) b n (Lib.mergeD (.map Sd) (.map Ss))) : ∃ m' : MpB, MapAt w b (pv m') ∧ gnd m' ∧ ∀ a, gget m' a = (gget ms a).or (gget md a) := by
 obtain ⟨ms', p1, p2⟩ := perm_lift hs.symm ms rfl
 have ns' : gnd ms' := ((p1.map (·.1)).nodup_iff).2 ns
 obtain ⟨S', e1, e2, e3⟩ := merge_perm ms' Sd md hd nd
 rw [Lib.mergeD, ← p2, e1] at h
 exact ⟨_, mapAt_owns hk he h e2, e3, fun a => by rw [gget_merge ms' md ns', gget_perm p1 ns]⟩
theorem keys_perm_i {S : List (Lit × DataW Unit)} {m : MpB} (hS : S.Perm (m.map litP)) : (intKeys (.map S : DataW Unit)).Perm (m.map (·.1)) := by
 have := hS.map fun p => intOf p.1
 simpa [intKeys, Function.comp_def, litP, intOf] using this
end Go.Sx

/- Sx: calls that hand out maps, or turn them. Own work. -/
namespace Go.Sx
open Go.Maps
open Go.RowKit (Below)
variable {P : Program} {X : Nat → Prop} {n0 : Nat} {ro : Option Nat}

def Cx.takeMap (k : Cx) (w' : World) (c : Nat) (kvs : List (D × D)) : Cx :=
 { w := w', β := fun i => if i = k.nid then c else k.β i, sv := k.sv, h := (k.nid, .map kvs) :: k.h, nid := k.nid + 1 }
theorem takeMap_own {k : Cx} {w' : World} {c : Nat} {kvs : List (D × D)} (id : Nat) : (k.takeMap w' c kvs).own id = if id = k.nid then some c else k.own id := by
 simp only [Cx.own, Cx.takeMap, hget]
 by_cases h : id = k.nid
 ·simp [h, ownOf]
 ·simp only [if_neg h]
  cases hq : hget k.h id with
  | none => simp [ownOf]
  | some blk => cases blk <;> simp [ownOf, h]
theorem takeMap_le {k : Cx} {w' : World} {c : Nat} {kvs : List (D × D)} (hb : Below k.w.heap.size k.w w') (hc : k.w.heap.size ≤ c) : Le k (k.takeMap w' c kvs) where
 nid := Nat.le_succ _
 os := hb.os
 tape := hb.tape
 output := hb.output
 size := hb.size
 β := fun id hid => by simp only [Cx.takeMap]; rw [if_neg (by omega)]
 arr := fun id hid m' hm' => by
  simp only [Cx.takeMap, hget] at hm'
  rw [if_neg (by omega)] at hm'
  exact ⟨m', hm', Nat.le_refl _, fun _ => rfl⟩
 heap := fun b hb' _ => hb.block b hb'
 mb := fun b hb' ⟨id, hid⟩ => by
  rw [takeMap_own] at hid
  by_cases h : id = k.nid
  ·rw [if_pos h] at hid; simp at hid; omega
  ·rw [if_neg h] at hid; exact ⟨id, hid⟩
theorem takeMap_good {k : Cx} {w' : World} {c : Nat} {kvs : List (D × D)} (hg : Good X k) (hb : Below k.w.heap.size k.w w') (hc : k.w.heap.size ≤ c) (hc2 : c < w'.heap.size)
  (hok : Le k (k.takeMap w' c kvs) → BlkOk X (k.takeMap w' c kvs) k.nid (.map kvs)) : Good X (k.takeMap w' c kvs) where
 key := fun id blk h => by
  simp only [Cx.takeMap, hget] at h ⊢
  by_cases hi : id = k.nid
  ·omega
  ·rw [if_neg hi] at h; have := hg.key id blk h; omega
 inj := fun i j b hi hj => by
  rw [takeMap_own] at hi hj
  by_cases h1 : i = k.nid <;> by_cases h2 : j = k.nid
  ·omega
  ·rw [if_pos h1] at hi; rw [if_neg h2] at hj
   have := (hg.lt j b hj).1; simp at hi; omega
  ·rw [if_neg h1] at hi; rw [if_pos h2] at hj
   have := (hg.lt i b hi).1; simp at hj; omega
  ·rw [if_neg h1] at hi; rw [if_neg h2] at hj; exact hg.inj i j b hi hj
 lt := fun i b hb' => by
  rw [takeMap_own] at hb'
  have hs := hb.size
  by_cases h1 : i = k.nid
  ·rw [if_pos h1] at hb'; simp at hb'; subst hb'
   exact ⟨hc2, fun hx => absurd (hg.xlt _ hx) (by omega)⟩
  ·rw [if_neg h1] at hb'; have := hg.lt i b hb'; exact ⟨Nat.lt_of_lt_of_le this.1 hs, this.2⟩
 xlt := fun b hb' => Nat.lt_of_lt_of_le (hg.xlt b hb') hb.size
 ok := fun id blk h => by
  have hle := takeMap_le (kvs := kvs) hb hc
  by_cases hi : id = k.nid
  ·simp only [Cx.takeMap, hget, if_pos hi] at h
   obtain rfl := Option.some.inj h
   subst hi
   exact hok hle
  ·simp only [Cx.takeMap, hget, if_neg hi] at h
   exact (hg.ok id blk h).le hle (by simp [Cx.takeMap, hi]) rfl fun b hb' => hb.block _ (hg.lt id b (by rw [Cx.own, h]; exact hb')).1
theorem rel_taken {k : Cx} {w' : World} {c : Nat} {kvs : List (D × D)} : Rel ((k.takeMap w' c kvs).R X) (k.nid + 1) (.map (some c)) (.mp k.nid) := by
 have := Rel.mp (R := (k.takeMap w' c kvs).R X) (k.nid + 1) k.nid (Nat.lt_succ_self _)
 simpa [Cx.takeMap, Cx.R] using this

def PureM (P : Program) (f : FuncId) (ds : List D) (kvs : List (D × D)) : Prop := ACall P f ds [] 0 fun r h' _ => ∃ i, r = .mp i ∧ hget h' i = some (.map kvs)
theorem keyOne_flat {d : D} (h : keyOne d = true) : d.flat = true := by
 unfold keyOne at h
 split at h <;> first | rfl | cases h
theorem keysOk_flat : ∀ {ks : List D}, keysOk ks = true → ∀ d ∈ ks, d.flat = true
 | [], _, d, h => by simp at h
 | k :: r, hk, d, h => by
  simp only [keysOk, Bool.and_eq_true] at hk
  rcases List.mem_cons.1 h with rfl | h
  ·exact keyOne_flat hk.1.1
  ·exact keysOk_flat hk.2 d h
theorem acall_borrowM {f : FuncId} {ds : List D} {kvs : List (D × D)} {h : H} {nid : Nat} (hp : PureM P f (ds.map (view h)) kvs) (hv : ∀ p ∈ kvs, p.2.flat = true) :
  ACall P f ds h nid fun r' h' nid' => r' = .mp nid ∧ h' = (nid, .map kvs) :: h ∧ nid' = nid + 1 := by
 refine ⟨hp.1, fun X k vs hh hn hg hrel => ?_⟩
 subst hh; subst hn
 refine (hp.2 X k.sub vs rfl rfl (good_sub hg.xlt) ⟨by simp [hrel.1], fun i v d a b => ?_⟩).mono ?_
 ·rw [List.getElem?_map] at b
  cases hd : ds[i]? with
  | none => simp [hd] at b
  | some d' => simp [hd] at b; subst b; exact (hrel.2 i v d' a hd).view hg
 ·rintro e w' ⟨v, kc, r', rfl, rfl, ⟨i, rfl, hi⟩, hgc, hlec, hrc⟩
  have hB : Below k.w.heap.size k.w kc.w := ⟨hlec.os, hlec.tape, hlec.output, hlec.size, fun b hb => hlec.heap b hb (sub_mut k b)⟩
  obtain ⟨es, clock, es', h1, hl, hk, hnm, h2, h3⟩ := hgc.ok i _ hi
  have hown : kc.own i = some (kc.β i) := by rw [own_of_hget hi]; rfl
  have hge : k.w.heap.size ≤ kc.β i := Nat.le_of_not_lt fun hlt => sub_mut k _ (hlec.mb _ hlt ⟨i, hown⟩)
  cases hrc with
  | mp _ _ hlt =>
   refine ⟨_, k.takeMap kc.w (kc.β i) kvs, .mp k.nid, rfl, rfl, ⟨rfl, rfl, rfl⟩, takeMap_good hg hB hge (hgc.lt i _ hown).1 fun _ => ?_, takeMap_le hB hge, rel_taken⟩
   refine ⟨es, clock, es', by simpa [Cx.takeMap] using h1, hl, hk, hnm, ⟨h2.1, fun i v d a b => (h2.2 i v d a b).flat (keysOk_flat hk d (List.mem_of_getElem? b))⟩, ⟨h3.1, fun i v d a b => (h3.2 i v d a b).flat ?_⟩⟩
   obtain ⟨p, hp, rfl⟩ := List.mem_map.1 (List.mem_of_getElem? b)
   exact hv p hp

def MapArg (h : H) (y : D) (kvs : List (D × D)) : Prop := y = .mpd kvs ∨ ∃ b, y = .mp b ∧ hget h b = some (.map kvs)
theorem MapArg.inv {k : Cx} (hg : Good X k) {y : D} {kvs : List (D × D)} (hy : MapArg k.h y kvs) {n : Nat} (hn : n = k.nid) {v : Value} (hr : Rel (k.R X) n v y) :
  ∃ c es clock es', v = .map (some c) ∧ c < k.w.heap.size ∧ k.w.heap[c]? = some (.map (List.toArray es) clock) ∧ Lays es' es clock ∧ keysOk (kvs.map (·.1)) = true ∧ D.nmL (kvs.map (·.2)) = true ∧
   RelL (k.R X) 0 (es'.map (·.key)) (kvs.map (·.1)) ∧ RelL (k.R X) k.nid (es'.map (·.val)) (kvs.map (·.2)) ∧ (¬ k.Mut c ∨ ∃ b, y = .mp b ∧ c = k.β b ∧ hget k.h b = some (.map kvs)) := by
 subst hn
 rcases hy with rfl | ⟨b, rfl, hb⟩
 ·cases hr with
  | mpd _ b _ es es' c h2 h3 h4 h5 h6 h7 h8 h9 =>
   exact ⟨b, es, c, es', rfl, h2.1, h3, h4, h5, h9, ⟨by simpa using h6, h7⟩, ⟨by simpa using h6, fun i v d x y => (h8 i v d x y).weak (Nat.zero_le _)⟩, .inl h2.2.2⟩
 ·cases hr with
  | mp _ _ hlt =>
   obtain ⟨es, c, es', a1, a2, a3, a4, a5, a6⟩ := hg.ok b _ hb
   have hown : k.own b = some (k.β b) := by rw [own_of_hget hb]; rfl
   exact ⟨k.β b, es, c, es', rfl, (hg.lt b _ hown).1, a1, a2, a3, a4, a5, a6, .inr ⟨b, rfl, rfl, hb⟩⟩

theorem acall_clone {f : FuncId} (hc : callable P f = true)
  (hcl : ∀ (b : Nat) (es : Array MapEntry) (clock : Nat) (w : World), w.heap[b]? = some (.map es clock) → Calls P f #[.map (some b)] w fun e w' => e = .returned (.map (some w.heap.size)) ∧ w' = w.alloc (.map es clock))
  {h : H} {nid : Nat} {y : D} {kvs : List (D × D)} (hy : MapArg h y kvs) : ACall P f [y] h nid fun r h' nid' => r = .mp nid ∧ h' = (nid, .map kvs) :: h ∧ nid' = nid + 1 := by
 refine ⟨hc, fun X k vs hh hn hg hrel => ?_⟩
 subst hh; subst hn
 match vs, hrel with
 | [], hrel => exact absurd hrel.1 (by simp)
 | _ :: _ :: _, hrel => exact absurd hrel.1 (by simp)
 | [v], hrel =>
  obtain ⟨c, es, clock, es', rfl, hlt, h1, hl, hk, hnm, h2, h3, _⟩ := hy.inv hg rfl (hrel.2 0 v y rfl rfl)
  refine (hcl c es.toArray clock k.w h1).mono ?_
  rintro e w' ⟨rfl, rfl⟩
  have hB : Below k.w.heap.size k.w (k.w.alloc (.map es.toArray clock)) := (Below.refl _ _).alloc (Nat.le_refl _) _
  refine ⟨_, k.takeMap (k.w.alloc (.map es.toArray clock)) k.w.heap.size kvs, .mp k.nid, rfl, rfl, ⟨rfl, rfl, rfl⟩, takeMap_good hg hB (Nat.le_refl _) (by rw [alloc_size]; omega) fun hle => ?_, takeMap_le hB (Nat.le_refl _), rel_taken⟩
  exact ⟨es, clock, es', by simp only [Cx.takeMap, if_true]; exact alloc_heap_new _ _, hl, hk, hnm, h2.le0 hle, h3.le hle⟩

theorem Good.mapto {k : Cx} (hg : Good X k) {b : Nat} {kvs kvs' : List (D × D)} (hb : hget k.h b = some (.map kvs)) {w' : World} (hos : w'.os = k.w.os) (htape : w'.tape = k.w.tape) (hout : w'.output = k.w.output) (hsize : k.w.heap.size ≤ w'.heap.size)
  (hheap : ∀ c, c < k.w.heap.size → c ≠ k.β b → w'.heap[c]? = k.w.heap[c]?) (hok : Le k (k.upd b (.map kvs') w' (k.sv b)) → BlkOk X (k.upd b (.map kvs') w' (k.sv b)) b (.map kvs')) :
  Good X (k.upd b (.map kvs') w' (k.sv b)) ∧ Le k (k.upd b (.map kvs') w' (k.sv b)) := by
 have hown : k.own b = some (k.β b) := by rw [own_of_hget hb]; rfl
 exact hg.upd hb hos htape hout hsize (fun c hcs hne => hheap c hcs fun e => hne (by rw [hown, e])) (fun c hcs => .inl (by
  rw [own_of_hget (blk := some (.map kvs')) (by simp [Cx.upd, hget_hset])] at hcs
  rw [hown]; simpa [ownOf, Cx.upd] using hcs)) (fun m' hm' => by simp [lnOf] at hm') hok

theorem acall_copy {f : FuncId} {kt et : TypeId} (hk : P.underlying kt = some (.int .i64)) (he : P.underlying et = some .bool) (hc : callable P f = true)
  (hcp : ∀ (bd bs nd ns : Nat) (Dd Ds : DataW Unit) (w : World), w.ownsMap P kt (plainElem P et) bd nd Dd → w.ownsMap P kt (plainElem P et) bs ns Ds → bd ≠ bs → nd + Maps.size Ds ≤ maxLen →
   Calls P f #[.map (some bd), .map (some bs)] w fun e w' => e = .returned (.tuple #[]) ∧ w'.ownsMap P kt (plainElem P et) bd (nd + Maps.size Ds) (Lib.mergeD Dd Ds) ∧ w.grownBy w' (some bd))
  {h : H} {nid b : Nat} {y : D} {md ms : MpB} (hb : hget h b = some (.map (bkv md))) (hy : MapArg h y (bkv ms)) (hne : y ≠ .mp b) (rd : InR md) (rs : InR ms) (hl : md.length + ms.length ≤ maxLen) :
  ACall P f [.mp b, y] h nid fun r h' nid' => r = .tup [] ∧ nid' = nid ∧ ∃ m', h' = hset h b (.map (bkv m')) ∧ gnd m' ∧ ∀ a, gget m' a = (gget ms a).or (gget md a) := by
 refine ⟨hc, fun X k vs hh hn hg hrel => ?_⟩
 subst hh; subst hn
 match vs, hrel with
 | [], hrel => exact absurd hrel.1 (by simp)
 | [_], hrel => exact absurd hrel.1 (by simp)
 | _ :: _ :: _ :: _, hrel => exact absurd hrel.1 (by simp)
 | [v1, v2], hrel =>
  obtain ⟨c, es, clock, es', rfl, hlt, h1, hl1, hk1, hnm, h2, h3, h4⟩ := hy.inv hg rfl (hrel.2 1 v2 y rfl rfl)
  have hr1 := hrel.2 0 v1 (.mp b) rfl rfl
  cases hr1 with
  | mp _ _ hlt1 =>
  obtain ⟨esd, clockd, esd', a1, a2, a3, a4, a5, a6⟩ := hg.ok b _ hb
  have hown : k.own b = some (k.β b) := by rw [own_of_hget hb]; rfl
  have hcb : k.β b ≠ c := by
   rcases h4 with h4 | ⟨b2, rfl, hc2, hb2⟩
   ·intro e; exact h4 ⟨b, by rw [hown, e]⟩
   ·intro e
    have : b = b2 := hg.inj b b2 _ hown (by rw [own_of_hget hb2]; show some (k.β b2) = _; rw [← hc2, e])
    exact hne (by rw [this])
  have nd : gnd md := gnd_of a3
  have ns : gnd ms := gnd_of hk1
  have Md : MapAt k.w (k.β b) (pv md) := mapAt_of (R := k.R X) a1 a2 a5 a6
  have Ms : MapAt k.w c (pv ms) := mapAt_of (R := k.R X) h1 hl1 h2 h3
  obtain ⟨Sd, od, pd⟩ := Md.owns hk he nd rd (by omega)
  obtain ⟨Ss, os, ps⟩ := Ms.owns hk he ns rs (by omega)
  have hsz : Maps.size (.map Ss : DataW Unit) = ms.length := by rw [Maps.size_eq, ps.length_eq]; simp
  refine (hcp (k.β b) c _ _ _ _ k.w od os hcb (by rw [hsz]; exact hl)).mono ?_
  rintro e w' ⟨rfl, o', hgr⟩
  obtain ⟨m', M', n', g'⟩ := merged_at hk he pd ps nd ns o'
  have hm := hg.mapto (kvs' := bkv m') hb hgr.os hgr.tape hgr.output hgr.size (fun d hd hne => hgr.block d hd fun e => hne (Option.some.inj e)) (fun _ => MapAt.blk M' n')
  exact ⟨_, k.upd b (.map (bkv m')) w' (k.sv b), .tup [], rfl, rfl, ⟨rfl, rfl, m', rfl, n', g'⟩, hm.1, hm.2, .tup _ [] [] rfl (by simp)⟩

def keysS {β : Type} (m : MpG β) : List Int := (m.map (·.1)).mergeSort leI
theorem acall_sorted {f g : FuncId} {kt et : TypeId} (hk : P.underlying kt = some (.int .i64)) (he : P.underlying et = some .bool) (hc : callable P f = true)
  (hs : ∀ (i b n : Nat) (D0 : DataW Unit) (w : World), i < w.heap.size → w.cell? ⟨i, 0, none⟩ = some (.map (some b)) → w.ownsMap P kt (plainElem P et) b n D0 → Maps.size D0 ≤ maxLen → Maps.size D0 * 8 ≤ 140737488355328 →
   Calls P f #[.func (.func g) #[] #[.pointer (some ⟨i, 0, none⟩)]] w fun e w' => ∃ (v : Value) (ss : List Int), e = .returned v ∧ ss.Perm (intKeys D0) ∧
    w'.ownsRow w.heap.size kt 1 v ss.length ((ss.mergeSort leI).map encZ) ∧ Below w.heap.size w w')
  {h : H} {nid i : Nat} {y : D} {m : MpB} (hi : hget h i = some (.box [y])) (hy : MapArg h y (bkv m)) (hr : InR m) (hl : m.length * 8 ≤ 140737488355328) :
  ACall P f [.fn (.func g) [] [.ptr i 0]] h nid fun r h' nid' => r = .sl ((keysS m).map fun x => [.int .i64 x]) ∧ h' = h ∧ nid' = nid := by
 refine ⟨hc, fun X k vs hh hn hg hrel => ?_⟩
 subst hh; subst hn
 match vs, hrel with
 | [], hrel => exact absurd hrel.1 (by simp)
 | _ :: _ :: _, hrel => exact absurd hrel.1 (by simp)
 | [v], hrel =>
  have hr0 := hrel.2 0 v _ rfl rfl
  cases hr0 with
  | fn _ _ va vc _ _ q1 q2 q3 q4 =>
  match va, vc, q1, q2, q4 with
  | _ :: _, _, q1, _, _ => exact absurd q1 (by simp)
  | [], [], _, q2, _ => exact absurd q2 (by simp)
  | [], _ :: _ :: _, _, q2, _ => exact absurd q2 (by simp)
  | [], [vp], _, _, q4 =>
  have hp := q4 0 vp _ rfl rfl
  cases hp with
  | ptr _ _ _ hpi =>
  obtain ⟨us, ty, b1, b2⟩ := hg.ok i _ hi
  have hown : k.own i = some (k.β i) := by rw [own_of_hget hi]; rfl
  match us, b1, b2 with
  | [], _, b2 => exact absurd b2.1 (by simp)
  | _ :: _ :: _, _, b2 => exact absurd b2.1 (by simp)
  | [u], b1, b2 =>
  obtain ⟨c, es, clock, es', rfl, hlt, h1, hl1, hk1, hnm, h2, h3, h4⟩ := hy.inv hg rfl (b2.2 0 u y rfl rfl)
  have ns : gnd m := gnd_of hk1
  have Ms : MapAt k.w c (pv m) := mapAt_of (R := k.R X) h1 hl1 h2 h3
  have hmx : m.length ≤ maxLen := by simp only [maxLen]; omega
  obtain ⟨Ss, os, ps⟩ := Ms.owns hk he ns hr hmx
  have hsz : Maps.size (.map Ss : DataW Unit) = m.length := by rw [Maps.size_eq, ps.length_eq]; simp
  refine (hs (k.β i) c _ _ k.w (hg.lt i _ hown).1 (by rw [row_cell b1]; rfl) os (by rw [hsz]; exact hmx) (by rw [hsz]; exact hl)).mono ?_
  rintro e w' ⟨v', ss, rfl, hss, hrow, hB⟩
  have hsort : ss.mergeSort leI = keysS m := mergeSort_of_perm_i (hss.trans (keys_perm_i ps))
  have hlen : ss.length = (keysS m).length := by rw [← hsort, List.length_mergeSort]
  have hle : Le k { k with w := w' } := le_world hB.os hB.tape hB.output hB.size hB.block
  refine ⟨v', { k with w := w' }, _, rfl, rfl, ⟨rfl, rfl, rfl⟩, hg.world hle hB.block, hle, ?_⟩
  rw [hsort, hlen] at hrow
  obtain ⟨_, hrow⟩ := hrow
  rcases hrow with ⟨rfl, hz⟩ | ⟨gb, cap, ⟨cur⟩, rfl, hge, hgb, r1, r2, r3, r4⟩
  ·rw [List.eq_nil_of_length_eq_zero hz]; exact .sln _
  ·simp only [Nat.mul_one] at r4
   have hgl : gb < w'.heap.size := by
    rcases Nat.lt_or_ge gb w'.heap.size with h | h
    ·exact h
    ·rw [Array.getElem?_eq_none h] at hgb; cases hgb
   have hnm : ¬ ({ k with w := w' } : Cx).Mut gb := fun ⟨id, hid⟩ => by
    have := (hg.lt id gb hid).1; omega
   have hx : ¬ X gb := fun hx => by have := hg.xlt gb hx; omega
   have hc2 : ∀ (j : Nat) (x : Int), (keysS m)[j]? = some x → cur[j]? = some (.int .i64 x) := fun j x hj => by
    have : (cur.take (keysS m).length)[j]? = ((keysS m).map encZ)[j]? := by rw [r4]
    rw [List.getElem?_take_of_lt (lt_of_getElem? hj), List.getElem?_map, hj] at this
    simpa using this
   have := Rel.sl (R := Cx.R X { k with w := w' }) k.nid gb 0 cap ((keysS m).map fun x => [.int .i64 x]) 1 (fun a _ => .int .i64 ((keysS m).getD a 0)) (.inr ⟨hgl, hx, hnm⟩) (by simpa using r1) (by simp) (fun a e j d p q => by
     rw [List.getElem?_map] at p
     cases hq : (keysS m)[a]? with
     | none => simp [hq] at p
     | some x =>
      simp [hq] at p; subst p
      cases j with
      | succ j => simp at q
      | zero =>
       show w'.cell? _ = _
       rw [row_cell hgb, show 0 + (a * 1 + 0) = a by omega, hc2 a x hq]
       simp [List.getD, hq]) (fun a e j d p q => by
     rw [List.getElem?_map] at p
     cases hq : (keysS m)[a]? with
     | none => simp [hq] at p
     | some x =>
      simp [hq] at p; subst p
      cases j with
      | succ j => simp at q
      | zero => simp at q; subst q; simp [List.getD, hq]; exact .int _ _ _) (by simp [D.nmL, D.nm])
   simpa using this

def gdel {β : Type} (m : MpG β) (a : Int) : MpG β := m.filter fun p => !(p.1 == a)
theorem gdel_nd {β : Type} {m : MpG β} (h : gnd m) (a : Int) : gnd (gdel m a) := (List.Sublist.map _ (List.filter_sublist)).nodup h
theorem gget_del {β : Type} : ∀ (m : MpG β) (a c : Int), gget (gdel m a) c = if c = a then none else gget m c
 | [], a, c => by simp [gdel, gget]
 | (x, u) :: m, a, c => by
  have := gget_del m a c
  simp only [gdel] at this
  by_cases e : x = a
  ·subst e
   rw [gdel, List.filter_cons_of_neg (by simp), this, gget]
   split <;> rfl
  ·rw [gdel, List.filter_cons_of_pos (by simp [e]), gget, this, gget]
   by_cases e2 : c = x
   ·subst e2; simp [e]
   ·simp [e2]
def notK (a : Int) : Value × Value → Bool
 | (.int _ x, _) => !(x == a)
 | _ => true
theorem pv_del (m : MpB) (a : Int) : (pv m).filter (notK a) = pv (gdel m a) := by
 rw [pv, List.filter_map, pv, gdel]
 exact congrArg _ (List.filter_congr fun p _ => rfl)
theorem gdel_none {β : Type} {m : MpG β} {a : Int} (h : a ∉ m.map (·.1)) : gdel m a = m := List.filter_eq_self.2 fun p hp => by
 have : ¬ p.1 = a := fun e => h (List.mem_map.2 ⟨p, hp, e⟩)
 simp [this]
theorem run_delete {k : Cx} (hg : Good X k) {t kt et kt0 ty : TypeId} (hu : P.underlying t = some (.map kt et)) (hk : P.underlying kt = some (.int .i64)) {b : Nat} {m : MpB} (hb : hget k.h b = some (.map (bkv m))) (a : Int) :
  ∃ w', (Builtin.delete_ #[t, kt0] ty #[.map (some (k.β b)), .int .i64 a]).run P k.w = .ok (.tuple #[]) w' ∧ Good X (k.upd b (.map (bkv (gdel m a))) w' (k.sv b)) ∧ Le k (k.upd b (.map (bkv (gdel m a))) w' (k.sv b)) := by
 obtain ⟨es, clock, es', h1, h2, h3, h4, h5, h6⟩ := hg.ok b _ hb
 have ns : gnd m := gnd_of h3
 have hown : k.own b = some (k.β b) := by rw [own_of_hget hb]; rfl
 have hsize : k.β b < k.w.heap.size := (hg.lt b _ hown).1
 obtain ⟨es0, clock0, g1, g2, g3, g4⟩ := mapAt_of (R := k.R X) h1 h2 h5 h6
 have g1' : k.w.heap[k.β b]? = _ := g1
 rw [h1] at g1'
 simp only [Option.some.injEq, Obj.map.injEq] at g1'
 obtain ⟨e0, rfl⟩ := g1'
 obtain rfl : es = es0 := by simpa using congrArg Array.toList e0
 have hgo := MapKept.run_getObj_map (P := P) (w := k.w) h1
 have hfit : keyFit P kt (.int .i64 a) = true := g_fit hk a
 have hck : ∀ mm, (Instr.checkKey mm 10000 kt (.int .i64 a)).run P k.w = .ok () k.w := fun mm => run_checkKey hfit mm k.w
 have hent : ∀ e ∈ es, ∃ p ∈ m, e.key = .int .i64 p.1 ∧ e.val = .bool p.2 := fun e hm => by
  have : (e.key, e.val) ∈ pv m := g4.mem_iff.1 (List.mem_map.2 ⟨e, hm, rfl⟩)
  obtain ⟨p, hp, e1⟩ := List.mem_map.1 this
  simp only [Prod.mk.injEq] at e1
  exact ⟨p, hp, e1.1.symm, e1.2.symm⟩
 have hkeys : ∀ e ∈ es, ∃ k', keyFit P kt k' = true ∧ e.key = kV k' := fun e hm => by
  obtain ⟨p, _, e1, _⟩ := hent e hm
  exact ⟨.int .i64 p.1, g_fit hk _, e1⟩
 have hput : ∀ (es2 : List MapEntry), (∀ x ∈ es2, x.born < clock) → (es2.map (·.born)).Nodup → (es2.map fun e => (e.key, e.val)).Perm (pv (gdel m a)) →
   Good X (k.upd b (.map (bkv (gdel m a))) { k.w with heap := k.w.heap.setIfInBounds (k.β b) (.map (List.toArray es2) clock) } (k.sv b)) ∧ Le k (k.upd b (.map (bkv (gdel m a))) { k.w with heap := k.w.heap.setIfInBounds (k.β b) (.map (List.toArray es2) clock) } (k.sv b)) := fun es2 c1 c2 c3 =>
  hg.mapto hb rfl rfl rfl (by simp) (fun c hc hne => by simp [Ne.symm hne]) (fun _ => MapAt.blk ⟨es2, clock, by simp [Cx.upd, hsize], c1, c2, c3⟩ (gdel_nd ns a))
 rcases key_find (P := P) hfit es k.w hkeys with ⟨f1, f2⟩ | ⟨i, e, f1, f2, f3⟩
 ·have hno : a ∉ m.map (·.1) := fun hm => by
   obtain ⟨p, hp, rfl⟩ := List.mem_map.1 hm
   have : (Value.int .i64 p.1, Value.bool p.2) ∈ es.map fun e => (e.key, e.val) := g4.mem_iff.2 (List.mem_map.2 ⟨p, hp, rfl⟩)
   obtain ⟨e, he, e1⟩ := List.mem_map.1 this
   simp only [Prod.mk.injEq] at e1
   exact f2 e he (by rw [e1.1]; rfl)
  have hd := gdel_none hno
  refine ⟨_, ?_, hput es g2 g3 (by rw [hd]; exact g4)⟩
  have f1' : (Instr.findKey kt (.int .i64 a) es).run P k.w = .ok none k.w := f1
  simp [Builtin.delete_, run_underlying hu, hgo, hck, f1', MapKept.run_setObj_map _ h1, Result.andThen]
 ·have hi := lt_of_getElem? f2
  have hp : es.Perm (e :: es.eraseIdx i) := perm_pull f2
  have hq : (es.map fun e => (e.key, e.val)).Perm ((e.key, e.val) :: (es.eraseIdx i).map fun e => (e.key, e.val)) := hp.map _
  have hkn : (es.map (·.key)).Nodup := by
   have hp : ((es.map fun e => (e.key, e.val)).map Prod.fst).Perm ((pv m).map Prod.fst) := g4.map _
   have e1 : (es.map fun e => (e.key, e.val)).map Prod.fst = es.map (·.key) := by simp [Function.comp_def]
   rw [e1] at hp
   refine hp.nodup_iff.2 ?_
   have e2 : (pv m).map Prod.fst = (m.map (·.1)).map fun a => Value.int .i64 a := by simp [pv, Function.comp_def]
   rw [e2]
   exact List.Pairwise.map _ (fun a b hab e => hab (by simpa using e)) ns
  have hkn2 := (hp.map (·.key)).nodup_iff.1 hkn
  rw [List.map_cons, List.nodup_cons] at hkn2
  have hsub : ∀ x ∈ es.eraseIdx i, x ∈ es := fun x hx => (List.eraseIdx_sublist _ _).subset hx
  have hfilt : (((es.eraseIdx i).map fun e => (e.key, e.val)).filter (notK a)) = (es.eraseIdx i).map fun e => (e.key, e.val) := List.filter_eq_self.2 fun x hx => by
   obtain ⟨e2, he2, rfl⟩ := List.mem_map.1 hx
   obtain ⟨p, _, e3, _⟩ := hent e2 (hsub e2 he2)
   have hne : e2.key ≠ e.key := fun q => hkn2.1 (List.mem_map.2 ⟨e2, he2, q⟩)
   rw [f3, e3] at hne
   have : ¬ p.1 = a := fun q => hne (by rw [q]; rfl)
   simp [notK, e3, this]
  have c3 : ((es.eraseIdx i).map fun e => (e.key, e.val)).Perm (pv (gdel m a)) := by
   rw [← pv_del, ← hfilt]
   have := (hq.symm.trans g4).filter (notK a)
   rw [List.filter_cons_of_neg (by rw [f3]; simp [notK, kV])] at this
   exact this
  refine ⟨_, ?_, hput (es.eraseIdx i) (fun x hx => g2 x (hsub x hx)) (((List.eraseIdx_sublist _ _).map _).nodup g3) c3⟩
  have f1' : (Instr.findKey kt (.int .i64 a) es).run P k.w = .ok (some (i, e.val)) k.w := f1
  have her : (List.toArray es).eraseIdxIfInBounds i = List.toArray (es.eraseIdx i) := by
   unfold Array.eraseIdxIfInBounds
   rw [dif_pos (by simpa using hi)]
   simp
  simp [Builtin.delete_, run_underlying hu, hgo, hck, f1', MapKept.run_setObj_map _ h1, Result.andThen, her]
theorem opOk_delete {o : Oper} {x y : Operand} {t kt et kt0 : TypeId} {s : St} {K : St → Prop} {b : Nat} {m : MpB} {a : Int} (ho : o.op = .call ⟨.builtin .delete, #[x, y], #[t, kt0]⟩) (hu : P.underlying t = some (.map kt et)) (hk : P.underlying kt = some (.int .i64))
  (hx : evO s.env x = .mp b) (hy : evO s.env y = .int .i64 a) (hb : hget s.h b = some (.map (bkv m))) (hK : K (St.put { s with h := hset s.h b (.map (bkv (gdel m a))) } o.dst (.tup []))) : OpOk P n0 ro o s K := by
 intro X k0 k act Q Kc hn hat hkk
 have r1 := hat.act.eval x
 have r2 := hat.act.eval y
 rw [hx] at r1
 rw [hy] at r2
 have e2 : act.eval y = .int .i64 a := by generalize act.eval y = v at r2; cases r2; rfl
 have e1 : act.eval x = .map (some (k.β b)) := by generalize act.eval x = v at r1; cases r1; rfl
 obtain ⟨w', h1, h2, h3⟩ := run_delete (P := P) (ty := o.type) hat.good (t := t) (kt0 := kt0) hu hk (by rw [hat.h]; exact hb) a
 refine ⟨fun _ _ => trivial, ?_⟩
 have hex : (execOp act.eval o).run P k.w = .ok (.value (.tuple #[])) w' := by
  unfold execOp
  rw [ho]
  simp only [resolve, Sem.run_bind, Sem.run_pure, Result.andThen_ok, invoke, builtin]
  simp [e1, e2, h1]
 rw [semAt_eq _ _ (by rw [ho]; simp), hex]
 refine hkk (k.upd b (.map (bkv (gdel m a))) w' (k.sv b)) _ _ hK ⟨?_, ?_, h2, hat.le.trans h3, ?_⟩ h3 (kept1_put _ _ _)
 ·rw [put_h]; show hset k.h b _ = _; rw [hat.h]
 ·rw [put_nid]; exact hat.nid
 ·exact ActOk.put (s := { s with h := hset s.h b (.map (bkv (gdel m a))) }) (hat.act.le hat.good h3) o.dst (.tup _ [] [] rfl (by simp))
end Go.Sx

/- Sx: a statement, and what is kept behind it, own memory moved. Own work. -/
namespace Go.Sx
variable {P : Program} {O : Oracle} {n0 : Nat} {ro : Option Nat} {T : List (Nat × List Ann)}
theorem awp_cutI (hO : OkO P O) (hm : P.follows .mixedOrders = true) (e : Env) (hh : H) (nid n : Nat) {x y : Code} {s : St} {Q : Ex → St → Prop} (ht : tabOk T x = true)
  (h : wc P n0 ro T O x s (thenQ (fun s' => Imp n0 s' ⟨e, hh, nid, n⟩) Q)) (h2 : AWp P n0 ro y ⟨e, hh, nid, n⟩ Q) : AWp P n0 ro (.seq x y) s Q :=
 awp_seq (awp_mono (wc_sound hO hm x s _ ht h) fun ex s' hs => by
  cases ex with
  | normal => exact awp_imp hs h2
  | exit i => exact hs
  | ret => exact hs)
end Go.Sx

/- Sx: regions that draw their order: runs kept by what holds of the operations that have run; operations taken first; operations with a law of their own. Own work. -/
namespace Go.Sx
variable {P : Program} {n0 : Nat} {ro : Option Nat}
theorem lt_of_arr {α : Type} {a : Array α} {i : Nat} {x : α} (h : a[i]? = some x) : i < a.size := by
 rcases Nat.lt_or_ge i a.size with h' | h'
 ·exact h'
 ·rw [Array.getElem?_eq_none h'] at h; cases h
theorem ran_lt {listed : Array Bool} {j : Nat} (h : Ran listed j) : j < listed.size := by
 rcases Nat.lt_or_ge j listed.size with h' | h'
 ·exact h'
 ·simp [Ran, Array.getD_eq_getD_getElem?, Array.getElem?_eq_none h'] at h
theorem ran_all {ops : Array Oper} {listed : Array Bool} (hb : Back ops) (hs : listed.size = ops.size) (hnil : Region.ready .any ops listed = []) : ∀ i, i < ops.size → Ran listed i := by
 intro i
 induction i using Nat.strongRecOn with
 | _ i ih =>
  intro hi
  refine Classical.byContradiction fun hn => ?_
  have hoi : ops[i]? = some ops[i] := by simp [hi]
  have hm : i ∈ Region.ready .any ops listed := (mem_ready hs).2 ⟨ops[i], hoi, hn, fun j hj => ih j (hb i _ hoi j hj) (Nat.lt_trans (hb i _ hoi j hj) hi)⟩
  rw [hnil] at hm; cases hm
theorem awp_graph (hm : P.follows .mixedOrders = true) {id : Nat} {ops : Array Oper} {s : St} {Q : Ex → St → Prop} (hbk : backOk ops = true) (J : (Nat → Prop) → St → Prop) (h0 : J (fun _ => False) s)
  (hstep : ∀ (L : Nat → Prop) (s : St) (i : Nat) (o : Oper), J L s → (∀ a j, L a → bef (masks ops) j a = true → L j) → ops[i]? = some o → ¬ L i → (∀ j ∈ bnd o, L j) → o.guard = none ∧ OpOk P n0 ro o s (fun s' => J (fun j => j = i ∨ L j) s'))
  (hend : ∀ (L : Nat → Prop) (s : St), J L s → (∀ i, i < ops.size → L i) → Q .normal s) : AWp P n0 ro (.region id ops true) s Q := by
 have hb := back_of hbk
 intro X k0 k a hn hat
 refine wpIn_region_any hm ?_
 have hle : Le k { k with w := { k.w with drawn := k.w.drawn + 1 } } := le_world rfl rfl rfl (Nat.le_refl _) fun _ _ => rfl
 have hat' : At X k0 { k with w := { k.w with drawn := k.w.drawn + 1 } } a s := ⟨hat.h, hat.nid, hat.good.world hle fun _ _ => rfl, hat.le.trans hle, hat.act.le hat.good hle⟩
 have key : ∀ (fuel : Nat) (listed : Array Bool) (k : Cx) (a : Act) (s : St), listed.size = ops.size → (∀ i o, ops[i]? = some o → Ran listed i → ∀ j ∈ bnd o, Ran listed j) → J (fun i => i < ops.size ∧ Ran listed i) s → At X k0 k a s → unl (fun i => listed.getD i true) ops.size ≤ fuel → wpAnyIn (FW ro) 0 P .any ops (Post X k0 Q) fuel listed a k.w := by
  intro fuel
  induction fuel with
  | zero =>
   intro listed k a s hs hcl hJ hat hf
   have hall : ∀ i, i < ops.size → Ran listed i := fun i hi => by
    cases hg : listed.getD i true with
    | true =>
     have hlt : i < listed.size := by rw [hs]; exact hi
     simp only [Ran, Array.getD_eq_getD_getElem?, Array.getElem?_eq_getElem hlt] at hg ⊢
     simpa using hg
    | false => have := unl_pos (f := fun i => listed.getD i true) hi hg; omega
   refine ⟨?_, .normal, k, s, rfl, rfl, hend _ s hJ fun i hi => ⟨hi, hall i hi⟩, hat⟩
   cases hq : Region.ready .any ops listed with
   | nil => rfl
   | cons i r =>
    have hi : i ∈ Region.ready .any ops listed := by rw [hq]; simp
    obtain ⟨o, ho, hnr, _⟩ := (mem_ready hs).1 hi
    exact absurd (hall i (lt_of_arr ho)) hnr
  | succ fuel ih =>
   intro listed k a s hs hcl hJ hat hf
   refine ⟨fun hnil => ?_, fun i hi => ?_⟩
   ·refine ⟨.normal, k, s, rfl, rfl, hend _ s hJ fun i hi => ⟨hi, ?_⟩, hat⟩
    exact ran_all hb hs hnil i hi
   ·obtain ⟨o, ho, hnr, hr⟩ := (mem_ready hs).1 hi
    have hilt : i < ops.size := lt_of_arr ho
    have hsz : i < listed.size := by rw [hs]; exact hilt
    have hfuel : unl (fun j => (listed.setIfInBounds i true).getD j true) ops.size ≤ fuel := by
     have hs := (unl_set (f := fun j => listed.getD j true) (g := fun j => (listed.setIfInBounds i true).getD j true) (i := i) (by
      simp only [Ran, Array.getD_eq_getD_getElem?, Array.getElem?_eq_getElem hsz] at hnr ⊢
      simpa using hnr) (by simp [Array.getD_eq_getD_getElem?, Array.getElem?_setIfInBounds_self_of_lt hsz]) (fun j hj => by
      simp only [Array.getD_eq_getD_getElem?, Array.getElem?_setIfInBounds_ne (Ne.symm hj)]) ops.size).2 hilt
     omega
    obtain ⟨hg, hok⟩ := hstep _ s i o hJ (fun a j ha hj => by
     have hoa : ops[a]? = some ops[a] := by simp [ha.1]
     have := bef_sound hb hcl a _ hoa (hcl a _ hoa ha.2) j hj
     exact ⟨by have := ran_lt this; omega, this⟩) ho (fun h => hnr h.2) fun j hj => ⟨by have := ran_lt (hr j hj); omega, hr j hj⟩
    have hw : Region.wanted o (yielded ops a.tmps) = true := by unfold Region.wanted; rw [hg]
    simp only [wpOpIn, ho, hw, if_true]
    refine hok X k0 k a _ _ hn hat fun k' a' s' hJ' hat' hle _ => ih _ k' a' s' (by simpa using hs) (fun j oj hj hran x hx => by
     rcases (ran_set hsz).1 hran with rfl | hran
     ·rw [ho] at hj; cases hj; exact (ran_set hsz).2 (.inr (hr x hx))
     ·exact (ran_set hsz).2 (.inr (hcl j oj hj hran x hx))) ?_ hat' hfuel
    have e : (fun j => j < ops.size ∧ Ran (listed.setIfInBounds i true) j) = fun j => j = i ∨ (j < ops.size ∧ Ran listed j) := funext fun j => propext (by
     rw [ran_set hsz]
     constructor
     ·rintro ⟨h1, h2 | h2⟩
      ·exact .inl h2
      ·exact .inr ⟨h1, h2⟩
     ·rintro (rfl | ⟨h1, h2⟩)
      ·exact ⟨hilt, .inl rfl⟩
      ·exact ⟨h1, .inr h2⟩)
    rw [e]; exact hJ'
 refine key ops.size _ _ a s (by simp) (fun i o ho h => by
  have := ran_lt h
  simp only [Array.size_replicate] at this
  simp [Ran, Array.getD_eq_getD_getElem?, this] at h) ?_ hat' (unl_le _ _)
 have e : (fun i => i < ops.size ∧ Ran (Array.replicate ops.size false) i) = fun _ => False := funext fun i => propext ⟨fun h => by
  have := h.2
  simp [Ran, Array.getD_eq_getD_getElem?, h.1] at this, fun h => h.elim⟩
 rw [e]; exact h0

def dstOk (ops : Array Oper) (n : Nat) : Bool := decide (ops.toList.filterMap (·.dst)).Nodup && (ops.toList.filterMap (·.dst)).all fun t => Nat.blt t n
theorem nodup_fm {α β : Type} (f : α → Option β) : ∀ {l : List α}, (l.filterMap f).Nodup → ∀ (i j : Nat) (x y : α) (t : β), l[i]? = some x → l[j]? = some y → f x = some t → f y = some t → i = j
 | [], _, i, j, x, y, t, h, _, _, _ => by simp at h
 | a :: l, hn, i, j, x, y, t, hx, hy, fx, fy => by
  have hin : ∀ {k : Nat} {z : α}, l[k]? = some z → f z = some t → t ∈ l.filterMap f := fun h hz => List.mem_filterMap.2 ⟨_, List.mem_of_getElem? h, hz⟩
  cases hfa : f a with
  | none =>
   rw [List.filterMap_cons, hfa] at hn
   cases i with
   | zero => simp at hx; subst hx; rw [hfa] at fx; cases fx
   | succ i =>
    cases j with
    | zero => simp at hy; subst hy; rw [hfa] at fy; cases fy
    | succ j => rw [nodup_fm f hn i j x y t (by simpa using hx) (by simpa using hy) fx fy]
  | some u =>
   rw [List.filterMap_cons, hfa] at hn
   have hn := List.nodup_cons.1 hn
   cases i with
   | zero =>
    simp at hx; subst hx; rw [hfa] at fx; cases fx
    cases j with
    | zero => rfl
    | succ j => exact absurd (hin (by simpa using hy) fy) hn.1
   | succ i =>
    cases j with
    | zero => simp at hy; subst hy; rw [hfa] at fy; cases fy; exact absurd (hin (by simpa using hx) fx) hn.1
    | succ j => rw [nodup_fm f hn.2 i j x y t (by simpa using hx) (by simpa using hy) fx fy]
structure Slots (ops : Array Oper) (base : Env) (L : Nat → Prop) (val : Nat → D) (e : Env) : Prop where
 old : ∀ t, (∀ (j : Nat) o', ops[j]? = some o' → o'.dst ≠ some t) → look e t = look base t
 new : ∀ (j : Nat) o' t, ops[j]? = some o' → L j → o'.dst = some t → look e t = val j
theorem Slots.base {ops : Array Oper} {b : Env} {L : Nat → Prop} {val : Nat → D} {e : Env} (h : Slots ops b L val e) (t : Nat) (ht : (ops.toList.all fun o => match o.dst with | some u => !(Nat.beq u t) | none => true) = true) : look e t = look b t :=
 h.old t fun j o' ho hd => by
  have := List.all_eq_true.1 ht o' (List.mem_of_getElem? (by simpa using ho))
  rw [hd] at this; simp at this
theorem awp_slots {O : Oracle} (hO : OkO P O) (hm : P.follows .mixedOrders = true) {id : Nat} {ops : Array Oper} {s : St} {Q : Ex → St → Prop} {σ : Type} (ok : σ → (Nat → Prop) → Prop) (hh : σ → H) (nn : σ → Nat) (val : σ → Nat → D) (m0 : σ)
  (hbk : backOk ops = true) (hd : dstOk ops s.n = true) (h1 : s.h = hh m0) (h2 : s.nid = nn m0) (h0 : ok m0 (fun _ => False))
  (hop : ∀ (m : σ) (L : Nat → Prop) (i : Nat) (o : Oper) (e : Env), ok m L → (∀ a j, L a → bef (masks ops) j a = true → L j) → ops[i]? = some o → ¬ L i → (∀ j ∈ bnd o, L j) → Slots ops s.env L (val m) e →
   o.guard = none ∧ resK P O false false o.op e (hh m) (nn m) fun d h' nid' => ∃ m', ok m' (fun j => j = i ∨ L j) ∧ (∀ j, L j → val m' j = val m j) ∧ d = val m' i ∧ h' = hh m' ∧ nid' = nn m')
  (hend : ∀ (m : σ) (L : Nat → Prop) (e : Env), ok m L → (∀ i, i < ops.size → L i) → Slots ops s.env L (val m) e → Q .normal ⟨e, hh m, nn m, s.n⟩) : AWp P n0 ro (.region id ops true) s Q := by
 simp only [dstOk, Bool.and_eq_true, decide_eq_true_eq] at hd
 have huniq := fun (i j : Nat) x y (t : Nat) (hx : ops[i]? = some x) (hy : ops[j]? = some y) (a : x.dst = some t) (b : y.dst = some t) => nodup_fm (·.dst) hd.1 i j x y t (by simpa using hx) (by simpa using hy) a b
 have hlt : ∀ (i : Nat) x (t : Nat), ops[i]? = some x → x.dst = some t → t < s.n := fun i x t hx ht => by
  have := List.all_eq_true.1 hd.2 t (List.mem_filterMap.2 ⟨x, List.mem_of_getElem? (by simpa using hx), ht⟩)
  exact Nat.le_of_ble_eq_true this
 refine awp_graph hm hbk (fun L s' => ∃ m e, s' = ⟨e, hh m, nn m, s.n⟩ ∧ ok m L ∧ Slots ops s.env L (val m) e) ⟨m0, s.env, by rw [← h1, ← h2], h0, ⟨fun _ _ => rfl, fun _ _ _ _ h => h.elim⟩⟩ ?_ ?_
 ·rintro L _ i o ⟨m, e, rfl, hok, hsl⟩ hcl ho hnr hr
  obtain ⟨hg, hres⟩ := hop m L i o e hok hcl ho hnr hr hsl
  refine ⟨hg, opOk_resK hO (s := ⟨e, hh m, nn m, s.n⟩) hres ?_⟩
  rintro d h' nid' ⟨m', hok', hext, rfl, rfl, rfl⟩
  refine ⟨m', (St.put ⟨e, hh m', nn m', s.n⟩ o.dst (val m' i)).env, ?_, hok', ⟨fun t ht => ?_, fun j o' t hj hL ht => ?_⟩⟩
  ·have e1 := put_h ⟨e, hh m', nn m', s.n⟩ o.dst (val m' i)
   have e2 := put_nid ⟨e, hh m', nn m', s.n⟩ o.dst (val m' i)
   have e3 := put_n ⟨e, hh m', nn m', s.n⟩ o.dst (val m' i)
   generalize St.put ⟨e, hh m', nn m', s.n⟩ o.dst (val m' i) = z at *
   obtain ⟨a, b, c, d⟩ := z
   simp only at e1 e2 e3
   rw [e1, e2, e3]
  ·rw [look_put, if_neg fun h => ht i o ho h.1]
   exact hsl.old t ht
  ·rw [look_put]
   by_cases hji : j = i
   ·subst hji
    rw [ho] at hj; cases hj
    rw [if_pos ⟨ht, hlt j o t ho ht⟩]
   ·rw [if_neg fun h => hji (huniq j i o' o t hj ho ht h.1)]
    rcases hL with hL | hL
    ·exact absurd hL hji
    ·rw [hext j hL]; exact hsl.new j o' t hj hL ht
 ·rintro L _ ⟨m, e, rfl, hok, hsl⟩ hall
  exact hend m L e hok hall hsl
theorem acall_of_pieces {O : Oracle} {f : FuncId} {fn : Func} {c : Code} {ds : List D} {h : H} {nid : Nat} {Q : D → H → Nat → Prop} {rs : List ResultVar} {m : Nat} (T : List (Nat × List Ann)) (hO : OkO P O) (hm : P.follows .mixedOrders = true) (hf : P.funcs[f]? = some fn) (hb : fn.body = some c) (hcal : callable P f = true)
  (hrs : fn.results.toList = rs) (hn : ds.length + (fn.ntmps - ds.length) = m) (ht : tabOk T c = true) (hw : AWp P nid none c ⟨argEnv 0 ds, h, nid, m⟩ (endK P rs Q)) : ACall P f ds h nid Q :=
 acall_of_awp hf hb hcal (awp_mono (by rw [hn]; exact hw) fun e s hq => endQ_of hrs hq)
theorem awp_cutA (e : Env) (hh : H) (nid n : Nat) {x y : Code} {s : St} {Q : Ex → St → Prop} (h : AWp P n0 ro x s (thenQ (fun s' => Imp n0 s' ⟨e, hh, nid, n⟩) Q)) (h2 : AWp P n0 ro y ⟨e, hh, nid, n⟩ Q) : AWp P n0 ro (.seq x y) s Q :=
 awp_seq (awp_mono h fun ex s' hs => by
  cases ex with
  | normal => exact awp_imp hs h2
  | exit i => exact hs
  | ret => exact hs)
end Go.Sx

/- Sx: an own block gets another id, where slots hold nested data that names neither. Own work. -/
namespace Go.Sx
variable {P : Program} {n0 : Nat} {ro : Option Nat}
mutual
def D.noI (i j : Nat) : D → Bool
 | .ptr b _ => !(b == i) && !(b == j)
 | .osl b _ => !(b == i) && !(b == j)
 | .eptr b _ _ _ _ => !(b == i) && !(b == j)
 | .mp b => !(b == i) && !(b == j)
 | .bsl b _ _ _ => !(b == i) && !(b == j)
 | .mpd _ => false
 | .refm _ => false
 | .agg cs => D.noIL i j cs
 | .tup cs => D.noIL i j cs
 | .fn _ f c => D.noIL i j f && D.noIL i j c
 | .ifc _ d => D.noI i j d
 | _ => true
def D.noIL (i j : Nat) : List D → Bool
 | [] => true
 | d :: ds => D.noI i j d && D.noIL i j ds
end
theorem D.noIL_get {i j : Nat} : ∀ {ds : List D}, D.noIL i j ds = true → ∀ (p : Nat) (d : D), ds[p]? = some d → D.noI i j d = true
 | [], _, p, d, h => by simp at h
 | x :: xs, hl, 0, d, h => by simp [D.noIL] at hl; simp at h; subst h; exact hl.1
 | x :: xs, hl, p + 1, d, h => by simp [D.noIL] at hl; simp at h; exact D.noIL_get hl.2 p d h
theorem mvD_no {i j : Nat} : ∀ {d : D}, D.noI i j d = true → mvD i j d = d
 | .ptr b o, h => by
  simp only [D.noI, Bool.and_eq_true, Bool.not_eq_true', beq_eq_false_iff_ne, ne_eq] at h
  simp [mvD, h.1]
 | .osl b o, h => by
  simp only [D.noI, Bool.and_eq_true, Bool.not_eq_true', beq_eq_false_iff_ne, ne_eq] at h
  simp [mvD, h.1]
 | .mp b, h => by
  simp only [D.noI, Bool.and_eq_true, Bool.not_eq_true', beq_eq_false_iff_ne, ne_eq] at h
  simp [mvD, h.1]
 | .ifc t d, h => by
  have := mvD_no (i := i) (j := j) (d := d) (by simpa [D.noI] using h)
  simp [mvD, this]
 | .any, _ | .int _ _, _ | .bool _, _ | .str _, _ | .nils, _ | .sl _, _ | .ref _ _, _ | .eptr _ _ _ _ _, _ | .nilp, _ | .nilf, _ | .nili, _ | .nilm, _ | .bsl _ _ _ _, _ | .raw _, _ | .agg _, _ | .tup _, _ | .fn _ _ _, _ | .mpd _, _ | .refm _, _ => rfl
section
variable {k : Cx} {i j : Nat} {bi : Blk} (hij : i ≠ j) (hi : hget k.h i = some bi) (hj : hget k.h j = none)
include hij hi hj
theorem mv_rel_no {X : Nat → Prop} : ∀ {d : D} {v : Value}, Rel (k.R X) k.nid v d → D.noI i j d = true → Rel ((k.mv i j).R X) k.nid v d := by
 intro d
 have hg := mvH_get hij k.h hj
 have hdata : ∀ {v : Value} {d : D}, Rel (k.R X) k.nid v d → D.lt 0 d = true → Rel ((k.mv i j).R X) k.nid v d := fun h hl => ((h.roll hl).mono (mv_rle hij hi hj X)).weak (Nat.zero_le _)
 have hβ : ∀ b, b ≠ j → ((k.mv i j).R X).β b = (k.R X).β b := fun b hb => by show (if b = j then k.β i else k.β b) = _; rw [if_neg hb]; rfl
 have hsv : ∀ b, b ≠ j → ((k.mv i j).R X).sv b = (k.R X).sv b := fun b hb => by show (if b = j then k.sv i else k.sv b) = _; rw [if_neg hb]; rfl
 have hln : ∀ b m, b ≠ i → b ≠ j → ((k.mv i j).R X).ln b = some m → (k.R X).ln b = some m := fun b m h1 h2 hm => by
  have hm' : lnOf (hget (mvH i j k.h) b) = some m := hm
  rw [hg, if_neg h2, if_neg h1, lnOf_mv] at hm'; exact hm'
 suffices H : ∀ {n : Nat} {v : Value} {d : D}, Rel (k.R X) n v d → n = k.nid → D.noI i j d = true → Rel ((k.mv i j).R X) k.nid v d from fun {v} h => H h rfl
 intro n v d h
 induction h with
 | ptr n b off h1 =>
  intro hn hok; subst hn
  simp only [D.noI, Bool.and_eq_true, Bool.not_eq_true', beq_eq_false_iff_ne, ne_eq] at hok
  rw [← hβ b hok.2]; exact .ptr _ _ _ h1
 | mp n b h1 =>
  intro hn hok; subst hn
  simp only [D.noI, Bool.and_eq_true, Bool.not_eq_true', beq_eq_false_iff_ne, ne_eq] at hok
  rw [← hβ b hok.2]; exact .mp _ _ h1
 | bsl n b off l cap sz h1 h2 =>
  intro hn hok; subst hn
  simp only [D.noI, Bool.and_eq_true, Bool.not_eq_true', beq_eq_false_iff_ne, ne_eq] at hok
  rw [← hβ b hok.2]; exact .bsl _ _ _ _ _ _ h1 h2
 | osl n b l v h1 h2 =>
  intro hn hok; subst hn
  simp only [D.noI, Bool.and_eq_true, Bool.not_eq_true', beq_eq_false_iff_ne, ne_eq] at hok
  exact .osl _ _ _ _ h1 fun m hm => by rw [hsv b hok.2]; exact h2 m (hln b m hok.1 hok.2 hm)
 | eptr n b l sz i off v h1 h2 =>
  intro hn hok; subst hn
  simp only [D.noI, Bool.and_eq_true, Bool.not_eq_true', beq_eq_false_iff_ne, ne_eq] at hok
  exact .eptr _ _ _ _ _ _ _ h1 fun m hm => by rw [hsv b hok.2]; exact h2 m (hln b m hok.1 hok.2 hm)
 | agg n vs ds a b ih => intro hn hok; exact .agg _ vs ds a fun p v d x y => ih p v d x y hn (D.noIL_get (by simpa [D.noI] using hok) p d y)
 | tup n vs ds a b ih => intro hn hok; exact .tup _ vs ds a fun p v d x y => ih p v d x y hn (D.noIL_get (by simpa [D.noI] using hok) p d y)
 | fn n f va vc da dc a1 a2 a3 a4 ih1 ih2 =>
  intro hn hok
  simp only [D.noI, Bool.and_eq_true] at hok
  exact .fn _ f va vc da dc a1 a2 (fun p v d x y => ih1 p v d x y hn (D.noIL_get hok.1 p d y)) (fun p v d x y => ih2 p v d x y hn (D.noIL_get hok.2 p d y))
 | ifc n t v d h1 ih => intro hn hok; exact .ifc _ t v _ (ih hn (by simpa [D.noI] using hok))
 | any n v => intro hn hok; exact .any _ _
 | int n kk x => intro hn hok; exact .int _ _ _
 | bool n b => intro hn hok; exact .bool _ _
 | str n s => intro hn hok; exact .str _ _
 | nils n => intro hn hok; exact .nils _
 | sln n => intro hn hok; exact .sln _
 | sle n a c => intro hn hok; exact .sle _ _ _
 | nilp n => intro hn hok; exact .nilp _
 | nilf n => intro hn hok; exact .nilf _
 | nili n => intro hn hok; exact .nili _
 | nilm n => intro hn hok; exact .nilm _
 | raw n v => intro hn hok; exact .raw _ _
 | sl n b off cap es sz vs a1 a2 a3 a4 a5 a6 _ => intro hn hok; subst hn; exact hdata (.sl _ b off cap es sz vs a1 a2 a3 a4 a5 a6) rfl
 | ref n b off cs o vs a1 a2 a3 a4 _ => intro hn hok; subst hn; exact hdata (.ref _ b off cs o vs a1 a2 a3 a4) rfl
 | mpd n b kvs es es' c a1 a2 a3 a4 a5 a6 a7 a8 _ _ => intro hn hok; simp [D.noI] at hok
 | refm n b off kvs v a1 a2 a3 _ => intro hn hok; simp [D.noI] at hok
end
def okMB' (i j : Nat) : Blk → Bool
 | .box cs => cs.all fun d => okM j d || D.noI i j d
 | .arr _ _ _ => true
 | .map kvs => kvs.all fun p => D.lt 0 p.2
theorem okMB_get' {i j : Nat} : ∀ {h : H}, (h.all fun p => okMB' i j p.2) = true → ∀ {id : Nat} {b : Blk}, hget h id = some b → okMB' i j b = true
 | [], _, id, b, hb => by simp [hget] at hb
 | (a, c) :: r, hh, id, b, hb => by
  simp only [List.all_cons, Bool.and_eq_true] at hh
  simp only [hget] at hb
  split at hb
  ·cases hb; exact hh.1
  ·exact okMB_get' hh.2 hb
theorem mv_good' {X : Nat → Prop} {k : Cx} {i j : Nat} {bi : Blk} (hij : i ≠ j) (hi : hget k.h i = some bi) (hj : hget k.h j = none) (hjn : j < k.nid) (hok : (k.h.all fun p => okMB' i j p.2) = true) (hg : Good X k) : Good X (k.mv i j) := by
 have hget' := mvH_get hij k.h hj
 have hrel := fun {v d} => mv_rel (X := X) hij hi hj hjn (d := d) (v := v)
 have hr0 := mv_rle (X := X) hij hi hj
 refine ⟨fun id blk hq => ?_, fun a b c ha hb => ?_, fun a b ha => ?_, hg.xlt, fun id blk hq => ?_⟩
 ·have hq' : hget (mvH i j k.h) id = some blk := hq
  rw [hget'] at hq'
  show id < k.nid
  split at hq'
  ·omega
  ·split at hq'
   ·cases hq'
   ·cases e : hget k.h id with
    | none => rw [e] at hq'; cases hq'
    | some b0 => exact hg.key id b0 e
 ·rw [mv_own hij hi hj] at ha hb
  split at ha <;> split at hb
  ·omega
  ·split at hb
   ·cases hb
   ·have := hg.inj i b c ha hb; omega
  ·split at ha
   ·cases ha
   ·have := hg.inj i a c hb ha; omega
  ·split at ha
   ·cases ha
   ·split at hb
    ·cases hb
    ·exact hg.inj a b c ha hb
 ·rw [mv_own hij hi hj] at ha
  split at ha
  ·exact hg.lt i b ha
  ·split at ha
   ·cases ha
   ·exact hg.lt a b ha
 ·have hq' : hget (mvH i j k.h) id = some blk := hq
  rw [hget'] at hq'
  have main : ∀ (id0 : Nat) (b0 : Blk) (id1 : Nat), hget k.h id0 = some b0 → (k.mv i j).sv id1 = k.sv id0 → (k.mv i j).β id1 = k.β id0 → BlkOk X (k.mv i j) id1 (mvB i j b0) := fun id0 b0 id1 e hsv hβ => by
   have h0 := hg.ok id0 b0 e
   have hb := okMB_get' hok e
   cases b0 with
   | box cs =>
    obtain ⟨vs, t, a, b⟩ := h0
    refine ⟨vs, t, by rw [hβ]; exact a, by rw [List.length_map]; exact b.1, fun p v d hv hd => ?_⟩
    rw [List.getElem?_map] at hd
    cases hc : cs[p]? with
    | none => rw [hc] at hd; cases hd
    | some c =>
     rw [hc] at hd
     simp only [Option.map_some, Option.some.injEq] at hd
     subst hd
     have hcc : okM j c = true ∨ D.noI i j c = true := by simpa using List.all_eq_true.1 hb c (List.mem_of_getElem? hc)
     rcases hcc with hcc | hcc
     ·exact hrel (b.2 p v c hv hc) hcc
     ·rw [mvD_no hcc]; exact mv_rel_no hij hi hj (b.2 p v c hv hc) hcc
   | arr t s es' =>
    obtain ⟨a0, a1⟩ := h0
    refine ⟨a0, ?_⟩
    rcases a1 with ⟨a1, a2⟩ | ⟨b, off, cap, vs, x1, x2, x3, x4, x5⟩
    ·exact .inl ⟨by rw [hsv]; exact a1, a2⟩
    ·exact .inr ⟨b, off, cap, vs, by rw [hsv]; exact x1, x2, x3, x4, fun p e q d v r s t => (x5 p e q d v r s t).mono hr0⟩
   | map kvs =>
    obtain ⟨es1, c, es', x1, x2, x3, x6, x4, x5⟩ := h0
    refine ⟨es1, c, es', by rw [hβ]; exact x1, x2, x3, x6, ⟨x4.1, fun p v d y z => (x4.2 p v d y z).mono hr0⟩, ⟨x5.1, fun p v d y z => ?_⟩⟩
    have hl : D.lt 0 d = true := by
     rw [List.getElem?_map] at z
     cases hc : kvs[p]? with
     | none => rw [hc] at z; cases z
     | some q =>
      rw [hc] at z
      simp only [Option.map_some, Option.some.injEq] at z
      subst z
      exact List.all_eq_true.1 hb q (List.mem_of_getElem? hc)
    exact (((x5.2 p v d y z).roll hl).mono hr0).weak (Nat.zero_le _)
  split at hq'
  ·rename_i e; subst e
   rw [hi] at hq'
   simp only [Option.map_some, Option.some.injEq] at hq'
   subst hq'
   exact main i bi id hi (by show (if id = id then k.sv i else k.sv id) = _; rw [if_pos rfl]) (by show (if id = id then k.β i else k.β id) = _; rw [if_pos rfl])
  ·rename_i h1
   split at hq'
   ·cases hq'
   ·cases e : hget k.h id with
    | none => rw [e] at hq'; cases hq'
    | some b0 =>
     rw [e] at hq'
     simp only [Option.map_some, Option.some.injEq] at hq'
     subst hq'
     exact main id b0 id e (by show (if id = j then k.sv i else k.sv id) = _; rw [if_neg h1]) (by show (if id = j then k.β i else k.β id) = _; rw [if_neg h1])
theorem Imp.move' {env : Env} {h : H} {nid n : Nat} (i j : Nat) {bi : Blk} (hij : i ≠ j) (hi : hget h i = some bi) (hj : hget h j = none) (hjn : j < nid) (h0 : n0 ≤ j)
  (hok : (h.all fun p => okMB' i j p.2) = true) (hoe : (env.all fun p => okM j p.2 || D.noI i j p.2) = true) : Imp n0 ⟨env, h, nid, n⟩ ⟨env.map fun p => (p.1, mvD i j p.2), mvH i j h, nid, n⟩ := fun X k0 k a hn hat => by
 have hh : k.h = h := hat.h
 have hnid : k.nid = nid := hat.nid
 subst hh; subst hnid
 have hle := hat.le
 refine ⟨k.mv i j, rfl, rfl, rfl, mv_good' hij hi hj hjn hok hat.good, ⟨hle.nid, hle.os, hle.tape, hle.output, hle.size, fun id hid => by show (if id = j then k.β i else k.β id) = _; rw [if_neg (by omega)]; exact hle.β id hid, fun id hid m' hm => ?_, fun b hb hm => hle.heap b hb hm, fun b hb hm => hle.mb b hb ((mv_mut hij hi hj b).1 hm)⟩, hat.act.size, fun p => ?_, hat.act.marks⟩
 ·have hm' : lnOf (hget (mvH i j k.h) id) = some m' := hm
  rw [mvH_get hij k.h hj, if_neg (by omega)] at hm'
  split at hm'
  ·cases hm'
  ·rw [lnOf_mv] at hm'
   obtain ⟨m, a1, a2, a3⟩ := hle.arr id hid m' hm'
   exact ⟨m, a1, a2, fun e => by show (if id = j then k.sv i else k.sv id) = _; rw [if_neg (by omega)]; exact a3 e⟩
 ·show Rel _ _ _ (look (env.map fun p => (p.1, mvD i j p.2)) p)
  have hl : ∀ (env : Env), (env.all fun p => okM j p.2 || D.noI i j p.2) = true → look (env.map fun p => (p.1, mvD i j p.2)) p = mvD i j (look env p) ∧ (okM j (look env p) = true ∨ D.noI i j (look env p) = true) := by
   intro env
   induction env with
   | nil => intro _; exact ⟨rfl, .inl rfl⟩
   | cons q r ih =>
    obtain ⟨x, d⟩ := q
    intro hq
    simp only [List.all_cons, Bool.and_eq_true, Bool.or_eq_true] at hq
    simp only [List.map_cons, look]
    split
    ·exact ⟨rfl, hq.1⟩
    ·exact ih (by simpa using hq.2)
  obtain ⟨e1, e2⟩ := hl env hoe
  rw [e1]
  rcases e2 with e2 | e2
  ·exact mv_rel hij hi hj hjn (hat.act.rel p) e2
  ·rw [mvD_no e2]; exact mv_rel_no hij hi hj (hat.act.rel p) e2
theorem imp_move' {env e : Env} {h h' : H} {nid nid' n n' : Nat} (i j : Nat) {bi : Blk} (hij : i ≠ j) (hi : hget h i = some bi) (hj : hget h j = none) (hjn : j < nid) (h0 : n0 ≤ j)
  (hok : (h.all fun p => okMB' i j p.2) = true) (hoe : (env.all fun p => okM j p.2 || D.noI i j p.2) = true) (hw : Imp n0 ⟨env.map fun p => (p.1, mvD i j p.2), mvH i j h, nid, n⟩ ⟨e, h', nid', n'⟩) : Imp n0 ⟨env, h, nid, n⟩ ⟨e, h', nid', n'⟩ := (Imp.move' i j hij hi hj hjn h0 hok hoe).trans hw
end Go.Sx

/- Sx: maps from pairs of numbers to pairs of numbers. Own work. -/
namespace Go.Sx
variable {P : Program}
abbrev Pr := Int × Int
def pD (p : Pr) : D := .agg [.int .i64 p.1, .int .i64 p.2]
abbrev MpP := List (Pr × Pr)
def pget : MpP → Pr → Option Pr
 | [], _ => none
 | (a, v) :: r, k => if k = a then some v else pget r k
def pput : MpP → Pr → Pr → MpP
 | [], k, v => [(k, v)]
 | (a, w) :: r, k, v => if k = a then (k, v) :: r else (a, w) :: pput r k v
theorem pget_put : ∀ (m : MpP) (k v j : Pr), pget (pput m k v) j = if j = k then some v else pget m j
 | [], k, v, j => by simp [pput, pget]
 | (a, w) :: r, k, v, j => by
  simp only [pput]
  by_cases h : k = a
  ·subst h
   simp only [if_true, pget]
   split <;> simp_all
  ·simp only [if_neg h, pget, pget_put r k v j]
   by_cases h2 : j = a
   ·subst h2
    have : ¬ j = k := fun e => h e.symm
    simp [this]
   ·simp [h2]
def pkv (m : MpP) : List (D × D) := m.map fun p => (pD p.1, pD p.2)
theorem keyEq_p (k a : Pr) : keyEq (pD k) (pD a) = decide (k = a) := by
 obtain ⟨k1, k2⟩ := k
 obtain ⟨a1, a2⟩ := a
 rw [Bool.eq_iff_iff]
 simp [keyEq, pD]
theorem pkv_find (k : Pr) : ∀ (m : MpP) (i : Nat), (findK (pD k) (pkv m) i = none ∧ pget m k = none ∧ ∀ v : Pr, pkv m ++ [(pD k, pD v)] = pkv (pput m k v)) ∨
  ∃ j v0, findK (pD k) (pkv m) i = some (i + j, pD v0) ∧ pget m k = some v0 ∧ ∀ v : Pr, (pkv m).set j (pD k, pD v) = pkv (pput m k v)
 | [], i => .inl ⟨rfl, rfl, fun v => rfl⟩
 | (a, w) :: r, i => by
  by_cases h : k = a
  ·subst h
   refine .inr ⟨0, w, ?_, by simp [pget], fun v => by simp [pkv, pput]⟩
   simp [pkv, findK, keyEq_p]
  ·rcases pkv_find k r (i + 1) with ⟨h1, h2, h3⟩ | ⟨j, v0, h1, h2, h3⟩
   ·refine .inl ⟨?_, by simp [pget, h, h2], fun v => ?_⟩
    ·simp only [pkv, List.map_cons, findK]
     rw [if_neg (by simp [keyEq_p, h])]
     exact h1
    ·simp only [pput, if_neg h]
     have := h3 v
     simp only [pkv, List.map_cons, List.cons_append] at this ⊢
     rw [this]
   ·refine .inr ⟨j + 1, v0, ?_, by simp [pget, h, h2], fun v => ?_⟩
    ·simp only [pkv, List.map_cons, findK]
     rw [if_neg (by simp [keyEq_p, h])]
     have := h1
     simp only [pkv] at this
     rw [this, show i + 1 + j = i + (j + 1) by omega]
    ·simp only [pput, if_neg h]
     have := h3 v
     simp only [pkv, List.map_cons, List.set_cons_succ] at this ⊢
     rw [this]
section
variable {t kt : TypeId} (hu : P.underlying t = some (.map kt kt)) (hk : ∀ a b : Int, keyFit P kt (.agg [.int .i64 a, .int .i64 b]) = true)
include hk in
theorem p_fits (m : MpP) : ((pkv m).all fun p => keyFit P kt p.1) = true := by
 simp [pkv, pD, hk]
include hu hk
theorem pm_look {h : H} {b : Nat} {m : MpP} (hz : zeroV P kt = some (pD (0, 0))) (hb : hget h b = some (.map (pkv m))) (x y : Int) : lookupD P h t (.mp b) (.agg [.int .i64 x, .int .i64 y]) true =
  some (.tup [.agg [.int .i64 ((pget m (x, y)).getD (0, 0)).1, .int .i64 ((pget m (x, y)).getD (0, 0)).2], .bool (pget m (x, y)).isSome]) := by
 simp only [lookupD, hu, hb, hk, p_fits hk, Bool.and_self, if_true]
 rw [show (.agg [.int .i64 x, .int .i64 y] : D) = pD (x, y) from rfl]
 rcases pkv_find (x, y) m 0 with ⟨h1, h2, _⟩ | ⟨j, v0, h1, h2, _⟩
 ·rw [h1, h2]; simp [lookR, hz, pD]
 ·rw [h1, h2]; simp [lookR, pD]
theorem pm_get {h : H} {b : Nat} {m : MpP} (hz : zeroV P kt = some (pD (0, 0))) (hb : hget h b = some (.map (pkv m))) (x y : Int) : lookupD P h t (.mp b) (.agg [.int .i64 x, .int .i64 y]) false =
  some (.agg [.int .i64 ((pget m (x, y)).getD (0, 0)).1, .int .i64 ((pget m (x, y)).getD (0, 0)).2]) := by
 simp only [lookupD, hu, hb, hk, p_fits hk, Bool.and_self, if_true]
 rw [show (.agg [.int .i64 x, .int .i64 y] : D) = pD (x, y) from rfl]
 rcases pkv_find (x, y) m 0 with ⟨h1, h2, _⟩ | ⟨j, v0, h1, h2, _⟩
 ·rw [h1, h2]; simp [lookR, hz, pD]
 ·rw [h1, h2]; simp [lookR, pD]
theorem pm_put {h : H} {b : Nat} {m : MpP} (hb : hget h b = some (.map (pkv m))) (nid : Nat) (x y u v : Int) :
  mapUpdD P h nid t (.mp b) (.agg [.int .i64 x, .int .i64 y]) (.agg [.int .i64 u, .int .i64 v]) = some (.any, hset h b (.map (pkv (pput m (x, y) (u, v)))), nid) := by
 have hn : D.nm (.agg [.int .i64 u, .int .i64 v]) = true := rfl
 simp only [mapUpdD, hu, hb, hk, p_fits hk, hn, Bool.and_self, if_true]
 rw [show (.agg [.int .i64 x, .int .i64 y] : D) = pD (x, y) from rfl, show (.agg [.int .i64 u, .int .i64 v] : D) = pD (u, v) from rfl]
 rcases pkv_find (x, y) m 0 with ⟨h1, _, h3⟩ | ⟨j, v0, h1, _, h3⟩
 ·rw [h1]
  simp only [h3 (u, v)]
 ·rw [h1]
  simp only [Nat.zero_add, h3 (u, v)]
end
theorem pkv_lt (k : Nat) : ∀ m : MpP, D.ltL k ((pkv m).map (·.2)) = true
 | [] => rfl
 | p :: m => by
  have := pkv_lt k m
  simp only [pkv, List.map_cons, D.ltL, pD, D.lt, Bool.true_and, Bool.and_true] at this ⊢
  exact this

theorem or_i64 {a b : Nat} (ha : a < 2 ^ 62) (hb : b < 2 ^ 62) : IntKind.i64.wrap ((BitVec.ofInt 64 (a : Int) ||| BitVec.ofInt 64 (b : Int)).toNat : Int) = ((a ||| b : Nat) : Int) := by
 have h1 : (BitVec.ofInt 64 (a : Int) ||| BitVec.ofInt 64 (b : Int)).toNat = a ||| b := by
  rw [BitVec.toNat_or, BitVec.toNat_ofInt, BitVec.toNat_ofInt]
  have e1 : ((a : Int) % ((2 ^ 64 : Nat) : Int)).toNat = a := by omega
  have e2 : ((b : Int) % ((2 ^ 64 : Nat) : Int)).toNat = b := by omega
  rw [e1, e2]
 rw [h1]
 have h2 : a ||| b < 2 ^ 62 := Nat.or_lt_two_pow ha hb
 exact wrap_i64 (by omega) (by omega)
end Go.Sx

/- Sx: regions that keep the text's order, literals of slices taken as data. Own work. -/
namespace Go.Sx
variable {P : Program} {n0 : Nat} {ro : Option Nat}
theorem opOk_ostep {o : Oper} {s : St} {K : St → Prop} {d : D} {h' : H} {nid' : Nat} (h : OStep P false o s d h' nid') (hK : K (St.put ⟨s.env, h', nid', s.n⟩ o.dst d)) : OpOk P n0 ro o s K := by
 unfold OStep at h
 cases hk : dkind false o.op with
 | quiet =>
  rw [hk] at h
  obtain ⟨h1, rfl, rfl⟩ := h
  exact opOk_quiet h1 hK
 | call =>
  rw [hk] at h
  obtain ⟨h1, rfl, rfl⟩ := h
  unfold callQC at h1
  split at h1
  ·rename_i c hop
   split at h1
   ·rename_i f ds hcal
    exact opOk_qc hop hcal h1 hK
   ·exact h1.elim
  ·exact h1.elim
 | eff =>
  rw [hk] at h
  exact opOk_eff h hK
 | float =>
  exfalso
  unfold dkind at hk
  split at hk
  ·simp at hk
  all_goals first | cases hk | (split at hk <;> cases hk)
theorem aops_data {O : Oracle} (hO : OkO P O) {ops : Array Oper} : ∀ (l : List Oper) (i : Nat) (s : St) (K : St → Prop), (∀ j, l[j]? = ops[i + j]?) → phK P O ops false false l s [] [] (fun s' _ _ => K s') → AOps P n0 ro ops ((List.range l.length).map (i + ·)) s K
 | [], i, s, K, _, h => aops_nil h
 | o :: rest, i, s, K, hl, h => by
  have ho : ops[i]? = some o := by have := hl 0; simpa using this.symm
  have hrest : ∀ j, rest[j]? = ops[i + 1 + j]? := fun j => by have := hl (j + 1); simp at this; rw [this]; congr 1; omega
  have hmap : (List.range (o :: rest).length).map (i + ·) = i :: (List.range rest.length).map (i + 1 + ·) := by
   rw [List.length_cons, List.range_succ_eq_map, List.map_cons, List.map_map]
   simp only [Nat.add_zero, List.cons.injEq, true_and]
   apply List.map_congr_left
   intro a _
   simp only [Function.comp]; omega
  rw [hmap]
  simp only [phK] at h
  split at h
  ·rename_i hg
   obtain ⟨d, h', nid', hs1, hk⟩ := ostep_resK hO (s := s) h
   exact aops_cons ho hg (opOk_ostep hs1 (aops_data hO rest (i + 1) _ K hrest hk))
  ·rename_i j want hg
   split at h
   ·rename_i t hj
    split at h
    ·rename_i b hb
     refine aops_guard ho hg hj hb (fun e => ?_) (fun e => ?_)
     ·have h := h.1 (by subst e; simp)
      obtain ⟨d, h', nid', hs1, hk⟩ := ostep_resK hO (s := { s with env := (t, .bool want) :: s.env }) h
      exact opOk_ostep hs1 (aops_data hO rest (i + 1) _ K hrest hk)
     ·exact aops_data hO rest (i + 1) _ K hrest (h.2 (by subst e; cases want <;> rfl))
    ·rename_i hb
     exact aops_off ho hg hj hb (aops_data hO rest (i + 1) _ K hrest h)
    ·exact h.elim
   ·exact h.elim
theorem awp_regionD {O : Oracle} (hO : OkO P O) {id : Nat} {l : List Oper} {s : St} {Q : Ex → St → Prop} (h : phK P O l.toArray false false l s [] [] (fun s' _ _ => Q .normal s')) : AWp P n0 ro (.region id l.toArray false) s Q := by
 refine awp_region ?_
 have := aops_data (n0 := n0) (ro := ro) hO (ops := l.toArray) l 0 s _ (fun j => by simp) h
 simpa using this
end Go.Sx
