/- Own work: a calculus of contracts for the programs of this kit: parts SxZ22, SxZ23, SxZ24, SxZ25. -/
import Derived.Test.YtaifjmjooapmhaaGreatSxMh
import Derived.Maps.Own
import Derived.Lib.SlKeysI
import Derived.Lib.SlMapMerge
import Derived.RangeFuncGives
import Derived.Laws.AppendOwn
import Derived.Below
set_option linter.unusedVariables false
set_option linter.unusedSimpArgs false
namespace Go.Sx
open Go.Maps Go.WideShapes Go.MapKept
open Go.WideElems (Fit rd rg)
variable {P : Program}

theorem perm_lift {α β : Type} {f : α → β} {l1 l2 : List β} (h : l1.Perm l2) : ∀ l : List α, l.map f = l1 → ∃ l' : List α, l'.Perm l ∧ l'.map f = l2 := by
 induction h with
 | nil => intro l hl; exact ⟨l, .refl _, hl⟩
 | cons x hp ih =>
  intro l hl
  cases l with
  | nil => simp at hl
  | cons a l =>
   simp only [List.map_cons, List.cons.injEq] at hl
   obtain ⟨l', p1, p2⟩ := ih l hl.2
   exact ⟨a :: l', p1.cons a, by simp [hl.1, p2]⟩
 | swap x y l0 =>
  intro l hl
  match l, hl with
  | [], hl => simp at hl
  | [_], hl => simp at hl
  | a :: b :: l, hl =>
   simp only [List.map_cons, List.cons.injEq] at hl
   exact ⟨b :: a :: l, List.Perm.swap _ _ _, by simp [hl.1, hl.2.1, hl.2.2]⟩
 | trans _ _ ih1 ih2 =>
  intro l hl
  obtain ⟨l1, a1, a2⟩ := ih1 l hl
  obtain ⟨l2, b1, b2⟩ := ih2 l1 a2
  exact ⟨l2, b1.trans a1, b2⟩

abbrev MpB := MpG Bool
abbrev bkv (m : MpB) : List (D × D) := gkv D.bool m
def pv (m : MpB) : List (Value × Value) := m.map fun p => (.int .i64 p.1, .bool p.2)
abbrev gnd {β : Type} (m : MpG β) : Prop := (m.map (·.1)).Nodup
def MapAt (w : World) (b : Nat) (l : List (Value × Value)) : Prop :=
 ∃ (es : List MapEntry) (clock : Nat), w.heap[b]? = some (.map (List.toArray es) clock) ∧ (∀ x ∈ es, x.born < clock) ∧ (es.map (·.born)).Nodup ∧ (es.map fun e => (e.key, e.val)).Perm l

theorem gkv_fst {β : Type} (vd : β → D) (m : MpG β) : (gkv vd m).map (·.1) = m.map fun p => D.int .i64 p.1 := by simp [gkv, Function.comp_def]
theorem gkv_snd {β : Type} (vd : β → D) (m : MpG β) : (gkv vd m).map (·.2) = m.map fun p => vd p.2 := by simp [gkv, Function.comp_def]
theorem keysOk_of {β : Type} (vd : β → D) : ∀ {m : MpG β}, gnd m → keysOk ((gkv vd m).map (·.1)) = true
 | [], _ => rfl
 | p :: m, h => by
  rw [gnd, List.map_cons, List.nodup_cons] at h
  simp only [gkv, List.map_cons, keysOk, Bool.and_eq_true, keyOne, true_and]
  refine ⟨List.all_eq_true.2 fun d hd => ?_, keysOk_of vd h.2⟩
  simp only [List.map_map, List.mem_map, Function.comp_def] at hd
  obtain ⟨q, hq, rfl⟩ := hd
  have : ¬ p.1 = q.1 := fun e => h.1 (List.mem_map.2 ⟨q, hq, e.symm⟩)
  simp [keyNe, this]
theorem nmL_bools (m : MpB) : D.nmL ((bkv m).map (·.2)) = true := by
 rw [gkv_snd]; exact D.nmL_iff.2 fun d hd => by obtain ⟨p, _, rfl⟩ := List.mem_map.1 hd; rfl
theorem relL_map {R : Rx} {n : Nat} {β : Type} {f : β → Value} {g : β → D} (h : ∀ x, Rel R n (f x) (g x)) (m : List β) : RelL R n (m.map f) (m.map g) :=
 ⟨by simp, fun i v d a b => by
  rw [List.getElem?_map] at a b
  cases hx : m[i]? with
  | none => simp [hx] at a
  | some x => simp [hx] at a b; subst a; subst b; exact h x⟩
theorem MapAt.blk {X : Nat → Prop} {k : Cx} {id : Nat} {m : MpB} (h : MapAt k.w (k.β id) (pv m)) (hn : gnd m) : BlkOk X k id (.map (bkv m)) := by
 obtain ⟨es, clock, h1, h2, h3, h4⟩ := h
 obtain ⟨es', p1, p2⟩ := perm_lift h4 es rfl
 have pk : es'.map (·.key) = m.map fun p => Value.int .i64 p.1 := by
  have := congrArg (List.map Prod.fst) p2
  simpa [pv, Function.comp_def] using this
 have pw : es'.map (·.val) = m.map fun p => Value.bool p.2 := by
  have := congrArg (List.map Prod.snd) p2
  simpa [pv, Function.comp_def] using this
 refine ⟨es, clock, es', h1, ⟨p1, h2, h3⟩, keysOk_of _ hn, nmL_bools m, ?_, ?_⟩
 ·rw [gkv_fst, pk]; exact relL_map (fun p => .int _ _ _) m
 ·rw [gkv_snd, pw]; exact relL_map (fun p => .bool _ _) m

section
variable {kt et : TypeId} (hk : P.underlying kt = some (.int .i64)) (he : P.underlying et = some .bool)
include hk he in
include hk he in
include hk he in
end

end Go.Sx

/- Sx: calls that hand out maps, or turn them. Own work. -/
namespace Go.Sx
open Go.Maps
open Go.RowKit (Below)
variable {P : Program} {X : Nat → Prop} {n0 : Nat} {ro : Option Nat}

def MapArg (h : H) (y : D) (kvs : List (D × D)) : Prop := y = .mpd kvs ∨ ∃ b, y = .mp b ∧ hget h b = some (.map kvs)
theorem MapArg.inv {k : Cx} (hg : Good X k) {y : D} {kvs : List (D × D)} (hy : MapArg k.h y kvs) {n : Nat} (hn : n = k.nid) {v : Value} (hr : Rel (k.R X) n v y) :
  ∃ c es clock es', v = .map (some c) ∧ c < k.w.heap.size ∧ k.w.heap[c]? = some (.map (List.toArray es) clock) ∧ Lays es' es clock ∧ keysOk (kvs.map (·.1)) = true ∧ D.nmL (kvs.map (·.2)) = true ∧
   RelL (k.R X) 0 (es'.map (·.key)) (kvs.map (·.1)) ∧ RelL (k.R X) k.nid (es'.map (·.val)) (kvs.map (·.2)) ∧ (¬ k.Mut c ∨ ∃ b, y = .mp b ∧ c = k.β b ∧ hget k.h b = some (.map kvs)) := by
 subst hn
 rcases hy with rfl | ⟨b, rfl, hb⟩
 ·cases hr with
  | mpd _ b _ es es' c h2 h3 h4 h5 h6 h7 h8 h9 =>
   exact ⟨b, es, c, es', rfl, h2.1, h3, h4, h5, h9, ⟨by simpa using h6, h7⟩, ⟨by simpa using h6, fun i v d x y => (h8 i v d x y).weak (Nat.zero_le _)⟩, .inl h2.2.2⟩
 ·cases hr with
  | mp _ _ hlt =>
   obtain ⟨es, c, es', a1, a2, a3, a4, a5, a6⟩ := hg.ok b _ hb
   have hown : k.own b = some (k.β b) := by rw [own_of_hget hb]; rfl
   exact ⟨k.β b, es, c, es', rfl, (hg.lt b _ hown).1, a1, a2, a3, a4, a5, a6, .inr ⟨b, rfl, rfl, hb⟩⟩

end Go.Sx

/- Sx: a statement, and what is kept behind it, own memory moved. Own work. -/
namespace Go.Sx
variable {P : Program} {O : Oracle} {n0 : Nat} {ro : Option Nat} {T : List (Nat × List Ann)}
end Go.Sx

/- Sx: regions that draw their order: runs kept by what holds of the operations that have run; operations taken first; operations with a law of their own. Own work. -/
namespace Go.Sx
variable {P : Program} {n0 : Nat} {ro : Option Nat}
theorem lt_of_arr {α : Type} {a : Array α} {i : Nat} {x : α} (h : a[i]? = some x) : i < a.size := by
 rcases Nat.lt_or_ge i a.size with h' | h'
 ·exact h'
 ·rw [Array.getElem?_eq_none h'] at h; cases h
theorem ran_lt {listed : Array Bool} {j : Nat} (h : Ran listed j) : j < listed.size := by
 rcases Nat.lt_or_ge j listed.size with h' | h'
 ·exact h'
 ·simp [Ran, Array.getD_eq_getD_getElem?, Array.getElem?_eq_none h'] at h
theorem ran_all {ops : Array Oper} {listed : Array Bool} (hb : Back ops) (hs : listed.size = ops.size) (hnil : Region.ready .any ops listed = []) : ∀ i, i < ops.size → Ran listed i := by
 intro i
 induction i using Nat.strongRecOn with
 | _ i ih =>
  intro hi
  refine Classical.byContradiction fun hn => ?_
  have hoi : ops[i]? = some ops[i] := by simp [hi]
  have hm : i ∈ Region.ready .any ops listed := (mem_ready hs).2 ⟨ops[i], hoi, hn, fun j hj => ih j (hb i _ hoi j hj) (Nat.lt_trans (hb i _ hoi j hj) hi)⟩
  rw [hnil] at hm; cases hm
theorem awp_graph (hm : P.follows .mixedOrders = true) {id : Nat} {ops : Array Oper} {s : St} {Q : Ex → St → Prop} (hbk : backOk ops = true) (J : (Nat → Prop) → St → Prop) (h0 : J (fun _ => False) s)
  (hstep : ∀ (L : Nat → Prop) (s : St) (i : Nat) (o : Oper), J L s → (∀ a j, L a → bef (masks ops) j a = true → L j) → ops[i]? = some o → ¬ L i → (∀ j ∈ bnd o, L j) → o.guard = none ∧ OpOk P n0 ro o s (fun s' => J (fun j => j = i ∨ L j) s'))
  (hend : ∀ (L : Nat → Prop) (s : St), J L s → (∀ i, i < ops.size → L i) → Q .normal s) : AWp P n0 ro (.region id ops true) s Q := by
 have hb := back_of hbk
 intro X k0 k a hn hat
 refine wpIn_region_any hm ?_
 have hle : Le k { k with w := { k.w with drawn := k.w.drawn + 1 } } := le_world rfl rfl rfl (Nat.le_refl _) fun _ _ => rfl
 have hat' : At X k0 { k with w := { k.w with drawn := k.w.drawn + 1 } } a s := ⟨hat.h, hat.nid, hat.good.world hle fun _ _ => rfl, hat.le.trans hle, hat.act.le hat.good hle⟩
 have key : ∀ (fuel : Nat) (listed : Array Bool) (k : Cx) (a : Act) (s : St), listed.size = ops.size → (∀ i o, ops[i]? = some o → Ran listed i → ∀ j ∈ bnd o, Ran listed j) → J (fun i => i < ops.size ∧ Ran listed i) s → At X k0 k a s → unl (fun i => listed.getD i true) ops.size ≤ fuel → wpAnyIn (FW ro) 0 P .any ops (Post X k0 Q) fuel listed a k.w := by
  intro fuel
  induction fuel with
  | zero =>
   intro listed k a s hs hcl hJ hat hf
   have hall : ∀ i, i < ops.size → Ran listed i := fun i hi => by
    cases hg : listed.getD i true with
    | true =>
     have hlt : i < listed.size := by rw [hs]; exact hi
     simp only [Ran, Array.getD_eq_getD_getElem?, Array.getElem?_eq_getElem hlt] at hg ⊢
     simpa using hg
    | false => have := unl_pos (f := fun i => listed.getD i true) hi hg; omega
   refine ⟨?_, .normal, k, s, rfl, rfl, hend _ s hJ fun i hi => ⟨hi, hall i hi⟩, hat⟩
   cases hq : Region.ready .any ops listed with
   | nil => rfl
   | cons i r =>
    have hi : i ∈ Region.ready .any ops listed := by rw [hq]; simp
    obtain ⟨o, ho, hnr, _⟩ := (mem_ready hs).1 hi
    exact absurd (hall i (lt_of_arr ho)) hnr
  | succ fuel ih =>
   intro listed k a s hs hcl hJ hat hf
   refine ⟨fun hnil => ?_, fun i hi => ?_⟩
   ·refine ⟨.normal, k, s, rfl, rfl, hend _ s hJ fun i hi => ⟨hi, ?_⟩, hat⟩
    exact ran_all hb hs hnil i hi
   ·obtain ⟨o, ho, hnr, hr⟩ := (mem_ready hs).1 hi
    have hilt : i < ops.size := lt_of_arr ho
    have hsz : i < listed.size := by rw [hs]; exact hilt
    have hfuel : unl (fun j => (listed.setIfInBounds i true).getD j true) ops.size ≤ fuel := by
     have hs := (unl_set (f := fun j => listed.getD j true) (g := fun j => (listed.setIfInBounds i true).getD j true) (i := i) (by
      simp only [Ran, Array.getD_eq_getD_getElem?, Array.getElem?_eq_getElem hsz] at hnr ⊢
      simpa using hnr) (by simp [Array.getD_eq_getD_getElem?, Array.getElem?_setIfInBounds_self_of_lt hsz]) (fun j hj => by
      simp only [Array.getD_eq_getD_getElem?, Array.getElem?_setIfInBounds_ne (Ne.symm hj)]) ops.size).2 hilt
     omega
    obtain ⟨hg, hok⟩ := hstep _ s i o hJ (fun a j ha hj => by
     have hoa : ops[a]? = some ops[a] := by simp [ha.1]
     have := bef_sound hb hcl a _ hoa (hcl a _ hoa ha.2) j hj
     exact ⟨by have := ran_lt this; omega, this⟩) ho (fun h => hnr h.2) fun j hj => ⟨by have := ran_lt (hr j hj); omega, hr j hj⟩
    have hw : Region.wanted o (yielded ops a.tmps) = true := by unfold Region.wanted; rw [hg]
    simp only [wpOpIn, ho, hw, if_true]
    refine hok X k0 k a _ _ hn hat fun k' a' s' hJ' hat' hle _ => ih _ k' a' s' (by simpa using hs) (fun j oj hj hran x hx => by
     rcases (ran_set hsz).1 hran with rfl | hran
     ·rw [ho] at hj; cases hj; exact (ran_set hsz).2 (.inr (hr x hx))
     ·exact (ran_set hsz).2 (.inr (hcl j oj hj hran x hx))) ?_ hat' hfuel
    have e : (fun j => j < ops.size ∧ Ran (listed.setIfInBounds i true) j) = fun j => j = i ∨ (j < ops.size ∧ Ran listed j) := funext fun j => propext (by
     rw [ran_set hsz]
     constructor
     ·rintro ⟨h1, h2 | h2⟩
      ·exact .inl h2
      ·exact .inr ⟨h1, h2⟩
     ·rintro (rfl | ⟨h1, h2⟩)
      ·exact ⟨hilt, .inl rfl⟩
      ·exact ⟨h1, .inr h2⟩)
    rw [e]; exact hJ'
 refine key ops.size _ _ a s (by simp) (fun i o ho h => by
  have := ran_lt h
  simp only [Array.size_replicate] at this
  simp [Ran, Array.getD_eq_getD_getElem?, this] at h) ?_ hat' (unl_le _ _)
 have e : (fun i => i < ops.size ∧ Ran (Array.replicate ops.size false) i) = fun _ => False := funext fun i => propext ⟨fun h => by
  have := h.2
  simp [Ran, Array.getD_eq_getD_getElem?, h.1] at this, fun h => h.elim⟩
 rw [e]; exact h0

def dstOk (ops : Array Oper) (n : Nat) : Bool := decide (ops.toList.filterMap (·.dst)).Nodup && (ops.toList.filterMap (·.dst)).all fun t => Nat.blt t n
theorem nodup_fm {α β : Type} (f : α → Option β) : ∀ {l : List α}, (l.filterMap f).Nodup → ∀ (i j : Nat) (x y : α) (t : β), l[i]? = some x → l[j]? = some y → f x = some t → f y = some t → i = j
 | [], _, i, j, x, y, t, h, _, _, _ => by simp at h
 | a :: l, hn, i, j, x, y, t, hx, hy, fx, fy => by
  have hin : ∀ {k : Nat} {z : α}, l[k]? = some z → f z = some t → t ∈ l.filterMap f := fun h hz => List.mem_filterMap.2 ⟨_, List.mem_of_getElem? h, hz⟩
  cases hfa : f a with
  | none =>
   rw [List.filterMap_cons, hfa] at hn
   cases i with
   | zero => simp at hx; subst hx; rw [hfa] at fx; cases fx
   | succ i =>
    cases j with
    | zero => simp at hy; subst hy; rw [hfa] at fy; cases fy
    | succ j => rw [nodup_fm f hn i j x y t (by simpa using hx) (by simpa using hy) fx fy]
  | some u =>
   rw [List.filterMap_cons, hfa] at hn
   have hn := List.nodup_cons.1 hn
   cases i with
   | zero =>
    simp at hx; subst hx; rw [hfa] at fx; cases fx
    cases j with
    | zero => rfl
    | succ j => exact absurd (hin (by simpa using hy) fy) hn.1
   | succ i =>
    cases j with
    | zero => simp at hy; subst hy; rw [hfa] at fy; cases fy; exact absurd (hin (by simpa using hx) fx) hn.1
    | succ j => rw [nodup_fm f hn.2 i j x y t (by simpa using hx) (by simpa using hy) fx fy]
structure Slots (ops : Array Oper) (base : Env) (L : Nat → Prop) (val : Nat → D) (e : Env) : Prop where
 old : ∀ t, (∀ (j : Nat) o', ops[j]? = some o' → o'.dst ≠ some t) → look e t = look base t
 new : ∀ (j : Nat) o' t, ops[j]? = some o' → L j → o'.dst = some t → look e t = val j
theorem Slots.base {ops : Array Oper} {b : Env} {L : Nat → Prop} {val : Nat → D} {e : Env} (h : Slots ops b L val e) (t : Nat) (ht : (ops.toList.all fun o => match o.dst with | some u => !(Nat.beq u t) | none => true) = true) : look e t = look b t :=
 h.old t fun j o' ho hd => by
  have := List.all_eq_true.1 ht o' (List.mem_of_getElem? (by simpa using ho))
  rw [hd] at this; simp at this
theorem awp_slots {O : Oracle} (hO : OkO P O) (hm : P.follows .mixedOrders = true) {id : Nat} {ops : Array Oper} {s : St} {Q : Ex → St → Prop} {σ : Type} (ok : σ → (Nat → Prop) → Prop) (hh : σ → H) (nn : σ → Nat) (val : σ → Nat → D) (m0 : σ)
  (hbk : backOk ops = true) (hd : dstOk ops s.n = true) (h1 : s.h = hh m0) (h2 : s.nid = nn m0) (h0 : ok m0 (fun _ => False))
  (hop : ∀ (m : σ) (L : Nat → Prop) (i : Nat) (o : Oper) (e : Env), ok m L → (∀ a j, L a → bef (masks ops) j a = true → L j) → ops[i]? = some o → ¬ L i → (∀ j ∈ bnd o, L j) → Slots ops s.env L (val m) e →
   o.guard = none ∧ resK P O false false o.op e (hh m) (nn m) fun d h' nid' => ∃ m', ok m' (fun j => j = i ∨ L j) ∧ (∀ j, L j → val m' j = val m j) ∧ d = val m' i ∧ h' = hh m' ∧ nid' = nn m')
  (hend : ∀ (m : σ) (L : Nat → Prop) (e : Env), ok m L → (∀ i, i < ops.size → L i) → Slots ops s.env L (val m) e → Q .normal ⟨e, hh m, nn m, s.n⟩) : AWp P n0 ro (.region id ops true) s Q := by
 simp only [dstOk, Bool.and_eq_true, decide_eq_true_eq] at hd
 have huniq := fun (i j : Nat) x y (t : Nat) (hx : ops[i]? = some x) (hy : ops[j]? = some y) (a : x.dst = some t) (b : y.dst = some t) => nodup_fm (·.dst) hd.1 i j x y t (by simpa using hx) (by simpa using hy) a b
 have hlt : ∀ (i : Nat) x (t : Nat), ops[i]? = some x → x.dst = some t → t < s.n := fun i x t hx ht => by
  have := List.all_eq_true.1 hd.2 t (List.mem_filterMap.2 ⟨x, List.mem_of_getElem? (by simpa using hx), ht⟩)
  exact Nat.le_of_ble_eq_true this
 refine awp_graph hm hbk (fun L s' => ∃ m e, s' = ⟨e, hh m, nn m, s.n⟩ ∧ ok m L ∧ Slots ops s.env L (val m) e) ⟨m0, s.env, by rw [← h1, ← h2], h0, ⟨fun _ _ => rfl, fun _ _ _ _ h => h.elim⟩⟩ ?_ ?_
 ·rintro L _ i o ⟨m, e, rfl, hok, hsl⟩ hcl ho hnr hr
  obtain ⟨hg, hres⟩ := hop m L i o e hok hcl ho hnr hr hsl
  refine ⟨hg, opOk_resK hO (s := ⟨e, hh m, nn m, s.n⟩) hres ?_⟩
  rintro d h' nid' ⟨m', hok', hext, rfl, rfl, rfl⟩
  refine ⟨m', (St.put ⟨e, hh m', nn m', s.n⟩ o.dst (val m' i)).env, ?_, hok', ⟨fun t ht => ?_, fun j o' t hj hL ht => ?_⟩⟩
  ·have e1 := put_h ⟨e, hh m', nn m', s.n⟩ o.dst (val m' i)
   have e2 := put_nid ⟨e, hh m', nn m', s.n⟩ o.dst (val m' i)
   have e3 := put_n ⟨e, hh m', nn m', s.n⟩ o.dst (val m' i)
   generalize St.put ⟨e, hh m', nn m', s.n⟩ o.dst (val m' i) = z at *
   obtain ⟨a, b, c, d⟩ := z
   simp only at e1 e2 e3
   rw [e1, e2, e3]
  ·rw [look_put, if_neg fun h => ht i o ho h.1]
   exact hsl.old t ht
  ·rw [look_put]
   by_cases hji : j = i
   ·subst hji
    rw [ho] at hj; cases hj
    rw [if_pos ⟨ht, hlt j o t ho ht⟩]
   ·rw [if_neg fun h => hji (huniq j i o' o t hj ho ht h.1)]
    rcases hL with hL | hL
    ·exact absurd hL hji
    ·rw [hext j hL]; exact hsl.new j o' t hj hL ht
 ·rintro L _ ⟨m, e, rfl, hok, hsl⟩ hall
  exact hend m L e hok hall hsl
theorem acall_of_pieces {O : Oracle} {f : FuncId} {fn : Func} {c : Code} {ds : List D} {h : H} {nid : Nat} {Q : D → H → Nat → Prop} {rs : List ResultVar} {m : Nat} (T : List (Nat × List Ann)) (hO : OkO P O) (hm : P.follows .mixedOrders = true) (hf : P.funcs[f]? = some fn) (hb : fn.body = some c) (hcal : callable P f = true)
  (hrs : fn.results.toList = rs) (hn : ds.length + (fn.ntmps - ds.length) = m) (ht : tabOk T c = true) (hw : AWp P nid none c ⟨argEnv 0 ds, h, nid, m⟩ (endK P rs Q)) : ACall P f ds h nid Q :=
 acall_of_awp hf hb hcal (awp_mono (by rw [hn]; exact hw) fun e s hq => endQ_of hrs hq)
theorem awp_cutA (e : Env) (hh : H) (nid n : Nat) {x y : Code} {s : St} {Q : Ex → St → Prop} (h : AWp P n0 ro x s (thenQ (fun s' => Imp n0 s' ⟨e, hh, nid, n⟩) Q)) (h2 : AWp P n0 ro y ⟨e, hh, nid, n⟩ Q) : AWp P n0 ro (.seq x y) s Q :=
 awp_seq (awp_mono h fun ex s' hs => by
  cases ex with
  | normal => exact awp_imp hs h2
  | exit i => exact hs
  | ret => exact hs)
end Go.Sx
