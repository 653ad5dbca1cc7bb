/- Own work: a calculus of contracts for the programs of this kit: parts SxZ22, SxZ23, SxZ24, SxZ25, SxZ26, SxZ27, SxZ28. -/
import Derived.Test.YtjhoplbdpdbgaaaGreatDoorSxMh
import Derived.Maps.Own
import Derived.Lib.SlKeysI
import Derived.Lib.SlMapMerge
import Derived.RangeFuncGives
import Derived.Laws.AppendOwn
import Derived.Below
set_option linter.unusedVariables false
set_option linter.unusedSimpArgs false
namespace Go.Sx
open Go.Maps Go.WideShapes Go.MapKept
open Go.WideElems (Fit rd rg)
variable {P : Program}

theorem perm_lift {α β : Type} {f : α → β} {l1 l2 : List β} (h : l1.Perm l2) : ∀ l : List α, l.map f = l1 → ∃ l' : List α, l'.Perm l ∧ l'.map f = l2 := by
 induction h with
 | nil => intro l hl; exact ⟨l, .refl _, hl⟩
 | cons x hp ih =>
  intro l hl
  cases l with
  | nil => simp at hl
  | cons a l =>
   simp only [List.map_cons, List.cons.injEq] at hl
   obtain ⟨l', p1, p2⟩ := ih l hl.2
   exact ⟨a :: l', p1.cons a, by simp [hl.1, p2]⟩
 | swap x y l0 =>
  intro l hl
  match l, hl with
  | [], hl => simp at hl
  | [_], hl => simp at hl
  | a :: b :: l, hl =>
   simp only [List.map_cons, List.cons.injEq] at hl
   exact ⟨b :: a :: l, List.Perm.swap _ _ _, by simp [hl.1, hl.2.1, hl.2.2]⟩
 | trans _ _ ih1 ih2 =>
  intro l hl
  obtain ⟨l1, a1, a2⟩ := ih1 l hl
  obtain ⟨l2, b1, b2⟩ := ih2 l1 a2
  exact ⟨l2, b1.trans a1, b2⟩

abbrev MpB := MpG Bool
abbrev bkv (m : MpB) : List (D × D) := gkv D.bool m
def pv (m : MpB) : List (Value × Value) := m.map fun p => (.int .i64 p.1, .bool p.2)
abbrev gnd {β : Type} (m : MpG β) : Prop := (m.map (·.1)).Nodup
def MapAt (w : World) (b : Nat) (l : List (Value × Value)) : Prop :=
 ∃ (es : List MapEntry) (clock : Nat), w.heap[b]? = some (.map (List.toArray es) clock) ∧ (∀ x ∈ es, x.born < clock) ∧ (es.map (·.born)).Nodup ∧ (es.map fun e => (e.key, e.val)).Perm l

theorem gkv_fst {β : Type} (vd : β → D) (m : MpG β) : (gkv vd m).map (·.1) = m.map fun p => D.int .i64 p.1 := by simp [gkv, Function.comp_def]
theorem gkv_snd {β : Type} (vd : β → D) (m : MpG β) : (gkv vd m).map (·.2) = m.map fun p => vd p.2 := by simp [gkv, Function.comp_def]
theorem keysOk_of {β : Type} (vd : β → D) : ∀ {m : MpG β}, gnd m → keysOk ((gkv vd m).map (·.1)) = true
 | [], _ => rfl
 | p :: m, h => by
  rw [gnd, List.map_cons, List.nodup_cons] at h
  simp only [gkv, List.map_cons, keysOk, Bool.and_eq_true, keyOne, true_and]
  refine ⟨List.all_eq_true.2 fun d hd => ?_, keysOk_of vd h.2⟩
  simp only [List.map_map, List.mem_map, Function.comp_def] at hd
  obtain ⟨q, hq, rfl⟩ := hd
  have : ¬ p.1 = q.1 := fun e => h.1 (List.mem_map.2 ⟨q, hq, e.symm⟩)
  simp [keyNe, this]
theorem nmL_bools (m : MpB) : D.nmL ((bkv m).map (·.2)) = true := by
 rw [gkv_snd]; exact D.nmL_iff.2 fun d hd => by obtain ⟨p, _, rfl⟩ := List.mem_map.1 hd; rfl
theorem relL_map {R : Rx} {n : Nat} {β : Type} {f : β → Value} {g : β → D} (h : ∀ x, Rel R n (f x) (g x)) (m : List β) : RelL R n (m.map f) (m.map g) :=
 ⟨by simp, fun i v d a b => by
  rw [List.getElem?_map] at a b
  cases hx : m[i]? with
  | none => simp [hx] at a
  | some x => simp [hx] at a b; subst a; subst b; exact h x⟩
theorem MapAt.blk {X : Nat → Prop} {k : Cx} {id : Nat} {m : MpB} (h : MapAt k.w (k.β id) (pv m)) (hn : gnd m) : BlkOk X k id (.map (bkv m)) := by
 obtain ⟨es, clock, h1, h2, h3, h4⟩ := h
 obtain ⟨es', p1, p2⟩ := perm_lift h4 es rfl
 have pk : es'.map (·.key) = m.map fun p => Value.int .i64 p.1 := by
  have := congrArg (List.map Prod.fst) p2
  simpa [pv, Function.comp_def] using this
 have pw : es'.map (·.val) = m.map fun p => Value.bool p.2 := by
  have := congrArg (List.map Prod.snd) p2
  simpa [pv, Function.comp_def] using this
 refine ⟨es, clock, es', h1, ⟨p1, h2, h3⟩, keysOk_of _ hn, nmL_bools m, ?_, ?_⟩
 ·rw [gkv_fst, pk]; exact relL_map (fun p => .int _ _ _) m
 ·rw [gkv_snd, pw]; exact relL_map (fun p => .bool _ _) m

section
variable {kt et : TypeId} (hk : P.underlying kt = some (.int .i64)) (he : P.underlying et = some .bool)
include hk he in
include hk he in
include hk he in
end

end Go.Sx

/- Sx: calls that hand out maps, or turn them. Own work. -/
namespace Go.Sx
open Go.Maps
open Go.RowKit (Below)
variable {P : Program} {X : Nat → Prop} {n0 : Nat} {ro : Option Nat}

def MapArg (h : H) (y : D) (kvs : List (D × D)) : Prop := y = .mpd kvs ∨ ∃ b, y = .mp b ∧ hget h b = some (.map kvs)
theorem MapArg.inv {k : Cx} (hg : Good X k) {y : D} {kvs : List (D × D)} (hy : MapArg k.h y kvs) {n : Nat} (hn : n = k.nid) {v : Value} (hr : Rel (k.R X) n v y) :
  ∃ c es clock es', v = .map (some c) ∧ c < k.w.heap.size ∧ k.w.heap[c]? = some (.map (List.toArray es) clock) ∧ Lays es' es clock ∧ keysOk (kvs.map (·.1)) = true ∧ D.nmL (kvs.map (·.2)) = true ∧
   RelL (k.R X) 0 (es'.map (·.key)) (kvs.map (·.1)) ∧ RelL (k.R X) k.nid (es'.map (·.val)) (kvs.map (·.2)) ∧ (¬ k.Mut c ∨ ∃ b, y = .mp b ∧ c = k.β b ∧ hget k.h b = some (.map kvs)) := by
 subst hn
 rcases hy with rfl | ⟨b, rfl, hb⟩
 ·cases hr with
  | mpd _ b _ es es' c h2 h3 h4 h5 h6 h7 h8 h9 =>
   exact ⟨b, es, c, es', rfl, h2.1, h3, h4, h5, h9, ⟨by simpa using h6, h7⟩, ⟨by simpa using h6, fun i v d x y => (h8 i v d x y).weak (Nat.zero_le _)⟩, .inl h2.2.2⟩
 ·cases hr with
  | mp _ _ hlt =>
   obtain ⟨es, c, es', a1, a2, a3, a4, a5, a6⟩ := hg.ok b _ hb
   have hown : k.own b = some (k.β b) := by rw [own_of_hget hb]; rfl
   exact ⟨k.β b, es, c, es', rfl, (hg.lt b _ hown).1, a1, a2, a3, a4, a5, a6, .inr ⟨b, rfl, rfl, hb⟩⟩

end Go.Sx

/- Sx: a statement, and what is kept behind it, own memory moved. Own work. -/
namespace Go.Sx
variable {P : Program} {O : Oracle} {n0 : Nat} {ro : Option Nat} {T : List (Nat × List Ann)}
theorem awp_cutI (hO : OkO P O) (hm : P.follows .mixedOrders = true) (e : Env) (hh : H) (nid n : Nat) {x y : Code} {s : St} {Q : Ex → St → Prop} (ht : tabOk T x = true)
  (h : wc P n0 ro T O x s (thenQ (fun s' => Imp n0 s' ⟨e, hh, nid, n⟩) Q)) (h2 : AWp P n0 ro y ⟨e, hh, nid, n⟩ Q) : AWp P n0 ro (.seq x y) s Q :=
 awp_seq (awp_mono (wc_sound hO hm x s _ ht h) fun ex s' hs => by
  cases ex with
  | normal => exact awp_imp hs h2
  | exit i => exact hs
  | ret => exact hs)
end Go.Sx

/- Sx: regions that draw their order: runs kept by what holds of the operations that have run; operations taken first; operations with a law of their own. Own work. -/
namespace Go.Sx
variable {P : Program} {n0 : Nat} {ro : Option Nat}
theorem lt_of_arr {α : Type} {a : Array α} {i : Nat} {x : α} (h : a[i]? = some x) : i < a.size := by
 rcases Nat.lt_or_ge i a.size with h' | h'
 ·exact h'
 ·rw [Array.getElem?_eq_none h'] at h; cases h
theorem ran_lt {listed : Array Bool} {j : Nat} (h : Ran listed j) : j < listed.size := by
 rcases Nat.lt_or_ge j listed.size with h' | h'
 ·exact h'
 ·simp [Ran, Array.getD_eq_getD_getElem?, Array.getElem?_eq_none h'] at h
theorem ran_all {ops : Array Oper} {listed : Array Bool} (hb : Back ops) (hs : listed.size = ops.size) (hnil : Region.ready .any ops listed = []) : ∀ i, i < ops.size → Ran listed i := by
 intro i
 induction i using Nat.strongRecOn with
 | _ i ih =>
  intro hi
  refine Classical.byContradiction fun hn => ?_
  have hoi : ops[i]? = some ops[i] := by simp [hi]
  have hm : i ∈ Region.ready .any ops listed := (mem_ready hs).2 ⟨ops[i], hoi, hn, fun j hj => ih j (hb i _ hoi j hj) (Nat.lt_trans (hb i _ hoi j hj) hi)⟩
  rw [hnil] at hm; cases hm
def dstOk (ops : Array Oper) (n : Nat) : Bool := decide (ops.toList.filterMap (·.dst)).Nodup && (ops.toList.filterMap (·.dst)).all fun t => Nat.blt t n
theorem nodup_fm {α β : Type} (f : α → Option β) : ∀ {l : List α}, (l.filterMap f).Nodup → ∀ (i j : Nat) (x y : α) (t : β), l[i]? = some x → l[j]? = some y → f x = some t → f y = some t → i = j
 | [], _, i, j, x, y, t, h, _, _, _ => by simp at h
 | a :: l, hn, i, j, x, y, t, hx, hy, fx, fy => by
  have hin : ∀ {k : Nat} {z : α}, l[k]? = some z → f z = some t → t ∈ l.filterMap f := fun h hz => List.mem_filterMap.2 ⟨_, List.mem_of_getElem? h, hz⟩
  cases hfa : f a with
  | none =>
   rw [List.filterMap_cons, hfa] at hn
   cases i with
   | zero => simp at hx; subst hx; rw [hfa] at fx; cases fx
   | succ i =>
    cases j with
    | zero => simp at hy; subst hy; rw [hfa] at fy; cases fy
    | succ j => rw [nodup_fm f hn i j x y t (by simpa using hx) (by simpa using hy) fx fy]
  | some u =>
   rw [List.filterMap_cons, hfa] at hn
   have hn := List.nodup_cons.1 hn
   cases i with
   | zero =>
    simp at hx; subst hx; rw [hfa] at fx; cases fx
    cases j with
    | zero => rfl
    | succ j => exact absurd (hin (by simpa using hy) fy) hn.1
   | succ i =>
    cases j with
    | zero => simp at hy; subst hy; rw [hfa] at fy; cases fy; exact absurd (hin (by simpa using hx) fx) hn.1
    | succ j => rw [nodup_fm f hn.2 i j x y t (by simpa using hx) (by simpa using hy) fx fy]
structure Slots (ops : Array Oper) (base : Env) (L : Nat → Prop) (val : Nat → D) (e : Env) : Prop where
 old : ∀ t, (∀ (j : Nat) o', ops[j]? = some o' → o'.dst ≠ some t) → look e t = look base t
 new : ∀ (j : Nat) o' t, ops[j]? = some o' → L j → o'.dst = some t → look e t = val j
theorem Slots.base {ops : Array Oper} {b : Env} {L : Nat → Prop} {val : Nat → D} {e : Env} (h : Slots ops b L val e) (t : Nat) (ht : (ops.toList.all fun o => match o.dst with | some u => !(Nat.beq u t) | none => true) = true) : look e t = look b t :=
 h.old t fun j o' ho hd => by
  have := List.all_eq_true.1 ht o' (List.mem_of_getElem? (by simpa using ho))
  rw [hd] at this; simp at this
end Go.Sx

/- Sx: an own block gets another id, where slots hold nested data that names neither. Own work. -/
namespace Go.Sx
variable {P : Program} {n0 : Nat} {ro : Option Nat}
section
variable {k : Cx} {i j : Nat} {bi : Blk} (hij : i ≠ j) (hi : hget k.h i = some bi) (hj : hget k.h j = none)
include hij hi hj
end
end Go.Sx

/- Sx: maps from pairs of numbers to pairs of numbers. Own work. -/
namespace Go.Sx
variable {P : Program}
section
variable {t kt : TypeId} (hu : P.underlying t = some (.map kt kt)) (hk : ∀ a b : Int, keyFit P kt (.agg [.int .i64 a, .int .i64 b]) = true)
include hk in
include hu hk
end
end Go.Sx

/- Sx: regions that keep the text's order, literals of slices taken as data. Own work. -/
namespace Go.Sx
variable {P : Program} {n0 : Nat} {ro : Option Nat}
theorem opOk_ostep {o : Oper} {s : St} {K : St → Prop} {d : D} {h' : H} {nid' : Nat} (h : OStep P false o s d h' nid') (hK : K (St.put ⟨s.env, h', nid', s.n⟩ o.dst d)) : OpOk P n0 ro o s K := by
 unfold OStep at h
 cases hk : dkind false o.op with
 | quiet =>
  rw [hk] at h
  obtain ⟨h1, rfl, rfl⟩ := h
  exact opOk_quiet h1 hK
 | call =>
  rw [hk] at h
  obtain ⟨h1, rfl, rfl⟩ := h
  unfold callQC at h1
  split at h1
  ·rename_i c hop
   split at h1
   ·rename_i f ds hcal
    exact opOk_qc hop hcal h1 hK
   ·exact h1.elim
  ·exact h1.elim
 | eff =>
  rw [hk] at h
  exact opOk_eff h hK
 | float =>
  exfalso
  unfold dkind at hk
  split at hk
  ·simp at hk
  all_goals first | cases hk | (split at hk <;> cases hk)
theorem aops_data {O : Oracle} (hO : OkO P O) {ops : Array Oper} : ∀ (l : List Oper) (i : Nat) (s : St) (K : St → Prop), (∀ j, l[j]? = ops[i + j]?) → phK P O ops false false l s [] [] (fun s' _ _ => K s') → AOps P n0 ro ops ((List.range l.length).map (i + ·)) s K
 | [], i, s, K, _, h => aops_nil h
 | o :: rest, i, s, K, hl, h => by
  have ho : ops[i]? = some o := by have := hl 0; simpa using this.symm
  have hrest : ∀ j, rest[j]? = ops[i + 1 + j]? := fun j => by have := hl (j + 1); simp at this; rw [this]; congr 1; omega
  have hmap : (List.range (o :: rest).length).map (i + ·) = i :: (List.range rest.length).map (i + 1 + ·) := by
   rw [List.length_cons, List.range_succ_eq_map, List.map_cons, List.map_map]
   simp only [Nat.add_zero, List.cons.injEq, true_and]
   apply List.map_congr_left
   intro a _
   simp only [Function.comp]; omega
  rw [hmap]
  simp only [phK] at h
  split at h
  ·rename_i hg
   obtain ⟨d, h', nid', hs1, hk⟩ := ostep_resK hO (s := s) h
   exact aops_cons ho hg (opOk_ostep hs1 (aops_data hO rest (i + 1) _ K hrest hk))
  ·rename_i j want hg
   split at h
   ·rename_i t hj
    split at h
    ·rename_i b hb
     refine aops_guard ho hg hj hb (fun e => ?_) (fun e => ?_)
     ·have h := h.1 (by subst e; simp)
      obtain ⟨d, h', nid', hs1, hk⟩ := ostep_resK hO (s := { s with env := (t, .bool want) :: s.env }) h
      exact opOk_ostep hs1 (aops_data hO rest (i + 1) _ K hrest hk)
     ·exact aops_data hO rest (i + 1) _ K hrest (h.2 (by subst e; cases want <;> rfl))
    ·rename_i hb
     exact aops_off ho hg hj hb (aops_data hO rest (i + 1) _ K hrest h)
    ·exact h.elim
   ·exact h.elim
theorem awp_regionD {O : Oracle} (hO : OkO P O) {id : Nat} {l : List Oper} {s : St} {Q : Ex → St → Prop} (h : phK P O l.toArray false false l s [] [] (fun s' _ _ => Q .normal s')) : AWp P n0 ro (.region id l.toArray false) s Q := by
 refine awp_region ?_
 have := aops_data (n0 := n0) (ro := ro) hO (ops := l.toArray) l 0 s _ (fun j => by simp) h
 simpa using this
end Go.Sx
