/- Sx: iterators that hold boxes between two yields. Own work. -/
import Derived.Test.YtaifjmjooapmhaaGreatSxMh
set_option linter.unusedVariables false
set_option linter.unusedSimpArgs false
namespace Go.Sx
section
variable {α : Type} {P : Program} {S0 : Nat → Prop} {JJ : List α × Bool → World → Prop} {O : Oracle}

def AWk (P : Program) (S0 : Nat → Prop) (JJ : List α × Bool → World → Prop) (s0 : St) (ws : List Tmp) (c : Code) (s : St) (g : List α × Bool) (Q : Ex → St → List α × Bool → Prop) : Prop :=
 ∀ a0 W a k, AtP (SG S0 g) a0 s0 W → JJ g W → At (NS (SG S0 g) W) (K0 W) k a s → KeptW ws a0 a → c.wpIn (FW none) 0 P (fun e a' w' => ∃ x s' g', exOf e = some x ∧ Q x s' g' ∧ AtP (SG S0 g') a' s' w' ∧ JJ g' w') a k.w
theorem awk_of {c : Code} {s : St} {g : List α × Bool} {Q : Ex → St → List α × Bool → Prop} (h : AWk P S0 JJ s [] c s g Q) : AWj P S0 JJ c s g Q := fun a W ha hj => h a W a (K0 W) ha hj ha.at_ (.refl _ _)
theorem awk_piece (hO : OkO P O) (hm : P.follows .mixedOrders = true) (T : List (Nat × List Ann)) {s0 s : St} {ws : List Tmp} {x y : Code} {g : List α × Bool} {Q : Ex → St → List α × Bool → Prop} (hp : plainC T x = true) (ht : tabOk T x = true)
  (h : wc P 0 none T O x s (thenQ (fun s' => AWk P S0 JJ s0 (ws ++ wrs x) y s' g Q) fun _ _ => False)) : AWk P S0 JJ s0 ws (.seq x y) s g Q := fun a0 W a k ha hj hat hk =>
 wpIn_seq (wpIn_mono (wd_sound (n0 := 0) (ro := none) hO hm x s _ hp ht h (NS (SG S0 g) W) (K0 W) k a rfl hat) fun e a' w' ⟨x', k', s', h1, h2, h3, hat', hk'⟩ => by
  subst h2
  cases e <;> simp only [exOf, Option.some.injEq, reduceCtorEq] at h1 <;> subst h1
  ·exact h3 a0 W a' k' ha hj hat' ((hk.mono fun t ht => List.mem_append_left _ ht).trans (hk'.mono fun t ht => List.mem_append_right _ ht))
  ·exact h3.elim
  ·exact h3.elim)
theorem awk_region (hO : OkO P O) (hJ : ∀ g W W', JJ g W → W.grownBy W' none → JJ g W') {dsf : α → List D} {encs : α → Array Value} {N l : Nat} (henc : ∀ (R : Rx) (n : Nat) vs x, RelL R n vs (dsf x) → vs = (encs x).toList)
  (hY : ∀ pre x W1, JJ (pre, false) W1 → pre.length < N → YieldAt (FW none) 0 P l (encs x) W1 fun e W' => (e = .returned (.bool true) ∧ JJ (pre ++ [x], false) W' ∧ KpS S0 W1 W') ∨ (e = .returned (.bool false) ∧ JJ (pre ++ [x], true) W'))
  {s0 s : St} {ws : List Tmp} {id : Nat} {ops : Array Oper} {c : Code} {g : List α × Bool} {Q : Ex → St → List α × Bool → Prop} (n : Nat) (hn : n ≤ ops.size)
  (h : wcOps P O ops (ops.toList.take n) s fun s' => ∃ s2, weakJ (ws ++ ops.toList.filterMap (·.dst)) s0 s' s2 ∧ yOps P dsf N l (ops.toList.drop n) s2 g fun s3 g3 => AWj P S0 JJ c s3 g3 Q) : AWk P S0 JJ s0 ws (.seq (.region id ops false) c) s g Q := by
 intro a0 W a k ha hj hat hk
 refine wpIn_seq (wpIn_region ?_)
 have hsp : List.range ops.size = (List.range n).map (0 + ·) ++ (List.range (ops.toList.drop n).length).map (n + ·) := by
  rw [List.length_drop, Array.length_toList]
  conv => lhs; rw [show ops.size = n + (ops.size - n) by omega, List.range_add]
  congr 1
  simp
 rw [hsp]
 refine ops_app _ _ _ _ ?_
 have hl : (ops.toList.take n).length = n := by simp; omega
 have hA := wcOps_pre (n0 := 0) (ro := none) hO (ops.toList.take n) 0 s _ (fun j hj => by rw [List.getElem?_take_of_lt (by omega)]; simp) h
 rw [hl] at hA
 refine hA (NS (SG S0 g) W) (K0 W) k a _ rfl hat fun k' a' s' ⟨s2, hw, hy⟩ hat' hkept => ?_
 have hkw : ∀ t, t ∉ ops.toList.filterMap (·.dst) → a'.tmps.getD t undef = a.tmps.getD t undef := (KeptW.of hkept).2
 obtain ⟨hP, hgr⟩ := atP_of ha hat' (hkept.1.trans hk.1) (fun t ht => (hkw t fun x => ht (List.mem_append_right _ x)).trans (hk.2 t fun x => ht (List.mem_append_left _ x))) hw
 exact yOps_sound henc hY (fun a s g W hq hat hj => hq a W hat hj) (ops.toList.drop n) n s2 g k'.w a' (fun j => by rw [List.getElem?_drop]; simp) hy hP (hJ _ _ _ hj hgr)
def yDrawK (P : Program) (O : Oracle) (dsf : α → List D) (N l : Nat) (ops : Array Oper) (len : Nat) (tr : Bool) (re : List (Nat × Nat)) (as : List Ann) (s0 : St) (ws : List Tmp) (s : St) (g : List α × Bool) (K : St → List α × Bool → Prop) : Prop :=
 phK P O ops false tr (ops.toList.take len) s [] (if tr then [s.h] else []) fun s' rows hs => reK P false rows hs re (adoptK P false (ops.toList.take len) s' fun s1 =>
  ∃ s2, weakJ (ws ++ ops.toList.filterMap (·.dst)) s0 s1 s2 ∧ ∃ o, ops.toList[len]? = some o ∧ o.guard = none ∧ ∃ pre x, g = (pre, false) ∧ pre.length < N ∧ yieldOf s2.env o.op = some (l, dsf x) ∧
   (anyK P O ops as (ops.toList.drop (len + 1)) (s2.put o.dst (.bool true)) fun s3 => ∃ s4, weakJ (ops.toList.filterMap (·.dst)) s2 s3 s4 ∧ K s4 (pre ++ [x], false)) ∧
   (anyK P O ops as (ops.toList.drop (len + 1)) ((flS s2).put o.dst (.bool false)) fun s3 => ∃ s4, weakJ (ops.toList.filterMap (·.dst)) (flS s2) s3 s4 ∧ K s4 (pre ++ [x], true)))
theorem awk_draw (hO : OkO P O) (hm : P.follows .mixedOrders = true) (hJ : ∀ g W W', JJ g W → W.grownBy W' none → JJ g W') {dsf : α → List D} {encs : α → Array Value} {N l : Nat} (henc : ∀ (R : Rx) (n : Nat) vs x, RelL R n vs (dsf x) → vs = (encs x).toList)
  (hY : ∀ pre x W1, JJ (pre, false) W1 → pre.length < N → YieldAt (FW none) 0 P l (encs x) W1 fun e W' => (e = .returned (.bool true) ∧ JJ (pre ++ [x], false) W' ∧ KpS S0 W1 W') ∨ (e = .returned (.bool false) ∧ JJ (pre ++ [x], true) W'))
  {s0 : St} {ws : List Tmp} {c : Code} {id : Nat} {ops : Array Oper} (len : Nat) (tr : Bool) (re : List (Nat × Nat)) (as : List Ann) (hann : annOk ops ((len, false, tr, re) :: (1, false, false, []) :: as) = true) {s : St} {g : List α × Bool} {Q : Ex → St → List α × Bool → Prop}
  (h : yDrawK P O dsf N l ops len tr re as s0 ws s g fun s' g' => AWj P S0 JJ c s' g' Q) : AWk P S0 JJ s0 ws (.seq (.region id ops true) c) s g Q := by
 simp only [annOk, annGo, Bool.and_eq_true, Nat.zero_add] at hann
 obtain ⟨hb0, ⟨⟨h1, h2⟩, h3⟩, ⟨⟨g1, _⟩, _⟩, h4⟩ := hann
 have hb := back_of hb0
 have hph1 := phF_of g1
 have hkw : ∀ {a a' : Act}, KeptA ops a a' → ∀ t, t ∉ ops.toList.filterMap (·.dst) → a'.tmps.getD t undef = a.tmps.getD t undef := fun hk t ht =>
  hk.2 t fun i o ho hd => ht (List.mem_filterMap.2 ⟨o, by rw [Array.mem_toList_iff]; exact Array.mem_of_getElem? ho, hd⟩)
 intro a0 W a k ha hj hat hk0
 refine wpIn_seq (wpIn_region_any hm ?_)
 have hle : Le k { k with w := { k.w with drawn := k.w.drawn + 1 } } := le_world rfl rfl rfl (Nat.le_refl _) fun _ _ => rfl
 have hat' : At (NS (SG S0 g) W) (K0 W) { k with w := { k.w with drawn := k.w.drawn + 1 } } a s := ⟨hat.h, hat.nid, hat.good.world hle fun _ _ => rfl, hat.le.trans hle, hat.act.le hat.good hle⟩
 refine phaseK_gen (n0 := 0) (ro := none) hO hb (b := 0) (l := ops.toList) (by simp) h1 h2 h3 h rfl hat' ?_ _ _ (by simp) (fun i hi => by simp [Ran, Array.getD_eq_getD_getElem?, hi]) (by omega)
 intro s1 k1 a1 hR1 hat1 hkept listed fuel hs hr hf
 obtain ⟨s2, hw, o, ho, hg, pre, x, rfl, hN, hy, hT, hF⟩ := hR1
 obtain ⟨hP1, hgr⟩ := atP_of ha hat1 (hkept.1.trans hk0.1) (fun t ht => (hkw hkept t fun x => ht (List.mem_append_right _ x)).trans (hk0.2 t fun x => ht (List.mem_append_left _ x))) hw
 have hj1 := hJ _ _ _ hj hgr
 have ho' : ops[len]? = some o := by rw [← ho]; simp
 have hlt : len < ops.size := by
  rcases Nat.lt_or_ge len ops.size with h | h
  ·exact h
  ·rw [Array.getElem?_eq_none h] at ho'; cases ho'
 have hback : ∀ i o, ops[i]? = some o → Ran listed i → ∀ j ∈ bnd o, Ran listed j := fun i o hio hi j hj => by
  have hil : i < ops.size := by
   rcases Nat.lt_or_ge i ops.size with h | h
   ·exact h
   ·rw [Array.getElem?_eq_none h] at hio; cases hio
  have := hb i o hio j hj
  have := (hr i hil).1 hi
  exact (hr j (by omega)).2 (by omega)
 have hmem : len ∈ Region.ready .any ops listed := (mem_ready hs).2 ⟨o, ho', fun h => by have := (hr len hlt).1 h; omega, fun j hj => (hr j (by have := hb len o ho' j hj; omega)).2 (by have := hb len o ho' j hj; omega)⟩
 cases fuel with
 | zero => omega
 | succ fuel =>
 refine ⟨fun hnil => (by rw [hnil] at hmem; cases hmem), fun i hi => ?_⟩
 obtain ⟨oi, hoi, hnr, hbi⟩ := (mem_ready hs).1 hi
 have hil : i < ops.size := by
  rcases Nat.lt_or_ge i ops.size with h | h
  ·exact h
  ·rw [Array.getElem?_eq_none h] at hoi; cases hoi
 have hie : i = len := by
  rcases Nat.lt_trichotomy i len with h | h | h
  ·exact absurd ((hr i hil).2 (by omega)) hnr
  ·exact h
  ·have hbef := hph1.bar i (by omega) hil 0 (by omega)
   have := bef_sound hb (S := Ran listed) hback i oi hoi hbi len hbef
   have := (hr len hlt).1 this
   omega
 subst hie
 have hwn : Region.wanted o (yielded ops a1.tmps) = true := by simp [Region.wanted, hg]
 obtain ⟨vs, r1, r2, r3⟩ := yield_runP (P := P) hP1 hy
 simp only [wpOpIn, ho', hwn, if_true]
 refine ⟨fun _ _ => trivial, ?_⟩
 rw [semAt_eq _ _ r2, r3, henc _ _ vs x r1, Array.toArray_toList]
 obtain ⟨fn, tmps, assign, body, h5, h6⟩ := hY pre x k1.w hj1 hN
 rw [h5]
 have hls : ∀ j, j < ops.size → (Ran (listed.setIfInBounds i true) j ↔ j < i + 1) := fun j hj => by
  rw [ran_set (by omega)]
  have := hr j hj
  constructor
  ·rintro (h | h)
   ·omega
   ·have := this.1 h; omega
  ·intro h
   rcases Nat.lt_or_ge j i with h' | h'
   ·exact .inr (this.2 (by omega))
   ·exact .inl (by omega)
 have hrest : ∀ (W' : World) (b : Bool) (s' : St) (K : St → Prop) (sx : St), JJ (pre ++ [x], b) W' → AtP (SG S0 (pre ++ [x], b)) (a1.put o.dst (.bool (!b))) s' W' →
   anyK P O ops as (ops.toList.drop (i + 1)) s' (fun s3 => ∃ s4, weakJ (ops.toList.filterMap (·.dst)) sx s3 s4 ∧ AWj P S0 JJ c s4 (pre ++ [x], b) Q) → (∀ t, t ∉ ops.toList.filterMap (·.dst) → look sx.env t = look s'.env t) → sx.n = s'.n →
   wpAnyIn (FW none) 0 P .any ops (Exit.then (c.wpIn (FW none) 0 P fun e a' w' => ∃ x s' g', exOf e = some x ∧ Q x s' g' ∧ AtP (SG S0 g') a' s' w' ∧ JJ g' w') fun e a' w' => ∃ x s' g', exOf e = some x ∧ Q x s' g' ∧ AtP (SG S0 g') a' s' w' ∧ JJ g' w') fuel (listed.setIfInBounds i true) (a1.put o.dst (.bool (!b))) W' := fun W' b s' K sx hj' hat' hk hl hn => by
  have hA : AAny P 0 none ops (i + 1) s' _ := anyK_sound hO hb as (i + 1) _ s' rfl h4 hk
  refine hA (NS (SG S0 (pre ++ [x], b)) W') (K0 W') (K0 W') _ _ rfl hat'.at_ (fun k3 a3 s3 ⟨s4, hw4, hq⟩ hat3 hk3 => ?_) _ _ (by rw [Array.size_setIfInBounds, hs]) hls (by omega)
  have hw4' : weakJ (ops.toList.filterMap (·.dst)) s' s3 s4 := ⟨hw4.1, hw4.2.1, hw4.2.2.1, fun j => by
   rcases hw4.2.2.2 j with h | h | ⟨h, h'⟩
   ·exact .inl h
   ·exact .inr (.inl h)
   ·exact .inr (.inr ⟨h, by rw [← hl j h]; exact h'⟩)⟩
  obtain ⟨hP3, hgr3⟩ := atP_of hat' hat3 hk3.1 (hkw hk3) hw4'
  exact hq _ _ hP3 (hJ _ _ _ hj' hgr3)
 have hod : ∀ (s : St) (d : D) (t : Nat), t ∉ ops.toList.filterMap (·.dst) → look s.env t = look (s.put o.dst d).env t := fun s d t ht => by
  have hne : o.dst ≠ some t := fun h => ht (List.mem_filterMap.2 ⟨o, by rw [Array.mem_toList_iff]; exact Array.mem_of_getElem? ho', h⟩)
  cases hd : o.dst with
  | none => rfl
  | some u =>
   simp only [St.put]
   split
   ·have : t ≠ u := fun e => hne (by rw [hd, e])
    simp [look, this]
   ·rfl
 refine ⟨by simp [FW, Fence.wide], h6.mono ?_⟩
 rintro e W' (⟨rfl, hj', hk⟩ | ⟨rfl, hj'⟩)
 ·have hat' : AtP (SG S0 (pre ++ [x], false)) a1 s2 W' := ⟨hP1.defers, hP1.h, hP1.nid, hP1.size, fun i => (hP1.rel i).mono (rs_mono (fun b hb => hk.2 b hb.2) hk.1), fun b hb => Nat.lt_of_lt_of_le (hP1.lt b hb) hk.1⟩
  exact hrest W' false (s2.put o.dst (.bool true)) (fun _ => True) s2 hj' (hat'.put o.dst (.bool _ _)) hT (hod _ _) (put_n _ _ _).symm
 ·have hat' : AtP (SG S0 (pre ++ [x], true)) a1 (flS s2) W' := ⟨hP1.defers, hP1.h, hP1.nid, hP1.size, fun i => by
   simp only [flS, look_fl]
   split
   ·rename_i hf; exact (hP1.rel i).flat1 hf
   ·exact .any _ _, fun b hb => by cases hb.1⟩
  exact hrest W' true ((flS s2).put o.dst (.bool false)) (fun _ => True) (flS s2) hj' (hat'.put o.dst (.bool _ _)) hF (hod _ _) (put_n _ _ _).symm
end
end Go.Sx
