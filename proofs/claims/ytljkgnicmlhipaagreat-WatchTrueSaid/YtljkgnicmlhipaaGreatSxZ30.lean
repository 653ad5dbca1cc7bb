/- Sx: drawn regions with forgetting steps between their operations. Own work. -/
import Derived.Test.YtljkgnicmlhipaaGreatSxZ29
set_option linter.unusedVariables false
set_option linter.unusedSimpArgs false
namespace Go.Sx
variable {P : Program} {n0 : Nat} {ro : Option Nat}
theorem awp_graphI (hm : P.follows .mixedOrders = true) {id : Nat} {ops : Array Oper} {s : St} {Q : Ex → St → Prop} (hbk : backOk ops = true) (J : (Nat → Prop) → St → Prop) (h0 : J (fun _ => False) s)
  (hstep : ∀ (L : Nat → Prop) (s : St) (i : Nat) (o : Oper), J L s → (∀ a j, L a → bef (masks ops) j a = true → L j) → ops[i]? = some o → ¬ L i → (∀ j ∈ bnd o, L j) → o.guard = none ∧ OpOk P n0 ro o s (fun s' => ∃ s2, Imp n0 s' s2 ∧ J (fun j => j = i ∨ L j) s2))
  (hend : ∀ (L : Nat → Prop) (s : St), J L s → (∀ i, i < ops.size → L i) → Q .normal s) : AWp P n0 ro (.region id ops true) s Q := by
 have hb := back_of hbk
 intro X k0 k a hn hat
 refine wpIn_region_any hm ?_
 have hle : Le k { k with w := { k.w with drawn := k.w.drawn + 1 } } := le_world rfl rfl rfl (Nat.le_refl _) fun _ _ => rfl
 have hat' : At X k0 { k with w := { k.w with drawn := k.w.drawn + 1 } } a s := ⟨hat.h, hat.nid, hat.good.world hle fun _ _ => rfl, hat.le.trans hle, hat.act.le hat.good hle⟩
 have key : ∀ (fuel : Nat) (listed : Array Bool) (k : Cx) (a : Act) (s : St), listed.size = ops.size → (∀ i o, ops[i]? = some o → Ran listed i → ∀ j ∈ bnd o, Ran listed j) → J (fun i => i < ops.size ∧ Ran listed i) s → At X k0 k a s → unl (fun i => listed.getD i true) ops.size ≤ fuel → wpAnyIn (FW ro) 0 P .any ops (Post X k0 Q) fuel listed a k.w := by
  intro fuel
  induction fuel with
  | zero =>
   intro listed k a s hs hcl hJ hat hf
   have hall : ∀ i, i < ops.size → Ran listed i := fun i hi => by
    cases hg : listed.getD i true with
    | true =>
     have hlt : i < listed.size := by rw [hs]; exact hi
     simp only [Ran, Array.getD_eq_getD_getElem?, Array.getElem?_eq_getElem hlt] at hg ⊢
     simpa using hg
    | false => have := unl_pos (f := fun i => listed.getD i true) hi hg; omega
   refine ⟨?_, .normal, k, s, rfl, rfl, hend _ s hJ fun i hi => ⟨hi, hall i hi⟩, hat⟩
   cases hq : Region.ready .any ops listed with
   | nil => rfl
   | cons i r =>
    have hi : i ∈ Region.ready .any ops listed := by rw [hq]; simp
    obtain ⟨o, ho, hnr, _⟩ := (mem_ready hs).1 hi
    exact absurd (hall i (lt_of_arr ho)) hnr
  | succ fuel ih =>
   intro listed k a s hs hcl hJ hat hf
   refine ⟨fun hnil => ?_, fun i hi => ?_⟩
   ·refine ⟨.normal, k, s, rfl, rfl, hend _ s hJ fun i hi => ⟨hi, ?_⟩, hat⟩
    exact ran_all hb hs hnil i hi
   ·obtain ⟨o, ho, hnr, hr⟩ := (mem_ready hs).1 hi
    have hilt : i < ops.size := lt_of_arr ho
    have hsz : i < listed.size := by rw [hs]; exact hilt
    have hfuel : unl (fun j => (listed.setIfInBounds i true).getD j true) ops.size ≤ fuel := by
     have hs := (unl_set (f := fun j => listed.getD j true) (g := fun j => (listed.setIfInBounds i true).getD j true) (i := i) (by
      simp only [Ran, Array.getD_eq_getD_getElem?, Array.getElem?_eq_getElem hsz] at hnr ⊢
      simpa using hnr) (by simp [Array.getD_eq_getD_getElem?, Array.getElem?_setIfInBounds_self_of_lt hsz]) (fun j hj => by
      simp only [Array.getD_eq_getD_getElem?, Array.getElem?_setIfInBounds_ne (Ne.symm hj)]) ops.size).2 hilt
     omega
    obtain ⟨hg, hok⟩ := hstep _ s i o hJ (fun a j ha hj => by
     have hoa : ops[a]? = some ops[a] := by simp [ha.1]
     have := bef_sound hb hcl a _ hoa (hcl a _ hoa ha.2) j hj
     exact ⟨by have := ran_lt this; omega, this⟩) ho (fun h => hnr h.2) fun j hj => ⟨by have := ran_lt (hr j hj); omega, hr j hj⟩
    have hw : Region.wanted o (yielded ops a.tmps) = true := by unfold Region.wanted; rw [hg]
    simp only [wpOpIn, ho, hw, if_true]
    refine hok X k0 k a _ _ hn hat fun k' a' s1 hJ1 hat1 hle _ => ?_
    obtain ⟨s', hi', hJ'⟩ := hJ1
    obtain ⟨k2, ek, hat'⟩ := hi' X k0 k' a' hn hat1
    rw [← ek]
    refine ih _ k2 a' s' (by simpa using hs) (fun j oj hj hran x hx => by
     rcases (ran_set hsz).1 hran with rfl | hran
     ·rw [ho] at hj; cases hj; exact (ran_set hsz).2 (.inr (hr x hx))
     ·exact (ran_set hsz).2 (.inr (hcl j oj hj hran x hx))) ?_ hat' hfuel
    have e : (fun j => j < ops.size ∧ Ran (listed.setIfInBounds i true) j) = fun j => j = i ∨ (j < ops.size ∧ Ran listed j) := funext fun j => propext (by
     rw [ran_set hsz]
     constructor
     ·rintro ⟨h1, h2 | h2⟩
      ·exact .inl h2
      ·exact .inr ⟨h1, h2⟩
     ·rintro (rfl | ⟨h1, h2⟩)
      ·exact ⟨hilt, .inl rfl⟩
      ·exact ⟨h1, .inr h2⟩)
    rw [e]; exact hJ'
 refine key ops.size _ _ a s (by simp) (fun i o ho h => by
  have := ran_lt h
  simp only [Array.size_replicate] at this
  simp [Ran, Array.getD_eq_getD_getElem?, this] at h) ?_ hat' (unl_le _ _)
 have e : (fun i => i < ops.size ∧ Ran (Array.replicate ops.size false) i) = fun _ => False := funext fun i => propext ⟨fun h => by
  have := h.2
  simp [Ran, Array.getD_eq_getD_getElem?, h.1] at this, fun h => h.elim⟩
 rw [e]; exact h0

structure SlotsI (ops : Array Oper) (base : Env) (L : Nat → Prop) (val : Nat → D) (e : Env) : Prop where
 old : ∀ t, (∀ (j : Nat) o', ops[j]? = some o' → L j → o'.dst ≠ some t) → look e t = look base t
 new : ∀ (j : Nat) o' t, ops[j]? = some o' → L j → o'.dst = some t → look e t = val j
theorem SlotsI.base {ops : Array Oper} {b : Env} {L : Nat → Prop} {val : Nat → D} {e : Env} (h : SlotsI ops b L val e) (t : Nat) (ht : (ops.toList.all fun o => match o.dst with | some u => !(Nat.beq u t) | none => true) = true) : look e t = look b t :=
 h.old t fun j o' ho _ hd => by
  have := List.all_eq_true.1 ht o' (List.mem_of_getElem? (by simpa using ho))
  rw [hd] at this; simp at this
theorem look_map (f : D → D) (hf : f .any = .any) : ∀ (e : Env) (t : Nat), look (e.map fun p => (p.1, f p.2)) t = f (look e t)
 | [], t => hf.symm
 | (i, d) :: e, t => by
  simp only [List.map_cons, look]
  split
  ·rfl
  ·exact look_map f hf e t
theorem slotsI_keep {ops : Array Oper} {base : Env} {L : Nat → Prop} {v v' : Nat → D} {e : Env} {i : Nat} {o : Oper} {n : Nat} (hd : dstOk ops n = true) (ho : ops[i]? = some o) (hsl : SlotsI ops base L v e) (hnr : ¬ L i) (hext : ∀ j, L j → v' j = v j) (h : H) (nid : Nat) (d : D) (hv : d = v' i) :
  SlotsI ops base (fun j => j = i ∨ L j) v' (St.put ⟨e, h, nid, n⟩ o.dst d).env := by
 simp only [dstOk, Bool.and_eq_true, decide_eq_true_eq] at hd
 have huniq := fun (i j : Nat) x y (t : Nat) (hx : ops[i]? = some x) (hy : ops[j]? = some y) (a : x.dst = some t) (b : y.dst = some t) => nodup_fm (·.dst) hd.1 i j x y t (by simpa using hx) (by simpa using hy) a b
 have hlt : ∀ (i : Nat) x (t : Nat), ops[i]? = some x → x.dst = some t → t < n := fun i x t hx ht => by
  have := List.all_eq_true.1 hd.2 t (List.mem_filterMap.2 ⟨x, List.mem_of_getElem? (by simpa using hx), ht⟩)
  exact Nat.le_of_ble_eq_true this
 subst hv
 refine ⟨fun t ht => ?_, fun j o' t hj hL ht => ?_⟩
 ·rw [look_put, if_neg fun h => ht i o ho (.inl rfl) h.1]
  exact hsl.old t fun j o' hj hL => ht j o' hj (.inr hL)
 ·rw [look_put]
  by_cases hji : j = i
  ·subst hji
   rw [ho] at hj; cases hj
   rw [if_pos ⟨ht, hlt j o t ho ht⟩]
  ·rw [if_neg fun h => hji (huniq j i o' o t hj ho ht h.1)]
   rcases hL with hL | hL
   ·exact absurd hL hji
   ·rw [hext j hL]; exact hsl.new j o' t hj hL ht
theorem slotsI_map {ops : Array Oper} {base : Env} {L : Nat → Prop} {v v' : Nat → D} {e : Env} (f : D → D) (hf : f .any = .any) (hsl : SlotsI ops base L v e) (hb : (base.map fun p => (p.1, f p.2)) = base) (hv : ∀ j, L j → v' j = f (v j)) :
  SlotsI ops base L v' (e.map fun p => (p.1, f p.2)) := by
 refine ⟨fun t ht => ?_, fun j o' t hj hL ht => ?_⟩
 ·rw [look_map f hf, hsl.old t ht, ← look_map f hf, hb]
 ·rw [look_map f hf, hsl.new j o' t hj hL ht, hv j hL]
theorem put_eta (e : Env) (h : H) (nid n : Nat) (dst : Option Tmp) (d : D) : St.put ⟨e, h, nid, n⟩ dst d = ⟨(St.put ⟨e, h, nid, n⟩ dst d).env, h, nid, n⟩ := by
 have e1 := put_h ⟨e, h, nid, n⟩ dst d
 have e2 := put_nid ⟨e, h, nid, n⟩ dst d
 have e3 := put_n ⟨e, h, nid, n⟩ dst d
 generalize St.put ⟨e, h, nid, n⟩ dst d = z at *
 obtain ⟨a, b, c, x⟩ := z
 simp only at e1 e2 e3
 rw [e1, e2, e3]
theorem imp_refl {n0 : Nat} (s : St) : Imp n0 s s := fun _ _ k _ _ hat => ⟨k, rfl, hat⟩
def AfterI (n0 : Nat) {σ : Type} (ops : Array Oper) (base : Env) (n : Nat) (ok : σ → (Nat → Prop) → Prop) (hh : σ → H) (nn : σ → Nat) (val : σ → Nat → D) (L : Nat → Prop) (i : Nat) (dst : Option Tmp) (e : Env) (d : D) (h' : H) (nid' : Nat) : Prop :=
 ∃ m' e', ok m' (fun j => j = i ∨ L j) ∧ Imp n0 ⟨(St.put ⟨e, h', nid', n⟩ dst d).env, h', nid', n⟩ ⟨e', hh m', nn m', n⟩ ∧ SlotsI ops base (fun j => j = i ∨ L j) (val m') e'
theorem after_keep {n0 n : Nat} {σ : Type} {ops : Array Oper} {base : Env} {ok : σ → (Nat → Prop) → Prop} {hh : σ → H} {nn : σ → Nat} {val : σ → Nat → D} {L : Nat → Prop} {i : Nat} {o : Oper} {e : Env} {v : Nat → D} {d : D} {h' : H} {nid' : Nat}
  (hd : dstOk ops n = true) (ho : ops[i]? = some o) (hsl : SlotsI ops base L v e) (hnr : ¬ L i) (m' : σ) (hok : ok m' (fun j => j = i ∨ L j)) (hext : ∀ j, L j → val m' j = v j) (hv : d = val m' i) (e1 : h' = hh m') (e2 : nid' = nn m') :
  AfterI n0 ops base n ok hh nn val L i o.dst e d h' nid' := by
 subst e1 e2
 exact ⟨m', _, hok, imp_refl _, slotsI_keep hd ho hsl hnr hext _ _ _ hv⟩
theorem after_thaw {n0 n : Nat} {σ : Type} {ops : Array Oper} {base : Env} {ok : σ → (Nat → Prop) → Prop} {hh : σ → H} {nn : σ → Nat} {val : σ → Nat → D} {L : Nat → Prop} {i : Nat} {o : Oper} {e : Env} {v : Nat → D} {d : D} {h' : H} {nid' : Nat}
  (b : Nat) (hd : dstOk ops n = true) (ho : ops[i]? = some o) (hsl : SlotsI ops base L v e) (hnr : ¬ L i) (m' : σ) (hok : ok m' (fun j => j = i ∨ L j)) (hb : (base.map fun p => (p.1, frzD h' (herase h' b) p.2)) = base) (hext : ∀ j, L j → val m' j = frzD h' (herase h' b) (v j))
  (hv : frzD h' (herase h' b) d = val m' i) (e1 : frzHH h' (herase h' b) = hh m') (e2 : nid' = nn m') : AfterI n0 ops base n ok hh nn val L i o.dst e d h' nid' := by
 subst e2
 refine ⟨m', _, hok, by rw [← e1]; exact Imp.thaw b, slotsI_map (frzD h' (herase h' b)) rfl (slotsI_keep (v' := fun j => if j = i then d else v j) hd ho hsl hnr (fun j hj => by
  rw [if_neg]; rintro rfl; exact hnr hj) _ _ _ (by simp)) hb fun j hj => ?_⟩
 by_cases e : j = i
 ·subst e
  rw [if_pos rfl, hv]
 ·rw [if_neg e]
  exact hext j (hj.resolve_left e)
theorem SlotsI.old1 {ops : Array Oper} {b : Env} {L : Nat → Prop} {val : Nat → D} {e : Env} (h : SlotsI ops b L val e) (t k : Nat) (ht : (ops.toList.zipIdx.all fun p => match p.1.dst with | some u => !(Nat.beq u t) || Nat.beq p.2 k | none => true) = true) (hk : ¬ L k) : look e t = look b t :=
 h.old t fun j o' ho hL hd => by
  have := List.all_eq_true.1 ht (o', j) (List.mem_zipIdx_iff_getElem?.2 (by simpa using ho))
  simp only [hd] at this
  have e1 : Nat.beq t t = true := by simp
  rw [e1] at this
  have e2 : j = k := by simpa using this
  exact hk (e2 ▸ hL)
theorem awp_slotsI {O : Oracle} (hO : OkO P O) (hm : P.follows .mixedOrders = true) {id : Nat} {ops : Array Oper} {s : St} {Q : Ex → St → Prop} {σ : Type} (ok : σ → (Nat → Prop) → Prop) (hh : σ → H) (nn : σ → Nat) (val : σ → Nat → D) (m0 : σ)
  (hbk : backOk ops = true) (h1 : s.h = hh m0) (h2 : s.nid = nn m0) (h0 : ok m0 (fun _ => False))
  (hop : ∀ (m : σ) (L : Nat → Prop) (i : Nat) (o : Oper) (e : Env) (K : D → H → Nat → Prop), ok m L → (∀ a j, L a → bef (masks ops) j a = true → L j) → ops[i]? = some o → ¬ L i → (∀ j ∈ bnd o, L j) → SlotsI ops s.env L (val m) e →
   (∀ d h' nid', AfterI n0 ops s.env s.n ok hh nn val L i o.dst e d h' nid' → K d h' nid') → o.guard = none ∧ (resK P O false false o.op e (hh m) (nn m) K ∨ resK P O true false o.op e (hh m) (nn m) K))
  (hend : ∀ (m : σ) (L : Nat → Prop) (e : Env), ok m L → (∀ i, i < ops.size → L i) → SlotsI ops s.env L (val m) e → Q .normal ⟨e, hh m, nn m, s.n⟩) : AWp P n0 ro (.region id ops true) s Q := by
 refine awp_graphI hm hbk (fun L s' => ∃ m e, s' = ⟨e, hh m, nn m, s.n⟩ ∧ ok m L ∧ SlotsI ops s.env L (val m) e) ⟨m0, s.env, by rw [← h1, ← h2], h0, ⟨fun _ _ => rfl, fun _ _ _ _ h => h.elim⟩⟩ ?_ ?_
 ·rintro L _ i o ⟨m, e, rfl, hok, hsl⟩ hcl ho hnr hr
  obtain ⟨hg, hres⟩ := hop m L i o e _ hok hcl ho hnr hr hsl fun _ _ _ h => h
  have key : ∀ d h' nid', AfterI n0 ops s.env s.n ok hh nn val L i o.dst e d h' nid' → ∃ s2, Imp n0 (St.put ⟨e, h', nid', s.n⟩ o.dst d) s2 ∧ ∃ m e, s2 = ⟨e, hh m, nn m, s.n⟩ ∧ ok m (fun j => j = i ∨ L j) ∧ SlotsI ops s.env (fun j => j = i ∨ L j) (val m) e := by
   rintro d h' nid' ⟨m', e', hok', hi, hsl'⟩
   refine ⟨⟨e', hh m', nn m', s.n⟩, ?_, m', e', rfl, hok', hsl'⟩
   rw [put_eta]
   exact hi
  rcases hres with hres | hres
  ·exact ⟨hg, opOk_resK hO (s := ⟨e, hh m, nn m, s.n⟩) hres key⟩
  ·obtain ⟨d, h', nid', hs1, hk⟩ := ostep_resK hO (s := ⟨e, hh m, nn m, s.n⟩) hres
   exact ⟨hg, opOk_ostep hs1 (key _ _ _ hk)⟩
 ·rintro L _ ⟨m, e, rfl, hok, hsl⟩ hall
  exact hend m L e hok hall hsl
end Go.Sx
