/- Own work: a calculus of contracts for the programs of this kit: parts SxZ37, SxZ38, SxZ39, SxZ40. -/
import Derived.Test.YtjhoplbdpdbgaaaGreatDoorSxNA
import Derived.Laws.BytesArg
import Derived.Below
import Derived.Sort.Grow
import Derived.Lib.LaidTab
import Derived.Lib.ConvBytes
set_option linter.unusedVariables false
set_option linter.unusedSimpArgs false
namespace Go.Sx
variable {P : Program} {O : Oracle} {w0 : World} {n0 : Nat} {ro : Option Nat}

theorem aops_dataP (hO : OkO P O) {ops : Array Oper} : ∀ (l : List Oper) (i : Nat) (s : St) (K : St → Prop), (∀ j, j < l.length → l[j]? = ops[i + j]?) → phK P O ops false false l s [] [] (fun s' _ _ => K s') → AOps P n0 ro ops ((List.range l.length).map (i + ·)) s K
 | [], i, s, K, _, h => aops_nil h
 | o :: rest, i, s, K, hl, h => by
  have ho : ops[i]? = some o := by have := hl 0 (by simp); simpa using this.symm
  have hrest : ∀ j, j < rest.length → rest[j]? = ops[i + 1 + j]? := fun j hj => by have := hl (j + 1) (by simp; omega); simp at this; rw [this]; congr 1; omega
  have hmap : (List.range (o :: rest).length).map (i + ·) = i :: (List.range rest.length).map (i + 1 + ·) := by
   rw [List.length_cons, List.range_succ_eq_map, List.map_cons, List.map_map]
   simp only [Nat.add_zero, List.cons.injEq, true_and]
   apply List.map_congr_left
   intro a _
   simp only [Function.comp]; omega
  rw [hmap]
  simp only [phK] at h
  split at h
  ·rename_i hg
   obtain ⟨d, h', nid', hs1, hk⟩ := ostep_resK hO (s := s) h
   exact aops_cons ho hg (opOk_ostep hs1 (aops_dataP hO rest (i + 1) _ K hrest hk))
  ·rename_i j want hg
   split at h
   ·rename_i t hj
    split at h
    ·rename_i b hb
     refine aops_guard ho hg hj hb (fun e => ?_) (fun e => ?_)
     ·have h := h.1 (by subst e; simp)
      obtain ⟨d, h', nid', hs1, hk⟩ := ostep_resK hO (s := { s with env := (t, .bool want) :: s.env }) h
      exact opOk_ostep hs1 (aops_dataP hO rest (i + 1) _ K hrest hk)
     ·exact aops_dataP hO rest (i + 1) _ K hrest (h.2 (by subst e; cases want <;> rfl))
    ·rename_i hb
     exact aops_off ho hg hj hb (aops_dataP hO rest (i + 1) _ K hrest h)
    ·exact h.elim
   ·exact h.elim
theorem aops_cutD (hO : OkO P O) {ops : Array Oper} {m : Nat} {o : Oper} {s : St} {K : St → Prop} (ho : ops.toList[m]? = some o) (hg : o.guard = none)
  (h : phK P O ops false false (ops.toList.take m) s [] [] fun s1 _ _ => OpOk P n0 ro o s1 fun s2 => phK P O ops false false (ops.toList.drop (m + 1)) s2 [] [] fun s3 _ _ => K s3) : AOps P n0 ro ops (List.range ops.size) s K := by
 have hms : m < ops.size := by
  have := (List.getElem?_eq_some_iff.1 ho).1
  simpa using this
 have htl : (ops.toList.take m).length = m := by simp; omega
 have hdl : (ops.toList.drop (m + 1)).length = ops.size - (m + 1) := by simp
 rw [range_split hms]
 refine aops_app ?_
 have hA := aops_dataP (n0 := n0) (ro := ro) hO (ops.toList.take m) 0 s _ (fun j hj => by rw [List.getElem?_take_of_lt (by omega)]; simp) h
 rw [htl] at hA
 intro X k0 k a Q hn hat hk
 refine hA X k0 k a Q hn hat fun k' a' s' h' hat' hkept => ?_
 refine hk k' a' s' ?_ hat' hkept
 have ho' : ops[m]? = some o := by rw [← ho]; simp
 refine aops_cons ho' hg ?_
 intro X k0 k a Q Kc hn hat hk
 refine h' X k0 k a Q Kc hn hat fun k2 a2 s2 q1 q2 q3 q4 => hk k2 a2 s2 ?_ q2 q3 q4
 have hA2 := aops_dataP (n0 := n0) (ro := ro) hO (ops.toList.drop (m + 1)) (m + 1) s2 K (fun j _ => by rw [List.getElem?_drop]; simp) q1
 rw [hdl] at hA2
 exact hA2
theorem awp_cutD (hO : OkO P O) (m : Nat) {id : Nat} {ops : Array Oper} {o : Oper} {s : St} {Q : Ex → St → Prop} (ho : ops.toList[m]? = some o) (hg : o.guard = none)
  (h : phK P O ops false false (ops.toList.take m) s [] [] fun s1 _ _ => OpOk P n0 ro o s1 fun s2 => phK P O ops false false (ops.toList.drop (m + 1)) s2 [] [] fun s3 _ _ => Q .normal s3) : AWp P n0 ro (.region id ops false) s Q :=
 awp_region (aops_cutD hO ho hg h)
theorem opOk_bstr {o : Oper} {t u e : TypeId} {x : Operand} {s : St} {K : St → Prop} {xs : List Int} (ho : o.op = .convert t u x) (hs : P.underlying t = some (.slice e)) (he : P.underlying e = some (.int .u8)) (hd : P.underlying u = some .string)
  (hx : evO s.env x = .sl (xs.map fun n => [.int .u8 n])) (hK : K (s.put o.dst (stD (xs.map fun n => UInt8.ofNat n.toNat)))) : OpOk P n0 ro o s K := by
 intro X k0 k a Q Kc hn hat hk
 have r1 := hat.act.eval x
 rw [hx] at r1
 have hrun : (convert t u (a.eval x)).run P k.w = .ok (.string (bS (xs.map fun n => UInt8.ofNat n.toNat))) k.w := by
  generalize hv : a.eval x = v at r1
  generalize hes : xs.map (fun n => [D.int .u8 n]) = es at r1
  cases r1 with
  | sln =>
   rw [List.map_eq_nil_iff] at hes; subst hes
   rw [run_convert_bytes_nil k.w t e hs he _ _ u hd]; rfl
  | sle _ a cap =>
   rw [List.map_eq_nil_iff] at hes; subst hes
   rw [run_convert_bytes_string k.w t u e _ _ _ hs he hd]
   simp [Conv.bytesToString, loadCells, Sem.run_bind]
   rfl
  | sl _ b off cap _ sz vs hS hcap hsz hcell hrel hnm =>
   subst hes
   rw [run_convert_bytes_arg k.w t e hs he b off _ cap xs (by simp) (fun i hi => ?_) u hd]
   ·rfl
   ·have hil : i < xs.length := by simpa using hi
    have e1 : (xs.map fun n => [D.int .u8 n])[i]? = some [.int .u8 xs[i]] := by simp [hil]
    have hsz1 : sz = 1 := by
     have := hsz [.int .u8 xs[i]] (List.mem_of_getElem? e1)
     simpa using this.symm
    subst hsz1
    have h1 := hcell i _ 0 _ e1 rfl
    have h2 := hrel i _ 0 _ e1 rfl
    cases h2v : vs i 0 with
    | int k n =>
     rw [h2v] at h1 h2
     cases h2
     rw [Nat.mul_one, Nat.add_zero] at h1
     have h1 : k.w.cell? ⟨b, off + i, none⟩ = _ := h1
     rw [h1]; simp [List.getD, hil]
    | _ => rw [h2v] at h2; cases h2
 refine ⟨fun _ _ => trivial, ?_⟩
 have hex : (execOp a.eval o).run P k.w = .ok (.value (.string (bS (xs.map fun n => UInt8.ofNat n.toNat)))) k.w := by
  unfold execOp
  rw [ho]
  exact ok_bind_value _ _ _ _ _ hrun
 rw [semAt_eq _ _ (by rw [ho]; simp), hex]
 refine hk k _ _ hK ⟨?_, ?_, hat.good, hat.le, hat.act.put o.dst (.str _ _)⟩ (.refl k) (kept1_put _ _ _)
 ·rw [put_h]; exact hat.h
 ·rw [put_nid]; exact hat.nid
end Go.Sx

/- Sx: contracts of the library, in worlds whose first blocks are known. Own work. -/
namespace Go.Sx
open Go.RowKit (Below)
variable {P : Program} {O : Oracle} {w0 : World} {n0 : Nat}

theorem fr_cell {k : Cx} (h : Fr w0 k) {a : Addr} {v : Value} (hc : w0.cell? a = some v) : k.w.cell? a = some v := by
 have hb : a.block < w0.heap.size := by
  unfold World.cell? at hc
  rcases Nat.lt_or_ge a.block w0.heap.size with h | h
  ·exact h
  ·rw [Array.getElem?_eq_none h] at hc; cases hc
 rw [cell_of_heap (h.heap a.block hb)]; exact hc
theorem fr_var {k : Cx} (h : Fr w0 k) {n : String} {cs : Array Value} (hc : w0.var? P n = some cs) : k.w.var? P n = some cs := by
 unfold World.var? at hc ⊢
 cases hg : P.globalNamed n with
 | none => rw [hg] at hc; cases hc
 | some g =>
  rw [hg] at hc
  simp only [Option.bind_some] at hc ⊢
  have hb : g < w0.heap.size := by
   rcases Nat.lt_or_ge g w0.heap.size with h | h
   ·exact h
   ·rw [Array.getElem?_eq_none h] at hc; cases hc
  rw [h.heap g hb]; exact hc
theorem fr_tab {k : Cx} (h : Fr w0 k) {n : String} {j : IntKind} {zs : List Int} (hc : Lib.TabIs P w0 n j zs) : Lib.TabIs P k.w n j zs := fr_var h hc
theorem below_grow (w : World) (os : Array Obj) : Below w.heap.size w (Go.Sort.grow w os) := ⟨rfl, rfl, rfl, by simp [Go.Sort.grow], fun b hb => by simp [Go.Sort.grow, Array.getElem?_append_left hb]⟩
theorem pcallg_mk {f : FuncId} {ds : List D} {Q : D → Prop} {R : List PanicEntry → H → Nat → Prop} (hcal : callable P f = true)
  (h : ∀ (X : Nat → Prop) (k : Cx) (vs : List Value), Fr w0 k → k.h = [] → k.nid = 0 → Good X k → RelL (k.R X) 0 vs ds → Calls P f vs.toArray k.w fun e w' => ∃ v r, e = .returned v ∧ Below k.w.heap.size k.w w' ∧ Q r ∧ Rel (Cx.R X { k with w := w' }) 0 v r) :
  PCallG P w0 f ds [] 0 (fun r _ _ => Q r) R := by
 refine ⟨hcal, fun X k vs hfr hh hn hg hrel => (h X k vs hfr hh hn hg (by rw [hn] at hrel; exact hrel)).mono ?_⟩
 rintro e w' ⟨v, r, rfl, hb, hq, hr⟩
 have hheap : ∀ b, b < k.w.heap.size → w'.heap[b]? = k.w.heap[b]? := hb.block
 have hle : Le k { k with w := w' } := le_world hb.os hb.tape hb.output hb.size hheap
 exact ⟨{ k with w := w' }, rfl, hg.world hle hheap, hle, .inl ⟨v, r, rfl, hq, hr.weak (Nat.zero_le _)⟩⟩
theorem rel_str1 {R : Rx} {n : Nat} {vs : List Value} {b : ByteArray} (h : RelL R n vs [.str b]) : vs = [.string b] := by
 obtain ⟨v, rfl⟩ := List.length_eq_one_iff.1 h.1
 have := h.2 0 v _ rfl rfl
 cases this; rfl
theorem rel_str2 {R : Rx} {n : Nat} {vs : List Value} {a b : ByteArray} (h : RelL R n vs [.str a, .str b]) : vs = [.string a, .string b] := by
 obtain ⟨u, v, rfl⟩ : ∃ u v, vs = [u, v] := by
  match vs, h.1 with
  | [u, v], _ => exact ⟨u, v, rfl⟩
 have h1 := h.2 0 u _ rfl rfl
 have h2 := h.2 1 v _ rfl rfl
 cases h1; cases h2; rfl
theorem rel_intv {R : Rx} {n : Nat} {vs : List Value} {k : IntKind} {z : Int} (h : RelL R n vs [.int k z]) : vs = [.int k z] := by
 obtain ⟨v, rfl⟩ := List.length_eq_one_iff.1 h.1
 have := h.2 0 v _ rfl rfl
 cases this; rfl
theorem pure_str2 {f : FuncId} {a b : ByteArray} {v : Value} {r : D} (hcal : callable P f = true) (h : ∀ w, Calls P f #[.string a, .string b] w fun e w' => e = .returned v ∧ w' = w) (hr : ∀ R n, Rel R n v r) : Pure P f [.str a, .str b] r := by
 refine ⟨hcal, fun X k vs hh hn hg hrel => ?_⟩
 obtain rfl := rel_str2 hrel
 exact (h k.w).mono fun e w' ⟨he, hw⟩ => ⟨v, k, r, he, hw.symm, rfl, hg, .refl k, hr _ _⟩
theorem rel_strs {X : Nat → Prop} {k : Cx} (hg : Good X k) (hh : k.h = []) (ps : List ByteArray) (ty : TypeId) :
  Rel (Cx.R X { k with w := k.w.alloc (.cells (ps.map Value.string).toArray ty) }) 0 (.slice (some ⟨k.w.heap.size, 0, none⟩) ps.length ps.length) (.sl (ps.map fun b => [.str b])) := by
 have hl : (ps.map fun b => [D.str b]).length = ps.length := List.length_map ..
 have := @Rel.sl (Cx.R X { k with w := k.w.alloc (.cells (ps.map Value.string).toArray ty) }) 0 k.w.heap.size 0 ps.length (ps.map fun b => [D.str b]) 1 (fun i _ => .string (ps.getD i ByteArray.empty))
  (.inr ⟨by show _ < (k.w.alloc _).heap.size; rw [alloc_size]; exact Nat.lt_succ_self _, fun hx => absurd (hg.xlt _ hx) (Nat.lt_irrefl _), fun ⟨i, hi⟩ => by simp [Cx.own, hh, hget, ownOf] at hi⟩)
  (by rw [hl]; exact Nat.le_refl _) (fun e he => by obtain ⟨b, _, rfl⟩ := List.mem_map.1 he; rfl) (fun i e j d he hd => ?_) (fun i e j d he hd => ?_) (fun e he => by obtain ⟨b, _, rfl⟩ := List.mem_map.1 he; rfl)
 ·rw [hl] at this; exact this
 ·rw [List.getElem?_map] at he
  cases hb : ps[i]? with
  | none => rw [hb] at he; cases he
  | some b =>
   rw [hb] at he
   obtain rfl := Option.some.inj he
   cases j with
   | succ j => simp at hd
   | zero =>
    show World.cell? (k.w.alloc _) ⟨k.w.heap.size, _, none⟩ = _
    have hn := alloc_heap_new k.w (.cells (ps.map Value.string).toArray ty)
    simp only [World.cell?, hn]
    simp [hb, List.getD]
 ·rw [List.getElem?_map] at he
  cases hb : ps[i]? with
  | none => rw [hb] at he; cases he
  | some b =>
   rw [hb] at he
   obtain rfl := Option.some.inj he
   cases j with
   | succ j => simp at hd
   | zero =>
    simp at hd; subst hd
    simp only [List.getD, hb, Option.getD_some]
    exact .str _ _
end Go.Sx

/- Sx: regions cut at a call that may panic or needs the first world. Own work. -/
namespace Go.Sx
variable {P : Program} {O : Oracle} {w0 : World} {n0 : Nat}

theorem aopsg_of {TT : Tl} {ops : Array Oper} {l : List Nat} {s : St} {Q : ExP → St → Prop} (h : AOps P n0 none ops l s fun s' => Q (.ex .normal) s') : AOpsG P w0 n0 TT ops l s Q := by
 have := aopsg_app (w0 := w0) (T := TT) (l2 := []) (Q := Q) (fun X k0 k a Q' hn hat hk => h X k0 k a Q' hn hat fun k' a' s' hq hat' hkept => hk k' a' s' (aopsg_nil (w0 := w0) hq) hat' hkept)
 rwa [List.append_nil] at this
theorem awg_cutD (hO : OkO P O) (m : Nat) {TT : Tl} {id : Nat} {ops : Array Oper} {o : Oper} {c : Call} {s : St} {Q : ExP → St → Prop} (ho : ops.toList[m]? = some o) (hg : o.guard = none) (hop : o.op = .call c)
  (h : phK P O ops false false (ops.toList.take m) s [] [] fun s1 _ _ => ∃ f ds, calleeD s1.env c = some (f, ds) ∧ PCallG P w0 f ds s1.h s1.nid
   (fun r h' nid' => phK P O ops false false (ops.toList.drop (m + 1)) (St.put ⟨s1.env, h', nid', s1.n⟩ o.dst r) [] [] fun s2 _ _ => Q (.ex .normal) s2) fun ch h' nid' => Q (.panic ch) ⟨s1.env, h', nid', s1.n⟩) : AWG P w0 n0 TT (.region id ops false) s Q := by
 have hms : m < ops.size := by
  have := (List.getElem?_eq_some_iff.1 ho).1
  simpa using this
 have htl : (ops.toList.take m).length = m := by simp; omega
 have hdl : (ops.toList.drop (m + 1)).length = ops.size - (m + 1) := by simp
 refine awg_regionT ?_
 rw [range_split hms]
 have hA := aops_dataP (n0 := n0) (ro := none) hO (ops.toList.take m) 0 s _ (fun j hj => by rw [List.getElem?_take_of_lt (by omega)]; simp) h
 rw [htl] at hA
 refine aopsg_app ?_
 intro X k0 k a Q' hn hat hk
 refine hA X k0 k a Q' hn hat fun k' a' s' h' hat' hkept => hk k' a' s' ?_ hat' hkept
 obtain ⟨f, ds, hc, hp⟩ := h'
 have ho' : ops[m]? = some o := by rw [← ho]; simp
 refine aopsg_call ho' hg hop hc (hp.mono (fun r h n hq => ?_) fun _ _ _ hq => hq)
 refine aopsg_of ?_
 have hA2 := aops_dataP (n0 := n0) (ro := none) hO (ops.toList.drop (m + 1)) (m + 1) _ _ (fun j _ => by rw [List.getElem?_drop]; simp) hq
 rw [hdl] at hA2
 exact hA2
theorem awg_regionD (hO : OkO P O) {TT : Tl} {id : Nat} {l : List Oper} {s : St} {Q : ExP → St → Prop} (h : phK P O l.toArray false false l s [] [] fun s' _ _ => Q (.ex .normal) s') : AWG P w0 n0 TT (.region id l.toArray false) s Q :=
 awg_region (by
  have := aops_data (n0 := n0) (ro := none) hO (ops := l.toArray) l 0 s _ (fun j => by simp) h
  simpa using this)
variable (Q : ExP → St → Prop) (K : St → Prop) (s : St)
theorem blockP_normal (id : Nat) : blockP id Q (.ex .normal) s = Q (.ex .normal) s := (rfl)
theorem blockP_ret (id : Nat) : blockP id Q (.ex .ret) s = Q (.ex .ret) s := (rfl)
theorem blockP_panic (id : Nat) (ch : List PanicEntry) : blockP id Q (.panic ch) s = Q (.panic ch) s := (rfl)
theorem blockP_same (id : Nat) : blockP id Q (.ex (.exit id)) s = Q (.ex .normal) s := by simp [blockP]
theorem thenP_normal : thenP K Q (.ex .normal) s = K s := (rfl)
theorem thenP_ret : thenP K Q (.ex .ret) s = Q (.ex .ret) s := (rfl)
theorem thenP_exit (id : Nat) : thenP K Q (.ex (.exit id)) s = Q (.ex (.exit id)) s := (rfl)
theorem thenP_panic (ch : List PanicEntry) : thenP K Q (.panic ch) s = Q (.panic ch) s := (rfl)
theorem endKP_ret (rs : List ResultVar) (Q : D → H → Nat → Prop) (R : List PanicEntry → H → Nat → Prop) (env : Env) (h : H) (nid n : Nat) : endKP P rs Q R (.ex .ret) ⟨env, h, nid, n⟩ = Zo (resD P ⟨env, h, nid, n⟩ rs) (fun ds => Q (tupD ds) h nid) ⟨⟩ := (rfl)
theorem endKP_normal (rs : List ResultVar) (Q : D → H → Nat → Prop) (R : List PanicEntry → H → Nat → Prop) (env : Env) (h : H) (nid n : Nat) : endKP P rs Q R (.ex .normal) ⟨env, h, nid, n⟩ = Zo (resD P ⟨env, h, nid, n⟩ rs) (fun ds => Q (tupD ds) h nid) ⟨⟩ := (rfl)
theorem endKP_panic (rs : List ResultVar) (Q : D → H → Nat → Prop) (R : List PanicEntry → H → Nat → Prop) (ch : List PanicEntry) : endKP P rs Q R (.panic ch) s = R ch s.h s.nid := (rfl)
set_option linter.defProp false
def RG := And.intro @blockP_normal <| And.intro @blockP_ret <| And.intro @blockP_panic <| And.intro @blockP_same <| And.intro @thenP_normal <| And.intro @thenP_ret <| And.intro @thenP_exit <| And.intro @thenP_panic <| And.intro @endKP_ret <| And.intro @endKP_normal @endKP_panic
end Go.Sx

/- Sx: drawn regions with a call that needs the first world. Own work. -/
namespace Go.Sx
variable {P : Program} {O : Oracle} {w0 : World} {n0 : Nat}

def OpOkG (P : Program) (w0 : World) (n0 : Nat) (o : Oper) (s : St) (K : St → Prop) : Prop :=
 ∀ X k0 k a (Q : Exit → Act → World → Prop) (Kc : Act → World → Prop), k0.nid = n0 → Fr w0 k0 → At X k0 k a s →
  (∀ k' a' s', K s' → At X k0 k' a' s' → Le k k' → Kept1 o a a' → Kc a' k'.w) → o.wpIn (FW none) 0 P a k.w Kc Q
theorem OpOk.g {o : Oper} {s : St} {K : St → Prop} (h : OpOk P n0 none o s K) : OpOkG P w0 n0 o s K := fun X k0 k a Q Kc hn _ hat hk => h X k0 k a Q Kc hn hat hk
theorem opOkG_call {o : Oper} {c : Call} {s : St} {K : St → Prop} {f : FuncId} {ds : List D} (ho : o.op = .call c) (hcal : calleeD s.env c = some (f, ds))
  (h : PCallG P w0 f ds s.h s.nid (fun r h' nid' => K (St.put { s with h := h', nid := nid' } o.dst r)) fun _ _ _ => False) : OpOkG P w0 n0 o s K := by
 intro X k0 k a Q Kc hn hfr hat hk
 refine ⟨fun _ _ => trivial, ?_⟩
 rw [semAt_eq _ _ (by rw [ho]; simp)]
 unfold calleeD at hcal
 split at hcal
 ·rename_i x hx
  split at hcal
  ·rename_i f' first cap hf
   cases hcal
   have hr := hat.act.eval x
   rw [hf] at hr
   obtain ⟨callee, args, argTypes⟩ := c
   dsimp only at hx
   subst hx
   generalize hv : a.eval x = v at hr
   cases hr with
   | fn _ _ va vc _ _ h1 h2 h3 h4 =>
    have hrun : (execOp a.eval o).run P k.w = .ok (.enter f (va ++ args.toList.map a.eval ++ vc).toArray) k.w := by
     unfold execOp
     rw [ho]
     simp only [resolve, Sem.run_bind, hv, Deferred.ofValue, Sem.run_pure, Result.andThen_ok, invoke]
     rw [run_callFunc h.1]
     congr 2
     apply Array.ext'
     simp
    rw [hrun]
    refine ⟨by simp [FW, Fence.wide], callsIn_of_calls ?_⟩
    have hl : RelL (k.R X) k.nid (va ++ args.toList.map a.eval ++ vc) (first ++ args.toList.map (evO s.env) ++ cap) :=
     (RelL.append ⟨h1, h3⟩ (RelL.map (fun x => hat.act.eval x) _)).append ⟨h2, h4⟩
    refine (h.2 X k _ (hfr.le hat.le) hat.h hat.nid hat.good hl).mono ?_
    rintro e w' ⟨k', rfl, hg', hle, ⟨v', r, rfl, hK, hrel⟩ | ⟨_, _, hK⟩⟩
    ·have hact : ActOk X k' k0.w.heap.size a s.env s.n := hat.act.le hat.good hle
     refine hk k' _ _ hK ⟨?_, ?_, hg', hat.le.trans hle, ?_⟩ hle (kept1_put _ _ _)
     ·rw [put_h]
     ·rw [put_nid]
     ·exact ActOk.put (s := { s with h := k'.h, nid := k'.nid }) hact o.dst hrel
    ·exact hK.elim
  ·cases hcal
 ·cases hcal
theorem awg_graph (hm : P.follows .mixedOrders = true) {id : Nat} {ops : Array Oper} {s : St} {Q : ExP → St → Prop} (hbk : backOk ops = true) (J : (Nat → Prop) → St → Prop) (h0 : J (fun _ => False) s)
  (hstep : ∀ (L : Nat → Prop) (s : St) (i : Nat) (o : Oper), J L s → (∀ a j, L a → bef (masks ops) j a = true → L j) → ops[i]? = some o → ¬ L i → (∀ j ∈ bnd o, L j) → o.guard = none ∧ OpOkG P w0 n0 o s (fun s' => ∃ s2, Imp n0 s' s2 ∧ J (fun j => j = i ∨ L j) s2))
  (hend : ∀ (L : Nat → Prop) (s : St), J L s → (∀ i, i < ops.size → L i) → Q (.ex .normal) s) : AWG P w0 n0 (false, []) (.region id ops true) s Q := by
 have hb := back_of hbk
 intro X k0 k a hn hfr hatT
 have hat := hatT.nil
 refine wpIn_region_any hm ?_
 have hle : Le k { k with w := { k.w with drawn := k.w.drawn + 1 } } := le_world rfl rfl rfl (Nat.le_refl _) fun _ _ => rfl
 have hat' : At X k0 { k with w := { k.w with drawn := k.w.drawn + 1 } } a s := ⟨hat.h, hat.nid, hat.good.world hle fun _ _ => rfl, hat.le.trans hle, hat.act.le hat.good hle⟩
 have key : ∀ (fuel : Nat) (listed : Array Bool) (k : Cx) (a : Act) (s : St), listed.size = ops.size → (∀ i o, ops[i]? = some o → Ran listed i → ∀ j ∈ bnd o, Ran listed j) → J (fun i => i < ops.size ∧ Ran listed i) s → At X k0 k a s → unl (fun i => listed.getD i true) ops.size ≤ fuel → wpAnyIn (FW none) 0 P .any ops (PostT (false, []) X k0 Q) fuel listed a k.w := by
  intro fuel
  induction fuel with
  | zero =>
   intro listed k a s hs hcl hJ hat hf
   have hall : ∀ i, i < ops.size → Ran listed i := fun i hi => by
    cases hg : listed.getD i true with
    | true =>
     have hlt : i < listed.size := by rw [hs]; exact hi
     simp only [Ran, Array.getD_eq_getD_getElem?, Array.getElem?_eq_getElem hlt] at hg ⊢
     simpa using hg
    | false => have := unl_pos (f := fun i => listed.getD i true) hi hg; omega
   refine ⟨?_, .ex .normal, k, s, rfl, rfl, hend _ s hJ fun i hi => ⟨hi, hall i hi⟩, hat.toT⟩
   cases hq : Region.ready .any ops listed with
   | nil => rfl
   | cons i r =>
    have hi : i ∈ Region.ready .any ops listed := by rw [hq]; simp
    obtain ⟨o, ho, hnr, _⟩ := (mem_ready hs).1 hi
    exact absurd (hall i (lt_of_arr ho)) hnr
  | succ fuel ih =>
   intro listed k a s hs hcl hJ hat hf
   refine ⟨fun hnil => ?_, fun i hi => ?_⟩
   ·refine ⟨.ex .normal, k, s, rfl, rfl, hend _ s hJ fun i hi => ⟨hi, ?_⟩, hat.toT⟩
    exact ran_all hb hs hnil i hi
   ·obtain ⟨o, ho, hnr, hr⟩ := (mem_ready hs).1 hi
    have hilt : i < ops.size := lt_of_arr ho
    have hsz : i < listed.size := by rw [hs]; exact hilt
    have hfuel : unl (fun j => (listed.setIfInBounds i true).getD j true) ops.size ≤ fuel := by
     have hs := (unl_set (f := fun j => listed.getD j true) (g := fun j => (listed.setIfInBounds i true).getD j true) (i := i) (by
      simp only [Ran, Array.getD_eq_getD_getElem?, Array.getElem?_eq_getElem hsz] at hnr ⊢
      simpa using hnr) (by simp [Array.getD_eq_getD_getElem?, Array.getElem?_setIfInBounds_self_of_lt hsz]) (fun j hj => by
      simp only [Array.getD_eq_getD_getElem?, Array.getElem?_setIfInBounds_ne (Ne.symm hj)]) ops.size).2 hilt
     omega
    obtain ⟨hg, hok⟩ := hstep _ s i o hJ (fun a j ha hj => by
     have hoa : ops[a]? = some ops[a] := by simp [ha.1]
     have := bef_sound hb hcl a _ hoa (hcl a _ hoa ha.2) j hj
     exact ⟨by have := ran_lt this; omega, this⟩) ho (fun h => hnr h.2) fun j hj => ⟨by have := ran_lt (hr j hj); omega, hr j hj⟩
    have hw : Region.wanted o (yielded ops a.tmps) = true := by unfold Region.wanted; rw [hg]
    simp only [wpOpIn, ho, hw, if_true]
    refine hok X k0 k a _ _ hn hfr hat fun k' a' s1 hJ1 hat1 hle _ => ?_
    obtain ⟨s', hi', hJ'⟩ := hJ1
    obtain ⟨k2, ek, hat'⟩ := hi' X k0 k' a' hn hat1
    rw [← ek]
    refine ih _ k2 a' s' (by simpa using hs) (fun j oj hj hran x hx => by
     rcases (ran_set hsz).1 hran with rfl | hran
     ·rw [ho] at hj; cases hj; exact (ran_set hsz).2 (.inr (hr x hx))
     ·exact (ran_set hsz).2 (.inr (hcl j oj hj hran x hx))) ?_ hat' hfuel
    have e : (fun j => j < ops.size ∧ Ran (listed.setIfInBounds i true) j) = fun j => j = i ∨ (j < ops.size ∧ Ran listed j) := funext fun j => propext (by
     rw [ran_set hsz]
     constructor
     ·rintro ⟨h1, h2 | h2⟩
      ·exact .inl h2
      ·exact .inr ⟨h1, h2⟩
     ·rintro (rfl | ⟨h1, h2⟩)
      ·exact ⟨hilt, .inl rfl⟩
      ·exact ⟨h1, .inr h2⟩)
    rw [e]; exact hJ'
 refine key ops.size _ _ a s (by simp) (fun i o ho h => by
  have := ran_lt h
  simp only [Array.size_replicate] at this
  simp [Ran, Array.getD_eq_getD_getElem?, this] at h) ?_ hat' (unl_le _ _)
 have e : (fun i => i < ops.size ∧ Ran (Array.replicate ops.size false) i) = fun _ => False := funext fun i => propext ⟨fun h => by
  have := h.2
  simp [Ran, Array.getD_eq_getD_getElem?, h.1] at this, fun h => h.elim⟩
 rw [e]; exact h0


theorem awg_drawP (hO : OkO P O) (hm : P.follows .mixedOrders = true) {id : Nat} {ops : Array Oper} {s : St} {Q : ExP → St → Prop} (val : Nat → D) (hbk : backOk ops = true) (hd : dstOk ops s.n = true)
  (hop : ∀ (L : Nat → Prop) (i : Nat) (o : Oper) (e : Env), (∀ a j, L a → bef (masks ops) j a = true → L j) → ops[i]? = some o → ¬ L i → (∀ j ∈ bnd o, L j) → SlotsI ops s.env L val e →
   o.guard = none ∧ (resK P O true false o.op e s.h s.nid (fun d h' nid' => d = val i ∧ h' = s.h ∧ nid' = s.nid) ∨
    ∃ c f ds, o.op = .call c ∧ calleeD e c = some (f, ds) ∧ PCallG P w0 f ds s.h s.nid (fun r h' nid' => r = val i ∧ h' = s.h ∧ nid' = s.nid) fun _ _ _ => False))
  (hend : ∀ (L : Nat → Prop) (e : Env), (∀ i, i < ops.size → L i) → SlotsI ops s.env L val e → Q (.ex .normal) ⟨e, s.h, s.nid, s.n⟩) : AWG P w0 n0 (false, []) (.region id ops true) s Q := by
 refine awg_graph hm hbk (fun L s' => ∃ e, s' = ⟨e, s.h, s.nid, s.n⟩ ∧ SlotsI ops s.env L val e) ⟨s.env, rfl, ⟨fun _ _ => rfl, fun _ _ _ _ h => h.elim⟩⟩ ?_ ?_
 ·rintro L _ i o ⟨e, rfl, hsl⟩ hcl ho hnr hr
  obtain ⟨hg, hres⟩ := hop L i o e hcl ho hnr hr hsl
  have key : ∀ d h' nid', (d = val i ∧ h' = s.h ∧ nid' = s.nid) → ∃ s2, Imp n0 (St.put ⟨e, h', nid', s.n⟩ o.dst d) s2 ∧ ∃ e, s2 = ⟨e, s.h, s.nid, s.n⟩ ∧ SlotsI ops s.env (fun j => j = i ∨ L j) val e := by
   rintro d h' nid' ⟨rfl, rfl, rfl⟩
   refine ⟨_, imp_refl _, (St.put ⟨e, s.h, s.nid, s.n⟩ o.dst (val i)).env, put_eta _ _ _ _ _ _, slotsI_keep hd ho hsl hnr (fun _ _ => rfl) _ _ _ rfl⟩
  rcases hres with hres | ⟨c, f, ds, hop, hc, hp⟩
  ·obtain ⟨d, h', nid', hs1, hk⟩ := ostep_resK hO (s := ⟨e, s.h, s.nid, s.n⟩) hres
   exact ⟨hg, OpOk.g (opOk_ostep hs1 (key _ _ _ hk))⟩
  ·exact ⟨hg, opOkG_call hop hc (hp.mono (fun r h n hq => key r h n hq) fun _ _ _ h => h)⟩
 ·rintro L _ ⟨e, rfl, hsl⟩ hall
  exact hend L e hall hsl
theorem look_in {e e' : Env} (he : ∀ p ∈ e', look e p.1 = p.2) (t : Nat) : look e' t = .any ∨ look e t = look e' t := by
 induction e' with
 | nil => exact .inl rfl
 | cons p r ih =>
  obtain ⟨i, d⟩ := p
  simp only [look]
  split
  ·rename_i h
   right
   have := he (i, d) (by simp)
   first | rw [← h]; exact this | rw [h]; exact this | (subst h; exact this)
  ·exact ih fun q hq => he q (by simp [hq])
theorem imp_env {e e' : Env} {h : H} {nid n : Nat} (hn : n0 ≤ nid) (hk : ∀ id blk, hget h id = some blk → id < nid) (he : ∀ p ∈ e', look e p.1 = p.2) : Imp n0 ⟨e, h, nid, n⟩ ⟨e', h, nid, n⟩ :=
 .weak { n := rfl, env := fun t => (look_in he t).imp id fun h => ⟨h, .inl (Nat.le_refl _)⟩, sub := fun _ _ h => h, key := hk, nid := hn, roll := .inl (Nat.le_refl _) }
theorem key_box {cs : List D} {nid : Nat} (hn : 1 ≤ nid) : ∀ id blk, hget [(0, Blk.box cs)] id = some blk → id < nid := fun id blk h => by
 simp only [hget] at h
 split at h
 ·omega
 ·cases h
end Go.Sx
