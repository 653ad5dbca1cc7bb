/- Own work: a calculus of contracts for the programs of this kit: parts SxZ29, SxZ30. -/
import Derived.Test.YtjhoplbdpdbgaaaGreatDoorSxMi
set_option linter.unusedVariables false
set_option linter.unusedSimpArgs false
namespace Go.Sx
open Go.RowKit (Below)
variable {P : Program} {X : Nat → Prop} {n0 : Nat} {ro : Option Nat}
section
variable {k : Cx} {w' : World} {v : Value} {ty : TypeId} {sz : Nat} {es : List (List D)}
end
end Go.Sx

/- Sx: drawn regions with forgetting steps between their operations. Own work. -/
namespace Go.Sx
variable {P : Program} {n0 : Nat} {ro : Option Nat}
structure SlotsI (ops : Array Oper) (base : Env) (L : Nat → Prop) (val : Nat → D) (e : Env) : Prop where
 old : ∀ t, (∀ (j : Nat) o', ops[j]? = some o' → L j → o'.dst ≠ some t) → look e t = look base t
 new : ∀ (j : Nat) o' t, ops[j]? = some o' → L j → o'.dst = some t → look e t = val j
theorem SlotsI.base {ops : Array Oper} {b : Env} {L : Nat → Prop} {val : Nat → D} {e : Env} (h : SlotsI ops b L val e) (t : Nat) (ht : (ops.toList.all fun o => match o.dst with | some u => !(Nat.beq u t) | none => true) = true) : look e t = look b t :=
 h.old t fun j o' ho _ hd => by
  have := List.all_eq_true.1 ht o' (List.mem_of_getElem? (by simpa using ho))
  rw [hd] at this; simp at this
theorem slotsI_keep {ops : Array Oper} {base : Env} {L : Nat → Prop} {v v' : Nat → D} {e : Env} {i : Nat} {o : Oper} {n : Nat} (hd : dstOk ops n = true) (ho : ops[i]? = some o) (hsl : SlotsI ops base L v e) (hnr : ¬ L i) (hext : ∀ j, L j → v' j = v j) (h : H) (nid : Nat) (d : D) (hv : d = v' i) :
  SlotsI ops base (fun j => j = i ∨ L j) v' (St.put ⟨e, h, nid, n⟩ o.dst d).env := by
 simp only [dstOk, Bool.and_eq_true, decide_eq_true_eq] at hd
 have huniq := fun (i j : Nat) x y (t : Nat) (hx : ops[i]? = some x) (hy : ops[j]? = some y) (a : x.dst = some t) (b : y.dst = some t) => nodup_fm (·.dst) hd.1 i j x y t (by simpa using hx) (by simpa using hy) a b
 have hlt : ∀ (i : Nat) x (t : Nat), ops[i]? = some x → x.dst = some t → t < n := fun i x t hx ht => by
  have := List.all_eq_true.1 hd.2 t (List.mem_filterMap.2 ⟨x, List.mem_of_getElem? (by simpa using hx), ht⟩)
  exact Nat.le_of_ble_eq_true this
 subst hv
 refine ⟨fun t ht => ?_, fun j o' t hj hL ht => ?_⟩
 ·rw [look_put, if_neg fun h => ht i o ho (.inl rfl) h.1]
  exact hsl.old t fun j o' hj hL => ht j o' hj (.inr hL)
 ·rw [look_put]
  by_cases hji : j = i
  ·subst hji
   rw [ho] at hj; cases hj
   rw [if_pos ⟨ht, hlt j o t ho ht⟩]
  ·rw [if_neg fun h => hji (huniq j i o' o t hj ho ht h.1)]
   rcases hL with hL | hL
   ·exact absurd hL hji
   ·rw [hext j hL]; exact hsl.new j o' t hj hL ht
theorem put_eta (e : Env) (h : H) (nid n : Nat) (dst : Option Tmp) (d : D) : St.put ⟨e, h, nid, n⟩ dst d = ⟨(St.put ⟨e, h, nid, n⟩ dst d).env, h, nid, n⟩ := by
 have e1 := put_h ⟨e, h, nid, n⟩ dst d
 have e2 := put_nid ⟨e, h, nid, n⟩ dst d
 have e3 := put_n ⟨e, h, nid, n⟩ dst d
 generalize St.put ⟨e, h, nid, n⟩ dst d = z at *
 obtain ⟨a, b, c, x⟩ := z
 simp only at e1 e2 e3
 rw [e1, e2, e3]
theorem imp_refl {n0 : Nat} (s : St) : Imp n0 s s := fun _ _ k _ _ hat => ⟨k, rfl, hat⟩
theorem SlotsI.old1 {ops : Array Oper} {b : Env} {L : Nat → Prop} {val : Nat → D} {e : Env} (h : SlotsI ops b L val e) (t k : Nat) (ht : (ops.toList.zipIdx.all fun p => match p.1.dst with | some u => !(Nat.beq u t) || Nat.beq p.2 k | none => true) = true) (hk : ¬ L k) : look e t = look b t :=
 h.old t fun j o' ho hL hd => by
  have := List.all_eq_true.1 ht (o', j) (List.mem_zipIdx_iff_getElem?.2 (by simpa using ho))
  simp only [hd] at this
  have e1 : Nat.beq t t = true := by simp
  rw [e1] at this
  have e2 : j = k := by simpa using this
  exact hk (e2 ▸ hL)
end Go.Sx
