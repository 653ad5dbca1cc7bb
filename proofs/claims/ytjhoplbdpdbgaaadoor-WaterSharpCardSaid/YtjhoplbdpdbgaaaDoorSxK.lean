/- Sx, part K: conditions to be proved, out of code, and that they suffice. Own work. -/
import Derived.Test.YtjhoplbdpdbgaaaDoorSxJ
set_option linter.unusedVariables false
set_option linter.unusedSimpArgs false
namespace Go.Sx

/-- Two ways. -/
def BR (t : Bool) (p q : Prop) : Prop := (t = true → p) ∧ (t = false → q)

/-- An operation that calls a function. -/
def callK (P : Program) (o : Oper) (s : St) (K : St → Prop) : Prop :=
  match o.op with
  | .call c =>
    match calleeD s.env c with
    | some (f, ds) => ACall P f ds s.h s.nid fun r h' nid' => K (St.put { s with h := h', nid := nid' } o.dst r)
    | none => False
  | _ => False

def effK (P : Program) (o : Oper) (s : St) (K : St → Prop) : Prop :=
  match opF P o.op (evO s.env) s.h s.nid with
  | some (d, h', nid') => K (St.put { s with h := h', nid := nid' } o.dst d)
  | none => False

def readK (P : Program) (o : Oper) (s : St) (K : St → Prop) : Prop :=
  match opR P o.op (evO s.env) s.h with
  | some d => K (s.put o.dst d)
  | none => False

/-- Which of the three an operation is, by its form. -/
inductive Kind where
  | read
  | eff
  | call

def kindOf (op : Op) : Kind :=
  match op with
  | .alloc _ | .box _ _ | .store _ _ _ | .buildSlice _ _ _ => .eff
  | .call c =>
    match c.callee with
    | .builtin .append => .eff
    | .builtin _ => .read
    | _ => .call
  | _ => .read

def stepK (P : Program) (o : Oper) (s : St) (K : St → Prop) : Prop :=
  match kindOf o.op with
  | .read => readK P o s K
  | .eff => effK P o s K
  | .call => callK P o s K

def vcOps (P : Program) (ops : Array Oper) : List Oper → St → (St → Prop) → Prop
  | [], s, K => K s
  | o :: rest, s, K =>
    match o.guard with
    | none => stepK P o s fun s' => vcOps P ops rest s' K
    | some (j, want) =>
      match slotOf ops j with
      | some t =>
        match look s.env t with
        | .bool b => BR (b == want) (stepK P o { s with env := (t, .bool want) :: s.env } fun s' => vcOps P ops rest s' K)
            (vcOps P ops rest (St.put { s with env := (t, .bool !want) :: s.env } o.dst (.tup [])) K)
        | _ => False
      | none => False

/-- What is to be proved of a loop, or of a region that draws its order. -/
def AWpL (P : Program) (n0 : Nat) (ro : Option Nat) (c : Code) (s : St) (Q : Ex → St → Prop) : Prop := AWp P n0 ro c s Q

def vc (P : Program) (n0 : Nat) (ro : Option Nat) : Code → St → (Ex → St → Prop) → Prop
  | .skip, s, Q => Q .normal s
  | .label _, s, Q => Q .normal s
  | .exit id, s, Q => Q (.exit id) s
  | .ret, s, Q => Q .ret s
  | .seq a b, s, Q => vc P n0 ro a s (thenQ (fun s' => vc P n0 ro b s' Q) Q)
  | .cond c a b, s, Q =>
    match evO s.env c with
    | .bool t => BR t (vc P n0 ro a s Q) (vc P n0 ro b s Q)
    | _ => False
  | .block id c, s, Q => vc P n0 ro c s (blockQ id Q)
  | .region id ops false, s, Q => vcOps P ops ops.toList s (Q .normal)
  | c, s, Q => AWpL P n0 ro c s Q

section
variable {P : Program} {n0 : Nat} {ro : Option Nat}

theorem opOk_stepK {o : Oper} {s : St} {K : St → Prop} (h : stepK P o s K) : OpOk P n0 ro o s K := by
  unfold stepK at h
  split at h
  · unfold readK at h
    split at h
    · rename_i d hd; exact opOk_read hd h
    · exact h.elim
  · unfold effK at h
    split at h
    · rename_i d h' nid' hd; exact opOk_eff hd h
    · exact h.elim
  · unfold callK at h
    split at h
    · rename_i c ho
      split at h
      · rename_i f ds hcal; exact opOk_call ho hcal h
      · exact h.elim
    · exact h.elim

theorem OpOk.mono {o : Oper} {s : St} {K K' : St → Prop} (h : OpOk P n0 ro o s K) (hk : ∀ s, K s → K' s) : OpOk P n0 ro o s K' :=
  fun X k0 k a Q Kc hn hat hkc => h X k0 k a Q Kc hn hat fun k' a' s' hs hat' hl => hkc k' a' s' (hk s' hs) hat' hl

theorem stepK_mono {o : Oper} {s : St} {K K' : St → Prop} (h : stepK P o s K) (hk : ∀ s, K s → K' s) : stepK P o s K' := by
  unfold stepK at h ⊢
  split
  · rename_i hkd
    rw [hkd] at h
    unfold readK at h ⊢
    split
    · rename_i d hd; rw [hd] at h; exact hk _ h
    · rename_i hd; rw [hd] at h; exact h
  · rename_i hkd
    rw [hkd] at h
    unfold effK at h ⊢
    split
    · rename_i d h' nid' hd; rw [hd] at h; exact hk _ h
    · rename_i hd; rw [hd] at h; exact h
  · rename_i hkd
    rw [hkd] at h
    replace h : callK P o s K := h
    unfold callK at h ⊢
    generalize o.op = op at h ⊢
    cases op with
    | call c =>
      dsimp only at h ⊢
      cases hcal : calleeD s.env c with
      | none => rw [hcal] at h; exact h
      | some p => rw [hcal] at h; exact ACall.mono h fun _ _ _ => hk _
    | _ => exact h.elim

theorem aops_of_vc {ops : Array Oper} {K : St → Prop} : ∀ (l : List Oper) (i : Nat) (s : St), (∀ j, l[j]? = ops[i + j]?) → vcOps P ops l s K → AOps P n0 ro ops ((List.range l.length).map (i + ·)) s K
  | [], i, s, _, h => aops_nil h
  | o :: rest, i, s, hl, h => by
    have ho : ops[i]? = some o := by have := hl 0; simpa using this.symm
    have hrest : ∀ j, rest[j]? = ops[i + 1 + j]? := fun j => by have := hl (j + 1); simp at this; rw [this]; congr 1; omega
    have hmap : (List.range (o :: rest).length).map (i + ·) = i :: (List.range rest.length).map (i + 1 + ·) := by
      rw [List.length_cons, List.range_succ_eq_map, List.map_cons, List.map_map]
      simp only [Nat.add_zero, List.cons.injEq, true_and]
      apply List.map_congr_left
      intro a _
      simp only [Function.comp]; omega
    rw [hmap]
    simp only [vcOps] at h
    split at h
    · rename_i hg
      exact aops_cons ho hg ((opOk_stepK h).mono fun s' hs' => aops_of_vc rest (i + 1) s' hrest hs')
    · rename_i j want hg
      split at h
      · rename_i t hj
        split at h
        · rename_i b hb
          refine aops_guard ho hg hj hb (fun e => ?_) (fun e => ?_)
          · exact (opOk_stepK (h.1 (by subst e; simp))).mono fun s' hs' => aops_of_vc rest (i + 1) s' hrest hs'
          · exact aops_of_vc rest (i + 1) _ hrest (h.2 (by subst e; cases want <;> rfl))
        · exact h.elim
      · exact h.elim

/-- **The conditions suffice.** -/
theorem vc_sound : ∀ (c : Code) (s : St) (Q : Ex → St → Prop), vc P n0 ro c s Q → AWp P n0 ro c s Q
  | .skip, s, Q, h => awp_skip h
  | .label _, s, Q, h => awp_label h
  | .exit _, s, Q, h => awp_exit h
  | .ret, s, Q, h => awp_ret h
  | .seq a b, s, Q, h => awp_seq (awp_mono (vc_sound a s _ h) fun e s' h' => by
      cases e with
      | normal => exact vc_sound b s' Q h'
      | exit id => exact h'
      | ret => exact h')
  | .cond c a b, s, Q, h => by
    simp only [vc] at h
    split at h
    · rename_i t ht
      exact awp_cond ht (fun e => vc_sound a s Q (h.1 e)) (fun e => vc_sound b s Q (h.2 e))
    · exact h.elim
  | .block id c, s, Q, h => awp_block (vc_sound c s _ h)
  | .region id ops false, s, Q, h => by
    refine awp_region ?_
    have := aops_of_vc (n0 := n0) (ro := ro) ops.toList 0 s (fun j => by simp) h
    simpa using this
  | .region id ops true, s, Q, h => h
  | .loop c, s, Q, h => h
  | .rangeFunc f p a b, s, Q, h => h
  | .scope c, s, Q, h => h
  | .goto l, s, Q, h => h
  | .refuse w, s, Q, h => h

/-- A contract on data out of the conditions. -/
theorem pure_of_vc {f : FuncId} {fn : Func} {c : Code} {ds : List D} {r : D} (hf : P.funcs[f]? = some fn) (hb : fn.body = some c) (hcal : callable P f = true)
    (h : vc P 0 none c { env := argEnv 0 ds, h := [], nid := 0, n := ds.length + (fn.ntmps - ds.length) } (endQ P fn fun d h _ => view h d = r)) : Pure P f ds r :=
  pure_of_awp hf hb hcal (vc_sound _ _ _ h)

end
end Go.Sx
