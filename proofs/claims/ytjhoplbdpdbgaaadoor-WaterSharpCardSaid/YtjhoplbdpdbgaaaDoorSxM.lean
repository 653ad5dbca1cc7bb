/- Sx, part M: regions that draw their order: operations that may come at any time. Own work. -/
import Derived.Test.YtjhoplbdpdbgaaaDoorSxL
set_option linter.unusedVariables false
set_option linter.unusedSimpArgs false
namespace Go.Sx

section
variable {P : Program} {n0 : Nat} {ro : Option Nat}

theorem callQ_congr {c : Call} {ρ ρ' : Operand → D} {h : H} (he : ∀ x ∈ c.args.toList, ρ x = ρ' x) : callQ P c ρ h = callQ P c ρ' h := by
  obtain ⟨callee, args, argTypes⟩ := c
  dsimp only at he
  unfold callQ
  dsimp only
  generalize args.toList = l at he
  cases callee with
  | builtin b =>
    cases b <;> try rfl
    · cases l with
      | nil => rfl
      | cons x xs =>
        cases xs with
        | nil =>
          generalize argTypes.toList = ts
          match ts with
          | [t] => simp only [he x (by simp)]
          | [] => rfl
          | _ :: _ :: _ => rfl
        | cons y ys => rfl
    · cases l with
      | nil => rfl
      | cons x xs => simp only [he x (by simp), List.map_congr_left (fun y hy => he y (List.mem_cons_of_mem _ hy))]
    · cases l with
      | nil => rfl
      | cons x xs => simp only [he x (by simp), List.map_congr_left (fun y hy => he y (List.mem_cons_of_mem _ hy))]
  | _ => rfl

theorem opQ_congr {op : Op} {ρ ρ' : Operand → D} {h : H} (he : ∀ x ∈ op.operands.toList, ρ x = ρ' x) : opQ P op ρ h = opQ P op ρ' h := by
  cases op with
  | call c =>
    refine callQ_congr fun x hx => he x ?_
    simp only [Op.operands, Call.operands, Array.toList_append, List.mem_append]
    exact .inr hx
  | slice t x lo hi m =>
    cases m with
    | none =>
      have h1 : ρ x = ρ' x := he x (by simp [Op.operands])
      have h2 : lo.map ρ = lo.map ρ' := by
        cases lo with
        | none => rfl
        | some y => simp only [Option.map_some]; rw [he y (by simp [Op.operands])]
      have h3 : hi.map ρ = hi.map ρ' := by
        cases hi with
        | none => rfl
        | some y => simp only [Option.map_some]; rw [he y (by simp [Op.operands])]
      simp only [opQ, h1, h2, h3]
    | some m => rfl
  | makeFunc fn f c =>
    have h1 : f.toList.map ρ = f.toList.map ρ' := List.map_congr_left fun x hx => he x (by simp only [Op.operands, Array.toList_append, List.mem_append]; exact .inl hx)
    have h2 : c.toList.map ρ = c.toList.map ρ' := List.map_congr_left fun x hx => he x (by simp only [Op.operands, Array.toList_append, List.mem_append]; exact .inr hx)
    simp only [opQ, h1, h2]
  | unOp u t x => cases u <;> simp only [opQ] <;> simp only [he x (by simp [Op.operands])]
  | move x => simp only [opQ]; rw [he x (by simp [Op.operands])]
  | assign x => simp only [opQ]; rw [he x (by simp [Op.operands])]
  | pick c x y => simp only [opQ]; rw [he c (by simp [Op.operands]), he x (by simp [Op.operands]), he y (by simp [Op.operands])]
  | nilCheck x => simp only [opQ]; rw [he x (by simp [Op.operands])]
  | binOp b t x y u => simp only [opQ]; rw [he x (by simp [Op.operands]), he y (by simp [Op.operands])]
  | convert s d x => simp only [opQ]; rw [he x (by simp [Op.operands])]
  | extract x i => simp only [opQ]; rw [he x (by simp [Op.operands])]
  | makeInterface t x => simp only [opQ]; rw [he x (by simp [Op.operands])]
  | fieldAddr t x f => simp only [opQ]; rw [he x (by simp [Op.operands])]
  | field t x f => simp only [opQ]; rw [he x (by simp [Op.operands])]
  | index t x y => simp only [opQ]; rw [he x (by simp [Op.operands]), he y (by simp [Op.operands])]
  | indexAddr t x y => simp only [opQ]; rw [he x (by simp [Op.operands]), he y (by simp [Op.operands])]
  | load t x => simp only [opQ]; rw [he x (by simp [Op.operands])]
  | lookup t x y ok => simp only [opQ]; rw [he x (by simp [Op.operands]), he y (by simp [Op.operands])]
  | _ => rfl

theorem parts_congr {ps : Array (Nat × Operand)} {ρ ρ' : Operand → D} (he : ∀ x ∈ (ps.toList.map (·.2)), ρ x = ρ' x) :
    (ps.toList.map fun p => (p.1, ρ p.2)) = ps.toList.map fun p => (p.1, ρ' p.2) :=
  List.map_congr_left fun p hp => by rw [he p.2 (List.mem_map_of_mem hp)]

theorem opR_congr {op : Op} {ρ ρ' : Operand → D} {h : H} (he : ∀ x ∈ op.operands.toList, ρ x = ρ' x) : opR P op ρ h = opR P op ρ' h := by
  cases op with
  | build t ps => simp only [opR]; rw [parts_congr fun x hx => he x (by simpa [Op.operands] using hx)]
  | convert s d x => simp only [opR]; rw [he x (by simp [Op.operands]), opQ_congr (P := P) (h := h) he]
  | _ => exact opQ_congr (P := P) (h := h) he

theorem opF_congr {op : Op} {ρ ρ' : Operand → D} {h : H} {nid : Nat} (he : ∀ x ∈ op.operands.toList, ρ x = ρ' x) : opF P op ρ h nid = opF P op ρ' h nid := by
  cases op with
  | buildSlice t n ps => simp only [opF]; rw [parts_congr fun x hx => he x (by simpa [Op.operands] using hx)]
  | call c =>
    have he' : ∀ x ∈ c.args.toList, ρ x = ρ' x := fun x hx => he x (by simp only [Op.operands, Call.operands, Array.toList_append, List.mem_append]; exact .inr hx)
    obtain ⟨callee, args, argTypes⟩ := c
    simp only [opF]
    dsimp only at he' ⊢
    generalize args.toList = l at he'
    generalize argTypes.toList = ts
    cases callee with
    | builtin b =>
      cases b <;> try rfl
      match l, ts with
      | [x, y], [t, t'] => simp only [he' x (by simp), he' y (by simp)]
      | [], _ => rfl
      | [_], _ => rfl
      | _ :: _ :: _ :: _, _ => rfl
      | [_, _], [] => rfl
      | [_, _], [_] => rfl
      | [_, _], _ :: _ :: _ :: _ => rfl
    | _ => rfl
  | box t x => simp only [opF, opE]; rw [he x (by simp [Op.operands])]
  | store t x y => simp only [opF, opE]; rw [he x (by simp [Op.operands]), he y (by simp [Op.operands])]
  | mapUpdate t x y z => simp only [opF, opE]; rw [he x (by simp [Op.operands]), he y (by simp [Op.operands]), he z (by simp [Op.operands])]
  | insert t x y z => simp only [opF, opE]; rw [he x (by simp [Op.operands]), he y (by simp [Op.operands]), he z (by simp [Op.operands])]
  | makeMap t r => cases r <;> rfl
  | _ => rfl

theorem calleeD_congr {c : Call} {env env' : Env} (he : ∀ x ∈ (Op.call c).operands.toList, evO env x = evO env' x) : calleeD env c = calleeD env' c := by
  obtain ⟨callee, args, argTypes⟩ := c
  have h1 : args.toList.map (evO env) = args.toList.map (evO env') :=
    List.map_congr_left fun x hx => he x (by simp only [Op.operands, Call.operands, Array.toList_append, List.mem_append]; exact .inr hx)
  cases callee with
  | value x =>
    have h2 : evO env x = evO env' x := he x (by simp [Op.operands, Call.operands])
    simp only [calleeD, h1, h2]
  | _ => rfl

/-- A literal of a slice that nobody will write. -/
def litD (P : Program) (h : H) (t : TypeId) (len : Nat) (parts : List (Nat × D)) : Option D :=
  match litSl P h t len parts with
  | some (_, _, es) => if es.all (D.ltL 0) then some (.sl es) else none
  | none => none

theorem opOk_lit {o : Oper} {s : St} {K : St → Prop} {d : D} {t : TypeId} {len : Nat} {parts : Array (Nat × Operand)} (ho : o.op = .buildSlice t len parts)
    (h : litD P s.h t len (parts.toList.map fun p => (p.1, evO s.env p.2)) = some d) (hK : K (s.put o.dst d)) : OpOk P n0 ro o s K := by
  intro X k0 k a Q Kc hn hat hk
  unfold litD at h
  split at h
  · rename_i e sz es hl
    split at h
    · rename_i hpure
      cases h
      rw [← hat.h] at hl
      have hg := hat.good
      obtain ⟨us, h1, h2, h3, h4, h5, h6, h7, h8⟩ := run_litSl hg (fun x => hat.act.eval x) hl
      have hle : Le k { k with w := k.w.alloc (.cells (List.toArray us) e) } := le_world rfl rfl rfl (by rw [alloc_size]; omega) fun b hb => alloc_heap _ _ _ hb
      refine ⟨fun _ _ => trivial, ?_⟩
      rw [semAt_eq _ _ (by rw [ho]; simp)]
      have hrun : (execOp a.eval o).run P k.w = .ok (.value (.slice (some ⟨k.w.heap.size, 0, none⟩) len len)) (k.w.alloc (.cells (List.toArray us) e)) := by
        unfold execOp
        rw [ho]
        exact ok_bind_value _ _ _ _ _ h1
      rw [hrun]
      refine hk { k with w := k.w.alloc (.cells (List.toArray us) e) } _ _ hK ⟨?_, ?_, ?_, hat.le.trans hle, (hat.act.le hg hle).put o.dst ?_⟩ hle
      · rw [put_h]; exact hat.h
      · rw [put_nid]; exact hat.nid
      · exact hg.world hle fun b hb => alloc_heap _ _ _ hb
      · have hnm : ∀ b, Cx.Mut { k with w := k.w.alloc (.cells (List.toArray us) e) } b → b < k.w.heap.size := fun b ⟨i, hi⟩ => (hg.lt i b hi).1
        have hin : ∀ (i : Nat) x (j : Nat) d, es[i]? = some x → x[j]? = some d → i * sz + j < us.length := fun i x j d he hd => by
          rw [h2]
          have := h4 x (List.mem_of_getElem? he)
          have := lt_of_getElem? hd
          have := lt_of_getElem? he
          exact mul_add_lt (by omega) (by omega)
        rw [← h3]
        refine .sl _ k.w.heap.size 0 es.length es sz (fun i j => us.getD (i * sz + j) undef) (.inr ⟨?_, fun hx => absurd (hg.xlt _ hx) (by omega), fun hm => absurd (hnm _ hm) (by omega)⟩) (Nat.le_refl _) h4 (fun i x j d he hd => ?_) fun i x j d he hd => ?_
        · show _ < (k.w.alloc _).heap.size; rw [alloc_size]; omega
        · have : (k.w.alloc (.cells (List.toArray us) e)).heap[k.w.heap.size]? = some (.cells us.toArray e (0, 0)) := alloc_heap_new _ _
          show World.cell? (k.w.alloc _) _ = _
          rw [row_cell this, Nat.zero_add, List.getElem?_eq_getElem (hin i x j d he hd)]
          simp [List.getD, List.getElem?_eq_getElem (hin i x j d he hd)]
        · have hr := (h8 i x j d _ he hd (List.getElem?_eq_getElem (hin i x j d he hd))).roll (m := 0) (D.ltL_get (List.all_eq_true.1 hpure x (List.mem_of_getElem? he)) j d hd)
          have hr' := hr.mono (hle.rle (X := X) (Nat.zero_le _))
          simpa [List.getD, List.getElem?_eq_getElem (hin i x j d he hd)] using hr'
    · cases h
  · cases h

/-- What a call in such a region asks of its callee. -/
def QC (P : Program) (f : FuncId) (ds : List D) (h : H) (r : D) : Prop :=
  (r.flat = true ∧ Pure P f (viewL h ds) r) ∨ (D.ltL 0 ds = true ∧ r.lt 0 = true ∧ Pure P f ds r)

theorem opOk_qc {o : Oper} {c : Call} {s : St} {K : St → Prop} {f : FuncId} {ds : List D} {r : D} (ho : o.op = .call c) (hcal : calleeD s.env c = some (f, ds))
    (hp : QC P f ds s.h r) (hK : K (s.put o.dst r)) : OpOk P n0 ro o s K := by
  rcases hp with ⟨h1, h2⟩ | ⟨h1, h2, h3⟩
  · rw [viewL_eq] at h2; exact opOk_borrow ho hcal h2 h1 hK
  · exact opOk_pure ho hcal h3 h1 h2 hK

end
end Go.Sx
