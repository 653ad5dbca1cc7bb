/- Sx, part N: regions that draw their order: what is checked of them, and the text's own order. Own work. -/
import Derived.Test.YtjhoplbdpdbgaaaDoorSxM
set_option linter.unusedVariables false
set_option linter.unusedSimpArgs false
namespace Go.Sx

/-! What may be checked once and for all -/

/-- The operations that must have run ahead of one. -/
def bnd (o : Oper) : List Nat := (o.after.toList.filter (Region.binds .any)).map (·.on)

def maskOf (prev : List Nat) : List Nat → Nat
  | [] => 0
  | j :: r => ((1 <<< j) ||| prev.getD j 0) ||| maskOf prev r

def masksGo : List Oper → List Nat → List Nat
  | [], acc => acc
  | o :: r, acc => masksGo r (acc ++ [maskOf acc (bnd o)])

def masks (ops : Array Oper) : List Nat := masksGo ops.toList []

def bef (ms : List Nat) (j i : Nat) : Bool := (ms.getD i 0).testBit j

theorem maskOf_bit (prev : List Nat) (j : Nat) : ∀ l : List Nat, (maskOf prev l).testBit j = true → ∃ e ∈ l, j = e ∨ (prev.getD e 0).testBit j = true
  | [], h => by simp [maskOf] at h
  | e :: r, h => by
    simp only [maskOf, Nat.testBit_or, Bool.or_eq_true, Nat.one_shiftLeft, Nat.testBit_two_pow, decide_eq_true_eq] at h
    rcases h with (h | h) | h
    · exact ⟨e, by simp, .inl h.symm⟩
    · exact ⟨e, by simp, .inr h⟩
    · obtain ⟨e', h1, h2⟩ := maskOf_bit prev j r h
      exact ⟨e', by simp [h1], h2⟩

theorem masksGo_spec : ∀ (l : List Oper) (acc : List Nat), ∃ ms, masksGo l acc = acc ++ ms ∧ ms.length = l.length ∧ ∀ p o, l[p]? = some o → ms[p]? = some (maskOf (acc ++ ms.take p) (bnd o))
  | [], acc => ⟨[], by simp [masksGo], rfl, by simp⟩
  | o :: r, acc => by
    obtain ⟨ms, h1, h2, h3⟩ := masksGo_spec r (acc ++ [maskOf acc (bnd o)])
    refine ⟨maskOf acc (bnd o) :: ms, by rw [masksGo, h1]; simp, by simp [h2], fun p o' h => ?_⟩
    cases p with
    | zero => simp at h; subst h; simp
    | succ p =>
      have := h3 p o' (by simpa using h)
      simpa using this

theorem masks_get {ops : Array Oper} {i : Nat} {o : Oper} (ho : ops[i]? = some o) : ∃ prev, (masks ops)[i]? = some (maskOf prev (bnd o)) ∧ ∀ e, prev.getD e 0 ≠ 0 → e < i ∧ prev.getD e 0 = (masks ops).getD e 0 := by
  obtain ⟨ms, h1, h2, h3⟩ := masksGo_spec ops.toList []
  have hm : masks ops = ms := by simpa [masks] using h1
  refine ⟨ms.take i, by rw [hm]; simpa using h3 i o (by simpa using ho), fun e he => ?_⟩
  rw [hm]
  have hlt : e < (ms.take i).length := by
    rcases Nat.lt_or_ge e (ms.take i).length with h | h
    · exact h
    · exact absurd (by simp [List.getD, List.getElem?_eq_none h]) he
  have hlt' : e < i := by simp at hlt; omega
  refine ⟨hlt', ?_⟩
  simp only [List.getD, List.getElem?_take, if_pos hlt']

/-- Edges lead back. -/
def Back (ops : Array Oper) : Prop := ∀ i o, ops[i]? = some o → ∀ j ∈ bnd o, j < i

theorem bef_step {ops : Array Oper} (hb : Back ops) {i j : Nat} {o : Oper} (ho : ops[i]? = some o) (hj : bef (masks ops) j i = true) :
    ∃ e ∈ bnd o, e < i ∧ (j = e ∨ bef (masks ops) j e = true) := by
  obtain ⟨prev, h1, h2⟩ := masks_get ho
  have hbit : (maskOf prev (bnd o)).testBit j = true := by simpa [bef, List.getD, h1] using hj
  obtain ⟨e, he, h⟩ := maskOf_bit prev j _ hbit
  refine ⟨e, he, hb i o ho e he, ?_⟩
  rcases h with rfl | h
  · exact .inl rfl
  · have hne : prev.getD e 0 ≠ 0 := fun h0 => by rw [h0] at h; simp at h
    obtain ⟨_, heq⟩ := h2 e hne
    exact .inr (by unfold bef; rw [← heq]; exact h)

theorem bef_lt {ops : Array Oper} (hb : Back ops) : ∀ (i : Nat) (o : Oper), ops[i]? = some o → ∀ j, bef (masks ops) j i = true → j < i := by
  intro i
  induction i using Nat.strongRecOn with
  | _ i ih =>
    intro o ho j hj
    obtain ⟨e, he, hlt, h⟩ := bef_step hb ho hj
    rcases h with rfl | h
    · exact hlt
    · have hes : e < ops.size := Nat.lt_trans hlt (by
        rcases Nat.lt_or_ge i ops.size with h | h
        · exact h
        · rw [Array.getElem?_eq_none h] at ho; cases ho)
      have := ih e hlt ops[e] (by simp [hes]) j h
      omega

/-- What is reached along the edges has run, where what has run is closed. -/
theorem bef_sound {ops : Array Oper} (hb : Back ops) {S : Nat → Prop} (hcl : ∀ i o, ops[i]? = some o → S i → ∀ j ∈ bnd o, S j) :
    ∀ (i : Nat) (o : Oper), ops[i]? = some o → (∀ j ∈ bnd o, S j) → ∀ j, bef (masks ops) j i = true → S j := by
  intro i
  induction i using Nat.strongRecOn with
  | _ i ih =>
    intro o ho hbo j hj
    obtain ⟨e, he, hlt, h⟩ := bef_step hb ho hj
    rcases h with rfl | h
    · exact hbo _ he
    · have hes : e < ops.size := Nat.lt_trans hlt (by
        rcases Nat.lt_or_ge i ops.size with h | h
        · exact h
        · rw [Array.getElem?_eq_none h] at ho; cases ho)
      have hoe : ops[e]? = some ops[e] := by simp [hes]
      exact ih e hlt _ hoe (hcl e _ hoe (hbo e he)) j h

/-! The kinds of operations -/

inductive DK where
  | quiet
  | call
  | eff
  | float
  deriving DecidableEq

def dkind (fl : Bool) (op : Op) : DK :=
  match op with
  | .alloc _ => if fl then .float else .eff
  | .box _ _ | .store _ _ _ | .makeMap _ _ | .mapUpdate _ _ _ _ | .insert _ _ _ _ => .eff
  | .call c =>
    match c.callee with
    | .builtin .append => .eff
    | .builtin _ => .quiet
    | _ => .call
  | _ => .quiet

def isE (fl : Bool) (o : Oper) : Bool := match dkind fl o.op with | .eff => true | _ => false
def isF (fl : Bool) (o : Oper) : Bool := match dkind fl o.op with | .float => true | _ => false

/-- Operations that read no memory. -/
def indep (op : Op) : Bool :=
  match op with
  | .move _ | .assign _ | .pick _ _ _ | .binOp _ _ _ _ _ | .unOp _ _ _ | .extract _ _ | .makeFunc _ _ _ | .makeInterface _ _ | .field _ _ _ | .index _ _ _ => true
  | _ => false

/-- The bytes of a string, as a new slice that nobody changes. -/
def cutD (P : Program) (s d : TypeId) (x : D) : Option D :=
  match P.underlying s, P.underlying d, x with
  | some .string, some (.slice e), .str b =>
    match P.underlying e with
    | some (.int .u8) => some (.sl (b.data.toList.map fun c => [.int .u8 c.toNat]))
    | _ => none
  | _, _, _ => none

def quietD (P : Program) (op : Op) (ρ : Operand → D) (h : H) : Option D :=
  match op with
  | .buildSlice t len parts => litD P h t len (parts.toList.map fun p => (p.1, ρ p.2))
  | .convert s d x =>
    match cutD P s d (ρ x) with
    | some r => some r
    | none => opR P (.convert s d x) ρ h
  | op => opR P op ρ h

theorem quietD_indep {P : Program} {op : Op} {ρ : Operand → D} {h h' : H} (hi : indep op = true) : quietD P op ρ h = quietD P op ρ h' := by
  cases op <;> simp only [indep, Bool.false_eq_true] at hi <;> first | rfl | (rename_i u t x; cases u <;> rfl)

theorem quietD_congr {P : Program} {op : Op} {ρ ρ' : Operand → D} {h : H} (he : ∀ x ∈ op.operands.toList, ρ x = ρ' x) : quietD P op ρ h = quietD P op ρ' h := by
  cases op with
  | buildSlice t n ps => simp only [quietD]; rw [parts_congr fun x hx => he x (by simpa [Op.operands] using hx)]
  | convert s d x => simp only [quietD]; rw [he x (by simp [Op.operands]), opR_congr (P := P) (h := h) he]
  | _ => exact opR_congr (P := P) (h := h) he

theorem opOk_cut {P : Program} {n0 : Nat} {ro : Option Nat} {o : Oper} {s : St} {K : St → Prop} {d : D} {t u : TypeId} {x : Operand} (ho : o.op = .convert t u x)
    (h : cutD P t u (evO s.env x) = some d) (hK : K (s.put o.dst d)) : OpOk P n0 ro o s K := by
  intro X k0 k a Q Kc hn hat hk
  unfold cutD at h
  split at h
  · rename_i e b hs hd hx
    split at h
    · rename_i he
      cases h
      have hg := hat.good
      have hr := hat.act.eval x
      rw [hx] at hr
      generalize hv : a.eval x = v at hr
      cases hr
      have hle : Le k { k with w := k.w.drew.alloc (.cells (bytesRow b (grownCap k.w b.size 0 e)) e ((bytesRow b (grownCap k.w b.size 0 e)).size, (bytesRow b (grownCap k.w b.size 0 e)).size + 1)) } :=
        le_world rfl rfl rfl (by rw [alloc_size]; show k.w.heap.size ≤ _; exact Nat.le_succ _) fun b hb => alloc_heap _ _ _ hb
      have hnew : (k.w.drew.alloc (.cells (bytesRow b (grownCap k.w b.size 0 e)) e ((bytesRow b (grownCap k.w b.size 0 e)).size, (bytesRow b (grownCap k.w b.size 0 e)).size + 1))).heap[k.w.heap.size]? = _ := alloc_heap_new k.w.drew _
      generalize hob : Obj.cells (bytesRow b (grownCap k.w b.size 0 e)) e ((bytesRow b (grownCap k.w b.size 0 e)).size, (bytesRow b (grownCap k.w b.size 0 e)).size + 1) = ob at hle hnew
      refine ⟨fun _ _ => trivial, ?_⟩
      rw [semAt_eq _ _ (by rw [ho]; simp)]
      have hrun : (execOp a.eval o).run P k.w = .ok (.value (.slice (some ⟨k.w.heap.size, 0, none⟩) b.size (grownCap k.w b.size 0 e))) (k.w.drew.alloc ob) := by
        unfold execOp
        rw [ho]
        refine ok_bind_value _ _ _ _ _ ?_
        rw [hv, run_bytes_of_string k.w t u e b hs hd he, hob]
      rw [hrun]
      refine hk { k with w := k.w.drew.alloc ob } _ _ hK ⟨?_, ?_, ?_, hat.le.trans hle, (hat.act.le hg hle).put o.dst ?_⟩ hle
      · rw [put_h]; exact hat.h
      · rw [put_nid]; exact hat.nid
      · exact hg.world hle fun b hb => alloc_heap _ _ _ hb
      · have hnm : ∀ c, Cx.Mut { k with w := k.w.drew.alloc ob } c → c < k.w.heap.size := fun c ⟨i, hi⟩ => (hg.lt i c hi).1
        have hlen : (b.data.toList.map fun c => [D.int .u8 c.toNat]).length = b.size := by rw [List.length_map, Array.length_toList]; rfl
        have hcap : b.size ≤ grownCap k.w b.size 0 e := grownCap_ge k.w b.size 0 e
        rw [← hlen]
        refine .sl _ k.w.heap.size 0 _ _ 1 (fun i j => .int .u8 ((b.data.toList.map fun c => c.toNat).getD i 0)) (.inr ⟨?_, fun h => absurd (hg.xlt _ h) (by omega), fun h => absurd (hnm _ h) (by omega)⟩) (by rw [hlen]; exact hcap) (fun c hc => ?_) (fun i c j d hi hj => ?_) (fun i c j d hi hj => ?_)
        · show _ < (k.w.drew.alloc ob).heap.size
          rw [alloc_size]; exact Nat.lt_succ_self _
        · obtain ⟨z, _, rfl⟩ := List.mem_map.1 hc; rfl
        · rw [List.getElem?_map] at hi
          cases hz : b.data.toList[i]? with
          | none => rw [hz] at hi; cases hi
          | some z =>
            rw [hz] at hi
            simp at hi
            subst hi
            obtain rfl : j = 0 := by
              cases j with
              | zero => rfl
              | succ j => exact absurd hj (by rw [List.getElem?_cons_succ, List.getElem?_nil]; simp)
            simp only [Cx.R, World.cell?, hnew]
            subst hob
            have hz' : b.data[i]? = some z := by rw [← Array.getElem?_toList]; exact hz
            have hil : i < b.data.size := by
              rcases Nat.lt_or_ge i b.data.size with h | h
              · exact h
              · rw [Array.getElem?_eq_none h] at hz'; cases hz'
            have hzi : b.data[i] = z := by rw [Array.getElem?_eq_getElem hil] at hz'; exact Option.some.inj hz'
            have hil2 : i < b.size := hil
            have h0 : (bytesRow b (grownCap k.w b.size 0 e))[0 + (i * 1 + 0)]? = some (.int .u8 z.toNat) := by
              rw [show 0 + (i * 1 + 0) = i by omega, bytesRow, Array.getElem?_append_left (by simpa using hil), Array.getElem?_map, hz']; rfl
            show (bytesRow b (grownCap k.w b.size 0 e))[0 + (i * 1 + 0)]? = _
            rw [h0, List.getD, List.getElem?_map, hz]; rfl
        · rw [List.getElem?_map] at hi
          cases hz : b.data.toList[i]? with
          | none => rw [hz] at hi; cases hi
          | some z =>
            rw [hz] at hi
            simp at hi
            subst hi
            obtain rfl : j = 0 := by
              cases j with
              | zero => rfl
              | succ j => exact absurd hj (by rw [List.getElem?_cons_succ, List.getElem?_nil]; simp)
            rw [List.getElem?_cons_zero] at hj
            cases hj
            have : (b.data.toList.map fun c => (c.toNat : Int)).getD i 0 = (z.toNat : Int) := by rw [List.getD, List.getElem?_map, hz]; rfl
            rw [this]
            exact .int _ _ _
    · cases h
  · cases h

theorem opOk_quiet {P : Program} {n0 : Nat} {ro : Option Nat} {o : Oper} {s : St} {K : St → Prop} {d : D} (h : quietD P o.op (evO s.env) s.h = some d) (hK : K (s.put o.dst d)) : OpOk P n0 ro o s K := by
  cases hop : o.op with
  | buildSlice t n ps => rw [hop] at h; exact opOk_lit hop h hK
  | convert t u x =>
    rw [hop] at h
    simp only [quietD] at h
    split at h
    · rename_i r hr
      cases h
      exact opOk_cut hop hr hK
    · exact opOk_read (by rw [hop]; exact h) hK
  | _ => rw [hop] at h; exact opOk_read (by rw [hop]; exact h) hK

/-! The run in the order of the text -/

structure Row where
  o : Oper
  env : Env
  h : H
  run : Bool
  d : D

def zeroA (P : Program) (op : Op) : Option (List D) :=
  match op with
  | .alloc t => zeroD P t
  | _ => none

def callQC (P : Program) (op : Op) (env : Env) (h : H) (r : D) : Prop :=
  match op with
  | .call c =>
    match calleeD env c with
    | some (f, ds) => QC P f ds h r
    | none => False
  | _ => False

def OStep (P : Program) (fl : Bool) (o : Oper) (s : St) (d : D) (h' : H) (nid' : Nat) : Prop :=
  match dkind fl o.op with
  | .quiet => quietD P o.op (evO s.env) s.h = some d ∧ h' = s.h ∧ nid' = s.nid
  | .call => callQC P o.op s.env s.h d ∧ h' = s.h ∧ nid' = s.nid
  | .eff => opF P o.op (evO s.env) s.h s.nid = some (d, h', nid')
  | .float => (zeroA P o.op).isSome = true ∧ d = .any ∧ h' = s.h ∧ nid' = s.nid

/-- One operation, in the order of the text. -/
structure RowOk (P : Program) (fl : Bool) (ops : Array Oper) (o : Oper) (s : St) (row : Row) (s' : St) : Prop where
  op : row.o = o
  env : ∀ t, look row.env t = look s.env t
  h : row.h = s.h
  guard : match o.guard with
    | none => row.run = true
    | some (j, w) => ∃ t, slotOf ops j = some t ∧ ((∃ b, look s.env t = .bool b ∧ row.run = (b == w)) ∨ (look s.env t = .tup [] ∧ row.run = false))
  step : if row.run then OStep P fl o { s with env := row.env } row.d s'.h s'.nid else row.d = .tup [] ∧ s'.h = s.h ∧ s'.nid = s.nid
  next : s' = St.put ⟨row.env, s'.h, s'.nid, s.n⟩ o.dst row.d

structure TRun (P : Program) (fl : Bool) (ops : Array Oper) (b len : Nat) (st : Nat → St) (row : Nat → Row) : Prop where
  step : ∀ p, p < len → ∀ o, ops[b + p]? = some o → RowOk P fl ops o (st p) (row p) (st (p + 1))

/-- What must hold of an operation in another state of the memory. -/
def ReOk (P : Program) (fl : Bool) (row : Row) (h : H) : Prop :=
  match dkind fl row.o.op with
  | .quiet => quietD P row.o.op (evO row.env) h = some row.d
  | .call =>
    match row.o.op with
    | .call c =>
      match calleeD row.env c with
      | some (_, ds) => viewL h ds = viewL row.h ds
      | none => False
    | _ => False
  | _ => True

/-! What is checked of a phase -/

def tmpsOf (o : Oper) : List Nat := o.op.operands.toList.filterMap fun | .tmp t => some t | _ => none
def readsG (ops : Array Oper) (o : Oper) : List Nat := tmpsOf o ++ (match o.guard with | some (j, _) => (slotOf ops j).toList | none => [])

/-- One pair of operations of a phase: what the one reads and the other writes is ordered; both write not the same; both effects are ordered. -/
def pairOk (ops : Array Oper) (ms : List Nat) (fl : Bool) (i q : Nat) (o o' : Oper) : Bool :=
  i == q || ((match o'.dst with
    | none => true
    | some t => (!(readsG ops o).contains t || (bef ms q i && !isF fl o') || bef ms i q) && !(o.dst == some t)) &&
  (!(isE fl o && isE fl o' && Nat.blt i q) || bef ms i q))

def atO (ops : Array Oper) (i : Nat) (f : Oper → Bool) : Bool := match ops[i]? with | some o => f o | none => false

def phOk (ops : Array Oper) (ms : List Nat) (b len : Nat) (fl : Bool) (re : List (Nat × Nat)) : Bool :=
  Nat.ble (b + len) ops.size &&
  ((List.range' b len).all fun i => (List.range' b len).all fun q => atO ops i fun o => atO ops q fun o' => pairOk ops ms fl i q o o') &&
  ((List.range' (b + len) (ops.size - (b + len))).all fun i => (List.range' b len).all fun q => bef ms q i) &&
  ((List.range' b len).all fun i => atO ops i fun o => !isF fl o || o.guard.isNone) &&
  ((List.range len).all fun p => atO ops (b + p) fun o => isE fl o || isF fl o || indep o.op ||
    (List.range (len + 1)).all fun y =>
      (Nat.blt y len && (!(atO ops (b + y) (isE fl)) || bef ms (b + y) (b + p))) ||
      ((List.range y).any fun q => atO ops (b + q) (isE fl) && bef ms (b + p) (b + q)) ||
      ((List.range len).all fun q => !(atO ops (b + q) (isE fl)) || !((Nat.ble p q && Nat.blt q y) || (Nat.ble y q && Nat.blt q p))) ||
      re.contains (p, y))

def backOk (ops : Array Oper) : Bool := (List.range ops.size).all fun i => atO ops i fun o => (bnd o).all fun j => Nat.blt j i

theorem back_of {ops : Array Oper} (h : backOk ops = true) : Back ops := fun i o ho j hj => by
  have hi : i < ops.size := by
    rcases Nat.lt_or_ge i ops.size with h | h
    · exact h
    · rw [Array.getElem?_eq_none h] at ho; cases ho
  have := List.all_eq_true.1 h i (List.mem_range.2 hi)
  simp only [atO, ho] at this
  have := List.all_eq_true.1 this j hj
  simpa using this

end Go.Sx
