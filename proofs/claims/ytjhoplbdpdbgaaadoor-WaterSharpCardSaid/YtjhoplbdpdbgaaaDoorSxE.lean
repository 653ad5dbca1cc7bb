/- Sx, part E: operations that make blocks or store: their abstract meaning, and that the model's run agrees. Own work. -/
import Derived.Test.YtjhoplbdpdbgaaaDoorSxD2
import Derived.Laws.CopyRow
import Derived.Laws.AppendOwn
set_option linter.unusedVariables false
set_option linter.unusedSimpArgs false
namespace Go.Sx

def rawOne : Value → Bool
  | .agg _ | .tuple _ => false
  | _ => true

/-- The cells of a value, where the datum tells them. -/
def cellsD : D → Option (List D)
  | .agg cs => some cs
  | .any => none
  | .tup _ => none
  | .raw v => if v.oneCell' then some [.raw v] else none
  | d => some [d]

/-- Data that one cell holds, for sure. -/
def oneD : D → Bool
  | .any | .agg _ | .tup _ => false
  | .raw v => v.oneCell'
  | .osl _ _ => false
  | .eptr _ _ _ _ _ => false
  | _ => true

theorem Rel.one {R : Rx} {n : Nat} {v : Value} {d : D} (h : Rel R n v d) (ho : oneD d = true) : v.oneCell' = true := by
  cases h <;> simp_all [oneD, Value.oneCell']

/-- Whatever is no aggregate is one cell. (A stale slice may read as anything: it must be current.) -/
def curD (h : H) : D → Bool
  | .osl b n => match hget h b with
    | some (.arr _ _ es) => Nat.beq n es.length
    | _ => false
  | .eptr b l _ i _ => match hget h b with
    | some (.arr _ _ es) => Nat.beq l es.length && Nat.blt i es.length
    | _ => false
  | d => oneD d

section
variable {P : Program} {X : Nat → Prop} {k : Cx}

theorem Rel.cur (hg : Good X k) {v : Value} {d : D} (h : Rel (k.R X) k.nid v d) (ho : curD k.h d = true) : v.oneCell' = true := by
  unfold curD at ho
  split at ho
  · rename_i b n
    split at ho
    · rename_i ty sz es hb
      have ho : n = es.length := Nat.eq_of_beq_eq_true ho
      cases h with
      | osl _ _ _ _ hlt hv =>
        have hv2 := (hv es.length (by simp [Cx.R, hb, lnOf])).2 ho
        subst hv2
        rcases (hg.ok b _ hb).2 with ⟨h1, _⟩ | ⟨bb, cap, vs, h1, _⟩
        · have : (k.R X).sv b = .slice none 0 0 := h1
          rw [this]; rfl
        · have : (k.R X).sv b = .slice (some ⟨bb, 0, none⟩) es.length cap := h1
          rw [this]; rfl
    · cases ho
  · rename_i b l sz i o
    split at ho
    · rename_i ty sz' es hb
      simp only [Bool.and_eq_true] at ho
      have ho1 : l = es.length := Nat.eq_of_beq_eq_true ho.1
      have ho2 : i < es.length := by simpa [Nat.blt_eq] using ho.2
      cases h with
      | eptr _ _ _ _ _ _ _ hlt hv =>
        have hv2 := (hv es.length (by simp [Cx.R, hb, lnOf])).2 ho1
        rcases (hg.ok b _ hb).2 with ⟨_, he⟩ | ⟨bb, cap, vs, h1, _⟩
        · subst he; simp at ho2
        · have hsv : (k.R X).sv b = .slice (some ⟨bb, 0, none⟩) es.length cap := h1
          rw [hsv] at hv2; subst hv2; rfl
    · cases ho
  · exact h.one ho

/-- The cells of a value whose datum is an aggregate, or one cell. -/
def cellsE (h : H) : D → Option (List D)
  | .agg cs => some cs
  | d => if curD h d then some [d] else none

theorem cellsE_sound (hg : Good X k) {v : Value} {d : D} {cs : List D} (h : Rel (k.R X) k.nid v d) (hc : cellsE k.h d = some cs) : ∃ vs, v.cells = List.toArray vs ∧ RelL (k.R X) k.nid vs cs := by
  unfold cellsE at hc
  split at hc
  · cases hc
    obtain ⟨vs, rfl, hr⟩ := h.agg_inv
    exact ⟨vs, rfl, hr⟩
  · split at hc
    · rename_i ho
      cases hc
      have h1 := h.cur hg ho
      refine ⟨[v], ?_, rfl, fun i u e hu he => ?_⟩
      · cases v <;> simp_all [Value.cells, Value.oneCell']
      · cases i with
        | zero => simp at hu he; subst hu; subst he; exact h
        | succ i => simp at hu
    · cases hc

def zeroD (P : Program) (t : TypeId) : Option (List D) :=
  match P.info? t with
  | some i => match i.zero with
    | some z => some (z.cells.toList.map vD)
    | none => none
  | none => none

theorem run_zeroD {t : TypeId} {cs : List D} (h : zeroD P t = some cs) (w : World) : ∃ z, (zeroValue t).run P w = .ok z w ∧ ∀ R n, RelL R n z.cells.toList cs := by
  unfold zeroD at h
  split at h
  · rename_i i hi
    split at h
    · rename_i z hz
      cases h
      refine ⟨z, by simp [zeroValue, run_typeInfo w hi, hz], fun R n => ⟨by simp, fun j v d a b => ?_⟩⟩
      rw [List.getElem?_map, a] at b
      simp at b; subst b; exact .vD _ _ _
    · cases h
  · cases h

def putL (cs : List D) (o : Nat) (ds : List D) : List D := cs.take o ++ ds ++ cs.drop (o + ds.length)

theorem RelL.take {R : Rx} {n : Nat} {vs : List Value} {ds : List D} (h : RelL R n vs ds) (m : Nat) : RelL R n (vs.take m) (ds.take m) := by
  simpa using h.sub 0 m

theorem RelL.drop {R : Rx} {n : Nat} {vs : List Value} {ds : List D} (h : RelL R n vs ds) (m : Nat) : RelL R n (vs.drop m) (ds.drop m) :=
  ⟨by simp [h.1], fun i v d a b => h.2 (m + i) v d (by rwa [List.getElem?_drop] at a) (by rwa [List.getElem?_drop] at b)⟩

theorem RelL.put {R : Rx} {n : Nat} {vs us : List Value} {ds es : List D} (h : RelL R n vs ds) (h' : RelL R n us es) (o : Nat) :
    RelL R n (vs.take o ++ us ++ vs.drop (o + us.length)) (putL ds o es) := by
  unfold putL
  rw [← h'.1]
  exact ((h.take o).append h').append (h.drop _)

/-- What an operation with an effect gives, and the heap behind it. -/
def opE (P : Program) (op : Op) (ρ : Operand → D) (h : H) (nid : Nat) : Option (D × H × Nat) :=
  match op with
  | .alloc t =>
    match zeroD P t with
    | some zs => some (.ptr nid 0, (nid, .box zs) :: h, nid + 1)
    | none => none
  | .box _ x =>
    match cellsE h (ρ x) with
    | some cs => some (.ptr nid 0, (nid, .box cs) :: h, nid + 1)
    | none => none
  | .store t a x =>
    match ρ a, cellsE h (ρ x), sizeT P t with
    | .ptr b o, some ds, some n =>
      match hget h b with
      | some (.box cs) => if ds.length = n ∧ o + n ≤ cs.length ∧ ds.all (curD h) then some (.any, hset h b (.box (putL cs o ds)), nid) else none
      | _ => none
    | .eptr b l sz i o, some ds, some n =>
      match hget h b with
      | some (.arr ty sz' es) =>
        if ds.length = n ∧ o + n ≤ sz ∧ l = es.length ∧ sz = sz' ∧ ds.all (curD h) ∧ D.ltL 0 ds then
          match es[i]? with
          | some c => some (.any, hset h b (.arr ty sz (es.set i (putL c o ds))), nid)
          | none => none
        else none
      | _ => none
    | _, _, _ => none
  | .makeMap _ none => some (.mp nid, (nid, .map []) :: h, nid + 1)
  | .mapUpdate t m k v => mapUpdD P h nid t (ρ m) (ρ k) (ρ v)
  | .insert t m k v => mapUpdD P h nid t (ρ m) (ρ k) (ρ v)
  | _ => none

theorem run_alloc_box (w : World) (t : TypeId) (v : Value) : (newVar t v).run P w = .ok ⟨w.heap.size, 0, none⟩ (w.alloc (.cells v.cells t)) := by
  simp only [newVar, newRow, Sem.run_bind, run_newObj, Result.andThen_ok, Sem.run_pure]; rfl

theorem setRow_size' (w : World) (g : Nat) (cs : Array Value) : (w.setRow g cs).heap.size = w.heap.size := setRow_size w g cs

/-- A store into a box. -/
theorem store_box (hg : Good X k) {b o : Nat} {cs ds : List D} {us : List Value} (hb : hget k.h b = some (.box cs)) (hlen : o + ds.length ≤ cs.length) (hr : RelL (k.R X) k.nid us ds)
    (h1 : ∀ u ∈ us, u.oneCell' = true) :
    ∃ k', (storeCells ⟨k.β b, o, none⟩ us).run P k.w = .ok () k'.w ∧ k'.h = hset k.h b (.box (putL cs o ds)) ∧ k'.nid = k.nid ∧ Good X k' ∧ Le k k' := by
  obtain ⟨vs, ty, hw, hvs⟩ := hg.ok b _ hb
  have hst := run_storeCells_at P (k.β b) o ty us 0 vs.toArray k.w hw (by simp; have := hr.1; have := hvs.1; omega) h1
  simp only [Nat.add_zero] at hst
  have hrow := setRow_heap k.w (k.β b) vs.toArray (vs.take o ++ us ++ vs.drop (o + us.length)).toArray ty (0, 0) hw
  have hk := hg.upd (blk := .box (putL cs o ds)) (w' := k.w.setRow (k.β b) (vs.take o ++ us ++ vs.drop (o + us.length)).toArray) (v' := k.sv b) hb rfl rfl rfl
    (by rw [setRow_size']; exact Nat.le_refl _) (fun c hc hn => setRow_other _ _ _ _ fun e => hn (by rw [own_of_hget hb, e]; rfl))
    (fun c hc => .inl (by
      have : (Cx.own (k.upd b (.box (putL cs o ds)) (k.w.setRow (k.β b) (vs.take o ++ us ++ vs.drop (o + us.length)).toArray) (k.sv b)) b) = some (k.β b) := by rw [own_of_hget (blk := some (.box (putL cs o ds))) (by simp [Cx.upd, hget_hset])]; rfl
      rw [this] at hc; rw [own_of_hget hb]; exact hc))
    (fun m hm => by simp [lnOf] at hm)
    (fun hle => ⟨_, ty, hrow, (hvs.put hr o).le hle⟩)
  exact ⟨k.upd b (.box (putL cs o ds)) (k.w.setRow (k.β b) (vs.take o ++ us ++ vs.drop (o + us.length)).toArray) (k.sv b), hst, rfl, rfl, hk.1, hk.2⟩

theorem mul_add_lt {i sz cap j : Nat} (hi : i < cap) (hj : j < sz) : i * sz + j < cap * sz := by
  have : (i + 1) * sz ≤ cap * sz := Nat.mul_le_mul_right _ hi
  rw [Nat.add_mul] at this; omega

/-- A store into an element of an array of the function's own. -/
theorem store_arr (hg : Good X k) {b i o sz : Nat} {ty : TypeId} {es : List (List D)} {c ds : List D} {us : List Value} (hb : hget k.h b = some (.arr ty sz es)) (hc : es[i]? = some c)
    (hlen : o + ds.length ≤ sz) (hr : RelL (k.R X) 0 us ds) (h1 : ∀ u ∈ us, u.oneCell' = true) :
    ∃ k' bb cap, k.sv b = .slice (some ⟨bb, 0, none⟩) es.length cap ∧ (storeCells ⟨bb, i * sz + o, none⟩ us).run P k.w = .ok () k'.w ∧
      k'.h = hset k.h b (.arr ty sz (es.set i (putL c o ds))) ∧ k'.nid = k.nid ∧ Good X k' ∧ Le k k' := by
  obtain ⟨h0, hv⟩ := hg.ok b _ hb
  have hi := lt_of_getElem? hc
  rcases hv with ⟨_, he⟩ | ⟨bb, cap, vs, a1, a2, a3, a4, a5⟩
  · subst he; simp at hi
  · have hul := hr.1
    have hfit : i * sz + o + us.length ≤ vs.length := by
      rw [a3]
      have : (i + 1) * sz ≤ cap * sz := Nat.mul_le_mul_right _ (by omega)
      rw [Nat.add_mul] at this; omega
    have hst := run_storeCells_at P bb (i * sz + o) ty us 0 vs.toArray k.w a2 (by simpa using hfit) h1
    simp only [Nat.add_zero] at hst
    have hrow := setRow_heap k.w bb vs.toArray (vs.take (i * sz + o) ++ us ++ vs.drop (i * sz + o + us.length)).toArray ty (0, 0) a2
    have hcl : c.length = sz := h0 c (List.mem_of_getElem? hc)
    have hpl : (putL c o ds).length = sz := by simp only [putL, List.length_append, List.length_take, List.length_drop]; omega
    have hk := hg.upd (blk := .arr ty sz (es.set i (putL c o ds))) (w' := k.w.setRow bb (vs.take (i * sz + o) ++ us ++ vs.drop (i * sz + o + us.length)).toArray) (v' := k.sv b) hb rfl rfl rfl
      (by rw [setRow_size']; exact Nat.le_refl _) (fun c' hc' hn => setRow_other _ _ _ _ fun e => hn (by rw [own_of_hget hb, e]; simp [ownOf, a1, slBlk]))
      (fun c' hc' => .inl (by
        have : (Cx.own (k.upd b (.arr ty sz (es.set i (putL c o ds))) (k.w.setRow bb (vs.take (i * sz + o) ++ us ++ vs.drop (i * sz + o + us.length)).toArray) (k.sv b)) b) = some bb := by
          rw [own_of_hget (blk := some (.arr ty sz (es.set i (putL c o ds)))) (by simp [Cx.upd, hget_hset])]; simp [ownOf, Cx.upd, a1, slBlk]
        rw [this] at hc'; rw [own_of_hget hb]; simpa [ownOf, a1, slBlk] using hc'))
      (fun m hm => ⟨es.length, rfl, by simp only [lnOf, List.length_set, Option.some.injEq] at hm; omega, fun _ => rfl⟩)
      (fun hle => ⟨fun e he => by
          rcases List.mem_or_eq_of_mem_set he with h | h
          · exact h0 e h
          · rw [h]; exact hpl, .inr ⟨bb, cap, _, by simp [Cx.upd, a1], hrow, by
          simp only [List.length_append, List.length_take, List.length_drop]; omega, by simpa using a4, fun i' e j d v x y z => by
          rw [List.getElem?_set] at x
          by_cases hii : i = i'
          · subst hii
            rw [if_pos rfl, if_pos hi] at x
            · cases x
              have hj := lt_of_getElem? y
              rw [hpl] at hj
              -- the cell lies in the element that is stored into
              simp only [putL] at y
              rcases Nat.lt_or_ge j o with hjo | hjo
              · rw [List.append_assoc, List.getElem?_append_left (by simp; omega), List.getElem?_take, if_pos hjo] at y
                rw [List.append_assoc, List.getElem?_append_left (by simp; omega), List.getElem?_take, if_pos (by omega)] at z
                exact (a5 i c j d v hc y z).le0 hle
              · rcases Nat.lt_or_ge j (o + us.length) with hju | hju
                · rw [List.getElem?_append_left (by simp; omega), List.getElem?_append_right (by simp; omega)] at y z
                  simp only [List.length_take] at y z
                  rw [show min o c.length = o by omega] at y
                  rw [show min (i * sz + o) vs.length = i * sz + o by omega] at z
                  exact (hr.2 (j - o) v d (by rw [← z]; congr 1; omega) y).le0 hle
                · rw [List.getElem?_append_right (by simp; omega)] at y z
                  simp only [List.length_append, List.length_take, List.getElem?_drop] at y z
                  refine (a5 i c j d v hc ?_ ?_).le0 hle
                  · rw [← y]; congr 1; omega
                  · rw [← z]; congr 1; omega
          · rw [if_neg hii] at x
            have hi' := lt_of_getElem? x
            have hel : e.length = sz := h0 e (List.mem_of_getElem? x)
            have hj := lt_of_getElem? y
            refine (a5 i' e j d v x y ?_).le0 hle
            have hne : i' * sz + j < i * sz + o ∨ i * sz + o + us.length ≤ i' * sz + j := by
              rcases Nat.lt_or_gt_of_ne hii with h | h
              · right
                have : (i + 1) * sz ≤ i' * sz := Nat.mul_le_mul_right _ h
                rw [Nat.add_mul] at this; omega
              · left
                have : (i' + 1) * sz ≤ i * sz := Nat.mul_le_mul_right _ h
                rw [Nat.add_mul] at this; omega
            rcases hne with hne | hne
            · rw [List.append_assoc, List.getElem?_append_left (by simp; omega), List.getElem?_take, if_pos hne] at z
              exact z
            · rw [List.getElem?_append_right (by simp; omega)] at z
              simp only [List.length_append, List.length_take, List.getElem?_drop] at z
              rw [← z]; congr 1; omega⟩⟩)
    exact ⟨k.upd b (.arr ty sz (es.set i (putL c o ds))) (k.w.setRow bb (vs.take (i * sz + o) ++ us ++ vs.drop (i * sz + o + us.length)).toArray) (k.sv b), bb, cap, a1, hst, rfl, rfl, hk.1, hk.2⟩

/-- **The model's run of an operation with an effect agrees with what is said of it.** -/
theorem opE_sound (hg : Good X k) {a : Act} {o : Oper} {ρ : Operand → D} (hρ : ∀ x, Rel (k.R X) k.nid (a.eval x) (ρ x)) {d : D} {h' : H} {nid' : Nat}
    (h : opE P o.op ρ k.h k.nid = some (d, h', nid')) :
    ∃ n v k', (execOp a.eval o).run P k.w = .ok n k'.w ∧ (n = .value v ∨ n = .skip ∧ d = .any) ∧ k'.h = h' ∧ k'.nid = nid' ∧ Good X k' ∧ Le k k' ∧ Rel (k'.R X) k'.nid v d := by
  obtain ⟨dst, op, ty, pos, after, guard⟩ := o
  cases op <;> simp only [opE] at h <;> try cases h
  case alloc t =>
    split at h
    · rename_i zs hz
      cases h
      obtain ⟨z, h1, h2⟩ := run_zeroD hz k.w
      have hr := h2 (k.R X) k.nid
      refine ⟨.value (.pointer (some ⟨k.w.heap.size, 0, none⟩)), .pointer (some ⟨k.w.heap.size, 0, none⟩), k.newBox z.cells.toList t zs, ?_, .inl rfl, rfl, rfl, newBox_good hg _ _ _ hr, newBox_le hg _ _ _, ?_⟩
      · simp only [execOp]
        refine ok_bind_value _ _ _ _ _ ?_
        simp only [Instr.alloc, Sem.run_bind, h1, Result.andThen_ok]
        simp only [Sem.run_bind, run_alloc_box, Result.andThen_ok, Sem.run_pure]
        simp [Cx.newBox]
      · have := Rel.ptr (R := (k.newBox z.cells.toList t zs).R X) (k.nid + 1) k.nid 0 (by omega)
        simpa [Cx.R, Cx.newBox] using this
    · cases h
  case box t x =>
    split at h
    · rename_i cs hc
      cases h
      obtain ⟨vs, h1, h2⟩ := cellsE_sound hg (hρ x) hc
      refine ⟨.value (.pointer (some ⟨k.w.heap.size, 0, none⟩)), .pointer (some ⟨k.w.heap.size, 0, none⟩), k.newBox vs t cs, ?_, .inl rfl, rfl, rfl, newBox_good hg _ _ _ h2, newBox_le hg _ _ _, ?_⟩
      · simp only [execOp]
        refine ok_bind_value _ _ _ _ _ ?_
        simp only [Instr.box, Sem.run_bind, run_alloc_box, Result.andThen_ok, Sem.run_pure, h1]
        rfl
      · have := Rel.ptr (R := (k.newBox vs t cs).R X) (k.nid + 1) k.nid 0 (by omega)
        simpa [Cx.R, Cx.newBox] using this
    · cases h
  case store t p x =>
    split at h
    · rename_i b oo ds n hp hc hn
      split at h
      · rename_i cs hb
        split at h
        · rename_i hcond
          obtain ⟨hl, hle, hall⟩ := hcond
          cases h
          obtain ⟨us, h1, h2⟩ := cellsE_sound hg (hρ x) hc
          have hone : ∀ u ∈ us, u.oneCell' = true := fun u hu => by
            obtain ⟨i, hi⟩ := List.getElem?_of_mem hu
            have hlt : i < ds.length := by rw [← h2.1]; exact lt_of_getElem? hi
            exact (h2.2 i u _ hi (List.getElem?_eq_getElem hlt)).cur hg (List.all_eq_true.1 hall _ (List.getElem_mem hlt))
          obtain ⟨k', s1, s2, s3, s4, s5⟩ := store_box (P := P) hg hb (by omega) h2 hone (o := oo)
          have hr := hρ p
          rw [hp] at hr
          generalize hv : a.eval p = v at hr
          cases hr with
          | ptr _ _ _ hlt =>
            refine ⟨.skip, undef, k', ?_, .inr ⟨rfl, rfl⟩, s2, s3, s4, s5, .any _ _⟩
            have hsz : (a.eval x).cells.size = n := by rw [h1]; simp [h2.1, hl]
            simp only [execOp, hv, Instr.storeAt, Instr.sureAddr, Sem.run_bind, Sem.run_pure, Result.andThen_ok, storeVar, run_sizeT hn, Sem.run_ite, hsz, ne_eq, not_true, if_false]
            simp only [h1]
            have s1' : (storeCells ⟨(k.R X).β b, oo, none⟩ us).run P k.w = .ok () k'.w := s1
            simp [s1']
        · cases h
      · cases h
    · rename_i b l sz i oo ds n hp hc hn
      split at h
      · rename_i ty sz' es hb
        split at h
        · rename_i hcond
          obtain ⟨hl, hle, hl2, rfl, hall, hpure⟩ := hcond
          split at h
          · rename_i c hci
            cases h
            obtain ⟨us, h1, h2⟩ := cellsE_sound hg (hρ x) hc
            have hone : ∀ u ∈ us, u.oneCell' = true := fun u hu => by
              obtain ⟨i, hi⟩ := List.getElem?_of_mem hu
              have hlt : i < ds.length := by rw [← h2.1]; exact lt_of_getElem? hi
              exact (h2.2 i u _ hi (List.getElem?_eq_getElem hlt)).cur hg (List.all_eq_true.1 hall _ (List.getElem_mem hlt))
            obtain ⟨k', bb, cap, s0, s1, s2, s3, s4, s5⟩ := store_arr (P := P) hg hb hci (by omega) ⟨h2.1, fun i v d a b => (h2.2 i v d a b).roll (D.ltL_get hpure i d b)⟩ hone (o := oo)
            have hr := hρ p
            rw [hp] at hr
            generalize hv : a.eval p = v at hr
            cases hr with
            | eptr _ _ _ _ _ _ _ hlt hvv =>
              have hv2 := (hvv es.length (by simp [Cx.R, hb, lnOf])).2 hl2
              have hsv : (k.R X).sv b = .slice (some ⟨bb, 0, none⟩) es.length cap := s0
              rw [hsv] at hv2
              subst hv2
              refine ⟨.skip, undef, k', ?_, .inr ⟨rfl, rfl⟩, s2, s3, s4, s5, .any _ _⟩
              have hsz : (a.eval x).cells.size = n := by rw [h1]; simp [h2.1, hl]
              simp only [execOp, hv, eaddr, Nat.zero_add, Instr.storeAt, Instr.sureAddr, Sem.run_bind, Sem.run_pure, Result.andThen_ok, storeVar, run_sizeT hn, Sem.run_ite, hsz, ne_eq, not_true, if_false]
              simp only [h1]
              simp [s1]
          · cases h
        · cases h
      · cases h
    · cases h
  case makeMap t r =>
    cases r with
    | some r => simp at h
    | none =>
      simp only [Option.some.injEq, Prod.mk.injEq] at h
      obtain ⟨rfl, rfl, rfl⟩ := h
      refine ⟨.value (.map (some k.w.heap.size)), .map (some k.w.heap.size), k.newMap, ?_, .inl rfl, rfl, rfl, newMap_good hg, newMap_le hg, ?_⟩
      · simp only [execOp]
        exact ok_bind_value _ _ _ _ _ rfl
      · have := Rel.mp (R := k.newMap.R X) (k.nid + 1) k.nid (by omega)
        simpa [Cx.R, Cx.newMap] using this
  case mapUpdate t m q v =>
    obtain ⟨k', h1, h2, h3, h4, h5, h6⟩ := run_mapUpdD hg (hρ m) (hρ q) (hρ v) h
    refine ⟨.skip, undef, k', ?_, .inr ⟨rfl, h2⟩, h3, h4, h5, h6, by rw [h2]; exact .any _ _⟩
    simp only [execOp, Sem.run_bind, h1, Result.andThen_ok, Sem.run_pure]
  case insert t m q v =>
    obtain ⟨k', h1, h2, h3, h4, h5, h6⟩ := run_mapUpdD hg (hρ m) (hρ q) (hρ v) h
    refine ⟨.skip, undef, k', ?_, .inr ⟨rfl, h2⟩, h3, h4, h5, h6, by rw [h2]; exact .any _ _⟩
    simp only [execOp, Sem.run_bind, h1, Result.andThen_ok, Sem.run_pure]
end
end Go.Sx
