/- Sx: from what the rows say of arguments to data, and from a contract on data to a law's row. Own work. -/
import Derived.Test.YtjhoplbdpdbgaaaDoorSxY
import Derived.ChangeArms
import Derived.OpenShut
import Derived.Below
import Derived.Carry
import Derived.ProofKit
import Derived.ChangeOld
set_option linter.unusedVariables false
set_option linter.unusedSimpArgs false
namespace Go.Sx
open Go.RowKit

/-! What a reading says of data -/

def TyD (P : Program) : Nat → TypeId → List D → Prop
  | 0, _, _ => False
  | n + 1, t, ds =>
    match P.underlying t with
    | some .bool => ∃ b, ds = [.bool b]
    | some (.int k) => ∃ x, ds = [.int k x] ∧ (Lit.int k x).wf = true
    | some .string => ∃ s, ds = [.str s] ∧ s.size ≤ maxLen
    | some (.slice e) => P.cellsOf e = 0 ∨ ∃ es, ds = [.sl es] ∧ es.length ≤ maxLen ∧ ∀ c ∈ es, c.length = P.cellsOf e ∧ TyD P n e c
    | some (.struct fs) => P.types.size ≤ t ∨ ds.length = P.cellsOf t ∧ ∀ (i : Nat) f, fs[i]? = some f → TyD P n f.type ((ds.drop f.offset).take (P.cellsOf f.type))
    | some (.array m e) => ds.length = P.cellsOf t ∧ ∀ (i : Nat), i < m → TyD P n e ((ds.drop (i * P.cellsOf e)).take (P.cellsOf e))
    | _ => True

/-- Rows of data, laid side by side, where no two overlap. -/
theorem assemble {R : Rx} (cs : List Value) (m : Nat) (off size : Nat → Nat) (dsf : Nat → List D) (hd : ∀ i j, i < m → j < m → i ≠ j → off i + size i ≤ off j ∨ off j + size j ≤ off i ∨ size i = 0 ∨ size j = 0)
    (hr : ∀ i, i < m → RelL R 0 ((cs.drop (off i)).take (size i)) (dsf i)) : ∃ ds, RelL R 0 cs ds ∧ ∀ i, i < m → (ds.drop (off i)).take (size i) = dsf i := by
  classical
  have hex : ∀ j, ∃ d, (∀ v, cs[j]? = some v → Rel R 0 v d) ∧ ∀ i, i < m → off i ≤ j → j < off i + size i → j < cs.length → (dsf i)[j - off i]? = some d := fun j => by
    by_cases h : ∃ i, i < m ∧ off i ≤ j ∧ j < off i + size i
    · obtain ⟨i, h1, h2, h3⟩ := h
      rcases Nat.lt_or_ge j cs.length with hj | hj
      · have hlen : j - off i < (dsf i).length := by
          rw [← (hr i h1).1]; simp; omega
        refine ⟨(dsf i)[j - off i], fun v hv => ?_, fun i' g1 g2 g3 _ => ?_⟩
        · refine (hr i h1).2 (j - off i) v _ ?_ (List.getElem?_eq_getElem hlen)
          rw [List.getElem?_take, if_pos (by omega), List.getElem?_drop, show off i + (j - off i) = j by omega]; exact hv
        · by_cases hii : i' = i
          · subst hii; exact List.getElem?_eq_getElem hlen
          · rcases hd i' i g1 h1 hii with h | h | h | h <;> omega
      · exact ⟨.any, fun v hv => .any _ _, fun _ _ _ _ hj' => by omega⟩
    · refine ⟨.any, fun v hv => .any _ _, fun i g1 g2 g3 _ => absurd ⟨i, g1, g2, g3⟩ h⟩
  obtain ⟨pick, hp⟩ := Classical.axiomOfChoice hex
  refine ⟨(List.range cs.length).map pick, ⟨by simp, fun j v d hv hdj => ?_⟩, fun i hi => ?_⟩
  · have hj := lt_of_getElem? hv
    rw [List.getElem?_map, List.getElem?_range hj] at hdj
    simp at hdj; subst hdj
    exact (hp j).1 v hv
  · apply List.ext_getElem?
    intro q
    rw [List.getElem?_take]
    have hl := (hr i hi).1
    simp only [List.length_take, List.length_drop] at hl
    by_cases hq : q < size i
    · rw [if_pos hq, List.getElem?_drop]
      rcases Nat.lt_or_ge (off i + q) cs.length with hj | hj
      · rw [List.getElem?_map, List.getElem?_range hj]
        have := (hp (off i + q)).2 i hi (by omega) (by omega) hj
        rw [show off i + q - off i = q by omega] at this
        rw [this]; rfl
      · rw [List.getElem?_eq_none (by simpa using hj), List.getElem?_eq_none (by omega)]
    · rw [if_neg hq, List.getElem?_eq_none (by omega)]

def disj (P : Program) (fs : Array Field) : Bool :=
  (List.range fs.size).all fun i => (List.range fs.size).all fun j => Nat.beq i j ||
    match fs[i]?, fs[j]? with
    | some f, some g => Nat.ble (f.offset + P.cellsOf f.type) g.offset || Nat.ble (g.offset + P.cellsOf g.type) f.offset || Nat.beq (P.cellsOf f.type) 0 || Nat.beq (P.cellsOf g.type) 0
    | _, _ => true
def disjAll (P : Program) : Bool := (List.range P.types.size).all fun t => match P.underlying t with | some (.struct fs) => disj P fs | _ => true

theorem disj_of {P : Program} (h : disjAll P = true) {t : TypeId} {fs : Array Field} (hu : P.underlying t = some (.struct fs)) (hlt : t < P.types.size) : disj P fs = true := by
  have := List.all_eq_true.1 h t (List.mem_range.2 hlt)
  rw [hu] at this; exact this

section
variable {P : Program} {H : Type} {enc : TypeId × Value → H} {w : World} {base : Nat} {spare : Nat → Bool} {held : Bool}

theorem cells_get {a : Addr} {n : Nat} {cs : List Value} (h : w.cells? base a n = some cs) : cs.length = n ∧ ∀ i, i < n → w.cell? (a.add i) = cs[i]? := by
  unfold World.cells? at h
  split at h
  · exact ⟨by simpa using mapM_some_length h, fun i hi => mapM_some_get h i i (by simp [hi])⟩
  · cases h

theorem trod_rel (hdis : disjAll P = true) {R : Rx} (hRw : R.w = w) (hRS : ∀ b, b < w.heap.size → R.S b) : ∀ (fuel : Nat) (t : TypeId) (cs : List Value) (x : DataW H × List MemPlace),
    DataW.trod enc P w base spare held fuel t cs = some x → ∃ ds, RelL R 0 cs ds ∧ TyD P fuel t ds := by
  intro fuel
  induction fuel with
  | zero => intro t cs x h; simp [DataW.trod] at h
  | succ fuel ih =>
    intro t cs x h
    have raw : ∃ ds : List D, RelL R 0 cs ds := ⟨cs.map .raw, by simp, fun i v d a b => by rw [List.getElem?_map, a] at b; simp at b; subst b; exact .raw _ _⟩
    have one : ∀ (v : Value) (d : D), Rel R 0 v d → RelL R 0 [v] [d] := fun v d hr => ⟨rfl, fun i v' d' a b => by
      match i with
      | 0 => simp at a b; subst a; subst b; exact hr
      | _ + 1 => simp at a⟩
    cases hu : P.underlying t with
    | none =>
      obtain ⟨ds, hr⟩ := raw
      exact ⟨ds, hr, by simp [TyD, hu]⟩
    | some d =>
      cases d with
      | bool =>
        obtain ⟨b, rfl, _⟩ := DataW.trod_bool hu h
        exact ⟨[.bool b], one _ _ (.bool _ _), by simp [TyD, hu]⟩
      | int k =>
        obtain ⟨n, rfl, _, hwf⟩ := DataW.trod_int hu h
        exact ⟨[.int k n], one _ _ (.int _ _ _), by simp [TyD, hu, hwf]⟩
      | string =>
        obtain ⟨s, rfl, _, hs⟩ := DataW.trod_string hu h
        exact ⟨[.str s], one _ _ (.str _ _), by simp [TyD, hu, hs]⟩
      | slice e =>
        rcases DataW.trod_slice hu h with ⟨rfl, _⟩ | ⟨a, len, cap, elems, rest, n, hn, rfl, _, hb, hlc, hcm, hel, hget, _, _⟩
        · exact ⟨[.sl []], one _ _ (.sln _), by simp only [TyD, hu]; exact .inr ⟨[], rfl, by simp, by simp⟩⟩
        · cases hn
          have hev : ∀ i, ∃ es : List D, i < len → ∃ cv, w.cells? base (a.add (i * P.cellsOf e)) (P.cellsOf e) = some cv ∧ RelL R 0 cv es ∧ TyD P fuel e es := fun i => by
            by_cases hi : i < len
            · have := hget i hi
              rw [List.getElem?_eq_getElem (by omega)] at this
              obtain ⟨cv, hcv, htr⟩ := Option.bind_eq_some_iff.1 this
              obtain ⟨es, h1, h2⟩ := ih e cv _ htr
              exact ⟨es, fun _ => ⟨cv, hcv, h1, h2⟩⟩
            · exact ⟨[], fun h => absurd h hi⟩
          obtain ⟨ef, hef⟩ := Classical.axiomOfChoice hev
          have htd : TyD P (fuel + 1) t [.sl ((List.range len).map ef)] := by
            simp only [TyD, hu]
            refine .inr ⟨_, rfl, by simp; omega, fun c hc => ?_⟩
            obtain ⟨i, hi, rfl⟩ := List.mem_map.1 hc
            obtain ⟨cv, h1, h2, h3⟩ := hef i (List.mem_range.1 hi)
            exact ⟨by rw [← h2.1]; exact (cells_get h1).1, h3⟩
          rcases Nat.eq_zero_or_pos (P.cellsOf e) with hz | hz
          · obtain ⟨ds, hr⟩ := raw
            exact ⟨ds, hr, by simp only [TyD, hu]; exact .inl hz⟩
          refine ⟨[.sl ((List.range len).map ef)], one _ _ ?_, htd⟩
          rcases Nat.eq_zero_or_pos len with h0 | hpos
          · subst h0; exact .sle _ a cap
          · -- elements of some cells
            obtain ⟨cv0, g1, g2, g3⟩ := hef 0 hpos
            obtain ⟨l0, c0⟩ := cells_get g1
            have hc0 := c0 0 hz
            rw [List.getElem?_eq_getElem (by omega)] at hc0
            obtain ⟨b, off, spot⟩ := a
            have hsp : spot = none := by simpa [Addr.add] using World.cell?_spot hc0
            subst hsp
            have hlen : ((List.range len).map ef).length = len := by simp
            have hgi : ∀ (i : Nat) c, ((List.range len).map ef)[i]? = some c → i < len ∧ c = ef i := fun i c hc => by
              have hi := lt_of_getElem? hc
              rw [hlen] at hi
              rw [List.getElem?_map, List.getElem?_range hi] at hc
              simp at hc; exact ⟨hi, hc.symm⟩
            have key : ∀ (i : Nat) c (j : Nat) d, ((List.range len).map ef)[i]? = some c → c[j]? = some d → ∃ v, R.w.cell? ⟨b, off + (i * P.cellsOf e + j), none⟩ = some v ∧ Rel R 0 v d := fun i c j d hc hd => by
              obtain ⟨hi, rfl⟩ := hgi i c hc
              obtain ⟨cv, h1, h2, h3⟩ := hef i hi
              obtain ⟨l1, c1⟩ := cells_get h1
              have hj := lt_of_getElem? hd
              have hjs : j < P.cellsOf e := by rw [← l1, h2.1]; exact hj
              have hcj := c1 j hjs
              rw [List.getElem?_eq_getElem (by omega)] at hcj
              refine ⟨_, ?_, h2.2 j _ d (List.getElem?_eq_getElem (by omega)) hd⟩
              rw [hRw, ← hcj, add_none, add_none, Nat.add_assoc]
            have hlt : b < w.heap.size := by
              have hc := hc0
              rw [add_none, add_none] at hc
              unfold World.cell? at hc
              rcases Nat.lt_or_ge b w.heap.size with h | h
              · exact h
              · simp [Array.getElem?_eq_none h] at hc
            have := Rel.sl (R := R) 0 b off cap ((List.range len).map ef) (P.cellsOf e)
              (fun i j => ((R.w.cell? ⟨b, off + (i * P.cellsOf e + j), none⟩).getD undef)) (.inr (hRS b hlt)) (by rw [hlen]; exact hlc) (fun c hc => by
                obtain ⟨i, hi⟩ := List.getElem?_of_mem hc
                obtain ⟨hi2, rfl⟩ := hgi i c hi
                obtain ⟨cv, h1, h2, h3⟩ := hef i hi2
                rw [← h2.1]; exact (cells_get h1).1) (fun i c j d hc hd => by
                obtain ⟨v, hv, _⟩ := key i c j d hc hd
                rw [hv]; rfl) (fun i c j d hc hd => by
                obtain ⟨v, hv, hr⟩ := key i c j d hc hd
                rw [hv]; exact hr)
            rw [hlen] at this
            exact this
      | struct fs =>
        obtain ⟨xs, n, hn, _, hcl, hxl, hf⟩ := DataW.trod_struct hu h
        cases hn
        rcases Nat.lt_or_ge t P.types.size with hlt | hge
        rotate_left
        · obtain ⟨ds, hr⟩ := raw
          exact ⟨ds, hr, by simp only [TyD, hu]; exact .inl hge⟩
        have hev : ∀ i : Nat, ∃ es : List D, ∀ f : Field, fs[i]? = some f → RelL R 0 ((cs.drop f.offset).take (P.cellsOf f.type)) es ∧ TyD P fuel f.type es := fun i => by
          cases hfi : fs[i]? with
          | none => exact ⟨[], fun f h => by cases h⟩
          | some f =>
            have := hf i f hfi
            have hi : i < xs.length := by
              rw [hxl]
              rcases Nat.lt_or_ge i fs.size with h | h
              · exact h
              · rw [Array.getElem?_eq_none h] at hfi; cases hfi
            rw [List.getElem?_eq_getElem hi] at this
            obtain ⟨es, h1, h2⟩ := ih _ _ _ this
            exact ⟨es, fun f' h => by cases h; exact ⟨h1, h2⟩⟩
        obtain ⟨ef, hef⟩ := Classical.axiomOfChoice hev
        have hfs : ∀ i, i < fs.size → ∃ f, fs[i]? = some f := fun i hi => ⟨_, Array.getElem?_eq_getElem hi⟩
        obtain ⟨ds, h1, h2⟩ := assemble (R := R) cs fs.size (fun i => match fs[i]? with | some f => f.offset | none => 0) (fun i => match fs[i]? with | some f => P.cellsOf f.type | none => 0) ef
          (fun i j hi hj hne => by
            obtain ⟨f, hf⟩ := hfs i hi
            obtain ⟨g, hg⟩ := hfs j hj
            have hd := List.all_eq_true.1 (List.all_eq_true.1 (disj_of hdis hu hlt) i (List.mem_range.2 hi)) j (List.mem_range.2 hj)
            rw [beq_ne hne] at hd
            simp only [hf, hg, Bool.false_or, Bool.or_eq_true] at hd ⊢
            rcases hd with ((hd | hd) | hd) | hd
            · exact .inl (Nat.le_of_ble_eq_true hd)
            · exact .inr (.inl (Nat.le_of_ble_eq_true hd))
            · exact .inr (.inr (.inl (Nat.eq_of_beq_eq_true hd)))
            · exact .inr (.inr (.inr (Nat.eq_of_beq_eq_true hd))))
          (fun i hi => by
            obtain ⟨f, hf⟩ := hfs i hi
            simp only [hf]
            exact (hef i f hf).1)
        refine ⟨ds, h1, ?_⟩
        simp only [TyD, hu]
        refine .inr ⟨by rw [← h1.1]; exact hcl, fun i f hf => ?_⟩
        have hi : i < fs.size := by
          rcases Nat.lt_or_ge i fs.size with h | h
          · exact h
          · rw [Array.getElem?_eq_none h] at hf; cases hf
        have := h2 i hi
        simp only [hf] at this
        rw [this]; exact (hef i f hf).2
      | array m e =>
        obtain ⟨xs, n, hn, _, hcl, hxl, hf⟩ := DataW.trod_array hu h
        cases hn
        have hev : ∀ i, ∃ es : List D, i < m → RelL R 0 ((cs.drop (i * P.cellsOf e)).take (P.cellsOf e)) es ∧ TyD P fuel e es := fun i => by
          by_cases hi : i < m
          · have := hf i hi
            rw [List.getElem?_eq_getElem (by omega)] at this
            obtain ⟨es, h1, h2⟩ := ih _ _ _ this
            exact ⟨es, fun _ => ⟨h1, h2⟩⟩
          · exact ⟨[], fun h => absurd h hi⟩
        obtain ⟨ef, hef⟩ := Classical.axiomOfChoice hev
        obtain ⟨ds, h1, h2⟩ := assemble (R := R) cs m (fun i => i * P.cellsOf e) (fun _ => P.cellsOf e) ef
          (fun i j hi hj hne => by
            rcases Nat.lt_or_gt_of_ne hne with h | h
            · left; have := Nat.mul_le_mul_right (P.cellsOf e) h; rw [Nat.succ_mul] at this; exact this
            · right; left; have := Nat.mul_le_mul_right (P.cellsOf e) h; rw [Nat.succ_mul] at this; exact this)
          (fun i hi => (hef i hi).1)
        refine ⟨ds, h1, ?_⟩
        simp only [TyD, hu]
        exact ⟨by rw [← h1.1]; exact hcl, fun i hi => by rw [h2 i hi]; exact (hef i hi).2⟩
      | _ =>
        obtain ⟨ds, hr⟩ := raw
        exact ⟨ds, hr, by simp [TyD, hu]⟩

/-! Arguments, and a law's row -/

def TyV (P : Program) (t : TypeId) (d : D) : Prop :=
  ∃ n ds, TyD P n t ds ∧ (match P.underlying t with
    | some (.struct _) | some (.array _ _) => d = .agg ds
    | _ => ds = [d])

def TyL (P : Program) : List TypeId → List D → Prop
  | [], [] => True
  | t :: ts, d :: ds => TyV P t d ∧ TyL P ts ds
  | _, _ => False

theorem arg_rel (hdis : disjAll P = true) {R : Rx} (hRw : R.w = w) (hRS : ∀ b, b < w.heap.size → R.S b) {t : TypeId} {v : Value} {d : DataW H} {ps : List MemPlace} {b0 : Nat}
    (h : DataW.Trod enc P w base spare held t v d ps) (hv : Value.okWide P w .any b0 t v) (hu : (P.underlying t).isSome = true) : ∃ D', Rel R 0 v D' ∧ TyV P t D' := by
  obtain ⟨fuel, hf⟩ := h
  obtain ⟨ds, h1, h2⟩ := trod_rel hdis hRw hRS fuel t _ _ hf
  have hone : v.cells.toList = [v] → ∃ d, ds = [d] ∧ Rel R 0 v d := fun he => by
    rw [he] at h1
    obtain ⟨d, rfl⟩ := List.length_eq_one_iff.1 (show ds.length = 1 by rw [← h1.1]; rfl)
    exact ⟨d, rfl, h1.2 0 v d rfl rfl⟩
  cases hq : P.underlying t with
  | none => rw [hq] at hu; cases hu
  | some td =>
    have agg : (∃ cs, v = .agg cs) → ∃ D', Rel R 0 v D' ∧ D' = .agg ds := fun ⟨cs, he⟩ => by
      subst he
      obtain ⟨l⟩ := cs
      exact ⟨.agg ds, .agg _ l ds h1.1 h1.2, rfl⟩
    have other : (∀ cs, v ≠ .agg cs) → ∃ D', Rel R 0 v D' ∧ ds = [D'] := fun hne => by
      obtain ⟨d, e1, e2⟩ := hone (by cases v <;> first | rfl | exact absurd rfl (hne _))
      exact ⟨d, e2, e1⟩
    cases td with
    | struct fs =>
      simp only [Value.okWide, hq] at hv
      obtain ⟨D', h3, h4⟩ := agg ⟨_, hv.choose_spec.1⟩
      exact ⟨D', h3, fuel, ds, h2, by rw [hq]; exact h4⟩
    | array m e =>
      simp only [Value.okWide, hq] at hv
      obtain ⟨D', h3, h4⟩ := agg ⟨_, hv.choose_spec.1⟩
      exact ⟨D', h3, fuel, ds, h2, by rw [hq]; exact h4⟩
    | _ =>
      simp only [Value.okWide, hq, Cell.okWide] at hv
      obtain ⟨D', h3, h4⟩ := other (fun cs he => by subst he; simp [Cell.ok, hq] at hv)
      exact ⟨D', h3, fuel, ds, h2, by rw [hq]; exact h4⟩

theorem args_rel (hdis : disjAll P = true) {R : Rx} (hRw : R.w = w) (hRS : ∀ b, b < w.heap.size → R.S b) {b0 : Nat} : ∀ (ts : List TypeId) (vs : List Value) (ds : List (DataW H)) (ps : List MemPlace),
    DataW.TrodAll enc P w base spare held ts vs ds ps → (∀ (j : Nat) t v, ts[j]? = some t → vs[j]? = some v → Value.okWide P w .any b0 t v) → (∀ t ∈ ts, (P.underlying t).isSome = true) → ∃ Ds, RelL R 0 vs Ds ∧ TyL P ts Ds
  | [], [], _, _, _, _, _ => ⟨[], ⟨rfl, by simp⟩, trivial⟩
  | t :: ts, v :: vs, d :: ds, ps, h, hv, hu => by
    obtain ⟨p, q, h1, h2, _⟩ := h
    obtain ⟨D', g1, g2⟩ := arg_rel hdis hRw hRS h1 (hv 0 t v rfl rfl) (hu t (by simp))
    obtain ⟨Ds, g3, g4⟩ := args_rel hdis hRw hRS ts vs ds q h2 (fun j t' v' a b => hv (j + 1) t' v' (by simpa using a) (by simpa using b)) (fun t' ht => hu t' (by simp [ht]))
    refine ⟨D' :: Ds, ⟨by simp [g3.1], fun i v' d' a b => ?_⟩, g2, g4⟩
    cases i with
    | zero => simp at a b; subst a; subst b; exact g1
    | succ i => exact g3.2 i v' d' (by simpa using a) (by simpa using b)
  | [], _ :: _, _, _, h, _, _ => by simp [DataW.TrodAll] at h
  | _ :: _, [], _, _, h, _, _ => by simp [DataW.TrodAll] at h
  | _ :: _, _ :: _, [], _, h, _, _ => by simp [DataW.TrodAll] at h

/-- **A law's walk, out of a contract on data.** -/
theorem law_calls (hdis : disjAll P = true) {f : FuncId} {ts : List TypeId} {args : Array Value} {ds : List (DataW H)} {ps : List MemPlace} {b0 : Nat} (hp : ∀ Ds, TyL P ts Ds → Pure P f Ds (.bool true))
    (hA : DataW.TrodAll enc P w base spare held ts args.toList ds ps) (hv : ∀ (j : Nat) t v, ts[j]? = some t → args[j]? = some v → Value.okWide P w .any b0 t v) (hu : ∀ t ∈ ts, (P.underlying t).isSome = true) :
    Calls P f args w fun e w' => e = .returned (.bool true) ∧ Below w.heap.size w w' := by
  have hnm : ∀ b, ¬ Cx.Mut (⟨w, fun _ => 0, fun _ => undef, [], 0⟩ : Cx) b := fun b ⟨i, h⟩ => by simp [Cx.own, hget, ownOf] at h
  have hg : Good (fun _ => False) (⟨w, fun _ => 0, fun _ => undef, [], 0⟩ : Cx) := ⟨fun _ _ h => by simp [hget] at h, fun _ _ _ h => by simp [Cx.own, hget, ownOf] at h, fun _ _ h => by simp [Cx.own, hget, ownOf] at h, fun _ h => h.elim, fun _ _ h => by simp [hget] at h⟩
  obtain ⟨Ds, h1, h2⟩ := args_rel (R := Cx.R (fun _ => False) ⟨w, fun _ => 0, fun _ => undef, [], 0⟩) hdis rfl (fun b hb => ⟨hb, id, hnm b⟩) ts args.toList ds ps hA (fun j t v a b => hv j t v a (by simpa using b)) hu
  have := (hp Ds h2).2 (fun _ => False) ⟨w, fun _ => 0, fun _ => undef, [], 0⟩ args.toList rfl rfl hg h1
  rw [Array.toArray_toList] at this
  refine this.mono ?_
  rintro e w' ⟨v, k', r, rfl, rfl, rfl, _, hle, hr⟩
  cases hr
  exact ⟨rfl, hle.os, hle.tape, hle.output, hle.size, fun k hk => hle.heap k hk (hnm k)⟩

theorem trodAll_below (hl : laidOutB P = true) {W W' : World} (hb : Below W.heap.size W W') : ∀ (ts : List TypeId) (vs : List Value) (ds : List (DataW H)) (ps : List MemPlace),
    (ts.all fun t => P.readableRec t && decide (t < P.types.size)) = true → DataW.TrodAll enc P W 0 (fun _ => true) true ts vs ds ps → DataW.TrodAll enc P W' 0 (fun b => decide (b < W.heap.size)) true ts vs ds ps
  | [], [], [], _, _, h => h
  | t :: ts, v :: vs, d :: ds, ps, hr, h => by
    obtain ⟨p, q, h1, h2, h3⟩ := h
    simp only [List.all_cons, Bool.and_eq_true, decide_eq_true_eq] at hr
    refine ⟨p, q, Below.trod hl hr.1.1 hr.1.2 h1 hb ?_, trodAll_below hl hb ts vs ds q (by simpa using hr.2) h2, h3⟩
    obtain ⟨m, hm⟩ := h1
    exact DataW.trod_lt m _ _ _ hm
  | [], _ :: _, _, _, _, h => by simp [DataW.TrodAll] at h
  | [], [], _ :: _, _, _, h => by simp [DataW.TrodAll] at h
  | _ :: _, [], _, _, _, h => by simp [DataW.TrodAll] at h
  | _ :: _, _ :: _, [], _, _, h => by simp [DataW.TrodAll] at h

end
end Go.Sx
