/- Own work: a calculus of contracts for the programs of this kit: parts SxLaw, SxZ2, SxRF, SxRG. -/
import Derived.Test.YtaifjmjooapmhaaGreatSxMd
import Derived.ChangeArms
import Derived.OpenShut
import Derived.Below
import Derived.Carry
import Derived.ProofKit
import Derived.ChangeOld
import Derived.RangeFuncWrites
set_option linter.unusedVariables false
set_option linter.unusedSimpArgs false
namespace Go.Sx
open Go.RowKit


def TyD (P : Program) : Nat → TypeId → List D → Prop
 | 0, _, _ => False
 | n + 1, t, ds =>
  match P.underlying t with
  | some .bool => ∃ b, ds = [.bool b]
  | some (.int k) => ∃ x, ds = [.int k x] ∧ (Lit.int k x).wf = true
  | some .string => ∃ s, ds = [.str s] ∧ s.size ≤ maxLen
  | some (.slice e) => P.cellsOf e = 0 ∨ ∃ es, ds = [.sl es] ∧ es.length ≤ maxLen ∧ ∀ c ∈ es, c.length = P.cellsOf e ∧ TyD P n e c
  | some (.struct fs) => P.types.size ≤ t ∨ ds.length = P.cellsOf t ∧ ∀ (i : Nat) f, fs[i]? = some f → TyD P n f.type ((ds.drop f.offset).take (P.cellsOf f.type))
  | some (.array m e) => ds.length = P.cellsOf t ∧ ∀ (i : Nat), i < m → TyD P n e ((ds.drop (i * P.cellsOf e)).take (P.cellsOf e))
  | _ => True

def RelN (R : Rx) (n : Nat) (vs : List Value) (ds : List D) : Prop := RelL R n vs ds ∧ D.nmL ds = true

theorem assemble {R : Rx} (cs : List Value) (m : Nat) (off size : Nat → Nat) (dsf : Nat → List D) (hd : ∀ i j, i < m → j < m → i ≠ j → off i + size i ≤ off j ∨ off j + size j ≤ off i ∨ size i = 0 ∨ size j = 0)
  (hr : ∀ i, i < m → RelN R 0 ((cs.drop (off i)).take (size i)) (dsf i)) : ∃ ds, RelN R 0 cs ds ∧ ∀ i, i < m → (ds.drop (off i)).take (size i) = dsf i := by
 classical
 have hex : ∀ j, ∃ d, d.nm = true ∧ (∀ v, cs[j]? = some v → Rel R 0 v d) ∧ ∀ i, i < m → off i ≤ j → j < off i + size i → j < cs.length → (dsf i)[j - off i]? = some d := fun j => by
  by_cases h : ∃ i, i < m ∧ off i ≤ j ∧ j < off i + size i
  ·obtain ⟨i, h1, h2, h3⟩ := h
   rcases Nat.lt_or_ge j cs.length with hj | hj
   ·have hlen : j - off i < (dsf i).length := by
     rw [← (hr i h1).1.1]; simp; omega
    refine ⟨(dsf i)[j - off i], D.nmL_iff.1 (hr i h1).2 _ (List.getElem_mem hlen), fun v hv => ?_, fun i' g1 g2 g3 _ => ?_⟩
    ·refine (hr i h1).1.2 (j - off i) v _ ?_ (List.getElem?_eq_getElem hlen)
     rw [List.getElem?_take, if_pos (by omega), List.getElem?_drop, show off i + (j - off i) = j by omega]; exact hv
    ·by_cases hii : i' = i
     ·subst hii; exact List.getElem?_eq_getElem hlen
     ·rcases hd i' i g1 h1 hii with h | h | h | h <;> omega
   ·exact ⟨.any, rfl, fun v hv => .any _ _, fun _ _ _ _ hj' => by omega⟩
  ·refine ⟨.any, rfl, fun v hv => .any _ _, fun i g1 g2 g3 _ => absurd ⟨i, g1, g2, g3⟩ h⟩
 obtain ⟨pick, hp⟩ := Classical.axiomOfChoice hex
 refine ⟨(List.range cs.length).map pick, ⟨⟨by simp, fun j v d hv hdj => ?_⟩, D.nmL_iff.2 fun d hd => ?_⟩, fun i hi => ?_⟩
 ·have hj := lt_of_getElem? hv
  rw [List.getElem?_map, List.getElem?_range hj] at hdj
  simp at hdj; subst hdj
  exact (hp j).2.1 v hv
 ·obtain ⟨j, _, rfl⟩ := List.mem_map.1 hd
  exact (hp j).1
 ·apply List.ext_getElem?
  intro q
  rw [List.getElem?_take]
  have hl := (hr i hi).1.1
  simp only [List.length_take, List.length_drop] at hl
  by_cases hq : q < size i
  ·rw [if_pos hq, List.getElem?_drop]
   rcases Nat.lt_or_ge (off i + q) cs.length with hj | hj
   ·rw [List.getElem?_map, List.getElem?_range hj]
    have := (hp (off i + q)).2.2 i hi (by omega) (by omega) hj
    rw [show off i + q - off i = q by omega] at this
    rw [this]; rfl
   ·rw [List.getElem?_eq_none (by simpa using hj), List.getElem?_eq_none (by omega)]
  ·rw [if_neg hq, List.getElem?_eq_none (by omega)]

def disj (P : Program) (fs : Array Field) : Bool :=
 (List.range fs.size).all fun i => (List.range fs.size).all fun j => Nat.beq i j ||
  match fs[i]?, fs[j]? with
  | some f, some g => Nat.ble (f.offset + P.cellsOf f.type) g.offset || Nat.ble (g.offset + P.cellsOf g.type) f.offset || Nat.beq (P.cellsOf f.type) 0 || Nat.beq (P.cellsOf g.type) 0
  | _, _ => true
def disjAll (P : Program) : Bool := (List.range P.types.size).all fun t => match P.underlying t with | some (.struct fs) => disj P fs | _ => true

theorem disj_of {P : Program} (h : disjAll P = true) {t : TypeId} {fs : Array Field} (hu : P.underlying t = some (.struct fs)) (hlt : t < P.types.size) : disj P fs = true := by
 have := List.all_eq_true.1 h t (List.mem_range.2 hlt)
 rw [hu] at this; exact this

section
variable {P : Program} {H : Type} {enc : TypeId × Value → H} {w : World} {base : Nat} {spare : Nat → Bool} {held : Bool}

theorem cells_get {a : Addr} {n : Nat} {cs : List Value} (h : w.cells? base a n = some cs) : cs.length = n ∧ ∀ i, i < n → w.cell? (a.add i) = cs[i]? := by
 unfold World.cells? at h
 split at h
 ·exact ⟨by simpa using mapM_some_length h, fun i hi => mapM_some_get h i i (by simp [hi])⟩
 ·cases h

theorem trod_rel (hdis : disjAll P = true) {R : Rx} (hRw : R.w = w) (hRS : ∀ b, b < w.heap.size → R.S b) : ∀ (fuel : Nat) (t : TypeId) (cs : List Value) (x : DataW H × List MemPlace),
  DataW.trod enc P w base spare held fuel t cs = some x → ∃ ds, RelN R 0 cs ds ∧ TyD P fuel t ds := by
 intro fuel
 induction fuel with
 | zero => intro t cs x h; simp [DataW.trod] at h
 | succ fuel ih =>
  intro t cs x h
  have raw : ∃ ds : List D, RelN R 0 cs ds := ⟨cs.map .raw, ⟨by simp, fun i v d a b => by rw [List.getElem?_map, a] at b; simp at b; subst b; exact .raw _ _⟩, D.nmL_iff.2 fun d hd => by obtain ⟨v, _, rfl⟩ := List.mem_map.1 hd; rfl⟩
  have one : ∀ (v : Value) (d : D), Rel R 0 v d → d.nm = true → RelN R 0 [v] [d] := fun v d hr hd => ⟨⟨rfl, fun i v' d' a b => by
   match i with
   | 0 => simp at a b; subst a; subst b; exact hr
   | _ + 1 => simp at a⟩, by simp [D.nmL, hd]⟩
  cases hu : P.underlying t with
  | none =>
   obtain ⟨ds, hr⟩ := raw
   exact ⟨ds, hr, by simp [TyD, hu]⟩
  | some d =>
   cases d with
   | bool =>
    obtain ⟨b, rfl, _⟩ := DataW.trod_bool hu h
    exact ⟨[.bool b], one _ _ (.bool _ _) rfl, by simp [TyD, hu]⟩
   | int k =>
    obtain ⟨n, rfl, _, hwf⟩ := DataW.trod_int hu h
    exact ⟨[.int k n], one _ _ (.int _ _ _) rfl, by simp [TyD, hu, hwf]⟩
   | string =>
    obtain ⟨s, rfl, _, hs⟩ := DataW.trod_string hu h
    exact ⟨[.str s], one _ _ (.str _ _) rfl, by simp [TyD, hu, hs]⟩
   | slice e =>
    rcases DataW.trod_slice hu h with ⟨rfl, _⟩ | ⟨a, len, cap, elems, rest, n, hn, rfl, _, hb, hlc, hcm, hel, hget, _, _⟩
    ·exact ⟨[.sl []], one _ _ (.sln _) rfl, by simp only [TyD, hu]; exact .inr ⟨[], rfl, by simp, by simp⟩⟩
    ·cases hn
     have hev : ∀ i, ∃ es : List D, i < len → ∃ cv, w.cells? base (a.add (i * P.cellsOf e)) (P.cellsOf e) = some cv ∧ RelN R 0 cv es ∧ TyD P fuel e es := fun i => by
      by_cases hi : i < len
      ·have := hget i hi
       rw [List.getElem?_eq_getElem (by omega)] at this
       obtain ⟨cv, hcv, htr⟩ := Option.bind_eq_some_iff.1 this
       obtain ⟨es, h1, h2⟩ := ih e cv _ htr
       exact ⟨es, fun _ => ⟨cv, hcv, h1, h2⟩⟩
      ·exact ⟨[], fun h => absurd h hi⟩
     obtain ⟨ef, hef⟩ := Classical.axiomOfChoice hev
     have htd : TyD P (fuel + 1) t [.sl ((List.range len).map ef)] := by
      simp only [TyD, hu]
      refine .inr ⟨_, rfl, by simp; omega, fun c hc => ?_⟩
      obtain ⟨i, hi, rfl⟩ := List.mem_map.1 hc
      obtain ⟨cv, h1, h2, h3⟩ := hef i (List.mem_range.1 hi)
      exact ⟨by rw [← h2.1.1]; exact (cells_get h1).1, h3⟩
     rcases Nat.eq_zero_or_pos (P.cellsOf e) with hz | hz
     ·obtain ⟨ds, hr⟩ := raw
      exact ⟨ds, hr, by simp only [TyD, hu]; exact .inl hz⟩
     refine ⟨[.sl ((List.range len).map ef)], one _ _ ?_ rfl, htd⟩
     rcases Nat.eq_zero_or_pos len with h0 | hpos
     ·subst h0; exact .sle _ a cap
     ·-- elements of some cells
      obtain ⟨cv0, g1, g2, g3⟩ := hef 0 hpos
      obtain ⟨l0, c0⟩ := cells_get g1
      have hc0 := c0 0 hz
      rw [List.getElem?_eq_getElem (by omega)] at hc0
      obtain ⟨b, off, spot⟩ := a
      have hsp : spot = none := by simpa [Addr.add] using World.cell?_spot hc0
      subst hsp
      have hlen : ((List.range len).map ef).length = len := by simp
      have hgi : ∀ (i : Nat) c, ((List.range len).map ef)[i]? = some c → i < len ∧ c = ef i := fun i c hc => by
       have hi := lt_of_getElem? hc
       rw [hlen] at hi
       rw [List.getElem?_map, List.getElem?_range hi] at hc
       simp at hc; exact ⟨hi, hc.symm⟩
      have key : ∀ (i : Nat) c (j : Nat) d, ((List.range len).map ef)[i]? = some c → c[j]? = some d → ∃ v, R.w.cell? ⟨b, off + (i * P.cellsOf e + j), none⟩ = some v ∧ Rel R 0 v d := fun i c j d hc hd => by
       obtain ⟨hi, rfl⟩ := hgi i c hc
       obtain ⟨cv, h1, h2, h3⟩ := hef i hi
       obtain ⟨l1, c1⟩ := cells_get h1
       have hj := lt_of_getElem? hd
       have hjs : j < P.cellsOf e := by rw [← l1, h2.1.1]; exact hj
       have hcj := c1 j hjs
       rw [List.getElem?_eq_getElem (by omega)] at hcj
       refine ⟨_, ?_, h2.1.2 j _ d (List.getElem?_eq_getElem (by omega)) hd⟩
       rw [hRw, ← hcj, add_none, add_none, Nat.add_assoc]
      have hlt : b < w.heap.size := by
       have hc := hc0
       rw [add_none, add_none] at hc
       unfold World.cell? at hc
       rcases Nat.lt_or_ge b w.heap.size with h | h
       ·exact h
       ·simp [Array.getElem?_eq_none h] at hc
      have := Rel.sl (R := R) 0 b off cap ((List.range len).map ef) (P.cellsOf e)
       (fun i j => ((R.w.cell? ⟨b, off + (i * P.cellsOf e + j), none⟩).getD undef)) (.inr (hRS b hlt)) (by rw [hlen]; exact hlc) (fun c hc => by
        obtain ⟨i, hi⟩ := List.getElem?_of_mem hc
        obtain ⟨hi2, rfl⟩ := hgi i c hi
        obtain ⟨cv, h1, h2, h3⟩ := hef i hi2
        rw [← h2.1.1]; exact (cells_get h1).1) (fun i c j d hc hd => by
        obtain ⟨v, hv, _⟩ := key i c j d hc hd
        rw [hv]; rfl) (fun i c j d hc hd => by
        obtain ⟨v, hv, hr⟩ := key i c j d hc hd
        rw [hv]; exact hr) (fun c hc => by
        obtain ⟨i, hi⟩ := List.getElem?_of_mem hc
        obtain ⟨hi2, rfl⟩ := hgi i c hi
        obtain ⟨cv, h1, h2, h3⟩ := hef i hi2
        exact h2.2)
      rw [hlen] at this
      exact this
   | struct fs =>
    obtain ⟨xs, n, hn, _, hcl, hxl, hf⟩ := DataW.trod_struct hu h
    cases hn
    rcases Nat.lt_or_ge t P.types.size with hlt | hge
    rotate_left
    ·obtain ⟨ds, hr⟩ := raw
     exact ⟨ds, hr, by simp only [TyD, hu]; exact .inl hge⟩
    have hev : ∀ i : Nat, ∃ es : List D, ∀ f : Field, fs[i]? = some f → RelN R 0 ((cs.drop f.offset).take (P.cellsOf f.type)) es ∧ TyD P fuel f.type es := fun i => by
     cases hfi : fs[i]? with
     | none => exact ⟨[], fun f h => by cases h⟩
     | some f =>
      have := hf i f hfi
      have hi : i < xs.length := by
       rw [hxl]
       rcases Nat.lt_or_ge i fs.size with h | h
       ·exact h
       ·rw [Array.getElem?_eq_none h] at hfi; cases hfi
      rw [List.getElem?_eq_getElem hi] at this
      obtain ⟨es, h1, h2⟩ := ih _ _ _ this
      exact ⟨es, fun f' h => by cases h; exact ⟨h1, h2⟩⟩
    obtain ⟨ef, hef⟩ := Classical.axiomOfChoice hev
    have hfs : ∀ i, i < fs.size → ∃ f, fs[i]? = some f := fun i hi => ⟨_, Array.getElem?_eq_getElem hi⟩
    obtain ⟨ds, h1, h2⟩ := assemble (R := R) cs fs.size (fun i => match fs[i]? with | some f => f.offset | none => 0) (fun i => match fs[i]? with | some f => P.cellsOf f.type | none => 0) ef
     (fun i j hi hj hne => by
      obtain ⟨f, hf⟩ := hfs i hi
      obtain ⟨g, hg⟩ := hfs j hj
      have hd := List.all_eq_true.1 (List.all_eq_true.1 (disj_of hdis hu hlt) i (List.mem_range.2 hi)) j (List.mem_range.2 hj)
      rw [beq_ne hne] at hd
      simp only [hf, hg, Bool.false_or, Bool.or_eq_true] at hd ⊢
      rcases hd with ((hd | hd) | hd) | hd
      ·exact .inl (Nat.le_of_ble_eq_true hd)
      ·exact .inr (.inl (Nat.le_of_ble_eq_true hd))
      ·exact .inr (.inr (.inl (Nat.eq_of_beq_eq_true hd)))
      ·exact .inr (.inr (.inr (Nat.eq_of_beq_eq_true hd))))
     (fun i hi => by
      obtain ⟨f, hf⟩ := hfs i hi
      simp only [hf]
      exact (hef i f hf).1)
    refine ⟨ds, h1, ?_⟩
    simp only [TyD, hu]
    refine .inr ⟨by rw [← h1.1.1]; exact hcl, fun i f hf => ?_⟩
    have hi : i < fs.size := by
     rcases Nat.lt_or_ge i fs.size with h | h
     ·exact h
     ·rw [Array.getElem?_eq_none h] at hf; cases hf
    have := h2 i hi
    simp only [hf] at this
    rw [this]; exact (hef i f hf).2
   | array m e =>
    obtain ⟨xs, n, hn, _, hcl, hxl, hf⟩ := DataW.trod_array hu h
    cases hn
    have hev : ∀ i, ∃ es : List D, i < m → RelN R 0 ((cs.drop (i * P.cellsOf e)).take (P.cellsOf e)) es ∧ TyD P fuel e es := fun i => by
     by_cases hi : i < m
     ·have := hf i hi
      rw [List.getElem?_eq_getElem (by omega)] at this
      obtain ⟨es, h1, h2⟩ := ih _ _ _ this
      exact ⟨es, fun _ => ⟨h1, h2⟩⟩
     ·exact ⟨[], fun h => absurd h hi⟩
    obtain ⟨ef, hef⟩ := Classical.axiomOfChoice hev
    obtain ⟨ds, h1, h2⟩ := assemble (R := R) cs m (fun i => i * P.cellsOf e) (fun _ => P.cellsOf e) ef
     (fun i j hi hj hne => by
      rcases Nat.lt_or_gt_of_ne hne with h | h
      ·left; have := Nat.mul_le_mul_right (P.cellsOf e) h; rw [Nat.succ_mul] at this; exact this
      ·right; left; have := Nat.mul_le_mul_right (P.cellsOf e) h; rw [Nat.succ_mul] at this; exact this)
     (fun i hi => (hef i hi).1)
    refine ⟨ds, h1, ?_⟩
    simp only [TyD, hu]
    exact ⟨by rw [← h1.1.1]; exact hcl, fun i hi => by rw [h2 i hi]; exact (hef i hi).2⟩
   | _ =>
    obtain ⟨ds, hr⟩ := raw
    exact ⟨ds, hr, by simp [TyD, hu]⟩


def TyV (P : Program) (t : TypeId) (d : D) : Prop :=
 ∃ n ds, TyD P n t ds ∧ (match P.underlying t with
  | some (.struct _) | some (.array _ _) => d = .agg ds
  | _ => ds = [d])

def TyL (P : Program) : List TypeId → List D → Prop
 | [], [] => True
 | t :: ts, d :: ds => TyV P t d ∧ TyL P ts ds
 | _, _ => False

theorem arg_rel (hdis : disjAll P = true) {R : Rx} (hRw : R.w = w) (hRS : ∀ b, b < w.heap.size → R.S b) {t : TypeId} {v : Value} {d : DataW H} {ps : List MemPlace} {b0 : Nat}
  (h : DataW.Trod enc P w base spare held t v d ps) (hv : Value.okWide P w .any b0 t v) (hu : (P.underlying t).isSome = true) : ∃ D', Rel R 0 v D' ∧ TyV P t D' := by
 obtain ⟨fuel, hf⟩ := h
 obtain ⟨ds, ⟨h1, _⟩, h2⟩ := trod_rel hdis hRw hRS fuel t _ _ hf
 have hone : v.cells.toList = [v] → ∃ d, ds = [d] ∧ Rel R 0 v d := fun he => by
  rw [he] at h1
  obtain ⟨d, rfl⟩ := List.length_eq_one_iff.1 (show ds.length = 1 by rw [← h1.1]; rfl)
  exact ⟨d, rfl, h1.2 0 v d rfl rfl⟩
 cases hq : P.underlying t with
 | none => rw [hq] at hu; cases hu
 | some td =>
  have agg : (∃ cs, v = .agg cs) → ∃ D', Rel R 0 v D' ∧ D' = .agg ds := fun ⟨cs, he⟩ => by
   subst he
   obtain ⟨l⟩ := cs
   exact ⟨.agg ds, .agg _ l ds h1.1 h1.2, rfl⟩
  have other : (∀ cs, v ≠ .agg cs) → ∃ D', Rel R 0 v D' ∧ ds = [D'] := fun hne => by
   obtain ⟨d, e1, e2⟩ := hone (by cases v <;> first | rfl | exact absurd rfl (hne _))
   exact ⟨d, e2, e1⟩
  cases td with
  | struct fs =>
   simp only [Value.okWide, hq] at hv
   obtain ⟨D', h3, h4⟩ := agg ⟨_, hv.choose_spec.1⟩
   exact ⟨D', h3, fuel, ds, h2, by rw [hq]; exact h4⟩
  | array m e =>
   simp only [Value.okWide, hq] at hv
   obtain ⟨D', h3, h4⟩ := agg ⟨_, hv.choose_spec.1⟩
   exact ⟨D', h3, fuel, ds, h2, by rw [hq]; exact h4⟩
  | _ =>
   simp only [Value.okWide, hq, Cell.okWide] at hv
   obtain ⟨D', h3, h4⟩ := other (fun cs he => by subst he; simp [Cell.ok, hq] at hv)
   exact ⟨D', h3, fuel, ds, h2, by rw [hq]; exact h4⟩

theorem args_rel (hdis : disjAll P = true) {R : Rx} (hRw : R.w = w) (hRS : ∀ b, b < w.heap.size → R.S b) {b0 : Nat} : ∀ (ts : List TypeId) (vs : List Value) (ds : List (DataW H)) (ps : List MemPlace),
  DataW.TrodAll enc P w base spare held ts vs ds ps → (∀ (j : Nat) t v, ts[j]? = some t → vs[j]? = some v → Value.okWide P w .any b0 t v) → (∀ t ∈ ts, (P.underlying t).isSome = true) → ∃ Ds, RelL R 0 vs Ds ∧ TyL P ts Ds
 | [], [], _, _, _, _, _ => ⟨[], ⟨rfl, by simp⟩, trivial⟩
 | t :: ts, v :: vs, d :: ds, ps, h, hv, hu => by
  obtain ⟨p, q, h1, h2, _⟩ := h
  obtain ⟨D', g1, g2⟩ := arg_rel hdis hRw hRS h1 (hv 0 t v rfl rfl) (hu t (by simp))
  obtain ⟨Ds, g3, g4⟩ := args_rel hdis hRw hRS ts vs ds q h2 (fun j t' v' a b => hv (j + 1) t' v' (by simpa using a) (by simpa using b)) (fun t' ht => hu t' (by simp [ht]))
  refine ⟨D' :: Ds, ⟨by simp [g3.1], fun i v' d' a b => ?_⟩, g2, g4⟩
  cases i with
  | zero => simp at a b; subst a; subst b; exact g1
  | succ i => exact g3.2 i v' d' (by simpa using a) (by simpa using b)
 | [], _ :: _, _, _, h, _, _ => by simp [DataW.TrodAll] at h
 | _ :: _, [], _, _, h, _, _ => by simp [DataW.TrodAll] at h
 | _ :: _, _ :: _, [], _, h, _, _ => by simp [DataW.TrodAll] at h

theorem law_calls (hdis : disjAll P = true) {f : FuncId} {ts : List TypeId} {args : Array Value} {ds : List (DataW H)} {ps : List MemPlace} {b0 : Nat} (hp : ∀ Ds, TyL P ts Ds → Pure P f Ds (.bool true))
  (hA : DataW.TrodAll enc P w base spare held ts args.toList ds ps) (hv : ∀ (j : Nat) t v, ts[j]? = some t → args[j]? = some v → Value.okWide P w .any b0 t v) (hu : ∀ t ∈ ts, (P.underlying t).isSome = true) :
  Calls P f args w fun e w' => e = .returned (.bool true) ∧ Below w.heap.size w w' := by
 have hnm : ∀ b, ¬ Cx.Mut (⟨w, fun _ => 0, fun _ => undef, [], 0⟩ : Cx) b := fun b ⟨i, h⟩ => by simp [Cx.own, hget, ownOf] at h
 have hg : Good (fun _ => False) (⟨w, fun _ => 0, fun _ => undef, [], 0⟩ : Cx) := ⟨fun _ _ h => by simp [hget] at h, fun _ _ _ h => by simp [Cx.own, hget, ownOf] at h, fun _ _ h => by simp [Cx.own, hget, ownOf] at h, fun _ h => h.elim, fun _ _ h => by simp [hget] at h⟩
 obtain ⟨Ds, h1, h2⟩ := args_rel (R := Cx.R (fun _ => False) ⟨w, fun _ => 0, fun _ => undef, [], 0⟩) hdis rfl (fun b hb => ⟨hb, id, hnm b⟩) ts args.toList ds ps hA (fun j t v a b => hv j t v a (by simpa using b)) hu
 have := (hp Ds h2).2 (fun _ => False) ⟨w, fun _ => 0, fun _ => undef, [], 0⟩ args.toList rfl rfl hg h1
 rw [Array.toArray_toList] at this
 refine this.mono ?_
 rintro e w' ⟨v, k', r, rfl, rfl, rfl, _, hle, hr⟩
 cases hr
 exact ⟨rfl, hle.os, hle.tape, hle.output, hle.size, fun k hk => hle.heap k hk (hnm k)⟩

theorem trodAll_below (hl : laidOutB P = true) {W W' : World} (hb : Below W.heap.size W W') : ∀ (ts : List TypeId) (vs : List Value) (ds : List (DataW H)) (ps : List MemPlace),
  (ts.all fun t => P.readableRec t && decide (t < P.types.size)) = true → DataW.TrodAll enc P W 0 (fun _ => true) true ts vs ds ps → DataW.TrodAll enc P W' 0 (fun b => decide (b < W.heap.size)) true ts vs ds ps
 | [], [], [], _, _, h => h
 | t :: ts, v :: vs, d :: ds, ps, hr, h => by
  obtain ⟨p, q, h1, h2, h3⟩ := h
  simp only [List.all_cons, Bool.and_eq_true, decide_eq_true_eq] at hr
  refine ⟨p, q, Below.trod hl hr.1.1 hr.1.2 h1 hb ?_, trodAll_below hl hb ts vs ds q (by simpa using hr.2) h2, h3⟩
  obtain ⟨m, hm⟩ := h1
  exact DataW.trod_lt m _ _ _ hm
 | [], _ :: _, _, _, _, h => by simp [DataW.TrodAll] at h
 | [], [], _ :: _, _, _, h => by simp [DataW.TrodAll] at h
 | _ :: _, [], _, _, _, h => by simp [DataW.TrodAll] at h
 | _ :: _, _ :: _, [], _, _, h => by simp [DataW.TrodAll] at h

end
end Go.Sx

/- More rules. Own work. -/
namespace Go.Sx


theorem tyInt {P : Program} {n : Nat} {t : TypeId} {k : IntKind} {ds : List D} (hu : P.underlying t = some (.int k)) (h : TyD P n t ds) : ∃ x, ds = [.int k x] ∧ (Lit.int k x).wf = true := by
 cases n with
 | zero => exact h.elim
 | succ n => simp only [TyD, hu] at h; exact h
theorem tyBool {P : Program} {n : Nat} {t : TypeId} {ds : List D} (hu : P.underlying t = some .bool) (h : TyD P n t ds) : ∃ b, ds = [.bool b] := by
 cases n with
 | zero => exact h.elim
 | succ n => simp only [TyD, hu] at h; exact h
theorem tySl {P : Program} {n : Nat} {t e : TypeId} {ds : List D} (hu : P.underlying t = some (.slice e)) (hz : P.cellsOf e ≠ 0) (h : TyD P n t ds) : ∃ es m, ds = [.sl es] ∧ es.length ≤ maxLen ∧ ∀ c ∈ es, c.length = P.cellsOf e ∧ TyD P m e c := by
 cases n with
 | zero => exact h.elim
 | succ n =>
  simp only [TyD, hu] at h
  rcases h with h | ⟨es, h1, h2, h3⟩
  ·exact absurd h hz
  ·exact ⟨es, n, h1, h2, h3⟩
theorem tySt {P : Program} {n : Nat} {t : TypeId} {fs : Array Field} {ds : List D} (hu : P.underlying t = some (.struct fs)) (ht : t < P.types.size) (h : TyD P n t ds) :
  ds.length = P.cellsOf t ∧ ∃ m, ∀ (i : Nat) f, fs[i]? = some f → TyD P m f.type ((ds.drop f.offset).take (P.cellsOf f.type)) := by
 cases n with
 | zero => exact h.elim
 | succ n =>
  simp only [TyD, hu] at h
  rcases h with h | ⟨h1, h2⟩
  ·exact absurd ht (Nat.not_lt.2 h)
  ·exact ⟨h1, n, h2⟩
theorem list2 {α : Type} {l : List α} (h : l.length = 2) : ∃ a b, l = [a, b] := by
 match l, h with
 | [a, b], _ => exact ⟨a, b, rfl⟩
theorem list3 {α : Type} {l : List α} (h : l.length = 3) : ∃ a b c, l = [a, b, c] := by
 match l, h with
 | [a, b, c], _ => exact ⟨a, b, c, rfl⟩
theorem list4 {α : Type} {l : List α} (h : l.length = 4) : ∃ a b c d, l = [a, b, c, d] := by
 match l, h with
 | [a, b, c, d], _ => exact ⟨a, b, c, d, rfl⟩
theorem list_map {α β : Type} {f : α → β} : ∀ {l : List β}, (∀ c ∈ l, ∃ x, c = f x) → ∃ l' : List α, l = l'.map f
 | [], _ => ⟨[], rfl⟩
 | c :: l, h => by
  obtain ⟨x, rfl⟩ := h c (by simp)
  obtain ⟨l', rfl⟩ := list_map (l := l) fun c hc => h c (by simp [hc])
  exact ⟨x :: l', rfl⟩
end Go.Sx

/- Sx: ranges over functions: the rule. Own work. -/
namespace Go.Sx


structure RLe1 (R R' : Rx) : Prop where
 β : ∀ b, R'.β b = R.β b
 sv : ∀ b, R'.sv b = R.sv b
 ln : ∀ b, R'.ln b = R.ln b
 S : ∀ b, R.S b → R'.S b
 heap : ∀ b o v, R.S b → R.w.cell? ⟨b, o, none⟩ = some v → R'.w.cell? ⟨b, o, none⟩ = some v

theorem Rel.mono1 {R R' : Rx} {n : Nat} {v : Value} {d : D} (h : Rel R n v d) (hle : RLe1 R R') (hd : d.nm = true) : Rel R' n v d := by
 induction h with
 | any => exact .any _ _
 | int => exact .int _ _ _
 | bool => exact .bool _ _
 | str => exact .str _ _
 | agg n vs ds h1 _ ih => exact .agg _ vs ds h1 fun i v d a b => ih i v d a b (D.nmL_get (by simpa [D.nm] using hd) i d b)
 | tup n vs ds h1 _ ih => exact .tup _ vs ds h1 fun i v d a b => ih i v d a b (D.nmL_get (by simpa [D.nm] using hd) i d b)
 | nils => exact .nils _
 | sln => exact .sln _
 | sle n a cap => exact .sle _ a cap
 | sl n b off cap es sz vs h1 h2 h3 h4 _ h6 ih =>
  exact .sl _ b off cap es sz vs (h1.imp id (hle.S b)) h2 h3 (fun i e j d a c => hle.heap b _ _ (h1.resolve_left (by rintro rfl; simp at a)) (h4 i e j d a c)) (fun i e j d a c => ih i e j d a c (D.nmL_get (h6 e (List.mem_of_getElem? a)) j d c)) h6
 | ref n b off cs o vs h1 h2 _ h4 ih => exact .ref _ b off cs o vs (hle.S b h1) (fun j d a => hle.heap b _ _ h1 (h2 j d a)) (fun j d a => ih j d a (D.nmL_get h4 j d a)) h4
 | ptr n b off h1 => rw [← hle.β b]; exact .ptr _ b off h1
 | osl n b l v h1 h2 => exact .osl _ b l v h1 fun m' hm' => by rw [hle.ln] at hm'; rw [hle.sv]; exact h2 m' hm'
 | eptr n b l sz i off v h1 h2 => exact .eptr _ b l sz i off v h1 fun m' hm' => by rw [hle.ln] at hm'; rw [hle.sv]; exact h2 m' hm'
 | fn n f va vc da dc h1 h2 _ _ i1 i2 =>
  have hd' : D.nmL da = true ∧ D.nmL dc = true := by simpa [D.nm] using hd
  exact .fn _ f va vc da dc h1 h2 (fun i v d a b => i1 i v d a b (D.nmL_get hd'.1 i d b)) (fun i v d a b => i2 i v d a b (D.nmL_get hd'.2 i d b))
 | nilp => exact .nilp _
 | nilf => exact .nilf _
 | nili => exact .nili _
 | nilm => exact .nilm _
 | ifc n t v d _ ih => exact .ifc _ t v d (ih (by simpa [D.nm] using hd))
 | mp n b h1 => rw [← hle.β b]; exact .mp _ b h1
 | mpd => simp [D.nm] at hd
 | refm => simp [D.nm] at hd
 | bsl n b off l cap sz h1 h2 => rw [← hle.β b]; exact .bsl _ b off l cap sz h1 h2
 | raw => exact .raw _ _

theorem keysOk_nm {ds : List D} (h : keysOk ds = true) : D.nmL ds = true := by
 induction ds with
 | nil => rfl
 | cons d ds ih =>
  simp only [keysOk, Bool.and_eq_true] at h
  have : d.nm = true := by
   have h1 := h.1.1
   unfold keyOne at h1
   split at h1 <;> first | rfl | cases h1
  simp [D.nmL, this, ih h.2]

def boxNm : H → Bool
 | [] => true
 | (_, .box cs) :: r => D.nmL cs && boxNm r
 | (_, .arr _ _ _) :: r => boxNm r
 | (_, .map _) :: r => boxNm r

theorem boxNm_get : ∀ {h : H}, boxNm h = true → ∀ {id : Nat} {cs : List D}, hget h id = some (.box cs) → D.nmL cs = true
 | [], _, id, cs, h => by simp [hget] at h
 | (i, .box cs) :: r, hn, id, cs', h => by
  simp only [boxNm, Bool.and_eq_true] at hn
  simp only [hget] at h; split at h
  ·cases h; exact hn.1
  ·exact boxNm_get hn.2 h
 | (i, .arr t s es) :: r, hn, id, cs', h => by
  simp only [hget] at h; split at h
  ·cases h
  ·exact boxNm_get (h := r) (by simpa [boxNm] using hn) h
 | (i, .map k) :: r, hn, id, cs', h => by
  simp only [hget] at h; split at h
  ·cases h
  ·exact boxNm_get (h := r) (by simpa [boxNm] using hn) h

theorem le_grown {k1 k : Cx} {W' : World} {row : Option Nat} (hle : Le k1 k) (hgr : k.w.grownBy W' row) (hrow : ∀ r, row = some r → k1.w.heap.size ≤ r) : Le k1 { k with w := W' } :=
 ⟨hle.nid, hgr.os.trans hle.os, hgr.tape.trans hle.tape, hgr.output.trans hle.output, Nat.le_trans hle.size hgr.size, hle.β, hle.arr, fun b hb hn => by
  refine (hgr.block b (Nat.lt_of_lt_of_le hb hle.size) fun e => ?_).trans (hle.heap b hb hn)
  have := hrow b e.symm
  omega, hle.mb⟩

theorem At.grownG {X : Nat → Prop} {k0 k1 k : Cx} {a : Act} {s s1 : St} {W' : World} {row : Option Nat} (hat1 : At X k0 k1 a s1) (he : s1.env = s.env) (hle1 : Le k1 k) (hat : At X k0 k a s) (hgr : k.w.grownBy W' row)
  (hrow : ∀ r, row = some r → k1.w.heap.size ≤ r) (hbx : boxNm s.h = true) (hmk : ∀ r, markD r ∈ a.defers → r < k1.w.heap.size)
  (hown : ∀ id b, k.own id = some b → W'.heap[b]? = k.w.heap[b]?) (hcells : ∀ b o v, b < k.w.heap.size → k.w.cell? ⟨b, o, none⟩ = some v → W'.cell? ⟨b, o, none⟩ = some v) :
  At X k0 { k with w := W' } a s := by
 have hg := hat.good
 have hrle : RLe1 (k.R X) (Cx.R X { k with w := W' }) := {
  β := fun _ => rfl
  sv := fun _ => rfl
  ln := fun _ => rfl
  S := fun b ⟨h1, h2, h3⟩ => ⟨Nat.lt_of_lt_of_le h1 hgr.size, h2, h3⟩
  heap := fun b o v ⟨h1, _, _⟩ hv => hcells b o v h1 hv }
 have hle2 := le_grown hle1 hgr hrow
 refine ⟨hat.h, hat.nid, ⟨hg.key, hg.inj, fun i b hb => ⟨Nat.lt_of_lt_of_le (hg.lt i b hb).1 hgr.size, (hg.lt i b hb).2⟩, fun b hb => Nat.lt_of_lt_of_le (hg.xlt b hb) hgr.size, fun id blk hid => ?_⟩,
  hat1.le.trans hle2, ⟨hat.act.size, fun i => ?_, ?_⟩⟩
 ·have hok := hg.ok id blk hid
  cases blk with
  | box cs =>
   obtain ⟨vs, ty, a1, a2⟩ := hok
   have hn := boxNm_get hbx (by rw [← hat.h]; exact hid)
   exact ⟨vs, ty, by rw [show W'.heap[k.β id]? = _ from hown id _ (by rw [own_of_hget (k := k) hid]; rfl)]; exact a1, a2.1, fun i v d x y => (a2.2 i v d x y).mono1 hrle (D.nmL_get hn i d y)⟩
  | arr ty sz es =>
   obtain ⟨a0, a1⟩ := hok
   refine ⟨a0, ?_⟩
   rcases a1 with a1 | ⟨b, off, cap, vs, b1, b2, b3, b4, b5⟩
   ·exact .inl a1
   ·exact .inr ⟨b, off, cap, vs, b1, by rw [show W'.heap[b]? = _ from hown id b (by rw [own_of_hget (k := k) hid]; simp only [ownOf]; rw [show k.sv id = _ from b1]; rfl)]; exact b2, b3, b4,
     fun i e j d v x y z => (b5 i e j d v x y z).mono1 hrle (D.nmL_get (a0 e (List.mem_of_getElem? x)).2 j d y)⟩
  | map kvs =>
   obtain ⟨es, c, es', x1, x2, x3, x6, x4, x5⟩ := hok
   exact ⟨es, c, es', by rw [show W'.heap[k.β id]? = _ from hown id _ (by rw [own_of_hget (k := k) hid]; rfl)]; exact x1, x2, x3, x6, ⟨x4.1, fun i v d x y => (x4.2 i v d x y).mono1 hrle (D.nmL_get (keysOk_nm x3) i d y)⟩,
    x5.1, fun i v d x y => (x5.2 i v d x y).mono1 hrle (D.nmL_get x6 i d y)⟩
 ·have := (hat1.act.rel i).le hle2
  rwa [he] at this
 ·obtain ⟨ms, h1, h2, h3⟩ := hat.act.marks
  refine ⟨ms, h1, h2, fun r hr => ⟨(h3 r hr).1, ?_⟩⟩
  have hlt : r < k.w.heap.size := by
   rcases Nat.lt_or_ge r k.w.heap.size with h | h
   ·exact h
   ·have := (h3 r hr).2; rw [Array.getElem?_eq_none h] at this; cases this
  refine (hgr.block r hlt fun e => ?_).trans (h3 r hr).2
  have h4 := hrow r e.symm
  have := hmk r (by rw [h1]; exact List.mem_map_of_mem hr)
  omega

theorem cells_grown {w W' : World} {row : Option Nat} (hgr : w.grownBy W' row) (hrow : ∀ r, row = some r → ∃ o : Obj, w.heap[r]? = some o ∧ o.isCells = false) (b o : Nat) (v : Value) (hb : b < w.heap.size)
  (hv : w.cell? ⟨b, o, none⟩ = some v) : W'.cell? ⟨b, o, none⟩ = some v := by
 rw [← hv]
 refine cell_of_heap (hgr.block b hb fun e => ?_)
 obtain ⟨ob, h1, h2⟩ := hrow b e.symm
 simp only [World.cell?, h1] at hv
 cases ob <;> simp_all [Obj.isCells]

theorem At.weakG {n0 : Nat} {X : Nat → Prop} {k0 k : Cx} {a : Act} {s s' : St} (hat : At X k0 k a s) (hn : k0.nid = n0) (hw : Weak n0 s s') : ∃ k', k'.w = k.w ∧ At X k0 k' a s' ∧ ∀ k1, Le k1 k → k1.nid ≤ s'.nid → Le k1 k' := by
 have hsub : ∀ id blk, hget s'.h id = some blk → hget k.h id = some blk := fun id blk h => by rw [hat.h]; exact hw.sub id blk h
 refine ⟨{ k with h := s'.h, nid := s'.nid }, rfl, ⟨rfl, rfl, hat.good.drop hsub hw.key (fun hle id blk hb => ?_), hat.le.drop (by rw [hn]; exact hw.nid) hsub, ⟨by rw [hat.act.size]; exact hw.n, fun i => ?_, hat.act.marks⟩⟩, fun k1 h1 h2 => h1.drop h2 hsub⟩
 ·rcases hw.roll with h | h
  ·have := hat.nid; omega
  ·exact h id blk hb
 ·rcases hw.env i with h1 | ⟨h1, h2⟩
  ·rw [h1]; exact .any _ _
  ·rw [← h1] at h2 ⊢; exact (hat.act.rel i).drop hsub (by rw [hat.nid]; exact h2)

theorem wpIn_n {P : Program} {ro : Option Nat} {n m : Nat} {c : Code} {Q : Exit → Act → World → Prop} {a : Act} {w : World} (h : c.wpIn (FW ro) n P Q a w) : c.wpIn (FW ro) m P Q a w :=
 fun b k cs hro hb _ => h b k cs hro hb (fun d hd => by simp [FW, Fence.wide] at hd)



def parAct (ps : List Tmp) (vs : List Value) (t : Array Value) : Array Value := (ps.zip vs).foldl (fun t q => t.setIfInBounds q.1 q.2) t

def parEnv (n : Nat) : List Tmp → List D → Env → Env
 | p :: ps, d :: ds, e => parEnv n ps ds (if p < n then (p, d) :: e else e)
 | _, _, e => e

theorem par_act {X : Nat → Prop} {k : Cx} {B : Nat} : ∀ (ps : List Tmp) (vs : List Value) (ds : List D) (t : Array Value) (e : Env) (n : Nat), RelL (k.R X) k.nid vs ds → ActOk X k B { tmps := t, defers := [] } e n →
  ActOk X k B { tmps := parAct ps vs t, defers := [] } (parEnv n ps ds e) n
 | [], _, _, _, _, _, _, h => by simpa [parAct, parEnv] using h
 | p :: ps, [], [], _, _, _, _, h => by simpa [parAct, parEnv] using h
 | p :: ps, v :: vs, [], _, _, _, hr, _ => by simp [RelL] at hr
 | p :: ps, [], d :: ds, _, _, _, hr, _ => by simp [RelL] at hr
 | p :: ps, v :: vs, d :: ds, t, e, n, hr, h => by
  have h1 := ActOk.put (s := ⟨e, [], 0, n⟩) h (some p) (hr.2 0 v d rfl rfl)
  have h2 : ActOk X k B { tmps := t.setIfInBounds p v, defers := [] } (if p < n then (p, d) :: e else e) n := by
   simp only [St.put, Act.put] at h1
   split at h1
   ·rename_i hlt; rw [if_pos hlt]; exact h1
   ·rename_i hlt; rw [if_neg hlt]; exact h1
  have h3 := par_act ps vs ds _ _ n ⟨by simpa using hr.1, fun i v' d' a b => hr.2 (i + 1) v' d' (by simpa using a) (by simpa using b)⟩ h2
  simpa [parAct, parEnv] using h3

def codeOf : Ex → Code
 | .normal => .skip
 | .exit id => .exit id
 | .ret => .ret

section
variable {P : Program} {O : Oracle} {n0 : Nat}

end
end Go.Sx

/- Sx: ranges over functions: contracts of iterators that read no memory. Own work. -/
namespace Go.Sx

def NX : Nat → Prop := fun _ => False
def K0 (W : World) : Cx := ⟨W, fun _ => 0, fun _ => undef, [], 0⟩
abbrev RW (W : World) : Rx := Cx.R NX (K0 W)

structure AtQ (a : Act) (s : St) (W : World) : Prop where
 defers : a.defers = []
 h : s.h = []
 nid : s.nid = 0
 size : a.tmps.size = s.n
 rel : ∀ i : Nat, Rel (RW W) 0 (a.tmps.getD i undef) (look s.env i)

theorem AtQ.act {a : Act} {s : St} {W : World} (h : AtQ a s W) : ActOk NX (K0 W) 0 a s.env s.n := ⟨h.size, h.rel, [], by simp [h.defers], List.nodup_nil, by simp⟩

theorem AtQ.of_act {a : Act} {s : St} {W : World} (h : ActOk NX (K0 W) 0 a s.env s.n) (hd : a.defers = []) (h1 : s.h = []) (h2 : s.nid = 0) : AtQ a s W := ⟨hd, h1, h2, h.size, h.rel⟩


theorem AtQ.put {a : Act} {s : St} {W : World} (h : AtQ a s W) (dst : Option Tmp) {v : Value} {d : D} (hr : Rel (RW W) 0 v d) : AtQ (a.put dst v) (s.put dst d) W :=
 .of_act (ActOk.put h.act dst hr) (by rw [put_defers]; exact h.defers) (by rw [put_h]; exact h.h) (by rw [put_nid]; exact h.nid)

def flat1 : D → Bool
 | .raw _ => true
 | d => d.flat

theorem Rel.flat1 {R R' : Rx} {n m : Nat} {v : Value} {d : D} (h : Rel R n v d) (hf : flat1 d = true) : Rel R' m v d := by
 cases d with
 | raw => cases h; exact .raw _ _
 | _ => exact h.flat hf

def envFlat : Env → Bool
 | [] => true
 | (_, d) :: e => flat1 d && envFlat e

theorem envFlat_look : ∀ {e : Env}, envFlat e = true → ∀ i, flat1 (look e i) = true ∨ look e i = .any
 | [], _, _ => .inr rfl
 | (j, d) :: e, h, i => by
  simp only [envFlat, Bool.and_eq_true] at h
  simp only [look]
  split
  ·exact .inl h.1
  ·exact envFlat_look h.2 i

theorem AtQ.world {a : Act} {s : St} {W W' : World} (h : AtQ a s W) (hf : envFlat s.env = true) : AtQ a s W' :=
 ⟨h.defers, h.h, h.nid, h.size, fun i => by
  rcases envFlat_look hf i with h1 | h1
  ·exact (h.rel i).flat1 h1
  ·rw [h1]; exact .any _ _⟩

section
variable {P : Program}

theorem wpIn_loopI {ro : Option Nat} {ι : Type} {c : Code} {Q : Exit → Act → World → Prop} {a : Act} {w : World} (Inv : ι → Act → World → Prop) (μ : ι → Nat) (i0 : ι) (h0 : Inv i0 a w)
  (round : ∀ i a w, Inv i a w → c.wpIn (FW ro) 0 P (fun e a' w' => match e with
   | .normal => ∃ j, Inv j a' w' ∧ μ j < μ i
   | .exit id => Q (.exit id) a' w'
   | .ret => Q .ret a' w'
   | _ => False) a w) : (Code.loop c).wpIn (FW ro) 0 P Q a w := by
 intro b kk cs hro hb hr
 have key : ∀ n (i : ι) (a : Act) (w : World), μ i = n → Inv i a w →
   ∃ e a' w', Q e a' w' ∧ ArrivesIn (Machine.fenced P (FW ro)) P (lone (b.atR a (.code c :: .inLoop c :: kk)) cs w) b kk cs e a' w' := by
  intro n
  induction n using Nat.strongRecOn with
  | _ n ih =>
   intro i a w hμ hI
   obtain ⟨e, a₁, w₁, hq, harr⟩ := round i a w hI b (.inLoop c :: kk) cs hro hb hr
   cases e with
   | normal =>
    obtain ⟨j, hj, hlt⟩ := hq
    obtain ⟨e₂, a₂, w₂, hq₂, harr₂⟩ := ih (μ j) (hμ ▸ hlt) j a₁ w₁ rfl hj
    exact ⟨e₂, a₂, w₂, hq₂, .of_steps (StepsIn.trans harr (.one (fenced_calm (fr := b.atR a₁ (.inLoop c :: kk)) hb hr rfl) stepR_inLoop)) harr₂⟩
   | exit id => exact ⟨_, a₁, w₁, hq, .pass (x := .inLoop c) rfl (fun _ _ => .inl (by simp)) harr⟩
   | ret => exact ⟨_, a₁, w₁, hq, .pass (x := .inLoop c) rfl (fun _ _ => .inl (by simp)) harr⟩
   | _ => exact hq.elim
 obtain ⟨e, a', w', hq, harr⟩ := key _ i0 a w rfl h0
 exact ⟨e, a', w', hq, .of_steps (.one (fenced_calm hb hr rfl) stepR_loop) harr⟩

def weakQ (s s' : St) : Prop := s.n = s'.n ∧ s'.h = [] ∧ s'.nid = 0 ∧ ∀ i, look s'.env i = .any ∨ look s.env i = look s'.env i

theorem AtQ.weak {a : Act} {s s' : St} {W : World} (h : AtQ a s W) (hw : weakQ s s') : AtQ a s' W :=
 ⟨h.defers, hw.2.1, hw.2.2.1, h.size.trans hw.1, fun i => by
  rcases hw.2.2.2 i with h1 | h1
  ·rw [h1]; exact .any _ _
  ·rw [← h1]; exact h.rel i⟩


def yieldOf (env : Env) : Op → Option (Nat × List D)
 | .call c =>
  match c.callee with
  | .value x =>
   match evO env x with
   | .raw (.func (.yield l) ⟨[]⟩ ⟨[]⟩) => some (l, c.args.toList.map (evO env))
   | _ => none
  | _ => none
 | _ => none

end
end Go.Sx
