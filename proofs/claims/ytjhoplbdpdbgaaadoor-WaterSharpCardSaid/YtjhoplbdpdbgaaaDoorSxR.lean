/- Sx, part R: regions that draw their order: boxes that come up in whatever order, and the whole of a phase. Own work. -/
import Derived.Test.YtjhoplbdpdbgaaaDoorSxQ
set_option linter.unusedVariables false
set_option linter.unusedSimpArgs false
namespace Go.Sx

theorem rell_mono {R R' : Rx} {n m : Nat} {vs : List Value} {ds : List D} (h : RelL R n vs ds) (hle : RLe n R R') (hm : n ≤ m) : RelL R' m vs ds :=
  ⟨h.1, fun i v d a b => ((h.2 i v d a b).mono hle).weak hm⟩

/-- A block that comes up and belongs to nobody. -/
theorem good_float {X X' : Nat → Prop} {k : Cx} (hg : Good X k) (ob : Obj) (hX : ∀ c, X' c ↔ X c ∨ c = k.w.heap.size) :
    Good X' { k with w := k.w.alloc ob } ∧ ∀ n, RLe n (k.R X) (Cx.R X' { k with w := k.w.alloc ob }) := by
  have hrle : ∀ n, RLe n (k.R X) (Cx.R X' { k with w := k.w.alloc ob }) := fun n => {
    β := fun _ _ => rfl
    arr := fun b _ m' hm' => ⟨m', hm', Nat.le_refl _, fun _ => rfl⟩
    S := fun b ⟨h1, h2, h3⟩ => ⟨by show b < (k.w.alloc ob).heap.size; rw [alloc_size]; omega, fun h => (hX b).1 h |>.elim h2 fun h => by omega, h3⟩
    heap := fun b o ⟨h1, _, _⟩ => cell_of_heap (alloc_heap _ _ _ h1) }
  refine ⟨⟨hg.key, hg.inj, fun i b hb => ?_, fun b hb => ?_, fun id blk hid => ?_⟩, hrle⟩
  · have := hg.lt i b hb
    refine ⟨by show b < (k.w.alloc ob).heap.size; rw [alloc_size]; omega, fun h => (hX b).1 h |>.elim this.2 fun h => by omega⟩
  · show b < (k.w.alloc ob).heap.size
    rw [alloc_size]
    rcases (hX b).1 hb with h | h
    · have := hg.xlt b h; omega
    · omega
  · have hok := hg.ok id blk hid
    have hold : ∀ b, k.own id = some b → (k.w.alloc ob).heap[b]? = k.w.heap[b]? := fun b hb => alloc_heap _ _ _ (hg.lt id b hb).1
    cases blk with
    | box cs =>
      obtain ⟨vs, ty, a1, a2⟩ := hok
      exact ⟨vs, ty, by rw [show Cx.β { k with w := k.w.alloc ob } id = k.β id from rfl, show Cx.w { k with w := k.w.alloc ob } = k.w.alloc ob from rfl, hold _ (by rw [own_of_hget (k := k) hid]; rfl)]; exact a1, rell_mono a2 (hrle _) (Nat.le_refl _)⟩
    | arr ty sz es =>
      obtain ⟨a0, a1⟩ := hok
      refine ⟨a0, ?_⟩
      rcases a1 with a1 | ⟨c, cap, vs, b1, b2, b3, b4, b5⟩
      · exact .inl a1
      · exact .inr ⟨c, cap, vs, b1, by rw [show Cx.w { k with w := k.w.alloc ob } = k.w.alloc ob from rfl, hold c (by rw [own_of_hget (k := k) hid]; simp only [ownOf]; rw [b1]; rfl)]; exact b2, b3, b4, fun i e j d v x y z => (b5 i e j d v x y z).mono (hrle _)⟩
    | map kvs =>
      obtain ⟨es, c, es', a1, hp, hk, a2, a3⟩ := hok
      exact ⟨es, c, es', by rw [show Cx.β { k with w := k.w.alloc ob } id = k.β id from rfl, show Cx.w { k with w := k.w.alloc ob } = k.w.alloc ob from rfl, hold _ (by rw [own_of_hget (k := k) hid]; rfl)]; exact a1, hp, hk, rell_mono a2 (hrle _) (Nat.le_refl _), rell_mono a3 (hrle _) (Nat.le_refl _)⟩

/-- A block that belonged to nobody gets a name. -/
def Cx.adopt (k : Cx) (c : Nat) (zs : List D) : Cx := { w := k.w, β := fun i => if i = k.nid then c else k.β i, sv := k.sv, h := (k.nid, .box zs) :: k.h, nid := k.nid + 1 }

theorem adopt_own {k : Cx} {c : Nat} {zs : List D} (id : Nat) : (k.adopt c zs).own id = if id = k.nid then some c else k.own id := by
  simp only [Cx.own, Cx.adopt, hget]
  by_cases h : id = k.nid
  · simp [h, ownOf]
  · simp only [if_neg h]
    cases hq : hget k.h id with
    | none => simp [ownOf]
    | some blk => cases blk <;> simp [ownOf, h]

theorem good_adopt {X X' : Nat → Prop} {k0 k : Cx} {c : Nat} {zs : List D} {vs : List Value} {ty : TypeId} (hg : Good X k) (hle : Le k0 k) (hX : ∀ d, X d ↔ X' d ∨ d = c) (hc' : ¬ X' c) (hc : k0.w.heap.size ≤ c)
    (hh : k.w.heap[c]? = some (.cells (List.toArray vs) ty (0, 0))) (hz : ∀ R n, RelL R n vs zs) :
    Good X' (k.adopt c zs) ∧ Le k0 (k.adopt c zs) ∧ ∀ n, n ≤ k.nid → RLe n (k.R X) ((k.adopt c zs).R X') := by
  have hXc : X c := (hX c).2 (.inr rfl)
  have hnm : ¬ k.Mut c := fun ⟨i, hi⟩ => (hg.lt i c hi).2 hXc
  have hrle : ∀ n, n ≤ k.nid → RLe n (k.R X) ((k.adopt c zs).R X') := fun n hn => {
    β := fun b hb => by show (if b = k.nid then c else k.β b) = k.β b; rw [if_neg (by omega)]
    arr := fun b hb m' hm' => by
      have hm : lnOf (hget ((k.nid, .box zs) :: k.h) b) = some m' := hm'
      simp only [hget] at hm
      rw [if_neg (by omega)] at hm
      exact ⟨m', hm, Nat.le_refl _, fun _ => rfl⟩
    S := fun b ⟨h1, h2, h3⟩ => ⟨h1, fun h => h2 ((hX b).2 (.inl h)), fun ⟨i, hi⟩ => by
      rw [adopt_own] at hi
      by_cases hin : i = k.nid
      · rw [if_pos hin] at hi; simp at hi; subst hi; exact h2 hXc
      · rw [if_neg hin] at hi; exact h3 ⟨i, hi⟩⟩
    heap := fun _ _ _ => rfl }
  refine ⟨⟨fun id blk h => ?_, fun i j d hi hj => ?_, fun i d hi => ?_, fun d hd => hg.xlt d ((hX d).2 (.inl hd)), fun id blk h => ?_⟩, ⟨?_, hle.os, hle.tape, hle.output, hle.size, fun id hid => ?_, fun id hid m' hm' => ?_, hle.heap, fun d hd ⟨i, hi⟩ => ?_⟩, hrle⟩
  · simp only [Cx.adopt, hget] at h ⊢
    by_cases hi : id = k.nid
    · omega
    · rw [if_neg hi] at h; have := hg.key id blk h; omega
  · rw [adopt_own] at hi hj
    by_cases h1 : i = k.nid <;> by_cases h2 : j = k.nid
    · omega
    · rw [if_pos h1] at hi; rw [if_neg h2] at hj; simp at hi; subst hi; exact absurd ⟨j, hj⟩ hnm
    · rw [if_neg h1] at hi; rw [if_pos h2] at hj; simp at hj; subst hj; exact absurd ⟨i, hi⟩ hnm
    · rw [if_neg h1] at hi; rw [if_neg h2] at hj; exact hg.inj i j d hi hj
  · rw [adopt_own] at hi
    by_cases h1 : i = k.nid
    · rw [if_pos h1] at hi; simp at hi; subst hi; exact ⟨hg.xlt _ hXc, hc'⟩
    · rw [if_neg h1] at hi; have := hg.lt i d hi; exact ⟨this.1, fun h => this.2 ((hX d).2 (.inl h))⟩
  · simp only [Cx.adopt, hget] at h
    by_cases hi : id = k.nid
    · rw [if_pos hi] at h
      obtain rfl := Option.some.inj h
      exact ⟨vs, ty, by simp [Cx.adopt, hi]; exact hh, hz _ _⟩
    · rw [if_neg hi] at h
      have hok := hg.ok id blk h
      cases blk with
      | box cs =>
        obtain ⟨vs', ty', a1, a2⟩ := hok
        exact ⟨vs', ty', by simp only [Cx.adopt, if_neg hi]; exact a1, rell_mono a2 (hrle _ (Nat.le_refl _)) (Nat.le_succ _)⟩
      | arr ty' sz es =>
        obtain ⟨a0, a1⟩ := hok
        refine ⟨a0, ?_⟩
        rcases a1 with a1 | ⟨d, cap, vs', b1, b2, b3, b4, b5⟩
        · exact .inl a1
        · exact .inr ⟨d, cap, vs', b1, b2, b3, b4, fun i e j d v x y z => (b5 i e j d v x y z).mono (hrle _ (Nat.zero_le _))⟩
      | map kvs =>
        obtain ⟨es, c', es', a1, hp, hk, a2, a3⟩ := hok
        exact ⟨es, c', es', by simp only [Cx.adopt, if_neg hi]; exact a1, hp, hk, rell_mono a2 (hrle _ (Nat.zero_le _)) (Nat.le_refl _), rell_mono a3 (hrle _ (Nat.le_refl _)) (Nat.le_succ _)⟩
  · exact Nat.le_trans hle.nid (Nat.le_succ _)
  · show (if id = k.nid then c else k.β id) = _
    have := hle.nid
    rw [if_neg (by omega)]; exact hle.β id hid
  · have hm : lnOf (hget ((k.nid, .box zs) :: k.h) id) = some m' := hm'
    have := hle.nid
    simp only [hget] at hm
    rw [if_neg (by omega)] at hm
    exact hle.arr id hid m' hm
  · rw [adopt_own] at hi
    by_cases h1 : i = k.nid
    · rw [if_pos h1] at hi; simp at hi; omega
    · rw [if_neg h1] at hi; exact hle.mb d hd ⟨i, hi⟩

section
variable {P : Program} {n0 : Nat} {ro : Option Nat} {ops : Array Oper} {b len : Nat} {fl : Bool} {re : List (Nat × Nat)} {st : Nat → St} {row : Nat → Row}

theorem run_zeroA {op : Op} {zs : List D} (h : zeroA P op = some zs) (a : Act) (o : Oper) (ho : o.op = op) (w : World) :
    ∃ vs ty, (execOp a.eval o).run P w = .ok (.value (.pointer (some ⟨w.heap.size, 0, none⟩))) (w.alloc (.cells (List.toArray vs) ty)) ∧ ∀ R n, RelL R n vs zs := by
  cases op with
  | alloc t =>
    obtain ⟨z, h1, h2⟩ := run_zeroD (P := P) (show zeroD P t = some zs from h) w
    refine ⟨z.cells.toList, t, ?_, fun R n => h2 R n⟩
    unfold execOp
    rw [ho]
    refine ok_bind_value _ _ _ _ _ ?_
    simp only [Instr.alloc, Sem.run_bind, h1, Result.andThen_ok]
    simp only [Sem.run_bind, run_alloc_box, Result.andThen_ok, Sem.run_pure]
  | _ => simp [zeroA] at h

theorem zeroA_not_defer {op : Op} {zs : List D} (h : zeroA P op = some zs) : ∀ c, op ≠ .defer c := fun c hc => by subst hc; simp [zeroA] at h

/-- A box that comes up. -/
theorem Inv.float {listed : Array Bool} {X : Nat → Prop} {k0 k : Cx} {a : Act} {e : Env} {fb : Nat → Nat} {nx : Nat} (hph : PhF ops b len fl re)
    (hI : Inv P ops b len fl st row listed X k0 k a e fb nx) {p : Nat} (hp : p < len) {o : Oper} (ho : ops[b + p]? = some o) (hF : isF fl o = true) (hnr : ¬ Ran listed (b + p)) (hr : ∀ j ∈ bnd o, Ran listed j)
    {zs : List D} {vs : List Value} {ty : TypeId} (hz : zeroA P o.op = some zs) (hzs : ∀ R n, RelL R n vs zs) :
    ∃ e' fb', Inv P ops b len fl st row (listed.setIfInBounds (b + p) true) X k0 { k with w := k.w.alloc (.cells (List.toArray vs) ty) } (a.put o.dst (.pointer (some ⟨k.w.heap.size, 0, none⟩))) e' fb' nx := by
  have hE : isE fl o = false := by
    cases h : isE fl o with
    | false => rfl
    | true => rw [not_both h] at hF; cases hF
  obtain ⟨c1, c2⟩ := nx_quiet hph hI hp ho hE
  have hsz : b + p < listed.size := by rw [hI.size]; have := hph.size; omega
  have hrs := fun j => ran_set (listed := listed) (j := j) hsz
  let fb' : Nat → Nat := fun q => if q = p then k.w.heap.size else fb q
  have hg := hI.at_.good
  have hXi : ∀ c, Pend ops b len fl X (Ran (listed.setIfInBounds (b + p) true)) fb' c ↔ Pend ops b len fl X (Ran listed) fb c ∨ c = k.w.heap.size := fun c => by
    constructor
    · rintro (h | ⟨q, hq, hf, hran, hc⟩)
      · exact .inl (.inl h)
      · by_cases hqp : q = p
        · subst hqp; right; simpa [fb'] using hc
        · rcases (hrs _).1 hran with h | h
          · omega
          · exact .inl (.inr ⟨q, hq, hf, h, by simpa [fb', hqp] using hc⟩)
    · rintro ((h | ⟨q, hq, hf, hran, hc⟩) | h)
      · exact .inl h
      · have hqp : q ≠ p := fun h => by subst h; exact hnr hran
        exact .inr ⟨q, hq, hf, (hrs _).2 (.inr hran), by simpa [fb', hqp] using hc⟩
      · exact .inr ⟨p, hp, ⟨o, ho, hF⟩, (hrs _).2 (.inl rfl), by simpa [fb'] using h⟩
  obtain ⟨g1, g2⟩ := good_float hg (.cells (List.toArray vs) ty) hXi
  have hle : Le k { k with w := k.w.alloc (.cells (List.toArray vs) ty) } := le_world rfl rfl rfl (by rw [alloc_size]; omega) fun c hc => alloc_heap _ _ _ hc
  have hfbs : ∀ q, q < len → (∃ o, ops[b + q]? = some o ∧ isF fl o = true) → Ran listed (b + q) → fb q < k.w.heap.size := fun q hq hf hran => hg.xlt _ (.inr ⟨q, hq, hf, hran, rfl⟩)
  have hact : ActOk (Pend ops b len fl X (Ran (listed.setIfInBounds (b + p) true)) fb') { k with w := k.w.alloc (.cells (List.toArray vs) ty) } k0.w.heap.size a e (st 0).n := by
    refine ⟨hI.at_.act.size, fun i => (hI.at_.act.rel i).mono (g2 _), ?_⟩
    obtain ⟨ms, m1, m2, m3⟩ := hI.at_.act.marks
    refine ⟨ms, m1, m2, fun r hr => ⟨(m3 r hr).1, ?_⟩⟩
    have hlt : r < k.w.heap.size := by
      rcases Nat.lt_or_ge r k.w.heap.size with h | h
      · exact h
      · have := (m3 r hr).2; rw [Array.getElem?_eq_none h] at this; cases this
    show (k.w.alloc _).heap[r]? = _
    rw [alloc_heap _ _ _ hlt]; exact (m3 r hr).2
  refine ⟨(St.put ⟨e, (st nx).h, (st nx).nid, (st 0).n⟩ o.dst (.raw (.pointer (some ⟨k.w.heap.size, 0, none⟩)))).env, fb', by simpa using hI.size, fun i hi => (hrs i).2 (.inr (hI.lo i hi)), fun i hi h => ?_, fun i o' ho' h j hj => ?_, hI.nxle, c1, c2,
    ⟨hI.at_.h, hI.at_.nid, g1, hI.at_.le.trans hle, ?_⟩, fun q hq h o' t ho' hd hlt => ?_, fun t h => ?_, fun q hq o' ho' hf h => ?_, fun q q' hq hq' hf hf' h h' he => ?_⟩
  · rcases (hrs i).1 h with h | h
    · omega
    · exact hI.hi i hi h
  · rcases (hrs i).1 h with h | h
    · subst h; rw [ho] at ho'; cases ho'; exact (hrs j).2 (.inr (hr j hj))
    · exact (hrs j).2 (.inr (hI.cl i o' ho' h j hj))
  · have := ActOk.put (s := ⟨e, (st nx).h, (st nx).nid, (st 0).n⟩) hact o.dst (Rel.raw _ (.pointer (some ⟨k.w.heap.size, 0, none⟩)))
    rw [put_n] at this
    exact this
  · rw [look_put]
    by_cases hqp : q = p
    · subst hqp; rw [ho] at ho'; cases ho'
      rw [if_pos ⟨hd, hlt⟩, valP, hF]; simp [fb']
    · rw [if_neg fun h' => hqp (uniq hph hq hp ho' ho hd h'.1)]
      rcases (hrs _).1 h with h | h
      · omega
      · rw [hI.e1 q hq h o' t ho' hd hlt]; simp [valP, fb', hqp]
  · rw [look_put, if_neg fun h' => h p hp ((hrs _).2 (.inl rfl)) o ho h'.1 h'.2]
    exact hI.e2 t fun q hq hran => h q hq ((hrs _).2 (.inr hran))
  · by_cases hqp : q = p
    · subst hqp; rw [ho] at ho'; cases ho'
      exact ⟨by simpa [fb'] using hI.at_.le.size, fun hx => absurd (hg.xlt _ (.inl hx)) (by simp [fb']), zs, vs, ty, hz, by simp only [fb', if_true]; exact alloc_heap_new _ _, hzs⟩
    · have hran : Ran listed (b + q) := by rcases (hrs _).1 h with h | h; · omega
                                           · exact h
      obtain ⟨f1, f0, zs', vs', ty', f2, f3, f4⟩ := hI.fz q hq o' ho' hf hran
      have hlt := hfbs q hq ⟨o', ho', hf⟩ hran
      refine ⟨by simpa [fb', hqp] using f1, by simpa [fb', hqp] using f0, zs', vs', ty', f2, ?_, f4⟩
      simp only [fb', if_neg hqp]
      show (k.w.alloc _).heap[fb q]? = _
      rw [alloc_heap _ _ _ hlt]; exact f3
  · have hold : ∀ q, q < len → q ≠ p → Ran (listed.setIfInBounds (b + p) true) (b + q) → Ran listed (b + q) := fun q hq hqp h => by
      rcases (hrs _).1 h with h | h
      · omega
      · exact h
    by_cases h1 : q = p <;> by_cases h2 : q' = p
    · omega
    · have := hfbs q' hq' hf' (hold q' hq' h2 h')
      simp [fb', h1, h2] at he; omega
    · have := hfbs q hq hf (hold q hq h1 h)
      simp [fb', h1, h2] at he; omega
    · simp only [fb', if_neg h1, if_neg h2] at he
      exact hI.inj q q' hq hq' hf hf' (hold q hq h1 h) (hold q' hq' h2 h') he

end
end Go.Sx
