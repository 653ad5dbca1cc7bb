/- Sx, part D: the model's run of an operation that only reads agrees with its abstract meaning. Own work. -/
import Derived.Test.YtjhoplbdpdbgaaaDoorSxC
set_option linter.unusedVariables false
set_option linter.unusedSimpArgs false
namespace Go.Sx
section
variable {P : Program} {X : Nat → Prop} {k : Cx}

theorem add_none (b o n : Nat) : (Addr.add ⟨b, o, none⟩ n) = ⟨b, o + n, none⟩ := by
  unfold Addr.add; split
  · subst_vars; rfl
  · rfl

theorem run_loadD {R : Rx} {n : Nat} {t : TypeId} {cs : List D} {o : Nat} {d : D} {w : World} (h : loadD P t cs o = some d) (b base : Nat) (f : Nat → Value)
    (hc : ∀ (j : Nat) e, cs[j]? = some e → w.cell? ⟨b, base + j, none⟩ = some (f j)) (hr : ∀ (j : Nat) e, cs[j]? = some e → Rel R n (f j) e) :
    ∃ v, (loadVar t ⟨b, base + o, none⟩).run P w = .ok v w ∧ Rel R n v d := by
  unfold loadD at h
  split at h
  · rename_i m hag hsz
    split at h
    · rename_i hle
      cases h
      refine ⟨.agg ((List.range m).map fun j => f (o + j)).toArray, ?_, .agg _ _ _ ?_ ?_⟩
      · simp only [loadVar, Sem.run_bind, run_isAgg hag, Result.andThen_ok, Sem.run_ite, if_true, run_sizeT hsz, Sem.run_pure]
        rw [run_loadCells w ⟨b, base + o, none⟩ m (fun j => f (o + j)) fun j hj => by
          rw [add_none, Nat.add_assoc]
          exact hc (o + j) (cs[o + j]'(by omega)) (List.getElem?_eq_getElem _)]
        rfl
      · simp; omega
      · intro i v e hv he
        rw [List.getElem?_map] at hv
        rcases Nat.lt_or_ge i m with hi | hi
        · rw [List.getElem?_range hi] at hv
          simp at hv; subst hv
          rw [List.getElem?_take, if_pos hi, List.getElem?_drop] at he
          exact hr _ _ he
        · rw [List.getElem?_eq_none (by simpa using hi)] at hv; cases hv
    · cases h
  · rename_i m hag hsz
    refine ⟨f o, ?_, hr o d h⟩
    simp only [loadVar, Sem.run_bind, run_isAgg hag, Result.andThen_ok, Sem.run_ite, Bool.false_eq_true, if_false, run_load, hc o d h]
  · cases h

theorem row_cell {w : World} {b : Nat} {vs : List Value} {ty : TypeId} {fz : Nat × Nat} (h : w.heap[b]? = some (.cells vs.toArray ty fz)) (i : Nat) : w.cell? ⟨b, i, none⟩ = vs[i]? := by
  simp [World.cell?, h]

theorem run_loadAtD (hg : Good X k) {t : TypeId} {x d : D} {v : Value} (hx : Rel (k.R X) k.nid v x) (h : loadAtD P k.h t x = some d) :
    ∃ u, (Instr.loadAt t v).run P k.w = .ok u k.w ∧ Rel (k.R X) k.nid u d := by
  unfold loadAtD at h
  split at h
  · rename_i b o
    split at h
    · rename_i cs hb
      obtain ⟨vs, ty, h1, h2⟩ := hg.ok b _ hb
      cases hx with
      | ptr _ _ _ hlt =>
        obtain ⟨u, hu, hr⟩ := run_loadD (P := P) (w := k.w) h (k.β b) 0 (fun j => vs.getD j undef) (fun j e he => by
          obtain ⟨v, hv, _⟩ := h2.get he
          rw [Nat.zero_add, row_cell h1, hv]; simp [List.getD, hv]) (R := k.R X) (n := k.nid) (fun j e he => by
          obtain ⟨v, hv, hr⟩ := h2.get he
          simpa [List.getD, hv] using hr)
        refine ⟨u, ?_, hr⟩
        simp only [Instr.loadAt, Instr.sureAddr, Sem.run_bind, Sem.run_pure, Result.andThen_ok]
        simpa [Cx.R] using hu
    · cases h
  · rename_i cs o
    cases hx with
    | ref _ b off _ _ vs hS hc hr =>
      obtain ⟨u, hu, hr⟩ := run_loadD (P := P) (w := k.w) h b off vs hc (R := k.R X) (n := k.nid) (fun j e he => (hr j e he).weak (Nat.zero_le _))
      exact ⟨u, by simp only [Instr.loadAt, Instr.sureAddr, Sem.run_bind, Sem.run_pure, Result.andThen_ok]; exact hu, hr⟩
  · rename_i b l sz i o
    split at h
    · rename_i ty' sz' es hb
      split at h
      · rename_i hl
        obtain ⟨hl, rfl⟩ := hl
        split at h
        · rename_i c hc
          obtain ⟨h0, h1⟩ := hg.ok b _ hb
          cases hx with
          | eptr _ _ _ _ _ _ _ hlt hv =>
            obtain ⟨_, hv⟩ := hv es.length (by simp [Cx.R, hb, lnOf])
            have hv := hv hl
            rcases h1 with ⟨_, he⟩ | ⟨bb, cap, vs, a1, a2, a3, a4, a5⟩
            · subst he; simp at hc
            · have hsv : (k.R X).sv b = .slice (some ⟨bb, 0, none⟩) es.length cap := a1
              rw [hsv] at hv
              simp only [eaddr, Nat.zero_add] at hv
              have hlen : i < es.length := by
                rcases Nat.lt_or_ge i es.length with hi | hi
                · exact hi
                · rw [List.getElem?_eq_none hi] at hc; cases hc
              have hcl : c.length = sz := h0 c (List.mem_of_getElem? hc)
              have hin : ∀ j, j < sz → i * sz + j < vs.length := fun j hj => by
                rw [a3]
                have : (i + 1) * sz ≤ cap * sz := Nat.mul_le_mul_right _ (by omega)
                rw [Nat.add_mul] at this; omega
              obtain ⟨u, hu, hr⟩ := run_loadD (P := P) (w := k.w) h bb (i * sz) (fun j => vs.getD (i * sz + j) undef) (fun j e he => by
                have hj : j < c.length := by
                  rcases Nat.lt_or_ge j c.length with hi | hi
                  · exact hi
                  · rw [List.getElem?_eq_none hi] at he; cases he
                rw [row_cell a2, List.getElem?_eq_getElem (hin j (by omega))]
                simp [List.getD, List.getElem?_eq_getElem (hin j (by omega))]) (R := k.R X) (n := k.nid) (fun j e he => by
                have hj : j < c.length := by
                  rcases Nat.lt_or_ge j c.length with hi | hi
                  · exact hi
                  · rw [List.getElem?_eq_none hi] at he; cases he
                refine (a5 i c j e _ hc he ?_).weak (Nat.zero_le _)
                simp [List.getD, List.getElem?_eq_getElem (hin j (by omega))])
              refine ⟨u, ?_, hr⟩
              subst hv
              simp only [Instr.loadAt, Instr.sureAddr, Sem.run_bind, Sem.run_pure, Result.andThen_ok]
              exact hu
        · cases h
      · cases h
    · cases h
  · cases h

theorem run_atOff (hg : Good X k) {o : Nat} {x d : D} {v : Value} (hx : Rel (k.R X) k.nid v x) (h : atOff k.h o x = some d) :
    ∃ a, v = .pointer (some a) ∧ Rel (k.R X) k.nid (.pointer (some (a.add o))) d := by
  unfold atOff at h
  split at h
  · cases h; cases hx with
    | ptr _ _ _ hl => exact ⟨_, rfl, by rw [add_none]; exact .ptr _ _ _ hl⟩
  · cases h; cases hx with
    | ref _ b off _ _ vs h1 h2 h3 => exact ⟨_, rfl, by rw [add_none, Nat.add_assoc]; exact .ref _ b off _ _ vs h1 h2 h3⟩
  · rename_i b l sz i p
    split at h
    · rename_i ty' sz' es hb
      split at h
      · rename_i hl
        obtain ⟨hl, hi⟩ := hl
        cases h; cases hx with
        | eptr _ _ _ _ _ _ _ hlt hv =>
          have hv2 := (hv es.length (by simp [Cx.R, hb, lnOf])).2 hl
          rcases (hg.ok b _ hb).2 with ⟨_, he⟩ | ⟨bb, cap, vs, a1, _⟩
          · subst he; simp at hi
          · have hsv : (k.R X).sv b = .slice (some ⟨bb, 0, none⟩) es.length cap := a1
            rw [hsv] at hv2
            refine ⟨_, hv2, .eptr _ b l sz i _ _ hlt fun m hm => ⟨(hv m hm).1, fun _ => ?_⟩⟩
            rw [hsv, add_none]
            simp [eaddr, Nat.add_assoc]
      · cases h
    · cases h
  · cases h

theorem lt_of_getElem? {α : Type} {l : List α} {i : Nat} {x : α} (h : l[i]? = some x) : i < l.length := by
  rcases Nat.lt_or_ge i l.length with hi | hi
  · exact hi
  · rw [List.getElem?_eq_none hi] at h; cases h

theorem run_indexAddrD (hg : Good X k) {t : TypeId} {x y d : D} {v u : Value} (hx : Rel (k.R X) k.nid v x) (hy : Rel (k.R X) k.nid u y) (h : indexAddrD P k.h t x y = some d) :
    ∃ r, (Instr.indexAt t v u).run P k.w = .ok r k.w ∧ Rel (k.R X) k.nid r d := by
  unfold indexAddrD at h
  split at h
  · rename_i e es kk i hu
    split at h
    · rename_i hi
      split at h
      · rename_i c n hc hn
        split at h
        · rename_i hcl
          cases h; cases hy
          have hlt := lt_of_getElem? hc
          cases hx with
          | sln => simp at hlt
          | sle => simp at hlt
          | sl _ b off cap _ sz vs hS hcap hsz hcell hrel =>
            have hcs : n = sz := by rw [← hcl]; exact hsz c (List.mem_of_getElem? hc)
            subst hcs
            refine ⟨.pointer (some ⟨b, off + i.toNat * n, none⟩), ?_, ?_⟩
            · simp only [Instr.indexAt, asIntOf, Sem.run_bind, Sem.run_pure, Result.andThen_ok, run_underlying hu]
              simp only [Bool.and_false, Bool.false_eq_true, if_false, Sem.run_ite, Sem.run_bind, run_sizeT hn, Result.andThen_ok, Sem.run_pure, add_none]
              rw [if_pos ⟨hi, by omega⟩]
            · have := Rel.ref (R := k.R X) k.nid b (off + i.toNat * n) c 0 (vs i.toNat) (hS.resolve_left (by rintro rfl; simp at hlt)) (fun j e he => by rw [Nat.add_assoc]; exact hcell i.toNat c j e hc he) (fun j e he => hrel i.toNat c j e hc he)
              simpa using this
        · cases h
      · cases h
    · cases h
  · rename_i e b l kk i hu
    split at h
    · rename_i ty' sz es hb
      split at h
      · rename_i hcond
        obtain ⟨hi, hlt, hl, hn⟩ := hcond
        cases h; cases hy
        cases hx with
        | osl _ _ _ _ hb' hv =>
          have hv2 := (hv es.length (by simp [Cx.R, hb, lnOf])).2 hl
          rcases (hg.ok b _ hb).2 with ⟨_, he⟩ | ⟨bb, cap, vs, a1, _⟩
          · subst he; simp at hlt
          · have hsv : (k.R X).sv b = .slice (some ⟨bb, 0, none⟩) es.length cap := a1
            rw [hsv] at hv2; subst hv2
            refine ⟨.pointer (some ⟨bb, 0 + i.toNat * sz, none⟩), ?_, ?_⟩
            · simp only [Instr.indexAt, asIntOf, Sem.run_bind, Sem.run_pure, Result.andThen_ok, run_underlying hu]
              simp only [Bool.and_false, Bool.false_eq_true, if_false, Sem.run_ite, Sem.run_bind, run_sizeT hn, Result.andThen_ok, Sem.run_pure, add_none]
              rw [if_pos ⟨hi, by omega⟩]
            · refine .eptr _ b l sz i.toNat 0 _ hb' fun m hm => ⟨(hv m hm).1, fun _ => ?_⟩
              rw [hsv]; simp [eaddr]
      · cases h
    · cases h
  · rename_i e b o l sz kk i hu
    split at h
    · rename_i hcond
      obtain ⟨hi, hlt, hn⟩ := hcond
      cases h; cases hy
      cases hx with
      | bsl _ _ _ _ cap _ hb' hlc =>
        refine ⟨.pointer (some ⟨(k.R X).β b, o + i.toNat * sz, none⟩), ?_, .ptr _ b _ hb'⟩
        simp only [Instr.indexAt, asIntOf, Sem.run_bind, Sem.run_pure, Result.andThen_ok, run_underlying hu]
        simp only [Bool.and_false, Bool.false_eq_true, if_false, Sem.run_ite, Sem.run_bind, run_sizeT hn, Result.andThen_ok, Sem.run_pure, add_none]
        rw [if_pos ⟨hi, by omega⟩]
    · cases h
  · rename_i len e p kk i hu
    split at h
    · rename_i hi
      split at h
      · rename_i n hn
        cases hy
        obtain ⟨a, rfl, hr⟩ := run_atOff hg hx h
        refine ⟨_, ?_, hr⟩
        simp only [Instr.indexAt, asIntOf, Sem.run_bind, Sem.run_pure, Result.andThen_ok, run_underlying hu, Instr.sureAddr]
        rw [if_pos hi]
        simp [run_sizeT hn]
      · cases h
    · cases h
  · cases h

theorem run_fieldAddr (hg : Good X k) {t : TypeId} {f : Nat} {fd : Field} {n : Nat} {x d : D} {v : Value} (hf : fieldOf P t f = some fd) (hn : sizeT P fd.type = some n) (hn0 : n ≠ 0)
    (hx : Rel (k.R X) k.nid v x) (h : atOff k.h fd.offset x = some d) : ∃ r, (Instr.fieldAt t v f).run P k.w = .ok r k.w ∧ Rel (k.R X) k.nid r d := by
  obtain ⟨a, rfl, hr⟩ := run_atOff hg hx h
  unfold fieldOf at hf
  split at hf
  · rename_i fs hu
    refine ⟨_, ?_, hr⟩
    simp only [Instr.fieldAt, Sem.run_bind, run_underlying hu, Result.andThen_ok, hf, Instr.sureAddr, Sem.run_pure, fieldPlace, run_sizeT hn, Sem.run_ite]
    rw [if_neg hn0]
    rfl
  · cases hf

theorem run_field {t : TypeId} {f : Nat} {fd : Field} {cs : List D} {d : D} {v : Value} {R : Rx} {n : Nat} {w : World} (hf : fieldOf P t f = some fd) (hx : Rel R n v (.agg cs))
    (h : partD P fd.type cs fd.offset = some d) : ∃ r, (Instr.field t v f).run P w = .ok r w ∧ Rel R n r d := by
  obtain ⟨vs, rfl, hr⟩ := hx.agg_inv
  obtain ⟨r, h1, h2⟩ := run_partD (P := P) hr h w
  unfold fieldOf at hf
  split at hf
  · rename_i fs hu
    exact ⟨r, by simp only [Instr.field, Sem.run_bind, run_underlying hu, Result.andThen_ok, hf, asAgg, Sem.run_pure, h1], h2⟩
  · cases hf

theorem run_indexD {t : TypeId} {x y d : D} {v u : Value} {R : Rx} {n : Nat} {w : World} (hx : Rel R n v x) (hy : Rel R n u y) (h : indexD P t x y = some d) :
    ∃ r, (Instr.index t v u).run P w = .ok r w ∧ Rel R n r d := by
  unfold indexD at h
  split at h
  · rename_i len e cs kk i hu
    split at h
    · rename_i hi
      split at h
      · rename_i sz hsz
        cases hy
        obtain ⟨vs, rfl, hr⟩ := hx.agg_inv
        obtain ⟨r, h1, h2⟩ := run_partD (P := P) hr h w
        refine ⟨r, ?_, h2⟩
        simp only [Instr.index, asIntOf, Sem.run_bind, Sem.run_pure, Result.andThen_ok, run_underlying hu]
        rw [if_pos hi]
        simp only [Sem.run_bind, run_sizeT hsz, Result.andThen_ok, h1]
      · cases h
    · cases h
  · rename_i s kk i hu
    split at h
    · rename_i hi
      split at h
      · rename_i b hb
        cases h; cases hx; cases hy
        refine ⟨.int .u8 b.toNat, ?_, .int _ _ _⟩
        simp only [Instr.index, asIntOf, Sem.run_bind, Sem.run_pure, Result.andThen_ok, run_underlying hu, if_pos hi]
        have hs : s[i.toNat]? = some b := by
          have hlt : i.toNat < s.data.size := by
            rcases Nat.lt_or_ge i.toNat s.data.size with h | h
            · exact h
            · rw [Array.getElem?_eq_none h] at hb; cases hb
          rw [Array.getElem?_eq_getElem hlt] at hb
          cases hb
          exact getElem?_pos s i.toNat hlt
        rw [hs]
        rfl
      · cases h
    · cases h
  · cases h

theorem run_boundD {y dflt : Nat} {o : Option D} {ov : Option Value} {l : Nat} {R : Rx} {n : Nat} {w : World} {c : BoundsCode}
    (ho : (o = none ∧ ov = none) ∨ ∃ x v, o = some x ∧ ov = some v ∧ Rel R n v x) (h : boundD y o dflt = some l) :
    (match ov with | some v => Instr.sliceBound v y c | none => pure dflt).run P w = .ok l w := by
  rcases ho with ⟨rfl, rfl⟩ | ⟨x, v, rfl, rfl, hr⟩
  · simp [boundD] at h; subst h; rfl
  · cases hr <;> simp only [boundD] at h <;> try cases h
    rename_i kk i
    split at h
    · rename_i hi
      cases h
      simp only [Instr.sliceBound, asIntOf, Sem.run_bind, Sem.run_pure, Result.andThen_ok]
      rw [if_pos hi]; rfl
    · cases h

theorem run_boundLe {y y' dflt : Nat} {o : Option D} {ov : Option Value} {l : Nat} {R : Rx} {n : Nat} {w : World} {c : BoundsCode} (hy : y' ≤ y)
    (ho : (o = none ∧ ov = none) ∨ ∃ x v, o = some x ∧ ov = some v ∧ Rel R n v x) (h : boundD y' o dflt = some l) :
    (match ov with | some v => Instr.sliceBound v y c | none => pure dflt).run P w = .ok l w := by
  rcases ho with ⟨rfl, rfl⟩ | ⟨x, v, rfl, rfl, hr⟩
  · simp [boundD] at h; subst h; rfl
  · cases hr <;> simp only [boundD] at h <;> try cases h
    rename_i kk i
    split at h
    · rename_i hi
      cases h
      simp only [Instr.sliceBound, asIntOf, Sem.run_bind, Sem.run_pure, Result.andThen_ok]
      rw [if_pos ⟨hi.1, by omega⟩]; rfl
    · cases h

theorem boundD_le {y dflt : Nat} {o : Option D} {l : Nat} (h : boundD y o dflt = some l) (hd : dflt ≤ y) : l ≤ y := by
  unfold boundD at h
  split at h
  · cases h; exact hd
  · split at h
    · cases h; omega
    · cases h
  · cases h

theorem run_bounds {isS : Bool} {len y y' : Nat} {lo hi : Option D} {lov hiv : Option Value} {h l : Nat} {R : Rx} {n : Nat} {w : World} (hy : y' ≤ y)
    (hlo : (lo = none ∧ lov = none) ∨ ∃ x v, lo = some x ∧ lov = some v ∧ Rel R n v x) (hhi : (hi = none ∧ hiv = none) ∨ ∃ x v, hi = some x ∧ hiv = some v ∧ Rel R n v x)
    (h1 : boundD y' hi len = some h) (h2 : boundD h lo 0 = some l) : (Instr.sliceBounds isS len y lov hiv none).run P w = .ok (l, h, y) w := by
  have b1 := fun c => run_boundLe (P := P) (w := w) (c := c) hy hhi h1
  have b2 := fun c => run_boundLe (P := P) (w := w) (c := c) (Nat.le_refl h) hlo h2
  unfold Instr.sliceBounds
  rcases hhi with ⟨rfl, rfl⟩ | ⟨xh, vh, rfl, rfl, hrh⟩ <;> rcases hlo with ⟨rfl, rfl⟩ | ⟨xl, vl, rfl, rfl, hrl⟩
  · have e1 : len = h := by simpa [boundD] using h1
    have e2 : 0 = l := by simpa [boundD] using h2
    subst e1; subst e2
    simp
  · have e1 : len = h := by simpa [boundD] using h1
    subst e1
    simp [b2]
  · have e2 : 0 = l := by simpa [boundD] using h2
    subst e2
    simp [b1]
  · simp [b1, b2]

theorem run_sliceD {t : TypeId} {x d : D} {lo hi : Option D} {v : Value} {lov hiv : Option Value} {R : Rx} {n : Nat} {w : World} (hx : Rel R n v x)
    (hlo : (lo = none ∧ lov = none) ∨ ∃ x v, lo = some x ∧ lov = some v ∧ Rel R n v x) (hhi : (hi = none ∧ hiv = none) ∨ ∃ x v, hi = some x ∧ hiv = some v ∧ Rel R n v x)
    (h : sliceD P t x lo hi = some d) : ∃ r, (Instr.sliceAt t v lov hiv none).run P w = .ok r w ∧ Rel R n r d := by
  unfold sliceD at h
  split at h
  · rename_i s hu
    split at h
    · rename_i hh h1
      split at h
      · rename_i ll h2
        cases h; cases hx
        have b1 := fun c => run_boundD (P := P) (w := w) (c := c) hhi h1
        have b2 := fun c => run_boundD (P := P) (w := w) (c := c) hlo h2
        refine ⟨.string (s.extract ll hh), ?_, .str _ _⟩
        simp only [Instr.sliceAt, Instr.slice, Sem.run_bind, run_underlying hu, Result.andThen_ok, Option.isSome_none, Bool.false_eq_true, if_false, Instr.sliceBounds, Sem.run_pure, Sem.run_ite]
        rcases hhi with ⟨rfl, rfl⟩ | ⟨xh, vh, rfl, rfl, hrh⟩ <;> rcases hlo with ⟨rfl, rfl⟩ | ⟨xl, vl, rfl, rfl, hrl⟩
        · have e1 : s.size = hh := by simpa [boundD] using h1
          have e2 : 0 = ll := by simpa [boundD] using h2
          subst e1; subst e2
          simp
        · have e1 : s.size = hh := by simpa [boundD] using h1
          subst e1
          simp [b2]
        · have e2 : 0 = ll := by simpa [boundD] using h2
          subst e2
          simp [b1]
        · simp [b1, b2]
      · cases h
    · cases h
  · rename_i e es hu
    split at h
    · rename_i sz hh hsz h1
      split at h
      · rename_i ll h2
        split at h
        · rename_i hall
          cases h
          have hle1 := boundD_le h1 (Nat.le_refl _)
          have hle2 := boundD_le h2 (Nat.zero_le _)
          have hlen : ((es.take hh).drop ll).length = hh - ll := by simp; omega
          cases hx with
          | sln =>
            have hb := run_bounds (P := P) (isS := true) (w := w) (y := 0) (Nat.le_refl _) hlo hhi h1 h2
            have e0 : hh = 0 := by simpa using hle1
            subst e0
            have e1 : ll = 0 := by omega
            subst e1
            refine ⟨.slice none 0 0, ?_, ?_⟩
            · simp only [Instr.sliceAt, Instr.slice, Sem.run_bind, run_underlying hu, Result.andThen_ok]
              rw [show (Instr.sliceBounds true 0 0 lov hiv none).run P w = _ from hb]
              simp [run_sizeT hsz]
            · exact .sln _
          | sle _ a cap =>
            have hb := run_bounds (P := P) (isS := true) (w := w) (y := cap) (Nat.zero_le _) hlo hhi h1 h2
            have e0 : hh = 0 := by simpa using hle1
            subst e0
            have e1 : ll = 0 := by omega
            subst e1
            refine ⟨.slice (some (if cap = 0 then a else a.add (0 * sz))) 0 cap, ?_, ?_⟩
            · simp only [Instr.sliceAt, Instr.slice, Sem.run_bind, run_underlying hu, Result.andThen_ok]
              rw [show (Instr.sliceBounds true 0 cap lov hiv none).run P w = _ from hb]
              simp only [Result.andThen_ok, Sem.run_bind, run_sizeT hsz, Sem.run_pure]
              by_cases hc : cap = 0
              · simp [hc]
              · simp [hc]
            · exact .sle _ _ _
          | sl _ b off cap _ sz' vs hS hcap hsz' hcell hrel =>
            have hb := run_bounds (P := P) (isS := true) (w := w) (y := cap) hcap hlo hhi h1 h2
            have hss : ∀ c ∈ es, c.length = sz := fun c hc => Nat.eq_of_beq_eq_true (List.all_eq_true.1 hall c hc)
            have hget : ∀ (i : Nat) c, ((es.take hh).drop ll)[i]? = some c → es[ll + i]? = some c := fun i c hc => by
              rw [List.getElem?_drop, List.getElem?_take] at hc
              split at hc
              · exact hc
              · cases hc
            by_cases hcl : cap = ll
            · have hnil : (es.take hh).drop ll = [] := List.eq_nil_of_length_eq_zero (by omega)
              refine ⟨.slice (some ⟨b, off, none⟩) (hh - ll) (cap - ll), ?_, ?_⟩
              · simp only [Instr.sliceAt, Instr.slice, Sem.run_bind, run_underlying hu, Result.andThen_ok, hb, run_sizeT hsz, Sem.run_pure]
                rw [if_pos hcl]
              · rw [hnil, show hh - ll = ([] : List (List D)).length by simp; omega]
                exact .sl _ b off _ [] sz (fun _ _ => undef) (.inl rfl) (by simp) (by simp) (fun i e j d hi => by simp at hi) (fun i e j d hi => by simp at hi)
            · refine ⟨.slice (some ⟨b, off + ll * sz, none⟩) (hh - ll) (cap - ll), ?_, ?_⟩
              · simp only [Instr.sliceAt, Instr.slice, Sem.run_bind, run_underlying hu, Result.andThen_ok, hb, run_sizeT hsz, Sem.run_pure]
                rw [if_neg hcl, Option.map_some, add_none]
              · rw [← hlen]
                refine .sl _ b (off + ll * sz) _ _ sz (fun i j => vs (ll + i) j) ?_ (by omega) (fun c hc => hss c (List.mem_of_mem_take (List.mem_of_mem_drop hc))) (fun i c j d hc hd => ?_) (fun i c j d hc hd => hrel _ c j d (hget i c hc) hd)
                · rcases hS with rfl | hS
                  · exact .inl (by simp)
                  · exact .inr hS
                · have h3 := hget i c hc
                  have hz : sz = sz' := by rw [← hss c (List.mem_of_getElem? h3), hsz' c (List.mem_of_getElem? h3)]
                  rw [← hcell _ c j d h3 hd, ← hz]
                  congr 2
                  rw [Nat.add_mul]; omega
        · cases h
      · cases h
    · cases h
  · rename_i m e b o hu
    split at h
    · rename_i hh h1
      split at h
      · rename_i ll sz h2 hsz
        split at h
        · rename_i hlt
          cases h
          cases hx with
          | ptr _ _ _ hb' =>
            have hle1 := boundD_le h1 (Nat.le_refl _)
            have hb := run_bounds (P := P) (isS := false) (w := w) (y := m) (Nat.le_refl _) hlo hhi h1 h2
            refine ⟨.slice (some ⟨R.β b, o + ll * sz, none⟩) (hh - ll) (m - ll), ?_, .bsl _ b _ _ _ sz hb' (by omega)⟩
            simp only [Instr.sliceAt, Sem.run_bind, run_underlying hu, Result.andThen_ok, Instr.sureAddr, Sem.run_pure, hb, run_sizeT hsz]
            rw [if_neg (by omega), add_none]
        · cases h
      · cases h
    · cases h
  · cases h

/-! Maps -/

def kV : D → Value
  | .int k n => .int k n
  | .str s => .string s
  | .bool b => .bool b
  | _ => undef

theorem keyVal {R : Rx} {n : Nat} {kt : TypeId} {v : Value} {k : D} (hr : Rel R n v k) (hf : keyFit P kt k = true) : v = kV k := by
  cases k <;> simp [keyFit] at hf <;> cases hr <;> rfl

theorem key_desc {kt : TypeId} {k : D} (hf : keyFit P kt k = true) : ∃ d, P.underlying kt = some d ∧ MapKept.IsKey d (kV k) := by
  unfold keyFit at hf
  split at hf
  · rename_i j j' n h; exact ⟨_, h, by simp [kV, MapKept.IsKey]; exact (by simpa using hf : j = j').symm⟩
  · rename_i s h; exact ⟨_, h, by simp [kV, MapKept.IsKey]⟩
  · rename_i s h; exact ⟨_, h, by simp [kV, MapKept.IsKey]⟩
  · cases hf

theorem bytes_toList {a b : ByteArray} : a.toList = b.toList ↔ a = b := by
  constructor
  · intro h
    have h1 : a.data.toList = b.data.toList := by simpa [ByteArray.toList_eq] using h
    cases a; cases b; simp only at h1; congr 1; exact Array.ext' h1
  · rintro rfl; rfl

theorem keyEq_iff {kt : TypeId} {a b : D} (ha : keyFit P kt a = true) (hb : keyFit P kt b = true) : keyEq a b = true ↔ kV a = kV b := by
  unfold keyFit at ha hb
  split at ha <;> (try cases ha) <;> rename_i hu <;> rw [hu] at hb <;> cases b <;> simp_all [keyEq, kV, bytes_toList]

theorem keyNe_kV {a b : D} (h : keyNe a b = true) : kV a ≠ kV b := by
  cases a <;> cases b <;> simp [keyNe] at h <;> simp [kV]
  · intro _; exact h.2
  · exact h
  · intro h2; exact h (bytes_toList.2 h2)

theorem keys_nodup : ∀ {ks : List D}, keysOk ks = true → (ks.map kV).Nodup
  | [], _ => List.nodup_nil
  | k :: r, h => by
    simp only [keysOk, Bool.and_eq_true] at h
    rw [List.map_cons, List.nodup_cons]
    refine ⟨fun hm => ?_, keys_nodup h.2⟩
    obtain ⟨k', hk', e⟩ := List.mem_map.1 hm
    exact keyNe_kV (List.all_eq_true.1 h.1.2 k' hk') e.symm

theorem findK_spec {kt : TypeId} {k : D} (hk : keyFit P kt k = true) : ∀ (kvs : List (D × D)) (i : Nat), (∀ p ∈ kvs, keyFit P kt p.1 = true) →
    (findK k kvs i = none ∧ ∀ p ∈ kvs, kV p.1 ≠ kV k) ∨ ∃ j p, findK k kvs i = some (i + j, p.2) ∧ kvs[j]? = some p ∧ kV p.1 = kV k
  | [], _, _ => .inl ⟨rfl, by simp⟩
  | (k', v) :: r, i, h => by
    have hf := h (k', v) (by simp)
    simp only [findK]
    by_cases he : keyEq k k' = true
    · rw [if_pos he]
      exact .inr ⟨0, (k', v), rfl, rfl, ((keyEq_iff hk hf).1 he).symm⟩
    · rw [if_neg he]
      have hne : kV k' ≠ kV k := fun e => he ((keyEq_iff hk hf).2 e.symm)
      rcases findK_spec hk r (i + 1) (fun p hp => h p (by simp [hp])) with ⟨h1, h2⟩ | ⟨j, p, h1, h2, h3⟩
      · exact .inl ⟨h1, fun p hp => by
          rcases List.mem_cons.1 hp with rfl | hp
          · exact hne
          · exact h2 p hp⟩
      · exact .inr ⟨j + 1, p, by rw [h1]; congr 2; omega, by simpa using h2, h3⟩

/-- What a look through a map comes to. -/
theorem find_sound {kt : TypeId} {kx : Value} {k : D} {R : Rx} {n : Nat} {es es' : List MapEntry} {kvs : List (D × D)} (hx : Rel R n kx k) (hk : keyFit P kt k = true) (hfit : (kvs.all fun p => keyFit P kt p.1) = true)
    (hp : List.Perm es' es) (hok : keysOk (kvs.map (·.1)) = true) (hkeys : RelL R 0 (es'.map (·.key)) (kvs.map (·.1))) (w : World) :
    (findK k kvs 0 = none ∧ (Instr.findKey kt kx es).run P w = .ok none w ∧ ∀ e ∈ es, e.key ≠ kx) ∨
    ∃ (i j : Nat) (e : MapEntry) (p : D × D), findK k kvs 0 = some (j, p.2) ∧ kvs[j]? = some p ∧ (Instr.findKey kt kx es).run P w = .ok (some (i, e.val)) w ∧ es[i]? = some e ∧ es'[j]? = some e ∧ e.key = kx ∧ p.1 = k := by
  have hkx := keyVal hx hk
  obtain ⟨d, hd, hkey⟩ := key_desc hk
  have hlen : es'.length = kvs.length := by simpa using hkeys.1
  have hkv : ∀ (j : Nat) e p, es'[j]? = some e → kvs[j]? = some p → e.key = kV p.1 := fun j e p he hp2 => by
    have hr := hkeys.2 j e.key p.1 (by simp [he]) (by simp [hp2])
    exact keyVal hr (List.all_eq_true.1 hfit p (List.mem_of_getElem? hp2))
  have hkm : es'.map (·.key) = (kvs.map (·.1)).map kV := by
    apply List.ext_getElem?
    intro j
    rcases Nat.lt_or_ge j es'.length with hj | hj
    · have h2 : j < kvs.length := by omega
      simp [List.getElem?_eq_getElem hj, List.getElem?_eq_getElem h2, hkv j _ _ (List.getElem?_eq_getElem hj) (List.getElem?_eq_getElem h2)]
    · rw [List.getElem?_eq_none (by simpa using hj), List.getElem?_eq_none (by simp; omega)]
  have hnd : (es.map (·.key)).Nodup := ((hp.map (·.key)).nodup_iff).1 (by rw [hkm]; exact keys_nodup hok)
  have hik : ∀ e ∈ es, MapKept.IsKey d e.key := fun e he => by
    have : e.key ∈ (kvs.map (·.1)).map kV := by rw [← hkm]; exact List.mem_map_of_mem (hp.mem_iff.2 he)
    obtain ⟨k', hk', e1⟩ := List.mem_map.1 this
    obtain ⟨p, hpm, rfl⟩ := List.mem_map.1 hk'
    obtain ⟨d', hd', h3⟩ := key_desc (List.all_eq_true.1 hfit p hpm)
    rw [hd] at hd'; cases hd'
    rw [← e1]; exact h3
  have hfn := MapKept.findNow_spec (d := d) (k := kx) (by rw [hkx]; exact hkey) es 0 hik
  rcases findK_spec hk kvs 0 (fun p hp2 => List.all_eq_true.1 hfit p hp2) with ⟨h1, h2⟩ | ⟨j, p, h1, h2, h3⟩
  · left
    have hno : ∀ e ∈ es, e.key ≠ kx := fun e he hek => by
      have : e.key ∈ (kvs.map (·.1)).map kV := by rw [← hkm]; exact List.mem_map_of_mem (hp.mem_iff.2 he)
      obtain ⟨k', hk', e1⟩ := List.mem_map.1 this
      obtain ⟨p, hpm, rfl⟩ := List.mem_map.1 hk'
      exact h2 p hpm (by rw [e1, hek, hkx])
    rcases hfn with ⟨h4, _⟩ | ⟨i, e, h4, h5, h6⟩
    · exact ⟨h1, MapKept.run_findKey hd h4, hno⟩
    · exact absurd h6 (hno e (List.mem_of_getElem? h5))
  · right
    have hj : j < es'.length := by rw [hlen]; exact lt_of_getElem? h2
    have he' : es'[j]? = some es'[j] := List.getElem?_eq_getElem hj
    have hek : es'[j].key = kx := by rw [hkv j _ p he' h2, h3, hkx]
    have hpk : p.1 = k := by
      have h7 := List.all_eq_true.1 hfit p (List.mem_of_getElem? h2)
      unfold keyFit at hk h7
      split at hk <;> (try cases hk) <;> rename_i hu <;> rw [hu] at h7 <;> revert h7 h3 <;> generalize p.1 = q <;> intro h3 h7 <;> cases q <;> simp_all [kV]
    rcases hfn with ⟨_, h5⟩ | ⟨i, e, h4, h5, h6⟩
    · exact absurd hek (h5 _ (hp.mem_iff.1 (List.mem_of_getElem? he')))
    · have hee : e = es'[j] := by
        obtain ⟨q, hq⟩ := List.getElem?_of_mem (hp.mem_iff.1 (List.mem_of_getElem? he'))
        have hqi : q = i := by
          have a1 : (es.map (·.key))[q]? = some kx := by rw [List.getElem?_map, hq]; simp [hek]
          have a2 : (es.map (·.key))[i]? = some kx := by rw [List.getElem?_map, h5]; simp [h6]
          have l1 := lt_of_getElem? a1
          exact (List.getElem?_inj l1 hnd).1 (a1.trans a2.symm)
        subst hqi; rw [hq] at h5; exact (Option.some.inj h5).symm
      subst hee
      exact ⟨i, j, _, p, by rw [h1, Nat.zero_add], h2, by rw [MapKept.run_findKey hd h4, Nat.zero_add], h5, he', hek, hpk⟩

theorem run_zeroV {t : TypeId} {d : D} (h : zeroV P t = some d) (w : World) : ∃ z, (zeroValue t).run P w = .ok z w ∧ ∀ R n, Rel R n z d := by
  unfold zeroV at h
  cases hi : P.info? t with
  | none => rw [hi] at h; simp at h
  | some i =>
    rw [hi] at h
    cases hz : i.zero with
    | none => simp [hz] at h
    | some z =>
      simp only [Option.bind_some, hz] at h
      refine ⟨z, by simp [zeroValue, run_typeInfo w hi, hz], fun R n => ?_⟩
      split at h
      · rename_i cs he
        cases h; cases he
        obtain ⟨l⟩ := cs
        exact .agg _ l _ (by simp) fun i v d a b => by
          simp only [List.getElem?_map] at b
          rw [a] at b; simp at b; subst b; exact .vD _ _ _
      · cases h
      · rename_i v _ _ he; cases h; cases he; exact .vD _ _ _
      · rename_i he; cases he

theorem Rel.tup2 {R : Rx} {n : Nat} {a b : Value} {x y : D} (h1 : Rel R n a x) (h2 : Rel R n b y) : Rel R n (.tuple #[a, b]) (.tup [x, y]) :=
  .tup n [a, b] _ rfl fun i v d p q => by
    match i with
    | 0 => simp at p q; subst p; subst q; exact h1
    | 1 => simp at p q; subst p; subst q; exact h2
    | _ + 2 => simp at p

theorem run_lookupD (hg : Good X k) {t : TypeId} {x y d : D} {ok : Bool} {v u : Value} (hx : Rel (k.R X) k.nid v x) (hy : Rel (k.R X) k.nid u y) (h : lookupD P k.h t x y ok = some d) :
    ∃ r, (Instr.lookup t v u ok).run P k.w = .ok r k.w ∧ Rel (k.R X) k.nid r d := by
  unfold lookupD at h
  split at h
  · rename_i kt et hu
    split at h
    · rename_i b
      split at h
      · rename_i kvs hb
        split at h
        · rename_i hc
          simp only [Bool.and_eq_true] at hc
          cases hx with
          | mp _ _ hlt =>
            obtain ⟨es, clock, es', h1, hp, hok, h2, h3⟩ := hg.ok b _ hb
            obtain ⟨dk, hdk, hkey⟩ := key_desc hc.1
            have hck : ∀ m, (Instr.checkKey m 10000 kt u).run P k.w = .ok () k.w := fun m => MapKept.run_checkKey hdk (by rw [keyVal hy hc.1]; exact hkey) m 9999
            have hgo := MapKept.run_getObj_map (P := P) (w := k.w) h1
            rcases find_sound hy hc.1 hc.2 hp hok h2 k.w with ⟨f1, f2, _⟩ | ⟨i, j, e, p, f1, f2, f3, f4, f5, f6, f7⟩
            · rw [f1] at h
              simp only [lookR] at h
              cases hz : zeroV P et with
              | none => rw [hz] at h; simp at h
              | some z =>
                rw [hz] at h
                simp at h
                obtain ⟨zv, z1, z2⟩ := run_zeroV hz k.w
                refine ⟨if ok then .tuple #[zv, .bool false] else zv, ?_, ?_⟩
                · simp [Instr.lookup, run_underlying hu, Cx.R, hgo, hck, f2, z1, Result.andThen]
                · subst h
                  cases ok with
                  | true => exact Rel.tup2 (z2 _ _) (.bool _ _)
                  | false => exact z2 _ _
            · rw [f1] at h
              simp only [lookR, Option.some.injEq] at h
              have hrv := h3.2 j e.val p.2 (by simp [f5]) (by simp [f2])
              refine ⟨if ok then .tuple #[e.val, .bool true] else e.val, ?_, ?_⟩
              · simp [Instr.lookup, run_underlying hu, Cx.R, hgo, hck, f3, Result.andThen]
              · subst h
                cases ok with
                | true => exact Rel.tup2 hrv (.bool _ _)
                | false => exact hrv
        · cases h
      · cases h
    · split at h
      · rename_i hc
        cases hx
        obtain ⟨dk, hdk, hkey⟩ := key_desc hc
        have hck : ∀ m, (Instr.checkKey m 10000 kt u).run P k.w = .ok () k.w := fun m => MapKept.run_checkKey hdk (by rw [keyVal hy hc]; exact hkey) m 9999
        have hf : (Instr.findKey kt u []).run P k.w = .ok none k.w := MapKept.run_findKey hdk rfl
        simp only [lookR] at h
        cases hz : zeroV P et with
        | none => rw [hz] at h; simp at h
        | some z =>
          rw [hz] at h
          simp at h
          obtain ⟨zv, z1, z2⟩ := run_zeroV hz k.w
          refine ⟨if ok then .tuple #[zv, .bool false] else zv, ?_, ?_⟩
          · simp [Instr.lookup, run_underlying hu, hck, hf, z1, Result.andThen]
          · subst h
            cases ok with
            | true => exact Rel.tup2 (z2 _ _) (.bool _ _)
            | false => exact z2 _ _
      · cases h
    · cases h
  · cases h

theorem ok_bind_value {α : Type} (x : Sem α) (f : α → Next) (w w' : World) (r : α) (h : x.run P w = .ok r w') : (do pure (f (← x)) : Sem Next).run P w = .ok (f r) w' := by
  simp [h]

theorem run_maxL {R : Rx} {n : Nat} {kk : IntKind} {w : World} : ∀ (ds : List D) (vs : List Value) (a : Int) (d : D), RelL R n vs ds → maxL kk a ds = some d →
    ∃ v, (vs.foldlM Builtin.max2 (.int kk a)).run P w = .ok v w ∧ Rel R n v d
  | [], vs, a, d, hr, h => by
    obtain rfl : vs = [] := List.eq_nil_of_length_eq_zero hr.1
    simp [maxL] at h; subst h
    exact ⟨_, rfl, .int _ _ _⟩
  | x :: ds, [], a, d, hr, h => by simp [RelL] at hr
  | x :: ds, v :: vs, a, d, hr, h => by
    have hx := hr.2 0 v x rfl rfl
    have hr' : RelL R n vs ds := ⟨by have := hr.1; simpa using this, fun i v d a b => hr.2 (i + 1) v d (by simpa using a) (by simpa using b)⟩
    cases hx <;> simp only [maxL] at h <;> try cases h
    rename_i k2 b
    obtain ⟨u, h1, h2⟩ := run_maxL ds vs _ d hr' h
    refine ⟨u, ?_, h2⟩
    simp only [List.foldlM_cons, Builtin.max2, Sem.run_bind, Sem.run_pure, Result.andThen_ok]
    exact h1

theorem run_minL {R : Rx} {n : Nat} {kk : IntKind} {w : World} : ∀ (ds : List D) (vs : List Value) (a : Int) (d : D), RelL R n vs ds → minL kk a ds = some d →
    ∃ v, (vs.foldlM Builtin.min2 (.int kk a)).run P w = .ok v w ∧ Rel R n v d
  | [], vs, a, d, hr, h => by
    obtain rfl : vs = [] := List.eq_nil_of_length_eq_zero hr.1
    simp [minL] at h; subst h
    exact ⟨_, rfl, .int _ _ _⟩
  | x :: ds, [], a, d, hr, h => by simp [RelL] at hr
  | x :: ds, v :: vs, a, d, hr, h => by
    have hx := hr.2 0 v x rfl rfl
    have hr' : RelL R n vs ds := ⟨by have := hr.1; simpa using this, fun i v d a b => hr.2 (i + 1) v d (by simpa using a) (by simpa using b)⟩
    cases hx <;> simp only [minL] at h <;> try cases h
    rename_i k2 b
    obtain ⟨u, h1, h2⟩ := run_minL ds vs _ d hr' h
    refine ⟨u, ?_, h2⟩
    simp only [List.foldlM_cons, Builtin.min2, Sem.run_bind, Sem.run_pure, Result.andThen_ok]
    exact h1

theorem RelL.map {R : Rx} {n : Nat} {f : Operand → Value} {g : Operand → D} (h : ∀ x, Rel R n (f x) (g x)) (l : List Operand) : RelL R n (l.map f) (l.map g) :=
  ⟨by simp, fun i v d a b => by
    rw [List.getElem?_map] at a b
    cases hl : l[i]? with
    | none => simp [hl] at a
    | some x => simp [hl] at a b; subst a; subst b; exact h x⟩

theorem array_eq_list {α : Type} {a : Array α} {l : List α} (h : a.toList = l) : a = l.toArray := by subst h; rfl

theorem run_callQ (hg : Good X k) {a : Act} {c : Call} {ρ : Operand → D} (hρ : ∀ x, Rel (k.R X) k.nid (a.eval x) (ρ x)) {d : D} (h : callQ P c ρ k.h = some d) (ty : TypeId) :
    ∃ v, (do let d ← resolve a.eval c ty; invoke d.target d.args : Sem Next).run P k.w = .ok (.value v) k.w ∧ Rel (k.R X) k.nid v d := by
  obtain ⟨callee, args, argTypes⟩ := c
  unfold callQ at h
  dsimp only at h
  split at h
  · split at h
    · rename_i x t hx ht
      obtain rfl := array_eq_list hx
      obtain rfl := array_eq_list ht
      have hval : ∀ v, (Builtin.len_ #[t] ty #[a.eval x]).run P k.w = .ok v k.w → (do let d ← resolve a.eval ⟨.builtin .len, #[x], #[t]⟩ ty; invoke d.target d.args : Sem Next).run P k.w = .ok (.value v) k.w := fun v hv => by
        simp only [resolve, Sem.run_bind, Sem.run_pure, Result.andThen_ok, invoke, builtin]
        simp [hv]
      split at h
      · rename_i e hu
        unfold lenD at h
        split at h
        · rename_i es hx
          cases h
          have hr := hρ x
          rw [hx] at hr
          refine ⟨.int .i64 es.length, hval _ ?_, .int _ _ _⟩
          generalize a.eval x = v at hr
          cases hr with
          | sln => simp [Builtin.len_, run_underlying hu, goInt]
          | sle => simp [Builtin.len_, run_underlying hu, goInt]
          | sl => simp [Builtin.len_, run_underlying hu, goInt]
        · rename_i hx
          cases h
          have hr := hρ x
          rw [hx] at hr
          refine ⟨.int .i64 0, hval _ ?_, .int _ _ _⟩
          generalize a.eval x = v at hr
          cases hr
          simp [Builtin.len_, run_underlying hu, goInt]
        · rename_i b n hx
          split at h
          · rename_i ty' sz es hb
            split at h
            · rename_i hn
              cases h
              have hr := hρ x
              rw [hx] at hr
              refine ⟨.int .i64 n, hval _ ?_, .int _ _ _⟩
              generalize a.eval x = v at hr
              cases hr with
              | osl _ _ _ _ hb' hv =>
                have hv2 := (hv es.length (by simp [Cx.R, hb, lnOf])).2 hn
                subst hv2
                rcases (hg.ok b _ hb).2 with ⟨h1, h2⟩ | ⟨bb, cap, vs, h1, _⟩
                · have : (k.R X).sv b = .slice none 0 0 := h1
                  rw [this]; subst h2; subst hn; simp [Builtin.len_, run_underlying hu, goInt]
                · have : (k.R X).sv b = .slice (some ⟨bb, 0, none⟩) es.length cap := h1
                  rw [this]; subst hn; simp [Builtin.len_, run_underlying hu, goInt]
            · cases h
          · cases h
        · rename_i b o l sz hx
          cases h
          have hr := hρ x
          rw [hx] at hr
          refine ⟨.int .i64 l, hval _ ?_, .int _ _ _⟩
          generalize a.eval x = v at hr
          cases hr
          simp [Builtin.len_, run_underlying hu, goInt]
        · cases h
      · rename_i hu
        split at h
        · rename_i s hx
          cases h
          have hr := hρ x
          rw [hx] at hr
          refine ⟨.int .i64 s.size, hval _ ?_, .int _ _ _⟩
          generalize a.eval x = v at hr
          cases hr
          simp [Builtin.len_, run_underlying hu, goInt]
        · cases h
      · rename_i n e hu
        cases h
        exact ⟨.int .i64 n, hval _ (by simp [Builtin.len_, run_underlying hu, goInt]), .int _ _ _⟩
      · rename_i kt et hu
        split at h
        · rename_i b hx
          split at h
          · rename_i kvs hb
            cases h
            have hr := hρ x
            rw [hx] at hr
            refine ⟨.int .i64 kvs.length, hval _ ?_, .int _ _ _⟩
            generalize a.eval x = v at hr
            cases hr with
            | mp _ _ hlt =>
              obtain ⟨es, clock, es', h1, hp, hok, h2, h3⟩ := hg.ok b _ hb
              have hl : es.length = kvs.length := by rw [← hp.length_eq]; simpa using h2.1
              simp [Builtin.len_, run_underlying hu, goInt, Cx.R, MapKept.run_getObj_map (P := P) (w := k.w) h1, hl]
          · cases h
        · rename_i hx
          cases h
          have hr := hρ x
          rw [hx] at hr
          refine ⟨.int .i64 0, hval _ ?_, .int _ _ _⟩
          generalize a.eval x = v at hr
          cases hr
          simp [Builtin.len_, run_underlying hu, goInt]
        · cases h
      · cases h
    · cases h
  · split at h
    · rename_i x r hx
      obtain rfl := array_eq_list hx
      split at h
      · rename_i kk n hx
        have hr := hρ x
        rw [hx] at hr
        obtain ⟨v, h1, h2⟩ := run_maxL (P := P) (w := k.w) _ _ n d (RelL.map hρ r) h
        refine ⟨v, ?_, h2⟩
        cases hq : a.eval x with
        | int k2 n2 =>
          rw [hq] at hr; cases hr
          simp only [resolve, Sem.run_bind, Sem.run_pure, Result.andThen_ok, invoke, builtin, Builtin.max_, List.map_toArray, List.map_cons, hq]
          simp [h1]
        | _ => rw [hq] at hr; cases hr
      · cases h
    · cases h
  · split at h
    · rename_i x r hx
      obtain rfl := array_eq_list hx
      split at h
      · rename_i kk n hx
        have hr := hρ x
        rw [hx] at hr
        obtain ⟨v, h1, h2⟩ := run_minL (P := P) (w := k.w) _ _ n d (RelL.map hρ r) h
        refine ⟨v, ?_, h2⟩
        cases hq : a.eval x with
        | int k2 n2 =>
          rw [hq] at hr; cases hr
          simp only [resolve, Sem.run_bind, Sem.run_pure, Result.andThen_ok, invoke, builtin, Builtin.min_, List.map_toArray, List.map_cons, hq]
          simp [h1]
        | _ => rw [hq] at hr; cases hr
      · cases h
    · cases h
  · cases h

/-- **The model's run of an operation that only reads agrees with what is said of it.** -/
theorem opQ_sound (hg : Good X k) {a : Act} {o : Oper} {ρ : Operand → D} (hρ : ∀ x, Rel (k.R X) k.nid (a.eval x) (ρ x)) {d : D} (h : opQ P o.op ρ k.h = some d) :
    ∃ v, (execOp a.eval o).run P k.w = .ok (.value v) k.w ∧ Rel (k.R X) k.nid v d := by
  obtain ⟨dst, op, ty, pos, after, guard⟩ := o
  cases op <;> simp only [opQ] at h <;> try cases h
  case move x => exact ⟨_, rfl, hρ x⟩
  case assign x => exact ⟨_, rfl, hρ x⟩
  case pick c x y =>
    split at h
    · rename_i t hc
      cases h
      have hr := hρ c
      rw [hc] at hr
      refine ⟨if t then a.eval x else a.eval y, ?_, ?_⟩
      · cases hq : a.eval c with
        | bool b =>
          rw [hq] at hr; cases hr
          simp only [execOp, hq, asBool, Sem.run_bind, Sem.run_pure, Result.andThen_ok]
        | _ => rw [hq] at hr; cases hr
      · cases t
        · exact hρ y
        · exact hρ x
    · cases h
  case nilCheck x =>
    have hr := hρ x
    split at h
    · rename_i hx; cases h; rw [hx] at hr
      generalize hv : a.eval x = v at hr
      cases hr with
      | ptr _ _ _ hl => exact ⟨_, by simp only [execOp, hv]; rfl, .ptr _ _ _ hl⟩
    · rename_i hx; cases h; rw [hx] at hr
      generalize hv : a.eval x = v at hr
      cases hr with
      | ref _ b off _ _ vs h1 h2 h3 => exact ⟨_, by simp only [execOp, hv]; rfl, .ref _ b off _ _ vs h1 h2 h3⟩
    · rename_i hx; cases h; rw [hx] at hr
      generalize hv : a.eval x = v at hr
      cases hr with
      | fn _ _ va vc _ _ h1 h2 h3 h4 => exact ⟨_, by simp only [execOp, hv]; rfl, .fn _ _ va vc _ _ h1 h2 h3 h4⟩
    · rename_i hx; cases h; rw [hx] at hr
      generalize hv : a.eval x = v at hr
      cases hr with
      | fn _ _ va vc _ _ h1 h2 h3 h4 => exact ⟨_, by simp only [execOp, hv]; rfl, .fn _ _ va vc _ _ h1 h2 h3 h4⟩
    · cases h
  case binOp op t x y yt =>
    obtain ⟨v, h1, h2⟩ := run_binD (P := P) (hρ x) (hρ y) h x y k.w
    exact ⟨v, by simp only [execOp]; exact ok_bind_value _ _ _ _ _ h1, h2⟩
  case unOp op t x =>
    have hr := hρ x
    cases op <;> simp only [opQ] at h <;> try cases h
    · split at h
      · rename_i kk n hx; cases h; rw [hx] at hr
        generalize hv : a.eval x = v at hr
        cases hr
        exact ⟨_, by simp only [execOp, hv, Op.unary, Op.intArith]; rfl, .int _ _ _⟩
      · cases h
    · split at h
      · rename_i b hx; cases h; rw [hx] at hr
        generalize hv : a.eval x = v at hr
        cases hr
        exact ⟨_, by simp only [execOp, hv, Op.unary]; rfl, .bool _ _⟩
      · cases h
  case convert s dd x =>
    have hr := hρ x
    split at h
    · rename_i u kk q n hs hd hx; cases h; rw [hx] at hr
      generalize hv : a.eval x = v at hr
      cases hr
      refine ⟨.int kk (kk.wrap n), ?_, .int _ _ _⟩
      simp only [execOp, hv]
      refine ok_bind_value _ _ _ _ _ ?_
      simp [convert, run_underlying hs, run_underlying hd, Conv.intToInt]
    · cases h
  case extract x i =>
    have hr := hρ x
    split at h
    · rename_i vs hx; rw [hx] at hr
      generalize hv : a.eval x = v at hr
      obtain ⟨us, rfl, hl⟩ := hr.tup_inv
      obtain ⟨u, hu, hru⟩ := hl.get h
      refine ⟨u, ?_, hru⟩
      simp only [execOp, hv]
      refine ok_bind_value _ _ _ _ _ ?_
      simp [Instr.extract, hu]
    · cases h
  case makeFunc fn f c =>
    have h1 := RelL.map hρ f.toList
    have h2 := RelL.map hρ c.toList
    refine ⟨.func fn (f.map a.eval) (c.map a.eval), rfl, ?_⟩
    have e1 : f.map a.eval = (f.toList.map a.eval).toArray := by apply Array.ext'; simp
    have e2 : c.map a.eval = (c.toList.map a.eval).toArray := by apply Array.ext'; simp
    rw [e1, e2]
    exact .fn _ _ _ _ _ _ h1.1 h2.1 h1.2 h2.2
  case makeInterface t x =>
    split at h
    · cases h
    · rename_i u hni hu; cases h
      refine ⟨.iface t (a.eval x), ?_, .ifc _ _ _ _ (hρ x)⟩
      simp only [execOp]
      refine ok_bind_value _ _ _ _ _ ?_
      simp only [Instr.makeInterface, Sem.run_bind, run_underlying hu, Result.andThen_ok]
      cases u <;> first | rfl | (exact absurd rfl (hni _))
    · cases h
  case fieldAddr t x f =>
    split at h
    · rename_i oo ho
      unfold fieldOff at ho
      split at ho
      · rename_i fd hf
        split at ho
        · rename_i n hn
          split at ho
          · cases ho
          · rename_i hn0
            cases ho
            obtain ⟨r, h1, h2⟩ := run_fieldAddr hg hf hn hn0 (hρ x) h
            exact ⟨r, by simp only [execOp]; exact ok_bind_value _ _ _ _ _ h1, h2⟩
        · cases ho
      · cases ho
    · cases h
  case field t x f =>
    split at h
    · rename_i ft cs tt oo hf hx
      have hr := hρ x
      rw [hx] at hr
      unfold fieldTy at hf
      split at hf
      · rename_i fd hfd
        cases hf
        obtain ⟨r, h1, h2⟩ := run_field (P := P) (w := k.w) hfd hr h
        exact ⟨r, by simp only [execOp]; exact ok_bind_value _ _ _ _ _ h1, h2⟩
      · cases hf
    · cases h
  case index t x i =>
    obtain ⟨r, h1, h2⟩ := run_indexD (P := P) (w := k.w) (hρ x) (hρ i) h
    exact ⟨r, by simp only [execOp]; exact ok_bind_value _ _ _ _ _ h1, h2⟩
  case indexAddr t x i =>
    obtain ⟨r, h1, h2⟩ := run_indexAddrD hg (hρ x) (hρ i) h
    exact ⟨r, by simp only [execOp]; exact ok_bind_value _ _ _ _ _ h1, h2⟩
  case load t x =>
    obtain ⟨r, h1, h2⟩ := run_loadAtD hg (hρ x) h
    exact ⟨r, by simp only [execOp]; exact ok_bind_value _ _ _ _ _ h1, h2⟩
  case slice t x lo hi mx =>
    cases mx with
    | some m => simp [opQ] at h
    | none =>
      simp only [opQ] at h
      have ho : ∀ q : Option Operand, (q.map ρ = none ∧ q.map a.eval = none) ∨ ∃ x v, q.map ρ = some x ∧ q.map a.eval = some v ∧ Rel (k.R X) k.nid v x := fun q => by
        cases q with
        | none => exact .inl ⟨rfl, rfl⟩
        | some q => exact .inr ⟨_, _, rfl, rfl, hρ q⟩
      obtain ⟨r, h1, h2⟩ := run_sliceD (P := P) (w := k.w) (hρ x) (ho lo) (ho hi) h
      exact ⟨r, by simp only [execOp]; exact ok_bind_value _ _ _ _ _ h1, h2⟩
  case lookup t x i ok =>
    obtain ⟨r, h1, h2⟩ := run_lookupD hg (hρ x) (hρ i) h
    exact ⟨r, by simp only [execOp]; exact ok_bind_value _ _ _ _ _ h1, h2⟩
  case call c =>
    obtain ⟨v, h1, h2⟩ := run_callQ hg hρ h ty
    exact ⟨v, by simp only [execOp]; exact h1, h2⟩
end
end Go.Sx
