/- Sx, part F: literals (build, buildSlice) and append. Own work. -/
import Derived.Test.YtjhoplbdpdbgaaaDoorSxE
import Derived.Laws.Append
import Derived.Laws.Tables
import Derived.Laws.BytesArg
import Derived.Laws.IdiomStrings
set_option linter.unusedVariables false
set_option linter.unusedSimpArgs false
namespace Go.Sx
section
variable {P : Program} {X : Nat → Prop} {k : Cx}

def fillD (place : Nat → Option (Nat × Nat)) (h : H) : List D → List (Nat × D) → Option (List D)
  | cells, [] => some cells
  | cells, (i, d) :: rest =>
    match place i, cellsE h d with
    | some (off, size), some ds => if ds.length = size ∧ off + ds.length ≤ cells.length then fillD place h (putL cells off ds) rest else none
    | _, _ => none

theorem foldl_set (us : List Value) : ∀ (off q : Nat) (cells : List Value), off + q + us.length ≤ cells.length →
    ((us.zipIdx q).foldl (fun (cs : Array Value) (x : Value × Nat) => cs.setIfInBounds (off + x.2) x.1) cells.toArray) = (cells.take (off + q) ++ us ++ cells.drop (off + q + us.length)).toArray := by
  induction us with
  | nil => intro off q cells _; simp
  | cons u us ih =>
    intro off q cells hl
    simp only [List.zipIdx_cons, List.foldl_cons]
    have e1 : cells.toArray.setIfInBounds (off + q) u = (cells.set (off + q) u).toArray := by simp
    rw [e1, ih off (q + 1) (cells.set (off + q) u) (by simp at hl ⊢; omega)]
    congr 1
    have := list_seg_step cells (off + q) u us (by simp at hl ⊢; omega)
    simpa [Nat.add_assoc] using this

theorem run_fill (hg : Good X k) (place placeD : Nat → Option (Nat × Nat)) (hplace : ∀ i p, placeD i = some p → place i = some p) : ∀ (parts : List (Nat × Value)) (dparts : List (Nat × D)) (vs : List Value) (cs ds : List D),
    RelL (k.R X) k.nid vs cs → parts.length = dparts.length → (∀ (i : Nat) p q, parts[i]? = some p → dparts[i]? = some q → p.1 = q.1 ∧ Rel (k.R X) k.nid p.2 q.2) →
    fillD placeD k.h cs dparts = some ds → ∃ us, Instr.fill place vs.toArray parts = some (List.toArray us) ∧ RelL (k.R X) k.nid us ds
  | [], [], vs, cs, ds, hr, _, _, h => by
    simp [fillD] at h; subst h
    exact ⟨vs, rfl, hr⟩
  | [], _ :: _, _, _, _, _, hl, _, _ => by simp at hl
  | _ :: _, [], _, _, _, _, hl, _, _ => by simp at hl
  | (i, v) :: parts, (j, d) :: dparts, vs, cs, ds, hr, hl, hp, h => by
    obtain ⟨rfl, hrel⟩ := hp 0 _ _ rfl rfl
    simp only [fillD] at h
    split at h
    · rename_i off size es hpl hce
      split at h
      · rename_i hc
        obtain ⟨ws, hw, hrw⟩ := cellsE_sound hg hrel hce
        have hlen := hrw.1
        have hvl := hr.1
        obtain ⟨us, hu, hru⟩ := run_fill hg place placeD hplace parts dparts _ _ ds (hr.put hrw off) (by simpa using hl) (fun q a b ha hb => hp (q + 1) a b (by simpa using ha) (by simpa using hb)) h
        refine ⟨us, ?_, hru⟩
        simp only [Instr.fill, hplace _ _ hpl]
        dsimp only at hw
        have hne : ¬ ((v.cells.size ≠ size) || decide (off + v.cells.size > vs.toArray.size)) = true := by
          rw [hw]; simp; omega
        rw [if_neg (by simpa using hne), hw]
        have := foldl_set ws off 0 vs (by omega)
        simp only [Nat.add_zero] at this
        rw [Array.zipIdx_toArray] 
        simp only [List.foldl_toArray'] at *
        rw [show (List.foldl (fun cs x => match x with | (c, j) => cs.setIfInBounds (off + j) c) vs.toArray (ws.zipIdx)) = _ from this]
        exact hu
      · cases h
    · cases h


/-- Where the parts of a literal lie: a struct's fields, an array's elements. -/
def placesT (P : Program) (t : TypeId) : Option (List (Nat × Nat)) :=
  match P.underlying t with
  | some (.array n e) => (P.info? e).map fun ie => (List.range n).map fun i => (i * ie.size, ie.size)
  | some (.struct fields) => fields.toList.mapM (fun f => (P.info? f.type).map fun i => (f.offset, i.size))
  | _ => none

def buildD (P : Program) (h : H) (t : TypeId) (parts : List (Nat × D)) : Option D :=
  match zeroD P t, placesT P t with
  | some zs, some pl => (fillD (fun i => pl[i]?) h zs parts).map .agg
  | _, _ => none

theorem run_buildD (hg : Good X k) {t : TypeId} {a : Act} {ρ : Operand → D} (hρ : ∀ x, Rel (k.R X) k.nid (a.eval x) (ρ x)) {parts : Array (Nat × Operand)} {d : D}
    (h : buildD P k.h t (parts.toList.map fun p => (p.1, ρ p.2)) = some d) :
    ∃ v, (Instr.build t (parts.map fun (i, x) => (i, a.eval x))).run P k.w = .ok v k.w ∧ Rel (k.R X) k.nid v d := by
  unfold buildD at h
  split at h
  · rename_i zs pl hz hpl
    cases hf : fillD (fun i => pl[i]?) k.h zs (parts.toList.map fun p => (p.1, ρ p.2)) with
    | none => simp [hf] at h
    | some ds =>
      simp [hf] at h; subst h
      unfold zeroD at hz
      split at hz
      · rename_i it hit
        split at hz
        · rename_i z hzz
          cases hz
          have hzr : RelL (k.R X) k.nid z.cells.toList (z.cells.toList.map vD) := ⟨by simp, fun j v d x y => by
            rw [List.getElem?_map, x] at y; simp at y; subst y; exact .vD _ _ _⟩
          have hparts : (parts.map fun (i, x) => (i, a.eval x)).toList = parts.toList.map fun p => (p.1, a.eval p.2) := by simp
          have hfit := fun (place : Nat → Option (Nat × Nat)) (hplace : ∀ i p, pl[i]? = some p → place i = some p) => run_fill hg place (fun i => pl[i]?) hplace (parts.toList.map fun p => (p.1, a.eval p.2)) _ _ _ ds hzr (by simp) (fun i p q hp hq => by
            rw [List.getElem?_map] at hp hq
            cases hi : parts.toList[i]? with
            | none => simp [hi] at hp
            | some x => simp [hi] at hp hq; subst hp; subst hq; exact ⟨rfl, hρ _⟩) hf
          unfold placesT at hpl
          split at hpl
          · rename_i n e hue
            cases hie : P.info? e with
            | none => simp [hie] at hpl
            | some ie =>
              simp [hie] at hpl; subst hpl
              obtain ⟨us, hu, hru⟩ := hfit (fun i => some (i * ie.size, ie.size)) (fun i p hp => by
                rw [List.getElem?_map] at hp
                have hi : i < n := by simpa using lt_of_getElem? (l := (List.range n)) (i := i) (x := (List.range n)[i]'(by
                  rcases Nat.lt_or_ge i (List.range n).length with h | h
                  · exact h
                  · rw [List.getElem?_eq_none h] at hp; simp at hp)) (List.getElem?_eq_getElem _)
                rw [List.getElem?_range hi] at hp
                simpa using hp)
              refine ⟨.agg us.toArray, run_build k.w t _ us.toArray ?_, .of_list hru⟩
              rw [hparts]
              simp only [Program.built, hit, hue, hzz, hie]
              exact hu
          · rename_i fields hue
            obtain ⟨us, hu, hru⟩ := hfit (fun i => pl[i]?) (fun i p hp => hp)
            refine ⟨.agg us.toArray, run_build k.w t _ us.toArray ?_, .of_list hru⟩
            rw [hparts]
            simp only [Program.built, hit, hue, hzz, hpl]
            have : (fun i : Nat => pl.toArray[i]?) = (fun i => pl[i]?) := by funext i; simp
            simpa [this] using hu
          · cases hpl
        · cases hz
      · cases hz
  · cases h

/-! Slices of the function's own: literals -/

def chunk (sz : Nat) : Nat → List D → List (List D)
  | 0, _ => []
  | n + 1, l => l.take sz :: chunk sz n (l.drop sz)

theorem chunk_get (sz : Nat) : ∀ (n : Nat) (l : List D) (i : Nat), (chunk sz n l)[i]? = if i < n then some ((l.drop (i * sz)).take sz) else none
  | 0, l, i => by simp [chunk]
  | n + 1, l, 0 => by simp [chunk]
  | n + 1, l, i + 1 => by
    simp only [chunk, List.getElem?_cons_succ, chunk_get sz n, List.drop_drop]
    by_cases h : i < n
    · rw [if_pos h, if_pos (by omega)]; congr 3; rw [Nat.add_mul]; omega
    · rw [if_neg h, if_neg (by omega)]

theorem chunk_length (sz : Nat) : ∀ (n : Nat) (l : List D), (chunk sz n l).length = n
  | 0, _ => rfl
  | n + 1, l => by simp [chunk, chunk_length sz n]

def repL (n : Nat) (l : List D) : List D := (List.replicate n l).flatten

def litSl (P : Program) (h : H) (t : TypeId) (len : Nat) (parts : List (Nat × D)) : Option (TypeId × Nat × List (List D)) :=
  match P.underlying t with
  | some (.slice e) =>
    match sizeT P e, zeroD P e with
    | some sz, some zs =>
      if len * sz ≤ 16777216 ∧ zs.length = sz ∧ 0 < sz then
        match fillD (fun i => some (i * sz, sz)) h (repL len zs) parts with
        | some flat => some (e, sz, chunk sz len flat)
        | none => none
      else none
    | _, _ => none
  | _ => none

theorem repL_length (n : Nat) (l : List D) : (repL n l).length = n * l.length := by simp [repL, List.sum_replicate_nat]

theorem fillD_length {place : Nat → Option (Nat × Nat)} {h : H} : ∀ (parts : List (Nat × D)) (cs ds : List D), fillD place h cs parts = some ds → ds.length = cs.length
  | [], cs, ds, hf => by simp [fillD] at hf; subst hf; rfl
  | (i, d) :: rest, cs, ds, hf => by
    simp only [fillD] at hf
    split at hf
    · rename_i off size es hpl hce
      split at hf
      · rename_i hc
        rw [fillD_length rest _ ds hf]
        simp only [putL, List.length_append, List.length_take, List.length_drop]; omega
      · cases hf
    · cases hf

theorem rep_get (zv : List Value) (n : Nat) (hz : 0 < zv.length) (i : Nat) (hi : i < n * zv.length) : ((List.replicate n zv).flatten)[i]? = zv[i % zv.length]? := by
  induction n generalizing i with
  | zero => simp at hi
  | succ n ih =>
    rw [List.replicate_succ, List.flatten_cons]
    rcases Nat.lt_or_ge i zv.length with h | h
    · rw [List.getElem?_append_left h, Nat.mod_eq_of_lt h]
    · rw [List.getElem?_append_right h, ih (i - zv.length) (by rw [Nat.add_mul] at hi; omega)]
      congr 1
      conv => rhs; rw [show i = (i - zv.length) + zv.length by omega]
      simp

theorem run_litSl (hg : Good X k) {t : TypeId} {len : Nat} {a : Act} {ρ : Operand → D} (hρ : ∀ x, Rel (k.R X) k.nid (a.eval x) (ρ x)) {parts : Array (Nat × Operand)} {e : TypeId} {sz : Nat} {es : List (List D)}
    (h : litSl P k.h t len (parts.toList.map fun p => (p.1, ρ p.2)) = some (e, sz, es)) :
    ∃ us, (Instr.buildSlice t len (parts.map fun (i, x) => (i, a.eval x))).run P k.w = .ok (.slice (some ⟨k.w.heap.size, 0, none⟩) len len) (k.w.alloc (.cells (List.toArray us) e)) ∧
      us.length = len * sz ∧ es.length = len ∧ (∀ x ∈ es, x.length = sz) ∧ 0 < sz ∧ sizeT P e = some sz ∧ P.underlying t = some (.slice e) ∧
      ∀ (i : Nat) x (j : Nat) d v, es[i]? = some x → x[j]? = some d → us[i * sz + j]? = some v → Rel (k.R X) k.nid v d := by
  unfold litSl at h
  split at h
  · rename_i e' hu
    split at h
    · rename_i sz' zs hsz hz
      split at h
      · rename_i hc
        obtain ⟨hc1, hc2, hc3⟩ := hc
        split at h
        · rename_i flat hf
          cases h
          unfold zeroD at hz
          split at hz
          · rename_i it hit
            split at hz
            · rename_i z hzz
              cases hz
              have hits : it.size = sz := by simpa [sizeT, hit] using hsz
              have hzl : z.cells.size = sz := by simpa using hc2
              have hzr : RelL (k.R X) k.nid (List.replicate len z.cells.toList).flatten (repL len (z.cells.toList.map vD)) := by
                have : repL len (z.cells.toList.map vD) = (List.replicate len z.cells.toList).flatten.map vD := by
                  simp [repL, List.map_flatten]
                rw [this]
                exact ⟨by simp, fun j v d x y => by rw [List.getElem?_map, x] at y; simp at y; subst y; exact .vD _ _ _⟩
              obtain ⟨us, hu2, hru⟩ := run_fill hg _ _ (fun _ _ h => h) (parts.toList.map fun p => (p.1, a.eval p.2)) _ _ _ flat hzr (by simp) (fun i p q hp hq => by
                rw [List.getElem?_map] at hp hq
                cases hi : parts.toList[i]? with
                | none => simp [hi] at hp
                | some x => simp [hi] at hp hq; subst hp; subst hq; exact ⟨rfl, hρ _⟩) hf
              have hflen : flat.length = len * sz := by
                rw [fillD_length _ _ _ hf, repL_length]; simp [hzl]
              have husl : us.length = len * sz := by rw [hru.1, hflen]
              have hzero : ((Array.range (len * it.size)).map (z.cells[· % z.cells.size]!)) = ((List.replicate len z.cells.toList).flatten).toArray := by
                apply Array.ext'
                apply List.ext_getElem?
                intro i
                rcases Nat.lt_or_ge i (len * sz) with hi | hi
                · have hzc : 0 < z.cells.toList.length := by simp [hzl]; exact hc3
                  have hr := rep_get z.cells.toList len hzc i (by simpa [hzl] using hi)
                  have hm : i % z.cells.size < z.cells.size := Nat.mod_lt _ (by omega)
                  simp only [List.toList_toArray, hr]
                  simp [hits, hi, hzl, Array.getElem?_eq_getElem, hm]
                  rw [hzl] at hm
                  simp [hzl, hm]
                · simp [hits, hi, hzl, List.sum_replicate_nat]
              refine ⟨us, ?_, husl, chunk_length _ _ _, ?_, hc3, hsz, hu, ?_⟩
              · have hparts : (parts.map fun (i, x) => (i, a.eval x)).toList = parts.toList.map fun p => (p.1, a.eval p.2) := by simp
                simp only [Instr.buildSlice, Sem.run_bind, run_underlying hu, Result.andThen_ok, run_sizeT hsz, Sem.run_ite]
                rw [if_neg (by omega)]
                simp only [Sem.run_pure, Result.andThen_ok]
                by_cases h0 : len * sz = 0
                · rw [if_pos h0]
                  have hl0 : len = 0 := by rcases Nat.mul_eq_zero.1 h0 with h | h <;> omega
                  subst hl0
                  have hz0 : ((Array.range (0 * sz)).map (fun (x : Nat) => (#[] : Array Value)[x % (#[] : Array Value).size]!)) = ((List.replicate 0 z.cells.toList).flatten).toArray := by simp
                  rw [hz0, hparts, hu2]
                  simp only [newRow, Sem.run_bind, run_newObj, Result.andThen_ok, Sem.run_pure]; rfl
                · rw [if_neg h0]
                  have hzv : (zeroValue e).run P k.w = .ok z k.w := by simp [zeroValue, run_typeInfo k.w hit, hzz]
                  simp only [Sem.run_bind, hzv, Result.andThen_ok, Sem.run_pure]
                  rw [hits] at hzero
                  rw [hzero, hparts, hu2]
                  simp only [newRow, Sem.run_bind, run_newObj, Result.andThen_ok, Sem.run_pure]; rfl
              · intro x hx
                obtain ⟨i, hi⟩ := List.getElem?_of_mem hx
                rw [chunk_get] at hi
                split at hi
                · rename_i hlt
                  cases hi
                  simp only [List.length_take, List.length_drop]
                  have := mul_add_lt (sz := sz) (j := sz - 1) hlt (by omega)
                  omega
                · cases hi
              · intro i x j d v hx hd hv
                rw [chunk_get] at hx
                split at hx
                · cases hx
                  have hj := lt_of_getElem? hd
                  simp only [List.length_take] at hj
                  rw [List.getElem?_take, if_pos (by omega), List.getElem?_drop] at hd
                  exact hru.2 _ v d hv hd
                · cases hx
            · cases hz
          · cases hz
        · cases h
      · cases h
    · cases h
  · cases h

/-! Appending -/

/-- The elements of a slice that is appended. -/
def srcD (h : H) : D → Option (List (List D))
  | .nils => some []
  | .sl es => some es
  | .osl b n => match hget h b with
    | some (.arr _ _ es) => if n = es.length then some es else none
    | _ => none
  | _ => none

theorem divmod_get {i j sz : Nat} (hj : j < sz) : (i * sz + j) / sz = i ∧ (i * sz + j) % sz = j := by
  have h : 0 < sz := by omega
  constructor
  · rw [Nat.mul_comm, Nat.mul_add_div h, Nat.div_eq_of_lt hj]; rfl
  · rw [Nat.mul_comm, Nat.mul_add_mod, Nat.mod_eq_of_lt hj]

theorem src_sound (hg : Good X k) {v : Value} {x : D} {es : List (List D)} (hx : Rel (k.R X) k.nid v x) (h : srcD k.h x = some es) {sz : Nat} (hsz : 0 < sz) (hel : ∀ e ∈ es, e.length = sz) :
    (v = .slice none 0 0 ∧ es = []) ∨ ∃ (a : Addr) (c : Nat) (news : List Value), v = .slice (some a) es.length c ∧ news.length = es.length * sz ∧ (∀ j u, news[j]? = some u → k.w.cell? (a.add j) = some u) ∧
      ∀ (i : Nat) e (j : Nat) d, es[i]? = some e → e[j]? = some d → ∃ u, news[i * sz + j]? = some u ∧ Rel (k.R X) k.nid u d := by
  unfold srcD at h
  split at h
  · cases h; cases hx; exact .inl ⟨rfl, rfl⟩
  · cases h
    cases hx with
    | sln => exact .inl ⟨rfl, rfl⟩
    | sle _ a cap => exact .inr ⟨a, cap, [], rfl, by simp, fun j u hj => by simp at hj, fun i e j d hi => by simp at hi⟩
    | sl _ b off cap _ sz' vs hS hcap hlen hcell hrel =>
      right
      refine ⟨⟨b, off, none⟩, cap, (List.range (es.length * sz)).map (fun q => vs (q / sz) (q % sz)), rfl, by simp, fun j u hj => ?_, fun i e j d hi hjd => ?_⟩
      · have hjl : j < es.length * sz := by simpa using lt_of_getElem? hj
        rw [List.getElem?_map, List.getElem?_range hjl] at hj
        simp at hj; subst hj
        have hq : j / sz < es.length := Nat.div_lt_of_lt_mul (by rw [Nat.mul_comm]; exact hjl)
        have hm : j % sz < sz := Nat.mod_lt _ hsz
        have he := List.getElem_mem hq
        have h1 : es[j / sz].length = sz := hel _ he
        have h2 : es[j / sz].length = sz' := hlen _ he
        have := hcell (j / sz) _ (j % sz) _ (List.getElem?_eq_getElem hq) (List.getElem?_eq_getElem (by omega))
        rw [add_none, ← this]
        congr 2
        rw [show sz' = sz by omega]
        have := Nat.div_add_mod j sz
        rw [Nat.mul_comm] at this; rw [this]
      · have hil := lt_of_getElem? hi
        have hjl : j < sz := by rw [← hel e (List.mem_of_getElem? hi)]; exact lt_of_getElem? hjd
        refine ⟨vs i j, ?_, (hrel i e j d hi hjd).weak (Nat.zero_le _)⟩
        rw [List.getElem?_map, List.getElem?_range (mul_add_lt hil hjl)]
        simp [divmod_get hjl]
  · rename_i b n
    split at h
    · rename_i ty sz' es' hb
      split at h
      · rename_i hn
        cases h
        cases hx with
        | osl _ _ _ _ hb' hv =>
          have hv2 := (hv es.length (by simp [Cx.R, hb, lnOf])).2 hn
          obtain ⟨h0, h1⟩ := hg.ok b _ hb
          rcases h1 with ⟨h1, h2⟩ | ⟨bb, cap, vs, a1, a2, a3, a4, a5⟩
          · left
            have : (k.R X).sv b = .slice none 0 0 := h1
            rw [this] at hv2; exact ⟨hv2, h2⟩
          · right
            have : (k.R X).sv b = .slice (some ⟨bb, 0, none⟩) es.length cap := a1
            rw [this] at hv2
            by_cases hes : es = []
            · subst hes
              exact ⟨⟨bb, 0, none⟩, cap, [], hv2, by simp, fun j u hj => by simp at hj, fun i e j d hi => by simp at hi⟩
            · have hss : sz' = sz := by
                obtain ⟨e, rest, rfl⟩ := List.exists_cons_of_ne_nil hes
                rw [← h0 e (by simp), hel e (by simp)]
              subst hss
              have hfit : es.length * sz' ≤ vs.length := by rw [a3]; exact Nat.mul_le_mul_right _ a4
              refine ⟨⟨bb, 0, none⟩, cap, vs.take (es.length * sz'), hv2, by simp; omega, fun j u hj => ?_, fun i e j d hi hjd => ?_⟩
              · have hjl := lt_of_getElem? hj
                simp only [List.length_take] at hjl
                rw [List.getElem?_take, if_pos (by omega)] at hj
                rw [add_none, row_cell a2, Nat.zero_add]; exact hj
              · have hil := lt_of_getElem? hi
                have hjl : j < sz' := by rw [← hel e (List.mem_of_getElem? hi)]; exact lt_of_getElem? hjd
                have hlt := mul_add_lt hil hjl
                have hv : vs[i * sz' + j]? = some (vs[i * sz' + j]'(by omega)) := List.getElem?_eq_getElem _
                exact ⟨_, by rw [List.getElem?_take, if_pos hlt]; exact hv, (a5 i e j d _ hi hjd hv).weak (Nat.zero_le _)⟩
      · cases h
    · cases h
  · cases h

/-! Bytes as a string -/

def byteOf : List D → Option UInt8
  | [.int .u8 n] => some (UInt8.ofNat n.toNat)
  | _ => none
def bytesOf : List (List D) → Option (List UInt8)
  | [] => some []
  | e :: r =>
    match byteOf e, bytesOf r with
    | some b, some l => some (b :: l)
    | _, _ => none
def numOf : List D → Int
  | [.int .u8 n] => n
  | _ => 0

def strD (P : Program) (h : H) (s d : TypeId) (x : D) : Option D :=
  match P.underlying s, P.underlying d with
  | some (.slice e), some .string =>
    match P.underlying e with
    | some (.int .u8) =>
      match srcD h x with
      | some es =>
        match bytesOf es with
        | some l => some (.str ⟨l.toArray⟩)
        | none => none
      | none => none
    | _ => none
  | _, _ => none

theorem bytesOf_get : ∀ (es : List (List D)) (l : List UInt8), bytesOf es = some l → es = (es.map numOf).map (fun n => [D.int .u8 n]) ∧ l = (es.map numOf).map fun n => UInt8.ofNat n.toNat
  | [], l, h => by simp [bytesOf] at h; subst h; exact ⟨rfl, rfl⟩
  | e :: r, l, h => by
    simp only [bytesOf] at h
    split at h
    · rename_i b l' h1 h2
      obtain ⟨i1, i2⟩ := bytesOf_get r l' h2
      cases h
      unfold byteOf at h1
      split at h1
      · rename_i n
        cases h1
        simp only [List.map_cons, numOf]
        exact ⟨by rw [← i1], by rw [← i2]⟩
      · cases h1
    · cases h

theorem run_strD (hg : Good X k) {s d : TypeId} {x r : D} {v : Value} (hx : Rel (k.R X) k.nid v x) (h : strD P k.h s d x = some r) : ∃ u, (convert s d v).run P k.w = .ok u k.w ∧ Rel (k.R X) k.nid u r := by
  unfold strD at h
  split at h
  · rename_i e hs hd
    split at h
    · rename_i he
      split at h
      · rename_i es hsrc
        split at h
        · rename_i l hl
          cases h
          obtain ⟨e1, e2⟩ := bytesOf_get es l hl
          refine ⟨_, ?_, .str _ _⟩
          have hlen : ∀ c ∈ es, c.length = 1 := fun c hc => by
            rw [e1] at hc
            obtain ⟨n, _, rfl⟩ := List.mem_map.1 hc
            rfl
          rcases src_sound hg hx hsrc (sz := 1) (by omega) hlen with ⟨rfl, rfl⟩ | ⟨a, c, news, rfl, h1, h2, h3⟩
          · rw [run_convert_bytes_string _ _ _ e _ _ _ hs he hd]
            simp [bytesOf] at hl; subst hl
            rfl
          · have hll : l.length = es.length := by rw [e2]; simp
            rw [← hll]
            rw [run_convert_bytes_string k.w s d e (some a) l.length c hs he hd]
            have hnews : news = (es.map numOf).map (Value.int .u8) := by
              apply List.ext_getElem?
              intro i
              rw [Nat.mul_one] at h1
              rcases Nat.lt_or_ge i es.length with hi | hi
              · obtain ⟨u, hu, hru⟩ := h3 i es[i] 0 (.int .u8 ((es.map numOf)[i]'(by simpa using hi))) (List.getElem?_eq_getElem hi) (by
                  have : es[i]? = ((es.map numOf).map (fun n => [D.int .u8 n]))[i]? := by rw [← e1]
                  rw [List.getElem?_eq_getElem hi] at this
                  have h5 : es[i] = [D.int .u8 ((es.map numOf)[i]'(by simpa using hi))] := by
                    simp at this
                    rw [List.getElem?_eq_getElem hi] at this
                    simpa using this
                  rw [h5]; rfl)
                cases hru
                rw [Nat.mul_one, Nat.add_zero] at hu
                rw [hu]; simp [List.getElem?_eq_getElem hi]
              · rw [List.getElem?_eq_none (by omega), List.getElem?_eq_none (by simpa using hi)]
            have hload := run_loadCells_list (P := P) k.w a ((es.map numOf).map (Value.int .u8)) (fun j v hj => h2 j v (by rw [hnews]; exact hj))
            have hlen2 : ((es.map numOf).map (Value.int .u8)).length = l.length := by simp [hll]
            rw [hlen2] at hload
            rw [run_bytesToString k.w a l.length c _ hload, foldl_push_bytes]
            congr 1
            rw [e2]
            simp [ByteArray.empty, ByteArray.emptyWithCapacity]
            rfl
        · cases h
      · cases h
    · cases h
  · cases h

/-- Reading operations, literals of structs and arrays among them. -/
def opR (P : Program) (op : Op) (ρ : Operand → D) (h : H) : Option D :=
  match op with
  | .build t parts => buildD P h t (parts.toList.map fun p => (p.1, ρ p.2))
  | .convert s d x =>
    match strD P h s d (ρ x) with
    | some r => some r
    | none => opQ P (.convert s d x) ρ h
  | op => opQ P op ρ h

theorem opR_sound (hg : Good X k) {a : Act} {o : Oper} {ρ : Operand → D} (hρ : ∀ x, Rel (k.R X) k.nid (a.eval x) (ρ x)) {d : D} (h : opR P o.op ρ k.h = some d) :
    ∃ v, (execOp a.eval o).run P k.w = .ok (.value v) k.w ∧ Rel (k.R X) k.nid v d := by
  unfold opR at h
  split at h
  · rename_i t parts hop
    obtain ⟨v, h1, h2⟩ := run_buildD hg hρ h
    refine ⟨v, ?_, h2⟩
    unfold execOp
    rw [hop]
    exact ok_bind_value _ _ _ _ _ h1
  · rename_i s dd x hop
    split at h
    · rename_i r hr
      cases h
      obtain ⟨u, h1, h2⟩ := run_strD hg (hρ x) hr
      refine ⟨u, ?_, h2⟩
      unfold execOp
      rw [hop]
      exact ok_bind_value _ _ _ _ _ h1
    · rw [← hop] at h
      exact opQ_sound hg hρ h
  · exact opQ_sound hg hρ h

end
end Go.Sx
