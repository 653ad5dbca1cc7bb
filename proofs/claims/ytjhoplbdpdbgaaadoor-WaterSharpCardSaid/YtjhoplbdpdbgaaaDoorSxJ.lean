/- Sx, part J: contracts of functions of data alone, used in whatever state. Own work. -/
import Derived.Test.YtjhoplbdpdbgaaaDoorSxI
set_option linter.unusedVariables false
set_option linter.unusedSimpArgs false
namespace Go.Sx

mutual
/-- Data that leads to no memory. -/
def D.flat : D → Bool
  | .int _ _ | .bool _ | .str _ | .nils | .nilp | .nilf | .nili | .nilm | .any => true
  | .agg cs => D.flatL cs
  | .tup cs => D.flatL cs
  | _ => false
def D.flatL : List D → Bool
  | [] => true
  | d :: ds => D.flat d && D.flatL ds
end

theorem D.flatL_get : ∀ {ds : List D}, D.flatL ds = true → ∀ (i : Nat) (d : D), ds[i]? = some d → D.flat d = true
  | [], _, i, d, h => by simp at h
  | x :: xs, hl, 0, d, h => by simp [D.flatL] at hl; simp at h; subst h; exact hl.1
  | x :: xs, hl, i + 1, d, h => by simp [D.flatL] at hl; simp at h; exact D.flatL_get hl.2 i d h

theorem Rel.flat {R R' : Rx} {n m : Nat} {v : Value} {d : D} (h : Rel R n v d) (hf : d.flat = true) : Rel R' m v d := by
  induction h with
  | any => exact .any _ _
  | int => exact .int _ _ _
  | bool => exact .bool _ _
  | str => exact .str _ _
  | agg n vs ds h1 _ ih => exact .agg _ vs ds h1 fun i v d a b => ih i v d a b (D.flatL_get (by simpa [D.flat] using hf) i d b)
  | tup n vs ds h1 _ ih => exact .tup _ vs ds h1 fun i v d a b => ih i v d a b (D.flatL_get (by simpa [D.flat] using hf) i d b)
  | nils => exact .nils _
  | nilp => exact .nilp _
  | nilf => exact .nilf _
  | nili => exact .nili _
  | nilm => exact .nilm _
  | _ => simp [D.flat] at hf

mutual
/-- How a datum reads to a callee that writes nothing. -/
def view (h : H) : D → D
  | .ptr b o => match hget h b with
    | some (.box cs) => if D.ltL 0 cs then .ref cs o else .any
    | _ => .any
  | .osl b n => match hget h b with
    | some (.arr _ _ es) => if n = es.length then .sl es else .any
    | _ => .any
  | .eptr _ _ _ _ _ => .any
  | .mp _ => .any
  | .bsl b o l sz => match hget h b with
    | some (.box cs) => if D.ltL 0 cs && Nat.ble (o + l * sz) cs.length then .sl (chunk sz l (cs.drop o)) else .any
    | _ => .any
  | .agg cs => .agg (viewL h cs)
  | .tup cs => .tup (viewL h cs)
  | .fn f a c => .fn f (viewL h a) (viewL h c)
  | .ifc t d => .ifc t (view h d)
  | d => d
def viewL (h : H) : List D → List D
  | [] => []
  | d :: ds => view h d :: viewL h ds
end

theorem viewL_eq (h : H) : ∀ ds, viewL h ds = ds.map (view h)
  | [] => rfl
  | d :: ds => by simp [viewL, viewL_eq h ds]

section
variable {P : Program} {n0 : Nat} {ro : Option Nat} {X : Nat → Prop}

/-- The context of a callee that is handed the caller's memory to read. -/
def Cx.sub (k : Cx) : Cx := { k with h := [], nid := 0 }

theorem sub_mut (k : Cx) (b : Nat) : ¬ k.sub.Mut b := fun ⟨id, h⟩ => by simp [Cx.own, Cx.sub, hget, ownOf] at h

theorem good_sub {k : Cx} {X' : Nat → Prop} (hx : ∀ b, X' b → b < k.w.heap.size) : Good X' k.sub where
  key := fun id blk h => by simp [Cx.sub, hget] at h
  inj := fun i j b h => by simp [Cx.own, Cx.sub, hget, ownOf] at h
  lt := fun i b h => by simp [Cx.own, Cx.sub, hget, ownOf] at h
  xlt := hx
  ok := fun id blk h => by simp [Cx.sub, hget] at h

theorem rle_sub (k : Cx) : RLe 0 (k.R X) (k.sub.R X) where
  β := fun b hb => by omega
  arr := fun b hb => by omega
  S := fun b ⟨h1, h2, h3⟩ => ⟨h1, h2, sub_mut k b⟩
  heap := fun _ _ _ => rfl

theorem rle_sub' (k : Cx) : RLe 0 (k.R X) (k.sub.R fun b => X b ∨ k.Mut b) where
  β := fun b hb => by omega
  arr := fun b hb => by omega
  S := fun b ⟨h1, h2, h3⟩ => ⟨h1, fun h => h.elim h2 h3, sub_mut k b⟩
  heap := fun _ _ _ => rfl

theorem Rel.view {k : Cx} (hg : Good X k) {v : Value} {d : D} (h : Rel (k.R X) k.nid v d) : Rel (k.sub.R X) 0 v (view k.h d) := by
  generalize hR : k.R X = R at h
  generalize hn : k.nid = n at h
  induction h with
  | any => exact .any _ _
  | int => exact .int _ _ _
  | bool => exact .bool _ _
  | str => exact .str _ _
  | agg n vs ds h1 _ ih =>
    subst hn
    simp only [Sx.view, viewL_eq]
    exact .agg _ vs _ (by simp [h1]) fun i v d a b => by
      rw [List.getElem?_map] at b
      cases hd : ds[i]? with
      | none => simp [hd] at b
      | some d' => simp [hd] at b; subst b; exact ih i v d' a hd rfl
  | tup n vs ds h1 _ ih =>
    subst hn
    simp only [Sx.view, viewL_eq]
    exact .tup _ vs _ (by simp [h1]) fun i v d a b => by
      rw [List.getElem?_map] at b
      cases hd : ds[i]? with
      | none => simp [hd] at b
      | some d' => simp [hd] at b; subst b; exact ih i v d' a hd rfl
  | nils => exact .nils _
  | sln => exact .sln _
  | sle n a cap => exact .sle _ a cap
  | sl n b off cap es sz vs h1 h2 h3 h4 h5 _ =>
    subst hR
    exact (Rel.sl (R := k.R X) 0 b off cap es sz vs h1 h2 h3 h4 h5).mono (rle_sub k)
  | ref n b off cs o vs h1 h2 h3 _ =>
    subst hR
    exact (Rel.ref (R := k.R X) 0 b off cs o vs h1 h2 h3).mono (rle_sub k)
  | ptr n b off h1 =>
    subst hR; subst hn
    simp only [Sx.view]
    split
    · rename_i cs hb
      split
      · rename_i hpure
        obtain ⟨vs, ty, a1, a2⟩ := hg.ok b _ hb
        have hown : k.own b = some (k.β b) := by rw [own_of_hget hb]; rfl
        have hlt := hg.lt b _ hown
        have := Rel.ref (R := k.sub.R X) 0 (k.β b) 0 cs off (fun j => vs.getD j undef) ⟨hlt.1, hlt.2, sub_mut k _⟩ (fun j d hd => by
          obtain ⟨v, hv, _⟩ := a2.get hd
          show k.w.cell? _ = _
          rw [row_cell a1, Nat.zero_add, hv]; simp [List.getD, hv]) (fun j d hd => by
          obtain ⟨v, hv, hr⟩ := a2.get hd
          have hr' := (hr.roll (m := 0) (D.ltL_get hpure j d hd)).mono (rle_sub k)
          simpa [List.getD, hv] using hr')
        simpa [Cx.R] using this
      · exact .any _ _
    · exact .any _ _
  | osl n b l v h1 h2 =>
    subst hR; subst hn
    simp only [Sx.view]
    split
    · rename_i ty sz es hb
      split
      · rename_i hl
        have hv := (h2 es.length (by simp [Cx.R, hb, lnOf])).2 hl
        obtain ⟨a0, a1⟩ := hg.ok b _ hb
        rcases a1 with ⟨a1, a2⟩ | ⟨bb, cap, vs, a1, a2, a3, a4, a5⟩
        · have : (k.R X).sv b = .slice none 0 0 := a1
          rw [hv, this, a2]; exact .sln _
        · have hs : (k.R X).sv b = .slice (some ⟨bb, 0, none⟩) es.length cap := a1
          have hown : k.own b = some bb := by rw [own_of_hget hb]; simp [ownOf, a1, slBlk]
          have hlt := hg.lt b _ hown
          rw [hv, hs]
          have hin : ∀ (i : Nat) e (j : Nat) d, es[i]? = some e → e[j]? = some d → i * sz + j < vs.length := fun i e j d he hd => by
            rw [a3]
            have := a0 e (List.mem_of_getElem? he)
            have := lt_of_getElem? hd
            have := lt_of_getElem? he
            exact mul_add_lt (by omega) (by omega)
          refine .sl _ bb 0 cap es sz (fun i j => vs.getD (i * sz + j) undef) (.inr ⟨hlt.1, hlt.2, sub_mut k _⟩) a4 a0 (fun i e j d he hd => ?_) (fun i e j d he hd => ?_)
          · show k.w.cell? _ = _
            rw [row_cell a2, Nat.zero_add, List.getElem?_eq_getElem (hin i e j d he hd)]
            simp [List.getD, List.getElem?_eq_getElem (hin i e j d he hd)]
          · have hr := a5 i e j d _ he hd (List.getElem?_eq_getElem (hin i e j d he hd))
            have hr' := hr.mono (rle_sub k)
            simpa [List.getD, List.getElem?_eq_getElem (hin i e j d he hd)] using hr'
      · exact .any _ _
    · exact .any _ _
  | eptr => exact .any _ _
  | fn n f va vc da dc h1 h2 _ _ i1 i2 =>
    subst hn
    simp only [Sx.view, viewL_eq]
    exact .fn _ f va vc _ _ (by simp [h1]) (by simp [h2]) (fun i v d a b => by
      rw [List.getElem?_map] at b
      cases hd : da[i]? with
      | none => simp [hd] at b
      | some d' => simp [hd] at b; subst b; exact i1 i v d' a hd rfl) (fun i v d a b => by
      rw [List.getElem?_map] at b
      cases hd : dc[i]? with
      | none => simp [hd] at b
      | some d' => simp [hd] at b; subst b; exact i2 i v d' a hd rfl)
  | nilp => exact .nilp _
  | nilf => exact .nilf _
  | nili => exact .nili _
  | nilm => exact .nilm _
  | ifc n t v d _ ih => subst hn; exact .ifc _ t v _ (ih rfl)
  | mp => exact .any _ _
  | bsl n b off l cap sz h1 h2 =>
    subst hR; subst hn
    simp only [Sx.view]
    split
    · rename_i cs hb
      split
      · rename_i hpure
        simp only [Bool.and_eq_true] at hpure
        have hle : off + l * sz ≤ cs.length := Nat.le_of_ble_eq_true hpure.2
        obtain ⟨vs, ty, a1, a2⟩ := hg.ok b _ hb
        have hown : k.own b = some (k.β b) := by rw [own_of_hget hb]; rfl
        have hlt := hg.lt b _ hown
        have hcell : ∀ (i : Nat) e (j : Nat) d, (chunk sz l (cs.drop off))[i]? = some e → e[j]? = some d → cs[off + (i * sz + j)]? = some d := fun i e j d he hd => by
          rw [chunk_get] at he
          split at he
          · cases he
            rw [List.getElem?_take] at hd
            split at hd
            · rw [List.drop_drop, List.getElem?_drop] at hd
              rw [← hd]; congr 1; omega
            · cases hd
          · cases he
        have := Rel.sl (R := k.sub.R X) 0 (k.β b) off cap (chunk sz l (cs.drop off)) sz (fun i j => vs.getD (off + (i * sz + j)) undef) (.inr ⟨hlt.1, hlt.2, sub_mut k _⟩) (by rw [chunk_length]; exact h2) (fun e he => by
          obtain ⟨i, hi⟩ := List.getElem?_of_mem he
          rw [chunk_get] at hi
          split at hi
          · rename_i hil
            cases hi
            rw [List.length_take, List.drop_drop, List.length_drop]
            have := mul_add_lt (i := i) (sz := sz) (cap := l) (j := 0) hil
            rcases Nat.eq_zero_or_pos sz with h0 | h0
            · omega
            · have h3 : (i + 1) * sz ≤ l * sz := Nat.mul_le_mul_right _ hil
              rw [Nat.add_mul] at h3; omega
          · cases hi) (fun i e j d he hd => by
          obtain ⟨v, hv, _⟩ := a2.get (hcell i e j d he hd)
          show k.w.cell? _ = _
          rw [row_cell a1, hv]; simp [List.getD, hv]) (fun i e j d he hd => by
          obtain ⟨v, hv, hr⟩ := a2.get (hcell i e j d he hd)
          have hr' := (hr.roll (m := 0) (D.ltL_get hpure.1 _ d (hcell i e j d he hd))).mono (rle_sub k)
          simpa [List.getD, hv] using hr')
        rw [chunk_length] at this
        simpa [Cx.R] using this
      · exact .any _ _
    · exact .any _ _
  | raw => exact .raw _ _

/-- A callee that writes nothing, reading the caller's own memory, hands back data that leads to no memory. -/
theorem acall_borrow {f : FuncId} {ds : List D} {r : D} {h : H} {nid : Nat} (hp : Pure P f (ds.map (view h)) r) (hr : r.flat = true) :
    ACall P f ds h nid fun r' h' nid' => r' = r ∧ h' = h ∧ nid' = nid := by
  refine ⟨hp.1, fun X k vs hh hn hg hrel => ?_⟩
  subst hh; subst hn
  refine (hp.2 X k.sub vs rfl rfl (good_sub hg.xlt) ⟨by simp [hrel.1], fun i v d a b => ?_⟩).mono ?_
  · rw [List.getElem?_map] at b
    cases hd : ds[i]? with
    | none => simp [hd] at b
    | some d' => simp [hd] at b; subst b; exact (hrel.2 i v d' a hd).view hg
  · rintro e w' ⟨v, kc, r', rfl, rfl, rfl, hgc, hlec, hrc⟩
    have hheap : ∀ b, b < k.w.heap.size → kc.w.heap[b]? = k.w.heap[b]? := fun b hb => hlec.heap b hb (sub_mut k b)
    have hle : Le k { k with w := kc.w } := le_world hlec.os hlec.tape hlec.output hlec.size hheap
    exact ⟨v, { k with w := kc.w }, r', rfl, rfl, ⟨rfl, rfl, rfl⟩, hg.world hle hheap, hle, hrc.flat hr⟩

/-- A callee that writes nothing, handed data that leads to no memory of the caller's own, hands back data of whatever kind. -/
theorem acall_pure {f : FuncId} {ds : List D} {r : D} {h : H} {nid : Nat} (hp : Pure P f ds r) (hds : D.ltL 0 ds = true) (hr : r.lt 0 = true) :
    ACall P f ds h nid fun r' h' nid' => r' = r ∧ h' = h ∧ nid' = nid := by
  refine ⟨hp.1, fun X k vs hh hn hg hrel => ?_⟩
  subst hh; subst hn
  refine (hp.2 (fun b => X b ∨ k.Mut b) k.sub vs rfl rfl (good_sub fun b hb => hb.elim (hg.xlt b) fun ⟨i, hi⟩ => (hg.lt i b hi).1) ⟨hrel.1, fun i v d a b => ?_⟩).mono ?_
  · exact ((hrel.2 i v d a b).roll (m := 0) (D.ltL_get hds i d b)).mono (rle_sub' k)
  · rintro e w' ⟨v, kc, r', rfl, rfl, rfl, hgc, hlec, hrc⟩
    have hheap : ∀ b, b < k.w.heap.size → kc.w.heap[b]? = k.w.heap[b]? := fun b hb => hlec.heap b hb (sub_mut k b)
    have hle : Le k { k with w := kc.w } := le_world hlec.os hlec.tape hlec.output hlec.size hheap
    refine ⟨v, { k with w := kc.w }, r', rfl, rfl, ⟨rfl, rfl, rfl⟩, hg.world hle hheap, hle, ?_⟩
    have hroll := (hrc.roll (m := 0) hr).mono (R' := Cx.R X { k with w := kc.w }) {
      β := fun b hb => by omega
      arr := fun b hb => by omega
      S := fun b ⟨h1, h2, h3⟩ => ⟨h1, fun hx => h2 (.inl hx), fun hm => h2 (.inr hm)⟩
      heap := fun _ _ _ => rfl }
    exact hroll.weak (Nat.zero_le _)

/-- A call by a contract on data. -/
theorem opOk_borrow {o : Oper} {c : Call} {s : St} {K : St → Prop} {f : FuncId} {ds : List D} {r : D} (ho : o.op = .call c) (hcal : calleeD s.env c = some (f, ds))
    (hp : Pure P f (ds.map (view s.h)) r) (hr : r.flat = true) (hK : K (s.put o.dst r)) : OpOk P n0 ro o s K :=
  opOk_call ho hcal ((acall_borrow hp hr).mono fun _ _ _ ⟨h1, h2, h3⟩ => by subst h1; subst h2; subst h3; exact hK)

theorem opOk_pure {o : Oper} {c : Call} {s : St} {K : St → Prop} {f : FuncId} {ds : List D} {r : D} (ho : o.op = .call c) (hcal : calleeD s.env c = some (f, ds))
    (hp : Pure P f ds r) (hds : D.ltL 0 ds = true) (hr : r.lt 0 = true) (hK : K (s.put o.dst r)) : OpOk P n0 ro o s K :=
  opOk_call ho hcal ((acall_pure hp hds hr).mono fun _ _ _ ⟨h1, h2, h3⟩ => by subst h1; subst h2; subst h3; exact hK)

/-- A contract on data, out of a body. What the body leaves on its heap is of no account; slices of its own become data. -/
theorem pure_of_awp {f : FuncId} {fn : Func} {c : Code} {ds : List D} {r : D} (hf : P.funcs[f]? = some fn) (hb : fn.body = some c) (hcal : callable P f = true)
    (hw : AWp P 0 none c { env := argEnv 0 ds, h := [], nid := 0, n := ds.length + (fn.ntmps - ds.length) } (endQ P fn fun d h _ => view h d = r)) : Pure P f ds r := by
  have h1 := acall_of_awp hf hb hcal hw
  refine ⟨hcal, fun X k vs hh hn hg hrel => (h1.2 X k vs hh hn hg hrel).mono ?_⟩
  rintro e w' ⟨v, k', r', rfl, rfl, rfl, hg', hle, hr'⟩
  refine ⟨v, k'.sub, _, rfl, rfl, rfl, good_sub hg'.xlt, ?_, hr'.view hg'⟩
  exact hle.drop (by omega) (fun id blk h => by simp [hget] at h)

end
end Go.Sx
