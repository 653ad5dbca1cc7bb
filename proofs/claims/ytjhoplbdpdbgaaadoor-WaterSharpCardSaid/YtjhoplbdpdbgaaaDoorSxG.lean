/- Sx, part G: append. Own work. -/
import Derived.Test.YtjhoplbdpdbgaaaDoorSxF
set_option linter.unusedVariables false
set_option linter.unusedSimpArgs false
namespace Go.Sx
section
variable {P : Program} {X : Nat → Prop} {k : Cx}

def okSrc (sz : Nat) (xs : List (List D)) : Bool := xs.all fun e => Nat.beq e.length sz && (e.all oneD && D.ltL 0 e)

def appE (P : Program) (h : H) (nid : Nat) (t t' : TypeId) (s x : D) : Option (D × H × Nat) :=
  match P.underlying t, srcD h x with
  | some (.slice e), some xs =>
    match sizeT P e, zeroD P e with
    | some sz, some zs =>
      if t = t' ∧ zs.length = sz ∧ 0 < sz ∧ okSrc sz xs = true then
        match s with
        | .nils => if xs.length * P.bytesOf e ≤ 140737488355328 ∧ xs.length ≤ 140737488355328 then some (.osl nid xs.length, (nid, .arr e sz xs) :: h, nid + 1) else none
        | .osl b n =>
          match hget h b with
          | some (.arr ty sz' es) =>
            if ty = e ∧ sz' = sz ∧ n = es.length ∧ (es.length + xs.length) * P.bytesOf e ≤ 140737488355328 ∧ es.length + xs.length ≤ 140737488355328 then
              some (.osl b (es.length + xs.length), hset h b (.arr ty sz (es ++ xs)), nid)
            else none
          | _ => none
        | _ => none
      else none
    | _, _ => none
  | _, _ => none

theorem okSrc_len {sz : Nat} {xs : List (List D)} (h : okSrc sz xs = true) : ∀ e ∈ xs, e.length = sz := fun e he => by
  have := List.all_eq_true.1 h e he
  simp only [Bool.and_eq_true] at this
  exact Nat.eq_of_beq_eq_true this.1

theorem okSrc_one {sz : Nat} {xs : List (List D)} (h : okSrc sz xs = true) : ∀ e ∈ xs, ∀ d ∈ e, oneD d = true := fun e he d hd => by
  have := List.all_eq_true.1 h e he
  simp only [Bool.and_eq_true] at this
  exact List.all_eq_true.1 this.2.1 d hd

theorem okSrc_pure {sz : Nat} {xs : List (List D)} (h : okSrc sz xs = true) : ∀ e ∈ xs, D.ltL 0 e = true := fun e he => by
  have := List.all_eq_true.1 h e he
  simp only [Bool.and_eq_true] at this
  exact this.2.2

/-- An array of the function's own has been appended to. -/
theorem arr_grown (hg : Good X k) {b : Nat} {ty : TypeId} {sz : Nat} {es xs : List (List D)} (hb : hget k.h b = some (.arr ty sz es)) (hx : ∀ e ∈ xs, e.length = sz)
    {w' : World} {g cap : Nat} {vs : List Value} (hxl : 0 < xs.length)
    (hos : w'.os = k.w.os) (htape : w'.tape = k.w.tape) (hout : w'.output = k.w.output) (hsize : k.w.heap.size ≤ w'.heap.size)
    (hheap : ∀ c, c < k.w.heap.size → k.own b ≠ some c → w'.heap[c]? = k.w.heap[c]?)
    (hgb : k.own b = some g ∨ (k.w.heap.size ≤ g ∧ g < w'.heap.size)) (hrow : w'.heap[g]? = some (.cells vs.toArray ty (0, 0))) (hvl : vs.length = cap * sz) (hcap : es.length + xs.length ≤ cap)
    (hr : ∀ (i : Nat) e (j : Nat) d v, (es ++ xs)[i]? = some e → e[j]? = some d → vs[i * sz + j]? = some v → Rel (k.R X) 0 v d) :
    Good X (k.upd b (.arr ty sz (es ++ xs)) w' (.slice (some ⟨g, 0, none⟩) (es.length + xs.length) cap)) ∧
    Le k (k.upd b (.arr ty sz (es ++ xs)) w' (.slice (some ⟨g, 0, none⟩) (es.length + xs.length) cap)) := by
  refine hg.upd hb hos htape hout hsize hheap (fun c hc => ?_) (fun m' hm' => ?_) (fun hle => ⟨?_, .inr ⟨g, cap, vs, ?_, hrow, hvl, by simpa using hcap, fun i e j d v a b c => (hr i e j d v a b c).le0 hle⟩⟩)
  · rw [own_of_hget (blk := some (.arr ty sz (es ++ xs))) (by simp [Cx.upd, hget_hset])] at hc
    simp [ownOf, Cx.upd, slBlk] at hc
    subst hc; exact hgb
  · simp only [lnOf, List.length_append, Option.some.injEq] at hm'
    exact ⟨es.length, rfl, by omega, fun e => by omega⟩
  · intro e he
    rcases List.mem_append.1 he with h | h
    · exact (hg.ok b _ hb).1 e h
    · exact hx e h
  · simp [Cx.upd]

theorem zeroCells_length (z : Array Value) (n : Nat) : (Builtin.zeroCells z n).toList.length = n * z.size := by simp [Builtin.zeroCells]

theorem run_append_zero (w : World) (t t' ty e : TypeId) (i : TypeInfo) (ht : P.underlying t = some (.slice e)) (hi : P.info? e = some i) (ht' : ∃ e', P.underlying t' = some (.slice e'))
    (base : Option Addr) (n cap : Nat) (hn : n ≤ cap) (x : Value) (hx : x = .slice none 0 0 ∨ ∃ a c, x = .slice (some a) 0 c) :
    (Builtin.append_ #[t, t'] ty #[.slice base n cap, x]).run P w = .ok (.slice base n cap) w := by
  obtain ⟨e', ht'⟩ := ht'
  have hl : (Builtin.lenOf x).run P w = .ok 0 w := by rcases hx with rfl | ⟨a, c, rfl⟩ <;> rfl
  have hf : (Builtin.firstCells i.size 0 x).run P w = .ok #[] w := by
    rcases hx with rfl | ⟨a, c, rfl⟩
    · rfl
    · simp [Builtin.firstCells, loadCells, loadCellsFrom]
  cases base with
  | none => simp [Builtin.append_, run_underlying ht, run_underlying ht', sizeOf, typeInfo, hi, hl, hn, hf]
  | some a => simp [Builtin.append_, run_underlying ht, run_underlying ht', sizeOf, typeInfo, hi, hl, hn, hf, storeCells]

theorem run_appE (hg : Good X k) {t t' ty : TypeId} {s x d : D} {vs vx : Value} {h' : H} {nid' : Nat} (hs : Rel (k.R X) k.nid vs s) (hx : Rel (k.R X) k.nid vx x)
    (h : appE P k.h k.nid t t' s x = some (d, h', nid')) :
    ∃ v k', (Builtin.append_ #[t, t'] ty #[vs, vx]).run P k.w = .ok v k'.w ∧ k'.h = h' ∧ k'.nid = nid' ∧ Good X k' ∧ Le k k' ∧ Rel (k'.R X) k'.nid v d := by
  unfold appE at h
  split at h
  · rename_i e xs hu hsrc
    split at h
    · rename_i sz zs hsz hz
      split at h
      · rename_i hc
        obtain ⟨rfl, hzl, hsz0, hok⟩ := hc
        have hlen := okSrc_len hok
        have hone := okSrc_one hok
        have hpure := okSrc_pure hok
        have hsrc : (vx = .slice none 0 0 ∧ xs = []) ∨ ∃ (a : Addr) (c : Nat) (news : List Value), vx = .slice (some a) xs.length c ∧ news.length = xs.length * sz ∧ (∀ j u, news[j]? = some u → k.w.cell? (a.add j) = some u) ∧
            ∀ (i : Nat) e (j : Nat) d, xs[i]? = some e → e[j]? = some d → ∃ u, news[i * sz + j]? = some u ∧ Rel (k.R X) 0 u d := by
          rcases src_sound hg hx hsrc hsz0 hlen with h | ⟨a, c, news, h1, h2, h3, h4⟩
          · exact .inl h
          · exact .inr ⟨a, c, news, h1, h2, h3, fun i e j d he hd => by
              obtain ⟨u, hu1, hu2⟩ := h4 i e j d he hd
              exact ⟨u, hu1, hu2.roll (D.ltL_get (hpure e (List.mem_of_getElem? he)) j d hd)⟩⟩
        obtain ⟨it, hit⟩ : ∃ it, P.info? e = some it := by
          cases hq : P.info? e with
          | none => simp [sizeT, hq] at hsz
          | some it => exact ⟨it, rfl⟩
        have hits : it.size = sz := by simpa [sizeT, hit] using hsz
        have hby : P.bytesOf e = it.bytes := by simp [Program.bytesOf, hit]
        obtain ⟨z, hzz, hzc⟩ : ∃ z, it.zero = some z ∧ z.cells.size = sz := by
          unfold zeroD at hz
          rw [hit] at hz
          dsimp only at hz
          split at hz
          · rename_i z hq
            cases hz
            exact ⟨z, hq, by simpa using hzl⟩
          · cases hz
        have hone' : ∀ (a : Addr) (c : Nat) (news : List Value), news.length = xs.length * sz →
            (∀ (i : Nat) e (j : Nat) d, xs[i]? = some e → e[j]? = some d → ∃ u, news[i * sz + j]? = some u ∧ Rel (k.R X) 0 u d) → ∀ u ∈ news, u.oneCell' = true := fun a c news hnl hnr u hu => by
          obtain ⟨q, hq⟩ := List.getElem?_of_mem hu
          have hql := lt_of_getElem? hq
          have hi : q / sz < xs.length := Nat.div_lt_of_lt_mul (by rw [Nat.mul_comm]; omega)
          have hj : q % sz < sz := Nat.mod_lt _ hsz0
          have hel := hlen _ (List.getElem_mem hi)
          obtain ⟨u', hu', hr⟩ := hnr (q / sz) _ (q % sz) _ (List.getElem?_eq_getElem hi) (List.getElem?_eq_getElem (by omega))
          have hqq : q / sz * sz + q % sz = q := by have := Nat.div_add_mod q sz; rw [Nat.mul_comm] at this; exact this
          rw [hqq, hq] at hu'
          cases hu'
          exact hr.one (hone _ (List.getElem_mem hi) _ (List.getElem_mem _))
        split at h
        · -- onto nil
          split at h
          · rename_i hbd
            cases h
            cases hs
            have hnil : vx = .slice none 0 0 ∨ (∃ a c, vx = .slice (some a) 0 c) → xs = [] → ∃ v k', (Builtin.append_ #[t, t] ty #[.slice none 0 0, vx]).run P k.w = .ok v k'.w ∧ k'.h = (k.nid, .arr e sz xs) :: k.h ∧ k'.nid = k.nid + 1 ∧ Good X k' ∧ Le k k' ∧ Rel (k'.R X) k'.nid v (.osl k.nid xs.length) := fun hv hxs => by
              subst hxs
              refine ⟨_, k.nilArr e sz, run_append_zero k.w t t ty e it hu hit ⟨e, hu⟩ none 0 0 (Nat.le_refl _) vx hv, rfl, rfl, nilArr_good hg e sz, nilArr_le hg e sz, .osl _ _ _ _ (by simp [Cx.nilArr]) fun m hm => ?_⟩
              simp [Cx.R, Cx.nilArr, hget, lnOf] at hm
              subst hm
              exact ⟨Nat.le_refl _, fun _ => by simp [Cx.R, Cx.nilArr]⟩
            rcases hsrc with ⟨hv, hxs⟩ | ⟨a, c, news, hv, hnl, hnews, hnr⟩
            · exact hnil (.inl hv) hxs
            · by_cases hm0 : xs.length = 0
              · exact hnil (.inr ⟨a, c, by rw [hv, hm0]⟩) (List.eq_nil_of_length_eq_zero hm0)
              · subst hv
                have hap := run_append_nil (P := P) k.w t ty e it z hu hit hzz a xs.length c news (by rw [hits]; exact hnl) hnews (by omega) (by omega) (by rw [← hby]; omega)
                have hcap := grownCap_ge k.w xs.length 0 e
                have hdle : Le k { k with w := k.w.drew } := le_world rfl rfl rfl (Nat.le_refl _) fun _ _ => rfl
                have hdg : Good X { k with w := k.w.drew } := hg.world hdle fun _ _ => rfl
                have hvsl : (news ++ (Builtin.zeroCells z.cells (grownCap k.w xs.length 0 e - xs.length)).toList).length = grownCap k.w xs.length 0 e * sz := by
                  rw [List.length_append, hnl, zeroCells_length, hzc, ← Nat.add_mul]; congr 1; omega
                have hrel : ∀ (i : Nat) x (j : Nat) d v, xs[i]? = some x → x[j]? = some d → (news ++ (Builtin.zeroCells z.cells (grownCap k.w xs.length 0 e - xs.length)).toList)[i * sz + j]? = some v → Rel (k.R X) 0 v d := fun i x j d v h1 h2 h3 => by
                  obtain ⟨u, hu1, hu2⟩ := hnr i x j d h1 h2
                  rw [List.getElem?_append_left (lt_of_getElem? hu1), hu1] at h3
                  cases h3; exact hu2
                refine ⟨.slice (some ⟨k.w.heap.size, 0, none⟩) xs.length (grownCap k.w xs.length 0 e), Cx.newArr { k with w := k.w.drew } (news ++ (Builtin.zeroCells z.cells (grownCap k.w xs.length 0 e - xs.length)).toList) e sz xs (grownCap k.w xs.length 0 e), ?_, rfl, rfl,
                  newArr_good hdg _ _ _ _ _ hlen hvsl hcap (fun i x j d v h1 h2 h3 => (hrel i x j d v h1 h2 h3).le0 hdle), hdle.trans (newArr_le hdg _ _ _ _ _), .osl _ _ _ _ (by simp [Cx.newArr]) fun m hm => ?_⟩
                · rw [hap]
                  have : (news ++ (Builtin.zeroCells z.cells (grownCap k.w xs.length 0 e - xs.length)).toList).toArray = news.toArray ++ Builtin.zeroCells z.cells (grownCap k.w xs.length 0 e - xs.length) := by
                    apply Array.ext'; simp
                  simp only [Cx.newArr, this]
                · simp [Cx.R, Cx.newArr, hget, lnOf] at hm
                  subst hm
                  exact ⟨Nat.le_refl _, fun _ => by simp [Cx.R, Cx.newArr]⟩
          · cases h
        · -- onto an array of the function's own
          rename_i b n
          split at h
          · rename_i ty' sz' es hb
            split at h
            · rename_i hcond
              obtain ⟨rfl, rfl, hn, hbd, hbd2⟩ := hcond
              cases h
              have hblt := hg.key b _ hb
              cases hs with
              | osl _ _ _ _ hb' hv =>
                have hv2 := (hv es.length (by simp [Cx.R, hb, lnOf])).2 hn
                have hsv : (k.R X).sv b = k.sv b := rfl
                rw [hsv] at hv2
                obtain ⟨h0, h1⟩ := hg.ok b _ hb
                have hrelosl : ∀ w' g cap, Rel (Cx.R X (k.upd b (.arr ty' sz' (es ++ xs)) w' (.slice (some ⟨g, 0, none⟩) (es.length + xs.length) cap))) k.nid (.slice (some ⟨g, 0, none⟩) (es.length + xs.length) cap) (.osl b (es.length + xs.length)) := fun w' g cap => by
                  refine .osl _ _ _ _ hb' fun m hm => ?_
                  simp [Cx.R, Cx.upd, hget_hset, lnOf] at hm
                  subst hm
                  exact ⟨Nat.le_refl _, fun _ => by simp [Cx.R, Cx.upd]⟩
                -- nothing is appended
                have hnone : (vx = .slice none 0 0 ∨ ∃ a c, vx = .slice (some a) 0 c) → xs = [] → ∃ v k', (Builtin.append_ #[t, t] ty #[vs, vx]).run P k.w = .ok v k'.w ∧ k'.h = hset k.h b (.arr ty' sz' (es ++ xs)) ∧ k'.nid = k.nid ∧ Good X k' ∧ Le k k' ∧ Rel (k'.R X) k'.nid v (.osl b (es.length + xs.length)) := fun hvx hxs => by
                  subst hxs
                  have hup := hg.upd (blk := .arr ty' sz' (es ++ [])) (w' := k.w) (v' := k.sv b) hb rfl rfl rfl (Nat.le_refl _) (fun _ _ _ => rfl)
                    (fun c hc => .inl (by
                      rw [own_of_hget (blk := some (.arr ty' sz' (es ++ []))) (by simp [Cx.upd, hget_hset])] at hc
                      rw [own_of_hget hb]; simpa [ownOf, Cx.upd] using hc))
                    (fun m hm => ⟨es.length, rfl, by simp [lnOf] at hm; omega, fun _ => rfl⟩)
                    (fun hle => by
                      have hbo := (hg.ok b _ hb).le hle rfl (by simp [Cx.upd]) (fun _ _ => rfl)
                      simpa using hbo)
                  refine ⟨vs, k.upd b (.arr ty' sz' (es ++ [])) k.w (k.sv b), ?_, rfl, rfl, hup.1, hup.2, .osl _ _ _ _ hb' fun m hm => ?_⟩
                  · rcases h1 with ⟨h1, h2⟩ | ⟨bb, cap, vv, a1, a2, a3, a4, a5⟩
                    · rw [hv2, h1]; exact run_append_zero k.w t t ty ty' it hu hit ⟨ty', hu⟩ none 0 0 (Nat.le_refl _) vx hvx
                    · rw [hv2, a1]; exact run_append_zero k.w t t ty ty' it hu hit ⟨ty', hu⟩ _ _ _ a4 vx hvx
                  · simp [Cx.R, Cx.upd, hget_hset, lnOf] at hm
                    subst hm
                    exact ⟨by simp, fun _ => by simp [Cx.R, Cx.upd, hv2]⟩
                rcases hsrc with ⟨hvx, hxs⟩ | ⟨a, c, news, hvx, hnl, hnews, hnr⟩
                · exact hnone (.inl hvx) hxs
                · by_cases hm0 : xs.length = 0
                  · exact hnone (.inr ⟨a, c, by rw [hvx, hm0]⟩) (List.eq_nil_of_length_eq_zero hm0)
                  · subst hvx
                    rcases h1 with ⟨h1, h2⟩ | ⟨bb, cap, vv, a1, a2, a3, a4, a5⟩
                    · -- it was nil
                      subst h2
                      rw [hv2, h1]
                      have hap := run_append_nil (P := P) k.w t ty ty' it z hu hit hzz a xs.length c news (by rw [hits]; exact hnl) hnews (by omega) (by simp at hbd2; omega) (by rw [← hby]; simp at hbd; omega)
                      have hcap := grownCap_ge k.w xs.length 0 ty'
                      have hrow : (k.w.drew.alloc (.cells (news.toArray ++ Builtin.zeroCells z.cells (grownCap k.w xs.length 0 ty' - xs.length)) ty')).heap[k.w.heap.size]? =
                          some (.cells (news ++ (Builtin.zeroCells z.cells (grownCap k.w xs.length 0 ty' - xs.length)).toList).toArray ty' (0, 0)) := by
                        rw [show (k.w.heap.size) = k.w.drew.heap.size from rfl, alloc_heap_new]
                        congr 2; apply Array.ext'; simp
                      have hup := arr_grown (w' := k.w.drew.alloc (.cells (news.toArray ++ Builtin.zeroCells z.cells (grownCap k.w xs.length 0 ty' - xs.length)) ty')) (cap := grownCap k.w xs.length 0 ty') hg hb hlen (by omega) rfl rfl rfl (by rw [alloc_size]; exact Nat.le_succ _)
                        (fun c' hc' _ => alloc_heap k.w.drew _ c' hc') (.inr ⟨Nat.le_refl _, by rw [alloc_size]; exact Nat.lt_succ_self _⟩) hrow
                        (by rw [List.length_append, hnl, zeroCells_length, hzc, ← Nat.add_mul]; congr 1; omega) (by simpa using hcap)
                        (fun i x j d v q1 q2 q3 => by
                          simp at q1
                          obtain ⟨u, hu1, hu2⟩ := hnr i x j d q1 q2
                          rw [List.getElem?_append_left (lt_of_getElem? hu1), hu1] at q3
                          cases q3; exact hu2)
                      refine ⟨_, _, ?_, ?_, ?_, hup.1, hup.2, hrelosl _ _ _⟩ <;> first | rfl | skip
                      rw [hap]; simp [Cx.upd]
                    · by_cases hroom : es.length + xs.length ≤ cap
                      · -- there is room
                        have hap := run_append_room (P := P) k.w t ty ty' it hu hit bb es.length cap vv.toArray a2 a xs.length c news (by rw [hits]; exact hnl) hnews (hone' a c news hnl hnr) hroom
                          (by rw [hits, hnl, ← Nat.add_mul]; simp [a3]; exact Nat.mul_le_mul_right _ hroom)
                        rw [hits] at hap
                        have hvl : es.length * sz' + news.length ≤ vv.length := by rw [hnl, ← Nat.add_mul, a3]; exact Nat.mul_le_mul_right _ hroom
                        have hrow := setRow_heap k.w bb vv.toArray (vv.take (es.length * sz') ++ news ++ vv.drop (es.length * sz' + news.length)).toArray ty' (0, 0) a2
                        have hup := arr_grown (cap := cap) hg hb hlen (by omega) (w' := k.w.setRow bb (vv.take (es.length * sz') ++ news ++ vv.drop (es.length * sz' + news.length)).toArray) (g := bb) rfl rfl rfl
                          (by rw [setRow_size']; exact Nat.le_refl _) (fun c' hc' hne => setRow_other _ _ _ _ fun e' => hne (by rw [own_of_hget hb, e']; simp [ownOf, a1, slBlk]))
                          (.inl (by rw [own_of_hget hb]; simp [ownOf, a1, slBlk])) hrow
                          (by simp only [List.length_append, List.length_take, List.length_drop]; omega) hroom
                          (fun i x j d v q1 q2 q3 => by
                            rcases Nat.lt_or_ge i es.length with hi | hi
                            · rw [List.getElem?_append_left hi] at q1
                              have hxl := h0 x (List.mem_of_getElem? q1)
                              have hj := lt_of_getElem? q2
                              have hlt := mul_add_lt hi (show j < sz' by omega)
                              rw [List.append_assoc, List.getElem?_append_left (by simp; omega), List.getElem?_take, if_pos hlt] at q3
                              exact a5 i x j d v q1 q2 q3
                            · rw [List.getElem?_append_right hi] at q1
                              obtain ⟨u, hu1, hu2⟩ := hnr (i - es.length) x j d q1 q2
                              have hul := lt_of_getElem? hu1
                              have hij : i * sz' + j = es.length * sz' + ((i - es.length) * sz' + j) := by
                                rw [← Nat.add_assoc, ← Nat.add_mul]; congr 2; omega
                              rw [hij, List.getElem?_append_left (by simp; omega), List.getElem?_append_right (by simp; omega)] at q3
                              simp only [List.length_take] at q3
                              rw [show es.length * sz' + ((i - es.length) * sz' + j) - min (es.length * sz') vv.length = (i - es.length) * sz' + j by omega, hu1] at q3
                              cases q3; exact hu2)
                        refine ⟨_, _, ?_, ?_, ?_, hup.1, hup.2, hrelosl _ _ _⟩ <;> first | rfl | skip
                        rw [hv2, a1, hap]; simp [Cx.upd]
                      · -- a new array
                        have hbd' : Builtin.nextslicecap (es.length + xs.length) cap * it.bytes ≤ 281474976710656 := growslice_fits (by omega) (by rw [← hby]; exact hbd)
                        have hol : (vv.take (es.length * sz')).length = es.length * sz' := by
                          rw [List.length_take, a3]; exact Nat.min_eq_left (Nat.mul_le_mul_right _ a4)
                        have hap := run_append_grow (P := P) k.w t ty ty' it z hu hit hzz ⟨bb, 0, none⟩ es.length cap (vv.take (es.length * sz')) (by rw [hits]; exact hol)
                          (fun j v hj => by
                            have hjl := lt_of_getElem? hj
                            rw [hol] at hjl
                            rw [List.getElem?_take, if_pos hjl] at hj
                            rw [add_none, row_cell a2, Nat.zero_add]; exact hj)
                          a xs.length c news (by rw [hits]; exact hnl) hnews (by omega) (by omega) hbd'
                        have hcap := grownCap_ge k.w (es.length + xs.length) cap ty'
                        have hrow : (k.w.drew.alloc (.cells ((vv.take (es.length * sz')).toArray ++ news.toArray ++ Builtin.zeroCells z.cells (grownCap k.w (es.length + xs.length) cap ty' - (es.length + xs.length))) ty')).heap[k.w.heap.size]? =
                            some (.cells (vv.take (es.length * sz') ++ news ++ (Builtin.zeroCells z.cells (grownCap k.w (es.length + xs.length) cap ty' - (es.length + xs.length))).toList).toArray ty' (0, 0)) := by
                          rw [show (k.w.heap.size) = k.w.drew.heap.size from rfl, alloc_heap_new]
                          congr 2; apply Array.ext'; simp
                        have hup := arr_grown (w' := k.w.drew.alloc (.cells ((vv.take (es.length * sz')).toArray ++ news.toArray ++ Builtin.zeroCells z.cells (grownCap k.w (es.length + xs.length) cap ty' - (es.length + xs.length))) ty')) (cap := grownCap k.w (es.length + xs.length) cap ty') hg hb hlen (by omega) rfl rfl rfl (by rw [alloc_size]; exact Nat.le_succ _)
                          (fun c' hc' _ => alloc_heap k.w.drew _ c' hc') (.inr ⟨Nat.le_refl _, by rw [alloc_size]; exact Nat.lt_succ_self _⟩) hrow
                          (by rw [List.length_append, List.length_append, hol, hnl, zeroCells_length, hzc, ← Nat.add_mul, ← Nat.add_mul]; congr 1; omega) hcap
                          (fun i x j d v q1 q2 q3 => by
                            rcases Nat.lt_or_ge i es.length with hi | hi
                            · rw [List.getElem?_append_left hi] at q1
                              have hxl := h0 x (List.mem_of_getElem? q1)
                              have hj := lt_of_getElem? q2
                              have hlt := mul_add_lt hi (show j < sz' by omega)
                              rw [List.append_assoc, List.getElem?_append_left (by rw [hol]; exact hlt), List.getElem?_take, if_pos hlt] at q3
                              exact a5 i x j d v q1 q2 q3
                            · rw [List.getElem?_append_right hi] at q1
                              obtain ⟨u, hu1, hu2⟩ := hnr (i - es.length) x j d q1 q2
                              have hul := lt_of_getElem? hu1
                              have hij : i * sz' + j = es.length * sz' + ((i - es.length) * sz' + j) := by
                                rw [← Nat.add_assoc, ← Nat.add_mul]; congr 2; omega
                              rw [hij, List.getElem?_append_left (by rw [List.length_append, hol]; omega), List.getElem?_append_right (by rw [hol]; omega), hol,
                                show es.length * sz' + ((i - es.length) * sz' + j) - es.length * sz' = (i - es.length) * sz' + j by omega, hu1] at q3
                              cases q3; exact hu2)
                        refine ⟨_, _, ?_, ?_, ?_, hup.1, hup.2, hrelosl _ _ _⟩ <;> first | rfl | skip
                        rw [hv2, a1, hap]; simp [Cx.upd]
            · cases h
          · cases h
        · cases h
      · cases h
    · cases h
  · cases h

end
end Go.Sx
