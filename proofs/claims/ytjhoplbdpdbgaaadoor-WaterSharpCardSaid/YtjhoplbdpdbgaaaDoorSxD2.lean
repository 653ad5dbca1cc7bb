/- Sx, part D2: stores into maps of the function's own. Own work. -/
import Derived.Test.YtjhoplbdpdbgaaaDoorSxD
set_option linter.unusedVariables false
set_option linter.unusedSimpArgs false
namespace Go.Sx

theorem RelL.append {R : Rx} {n : Nat} {vs us : List Value} {ds es : List D} (h : RelL R n vs ds) (h' : RelL R n us es) : RelL R n (vs ++ us) (ds ++ es) := by
  refine ⟨by simp [h.1, h'.1], fun i v d a b => ?_⟩
  rcases Nat.lt_or_ge i vs.length with hi | hi
  · rw [List.getElem?_append_left hi] at a
    rw [List.getElem?_append_left (by rw [← h.1]; exact hi)] at b
    exact h.2 i v d a b
  · rw [List.getElem?_append_right hi] at a
    rw [List.getElem?_append_right (by rw [← h.1]; exact hi), ← h.1] at b
    exact h'.2 _ v d a b

theorem perm_pull {α : Type} : ∀ {l : List α} {j : Nat} {x : α}, l[j]? = some x → List.Perm l (x :: l.eraseIdx j)
  | [], j, x, h => by simp at h
  | a :: r, 0, x, h => by simp at h; subst h; exact .refl _
  | a :: r, j + 1, x, h => by
    simp at h
    rw [List.eraseIdx_cons_succ]
    exact ((perm_pull h).cons a).trans (List.Perm.swap _ _ _)

theorem perm_set {α : Type} : ∀ {l : List α} {j : Nat} {x y : α}, l[j]? = some x → List.Perm (l.set j y) (y :: l.eraseIdx j)
  | [], j, x, y, h => by simp at h
  | a :: r, 0, x, y, h => by simp
  | a :: r, j + 1, x, y, h => by
    simp at h
    rw [List.eraseIdx_cons_succ, List.set_cons_succ]
    exact ((perm_set h).cons a).trans (List.Perm.swap _ _ _)

def mapUpdD (P : Program) (h : H) (nid : Nat) (t : TypeId) (m k v : D) : Option (D × H × Nat) :=
  match P.underlying t, m with
  | some (.map kt _), .mp b =>
    match hget h b with
    | some (.map kvs) =>
      if keyFit P kt k && kvs.all (fun p => keyFit P kt p.1) then
        match findK k kvs 0 with
        | some (j, _) => some (.any, hset h b (.map (kvs.set j (k, v))), nid)
        | none => some (.any, hset h b (.map (kvs ++ [(k, v)])), nid)
      else none
    | _ => none
  | _, _ => none

theorem keysOk_snoc : ∀ {ks : List D} {k : D}, keysOk ks = true → keyOne k = true → (∀ k' ∈ ks, keyNe k' k = true) → keysOk (ks ++ [k]) = true
  | [], k, _, h2, _ => by simp [keysOk, h2]
  | x :: r, k, h1, h2, h3 => by
    simp only [keysOk, Bool.and_eq_true] at h1
    simp only [List.cons_append, keysOk, Bool.and_eq_true, List.all_append]
    exact ⟨⟨h1.1.1, h1.1.2, by simp [h3 x (by simp)]⟩, keysOk_snoc h1.2 h2 fun k' hk' => h3 k' (by simp [hk'])⟩

theorem keyNe_of {P : Program} {kt : TypeId} {a b : D} (ha : keyFit P kt a = true) (hb : keyFit P kt b = true) (h : kV a ≠ kV b) : keyNe a b = true := by
  unfold keyFit at ha hb
  split at ha <;> (try cases ha) <;> rename_i hu <;> rw [hu] at hb <;> cases b <;> simp_all [keyNe, kV, bytes_toList]

theorem keyFit_one {P : Program} {kt : TypeId} {a : D} (ha : keyFit P kt a = true) : keyOne a = true := by
  unfold keyFit at ha
  split at ha <;> first | rfl | cases ha

theorem kV_rel {R : Rx} {n : Nat} : ∀ {a : D}, keyOne a = true → Rel R n (kV a) a
  | .int _ _, _ => .int _ _ _
  | .str _, _ => .str _ _
  | .bool _, _ => .bool _ _

theorem sameBits_kV {P : Program} {kt : TypeId} {a : D} (ha : keyFit P kt a = true) (n : Nat) : Instr.sameBits (n + 1) (kV a) (kV a) = true := by
  unfold keyFit at ha
  split at ha <;> first | cases ha | skip
  · simp [kV, Instr.sameBits]
  · rename_i s _
    simp only [kV, Instr.sameBits]
    exact (MapKept.bytes_beq s s).2 rfl
  · simp [kV, Instr.sameBits]

theorem RelL.set {R : Rx} {n : Nat} {vs : List Value} {ds : List D} (h : RelL R n vs ds) {j : Nat} {v : Value} {d : D} (hr : Rel R n v d) : RelL R n (vs.set j v) (ds.set j d) :=
  ⟨by simp [h.1], fun i v' d' a b => by
    rw [List.getElem?_set] at a b
    by_cases hij : j = i
    · subst hij
      simp only [if_true] at a b
      split at a
      · split at b
        · cases a; cases b; exact hr
        · cases b
      · cases a
    · rw [if_neg hij] at a b; exact h.2 i v' d' a b⟩

theorem RelL.snoc {R : Rx} {n : Nat} {vs : List Value} {ds : List D} (h : RelL R n vs ds) {v : Value} {d : D} (hr : Rel R n v d) : RelL R n (vs ++ [v]) (ds ++ [d]) :=
  RelL.append h ⟨rfl, fun i v' d' a b => by
    match i with
    | 0 => simp at a b; subst a; subst b; exact hr
    | _ + 1 => simp at a⟩

theorem run_mapUpdD {P : Program} {X : Nat → Prop} {k : Cx} (hg : Good X k) {t : TypeId} {m y z d : D} {vm vk vv : Value} {h' : H} {nid' : Nat} (hm : Rel (k.R X) k.nid vm m) (hy : Rel (k.R X) k.nid vk y) (hz : Rel (k.R X) k.nid vv z)
    (h : mapUpdD P k.h k.nid t m y z = some (d, h', nid')) :
    ∃ k', (Instr.mapUpdate t vm vk vv).run P k.w = .ok () k'.w ∧ d = .any ∧ k'.h = h' ∧ k'.nid = nid' ∧ Good X k' ∧ Le k k' := by
  unfold mapUpdD at h
  split at h
  · rename_i kt et b hu
    split at h
    · rename_i kvs hb
      split at h
      · rename_i hc
        simp only [Bool.and_eq_true] at hc
        cases hm with
        | mp _ _ hlt =>
          obtain ⟨es, clock, es', h1, hp, hok, h2, h3⟩ := hg.ok b _ hb
          obtain ⟨dk, hdk, hkey⟩ := key_desc hc.1
          have hkv := keyVal hy hc.1
          have hck : ∀ m, (Instr.checkKey m 10000 kt vk).run P k.w = .ok () k.w := fun m => MapKept.run_checkKey hdk (by rw [hkv]; exact hkey) m 9999
          have hgo := MapKept.run_getObj_map (P := P) (w := k.w) h1
          have hown : k.own b = some (k.β b) := by rw [own_of_hget hb]; rfl
          have hsize : k.β b < k.w.heap.size := (hg.lt b _ hown).1
          have hget : ∀ o, (k.w.heap.setIfInBounds (k.β b) o)[k.β b]? = some o := fun o => by simp [hsize]
          have hupd : ∀ (kvs' : List (D × D)) (o : Obj), (∀ k' : Cx, Le k k' → k'.β b = k.β b → k'.nid = k.nid → k'.w.heap[k.β b]? = some o → BlkOk X k' b (.map kvs')) →
              Good X (k.upd b (.map kvs') { k.w with heap := k.w.heap.setIfInBounds (k.β b) o } (k.sv b)) ∧ Le k (k.upd b (.map kvs') { k.w with heap := k.w.heap.setIfInBounds (k.β b) o } (k.sv b)) := fun kvs' o hok' =>
            hg.upd hb rfl rfl rfl (by simp) (fun c hcs hne => by
              have : k.β b ≠ c := fun e => hne (by rw [hown, e])
              simp [this]) (fun c hcs => .inl (by
              rw [own_of_hget (blk := some (.map kvs')) (by simp [Cx.upd, hget_hset])] at hcs
              rw [hown]; simpa [ownOf, Cx.upd] using hcs)) (fun m' hm' => by simp [lnOf] at hm') (fun hle => hok' _ hle rfl rfl (hget o))
          rcases find_sound hy hc.1 hc.2 hp hok h2 k.w with ⟨f1, f2, f3⟩ | ⟨i, j, e, p, f1, f2, f3, f4, f5, f6, f7⟩
          · rw [f1] at h
            simp only [Option.some.injEq, Prod.mk.injEq] at h
            obtain ⟨rfl, rfl, rfl⟩ := h
            have hu2 := hupd (kvs ++ [(y, z)]) (.map ((List.toArray es).push { key := vk, val := vv, born := clock }) (clock + 1)) (fun k' hle hβ hnid hob => by
              refine ⟨es ++ [{ key := vk, val := vv, born := clock }], clock + 1, es' ++ [{ key := vk, val := vv, born := clock }], by rw [hβ, hob]; simp, hp.append_right _, ?_, ?_, ?_⟩
              · rw [List.map_append]
                refine keysOk_snoc hok (keyFit_one hc.1) fun k2 hk2 => ?_
                obtain ⟨q, hq, rfl⟩ := List.mem_map.1 hk2
                refine keyNe_of (List.all_eq_true.1 hc.2 q hq) hc.1 fun e => ?_
                obtain ⟨i, hi⟩ := List.getElem?_of_mem hq
                have hl : es'.length = kvs.length := by simpa using h2.1
                have hi2 : i < es'.length := by rw [hl]; exact lt_of_getElem? hi
                have hr := h2.2 i es'[i].key q.1 (by simp [List.getElem?_eq_getElem hi2]) (by simp [hi])
                have := keyVal hr (List.all_eq_true.1 hc.2 q hq)
                exact f3 es'[i] (hp.mem_iff.1 (List.getElem_mem hi2)) (by rw [this, e, hkv])
              · rw [List.map_append, List.map_append]
                refine (h2.le0 hle).snoc ?_
                show Rel _ 0 vk y
                rw [hkv]
                exact kV_rel (keyFit_one hc.1)
              · rw [List.map_append, List.map_append]
                exact (h3.le hle).snoc (hz.le hle))
            refine ⟨k.upd b (.map (kvs ++ [(y, z)])) { k.w with heap := k.w.heap.setIfInBounds (k.β b) (.map ((List.toArray es).push { key := vk, val := vv, born := clock }) (clock + 1)) } (k.sv b), ?_, rfl, rfl, rfl, hu2.1, hu2.2⟩
            simp [Instr.mapUpdate, run_underlying hu, Cx.R, hgo, hck, f2, Result.andThen, MapKept.run_setObj_map _ h1, Cx.upd]
          · rw [f1] at h
            simp only [Option.some.injEq, Prod.mk.injEq] at h
            obtain ⟨rfl, rfl, rfl⟩ := h
            have hthat : (Instr.keyThatStays e.key vk).run P k.w = .ok vk k.w := by
              have : Instr.sameBits 10000 e.key vk = true := by rw [f6, hkv]; exact sameBits_kV hc.1 9999
              simp [Instr.keyThatStays, this]
            have hu2 := hupd (kvs.set j (y, z)) (.map ((List.toArray es).modify i fun e => { e with key := vk, val := vv }) clock) (fun k' hle hβ hnid hob => by
              refine ⟨((List.toArray es).modify i fun e => { e with key := vk, val := vv }).toList, clock, es'.set j { e with key := vk, val := vv }, by rw [hβ, hob], ?_, ?_, ?_, ?_⟩
              · have hm : ((List.toArray es).modify i fun e => { e with key := vk, val := vv }).toList = es.set i { e with key := vk, val := vv } := by
                  apply List.ext_getElem?
                  intro q
                  rw [Array.getElem?_toList, Array.getElem?_modify, List.getElem?_set]
                  by_cases hq : i = q
                  · subst hq
                    rw [if_pos rfl, if_pos rfl, if_pos (lt_of_getElem? f4), List.getElem?_toArray, f4]; rfl
                  · simp [hq]
                rw [hm]
                have p1 : List.Perm es' (e :: es'.eraseIdx j) := perm_pull f5
                have p2 : List.Perm es (e :: es.eraseIdx i) := perm_pull f4
                have p3 : List.Perm (es'.eraseIdx j) (es.eraseIdx i) := (List.perm_cons e).1 ((p1.symm.trans hp).trans p2)
                have q1 : List.Perm (es'.set j { e with key := vk, val := vv }) ({ e with key := vk, val := vv } :: es'.eraseIdx j) := perm_set f5
                have q2 : List.Perm (es.set i { e with key := vk, val := vv }) ({ e with key := vk, val := vv } :: es.eraseIdx i) := perm_set f4
                exact (q1.trans (p3.cons _)).trans q2.symm
              · have : (kvs.set j (y, z)).map (·.1) = kvs.map (·.1) := by
                  rw [List.map_set]
                  apply List.ext_getElem?
                  intro q
                  rw [List.getElem?_set]
                  by_cases hq : j = q
                  · subst hq
                    rw [if_pos rfl, if_pos (by simpa using lt_of_getElem? f2), List.getElem?_map, f2]; simp [f7]
                  · simp [hq]
                rw [this]; exact hok
              · rw [List.map_set, List.map_set]
                refine (h2.le0 hle).set ?_
                show Rel _ 0 vk y
                rw [hkv]
                exact kV_rel (keyFit_one hc.1)
              · rw [List.map_set, List.map_set]
                exact (h3.le hle).set (hz.le hle))
            refine ⟨k.upd b (.map (kvs.set j (y, z))) { k.w with heap := k.w.heap.setIfInBounds (k.β b) (.map ((List.toArray es).modify i fun e => { e with key := vk, val := vv }) clock) } (k.sv b), ?_, rfl, rfl, rfl, hu2.1, hu2.2⟩
            simp [Instr.mapUpdate, run_underlying hu, Cx.R, hgo, hck, f3, f4, hthat, Result.andThen, MapKept.run_setObj_map _ h1, Cx.upd]
      · cases h
    · cases h
  · cases h


end Go.Sx
