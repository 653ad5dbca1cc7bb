/- Own work: contracts of functions, used in the proof of a law. -/
import Derived.Test.YtljkgnicmlhipaaSxW79w
set_option linter.unusedVariables false
set_option linter.unusedSimpArgs false
namespace Go.Sx
open Go.Proofs
set_option maxRecDepth 10000

theorem rlL_ok (l : List RelayW) : okSrc 3 (l.map enRl.d) = true := by
 unfold okSrc
 rw [List.all_eq_true]
 intro e he
 obtain ⟨r, _, rfl⟩ := List.mem_map.1 he
 rfl
theorem rl_nils (l : List RelayW) (h : H) (nid : Nat) (hc : l.length ≤ 1000) : appE Try.prog h nid 25 25 .nils (rlD l) = some (.osl nid l.length, (nid, .arr 74 3 (l.map enRl.d)) :: h, nid + 1) := by
 rw [app_nils Fz.und_25 Fz.size_74 Fz.zero_74 rfl (by omega) Fz.bytes_74_25 h nid (x := rlD l) (xs := l.map enRl.d) rfl (rlL_ok l) (by rw [List.length_map]; omega) (by rw [List.length_map]; omega), List.length_map]
theorem orl_ix {h : H} {b n : Nat} {es : List (List D)} (hb : hget h b = some (.arr 74 3 es)) (hn : es.length = n) {i : Nat} (hi : i < n) : indexAddrD Try.prog h 25 (.osl b n) (.int .i64 (i : Int)) = some (.eptr b n 3 i 0) :=
 own_ix Fz.und_25 Fz.size_74 hb hn hi .i64
theorem orl_len {h : H} {b n : Nat} {es : List (List D)} (hb : hget h b = some (.arr 74 3 es)) (hn : es.length = n) : lenOpD Try.prog h 25 (.osl b n) = some (.int .i64 n) := own_len Fz.und_25 hb hn
theorem orl_store1 {h : H} {b n : Nat} {es : List (List D)} (hb : hget h b = some (.arr 74 3 es)) (hn : es.length = n) {i : Nat} {c r : Int} {s : D} (hi : es[i]? = some [.int .i64 c, .int .i64 r, s]) (nid : Nat) (y : Int) :
  storeD Try.prog h nid 3 (.eptr b n 3 i 1) (.int .i64 y) = some (.any, hset h b (.arr 74 3 (es.set i [.int .i64 c, .int .i64 y, s])), nid) := by
 rw [own_store (ds := [.int .i64 y]) hb hn hi 1 nid Fz.size_3 rfl rfl (by omega) rfl rfl]
 rfl
theorem orl_store2 {h : H} {b n : Nat} {es : List (List D)} (hb : hget h b = some (.arr 74 3 es)) (hn : es.length = n) {i : Nat} {c r : Int} {s : D} (hi : es[i]? = some [.int .i64 c, .int .i64 r, s]) (nid : Nat) :
  storeD Try.prog h nid 72 (.eptr b n 3 i 2) .nils = some (.any, hset h b (.arr 74 3 (es.set i [.int .i64 c, .int .i64 r, .nils])), nid) := by
 rw [own_store (ds := [.nils]) hb hn hi 2 nid Fz.size_72 rfl rfl (by omega) rfl rfl]
 rfl
def nlR (r : RelayW) : List D := [.int .i64 r.c, .int .i64 r.r, .nils]
def deafL (l : List RelayW) : List RelayW := l.map fun r => { r with l := [] }
def dfL (l : List RelayW) (i : Nat) : List (List D) := (l.take i).map nlR ++ (l.drop i).map enRl.d
theorem dfL_len (l : List RelayW) (i : Nat) : (dfL l i).length = l.length := by simp [dfL]; omega
theorem dfL_get {l : List RelayW} {i : Nat} {r : RelayW} (h : l[i]? = some r) : (dfL l i)[i]? = some [.int .i64 r.c, .int .i64 r.r, spD r.l] ∧ (dfL l i).set i (nlR r) = dfL l (i + 1) := by
 have hlt := lt_of_getElem? h
 have hl : ((l.take i).map nlR).length = i := by simp; omega
 have hd : l.drop i = r :: l.drop (i + 1) := by
  rw [List.drop_eq_getElem_cons hlt]
  congr 1
  rw [List.getElem?_eq_getElem hlt] at h
  exact Option.some.inj h
 constructor
 ·unfold dfL
  rw [List.getElem?_append_right (by omega), hl, Nat.sub_self, hd]
  rfl
 ·unfold dfL
  rw [List.set_append_right _ _ (by omega), hl, Nat.sub_self, hd, List.take_add_one, h]
  simp
theorem rel_rows {R : Rx} {n : Nat} {v : Value} {l : List RelayW} (h : Rel R n v (.sl (l.map nlR))) : Rel R n v (.sl ((deafL l).map enRl.d)) := by
 generalize he : l.map nlR = es at h
 cases h with
 | sln =>
  have : l = [] := List.map_eq_nil_iff.1 he
  subst this; exact .sln _
 | sle =>
  have : l = [] := List.map_eq_nil_iff.1 he
  subst this; exact .sle _ _ _
 | sl n b off cap es sz vs h1 h2 h3 h4 h5 h6 =>
  subst he
  have hlen : ((deafL l).map enRl.d).length = (l.map nlR).length := by simp [deafL]
  rw [← hlen]
  have hrow : ∀ (i : Nat) e', ((deafL l).map enRl.d)[i]? = some e' → ∃ r, l[i]? = some r ∧ (l.map nlR)[i]? = some (nlR r) ∧ e' = [.int .i64 r.c, .int .i64 r.r, .sl []] := fun i e' hi => by
   simp only [deafL, List.map_map, List.getElem?_map, Option.map_eq_some_iff] at hi ⊢
   obtain ⟨r, hr, rfl⟩ := hi
   exact ⟨r, hr, ⟨r, hr, rfl⟩, rfl⟩
  have hsz : ∀ r ∈ l, 3 = sz := fun r hr => by rw [← h3 (nlR r) (List.mem_map.2 ⟨r, hr, rfl⟩)]; rfl
  refine .sl _ b off cap _ sz vs ?_ (by omega) ?_ ?_ ?_ ?_
  ·rcases h1 with h1 | h1
   ·left
    have : l = [] := List.map_eq_nil_iff.1 h1
    subst this; rfl
   ·exact .inr h1
  ·intro e he
   obtain ⟨r, hr, rfl⟩ := List.mem_map.1 he
   obtain ⟨r', hr', rfl⟩ := List.mem_map.1 hr
   exact hsz r' hr'
  ·intro i e j d hi hj
   obtain ⟨r, g1, g2, rfl⟩ := hrow i e hi
   have hj3 : j < 3 := by have := lt_of_getElem? hj; simpa using this
   obtain ⟨d', hd'⟩ : ∃ d', (nlR r)[j]? = some d' := ⟨(nlR r)[j]'(by simpa [nlR] using hj3), by simp⟩
   exact h4 i _ j d' g2 hd'
  ·intro i e j d hi hj
   obtain ⟨r, g1, g2, rfl⟩ := hrow i e hi
   have hj3 : j < 3 := by have := lt_of_getElem? hj; simpa using this
   rcases (by omega : j = 0 ∨ j = 1 ∨ j = 2) with rfl | rfl | rfl
   ·exact h5 i _ 0 d g2 (by simpa [nlR] using hj)
   ·exact h5 i _ 1 d g2 (by simpa [nlR] using hj)
   ·have := h5 i _ 2 .nils g2 rfl
    have hd : d = .sl [] := by simpa using hj.symm
    subst hd
    generalize vs i 2 = v at this
    cases this
    exact .sln _
  ·intro e he
   obtain ⟨r, hr, rfl⟩ := List.mem_map.1 he
   obtain ⟨r', hr', rfl⟩ := List.mem_map.1 hr
   rfl
theorem Where_deaf {sw sd : Int} {sh : List Bool} {rl : List RelayW} {lk : List LinkW} {cell mi ev en : Int} {af : List Int} (hw : WatchL ⟨⟨sw, sd, sh⟩, ⟨deafL rl, lk⟩, cell, mi, ev, en, af⟩) (now : Int) :
  Pure Try.prog 25 [.agg [.int .i64 sw, .int .i64 sd, shD sh, .sl (rl.map nlR), lkD lk, .int .i64 cell, .int .i64 mi, .int .i64 ev, .int .i64 en, inD af], .nils, .int .i64 now] (WhereR ⟨⟨sw, sd, sh⟩, ⟨deafL rl, lk⟩, cell, mi, ev, en, af⟩ [] now) := by
 have h := Where_nil hw now
 simp only [WatchW.c, SkyW.c, NetW.c, List.cons_append, List.nil_append] at h
 refine acall_rel (fun R n vs hr => ?_) h
 refine ⟨hr.1, fun i v d hv hd => ?_⟩
 match i with
 | 0 =>
  have h0 := hr.2 0 v _ hv rfl
  simp only [List.getElem?_cons_zero, Option.some.injEq] at hd
  subst hd
  cases h0 with
  | agg n vs ds h1 h2 =>
   refine .agg _ vs _ (by simpa using h1) fun j v' d' hv' hd' => ?_
   match j with
   | 0 => exact h2 0 v' d' hv' (by simpa using hd')
   | 1 => exact h2 1 v' d' hv' (by simpa using hd')
   | 2 => exact h2 2 v' d' hv' (by simpa using hd')
   | 3 =>
    have := h2 3 v' _ hv' rfl
    have hd' : d' = .sl ((deafL rl).map enRl.d) := by simpa using hd'.symm
    rw [hd']
    exact rel_rows this
   | 4 => exact h2 4 v' d' hv' (by simpa using hd')
   | 5 => exact h2 5 v' d' hv' (by simpa using hd')
   | 6 => exact h2 6 v' d' hv' (by simpa using hd')
   | 7 => exact h2 7 v' d' hv' (by simpa using hd')
   | 8 => exact h2 8 v' d' hv' (by simpa using hd')
   | 9 => exact h2 9 v' d' hv' (by simpa using hd')
   | j + 10 => simp at hd'
 | 1 => exact hr.2 1 v d hv (by simpa using hd)
 | 2 => exact hr.2 2 v d hv (by simpa using hd)
 | j + 3 => simp at hd
end Go.Sx
