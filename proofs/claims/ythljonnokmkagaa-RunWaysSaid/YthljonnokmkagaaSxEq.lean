/- Own work: a calculus of contracts for the programs of this kit: parts SxE89r, SxE90r. -/
import Derived.Test.YthljonnokmkagaaSxEp
import Derived.Test.YthljonnokmkagaaSxMh
set_option linter.unusedVariables false
set_option linter.unusedSimpArgs false
namespace Go.Sx
open Go.Proofs
set_option maxRecDepth 10000

/-! The search in layers -/
theorem nodup_le : ∀ (N : Nat) (l : List Int), l.Nodup → (∀ x ∈ l, 0 ≤ x ∧ x < (N : Int)) → l.length ≤ N
  | 0, l, _, h => by
    cases l with
    | nil => simp
    | cons x l => have := h x (by simp); omega
  | N + 1, l, hn, h => by
    by_cases hm : (N : Int) ∈ l
    · have h1 := nodup_le N (l.erase (N : Int)) (hn.erase _) fun x hx => by
        have h2 := (hn.mem_erase_iff).1 hx
        have := h x h2.2
        have h3 := h2.1
        omega
      have h2 := List.length_erase_of_mem hm
      have h3 := List.length_pos_of_mem hm
      omega
    · have := nodup_le N l hn fun x hx => by
        have h1 := h x hx
        have h2 : x ≠ (N : Int) := fun e => hm (e ▸ hx)
        omega
      omega
section
variable (N : Nat) (al : Int → Bool) (L : Int → List Stp) (frm : Int)
/-- All best ways of so many cells. -/
structure BfsInv (d : Nat) (now : List (List Int)) (seen : List Int) : Prop where
  a1 : ∀ p ∈ now, ∃ k m, Oq al L frm p m k ∧ p.length = d + 1
  a2 : ∀ k p m, Oq al L frm p m k → p.length = d + 1 → p ∈ now
  a3 : now.Pairwise fun p q => lexB p q = true
  b : ∀ k, k ∈ seen ↔ ∃ p m, Oq al L frm p m k ∧ p.length ≤ d + 1
  nd : seen.Nodup
def donL (i n i' : Nat) (k : Int) : Prop := i' < i ∨ (i' = i ∧ k < (n : Int))
structure LayInv (d : Nat) (now : List (List Int)) (seen0 : List Int) (i n : Nat) (next : List (List Int)) (seen : List Int) : Prop where
  a1 : ∀ q ∈ next, ∃ k m, Oq al L frm q m k ∧ q.length = d + 2
  a3 : next.Pairwise fun p q => lexB p q = true
  a4 : ∀ q ∈ next, ∃ i' p k, q = p ++ [k] ∧ now[i']? = some p ∧ donL i n i' k
  b : ∀ k, k ∈ seen ↔ (k ∈ seen0 ∨ ∃ q m, q ∈ next ∧ Oq al L frm q m k)
  c : ∀ (i' : Nat) p m j k, now[i']? = some p → Oq al L frm p m j → donL i n i' k → (0 ≤ k ∧ k < (N : Int)) → (∃ s ∈ L j, s.cell = k) → al k = true → k ∈ seen
  nd : seen.Nodup
  len : seen.length = seen0.length + next.length
end
section
variable {N : Nat} {al : Int → Bool} {L : Int → List Stp} (hn : Net N L) {frm : Int} (hf : 0 ≤ frm ∧ frm < (N : Int)) (hten : ∀ p m k, Wk al L frm p m k → m = 10 * ((p.length : Int) - 1))
theorem Oq.last {p : List Int} {m k m' k' : Int} (h : Oq al L frm p m k) (h' : Oq al L frm p m' k') : m = m' ∧ k = k' := by
  have hk : k = k' := by
    obtain ⟨r, rfl, h1, h2⟩ := h.1
    obtain ⟨r', e, g1, g2⟩ := h'.1
    rw [h2] at g2
    exact Option.some.inj g2
  subst hk
  exact ⟨(h.uniq h').1, rfl⟩
theorem bfs_start (ha : al frm = true) (hten : ∀ p m k, Wk al L frm p m k → m = 10 * ((p.length : Int) - 1)) (hone : ∀ p m, Wk al L frm p m frm → lessL m p 0 [frm] = false) : BfsInv al L frm 0 [[frm]] [frm] := by
  have ho : Oq al L frm [frm] 0 frm := ⟨Wk.one ha, fun q m' hq => hone q m' hq⟩
  have hsingle : ∀ k p m, Oq al L frm p m k → p.length ≤ 1 → p = [frm] ∧ k = frm := fun k p m h hl => by
    rcases h.1.unsnoc with ⟨h1, h2, _⟩ | ⟨p', m', j, s, rfl, h2, _⟩
    · exact ⟨h1, h2⟩
    · have := List.length_pos_iff.2 h2.ne
      rw [List.length_append, List.length_singleton] at hl; omega
  refine ⟨fun p hp => ?_, fun k p m h hl => ?_, by simp, fun k => ⟨fun hk => ?_, fun ⟨p, m, h, hl⟩ => ?_⟩, by simp⟩
  · simp only [List.mem_singleton] at hp
    subst hp
    exact ⟨frm, 0, ho, rfl⟩
  · rw [(hsingle k p m h (by omega)).1]; simp
  · simp only [List.mem_singleton] at hk
    subst hk
    exact ⟨_, _, ho, by simp⟩
  · rw [(hsingle k p m h hl).2]; simp
include hn hf
theorem BfsInv.range {d : Nat} {now : List (List Int)} {seen : List Int} (h : BfsInv al L frm d now seen) : seen.length ≤ N :=
  nodup_le N seen h.nd fun k hk => by
    obtain ⟨p, m, h1, _⟩ := (h.b k).1 hk
    exact h1.1.range hn hf
theorem BfsInv.depth {d : Nat} {now : List (List Int)} {seen : List Int} (h : BfsInv al L frm d now seen) (hne : now ≠ []) : d ≤ 202 := by
  obtain ⟨p, hp⟩ := List.exists_mem_of_ne_nil now hne
  obtain ⟨k, m, h1, h2⟩ := h.a1 p hp
  obtain ⟨q, m', g1, g2⟩ := oq_of hn hf h1.1
  rw [(h1.uniq g1).2] at h2
  omega
theorem LayInv.range {d : Nat} {now : List (List Int)} {seen0 seen : List Int} {i n : Nat} {next : List (List Int)} (h0 : BfsInv al L frm d now seen0) (h : LayInv N al L frm d now seen0 i n next seen) : seen.length ≤ N :=
  nodup_le N seen h.nd fun k hk => by
    rcases (h.b k).1 hk with h1 | ⟨q, m, _, h1⟩
    · obtain ⟨p, m, h2, _⟩ := (h0.b k).1 h1
      exact h2.1.range hn hf
    · exact h1.1.range hn hf
omit hn hf in
theorem donL_mono {i n i' : Nat} {k : Int} (h : donL i n i' k) : donL i (n + 1) i' k := by
  rcases h with h | ⟨h, h'⟩
  · exact .inl h
  · exact .inr ⟨h, by omega⟩
omit hn hf in
theorem lay_start {d : Nat} {now : List (List Int)} {seen0 : List Int} (h : BfsInv al L frm d now seen0) : LayInv N al L frm d now seen0 0 0 [] seen0 :=
  ⟨fun q hq => (by cases hq), List.Pairwise.nil, fun q hq => (by cases hq), fun k => by simp, fun i' p m j k _ _ hd hk => by
    rcases hd with h | ⟨_, h⟩ <;> omega, h.nd, by simp⟩
omit hn hf in
theorem lay_row {d : Nat} {now : List (List Int)} {seen0 seen : List Int} {i : Nat} {next : List (List Int)} (h : LayInv N al L frm d now seen0 i N next seen) : LayInv N al L frm d now seen0 (i + 1) 0 next seen :=
  ⟨h.a1, h.a3, fun q hq => by
    obtain ⟨i', p, k, h1, h2, h3⟩ := h.a4 q hq
    exact ⟨i', p, k, h1, h2, (by rcases h3 with h | ⟨h, _⟩ <;> exact .inl (by omega))⟩, h.b, fun i' p m j k hp ho hd hk => h.c i' p m j k hp ho (by
      rcases hd with h | ⟨_, h⟩
      · rcases Nat.lt_or_ge i' i with h1 | h1
        · exact .inl h1
        · exact .inr ⟨by omega, hk.2⟩
      · omega) hk, h.nd, h.len⟩
omit hn hf in
theorem donL_succ {i n i' : Nat} {k : Int} (h : donL i (n + 1) i' k) (h0 : 0 ≤ k) : donL i n i' k ∨ (i' = i ∧ k = (n : Int)) := by
  rcases h with h | ⟨h1, h2⟩
  · exact .inl (.inl h)
  · rcases (show k < (n : Int) ∨ (n : Int) ≤ k by omega) with h3 | h3
    · exact .inl (.inr ⟨h1, h3⟩)
    · exact .inr ⟨h1, by omega⟩
omit hn hf in
theorem lay_skip {d : Nat} {now : List (List Int)} {seen0 seen : List Int} {i n : Nat} {next : List (List Int)} (h : LayInv N al L frm d now seen0 i n next seen) {p : List Int} (hp : now[i]? = some p) {m j : Int} (ho : Oq al L frm p m j)
    (hs : (∃ s ∈ L j, s.cell = (n : Int)) → al n = true → (n : Int) ∈ seen) : LayInv N al L frm d now seen0 i (n + 1) next seen :=
  ⟨h.a1, h.a3, fun q hq => by
    obtain ⟨i', p, k, h1, h2, h3⟩ := h.a4 q hq
    exact ⟨i', p, k, h1, h2, donL_mono h3⟩, h.b, fun i' p' m' j' k hp' ho' hd hk he ha => by
      rcases donL_succ hd hk.1 with hd | ⟨rfl, rfl⟩
      · exact h.c i' p' m' j' k hp' ho' hd hk he ha
      · rw [hp] at hp'; cases hp'
        obtain ⟨_, rfl⟩ := ho.last ho'
        exact hs he ha, h.nd, h.len⟩
include hten
theorem lay_new {d : Nat} {now : List (List Int)} {seen0 seen : List Int} {i n : Nat} {next : List (List Int)} (h0 : BfsInv al L frm d now seen0) (h : LayInv N al L frm d now seen0 i n next seen) {p : List Int} (hp : now[i]? = some p) {m j : Int} (ho : Oq al L frm p m j)
    {s : Stp} (hs : s ∈ L j) (hsn : s.cell = (n : Int)) (ha : al n = true) (hns : (n : Int) ∉ seen) : ∃ m', Oq al L frm (p ++ [(n : Int)]) m' n ∧ (p ++ [(n : Int)]).length = d + 2 := by
  have hpl : p.length = d + 1 := by
    obtain ⟨k, m2, _, h2⟩ := h0.a1 p (List.mem_of_getElem? hp)
    exact h2
  have hw := ho.1.snoc hs (by rw [hsn]; exact ha)
  rw [hsn] at hw
  obtain ⟨q, mq, hq, _⟩ := oq_of hn hf hw
  have hnr := hw.range hn hf
  have hge : d + 2 ≤ q.length := by
    refine Nat.not_lt.1 fun hlt => hns ((h.b n).2 (.inl ((h0.b n).2 ⟨q, mq, hq, by omega⟩)))
  have t1 := hten _ _ _ hw
  have t2 := hten _ _ _ hq.1
  have hmin := hq.2 _ _ hw
  have hle : q.length ≤ d + 2 := by
    refine Nat.not_lt.1 fun hlt => ?_
    unfold lessL at hmin
    simp only [List.length_append, List.length_cons, List.length_nil] at t1 hmin
    rw [if_neg (by omega)] at hmin
    simp only [decide_eq_false_iff_not] at hmin
    omega
  have hql : q.length = d + 2 := by omega
  -- the cell before
  rcases hq.1.unsnoc with ⟨rfl, _, _⟩ | ⟨p', m', j', s', rfl, hw', _⟩
  · simp at hql
  obtain ⟨j2, m2, s2, g1, g2, g3, g4, g5⟩ := hq.pre hw'.ne
  have hp'l : p'.length = d + 1 := by simpa using hql
  obtain ⟨i', hi'⟩ := List.getElem?_of_mem (h0.a2 j2 p' m2 g1 hp'l)
  have heq : p' = p := by
    rcases Nat.lt_trichotomy i' i with hlt | he | hgt
    · exact absurd (h.c i' p' m2 j2 n hi' g1 (.inl hlt) hnr ⟨s2, g2, g3⟩ ha) hns
    · subst he; rw [hp] at hi'; exact (Option.some.inj hi').symm
    · exfalso
      have hlt := lt_of_getElem? hi'
      have hpw := List.pairwise_iff_getElem.1 h0.a3 i i' (by omega) hlt hgt
      have e1 : now[i] = p := by rw [List.getElem?_eq_getElem (by omega)] at hp; exact Option.some.inj hp
      have e2 : now[i'] = p' := by rw [List.getElem?_eq_getElem hlt] at hi'; exact Option.some.inj hi'
      rw [e1, e2] at hpw
      have hx := lexB_app [(n : Int)] (by omega) hpw
      unfold lessL at hmin
      simp only [List.length_append, List.length_cons, List.length_nil] at t1 t2 hmin
      rw [if_pos (by omega), if_pos (by omega)] at hmin
      rw [hx] at hmin; cases hmin
  subst heq
  exact ⟨mq, hq, hql⟩
theorem lay_add {d : Nat} {now : List (List Int)} {seen0 seen : List Int} {i n : Nat} {next : List (List Int)} (h0 : BfsInv al L frm d now seen0) (h : LayInv N al L frm d now seen0 i n next seen) {p : List Int} (hp : now[i]? = some p) {m j : Int} (ho : Oq al L frm p m j)
    {s : Stp} (hs : s ∈ L j) (hsn : s.cell = (n : Int)) (ha : al n = true) (hns : (n : Int) ∉ seen) : LayInv N al L frm d now seen0 i (n + 1) (next ++ [p ++ [(n : Int)]]) (seen ++ [(n : Int)]) := by
  obtain ⟨m', hq, hql⟩ := lay_new hn hf hten h0 h hp ho hs hsn ha hns
  refine ⟨fun q hq' => ?_, ?_, fun q hq' => ?_, fun k => ?_, fun i' p' m2 j' k hp' ho' hd hk he hak => ?_, ?_, by simp [h.len]; omega⟩
  · rcases List.mem_append.1 hq' with h1 | h1
    · exact h.a1 q h1
    · simp only [List.mem_singleton] at h1; subst h1; exact ⟨n, m', hq, hql⟩
  · rw [List.pairwise_append]
    refine ⟨h.a3, by simp, fun q hq' r hr => ?_⟩
    simp only [List.mem_singleton] at hr
    subst hr
    obtain ⟨i', p', k, rfl, hi', hd⟩ := h.a4 q hq'
    rcases hd with hlt | ⟨rfl, hlt⟩
    · have hl' := lt_of_getElem? hp
      have hpw := List.pairwise_iff_getElem.1 h0.a3 i' i (by omega) hl' hlt
      have e1 : now[i'] = p' := by rw [List.getElem?_eq_getElem (by omega)] at hi'; exact Option.some.inj hi'
      have e2 : now[i] = p := by rw [List.getElem?_eq_getElem hl'] at hp; exact Option.some.inj hp
      rw [e1, e2] at hpw
      obtain ⟨_, _, _, l1⟩ := h0.a1 p' (List.mem_of_getElem? hi')
      obtain ⟨_, _, _, l2⟩ := h0.a1 p (List.mem_of_getElem? hp)
      exact lexB_app2 _ _ (by omega) hpw
    · rw [hp] at hi'; cases hi'
      rw [lexB_pre]
      simp only [lexB]
      rw [if_neg (by omega)]
      simpa using hlt
  · rcases List.mem_append.1 hq' with h1 | h1
    · obtain ⟨i', p', k, h2, h3, h4⟩ := h.a4 q h1
      exact ⟨i', p', k, h2, h3, donL_mono h4⟩
    · simp only [List.mem_singleton] at h1
      subst h1
      exact ⟨i, p, n, rfl, hp, .inr ⟨rfl, by omega⟩⟩
  · constructor
    · intro hk
      rcases List.mem_append.1 hk with h1 | h1
      · rcases (h.b k).1 h1 with h2 | ⟨q, m2, h2, h3⟩
        · exact .inl h2
        · exact .inr ⟨q, m2, List.mem_append_left _ h2, h3⟩
      · simp only [List.mem_singleton] at h1
        subst h1
        exact .inr ⟨_, m', by simp, hq⟩
    · rintro (h1 | ⟨q, m2, h1, h2⟩)
      · exact List.mem_append_left _ ((h.b k).2 (.inl h1))
      · rcases List.mem_append.1 h1 with h3 | h3
        · exact List.mem_append_left _ ((h.b k).2 (.inr ⟨q, m2, h3, h2⟩))
        · simp only [List.mem_singleton] at h3
          subst h3
          rw [(h2.last hq).2]; simp
  · rcases donL_succ hd hk.1 with hd | ⟨rfl, rfl⟩
    · exact List.mem_append_left _ (h.c i' p' m2 j' k hp' ho' hd hk he hak)
    · simp
  · rw [List.nodup_append]
    refine ⟨h.nd, by simp, fun a ha' b hb => ?_⟩
    simp only [List.mem_singleton] at hb
    subst hb
    exact fun e => hns (e ▸ ha')
omit hn hf hten in
theorem lay_end {d : Nat} {now : List (List Int)} {seen0 seen : List Int} {next : List (List Int)} (hn : Net N L) (hf : 0 ≤ frm ∧ frm < (N : Int)) (h0 : BfsInv al L frm d now seen0) (h : LayInv N al L frm d now seen0 now.length 0 next seen) : BfsInv al L frm (d + 1) next seen := by
  have a2 : ∀ k p m, Oq al L frm p m k → p.length = d + 2 → p ∈ next := fun k p m ho hl => by
    rcases ho.1.unsnoc with ⟨rfl, _, _⟩ | ⟨p', m', j', s', rfl, hw', _⟩
    · simp at hl
    obtain ⟨j2, m2, s2, g1, g2, g3, g4, g5⟩ := ho.pre hw'.ne
    have hp'l : p'.length = d + 1 := by simpa using hl
    obtain ⟨i', hi'⟩ := List.getElem?_of_mem (h0.a2 j2 p' m2 g1 hp'l)
    have hk := h.c i' p' m2 j2 k hi' g1 (.inl (lt_of_getElem? hi')) (ho.1.range hn hf) ⟨s2, g2, g3⟩ g4
    rcases (h.b k).1 hk with h1 | ⟨q, m3, h1, h2⟩
    · obtain ⟨q, m3, h2, h3⟩ := (h0.b k).1 h1
      rw [← (ho.uniq h2).2] at h3
      omega
    · rw [(ho.uniq h2).2]; exact h1
  refine ⟨h.a1, a2, h.a3, fun k => ⟨fun hk => ?_, fun ⟨p, m, ho, hl⟩ => ?_⟩, h.nd⟩
  · rcases (h.b k).1 hk with h1 | ⟨q, m, h1, h2⟩
    · obtain ⟨p, m, h2, h3⟩ := (h0.b k).1 h1
      exact ⟨p, m, h2, by omega⟩
    · obtain ⟨_, _, _, h3⟩ := h.a1 q h1
      exact ⟨q, m, h2, by omega⟩
  · rcases Nat.lt_or_ge p.length (d + 2) with h1 | h1
    · exact (h.b k).2 (.inl ((h0.b k).2 ⟨p, m, ho, by omega⟩))
    · exact (h.b k).2 (.inr ⟨p, m, a2 k p m ho (by omega), ho⟩)
omit hn hf hten in
/-- No best way has so many cells: none has more. -/
theorem bfs_none {d : Nat} {seen : List Int} (h : BfsInv al L frm d [] seen) : ∀ (n : Nat) k p m, p.length ≤ n → Oq al L frm p m k → p.length ≤ d := by
  intro n
  induction n with
  | zero => intro k p m hl ho; omega
  | succ n ih =>
    intro k p m hl ho
    rcases ho.1.unsnoc with ⟨rfl, _, _⟩ | ⟨p', m', j', s', rfl, hw', _⟩
    · refine Nat.not_lt.1 fun hlt => ?_
      have := h.a2 k [frm] m ho (by simp at hlt ⊢; omega)
      cases this
    · obtain ⟨j2, m2, s2, g1, _⟩ := ho.pre hw'.ne
      have h1 := ih j2 p' m2 (by simp at hl; omega) g1
      refine Nat.not_lt.1 fun hlt => ?_
      have := h.a2 k _ m ho (by simp at hlt ⊢; omega)
      cases this
end
end Go.Sx

namespace Go.Sx
open Go.Proofs
set_option maxRecDepth 10000

/-! Has -/
theorem has_t (l : List Int) (hl : l.length ≤ 1000000000000) (x : Int) : Pure Try.prog 109 [.sl (intL l), .int .i64 x] (.bool (decide (x ∈ l))) := by
  refine pure_of_wc (rs := [.tmp 4]) (m := 18) [] oNone_ok (by kernel_rfl) Try.func109 rfl (by kernel_rfl) rfl rfl (by kernel_rfl) ?_
  simp only [RT, FS, ↓RE, okR, argEnv, Nat.reduceAdd, Nat.reduceSub, Nat.reduceLT, Nat.reduceLeDiff, Nat.reduceEqDiff, reduceIte]
  refine loopV (ι := Nat) oNone_ok [] (fun i => [(0, .sl (intL l)), (1, .int .i64 x), (5, .int .i64 (i : Int))]) (fun i => []) 0 (fun i => i ≤ l.length ∧ x ∉ l.take i) (fun i => l.length - i) 0 (by kernel_rfl) (by kernel_rfl) ⟨Nat.zero_le _, by simp⟩ ?_ ?_
  · simp [headW, heapW, envW, blkLt, D.ltL, D.lt, look, hget]
  rintro i ⟨hi, hno⟩
  rcases Nat.lt_or_ge i l.length with hlt | hge
  rotate_left
  · have hq : ((i : Int) < (l.length : Int)) = False := by simp; omega
    rw [List.take_of_length_le hge] at hno
    have hd : decide (x ∈ l) = false := by simpa using hno
    simp only [RT, FS, ↓RE, okR, argEnv, Nat.reduceAdd, Nat.reduceSub, Nat.reduceLT, Nat.reduceLeDiff, Nat.reduceEqDiff, reduceIte, intL_len, hq, decide_false]
    rw [hd]
  have hq : ((i : Int) < (l.length : Int)) = True := by simp [hlt]
  have wi := wrap_i64 (z := (i : Int) + 1) (by omega) (by omega)
  have ix := sI_ix (nAt_get hlt)
  have htk : l.take (i + 1) = l.take i ++ [nAt l i] := by rw [List.take_add_one, nAt_get hlt]; rfl
  by_cases he : nAt l i = x
  · have hb : (nAt l i == x) = true := by simpa using he
    have hd : decide (x ∈ l) = true := by simp only [decide_eq_true_eq]; rw [← he]; exact List.mem_of_getElem? (nAt_get hlt)
    simp only [RT, FS, ↓RE, okR, argEnv, Nat.reduceAdd, Nat.reduceSub, Nat.reduceLT, Nat.reduceLeDiff, Nat.reduceEqDiff, reduceIte, intL_len, hq, decide_true, ix, hb]
    rw [hd]
  · have hb : (nAt l i == x) = false := by simpa using he
    simp only [RT, FS, ↓RE, okR, argEnv, Nat.reduceAdd, Nat.reduceSub, Nat.reduceLT, Nat.reduceLeDiff, Nat.reduceEqDiff, reduceIte, intL_len, hq, decide_true, ix, hb, wi]
    refine ⟨i + 1, ⟨by omega, ?_⟩, by omega, ?_⟩
    · rw [htk]; simp only [List.mem_append, List.mem_singleton, not_or]; exact ⟨hno, fun e => he e.symm⟩
    · simp [headW, heapW, envW, blkLt, D.ltL, D.lt, look, hget]
noncomputable abbrev nM : List (FuncId × (List D → Option D)) := (60, gRLow) :: nL
theorem nM_ok : OkO Try.prog (mkO nM) := mkO_ok (orcF_ok fun p h => ref3_Lowest_t p.1 h.1 p.2.1 h.2.1 p.2.2.1 p.2.2.2 h.2.2.1 h.2.2.2) <| nL_ok
/-! Rows of data -/
theorem rows_ix {l : List (List Int)} {i : Nat} {x : List Int} (hx : l[i]? = some x) (h : H) : indexAddrD Try.prog h 110 (.sl (rowsD l)) (.int .i64 (i : Int)) = some (.ref [.sl (intL x)] 0) := by
  have h1 : (rowsD l)[i]? = some [.sl (intL x)] := by simp [rowsD, hx]
  simp [indexAddrD, Fz.und_110, Fz.size_25, h1]
def RTaxiD (l : LandM) (frm to : Int) : D := match mget (costsT l to) frm with
  | none => .nils
  | some _ => .sl (intL (taxiA l frm to))
theorem edge_iff {l : LandM} (hl : LandOk l) {j n : Nat} (hj : j < l.ground.length) (hn : n < l.ground.length) : (∃ s ∈ strL l.wide l.deep j, s.cell = (n : Int)) ↔ (wayF l j n ≠ 0 ∧ lenF l j n = 10) := by
  constructor
  · rintro ⟨s, hs, rfl'⟩
    obtain ⟨h1, h2⟩ := List.mem_filter.1 hs
    have hw := wayF_step hl hj h1
    rw [rfl'] at hw
    refine ⟨hw.1, ?_⟩
    simp only [isStr, beq_iff_eq] at h2
    unfold lenF
    rw [hw.2] at h2
    exact h2
  · rintro ⟨h1, h2⟩
    refine ⟨_, List.mem_filter.2 ⟨way_mem hl (by omega) h1, ?_⟩, rfl⟩
    simpa [isStr, lenF] using h2
set_option maxHeartbeats 8000000 in
theorem ref3_Taxi_t (l : LandM) (hl : LandOk l) (frm to : Int) (hf : cellI l frm) (ht : cellI l to) : Pure Try.prog 59 [.agg l.c, .int .i64 frm, .int .i64 to] (RTaxiD l frm to) := by
  have hnet := net_str hl
  have hfr : (0 : Int) ≤ frm ∧ frm < (l.ground.length : Int) := hf
  have hsm := hl.small
  have hlc : l.c = [.int .i64 l.wide, .int .i64 l.deep, .sl (intL l.ground), .sl (boolL l.water), .int .i64 l.clear] := rfl
  have hten : ∀ p m k, Wk (wetB l) (strL l.wide l.deep) frm p m k → m = 10 * ((p.length : Int) - 1) := fun p m k ⟨r, e, h1, _⟩ => str_len h1
  have oW := fun (f t : Int) (hf : cellI l f) (ht : 0 ≤ t) => gWayR_eq hl hf ht
  rw [hlc]
  simp only [hlc] at oW
  obtain ⟨c, hc⟩ : ∃ c : Nat, frm = (c : Int) := ⟨frm.toNat, by omega⟩
  have hwt := sB_ix (hl.w_at (i := c) (by omega))
  rw [← hc] at hwt
  have hwe : wetB l frm = wAt l c := by rw [hc]; rfl
  unfold RTaxiD
  refine pure_of_pieces (rs := [.tmp 6]) (m := 100) [(10, [(13, false, false, [])])] nM_ok (by kernel_rfl) Try.func59 rfl (by kernel_rfl) rfl rfl (by kernel_rfl) ?_
  refine awp_peel (T := [(10, [(13, false, false, [])])]) nM_ok (by kernel_rfl) (by kernel_rfl) ?_
  simp only [RT, FS, ↓RE, okR, argEnv, Nat.reduceAdd, Nat.reduceSub, Nat.reduceLT, Nat.reduceLeDiff, Nat.reduceEqDiff, reduceIte, RM]
  refine awp_peel (T := [(10, [(13, false, false, [])])]) nM_ok (by kernel_rfl) (by kernel_rfl) ?_
  cases haf : wAt l c
  · rw [haf] at hwt hwe
    simp only [RT, FS, ↓RE, okR, argEnv, Nat.reduceAdd, Nat.reduceSub, Nat.reduceLT, Nat.reduceLeDiff, Nat.reduceEqDiff, reduceIte, RM, hwt]
    cases hm : mget (costsT l to) frm with
    | none => rfl
    | some v =>
      have := (oq_some (al := wetB l) hnet hfr ht hm).1.1
      obtain ⟨r, e, h1, _⟩ := this
      rw [e] at h1
      rw [path_al h1 frm (by simp)] at hwe; cases hwe
  rw [haf] at hwt hwe
  simp only [RT, FS, ↓RE, okR, argEnv, Nat.reduceAdd, Nat.reduceSub, Nat.reduceLT, Nat.reduceLeDiff, Nat.reduceEqDiff, reduceIte, RM, hwt]
  have hres : ∀ p m, Oq (wetB l) (strL l.wide l.deep) frm p m to → D.sl (intL p) = (match mget (costsT l to) frm with
      | none => .nils
      | some _ => .sl (intL (taxiA l frm to))) := fun p m ho => by
    cases hm : mget (costsT l to) frm with
    | none => exact absurd ho.1 (oq_none (al := wetB l) hnet hfr ht hm)
    | some v =>
      have := ho.uniq (oq_some (al := wetB l) hnet hfr ht hm).1
      rw [this.2]; rfl
  have hnores : (∀ p m, ¬Oq (wetB l) (strL l.wide l.deep) frm p m to) → D.nils = (match mget (costsT l to) frm with
      | none => .nils
      | some _ => .sl (intL (taxiA l frm to))) := fun hno => by
    cases hm : mget (costsT l to) frm with
    | none => rfl
    | some v => exact absurd (oq_some (al := wetB l) hnet hfr ht hm).1 (hno _ _)
  generalize (match mget (costsT l to) frm with
      | none => D.nils
      | some _ => .sl (intL (taxiA l frm to))) = RES at *
  have hone : ∀ p m, Wk (wetB l) (strL l.wide l.deep) frm p m frm → lessL m p 0 [frm] = false := fun p m hw => by
    have h1 := hw.ub
    have h2 := hten p m frm hw
    have h3 := List.length_pos_iff.2 hw.ne
    unfold lessL
    split
    · rename_i e
      have hp : p.length = 1 := by omega
      rw [if_pos (by simpa using hp)]
      obtain ⟨r, rfl, _⟩ := hw
      have : r = [] := by simpa using hp
      subst this
      exact lexB_self _
    · simp only [decide_eq_false_iff_not]; omega
  have hb0 := bfs_start hwe hten hone
  -- the first layer
  refine awp_seq (awp_region (aops_cut (m := 1) nM_ok rfl rfl ?_))
  simp only [RT, FS, ↓RE, okR, argEnv, Nat.reduceAdd, Nat.reduceSub, Nat.reduceLT, Nat.reduceLeDiff, Nat.reduceEqDiff, reduceIte, RM, List.take_succ_cons, List.take_zero, List.drop_succ_cons, List.drop_zero]
  refine opOk_lit rfl (litD_1 _ frm) ?_
  simp only [RT, FS, ↓RE, okR, argEnv, Nat.reduceAdd, Nat.reduceSub, Nat.reduceLT, Nat.reduceLeDiff, Nat.reduceEqDiff, reduceIte, RM, litR]
  refine awp_imp (imp_thaw 1 (.weak (weak_of (e := [(1, .int .i64 frm), (2, .int .i64 to), (3, .ptr 0 0), (7, .sl (rowsD [[frm]]))]) (h := [(0, .box l.c)]) (nid := 1) (n := 100) ?_))) ?_
  · simp [headW, heapW, envW, blkLt, D.ltL, D.lt, look, hget, frzHH, herase, frzBlk, frzD, hlc, rowsD]
  refine awp_peel (T := [(10, [(13, false, false, [])])]) nM_ok (by kernel_rfl) (by kernel_rfl) ?_
  simp only [RT, FS, ↓RE, okR, argEnv, Nat.reduceAdd, Nat.reduceSub, Nat.reduceLT, Nat.reduceLeDiff, Nat.reduceEqDiff, reduceIte, RM, lit_1]
  refine awp_seqE (ι := Unit) (nid := 0) (n := 100) (fun _ => []) (fun _ => []) (fun _ => D.nils = RES) ?_ ?_
  rotate_left
  · intro _ hr
    refine awp_rest (T := [(10, [(13, false, false, [])])]) nM_ok (by kernel_rfl) (by kernel_rfl) ?_
    simp only [RT, FS, ↓RE, okR, argEnv, Nat.reduceAdd, Nat.reduceSub, Nat.reduceLT, Nat.reduceLeDiff, Nat.reduceEqDiff, reduceIte, RM]
    exact hr
  refine awp_block (awp_loopH (ι := Nat × List (List Int) × List Int) (fun s => [(2, .int .i64 to), (3, .ptr 0 0), (7, .sl (rowsD s.2.1)), (8, .osl 1 s.2.2.length)]) (fun s => [(1, .arr 3 1 (intL s.2.2)), (0, .box l.c)]) 2
    (fun s => BfsInv (wetB l) (strL l.wide l.deep) frm s.1 s.2.1 s.2.2 ∧ s.2.1.length ≤ 1000 ∧ ∀ p m, Oq (wetB l) (strL l.wide l.deep) frm p m to → s.1 + 1 ≤ p.length) (fun s => 204 - s.1) (0, [[frm]], [frm]) ⟨hb0, by simp, fun p m ho => by have := List.length_pos_iff.2 ho.1.ne; simp only; omega⟩ ?_ ?_)
  · simp [headW, heapW, envW, blkLt, D.ltL, D.lt, look, hget, Sx.hset, hlc, intL, enI]
  rintro ⟨d, now, seen⟩ ⟨hB, hnl, hto⟩
  dsimp only at hB hnl hto ⊢
  have hsr := hB.range hnet hfr
  refine awp_peel (T := [(10, [(13, false, false, [])])]) nM_ok (by kernel_rfl) (by kernel_rfl) ?_
  by_cases hne : now = []
  · have hq : ((0 : Int) < ((now.length : Nat) : Int)) = False := by rw [hne]; simp
    simp only [RT, FS, ↓RE, okR, argEnv, Nat.reduceAdd, Nat.reduceSub, Nat.reduceLT, Nat.reduceLeDiff, Nat.reduceEqDiff, reduceIte, RM, rowsD_len, hq, decide_false]
    refine ⟨(), hnores fun p m ho => ?_, ?_⟩
    · rw [hne] at hB
      have h1 := bfs_none hB p.length to p m (Nat.le_refl _) ho
      have h2 := hto p m ho
      omega
    · simp [headW, heapW, envW, blkLt, D.ltL, D.lt, look, hget, Sx.hset, hlc]
  have hq : ((0 : Int) < ((now.length : Nat) : Int)) = True := by
    have := List.length_pos_iff.2 hne
    simp only [eq_iff_iff, iff_true]; omega
  have hd := hB.depth hnet hfr hne
  simp only [RT, FS, ↓RE, okR, argEnv, Nat.reduceAdd, Nat.reduceSub, Nat.reduceLT, Nat.reduceLeDiff, Nat.reduceEqDiff, reduceIte, RM, rowsD_len, hq, decide_true]
  refine awp_block ?_
  refine awp_peel (T := [(10, [(13, false, false, [])])]) nM_ok (by kernel_rfl) (by kernel_rfl) ?_
  simp only [RT, FS, ↓RE, okR, argEnv, Nat.reduceAdd, Nat.reduceSub, Nat.reduceLT, Nat.reduceLeDiff, Nat.reduceEqDiff, reduceIte, RM]
  refine awp_nil 9 25 1 rfl ?_
  refine awp_headW [(2, .int .i64 to), (3, .ptr 0 0), (7, .sl (rowsD now)), (8, .osl 1 seen.length), (9, .osl 2 (([] : List (List Int)).length))] [(2, .arr 25 1 (rowsD [])), (1, .arr 3 1 (intL seen)), (0, .box l.c)] 3 100 (by simp [headW, heapW, envW, blkLt, D.ltL, D.lt, look, hget, Sx.hset, hlc, eset_nil, eset_cons, rowsD]) ?_
  refine awp_seqE (ι := List (List Int) × List Int) (nid := 3) (n := 100) (fun s => [(2, .int .i64 to), (3, .ptr 0 0), (8, .osl 1 s.2.length), (9, .osl 2 s.1.length)]) (fun s => [(2, .arr 25 1 (rowsD s.1)), (1, .arr 3 1 (intL s.2)), (0, .box l.c)])
    (fun s => BfsInv (wetB l) (strL l.wide l.deep) frm (d + 1) s.1 s.2 ∧ s.1.length ≤ 1000 ∧ ∀ p m, Oq (wetB l) (strL l.wide l.deep) frm p m to → d + 1 + 1 ≤ p.length) ?_ ?_
  rotate_left
  · rintro ⟨next, sn⟩ ⟨hB1, hnl1, hto1⟩
    dsimp only at hB1 hnl1 hto1 ⊢
    refine awp_imp (imp_thaw 2 (.weak (weak_of (e := [(2, .int .i64 to), (3, .ptr 0 0), (8, .osl 1 sn.length), (9, .sl (rowsD next))]) (h := [(1, .arr 3 1 (intL sn)), (0, .box l.c)]) (nid := 2) (n := 100) ?_))) ?_
    · simp [headW, heapW, envW, blkLt, D.ltL, D.lt, look, hget, frzHH, herase, frzBlk, frzD, hlc, rowsD_len]
    refine awp_rest (T := [(10, [(13, false, false, [])])]) nM_ok (by kernel_rfl) (by kernel_rfl) ?_
    simp only [RT, FS, ↓RE, okR, argEnv, Nat.reduceAdd, Nat.reduceSub, Nat.reduceLT, Nat.reduceLeDiff, Nat.reduceEqDiff, reduceIte, RM]
    refine ⟨(d + 1, next, sn), ⟨hB1, hnl1, hto1⟩, by simp only; omega, ?_⟩
    simp [headW, heapW, envW, blkLt, D.ltL, D.lt, look, hget, Sx.hset, hlc]
  refine awp_peel (T := [(10, [(13, false, false, [])])]) nM_ok (by kernel_rfl) (by kernel_rfl) ?_
  simp only [RT, FS, ↓RE, okR, argEnv, Nat.reduceAdd, Nat.reduceSub, Nat.reduceLT, Nat.reduceLeDiff, Nat.reduceEqDiff, reduceIte, RM]
  refine awp_block (awp_loopH (ι := Nat × List (List Int) × List Int) (fun s => [(2, .int .i64 to), (3, .ptr 0 0), (7, .sl (rowsD now)), (8, .osl 1 s.2.2.length), (9, .osl 2 s.2.1.length), (10, .int .i64 (s.1 : Int))]) (fun s => [(2, .arr 25 1 (rowsD s.2.1)), (1, .arr 3 1 (intL s.2.2)), (0, .box l.c)]) 3
    (fun s => s.1 ≤ now.length ∧ LayInv l.ground.length (wetB l) (strL l.wide l.deep) frm d now seen s.1 0 s.2.1 s.2.2 ∧ ∀ (i' : Nat) p m, i' < s.1 → now[i']? = some p → ¬Oq (wetB l) (strL l.wide l.deep) frm p m to) (fun s => now.length - s.1) (0, [], seen) ⟨Nat.zero_le _, lay_start hB, fun i' p m hi => by omega⟩ ?_ ?_)
  · simp [headW, heapW, envW, blkLt, D.ltL, D.lt, look, hget, Sx.hset, hlc, rowsD]
  rintro ⟨i, next, sn⟩ ⟨hi, hL, hnt⟩
  dsimp only at hi hL hnt ⊢
  refine awp_peel (T := [(10, [(13, false, false, [])])]) nM_ok (by kernel_rfl) (by kernel_rfl) ?_
  rcases Nat.lt_or_ge i now.length with hlt | hge
  rotate_left
  · have hq : ((i : Int) < (now.length : Int)) = False := by simp; omega
    simp only [RT, FS, ↓RE, okR, argEnv, Nat.reduceAdd, Nat.reduceSub, Nat.reduceLT, Nat.reduceLeDiff, Nat.reduceEqDiff, reduceIte, RM, rowsD_len, hq, decide_false]
    have hie : i = now.length := by omega
    subst hie
    have hr1 := hL.range hnet hfr hB
    have hr2 := hL.len
    refine ⟨(next, sn), ⟨lay_end hnet hfr hB hL, by simp only; omega, fun p m ho => ?_⟩, ?_⟩
    · have h1 := hto p m ho
      refine Nat.lt_of_le_of_ne h1 fun e => ?_
      obtain ⟨i', hi'⟩ := List.getElem?_of_mem (hB.a2 to p m ho e.symm)
      exact hnt i' p m (lt_of_getElem? hi') hi' ho
    · simp [headW, heapW, envW, blkLt, D.ltL, D.lt, look, hget, Sx.hset, hlc]
  have hq : ((i : Int) < (now.length : Int)) = True := by simp [hlt]
  simp only [RT, FS, ↓RE, okR, argEnv, Nat.reduceAdd, Nat.reduceSub, Nat.reduceLT, Nat.reduceLeDiff, Nat.reduceEqDiff, reduceIte, RM, rowsD_len, hq, decide_true]
  refine awp_seqE (ι := List (List Int) × List Int) (nid := 3) (n := 100) (fun s => [(2, .int .i64 to), (3, .ptr 0 0), (7, .sl (rowsD now)), (8, .osl 1 s.2.length), (9, .osl 2 s.1.length), (10, .int .i64 (i : Int))]) (fun s => [(2, .arr 25 1 (rowsD s.1)), (1, .arr 3 1 (intL s.2)), (0, .box l.c)])
    (fun s => LayInv l.ground.length (wetB l) (strL l.wide l.deep) frm d now seen (i + 1) 0 s.1 s.2 ∧ ∀ (i' : Nat) p m, i' < i + 1 → now[i']? = some p → ¬Oq (wetB l) (strL l.wide l.deep) frm p m to) ?_ ?_
  rotate_left
  · rintro ⟨next2, sn2⟩ ⟨hL2, hnt2⟩
    dsimp only at hL2 hnt2 ⊢
    have wi := wrap_i64 (z := (i : Int) + 1) (by omega) (by omega)
    refine awp_rest (T := [(10, [(13, false, false, [])])]) nM_ok (by kernel_rfl) (by kernel_rfl) ?_
    simp only [RT, FS, ↓RE, okR, argEnv, Nat.reduceAdd, Nat.reduceSub, Nat.reduceLT, Nat.reduceLeDiff, Nat.reduceEqDiff, reduceIte, RM, wi]
    refine ⟨(i + 1, next2, sn2), ⟨by simp only; omega, hL2, hnt2⟩, by simp only; omega, ?_⟩
    simp [headW, heapW, envW, blkLt, D.ltL, D.lt, look, hget, Sx.hset, hlc]
  refine awp_block ?_
  obtain ⟨p, hp⟩ : ∃ p, now[i]? = some p := ⟨now[i], by simp [hlt]⟩
  obtain ⟨j, m, ho, hpl⟩ := hB.a1 p (List.mem_of_getElem? hp)
  have ixR := rows_ix hp
  have hjr := ho.1.range hnet hfr
  obtain ⟨jn, rfl⟩ : ∃ jn : Nat, j = (jn : Int) := ⟨j.toNat, by omega⟩
  have hjn : jn < l.ground.length := by omega
  have hplb := ho.1.ub
  have hpl2 : p.length ≤ 300 := by omega
  have hlast : nAt p (p.length - 1) = (jn : Int) := by
    obtain ⟨r, rfl, _, h2⟩ := ho.1
    rw [List.getLast?_eq_getElem?] at h2
    simp only [nAt, h2, Option.getD_some]
  have wl : IntKind.i64.wrap ((p.length : Int) - 1) = ((p.length - 1 : Nat) : Int) := by rw [wrap_i64 (by omega) (by omega)]; omega
  have ixl := sI_ix (nAt_get (x := p) (i := p.length - 1) (by omega))
  rw [hlast] at ixl
  refine awp_peel (T := [(10, [(13, false, false, [])])]) nM_ok (by kernel_rfl) (by kernel_rfl) ?_
  simp only [RT, FS, ↓RE, okR, argEnv, Nat.reduceAdd, Nat.reduceSub, Nat.reduceLT, Nat.reduceLeDiff, Nat.reduceEqDiff, reduceIte, RM, ixR, intL_len, wl, ixl]
  refine awp_peel (T := [(10, [(13, false, false, [])])]) nM_ok (by kernel_rfl) (by kernel_rfl) ?_
  by_cases hjt : (jn : Int) = to
  · have hb : ((jn : Int) == to) = true := by simpa using hjt
    simp only [RT, FS, ↓RE, okR, argEnv, Nat.reduceAdd, Nat.reduceSub, Nat.reduceLT, Nat.reduceLeDiff, Nat.reduceEqDiff, reduceIte, RM, ixR, hb]
    rw [hjt] at ho
    exact hres p m ho
  have hb : ((jn : Int) == to) = false := by simpa using hjt
  simp only [RT, FS, ↓RE, okR, argEnv, Nat.reduceAdd, Nat.reduceSub, Nat.reduceLT, Nat.reduceLeDiff, Nat.reduceEqDiff, reduceIte, RM, ixR, hb]
  have hnt2 : ∀ (i' : Nat) p m, i' < i + 1 → now[i']? = some p → ¬Oq (wetB l) (strL l.wide l.deep) frm p m to := fun i' p' m' hi' hp' ho' => by
    rcases Nat.lt_or_ge i' i with h1 | h1
    · exact hnt i' p' m' h1 hp' ho'
    · have : i' = i := by omega
      subst this
      rw [hp] at hp'; cases hp'
      exact hjt (ho.last ho').2
  refine awp_peel (T := [(10, [(13, false, false, [])])]) nM_ok (by kernel_rfl) (by kernel_rfl) ?_
  simp only [RT, FS, ↓RE, okR, argEnv, Nat.reduceAdd, Nat.reduceSub, Nat.reduceLT, Nat.reduceLeDiff, Nat.reduceEqDiff, reduceIte, RM]
  refine awp_block (awp_loopH (ι := Nat × List (List Int) × List Int) (fun s => [(2, .int .i64 to), (3, .ptr 0 0), (7, .sl (rowsD now)), (8, .osl 1 s.2.2.length), (9, .osl 2 s.2.1.length), (10, .int .i64 (i : Int)), (11, .int .i64 (jn : Int)), (12, .int .i64 (s.1 : Int))]) (fun s => [(2, .arr 25 1 (rowsD s.2.1)), (1, .arr 3 1 (intL s.2.2)), (0, .box l.c)]) 3
    (fun s => s.1 ≤ l.ground.length ∧ LayInv l.ground.length (wetB l) (strL l.wide l.deep) frm d now seen i s.1 s.2.1 s.2.2) (fun s => l.ground.length - s.1) (0, next, sn) ⟨Nat.zero_le _, hL⟩ ?_ ?_)
  · simp [headW, heapW, envW, blkLt, D.ltL, D.lt, look, hget, Sx.hset, hlc]
  rintro ⟨n, nx, sn⟩ ⟨hn, hN⟩
  dsimp only at hn hN ⊢
  refine awp_peel (T := [(10, [(13, false, false, [])])]) nM_ok (by kernel_rfl) (by kernel_rfl) ?_
  rcases Nat.lt_or_ge n l.ground.length with hnl' | hng
  rotate_left
  · have hq : ((n : Int) < (l.ground.length : Int)) = False := by simp; omega
    simp only [RT, FS, ↓RE, okR, argEnv, Nat.reduceAdd, Nat.reduceSub, Nat.reduceLT, Nat.reduceLeDiff, Nat.reduceEqDiff, reduceIte, RM, hlc, intL_len, hq, decide_false]
    have hne' : n = l.ground.length := by omega
    rw [hne'] at hN
    refine ⟨(nx, sn), ⟨lay_row hN, hnt2⟩, ?_⟩
    simp [headW, heapW, envW, blkLt, D.ltL, D.lt, look, hget, Sx.hset, hlc]
  have hq : ((n : Int) < (l.ground.length : Int)) = True := by simp [hnl']
  simp only [RT, FS, ↓RE, okR, argEnv, Nat.reduceAdd, Nat.reduceSub, Nat.reduceLT, Nat.reduceLeDiff, Nat.reduceEqDiff, reduceIte, RM, hlc, intL_len, hq, decide_true]
  refine awp_seqE (ι := List (List Int) × List Int) (nid := 3) (n := 100) (fun s => [(2, .int .i64 to), (3, .ptr 0 0), (7, .sl (rowsD now)), (8, .osl 1 s.2.length), (9, .osl 2 s.1.length), (10, .int .i64 (i : Int)), (11, .int .i64 (jn : Int)), (12, .int .i64 (n : Int))]) (fun s => [(2, .arr 25 1 (rowsD s.1)), (1, .arr 3 1 (intL s.2)), (0, .box l.c)])
    (fun s => LayInv l.ground.length (wetB l) (strL l.wide l.deep) frm d now seen i (n + 1) s.1 s.2) ?_ ?_
  rotate_left
  · rintro ⟨nx2, sn2⟩ hN2
    dsimp only at hN2 ⊢
    have wi := wrap_i64 (z := (n : Int) + 1) (by omega) (by omega)
    refine awp_rest (T := [(10, [(13, false, false, [])])]) nM_ok (by kernel_rfl) (by kernel_rfl) ?_
    simp only [RT, FS, ↓RE, okR, argEnv, Nat.reduceAdd, Nat.reduceSub, Nat.reduceLT, Nat.reduceLeDiff, Nat.reduceEqDiff, reduceIte, RM, wi]
    refine ⟨(n + 1, nx2, sn2), ⟨by simp only; omega, hN2⟩, by simp only; omega, ?_⟩
    simp [headW, heapW, envW, blkLt, D.ltL, D.lt, look, hget, Sx.hset, hlc]
  refine awp_block ?_
  have oWn := oW (jn : Int) (n : Int) (by unfold cellI; omega) (by omega)
  refine awp_peel (T := [(10, [(13, false, false, [])])]) nM_ok (by kernel_rfl) (by kernel_rfl) ?_
  simp only [RT, FS, ↓RE, okR, argEnv, Nat.reduceAdd, Nat.reduceSub, Nat.reduceLT, Nat.reduceLeDiff, Nat.reduceEqDiff, reduceIte, RM, hlc, oWn]
  refine awp_peel (T := [(10, [(13, false, false, [])])]) nM_ok (by kernel_rfl) (by kernel_rfl) ?_
  have hedge := edge_iff hl hjn hnl'
  by_cases hw0 : wayF l jn n = 0
  · have hb1 : (wayF l jn n == 0) = true := by simpa using hw0
    simp only [RT, FS, ↓RE, okR, argEnv, Nat.reduceAdd, Nat.reduceSub, Nat.reduceLT, Nat.reduceLeDiff, Nat.reduceEqDiff, reduceIte, RM, hb1]
    refine ⟨(nx, sn), lay_skip hN hp ho fun he _ => absurd hw0 (hedge.1 he).1, ?_⟩
    simp [headW, heapW, envW, blkLt, D.ltL, D.lt, look, hget, Sx.hset, hlc]
  have hb1 : (wayF l jn n == 0) = false := by simpa using hw0
  have oS := gSteps_eq (wayF_rI hw0)
  have hlenF : lenS (dxW (wayF l jn n)) (dyW (wayF l jn n)) = lenF l jn n := rfl
  rw [hlenF] at oS
  by_cases hs10 : lenF l jn n = 10
  rotate_left
  · have hb2 : (lenF l jn n != 10) = true := by simpa using hs10
    simp only [RT, FS, ↓RE, okR, argEnv, Nat.reduceAdd, Nat.reduceSub, Nat.reduceLT, Nat.reduceLeDiff, Nat.reduceEqDiff, reduceIte, RM, hb1, oS, hb2]
    refine ⟨(nx, sn), lay_skip hN hp ho fun he _ => absurd (hedge.1 he).2 hs10, ?_⟩
    simp [headW, heapW, envW, blkLt, D.ltL, D.lt, look, hget, Sx.hset, hlc]
  have hb2 : (lenF l jn n != 10) = false := by simpa using hs10
  have hwn := sB_ix (hl.w_at (i := n) hnl')
  have hwne : wetB l (n : Int) = wAt l n := rfl
  cases hwt' : wAt l n
  · rw [hwt'] at hwn hwne
    simp only [RT, FS, ↓RE, okR, argEnv, Nat.reduceAdd, Nat.reduceSub, Nat.reduceLT, Nat.reduceLeDiff, Nat.reduceEqDiff, reduceIte, RM, hb1, oS, hb2, hlc, hwn]
    refine ⟨(nx, sn), lay_skip hN hp ho fun _ ha => (by rw [hwne] at ha; cases ha), ?_⟩
    simp [headW, heapW, envW, blkLt, D.ltL, D.lt, look, hget, Sx.hset, hlc]
  rw [hwt'] at hwn hwne
  have hsn := hN.range hnet hfr hB
  have hnx := hN.len
  have pH := has_t sn (by omega) (n : Int)
  cases hh : decide ((n : Int) ∈ sn)
  rotate_left
  · rw [hh] at pH
    simp only [RT, FS, ↓RE, okR, argEnv, Nat.reduceAdd, Nat.reduceSub, Nat.reduceLT, Nat.reduceLeDiff, Nat.reduceEqDiff, reduceIte, RM, hb1, oS, hb2, hlc, hwn]
    refine call_of_pure (by simpa [view, viewL, viewA, hget, intL_len] using pH) rfl ?_
    simp only [RT, FS, ↓RE, okR, argEnv, Nat.reduceAdd, Nat.reduceSub, Nat.reduceLT, Nat.reduceLeDiff, Nat.reduceEqDiff, reduceIte, RM]
    refine ⟨(nx, sn), lay_skip hN hp ho fun _ _ => (by simpa using hh), ?_⟩
    simp [headW, heapW, envW, blkLt, D.ltL, D.lt, look, hget, Sx.hset, hlc]
  rw [hh] at pH
  simp only [RT, FS, ↓RE, okR, argEnv, Nat.reduceAdd, Nat.reduceSub, Nat.reduceLT, Nat.reduceLeDiff, Nat.reduceEqDiff, reduceIte, RM, hb1, oS, hb2, hlc, hwn]
  refine call_of_pure (by simpa [view, viewL, viewA, hget, intL_len] using pH) rfl ?_
  simp only [RT, FS, ↓RE, okR, argEnv, Nat.reduceAdd, Nat.reduceSub, Nat.reduceLT, Nat.reduceLeDiff, Nat.reduceEqDiff, reduceIte, RM]
  obtain ⟨s, hs, hsc⟩ := hedge.2 ⟨hw0, hs10⟩
  have hadd := lay_add hnet hfr hten hB hN hp ho hs hsc hwne (by simpa using hh)
  have a1 := fun h nid (hb : hget h 1 = some (.arr 3 1 (intL sn))) (hb2 : hget h 3 = some (.arr 3 1 [[.int .i64 (n : Int)]])) => oI_app (n := sn.length) (n2 := 1) (r := [(n : Int)]) hb rfl hb2 rfl nid (by simp; omega)
  refine awp_peel (T := [(10, [(13, false, false, [])])]) nM_ok (by kernel_rfl) (by kernel_rfl) ?_
  simp only [RT, FS, ↓RE, okR, argEnv, Nat.reduceAdd, Nat.reduceSub, Nat.reduceLT, Nat.reduceLeDiff, Nat.reduceEqDiff, reduceIte, RM, lit_1, a1]
  refine awp_headW [(2, .int .i64 to), (3, .ptr 0 0), (7, .sl (rowsD now)), (8, .osl 1 (sn.length + 1)), (9, .osl 2 nx.length), (10, .int .i64 (i : Int)), (11, .int .i64 (jn : Int)), (12, .int .i64 (n : Int))] [(2, .arr 25 1 (rowsD nx)), (1, .arr 3 1 (intL (sn ++ [(n : Int)]))), (0, .box l.c)] 3 100 (by simp [headW, heapW, envW, blkLt, D.ltL, D.lt, look, hget, Sx.hset, hlc]) ?_
  have mkA := fun h nid => app_nils_int p h nid (by omega)
  have apA := fun h nid (hb : hget h 3 = some (.arr 3 1 (intL p))) (hb2 : hget h 4 = some (.arr 3 1 [[.int .i64 (n : Int)]])) => oI_app (n := p.length) (n2 := 1) (r := [(n : Int)]) hb rfl hb2 rfl nid (by simp; omega)
  have apR := fun h nid (hb : hget h 2 = some (.arr 25 1 (rowsD nx))) (hb2 : hget h 3 = some (.arr 25 1 [[.sl (intL (p ++ [(n : Int)]))]])) => oR_app (n := nx.length) hb rfl hb2 nid (by omega)
  refine awp_region (aops_mid nM_ok 9 (by decide) ?_)
  simp only [RT, FS, ↓RE, okR, argEnv, Nat.reduceAdd, Nat.reduceSub, Nat.reduceLT, Nat.reduceLeDiff, Nat.reduceEqDiff, reduceIte, RM, List.take_succ_cons, List.take_zero, ixR, mkA, lit_1, apA]
  refine ⟨⟨[(2, .int .i64 to), (3, .ptr 0 0), (7, .sl (rowsD now)), (8, .osl 1 (sn.length + 1)), (9, .osl 2 nx.length), (10, .int .i64 (i : Int)), (11, .int .i64 (jn : Int)), (12, .int .i64 (n : Int)), (88, .osl 2 nx.length), (96, .sl (intL (p ++ [(n : Int)])))], [(2, .arr 25 1 (rowsD nx)), (1, .arr 3 1 (intL (sn ++ [(n : Int)]))), (0, .box l.c)], 3, 100⟩, imp_thaw 3 (.weak (weak_of ?_)), ?_⟩
  · simp [headW, heapW, envW, blkLt, D.ltL, D.lt, look, hget, frzHH, herase, frzBlk, frzD, hlc, intL_len]
  simp only [RT, FS, ↓RE, okR, argEnv, Nat.reduceAdd, Nat.reduceSub, Nat.reduceLT, Nat.reduceLeDiff, Nat.reduceEqDiff, reduceIte, RM, List.drop_succ_cons, List.drop_zero, litR, apR]
  refine ⟨(nx ++ [p ++ [(n : Int)]], sn ++ [(n : Int)]), hadd, ?_⟩
  simp [headW, heapW, envW, blkLt, D.ltL, D.lt, look, hget, Sx.hset, hlc]
end Go.Sx
