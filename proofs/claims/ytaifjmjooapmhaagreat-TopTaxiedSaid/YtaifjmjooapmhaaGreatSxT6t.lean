/- Own work: contracts of functions, used in the proof of a law. -/
import Derived.Test.YtaifjmjooapmhaaGreatSxTk
import Derived.Test.YtaifjmjooapmhaaGreatSxTm
import Derived.Test.YtaifjmjooapmhaaGreatSxTj
import Derived.Test.YtaifjmjooapmhaaGreatSxMi
set_option linter.unusedVariables false
set_option linter.unusedSimpArgs false
namespace Go.Sx
open Go.Proofs
set_option maxRecDepth 10000

theorem mk_bool (h : H) (nid n : Nat) (hn : n ≤ 1000000) : makeD Tryz.prog h nid 35 (.int .i64 (n : Int)) (.int .i64 (n : Int)) = some (.osl nid n, (nid, .arr 4 1 (E.boolL (List.replicate n false))) :: h, nid + 1) := by
 have h1 : n ≤ 1125899906842624 := by omega
 have hb : Tryz.prog.bytesOf 4 = 1 := by kernel_rfl
 have h2 : n ≤ 140737488355328 := by omega
 simp [makeD, Fz.und_35, Fz.size_4, Fz.zero_4, hb, h1, h2, E.boolL, enB]
 omega
def evT (n : Nat) : Nat → Blk
 | 10 => .arr 3 1 (E.intL (List.replicate n 0))
 | 15 => .arr 4 1 (E.boolL (List.replicate n false))
 | _ => .box [.int .i64 0, .int .i64 0, .nils, .nils, .int .i64 0]
def hhT (n : Nat) : List Nat → H
 | [] => []
 | k :: r => (r.length, evT n k) :: hhT n r
def idT (k : Nat) : List Nat → Nat
 | [] => 0
 | j :: r => if k = j then r.length else idT k r
def lastT (w d : Int) (n : Nat) (l : List Nat) : Blk := .box [.int .i64 w, .int .i64 d, .osl (idT 10 l) n, .osl (idT 15 l) n, .int .i64 0]
def hhS (w d : Int) (n : Nat) (m : List Nat × Bool) : H := if m.2 then hset (hhT n m.1) (idT 17 m.1) (lastT w d n m.1) else hhT n m.1
structure OkT (m : List Nat × Bool) (L : Nat → Prop) : Prop where
 nd : m.1.Nodup
 sub : ∀ k ∈ m.1, k = 10 ∨ k = 15 ∨ k = 17
 a : 10 ∈ m.1 ↔ L 10
 b : 15 ∈ m.1 ↔ L 15
 c : 17 ∈ m.1 ↔ L 17
 s : m.2 = true ↔ L 18
theorem okT_read {m : List Nat × Bool} {L : Nat → Prop} (h : OkT m L) {i : Nat} (h1 : i ≠ 10) (h2 : i ≠ 15) (h3 : i ≠ 17) (h4 : i ≠ 18) : OkT m fun j => j = i ∨ L j :=
 ⟨h.nd, h.sub, by rw [h.a]; simp [Ne.symm h1], by rw [h.b]; simp [Ne.symm h2], by rw [h.c]; simp [Ne.symm h3], by rw [h.s]; simp [Ne.symm h4]⟩
theorem okT_add {m : List Nat × Bool} {L : Nat → Prop} (h : OkT m L) {i : Nat} (hi : i = 10 ∨ i = 15 ∨ i = 17) (hn : ¬ L i) : OkT (i :: m.1, m.2) fun j => j = i ∨ L j := by
 have hni : i ∉ m.1 := fun hm => hn (by rcases hi with rfl | rfl | rfl; exact h.a.1 hm; exact h.b.1 hm; exact h.c.1 hm)
 refine ⟨List.nodup_cons.2 ⟨hni, h.nd⟩, fun k hk => ?_, ?_, ?_, ?_, ?_⟩
 ·rcases List.mem_cons.1 hk with rfl | hk
  ·exact hi
  ·exact h.sub k hk
 ·rw [List.mem_cons, h.a]
 ·rw [List.mem_cons, h.b]
 ·rw [List.mem_cons, h.c]
 ·rw [h.s]
  have : (18 : Nat) ≠ i := by omega
  simp [this]
theorem okT_store {m : List Nat × Bool} {L : Nat → Prop} (h : OkT m L) : OkT (m.1, true) fun j => j = 18 ∨ L j :=
 ⟨h.nd, h.sub, by rw [h.a]; simp, by rw [h.b]; simp, by rw [h.c]; simp, by simp⟩
theorem idT_lt {k : Nat} : ∀ {l : List Nat}, k ∈ l → idT k l < l.length
 | [], h => by simp at h
 | j :: r, h => by
  simp only [idT, List.length_cons]
  split
  ·omega
  ·rename_i hne
   have := idT_lt (List.mem_of_ne_of_mem hne h)
   omega
theorem hhT_get (n : Nat) {k : Nat} : ∀ {l : List Nat}, k ∈ l → hget (hhT n l) (idT k l) = some (evT n k)
 | [], h => by simp at h
 | j :: r, h => by
  simp only [hhT, idT]
  by_cases e : k = j
  ·subst e
   simp [hget]
  ·rw [if_neg e]
   have hm := List.mem_of_ne_of_mem e h
   have := idT_lt hm
   simp only [hget]
   rw [if_neg (by omega)]
   exact hhT_get n hm
theorem perm3 : ∀ l : List Nat, l.Nodup → (∀ k ∈ l, k = 10 ∨ k = 15 ∨ k = 17) → 10 ∈ l → 15 ∈ l → 17 ∈ l → l = [10, 15, 17] ∨ l = [10, 17, 15] ∨ l = [15, 10, 17] ∨ l = [15, 17, 10] ∨ l = [17, 10, 15] ∨ l = [17, 15, 10]
 | [], _, _, h, _, _ => by simp at h
 | [a], _, _, h1, h2, _ => by simp at h1 h2; omega
 | [a, b], _, _, h1, h2, h3 => by simp at h1 h2 h3; omega
 | [a, b, c], hn, _, h1, h2, h3 => by
  simp only [List.mem_cons, List.not_mem_nil, or_false] at h1 h2 h3
  rcases h1 with rfl | rfl | rfl <;> rcases h2 with h2 | h2 | h2 <;> first | exact absurd h2 (by decide) | (subst h2; rcases h3 with h3 | h3 | h3 <;> first | exact absurd h3 (by decide) | (subst h3; simp))
 | a :: b :: c :: d :: r, hn, hs, _, _, _ => by
  have ha := hs a (by simp)
  have hb := hs b (by simp)
  have hc := hs c (by simp)
  have hd := hs d (by simp)
  simp only [List.nodup_cons, List.mem_cons, not_or] at hn
  obtain ⟨⟨n1, n2, n3, _⟩, ⟨n4, n5, _⟩, ⟨n6, _⟩, _⟩ := hn
  rcases ha with rfl | rfl | rfl <;> rcases hb with rfl | rfl | rfl <;> rcases hc with rfl | rfl | rfl <;> rcases hd with rfl | rfl | rfl <;> first | exact absurd rfl n1 | exact absurd rfl n2 | exact absurd rfl n3 | exact absurd rfl n4 | exact absurd rfl n5 | exact absurd rfl n6
theorem tB_get {l : List Bool} {i : Nat} {x : Bool} (h : l[i]? = some x) : (E.boolL l)[i]? = some [.bool x] := by simp [E.boolL, h, enB]
theorem tB_ix {h : H} {b n : Nat} {l : List Bool} (hb : hget h b = some (.arr 4 1 (E.boolL l))) (hn : l.length = n) {i : Nat} (hi : i < n) : indexAddrD Tryz.prog h 35 (.osl b n) (.int .i64 (i : Int)) = some (.eptr b n 1 i 0) :=
 own_ix Fz.und_35 Fz.size_4 hb (by rw [E.boolL_len, hn]) hi .i64
theorem tB_store {h : H} {b n : Nat} {l : List Bool} (hb : hget h b = some (.arr 4 1 (E.boolL l))) (hn : l.length = n) {i : Nat} {x : Bool} (hx : l[i]? = some x) (nid : Nat) (y : Bool) :
  storeD Tryz.prog h nid 4 (.eptr b n 1 i 0) (.bool y) = some (.any, hset h b (.arr 4 1 (E.boolL (l.set i y))), nid) := by
 rw [own_store (ds := [.bool y]) hb (by rw [E.boolL_len, hn]) (tB_get hx) 0 nid Fz.size_4 rfl rfl (by omega) rfl rfl]
 simp [E.boolL, List.map_set, enB, putL]
def wlT (f : Nat → Bool) (n i : Nat) : List Bool := (List.range n).map fun j => decide (j < i) && f j
theorem wlT_len (f : Nat → Bool) (n i : Nat) : (wlT f n i).length = n := by simp [wlT]
theorem wlT_0 (f : Nat → Bool) (n : Nat) : wlT f n 0 = List.replicate n false := by
 apply List.ext_getElem <;> simp [wlT]
theorem wlT_get (f : Nat → Bool) {n i j : Nat} (hj : j < n) : (wlT f n i)[j]? = some (decide (j < i) && f j) := by simp [wlT, hj]
theorem wlT_set (f : Nat → Bool) {n i : Nat} : (wlT f n i).set i (f i) = wlT f n (i + 1) := by
 apply List.ext_getElem
 ·simp [wlT]
 ·intro k h1 h2
  rw [List.getElem_set]
  simp only [wlT, List.getElem_map, List.getElem_range]
  split
  ·subst_vars; simp
  ·rename_i hne
   congr 1
   rw [decide_eq_decide]
   omega
theorem taxi_len {l : E.LandM} (hl : E.LandOk l) {frm to : Int} (hto : 0 ≤ to ∧ to < (l.ground.length : Int)) {v : E.Cst} (hv : E.mget (E.costsT l to) frm = some v) : (E.taxiA l frm to).length ≤ 1000 := by
 have hm : E.MapOk l.ground.length (E.costsT l to) := E.farA_ok hl.small.2 _ _ (E.str_ok hl) hto
 have h1 := (hm.b _ _ hv).2.2.2.2
 have h2 := E.alongF_len (E.costsT l to) (E.strL l.wide l.deep) to (E.cellsN (E.costsT l to) frm + 1) frm
 have h3 : E.cellsN (E.costsT l to) frm = v.cells.toNat := by simp [E.cellsN, hv]
 unfold E.taxiA E.alongA
 omega
set_option maxHeartbeats 8000000 in
theorem topTaxied_at (s : Se) (gd : D) (h : SeL s gd) (t : Tr) (hd : t.depths.length ≤ 9223372036854775807) (dr fr to : Int) : Pure Tryz.prog 3 [.agg (s.c gd), .int .i64 dr, .int .i64 fr, .int .i64 to, .agg t.c] (.bool true) := by
 have vg := fun hp => En.view h.gd hp
 have lg := En.lt h.gd
 have cg := fun hp => En.cur h.gd hp
 have pS := sea20_t s gd h
 have pK := E.known20_t
 have pT := fun hd => rTruth_t s gd h t hd
 have pA := fun hs ht => rAgrees_t s gd h hs t ht
 have pD := fun i => Deepest_t (lkI s gd t i) h 1
 simp only [Se.c, Se.cr, Wx.c, gaC] at pS pT pA ⊢
 refine pure_of_pieces (rs := [.tmp 10]) (m := 267) [(3, [(18, true, false, []), (1, false, false, [])]), (7, [(20, false, false, [])]), (17, [(31, false, false, [])]), (19, [(18, false, false, [])])] oNone_ok (by kernel_rfl) Tryz.func3 rfl (by kernel_rfl) rfl rfl (by kernel_rfl) ?_
 refine awp_peel (T := [(3, [(18, true, false, []), (1, false, false, [])]), (7, [(20, false, false, [])]), (17, [(31, false, false, [])]), (19, [(18, false, false, [])])]) oNone_ok (by kernel_rfl) (by kernel_rfl) ?_
 simp only [FS, ↓RE, okR, argEnv, Nat.reduceAdd, Nat.reduceSub, Nat.reduceLT, Nat.reduceLeDiff, Nat.reduceEqDiff, reduceIte, RT, RM]
 refine awp_peel (T := [(3, [(18, true, false, []), (1, false, false, [])]), (7, [(20, false, false, [])]), (17, [(31, false, false, [])]), (19, [(18, false, false, [])])]) oNone_ok (by kernel_rfl) (by kernel_rfl) ?_
 simp only [List.append_eq, List.cons_append, List.nil_append]
 simp only [FS, ↓RE, okR, argEnv, Nat.reduceAdd, Nat.reduceSub, Nat.reduceLT, Nat.reduceLeDiff, Nat.reduceEqDiff, reduceIte, RT, RM, vg, lg, cg, List.append_eq, List.cons_append, List.nil_append]
 refine call_of_pure' pS (by simp [D.ltL, D.lt, lg]) (by simp [D.lt]) ?_
 cases hsea : sea20B s
 ·simp only [FS, ↓RE, okR, argEnv, Nat.reduceAdd, Nat.reduceSub, Nat.reduceLT, Nat.reduceLeDiff, Nat.reduceEqDiff, reduceIte, RT, RM, vg, lg, cg, Bool.not_false]
  refine call_of_pure pK rfl ?_
  simp only [FS, ↓RE, okR, argEnv, Nat.reduceAdd, Nat.reduceSub, Nat.reduceLT, Nat.reduceLeDiff, Nat.reduceEqDiff, reduceIte, RT, RM]
 by_cases hq1 : 60 < s.depths.length
 ·have q1 : decide ((60 : Int) < (s.depths.length : Int)) = true := by simp; omega
  simp only [FS, ↓RE, okR, argEnv, Nat.reduceAdd, Nat.reduceSub, Nat.reduceLT, Nat.reduceLeDiff, Nat.reduceEqDiff, reduceIte, RT, RM, vg, lg, cg, Bool.not_true, List.length_map, q1]
  refine call_of_pure pK rfl ?_
  simp only [FS, ↓RE, okR, argEnv, Nat.reduceAdd, Nat.reduceSub, Nat.reduceLT, Nat.reduceLeDiff, Nat.reduceEqDiff, reduceIte, RT, RM]
 have q1 : decide ((60 : Int) < (s.depths.length : Int)) = false := by simp; omega
 by_cases hq2 : dr < 0
 ·have q2 : decide (dr < 0) = true := by simp; omega
  simp only [FS, ↓RE, okR, argEnv, Nat.reduceAdd, Nat.reduceSub, Nat.reduceLT, Nat.reduceLeDiff, Nat.reduceEqDiff, reduceIte, RT, RM, vg, lg, cg, Bool.not_true, List.length_map, q1, q2]
  refine call_of_pure pK rfl ?_
  simp only [FS, ↓RE, okR, argEnv, Nat.reduceAdd, Nat.reduceSub, Nat.reduceLT, Nat.reduceLeDiff, Nat.reduceEqDiff, reduceIte, RT, RM]
 have q2 : decide (dr < 0) = false := by simp; omega
 by_cases hq3 : 5000 < dr
 ·have q3 : decide (5000 < dr) = true := by simp; omega
  simp only [FS, ↓RE, okR, argEnv, Nat.reduceAdd, Nat.reduceSub, Nat.reduceLT, Nat.reduceLeDiff, Nat.reduceEqDiff, reduceIte, RT, RM, vg, lg, cg, Bool.not_true, List.length_map, q1, q2, q3]
  refine call_of_pure pK rfl ?_
  simp only [FS, ↓RE, okR, argEnv, Nat.reduceAdd, Nat.reduceSub, Nat.reduceLT, Nat.reduceLeDiff, Nat.reduceEqDiff, reduceIte, RT, RM]
 have q3 : decide (5000 < dr) = false := by simp; omega
 by_cases hq4 : fr < 0
 ·have q4 : decide (fr < 0) = true := by simp; omega
  simp only [FS, ↓RE, okR, argEnv, Nat.reduceAdd, Nat.reduceSub, Nat.reduceLT, Nat.reduceLeDiff, Nat.reduceEqDiff, reduceIte, RT, RM, vg, lg, cg, Bool.not_true, List.length_map, q1, q2, q3, q4]
  refine call_of_pure pK rfl ?_
  simp only [FS, ↓RE, okR, argEnv, Nat.reduceAdd, Nat.reduceSub, Nat.reduceLT, Nat.reduceLeDiff, Nat.reduceEqDiff, reduceIte, RT, RM]
 have q4 : decide (fr < 0) = false := by simp; omega
 by_cases hq5 : (s.depths.length : Int) ≤ fr
 ·have q5 : decide ((s.depths.length : Int) ≤ fr) = true := by simp; omega
  simp only [FS, ↓RE, okR, argEnv, Nat.reduceAdd, Nat.reduceSub, Nat.reduceLT, Nat.reduceLeDiff, Nat.reduceEqDiff, reduceIte, RT, RM, vg, lg, cg, Bool.not_true, List.length_map, q1, q2, q3, q4, q5]
  refine call_of_pure pK rfl ?_
  simp only [FS, ↓RE, okR, argEnv, Nat.reduceAdd, Nat.reduceSub, Nat.reduceLT, Nat.reduceLeDiff, Nat.reduceEqDiff, reduceIte, RT, RM]
 have q5 : decide ((s.depths.length : Int) ≤ fr) = false := by simp; omega
 by_cases hq6 : to < 0
 ·have q6 : decide (to < 0) = true := by simp; omega
  simp only [FS, ↓RE, okR, argEnv, Nat.reduceAdd, Nat.reduceSub, Nat.reduceLT, Nat.reduceLeDiff, Nat.reduceEqDiff, reduceIte, RT, RM, vg, lg, cg, Bool.not_true, List.length_map, q1, q2, q3, q4, q5, q6]
  refine call_of_pure pK rfl ?_
  simp only [FS, ↓RE, okR, argEnv, Nat.reduceAdd, Nat.reduceSub, Nat.reduceLT, Nat.reduceLeDiff, Nat.reduceEqDiff, reduceIte, RT, RM]
 have q6 : decide (to < 0) = false := by simp; omega
 by_cases hq7 : (s.depths.length : Int) ≤ to
 ·have q7 : decide ((s.depths.length : Int) ≤ to) = true := by simp; omega
  simp only [FS, ↓RE, okR, argEnv, Nat.reduceAdd, Nat.reduceSub, Nat.reduceLT, Nat.reduceLeDiff, Nat.reduceEqDiff, reduceIte, RT, RM, vg, lg, cg, Bool.not_true, List.length_map, q1, q2, q3, q4, q5, q6, q7]
  refine call_of_pure pK rfl ?_
  simp only [FS, ↓RE, okR, argEnv, Nat.reduceAdd, Nat.reduceSub, Nat.reduceLT, Nat.reduceLeDiff, Nat.reduceEqDiff, reduceIte, RT, RM]
 have q7 : decide ((s.depths.length : Int) ≤ to) = false := by simp; omega
 by_cases hq8 : 200 < t.depths.length
 ·have q8 : decide ((200 : Int) < (t.depths.length : Int)) = true := by simp; omega
  simp only [FS, ↓RE, okR, argEnv, Nat.reduceAdd, Nat.reduceSub, Nat.reduceLT, Nat.reduceLeDiff, Nat.reduceEqDiff, reduceIte, RT, RM, vg, lg, cg, Bool.not_true, List.length_map, q1, q2, q3, q4, q5, q6, q7, q8]
  refine call_of_pure pK rfl ?_
  simp only [FS, ↓RE, okR, argEnv, Nat.reduceAdd, Nat.reduceSub, Nat.reduceLT, Nat.reduceLeDiff, Nat.reduceEqDiff, reduceIte, RT, RM]
 have q8 : decide ((200 : Int) < (t.depths.length : Int)) = false := by simp; omega
 by_cases hq9 : 20 < t.boats.length
 ·have q9 : decide ((20 : Int) < (t.boats.length : Int)) = true := by simp; omega
  simp only [FS, ↓RE, okR, argEnv, Nat.reduceAdd, Nat.reduceSub, Nat.reduceLT, Nat.reduceLeDiff, Nat.reduceEqDiff, reduceIte, RT, RM, vg, lg, cg, Bool.not_true, List.length_map, q1, q2, q3, q4, q5, q6, q7, q8, q9]
  refine call_of_pure pK rfl ?_
  simp only [FS, ↓RE, okR, argEnv, Nat.reduceAdd, Nat.reduceSub, Nat.reduceLT, Nat.reduceLeDiff, Nat.reduceEqDiff, reduceIte, RT, RM]
 have q9 : decide ((20 : Int) < (t.boats.length : Int)) = false := by simp; omega
 simp only [FS, ↓RE, okR, argEnv, Nat.reduceAdd, Nat.reduceSub, Nat.reduceLT, Nat.reduceLeDiff, Nat.reduceEqDiff, reduceIte, RT, RM, vg, lg, cg, Bool.not_true, List.length_map, q1, q2, q3, q4, q5, q6, q7, q8, q9]
 refine call_of_pure' (pT (by omega)) (by simp [D.ltL, D.lt, lg]) (by simp [D.lt]) ?_
 cases htr : okTr s t
 ·simp only [FS, ↓RE, okR, argEnv, Nat.reduceAdd, Nat.reduceSub, Nat.reduceLT, Nat.reduceLeDiff, Nat.reduceEqDiff, reduceIte, RT, RM, vg, lg, cg, Bool.not_false]
  refine call_of_pure pK rfl ?_
  simp only [FS, ↓RE, okR, argEnv, Nat.reduceAdd, Nat.reduceSub, Nat.reduceLT, Nat.reduceLeDiff, Nat.reduceEqDiff, reduceIte, RT, RM]
 have hs : okSe s = true := by simp only [sea20B, Bool.and_eq_true] at hsea; exact hsea.2.1
 have hso : soundW s.w = true := by simp only [sea20B, Bool.and_eq_true] at hsea; exact hsea.2.2
 have ht := trOk htr
 simp only [FS, ↓RE, okR, argEnv, Nat.reduceAdd, Nat.reduceSub, Nat.reduceLT, Nat.reduceLeDiff, Nat.reduceEqDiff, reduceIte, RT, RM, vg, lg, cg, Bool.not_true]
 refine call_of_pure' (pA hs ht) (by simp [D.ltL, D.lt, lg]) (by simp [D.lt]) ?_
 cases hag : agB s t
 ·simp only [FS, ↓RE, okR, argEnv, Nat.reduceAdd, Nat.reduceSub, Nat.reduceLT, Nat.reduceLeDiff, Nat.reduceEqDiff, reduceIte, RT, RM, vg, lg, cg, Bool.not_false]
  refine call_of_pure pK rfl ?_
  simp only [FS, ↓RE, okR, argEnv, Nat.reduceAdd, Nat.reduceSub, Nat.reduceLT, Nat.reduceLeDiff, Nat.reduceEqDiff, reduceIte, RT, RM]
 have ha := agOk hag
 simp only [FS, ↓RE, okR, argEnv, Nat.reduceAdd, Nat.reduceSub, Nat.reduceLT, Nat.reduceLeDiff, Nat.reduceEqDiff, reduceIte, RT, RM, vg, lg, cg, Bool.not_true]
 have hn60 : s.depths.length ≤ 60 := by omega
 have mi := fun h nid => E.make_int h nid s.depths.length (by omega)
 have mb := fun h nid => mk_bool h nid s.depths.length (by omega)
 refine awp_imp (imp_view (e := [(1, .int .i64 dr), (2, .int .i64 fr), (3, .int .i64 to), (5, .ref [.int .i64 s.wide, .int .i64 s.deep, .sl (s.depths.map enS.d), .int .i64 s.w.tide.rate, .int .i64 s.w.tide.least, .int .i64 s.w.tide.most, .sl (s.w.tide.rs.map Rd.d), .int .i64 s.w.east.rate, .int .i64 s.w.east.least, .int .i64 s.w.east.most, .sl (s.w.east.rs.map Rd.d), .int .i64 s.w.north.rate, .int .i64 s.w.north.least, .int .i64 s.w.north.most, .sl (s.w.north.rs.map Rd.d), .int .i64 s.w.wave.rate, .int .i64 s.w.wave.least, .int .i64 s.w.wave.most, .sl (s.w.wave.rs.map Rd.d), .int .i64 s.w.swell.rate, .int .i64 s.w.swell.least, .int .i64 s.w.swell.most, .sl (s.w.swell.rs.map Rd.d), .sl (s.boats.map enBt.d), gd] 0), (9, .ref t.c 0)]) (h' := []) (nid' := 0) (n' := 267) ?_) ?_
 ·simp [headW, heapW, envW, blkLt, D.ltL, D.lt, look, hget, view, viewL, lg, vg]
 refine awp_cutA [(1, .int .i64 dr), (2, .int .i64 fr), (3, .int .i64 to), (5, .ref [.int .i64 s.wide, .int .i64 s.deep, .sl (s.depths.map enS.d), .int .i64 s.w.tide.rate, .int .i64 s.w.tide.least, .int .i64 s.w.tide.most, .sl (s.w.tide.rs.map Rd.d), .int .i64 s.w.east.rate, .int .i64 s.w.east.least, .int .i64 s.w.east.most, .sl (s.w.east.rs.map Rd.d), .int .i64 s.w.north.rate, .int .i64 s.w.north.least, .int .i64 s.w.north.most, .sl (s.w.north.rs.map Rd.d), .int .i64 s.w.wave.rate, .int .i64 s.w.wave.least, .int .i64 s.w.wave.most, .sl (s.w.wave.rs.map Rd.d), .int .i64 s.w.swell.rate, .int .i64 s.w.swell.least, .int .i64 s.w.swell.most, .sl (s.w.swell.rs.map Rd.d), .sl (s.boats.map enBt.d), gd] 0), (9, .ref t.c 0), (11, .ptr 7 0)] [(7, .box [.int .i64 s.wide, .int .i64 s.deep, .osl 5 s.depths.length, .osl 6 s.depths.length, .int .i64 0]), (6, .arr 4 1 (E.boolL (List.replicate s.depths.length false))), (5, .arr 3 1 (E.intL (List.replicate s.depths.length 0)))] 8 267 ?_ ?_
 ·refine awp_slots (σ := List Nat × Bool) oNone_ok (by kernel_rfl) OkT (hhS s.wide s.deep s.depths.length) (fun m => m.1.length)
   (fun m i => match i with | 0 | 1 | 3 | 6 | 11 => .ref [.int .i64 s.wide, .int .i64 s.deep, .sl (s.depths.map enS.d), .int .i64 s.w.tide.rate, .int .i64 s.w.tide.least, .int .i64 s.w.tide.most, .sl (s.w.tide.rs.map Rd.d), .int .i64 s.w.east.rate, .int .i64 s.w.east.least, .int .i64 s.w.east.most, .sl (s.w.east.rs.map Rd.d), .int .i64 s.w.north.rate, .int .i64 s.w.north.least, .int .i64 s.w.north.most, .sl (s.w.north.rs.map Rd.d), .int .i64 s.w.wave.rate, .int .i64 s.w.wave.least, .int .i64 s.w.wave.most, .sl (s.w.wave.rs.map Rd.d), .int .i64 s.w.swell.rate, .int .i64 s.w.swell.least, .int .i64 s.w.swell.most, .sl (s.w.swell.rs.map Rd.d), .sl (s.boats.map enBt.d), gd] 0 | 2 => .int .i64 s.wide | 4 => .ref [.int .i64 s.wide, .int .i64 s.deep, .sl (s.depths.map enS.d), .int .i64 s.w.tide.rate, .int .i64 s.w.tide.least, .int .i64 s.w.tide.most, .sl (s.w.tide.rs.map Rd.d), .int .i64 s.w.east.rate, .int .i64 s.w.east.least, .int .i64 s.w.east.most, .sl (s.w.east.rs.map Rd.d), .int .i64 s.w.north.rate, .int .i64 s.w.north.least, .int .i64 s.w.north.most, .sl (s.w.north.rs.map Rd.d), .int .i64 s.w.wave.rate, .int .i64 s.w.wave.least, .int .i64 s.w.wave.most, .sl (s.w.wave.rs.map Rd.d), .int .i64 s.w.swell.rate, .int .i64 s.w.swell.least, .int .i64 s.w.swell.most, .sl (s.w.swell.rs.map Rd.d), .sl (s.boats.map enBt.d), gd] 1 | 5 => .int .i64 s.deep | 7 | 12 => .ref [.int .i64 s.wide, .int .i64 s.deep, .sl (s.depths.map enS.d), .int .i64 s.w.tide.rate, .int .i64 s.w.tide.least, .int .i64 s.w.tide.most, .sl (s.w.tide.rs.map Rd.d), .int .i64 s.w.east.rate, .int .i64 s.w.east.least, .int .i64 s.w.east.most, .sl (s.w.east.rs.map Rd.d), .int .i64 s.w.north.rate, .int .i64 s.w.north.least, .int .i64 s.w.north.most, .sl (s.w.north.rs.map Rd.d), .int .i64 s.w.wave.rate, .int .i64 s.w.wave.least, .int .i64 s.w.wave.most, .sl (s.w.wave.rs.map Rd.d), .int .i64 s.w.swell.rate, .int .i64 s.w.swell.least, .int .i64 s.w.swell.most, .sl (s.w.swell.rs.map Rd.d), .sl (s.boats.map enBt.d), gd] 2 | 8 | 13 => .sl (s.depths.map enS.d) | 9 | 14 => .int .i64 (s.depths.length : Int) | 10 => .osl (idT 10 m.1) s.depths.length | 15 => .osl (idT 15 m.1) s.depths.length | 16 => .agg [.int .i64 s.wide, .int .i64 s.deep, .osl (idT 10 m.1) s.depths.length, .osl (idT 15 m.1) s.depths.length, .int .i64 0] | 17 => .ptr (idT 17 m.1) 0 | _ => .any) ([], false)
   (by kernel_rfl) (by kernel_rfl) rfl rfl ⟨List.nodup_nil, by simp, by simp, by simp, by simp, by simp⟩ ?_ ?_
  ·intro m L i o e hok hcl hoo hnr hr hsl
   have hi : i < 19 := lt_of_arr hoo
   obtain rfl | rfl | rfl | rfl | rfl | rfl | rfl | rfl | rfl | rfl | rfl | rfl | rfl | rfl | rfl | rfl | rfl | rfl | rfl : i = 0 ∨ i = 1 ∨ i = 2 ∨ i = 3 ∨ i = 4 ∨ i = 5 ∨ i = 6 ∨ i = 7 ∨ i = 8 ∨ i = 9 ∨ i = 10 ∨ i = 11 ∨ i = 12 ∨ i = 13 ∨ i = 14 ∨ i = 15 ∨ i = 16 ∨ i = 17 ∨ i = 18 := by omega
   ·simp only [List.getElem?_toArray, List.getElem?_cons_succ, List.getElem?_cons_zero, Option.some.injEq] at hoo
    subst hoo
    have k5 := hsl.base 5 rfl
    refine ⟨rfl, ?_⟩
    simp only [FS, ↓RE, okR, argEnv, Nat.reduceAdd, Nat.reduceSub, Nat.reduceLT, Nat.reduceLeDiff, Nat.reduceEqDiff, reduceIte, RT, RM, List.length_map, vg, lg, cg, k5]
    exact ⟨m, okT_read hok (by decide) (by decide) (by decide) (by decide), by simp⟩
   ·simp only [List.getElem?_toArray, List.getElem?_cons_succ, List.getElem?_cons_zero, Option.some.injEq] at hoo
    subst hoo
    have k89 := hsl.new 0 _ 89 rfl (hr 0 (by decide)) rfl
    refine ⟨rfl, ?_⟩
    simp only [FS, ↓RE, okR, argEnv, Nat.reduceAdd, Nat.reduceSub, Nat.reduceLT, Nat.reduceLeDiff, Nat.reduceEqDiff, reduceIte, RT, RM, List.length_map, vg, lg, cg, k89]
    exact ⟨m, okT_read hok (by decide) (by decide) (by decide) (by decide), by simp⟩
   ·simp only [List.getElem?_toArray, List.getElem?_cons_succ, List.getElem?_cons_zero, Option.some.injEq] at hoo
    subst hoo
    have k90 := hsl.new 1 _ 90 rfl (hr 1 (by decide)) rfl
    refine ⟨rfl, ?_⟩
    simp only [FS, ↓RE, okR, argEnv, Nat.reduceAdd, Nat.reduceSub, Nat.reduceLT, Nat.reduceLeDiff, Nat.reduceEqDiff, reduceIte, RT, RM, List.length_map, vg, lg, cg, k90]
    exact ⟨m, okT_read hok (by decide) (by decide) (by decide) (by decide), by simp⟩
   ·simp only [List.getElem?_toArray, List.getElem?_cons_succ, List.getElem?_cons_zero, Option.some.injEq] at hoo
    subst hoo
    have k5 := hsl.base 5 rfl
    refine ⟨rfl, ?_⟩
    simp only [FS, ↓RE, okR, argEnv, Nat.reduceAdd, Nat.reduceSub, Nat.reduceLT, Nat.reduceLeDiff, Nat.reduceEqDiff, reduceIte, RT, RM, List.length_map, vg, lg, cg, k5]
    exact ⟨m, okT_read hok (by decide) (by decide) (by decide) (by decide), by simp⟩
   ·simp only [List.getElem?_toArray, List.getElem?_cons_succ, List.getElem?_cons_zero, Option.some.injEq] at hoo
    subst hoo
    have k92 := hsl.new 3 _ 92 rfl (hr 3 (by decide)) rfl
    refine ⟨rfl, ?_⟩
    simp only [FS, ↓RE, okR, argEnv, Nat.reduceAdd, Nat.reduceSub, Nat.reduceLT, Nat.reduceLeDiff, Nat.reduceEqDiff, reduceIte, RT, RM, List.length_map, vg, lg, cg, k92]
    exact ⟨m, okT_read hok (by decide) (by decide) (by decide) (by decide), by simp⟩
   ·simp only [List.getElem?_toArray, List.getElem?_cons_succ, List.getElem?_cons_zero, Option.some.injEq] at hoo
    subst hoo
    have k93 := hsl.new 4 _ 93 rfl (hr 4 (by decide)) rfl
    refine ⟨rfl, ?_⟩
    simp only [FS, ↓RE, okR, argEnv, Nat.reduceAdd, Nat.reduceSub, Nat.reduceLT, Nat.reduceLeDiff, Nat.reduceEqDiff, reduceIte, RT, RM, List.length_map, vg, lg, cg, k93]
    exact ⟨m, okT_read hok (by decide) (by decide) (by decide) (by decide), by simp⟩
   ·simp only [List.getElem?_toArray, List.getElem?_cons_succ, List.getElem?_cons_zero, Option.some.injEq] at hoo
    subst hoo
    have k5 := hsl.base 5 rfl
    refine ⟨rfl, ?_⟩
    simp only [FS, ↓RE, okR, argEnv, Nat.reduceAdd, Nat.reduceSub, Nat.reduceLT, Nat.reduceLeDiff, Nat.reduceEqDiff, reduceIte, RT, RM, List.length_map, vg, lg, cg, k5]
    exact ⟨m, okT_read hok (by decide) (by decide) (by decide) (by decide), by simp⟩
   ·simp only [List.getElem?_toArray, List.getElem?_cons_succ, List.getElem?_cons_zero, Option.some.injEq] at hoo
    subst hoo
    have k95 := hsl.new 6 _ 95 rfl (hr 6 (by decide)) rfl
    refine ⟨rfl, ?_⟩
    simp only [FS, ↓RE, okR, argEnv, Nat.reduceAdd, Nat.reduceSub, Nat.reduceLT, Nat.reduceLeDiff, Nat.reduceEqDiff, reduceIte, RT, RM, List.length_map, vg, lg, cg, k95]
    exact ⟨m, okT_read hok (by decide) (by decide) (by decide) (by decide), by simp⟩
   ·simp only [List.getElem?_toArray, List.getElem?_cons_succ, List.getElem?_cons_zero, Option.some.injEq] at hoo
    subst hoo
    have k96 := hsl.new 7 _ 96 rfl (hr 7 (by decide)) rfl
    refine ⟨rfl, ?_⟩
    simp only [FS, ↓RE, okR, argEnv, Nat.reduceAdd, Nat.reduceSub, Nat.reduceLT, Nat.reduceLeDiff, Nat.reduceEqDiff, reduceIte, RT, RM, List.length_map, vg, lg, cg, k96]
    exact ⟨m, okT_read hok (by decide) (by decide) (by decide) (by decide), by simp⟩
   ·simp only [List.getElem?_toArray, List.getElem?_cons_succ, List.getElem?_cons_zero, Option.some.injEq] at hoo
    subst hoo
    have k97 := hsl.new 8 _ 97 rfl (hr 8 (by decide)) rfl
    refine ⟨rfl, ?_⟩
    simp only [FS, ↓RE, okR, argEnv, Nat.reduceAdd, Nat.reduceSub, Nat.reduceLT, Nat.reduceLeDiff, Nat.reduceEqDiff, reduceIte, RT, RM, List.length_map, vg, lg, cg, k97]
    exact ⟨m, okT_read hok (by decide) (by decide) (by decide) (by decide), by simp⟩
   ·simp only [List.getElem?_toArray, List.getElem?_cons_succ, List.getElem?_cons_zero, Option.some.injEq] at hoo
    subst hoo
    have k98 := hsl.new 9 _ 98 rfl (hr 9 (by decide)) rfl
    refine ⟨rfl, ?_⟩
    have hm2 : m.2 = false := by
     cases hm : m.2 with
     | false => rfl
     | true => exact absurd (hcl 18 10 (hok.s.1 hm) (by decide)) hnr
    have hh0 : hhS s.wide s.deep s.depths.length m = hhT s.depths.length m.1 := by simp [hhS, hm2]
    rw [hh0]
    simp only [FS, ↓RE, okR, argEnv, Nat.reduceAdd, Nat.reduceSub, Nat.reduceLT, Nat.reduceLeDiff, Nat.reduceEqDiff, reduceIte, RT, RM, mi, mb, k98]
    refine ⟨(10 :: m.1, m.2), okT_add hok (by decide) hnr, ?_, ?_⟩
    ·exact fun j hj => match j, hj with | 0, _ => rfl | 1, _ => rfl | 2, _ => rfl | 3, _ => rfl | 4, _ => rfl | 5, _ => rfl | 6, _ => rfl | 7, _ => rfl | 8, _ => rfl | 9, _ => rfl | 10, h => absurd h hnr | 11, _ => rfl | 12, _ => rfl | 13, _ => rfl | 14, _ => rfl | 15, _ => by simp [idT] | 16, h => absurd (hcl 16 10 h (by decide)) hnr | 17, _ => by simp [idT] | 18, _ => rfl | n + 19, _ => rfl
    ·simp [idT, hhS, hhT, evT, hm2]
   ·simp only [List.getElem?_toArray, List.getElem?_cons_succ, List.getElem?_cons_zero, Option.some.injEq] at hoo
    subst hoo
    have k5 := hsl.base 5 rfl
    refine ⟨rfl, ?_⟩
    simp only [FS, ↓RE, okR, argEnv, Nat.reduceAdd, Nat.reduceSub, Nat.reduceLT, Nat.reduceLeDiff, Nat.reduceEqDiff, reduceIte, RT, RM, List.length_map, vg, lg, cg, k5]
    exact ⟨m, okT_read hok (by decide) (by decide) (by decide) (by decide), by simp⟩
   ·simp only [List.getElem?_toArray, List.getElem?_cons_succ, List.getElem?_cons_zero, Option.some.injEq] at hoo
    subst hoo
    have k100 := hsl.new 11 _ 100 rfl (hr 11 (by decide)) rfl
    refine ⟨rfl, ?_⟩
    simp only [FS, ↓RE, okR, argEnv, Nat.reduceAdd, Nat.reduceSub, Nat.reduceLT, Nat.reduceLeDiff, Nat.reduceEqDiff, reduceIte, RT, RM, List.length_map, vg, lg, cg, k100]
    exact ⟨m, okT_read hok (by decide) (by decide) (by decide) (by decide), by simp⟩
   ·simp only [List.getElem?_toArray, List.getElem?_cons_succ, List.getElem?_cons_zero, Option.some.injEq] at hoo
    subst hoo
    have k101 := hsl.new 12 _ 101 rfl (hr 12 (by decide)) rfl
    refine ⟨rfl, ?_⟩
    simp only [FS, ↓RE, okR, argEnv, Nat.reduceAdd, Nat.reduceSub, Nat.reduceLT, Nat.reduceLeDiff, Nat.reduceEqDiff, reduceIte, RT, RM, List.length_map, vg, lg, cg, k101]
    exact ⟨m, okT_read hok (by decide) (by decide) (by decide) (by decide), by simp⟩
   ·simp only [List.getElem?_toArray, List.getElem?_cons_succ, List.getElem?_cons_zero, Option.some.injEq] at hoo
    subst hoo
    have k102 := hsl.new 13 _ 102 rfl (hr 13 (by decide)) rfl
    refine ⟨rfl, ?_⟩
    simp only [FS, ↓RE, okR, argEnv, Nat.reduceAdd, Nat.reduceSub, Nat.reduceLT, Nat.reduceLeDiff, Nat.reduceEqDiff, reduceIte, RT, RM, List.length_map, vg, lg, cg, k102]
    exact ⟨m, okT_read hok (by decide) (by decide) (by decide) (by decide), by simp⟩
   ·simp only [List.getElem?_toArray, List.getElem?_cons_succ, List.getElem?_cons_zero, Option.some.injEq] at hoo
    subst hoo
    have k103 := hsl.new 14 _ 103 rfl (hr 14 (by decide)) rfl
    refine ⟨rfl, ?_⟩
    have hm2 : m.2 = false := by
     cases hm : m.2 with
     | false => rfl
     | true => exact absurd (hcl 18 15 (hok.s.1 hm) (by decide)) hnr
    have hh0 : hhS s.wide s.deep s.depths.length m = hhT s.depths.length m.1 := by simp [hhS, hm2]
    rw [hh0]
    simp only [FS, ↓RE, okR, argEnv, Nat.reduceAdd, Nat.reduceSub, Nat.reduceLT, Nat.reduceLeDiff, Nat.reduceEqDiff, reduceIte, RT, RM, mi, mb, k103]
    refine ⟨(15 :: m.1, m.2), okT_add hok (by decide) hnr, ?_, ?_⟩
    ·exact fun j hj => match j, hj with | 0, _ => rfl | 1, _ => rfl | 2, _ => rfl | 3, _ => rfl | 4, _ => rfl | 5, _ => rfl | 6, _ => rfl | 7, _ => rfl | 8, _ => rfl | 9, _ => rfl | 10, _ => by simp [idT] | 11, _ => rfl | 12, _ => rfl | 13, _ => rfl | 14, _ => rfl | 15, h => absurd h hnr | 16, h => absurd (hcl 16 15 h (by decide)) hnr | 17, _ => by simp [idT] | 18, _ => rfl | n + 19, _ => rfl
    ·simp [idT, hhS, hhT, evT, hm2]
   ·simp only [List.getElem?_toArray, List.getElem?_cons_succ, List.getElem?_cons_zero, Option.some.injEq] at hoo
    subst hoo
    have k91 := hsl.new 2 _ 91 rfl (hr 2 (by decide)) rfl
    have k94 := hsl.new 5 _ 94 rfl (hr 5 (by decide)) rfl
    have k99 := hsl.new 10 _ 99 rfl (hr 10 (by decide)) rfl
    have k104 := hsl.new 15 _ 104 rfl (hr 15 (by decide)) rfl
    refine ⟨rfl, ?_⟩
    have hm2 : m.2 = false := by
     cases hm : m.2 with
     | false => rfl
     | true => exact absurd (hcl 18 16 (hok.s.1 hm) (by decide)) hnr
    have hh0 : hhS s.wide s.deep s.depths.length m = hhT s.depths.length m.1 := by simp [hhS, hm2]
    have l10 : L 10 := hr 10 (by decide)
    have l15 : L 15 := hr 15 (by decide)
    have g10 : hget (hhT s.depths.length m.1) (idT 10 m.1) = some (.arr 3 1 (E.intL (List.replicate s.depths.length 0))) := hhT_get _ (hok.a.2 l10)
    have g15 : hget (hhT s.depths.length m.1) (idT 15 m.1) = some (.arr 4 1 (E.boolL (List.replicate s.depths.length false))) := hhT_get _ (hok.b.2 l15)
    rw [hh0]
    simp only [FS, ↓RE, okR, argEnv, Nat.reduceAdd, Nat.reduceSub, Nat.reduceLT, Nat.reduceLeDiff, Nat.reduceEqDiff, reduceIte, RT, RM, vg, lg, cg, g10, g15, curC_arr, cells_osl, cur_osl, decide_true, E.intL, E.boolL, List.length_map, List.length_replicate, Nat.mul_one, k91, k94, k99, k104]
    exact ⟨m, okT_read hok (by decide) (by decide) (by decide) (by decide), by simp [hh0]⟩
   ·simp only [List.getElem?_toArray, List.getElem?_cons_succ, List.getElem?_cons_zero, Option.some.injEq] at hoo
    subst hoo
    refine ⟨rfl, ?_⟩
    have hm2 : m.2 = false := by
     cases hm : m.2 with
     | false => rfl
     | true => exact absurd (hcl 18 17 (hok.s.1 hm) (by decide)) hnr
    have hh0 : hhS s.wide s.deep s.depths.length m = hhT s.depths.length m.1 := by simp [hhS, hm2]
    rw [hh0]
    simp only [FS, ↓RE, okR, argEnv, Nat.reduceAdd, Nat.reduceSub, Nat.reduceLT, Nat.reduceLeDiff, Nat.reduceEqDiff, reduceIte, RT, RM, mi, mb]
    refine ⟨(17 :: m.1, m.2), okT_add hok (by decide) hnr, ?_, ?_⟩
    ·exact fun j hj => match j, hj with | 0, _ => rfl | 1, _ => rfl | 2, _ => rfl | 3, _ => rfl | 4, _ => rfl | 5, _ => rfl | 6, _ => rfl | 7, _ => rfl | 8, _ => rfl | 9, _ => rfl | 10, _ => by simp [idT] | 11, _ => rfl | 12, _ => rfl | 13, _ => rfl | 14, _ => rfl | 15, _ => by simp [idT] | 16, _ => by simp [idT] | 17, h => absurd h hnr | 18, _ => rfl | n + 19, _ => rfl
    ·simp [idT, hhS, hhT, evT, hm2]
   ·simp only [List.getElem?_toArray, List.getElem?_cons_succ, List.getElem?_cons_zero, Option.some.injEq] at hoo
    subst hoo
    have k11 := hsl.new 17 _ 11 rfl (hr 17 (by decide)) rfl
    have k105 := hsl.new 16 _ 105 rfl (hr 16 (by decide)) rfl
    refine ⟨rfl, ?_⟩
    have hm2 : m.2 = false := by
     cases hm : m.2 with
     | false => rfl
     | true => exact absurd (hok.s.1 hm) hnr
    have hh0 : hhS s.wide s.deep s.depths.length m = hhT s.depths.length m.1 := by simp [hhS, hm2]
    have l10 : L 10 := hcl 16 10 (hr 16 (by decide)) (by decide)
    have l15 : L 15 := hcl 16 15 (hr 16 (by decide)) (by decide)
    have g10 : hget (hhT s.depths.length m.1) (idT 10 m.1) = some (.arr 3 1 (E.intL (List.replicate s.depths.length 0))) := hhT_get _ (hok.a.2 l10)
    have g15 : hget (hhT s.depths.length m.1) (idT 15 m.1) = some (.arr 4 1 (E.boolL (List.replicate s.depths.length false))) := hhT_get _ (hok.b.2 l15)
    have g17 : hget (hhT s.depths.length m.1) (idT 17 m.1) = some (.box [.int .i64 0, .int .i64 0, .nils, .nils, .int .i64 0]) := hhT_get _ (hok.c.2 (hr 17 (by decide)))
    rw [hh0]
    simp only [FS, ↓RE, okR, argEnv, Nat.reduceAdd, Nat.reduceSub, Nat.reduceLT, Nat.reduceLeDiff, Nat.reduceEqDiff, reduceIte, RT, RM, stB_box, g10, g15, g17, curC_arr, cells_osl, cur_osl, decide_true, E.intL, E.boolL, List.length_map, List.length_replicate, Nat.mul_one, k11, k105]
    refine ⟨(m.1, true), okT_store hok, fun _ _ => rfl, ?_⟩
    simp [hhS, lastT, putL]
  ·intro m L e hok hall hsl
   have k1 := hsl.base 1 rfl
   have k2 := hsl.base 2 rfl
   have k3 := hsl.base 3 rfl
   have k5 := hsl.base 5 rfl
   have k9 := hsl.base 9 rfl
   have k11 := hsl.new 17 _ 11 rfl (hall 17 (by decide)) rfl
   have hp := perm3 m.1 hok.nd hok.sub (hok.a.2 (hall 10 (by decide))) (hok.b.2 (hall 15 (by decide))) (hok.c.2 (hall 17 (by decide)))
   have hm2 := hok.s.2 (hall 18 (by decide))
   obtain ⟨m, c⟩ := m
   simp only at hp hm2 k11
   subst hm2
   rcases hp with rfl | rfl | rfl | rfl | rfl | rfl
   ·refine (Imp.weak (weak_of (e := [(1, .int .i64 dr), (2, .int .i64 fr), (3, .int .i64 to), (5, .ref [.int .i64 s.wide, .int .i64 s.deep, .sl (s.depths.map enS.d), .int .i64 s.w.tide.rate, .int .i64 s.w.tide.least, .int .i64 s.w.tide.most, .sl (s.w.tide.rs.map Rd.d), .int .i64 s.w.east.rate, .int .i64 s.w.east.least, .int .i64 s.w.east.most, .sl (s.w.east.rs.map Rd.d), .int .i64 s.w.north.rate, .int .i64 s.w.north.least, .int .i64 s.w.north.most, .sl (s.w.north.rs.map Rd.d), .int .i64 s.w.wave.rate, .int .i64 s.w.wave.least, .int .i64 s.w.wave.most, .sl (s.w.wave.rs.map Rd.d), .int .i64 s.w.swell.rate, .int .i64 s.w.swell.least, .int .i64 s.w.swell.most, .sl (s.w.swell.rs.map Rd.d), .sl (s.boats.map enBt.d), gd] 0), (9, .ref t.c 0), (11, .ptr 0 0)]) (h := [(2, .arr 3 1 (E.intL (List.replicate s.depths.length 0))), (1, .arr 4 1 (E.boolL (List.replicate s.depths.length false))), (0, .box [.int .i64 s.wide, .int .i64 s.deep, .osl 2 s.depths.length, .osl 1 s.depths.length, .int .i64 0])]) (nid := 8) (n := 267) ?_)).trans
     (imp_move 2 5 (bi := .arr 3 1 (E.intL (List.replicate s.depths.length 0))) (by omega) rfl rfl (by omega) (by omega) ?_ ?_ ?_)
    ·simp [headW, heapW, envW, blkLt, D.ltL, D.lt, look, hget, hhS, hhT, hset, idT, evT, lastT, k1, k2, k3, k5, k9, k11, lg]
    ·simp [mvH, mvB, mvD, okM, okMB, D.lt, D.ltL, E.intL, E.boolL, lg]
    ·simp [mvH, mvB, mvD, okM, okMB, D.lt, D.ltL, E.intL, E.boolL, lg]
    refine imp_move 1 6 (bi := .arr 4 1 (E.boolL (List.replicate s.depths.length false))) (by omega) rfl rfl (by omega) (by omega) ?_ ?_ ?_
    ·simp [mvH, mvB, mvD, okM, okMB, D.lt, D.ltL, E.intL, E.boolL, lg]
    ·simp [mvH, mvB, mvD, okM, okMB, D.lt, D.ltL, E.intL, E.boolL, lg]
    refine imp_move 0 7 (bi := .box [.int .i64 s.wide, .int .i64 s.deep, .osl 5 s.depths.length, .osl 6 s.depths.length, .int .i64 0]) (by omega) rfl rfl (by omega) (by omega) ?_ ?_ (.weak (weak_of ?_))
    ·simp [mvH, mvB, mvD, okM, okMB, D.lt, D.ltL, E.intL, E.boolL, lg]
    ·simp [mvH, mvB, mvD, okM, okMB, D.lt, D.ltL, E.intL, E.boolL, lg]
    ·simp [headW, heapW, envW, blkLt, look, hget, mvH, mvB, mvD, okM, okMB, D.lt, D.ltL, E.intL, E.boolL, lg]
   ·refine (Imp.weak (weak_of (e := [(1, .int .i64 dr), (2, .int .i64 fr), (3, .int .i64 to), (5, .ref [.int .i64 s.wide, .int .i64 s.deep, .sl (s.depths.map enS.d), .int .i64 s.w.tide.rate, .int .i64 s.w.tide.least, .int .i64 s.w.tide.most, .sl (s.w.tide.rs.map Rd.d), .int .i64 s.w.east.rate, .int .i64 s.w.east.least, .int .i64 s.w.east.most, .sl (s.w.east.rs.map Rd.d), .int .i64 s.w.north.rate, .int .i64 s.w.north.least, .int .i64 s.w.north.most, .sl (s.w.north.rs.map Rd.d), .int .i64 s.w.wave.rate, .int .i64 s.w.wave.least, .int .i64 s.w.wave.most, .sl (s.w.wave.rs.map Rd.d), .int .i64 s.w.swell.rate, .int .i64 s.w.swell.least, .int .i64 s.w.swell.most, .sl (s.w.swell.rs.map Rd.d), .sl (s.boats.map enBt.d), gd] 0), (9, .ref t.c 0), (11, .ptr 1 0)]) (h := [(2, .arr 3 1 (E.intL (List.replicate s.depths.length 0))), (1, .box [.int .i64 s.wide, .int .i64 s.deep, .osl 2 s.depths.length, .osl 0 s.depths.length, .int .i64 0]), (0, .arr 4 1 (E.boolL (List.replicate s.depths.length false)))]) (nid := 8) (n := 267) ?_)).trans
     (imp_move 2 5 (bi := .arr 3 1 (E.intL (List.replicate s.depths.length 0))) (by omega) rfl rfl (by omega) (by omega) ?_ ?_ ?_)
    ·simp [headW, heapW, envW, blkLt, D.ltL, D.lt, look, hget, hhS, hhT, hset, idT, evT, lastT, k1, k2, k3, k5, k9, k11, lg]
    ·simp [mvH, mvB, mvD, okM, okMB, D.lt, D.ltL, E.intL, E.boolL, lg]
    ·simp [mvH, mvB, mvD, okM, okMB, D.lt, D.ltL, E.intL, E.boolL, lg]
    refine imp_move 0 6 (bi := .arr 4 1 (E.boolL (List.replicate s.depths.length false))) (by omega) rfl rfl (by omega) (by omega) ?_ ?_ ?_
    ·simp [mvH, mvB, mvD, okM, okMB, D.lt, D.ltL, E.intL, E.boolL, lg]
    ·simp [mvH, mvB, mvD, okM, okMB, D.lt, D.ltL, E.intL, E.boolL, lg]
    refine imp_move 1 7 (bi := .box [.int .i64 s.wide, .int .i64 s.deep, .osl 5 s.depths.length, .osl 6 s.depths.length, .int .i64 0]) (by omega) rfl rfl (by omega) (by omega) ?_ ?_ (.weak (weak_of ?_))
    ·simp [mvH, mvB, mvD, okM, okMB, D.lt, D.ltL, E.intL, E.boolL, lg]
    ·simp [mvH, mvB, mvD, okM, okMB, D.lt, D.ltL, E.intL, E.boolL, lg]
    ·simp [headW, heapW, envW, blkLt, look, hget, mvH, mvB, mvD, okM, okMB, D.lt, D.ltL, E.intL, E.boolL, lg]
   ·refine (Imp.weak (weak_of (e := [(1, .int .i64 dr), (2, .int .i64 fr), (3, .int .i64 to), (5, .ref [.int .i64 s.wide, .int .i64 s.deep, .sl (s.depths.map enS.d), .int .i64 s.w.tide.rate, .int .i64 s.w.tide.least, .int .i64 s.w.tide.most, .sl (s.w.tide.rs.map Rd.d), .int .i64 s.w.east.rate, .int .i64 s.w.east.least, .int .i64 s.w.east.most, .sl (s.w.east.rs.map Rd.d), .int .i64 s.w.north.rate, .int .i64 s.w.north.least, .int .i64 s.w.north.most, .sl (s.w.north.rs.map Rd.d), .int .i64 s.w.wave.rate, .int .i64 s.w.wave.least, .int .i64 s.w.wave.most, .sl (s.w.wave.rs.map Rd.d), .int .i64 s.w.swell.rate, .int .i64 s.w.swell.least, .int .i64 s.w.swell.most, .sl (s.w.swell.rs.map Rd.d), .sl (s.boats.map enBt.d), gd] 0), (9, .ref t.c 0), (11, .ptr 0 0)]) (h := [(2, .arr 4 1 (E.boolL (List.replicate s.depths.length false))), (1, .arr 3 1 (E.intL (List.replicate s.depths.length 0))), (0, .box [.int .i64 s.wide, .int .i64 s.deep, .osl 1 s.depths.length, .osl 2 s.depths.length, .int .i64 0])]) (nid := 8) (n := 267) ?_)).trans
     (imp_move 1 5 (bi := .arr 3 1 (E.intL (List.replicate s.depths.length 0))) (by omega) rfl rfl (by omega) (by omega) ?_ ?_ ?_)
    ·simp [headW, heapW, envW, blkLt, D.ltL, D.lt, look, hget, hhS, hhT, hset, idT, evT, lastT, k1, k2, k3, k5, k9, k11, lg]
    ·simp [mvH, mvB, mvD, okM, okMB, D.lt, D.ltL, E.intL, E.boolL, lg]
    ·simp [mvH, mvB, mvD, okM, okMB, D.lt, D.ltL, E.intL, E.boolL, lg]
    refine imp_move 2 6 (bi := .arr 4 1 (E.boolL (List.replicate s.depths.length false))) (by omega) rfl rfl (by omega) (by omega) ?_ ?_ ?_
    ·simp [mvH, mvB, mvD, okM, okMB, D.lt, D.ltL, E.intL, E.boolL, lg]
    ·simp [mvH, mvB, mvD, okM, okMB, D.lt, D.ltL, E.intL, E.boolL, lg]
    refine imp_move 0 7 (bi := .box [.int .i64 s.wide, .int .i64 s.deep, .osl 5 s.depths.length, .osl 6 s.depths.length, .int .i64 0]) (by omega) rfl rfl (by omega) (by omega) ?_ ?_ (.weak (weak_of ?_))
    ·simp [mvH, mvB, mvD, okM, okMB, D.lt, D.ltL, E.intL, E.boolL, lg]
    ·simp [mvH, mvB, mvD, okM, okMB, D.lt, D.ltL, E.intL, E.boolL, lg]
    ·simp [headW, heapW, envW, blkLt, look, hget, mvH, mvB, mvD, okM, okMB, D.lt, D.ltL, E.intL, E.boolL, lg]
   ·refine (Imp.weak (weak_of (e := [(1, .int .i64 dr), (2, .int .i64 fr), (3, .int .i64 to), (5, .ref [.int .i64 s.wide, .int .i64 s.deep, .sl (s.depths.map enS.d), .int .i64 s.w.tide.rate, .int .i64 s.w.tide.least, .int .i64 s.w.tide.most, .sl (s.w.tide.rs.map Rd.d), .int .i64 s.w.east.rate, .int .i64 s.w.east.least, .int .i64 s.w.east.most, .sl (s.w.east.rs.map Rd.d), .int .i64 s.w.north.rate, .int .i64 s.w.north.least, .int .i64 s.w.north.most, .sl (s.w.north.rs.map Rd.d), .int .i64 s.w.wave.rate, .int .i64 s.w.wave.least, .int .i64 s.w.wave.most, .sl (s.w.wave.rs.map Rd.d), .int .i64 s.w.swell.rate, .int .i64 s.w.swell.least, .int .i64 s.w.swell.most, .sl (s.w.swell.rs.map Rd.d), .sl (s.boats.map enBt.d), gd] 0), (9, .ref t.c 0), (11, .ptr 1 0)]) (h := [(2, .arr 4 1 (E.boolL (List.replicate s.depths.length false))), (1, .box [.int .i64 s.wide, .int .i64 s.deep, .osl 0 s.depths.length, .osl 2 s.depths.length, .int .i64 0]), (0, .arr 3 1 (E.intL (List.replicate s.depths.length 0)))]) (nid := 8) (n := 267) ?_)).trans
     (imp_move 0 5 (bi := .arr 3 1 (E.intL (List.replicate s.depths.length 0))) (by omega) rfl rfl (by omega) (by omega) ?_ ?_ ?_)
    ·simp [headW, heapW, envW, blkLt, D.ltL, D.lt, look, hget, hhS, hhT, hset, idT, evT, lastT, k1, k2, k3, k5, k9, k11, lg]
    ·simp [mvH, mvB, mvD, okM, okMB, D.lt, D.ltL, E.intL, E.boolL, lg]
    ·simp [mvH, mvB, mvD, okM, okMB, D.lt, D.ltL, E.intL, E.boolL, lg]
    refine imp_move 2 6 (bi := .arr 4 1 (E.boolL (List.replicate s.depths.length false))) (by omega) rfl rfl (by omega) (by omega) ?_ ?_ ?_
    ·simp [mvH, mvB, mvD, okM, okMB, D.lt, D.ltL, E.intL, E.boolL, lg]
    ·simp [mvH, mvB, mvD, okM, okMB, D.lt, D.ltL, E.intL, E.boolL, lg]
    refine imp_move 1 7 (bi := .box [.int .i64 s.wide, .int .i64 s.deep, .osl 5 s.depths.length, .osl 6 s.depths.length, .int .i64 0]) (by omega) rfl rfl (by omega) (by omega) ?_ ?_ (.weak (weak_of ?_))
    ·simp [mvH, mvB, mvD, okM, okMB, D.lt, D.ltL, E.intL, E.boolL, lg]
    ·simp [mvH, mvB, mvD, okM, okMB, D.lt, D.ltL, E.intL, E.boolL, lg]
    ·simp [headW, heapW, envW, blkLt, look, hget, mvH, mvB, mvD, okM, okMB, D.lt, D.ltL, E.intL, E.boolL, lg]
   ·refine (Imp.weak (weak_of (e := [(1, .int .i64 dr), (2, .int .i64 fr), (3, .int .i64 to), (5, .ref [.int .i64 s.wide, .int .i64 s.deep, .sl (s.depths.map enS.d), .int .i64 s.w.tide.rate, .int .i64 s.w.tide.least, .int .i64 s.w.tide.most, .sl (s.w.tide.rs.map Rd.d), .int .i64 s.w.east.rate, .int .i64 s.w.east.least, .int .i64 s.w.east.most, .sl (s.w.east.rs.map Rd.d), .int .i64 s.w.north.rate, .int .i64 s.w.north.least, .int .i64 s.w.north.most, .sl (s.w.north.rs.map Rd.d), .int .i64 s.w.wave.rate, .int .i64 s.w.wave.least, .int .i64 s.w.wave.most, .sl (s.w.wave.rs.map Rd.d), .int .i64 s.w.swell.rate, .int .i64 s.w.swell.least, .int .i64 s.w.swell.most, .sl (s.w.swell.rs.map Rd.d), .sl (s.boats.map enBt.d), gd] 0), (9, .ref t.c 0), (11, .ptr 2 0)]) (h := [(2, .box [.int .i64 s.wide, .int .i64 s.deep, .osl 1 s.depths.length, .osl 0 s.depths.length, .int .i64 0]), (1, .arr 3 1 (E.intL (List.replicate s.depths.length 0))), (0, .arr 4 1 (E.boolL (List.replicate s.depths.length false)))]) (nid := 8) (n := 267) ?_)).trans
     (imp_move 1 5 (bi := .arr 3 1 (E.intL (List.replicate s.depths.length 0))) (by omega) rfl rfl (by omega) (by omega) ?_ ?_ ?_)
    ·simp [headW, heapW, envW, blkLt, D.ltL, D.lt, look, hget, hhS, hhT, hset, idT, evT, lastT, k1, k2, k3, k5, k9, k11, lg]
    ·simp [mvH, mvB, mvD, okM, okMB, D.lt, D.ltL, E.intL, E.boolL, lg]
    ·simp [mvH, mvB, mvD, okM, okMB, D.lt, D.ltL, E.intL, E.boolL, lg]
    refine imp_move 0 6 (bi := .arr 4 1 (E.boolL (List.replicate s.depths.length false))) (by omega) rfl rfl (by omega) (by omega) ?_ ?_ ?_
    ·simp [mvH, mvB, mvD, okM, okMB, D.lt, D.ltL, E.intL, E.boolL, lg]
    ·simp [mvH, mvB, mvD, okM, okMB, D.lt, D.ltL, E.intL, E.boolL, lg]
    refine imp_move 2 7 (bi := .box [.int .i64 s.wide, .int .i64 s.deep, .osl 5 s.depths.length, .osl 6 s.depths.length, .int .i64 0]) (by omega) rfl rfl (by omega) (by omega) ?_ ?_ (.weak (weak_of ?_))
    ·simp [mvH, mvB, mvD, okM, okMB, D.lt, D.ltL, E.intL, E.boolL, lg]
    ·simp [mvH, mvB, mvD, okM, okMB, D.lt, D.ltL, E.intL, E.boolL, lg]
    ·simp [headW, heapW, envW, blkLt, look, hget, mvH, mvB, mvD, okM, okMB, D.lt, D.ltL, E.intL, E.boolL, lg]
   ·refine (Imp.weak (weak_of (e := [(1, .int .i64 dr), (2, .int .i64 fr), (3, .int .i64 to), (5, .ref [.int .i64 s.wide, .int .i64 s.deep, .sl (s.depths.map enS.d), .int .i64 s.w.tide.rate, .int .i64 s.w.tide.least, .int .i64 s.w.tide.most, .sl (s.w.tide.rs.map Rd.d), .int .i64 s.w.east.rate, .int .i64 s.w.east.least, .int .i64 s.w.east.most, .sl (s.w.east.rs.map Rd.d), .int .i64 s.w.north.rate, .int .i64 s.w.north.least, .int .i64 s.w.north.most, .sl (s.w.north.rs.map Rd.d), .int .i64 s.w.wave.rate, .int .i64 s.w.wave.least, .int .i64 s.w.wave.most, .sl (s.w.wave.rs.map Rd.d), .int .i64 s.w.swell.rate, .int .i64 s.w.swell.least, .int .i64 s.w.swell.most, .sl (s.w.swell.rs.map Rd.d), .sl (s.boats.map enBt.d), gd] 0), (9, .ref t.c 0), (11, .ptr 2 0)]) (h := [(2, .box [.int .i64 s.wide, .int .i64 s.deep, .osl 0 s.depths.length, .osl 1 s.depths.length, .int .i64 0]), (1, .arr 4 1 (E.boolL (List.replicate s.depths.length false))), (0, .arr 3 1 (E.intL (List.replicate s.depths.length 0)))]) (nid := 8) (n := 267) ?_)).trans
     (imp_move 0 5 (bi := .arr 3 1 (E.intL (List.replicate s.depths.length 0))) (by omega) rfl rfl (by omega) (by omega) ?_ ?_ ?_)
    ·simp [headW, heapW, envW, blkLt, D.ltL, D.lt, look, hget, hhS, hhT, hset, idT, evT, lastT, k1, k2, k3, k5, k9, k11, lg]
    ·simp [mvH, mvB, mvD, okM, okMB, D.lt, D.ltL, E.intL, E.boolL, lg]
    ·simp [mvH, mvB, mvD, okM, okMB, D.lt, D.ltL, E.intL, E.boolL, lg]
    refine imp_move 1 6 (bi := .arr 4 1 (E.boolL (List.replicate s.depths.length false))) (by omega) rfl rfl (by omega) (by omega) ?_ ?_ ?_
    ·simp [mvH, mvB, mvD, okM, okMB, D.lt, D.ltL, E.intL, E.boolL, lg]
    ·simp [mvH, mvB, mvD, okM, okMB, D.lt, D.ltL, E.intL, E.boolL, lg]
    refine imp_move 2 7 (bi := .box [.int .i64 s.wide, .int .i64 s.deep, .osl 5 s.depths.length, .osl 6 s.depths.length, .int .i64 0]) (by omega) rfl rfl (by omega) (by omega) ?_ ?_ (.weak (weak_of ?_))
    ·simp [mvH, mvB, mvD, okM, okMB, D.lt, D.ltL, E.intL, E.boolL, lg]
    ·simp [mvH, mvB, mvD, okM, okMB, D.lt, D.ltL, E.intL, E.boolL, lg]
    ·simp [headW, heapW, envW, blkLt, look, hget, mvH, mvB, mvD, okM, okMB, D.lt, D.ltL, E.intL, E.boolL, lg]
 obtain ⟨wet, hwet⟩ : ∃ f : Nat → Bool, f = fun i => wetI s gd t dr i := ⟨_, rfl⟩
 have hsz := okSe_sz hs
 have hdc : ∀ i, i < s.depths.length → ((DeepA (lkI s gd t i) 1).2 = 0 ∨ (DeepA (lkI s gd t i) 1).2 = 7) := fun i hi => by
  rw [deep_cases hs hso ht.minute hi]
  split
  ·exact .inr rfl
  ·exact .inl rfl
 have hwe : ∀ i, wet i = (decide ((DeepA (lkI s gd t i) 1).2 = 0) && decide (dr ≤ (DeepA (lkI s gd t i) 1).1)) := fun i => by rw [hwet]; rfl
 obtain ⟨dp, hdp⟩ : ∃ f : Nat → Int × Int, f = fun i => DeepA (lkI s gd t i) 1 := ⟨_, rfl⟩
 have hdp' : ∀ i, DeepA (lkI s gd t i) 1 = dp i := fun i => by rw [hdp]
 simp only [hdp'] at pD hdc hwe
 simp only [lkI, stI, Se.c, Se.cr, Wx.c, gaC, Sp.c] at pD
 refine awp_cutA [(1, .int .i64 dr), (2, .int .i64 fr), (3, .int .i64 to), (5, .ref [.int .i64 s.wide, .int .i64 s.deep, .sl (s.depths.map enS.d), .int .i64 s.w.tide.rate, .int .i64 s.w.tide.least, .int .i64 s.w.tide.most, .sl (s.w.tide.rs.map Rd.d), .int .i64 s.w.east.rate, .int .i64 s.w.east.least, .int .i64 s.w.east.most, .sl (s.w.east.rs.map Rd.d), .int .i64 s.w.north.rate, .int .i64 s.w.north.least, .int .i64 s.w.north.most, .sl (s.w.north.rs.map Rd.d), .int .i64 s.w.wave.rate, .int .i64 s.w.wave.least, .int .i64 s.w.wave.most, .sl (s.w.wave.rs.map Rd.d), .int .i64 s.w.swell.rate, .int .i64 s.w.swell.least, .int .i64 s.w.swell.most, .sl (s.w.swell.rs.map Rd.d), .sl (s.boats.map enBt.d), gd] 0), (9, .ref t.c 0), (11, .ptr 7 0)] [(7, .box [.int .i64 s.wide, .int .i64 s.deep, .osl 5 s.depths.length, .osl 6 s.depths.length, .int .i64 0]), (6, .arr 4 1 (E.boolL (wlT wet s.depths.length s.depths.length))), (5, .arr 3 1 (E.intL (List.replicate s.depths.length 0)))] 8 267 ?_ ?_
 ·refine awp_rest (T := [(3, [(18, true, false, []), (1, false, false, [])]), (7, [(20, false, false, [])]), (17, [(31, false, false, [])]), (19, [(18, false, false, [])])]) oNone_ok (by kernel_rfl) (by kernel_rfl) ?_
  simp only [FS, ↓RE, okR, argEnv, Nat.reduceAdd, Nat.reduceSub, Nat.reduceLT, Nat.reduceLeDiff, Nat.reduceEqDiff, reduceIte, RT, RM]
  refine loopV (ι := Nat) oNone_ok [(3, [(18, true, false, []), (1, false, false, [])]), (7, [(20, false, false, [])]), (17, [(31, false, false, [])]), (19, [(18, false, false, [])])] (fun i => [(1, .int .i64 dr), (2, .int .i64 fr), (3, .int .i64 to), (5, .ref [.int .i64 s.wide, .int .i64 s.deep, .sl (s.depths.map enS.d), .int .i64 s.w.tide.rate, .int .i64 s.w.tide.least, .int .i64 s.w.tide.most, .sl (s.w.tide.rs.map Rd.d), .int .i64 s.w.east.rate, .int .i64 s.w.east.least, .int .i64 s.w.east.most, .sl (s.w.east.rs.map Rd.d), .int .i64 s.w.north.rate, .int .i64 s.w.north.least, .int .i64 s.w.north.most, .sl (s.w.north.rs.map Rd.d), .int .i64 s.w.wave.rate, .int .i64 s.w.wave.least, .int .i64 s.w.wave.most, .sl (s.w.wave.rs.map Rd.d), .int .i64 s.w.swell.rate, .int .i64 s.w.swell.least, .int .i64 s.w.swell.most, .sl (s.w.swell.rs.map Rd.d), .sl (s.boats.map enBt.d), gd] 0), (9, .ref t.c 0), (11, .ptr 7 0), (12, .int .i64 (i : Int))]) (fun i => [(7, .box [.int .i64 s.wide, .int .i64 s.deep, .osl 5 s.depths.length, .osl 6 s.depths.length, .int .i64 0]), (6, .arr 4 1 (E.boolL (wlT wet s.depths.length i))), (5, .arr 3 1 (E.intL (List.replicate s.depths.length 0)))]) 8 (fun i => i ≤ s.depths.length) (fun i => s.depths.length - i) 0 (by kernel_rfl) (by kernel_rfl) (Nat.zero_le _) ?_ ?_
  ·simp [headW, heapW, envW, blkLt, D.ltL, D.lt, look, hget, lg, wlT_0]
  intro i hi
  rcases Nat.lt_or_ge i s.depths.length with hlt | hge
  rotate_left
  ·obtain rfl : i = s.depths.length := by omega
   simp only [FS, ↓RE, okR, argEnv, Nat.reduceAdd, Nat.reduceSub, Nat.reduceLT, Nat.reduceLeDiff, Nat.reduceEqDiff, reduceIte, RT, RM, decide_false, List.length_map, vg, lg, cg, Int.lt_irrefl]
   exact .weak (weak_of (by simp [headW, heapW, envW, blkLt, D.ltL, D.lt, look, hget, lg]))
  have hq : ((i : Int) < (s.depths.length : Int)) = True := by simp [hlt]
  have m1 := a_rem' (k := .i64) (x := (i : Int)) (y := s.wide) (by omega)
  have m2 : (i : Int).tmod s.wide = (i : Int) % s.wide := Int.tmod_eq_emod_of_nonneg (by omega)
  have d1 := a_quo' (k := .i64) (x := (i : Int)) (y := s.wide) (by omega)
  have d2 : (i : Int).tdiv s.wide = (i : Int) / s.wide := Int.tdiv_eq_ediv_of_nonneg (by omega)
  have d0 := stI_xy hs hlt
  have d3 := wrap_i64 (z := (i : Int) / s.wide) (by omega) (by omega)
  simp only [FS, ↓RE, okR, argEnv, Nat.reduceAdd, Nat.reduceSub, Nat.reduceLT, Nat.reduceLeDiff, Nat.reduceEqDiff, reduceIte, RT, RM, hq, decide_true, List.length_map, vg, lg, cg, m1, m2, d1, d2, d3]
  refine call_of_pure' (pD i) (by simp [D.ltL, D.lt, lg]) (by simp [D.ltL, D.lt]) ?_

  have wi := wrap_i64 (z := (i : Int) + 1) (by omega) (by omega)
  have x6 := fun h (hb : hget h 6 = some (.arr 4 1 (E.boolL (wlT wet s.depths.length i)))) => tB_ix (n := s.depths.length) hb (wlT_len _ _ _) hlt
  have s6 := fun h nid y (hb : hget h 6 = some (.arr 4 1 (E.boolL (wlT wet s.depths.length i)))) => tB_store (n := s.depths.length) hb (wlT_len _ _ _) (wlT_get wet hlt) nid y
  rcases hdc i hlt with hde | hde
  ·have hw : wet i = decide (dr ≤ (dp i).1) := by rw [hwe, hde]; simp
   have he : (wlT wet s.depths.length i).set i (decide (dr ≤ (dp i).1)) = wlT wet s.depths.length (i + 1) := by rw [← hw, wlT_set]
   simp only [FS, ↓RE, okR, argEnv, Nat.reduceAdd, Nat.reduceSub, Nat.reduceLT, Nat.reduceLeDiff, Nat.reduceEqDiff, reduceIte, RT, RM, hde, cur_osl, curC_arr, E.boolL_len, wlT_len, decide_true, decide_false, x6, s6, wi, Int.reduceBEq, Int.reduceBNe, beq_self_eq_true, bne_self_eq_false, vg, lg, cg]
   exact ⟨i + 1, by omega, by omega, by simp [headW, heapW, envW, blkLt, D.ltL, D.lt, look, hget, hset, lg, he]⟩
  ·have hw : wet i = false := by rw [hwe, hde]; simp
   have he : (wlT wet s.depths.length i).set i false = wlT wet s.depths.length (i + 1) := by rw [← hw, wlT_set]
   simp only [FS, ↓RE, okR, argEnv, Nat.reduceAdd, Nat.reduceSub, Nat.reduceLT, Nat.reduceLeDiff, Nat.reduceEqDiff, reduceIte, RT, RM, hde, cur_osl, curC_arr, E.boolL_len, wlT_len, decide_true, decide_false, x6, s6, wi, Int.reduceBEq, Int.reduceBNe, beq_self_eq_true, bne_self_eq_false, vg, lg, cg]
   exact ⟨i + 1, by omega, by omega, by simp [headW, heapW, envW, blkLt, D.ltL, D.lt, look, hget, hset, lg, he]⟩
 obtain ⟨lM, hlM⟩ : ∃ l : E.LandM, l = ⟨s.wide, s.deep, List.replicate s.depths.length 0, wlT wet s.depths.length s.depths.length, 0⟩ := ⟨_, rfl⟩
 have hgl : lM.ground.length = s.depths.length := by rw [hlM]; simp
 have hLL : E.LandL lM := by
  rw [hlM]
  exact ⟨by simp; omega, by simp [wlT]; omega⟩
 have hlB : E.landB lM = true := by
  rw [hlM]
  simp [E.landB, E.rI, wlT_len]
  omega
 have hLO := E.land_ok hLL hlB
 have hc1 : E.cellB lM fr = true := by simp [E.cellB, hlB, E.rI, hgl]; omega
 have hc2 : E.cellB lM to = true := by simp [E.cellB, hlB, E.rI, hgl]; omega
 have pX := E.run_Taxi_t lM hLL fr to
 have hcel := fun v hv => E.taxi_cells hLO (frm := fr) (to := to) (by rw [hgl]; omega) (v := v) hv
 have hlen := fun v hv => taxi_len hLO (frm := fr) (to := to) (by rw [hgl]; omega) (v := v) hv
 have hlc : lM.c = [.int .i64 s.wide, .int .i64 s.deep, .sl (E.intL (List.replicate s.depths.length 0)), .sl (E.boolL (wlT wet s.depths.length s.depths.length)), .int .i64 0] := by rw [hlM]; rfl
 have hwat : ∀ k : Nat, k < s.depths.length → E.wAt lM k = wet k := fun k hk => by
  rw [hlM]
  show ((wlT wet s.depths.length s.depths.length)[k]?.getD false) = _
  rw [wlT_get wet hk]
  simp [hk]
 unfold E.TaxiD at pX
 simp only [hc1, hc2, hlc, Bool.and_self, if_true] at pX
 rw [hgl] at hcel
 clear hlM hlB hLL hLO hc1 hc2
 refine awp_imp (imp_thaw 5 (.weak (weak_of (e := [(1, .int .i64 dr), (2, .int .i64 fr), (3, .int .i64 to), (5, .ref [.int .i64 s.wide, .int .i64 s.deep, .sl (s.depths.map enS.d), .int .i64 s.w.tide.rate, .int .i64 s.w.tide.least, .int .i64 s.w.tide.most, .sl (s.w.tide.rs.map Rd.d), .int .i64 s.w.east.rate, .int .i64 s.w.east.least, .int .i64 s.w.east.most, .sl (s.w.east.rs.map Rd.d), .int .i64 s.w.north.rate, .int .i64 s.w.north.least, .int .i64 s.w.north.most, .sl (s.w.north.rs.map Rd.d), .int .i64 s.w.wave.rate, .int .i64 s.w.wave.least, .int .i64 s.w.wave.most, .sl (s.w.wave.rs.map Rd.d), .int .i64 s.w.swell.rate, .int .i64 s.w.swell.least, .int .i64 s.w.swell.most, .sl (s.w.swell.rs.map Rd.d), .sl (s.boats.map enBt.d), gd] 0), (9, .ref t.c 0), (11, .ptr 7 0)]) (h := [(7, .box [.int .i64 s.wide, .int .i64 s.deep, .sl (E.intL (List.replicate s.depths.length 0)), .osl 6 s.depths.length, .int .i64 0]), (6, .arr 4 1 (E.boolL (wlT wet s.depths.length s.depths.length)))]) (nid := 8) (n := 267) ?_))) ?_
 ·simp [headW, heapW, envW, blkLt, D.ltL, D.lt, look, hget, frzHH, herase, frzBlk, frzD, lg, vg, E.boolL_len, E.intL_len, wlT_len]
 refine awp_imp (imp_thaw 6 (.weak (weak_of (e := [(1, .int .i64 dr), (2, .int .i64 fr), (3, .int .i64 to), (5, .ref [.int .i64 s.wide, .int .i64 s.deep, .sl (s.depths.map enS.d), .int .i64 s.w.tide.rate, .int .i64 s.w.tide.least, .int .i64 s.w.tide.most, .sl (s.w.tide.rs.map Rd.d), .int .i64 s.w.east.rate, .int .i64 s.w.east.least, .int .i64 s.w.east.most, .sl (s.w.east.rs.map Rd.d), .int .i64 s.w.north.rate, .int .i64 s.w.north.least, .int .i64 s.w.north.most, .sl (s.w.north.rs.map Rd.d), .int .i64 s.w.wave.rate, .int .i64 s.w.wave.least, .int .i64 s.w.wave.most, .sl (s.w.wave.rs.map Rd.d), .int .i64 s.w.swell.rate, .int .i64 s.w.swell.least, .int .i64 s.w.swell.most, .sl (s.w.swell.rs.map Rd.d), .sl (s.boats.map enBt.d), gd] 0), (9, .ref t.c 0), (11, .ptr 7 0)]) (h := [(7, .box [.int .i64 s.wide, .int .i64 s.deep, .sl (E.intL (List.replicate s.depths.length 0)), .sl (E.boolL (wlT wet s.depths.length s.depths.length)), .int .i64 0])]) (nid := 8) (n := 267) ?_))) ?_
 ·simp [headW, heapW, envW, blkLt, D.ltL, D.lt, look, hget, frzHH, herase, frzBlk, frzD, lg, vg, E.boolL_len, E.intL_len, wlT_len]
 refine awp_rest (T := [(3, [(18, true, false, []), (1, false, false, [])]), (7, [(20, false, false, [])]), (17, [(31, false, false, [])]), (19, [(18, false, false, [])])]) oNone_ok (by kernel_rfl) (by kernel_rfl) ?_
 simp only [FS, ↓RE, okR, argEnv, Nat.reduceAdd, Nat.reduceSub, Nat.reduceLT, Nat.reduceLeDiff, Nat.reduceEqDiff, reduceIte, RT, RM, vg, lg, cg]
 refine call_of_pure' pX (by simp [D.ltL, D.lt, lg]) (by split <;> simp [D.lt, D.ltL]) ?_
 cases hv : E.mget (E.costsT lM to) fr with
 | none =>
  simp only [FS, ↓RE, okR, argEnv, Nat.reduceAdd, Nat.reduceSub, Nat.reduceLT, Nat.reduceLeDiff, Nat.reduceEqDiff, reduceIte, RT, RM, vg, lg, cg, hv, ex_tup, Int.reduceBEq, Int.reduceBNe, beq_self_eq_true, bne_self_eq_false]
  refine call_of_pure pK rfl ?_
  simp only [FS, ↓RE, okR, argEnv, Nat.reduceAdd, Nat.reduceSub, Nat.reduceLT, Nat.reduceLeDiff, Nat.reduceEqDiff, reduceIte, RT, RM, vg, lg, cg, hv, ex_tup, Int.reduceBEq, Int.reduceBNe, beq_self_eq_true, bne_self_eq_false]
 | some v =>
  have hcel := hcel v hv
  have hlen := hlen v hv
  generalize E.taxiA lM fr to = P at *
  simp only [FS, ↓RE, okR, argEnv, Nat.reduceAdd, Nat.reduceSub, Nat.reduceLT, Nat.reduceLeDiff, Nat.reduceEqDiff, reduceIte, RT, RM, vg, lg, cg, hv, ex_tup, Int.reduceBEq, Int.reduceBNe, beq_self_eq_true, bne_self_eq_false]
  have hwt : s.boats.length = t.boats.length := ht.bl.symm
  refine loopV (ι := Nat) oNone_ok [(3, [(18, true, false, []), (1, false, false, [])]), (7, [(20, false, false, [])]), (17, [(31, false, false, [])]), (19, [(18, false, false, [])])] (fun i => [(1, .int .i64 dr), (2, .int .i64 fr), (3, .int .i64 to), (5, .ref [.int .i64 s.wide, .int .i64 s.deep, .sl (s.depths.map enS.d), .int .i64 s.w.tide.rate, .int .i64 s.w.tide.least, .int .i64 s.w.tide.most, .sl (s.w.tide.rs.map Rd.d), .int .i64 s.w.east.rate, .int .i64 s.w.east.least, .int .i64 s.w.east.most, .sl (s.w.east.rs.map Rd.d), .int .i64 s.w.north.rate, .int .i64 s.w.north.least, .int .i64 s.w.north.most, .sl (s.w.north.rs.map Rd.d), .int .i64 s.w.wave.rate, .int .i64 s.w.wave.least, .int .i64 s.w.wave.most, .sl (s.w.wave.rs.map Rd.d), .int .i64 s.w.swell.rate, .int .i64 s.w.swell.least, .int .i64 s.w.swell.most, .sl (s.w.swell.rs.map Rd.d), .sl (s.boats.map enBt.d), gd] 0), (9, .ref t.c 0), (15, .sl (E.intL P)), (17, .int .i64 (i : Int))]) (fun i => []) 0 (fun i => i ≤ P.length) (fun i => P.length - i) 0 (by kernel_rfl) (by kernel_rfl) (Nat.zero_le _) ?_ ?_
  ·simp [headW, heapW, envW, blkLt, D.ltL, D.lt, look, hget, lg]
  intro i hi
  rcases Nat.lt_or_ge i P.length with hlt | hge
  rotate_left
  ·have hq : ((i : Int) < (P.length : Int)) = False := by simp; omega
   simp only [FS, ↓RE, okR, argEnv, Nat.reduceAdd, Nat.reduceSub, Nat.reduceLT, Nat.reduceLeDiff, Nat.reduceEqDiff, reduceIte, RT, RM, hq, decide_false, E.intL_len, vg, lg, cg]
   refine call_of_pure pK rfl ?_
   simp only [FS, ↓RE, okR, argEnv, Nat.reduceAdd, Nat.reduceSub, Nat.reduceLT, Nat.reduceLeDiff, Nat.reduceEqDiff, reduceIte, RT, RM, hq, decide_false, E.intL_len, vg, lg, cg]
  have hq : ((i : Int) < (P.length : Int)) = True := by simp [hlt]
  have wi := wrap_i64 (z := (i : Int) + 1) (by omega) (by omega)
  obtain ⟨x, hx⟩ : ∃ x, P[i]? = some x := ⟨P[i], by simp [hlt]⟩
  obtain ⟨⟨x0, x1⟩, xw⟩ := hcel x (List.mem_of_getElem? hx)
  obtain ⟨k, rfl⟩ : ∃ k : Nat, x = (k : Int) := ⟨x.toNat, by omega⟩
  have hk : k < s.depths.length := by omega
  rw [Int.toNat_natCast, hwat k hk, hwet] at xw
  obtain ⟨sh1, sh2⟩ := shoal hs hso ht ha (show 0 ≤ dr ∧ dr ≤ 5000 by omega) hk xw
  have ix1 := fun h => E.sI_ix hx h
  have hdx : t.depths[k]? = some (t.depths.getD k 0) := by
   have : k < t.depths.length := by rw [ht.dl]; exact hk
   simp [this, List.getD]
  have ix2 : ∀ h, indexAddrD Tryz.prog h 34 (.sl (t.depths.map enI.d)) (.int .i64 (k : Int)) = some (.ref [.int .i64 (t.depths.getD k 0)] 0) := fun h => E.sI_ix hdx h
  have hdv := ht.dv _ (List.mem_of_getElem? hdx)
  have htd := ht.tide
  have w2 := wrap_i64 (z := t.depths.getD k 0 + t.tide) (by omega) (by omega)
  have c1 : ((k : Int) < 0) = False := by simp
  have c2 : ((s.depths.length : Int) ≤ (k : Int)) = False := by simp; omega
  have c3 : (t.depths.getD k 0 + t.tide < dr) = False := eq_false (by omega)
  have m1 := a_rem' (k := .i64) (x := (k : Int)) (y := s.wide) (by omega)
  have m2 : (k : Int).tmod s.wide = (k : Int) % s.wide := Int.tmod_eq_emod_of_nonneg (by omega)
  have d1 := a_quo' (k := .i64) (x := (k : Int)) (y := s.wide) (by omega)
  have d2 : (k : Int).tdiv s.wide = (k : Int) / s.wide := Int.tdiv_eq_ediv_of_nonneg (by omega)
  have d0 := stI_xy hs hk
  have d3 := wrap_i64 (z := (k : Int) / s.wide) (by omega) (by omega)
  simp only [FS, ↓RE, okR, argEnv, Nat.reduceAdd, Nat.reduceSub, Nat.reduceLT, Nat.reduceLeDiff, Nat.reduceEqDiff, reduceIte, RT, RM, hq, decide_true, decide_false, E.intL_len, vg, lg, cg, List.length_map, ix1, ix2, w2, c1, c2, c3, m1, m2, d1, d2, d3]
  refine loopV (ι := Nat) oNone_ok [(3, [(18, true, false, []), (1, false, false, [])]), (7, [(20, false, false, [])]), (17, [(31, false, false, [])]), (19, [(18, false, false, [])])] (fun j => [(1, .int .i64 dr), (2, .int .i64 fr), (3, .int .i64 to), (5, .ref [.int .i64 s.wide, .int .i64 s.deep, .sl (s.depths.map enS.d), .int .i64 s.w.tide.rate, .int .i64 s.w.tide.least, .int .i64 s.w.tide.most, .sl (s.w.tide.rs.map Rd.d), .int .i64 s.w.east.rate, .int .i64 s.w.east.least, .int .i64 s.w.east.most, .sl (s.w.east.rs.map Rd.d), .int .i64 s.w.north.rate, .int .i64 s.w.north.least, .int .i64 s.w.north.most, .sl (s.w.north.rs.map Rd.d), .int .i64 s.w.wave.rate, .int .i64 s.w.wave.least, .int .i64 s.w.wave.most, .sl (s.w.wave.rs.map Rd.d), .int .i64 s.w.swell.rate, .int .i64 s.w.swell.least, .int .i64 s.w.swell.most, .sl (s.w.swell.rs.map Rd.d), .sl (s.boats.map enBt.d), gd] 0), (9, .ref t.c 0), (15, .sl (E.intL P)), (17, .int .i64 (i : Int)), (18, .int .i64 ((k : Int) % s.wide)), (19, .int .i64 ((k : Int) / s.wide)), (20, .int .i64 (j : Int))]) (fun j => []) 0 (fun j => j ≤ t.boats.length) (fun j => t.boats.length - j) 0 (by kernel_rfl) (by kernel_rfl) (Nat.zero_le _) ?_ ?_
  ·simp [headW, heapW, envW, blkLt, D.ltL, D.lt, look, hget, lg]
  intro j hj
  rcases Nat.lt_or_ge j t.boats.length with jlt | jge
  rotate_left
  ·have hq2 : ((j : Int) < (t.boats.length : Int)) = False := by simp; omega
   simp only [FS, ↓RE, okR, argEnv, Nat.reduceAdd, Nat.reduceSub, Nat.reduceLT, Nat.reduceLeDiff, Nat.reduceEqDiff, reduceIte, RT, RM, hq2, decide_false, wi, vg, lg, cg, List.length_map]
   exact ⟨i + 1, by omega, by omega, by simp [headW, heapW, envW, blkLt, D.ltL, D.lt, look, hget, lg]⟩
  have hq2 : ((j : Int) < (t.boats.length : Int)) = True := by simp [jlt]
  have wj := wrap_i64 (z := (j : Int) + 1) (by omega) (by omega)
  obtain ⟨r, hr⟩ : ∃ r, s.boats[j]? = some r := ⟨s.boats[j]'(by omega), by simp [hwt, jlt]⟩
  obtain ⟨y, hy⟩ : ∃ y, t.boats[j]? = some y := ⟨t.boats[j], by simp [jlt]⟩
  have hf := fun hb : bAt t.boats j = true => sh2 j r hr hb
  have ixb := fun hp => En.ix (P := Tryz.prog) Fz.und_30 Fz.size_54 (En.sl_map (E := enBt) s.boats) hr hp .i64
  obtain ⟨⟨b1, b2⟩, ⟨b3, b4⟩, ⟨t1, t2⟩, su⟩ := r
  have hix2 : ∀ hp, indexAddrD Tryz.prog hp 30 (.sl (s.boats.map enBt.d)) (.int .i64 (j : Int)) = some (.ref [.int .i64 b1, .int .i64 b2, .int .i64 b3, .int .i64 b4, .int .i64 t1, .int .i64 t2, .bool su] 0) := ixb
  have iy : ∀ h, indexAddrD Tryz.prog h 35 (.sl (t.boats.map enB.d)) (.int .i64 (j : Int)) = some (.ref [.bool y] 0) := fun h => E.sB_ix hy h
  have hby : bAt t.boats j = y := by simp [bAt, List.getD, hy]
  cases y
  ·simp only [FS, ↓RE, okR, argEnv, Nat.reduceAdd, Nat.reduceSub, Nat.reduceLT, Nat.reduceLeDiff, Nat.reduceEqDiff, reduceIte, RT, RM, hq2, decide_true, wj, vg, lg, cg, List.length_map, hix2, iy]
   exact ⟨j + 1, by omega, by omega, by simp [headW, heapW, envW, blkLt, D.ltL, D.lt, look, hget, lg]⟩
  have hf := hf hby
  simp only [inW, bIn] at hf
  cases e1 : decide (b1 ≤ (k : Int) % s.wide)
  ·simp only [FS, ↓RE, okR, argEnv, Nat.reduceAdd, Nat.reduceSub, Nat.reduceLT, Nat.reduceLeDiff, Nat.reduceEqDiff, reduceIte, RT, RM, hq2, decide_true, wj, vg, lg, cg, List.length_map, hix2, iy, e1]
   exact ⟨j + 1, by omega, by omega, by simp [headW, heapW, envW, blkLt, D.ltL, D.lt, look, hget, lg]⟩
  cases e2 : decide ((k : Int) % s.wide ≤ b2)
  ·simp only [FS, ↓RE, okR, argEnv, Nat.reduceAdd, Nat.reduceSub, Nat.reduceLT, Nat.reduceLeDiff, Nat.reduceEqDiff, reduceIte, RT, RM, hq2, decide_true, wj, vg, lg, cg, List.length_map, hix2, iy, e1, e2]
   exact ⟨j + 1, by omega, by omega, by simp [headW, heapW, envW, blkLt, D.ltL, D.lt, look, hget, lg]⟩
  cases e3 : decide (b3 ≤ (k : Int) / s.wide)
  ·simp only [FS, ↓RE, okR, argEnv, Nat.reduceAdd, Nat.reduceSub, Nat.reduceLT, Nat.reduceLeDiff, Nat.reduceEqDiff, reduceIte, RT, RM, hq2, decide_true, wj, vg, lg, cg, List.length_map, hix2, iy, e1, e2, e3]
   exact ⟨j + 1, by omega, by omega, by simp [headW, heapW, envW, blkLt, D.ltL, D.lt, look, hget, lg]⟩
  cases e4 : decide ((k : Int) / s.wide ≤ b4)
  ·simp only [FS, ↓RE, okR, argEnv, Nat.reduceAdd, Nat.reduceSub, Nat.reduceLT, Nat.reduceLeDiff, Nat.reduceEqDiff, reduceIte, RT, RM, hq2, decide_true, wj, vg, lg, cg, List.length_map, hix2, iy, e1, e2, e3, e4]
   exact ⟨j + 1, by omega, by omega, by simp [headW, heapW, envW, blkLt, D.ltL, D.lt, look, hget, lg]⟩
  rw [e1, e2, e3, e4] at hf
  cases hf

end Go.Sx
