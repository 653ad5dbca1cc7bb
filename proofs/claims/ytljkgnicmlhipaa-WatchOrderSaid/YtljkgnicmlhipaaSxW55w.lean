/- Own work: contracts of functions, used in the proof of a law. -/
import Derived.Test.YtljkgnicmlhipaaSxW54w
set_option linter.unusedVariables false
set_option linter.unusedSimpArgs false
namespace Go.Sx
open Go.Proofs
set_option maxRecDepth 10000

/-! Calls before a minute -/
set_option maxHeartbeats 1000000 in
theorem ahead_t (C : List (Int × Int)) (hC : C.length ≤ 100000) (m : Int) : Pure Try.prog 26 [.sl (prL C), .int .i64 m] (.sl (prL (C.filter fun x => decide (x.1 < m)))) := by
  obtain ⟨p, hp⟩ : ∃ p : Int × Int → Bool, p = fun x => decide (x.1 < m) := ⟨_, rfl⟩
  have hpx : ∀ a b : Int, decide (a < m) = p (a, b) := fun a b => by rw [hp]
  rw [← hp]
  refine pure_of_wc (rs := [.tmp 4]) (m := 28) [] oNone_ok (by kernel_rfl) Try.func26 rfl (by kernel_rfl) rfl rfl (by kernel_rfl) ?_
  simp only [RT, FS, ↓RE, okR, argEnv, Nat.reduceAdd, Nat.reduceSub, Nat.reduceLT, Nat.reduceLeDiff, Nat.reduceEqDiff, reduceIte, RM]
  refine loopNil 5 58 2 rfl ?_
  refine loopV (ι := Nat) oNone_ok [] (fun i => [(0, .sl (prL C)), (1, .int .i64 m), (5, .osl 0 ((C.take i).filter p).length), (6, .int .i64 (i : Int))])
    (fun i => [(0, .arr 58 2 (prL ((C.take i).filter p)))]) 1 (fun i => i ≤ C.length) (fun i => C.length - i) 0 (by kernel_rfl) (by kernel_rfl) (Nat.zero_le _) ?_ ?_
  · simp [headW, heapW, envW, blkLt, D.ltL, D.lt, look, hget, hset, eset_cons, eset_nil, prL]
  intro i hil
  rcases Nat.lt_or_ge i C.length with hlt | hge
  · have hc := nat_lt_true hlt
    obtain ⟨⟨a, b⟩, hx⟩ : ∃ r, C[i]? = some r := ⟨C[i], by simp [hlt]⟩
    have hix := prD_ix hx
    have hw1 := wrap_i64 (z := (i : Int) + 1) (by omega) (by omega)
    have hft := filter_take (p := p) hx
    have hfl : ((C.take i).filter p).length ≤ i := Nat.le_trans (List.length_filter_le _ _) (by rw [List.length_take]; omega)
    have hpm := hpx a b
    cases hq : p (a, b)
    · rw [hq] at hft hpm
      simp only [Bool.false_eq_true, if_false, List.append_nil] at hft
      simp only [RT, FS, ↓RE, okR, argEnv, Nat.reduceAdd, Nat.reduceSub, Nat.reduceLT, Nat.reduceLeDiff, Nat.reduceEqDiff, reduceIte, RM, prL_len, hc, decide_true, hix, hpm, hw1]
      exact ⟨i + 1, by omega, by omega, by rw [hft]; simp [headW, heapW, envW, blkLt, D.ltL, D.lt, look, hget]⟩
    · rw [hq] at hft hpm
      simp only [if_true] at hft
      have hl2 := fun h nid => litC_1 h nid a b
      have a7 := fun h nid (hb : hget h 0 = some (.arr 58 2 (prL ((C.take i).filter p)))) (hb2 : hget h 1 = some (.arr 58 2 (prL [(a, b)]))) => oC_app (n := ((C.take i).filter p).length) (n2 := 1) (r := [(a, b)]) hb rfl hb2 rfl nid (by simp; omega)
      simp only [RT, FS, ↓RE, okR, argEnv, Nat.reduceAdd, Nat.reduceSub, Nat.reduceLT, Nat.reduceLeDiff, Nat.reduceEqDiff, reduceIte, RM, prL_len, hc, decide_true, hix, hpm, hw1, hl2, a7]
      exact ⟨i + 1, by omega, by omega, by rw [hft]; simp [headW, heapW, envW, blkLt, D.ltL, D.lt, look, hget]⟩
  · have hc := nat_lt_false hge
    have : i = C.length := by omega
    subst this
    rw [List.take_length]
    simp only [RT, FS, ↓RE, okR, argEnv, Nat.reduceAdd, Nat.reduceSub, Nat.reduceLT, Nat.reduceLeDiff, Nat.reduceEqDiff, reduceIte, RM, prL_len, hc, decide_false]
noncomputable def gAhead : List D → Option D := orcF (fun p : List (Int × Int) × Int => p.1.length ≤ 100000) (fun p => [.sl (prL p.1), .int .i64 p.2]) (fun p => .sl (prL (p.1.filter fun x => decide (x.1 < p.2))))
theorem gAhead_eq {C : List (Int × Int)} (h : C.length ≤ 100000) (m : Int) : gAhead [.sl (prL C), .int .i64 m] = some (.sl (prL (C.filter fun x => decide (x.1 < m)))) :=
  orcF_eq (ok := fun p : List (Int × Int) × Int => p.1.length ≤ 100000) (dsf := fun p => [.sl (prL p.1), .int .i64 p.2]) (rf := fun p => .sl (prL (p.1.filter fun x => decide (x.1 < p.2)))) (C, m) h fun q hq => by
    simp only [List.cons.injEq, D.sl.injEq, D.int.injEq, and_true, true_and] at hq
    rw [prL_inj hq.1, hq.2]
/-! Slices and lists of messages -/
theorem slice_hi {P : Program} {t e : TypeId} (hu : P.underlying t = some (.slice e)) {n : Nat} (hs : sizeT P e = some n) {es : List (List D)} (hl : ∀ c ∈ es, c.length = n) {k : Nat} (hk : k ≤ es.length) (kk : IntKind) : sliceD P t (.sl es) none (some (.int kk (k : Int))) = some (.sl (es.take k)) := by
  have h1 : es.all (fun c => Nat.beq c.length n) = true := List.all_eq_true.2 fun c hc => by simp [hl c hc]
  have h2 : (0 : Int) ≤ (k : Int) ∧ (k : Int) ≤ (es.length : Int) := by omega
  simp only [sliceD, hu, hs, boundD, h1, if_true, h2, and_self, Int.toNat_natCast, List.drop_zero]
theorem slice_lo {P : Program} {t e : TypeId} (hu : P.underlying t = some (.slice e)) {n : Nat} (hs : sizeT P e = some n) {es : List (List D)} (hl : ∀ c ∈ es, c.length = n) {k : Nat} (hk : k ≤ es.length) (kk : IntKind) : sliceD P t (.sl es) (some (.int kk (k : Int))) none = some (.sl (es.drop k)) := by
  have h1 : es.all (fun c => Nat.beq c.length n) = true := List.all_eq_true.2 fun c hc => by simp [hl c hc]
  have h2 : (0 : Int) ≤ (k : Int) ∧ (k : Int) ≤ (es.length : Int) := by omega
  simp only [sliceD, hu, hs, boundD, h1, if_true, h2, and_self, Int.toNat_natCast, List.take_length]
theorem ms_ok (l : List MsgW) : okSrc 4 (l.map enMs.d) = true := by
  unfold okSrc
  rw [List.all_eq_true]
  intro e he
  obtain ⟨x, _, rfl⟩ := List.mem_map.1 he
  rfl
theorem ms_nils (l : List MsgW) (h : H) (nid : Nat) (hc : l.length ≤ 1000) : appE Try.prog h nid 45 45 .nils (.sl (l.map enMs.d)) = some (.osl nid l.length, (nid, .arr 47 4 (l.map enMs.d)) :: h, nid + 1) := by
  rw [app_nils Fz.und_45 Fz.size_47 Fz.zero_47 rfl (by omega) Fz.bytes_47_45 h nid (x := .sl (l.map enMs.d)) (xs := l.map enMs.d) rfl (ms_ok l) (by rw [List.length_map]; omega) (by rw [List.length_map]; omega), List.length_map]
theorem ms_app {h : H} {b n : Nat} {l r : List MsgW} (hb : hget h b = some (.arr 47 4 (l.map enMs.d))) (hn : l.length = n) (nid : Nat) (hc : l.length + r.length ≤ 1000) : appE Try.prog h nid 45 45 (.osl b n) (.sl (r.map enMs.d)) = some (.osl b (n + r.length), hset h b (.arr 47 4 ((l ++ r).map enMs.d)), nid) := by
  rw [app_sl Fz.und_45 Fz.size_47 Fz.zero_47 rfl (by omega) Fz.bytes_47_45 h nid b n hb (by rw [List.length_map, hn]) (ms_ok r) (by rw [List.length_map, List.length_map]; omega) (by rw [List.length_map, List.length_map]; omega), List.length_map, List.length_map, hn, List.map_append]
theorem ms_appO {h : H} {b n b2 n2 : Nat} {l r : List MsgW} (hb : hget h b = some (.arr 47 4 (l.map enMs.d))) (hn : l.length = n) (hb2 : hget h b2 = some (.arr 47 4 (r.map enMs.d))) (hn2 : r.length = n2) (nid : Nat) (hc : l.length + r.length ≤ 1000) : appE Try.prog h nid 45 45 (.osl b n) (.osl b2 n2) = some (.osl b (n + n2), hset h b (.arr 47 4 ((l ++ r).map enMs.d)), nid) := by
  rw [app_osl Fz.und_45 Fz.size_47 Fz.zero_47 rfl (by omega) Fz.bytes_47_45 h nid b n b2 n2 hb (by rw [List.length_map, hn]) hb2 (by rw [List.length_map, hn2]) (ms_ok r) (by rw [List.length_map, List.length_map]; omega) (by rw [List.length_map, List.length_map]; omega), List.length_map, List.length_map, hn, hn2, List.map_append]
theorem ms_lit (h : H) (nid : Nat) (m : MsgW) : litOpD Try.prog h nid 45 1 [(0, .agg [.int .i64 m.t, .int .i64 m.c, .bool m.d, .int .i64 m.came])] = some (.osl nid 1, (nid, .arr 47 4 ([m].map enMs.d)) :: h, nid + 1) := by kernel_rfl
theorem ms_litD (h : H) (m : MsgW) : litD Try.prog h 45 1 [(0, .agg [.int .i64 m.t, .int .i64 m.c, .bool m.d, .int .i64 m.came])] = some (.sl ([m].map enMs.d)) := by kernel_rfl
theorem ms_lo (l : List MsgW) {k : Nat} (hk : k ≤ l.length) : sliceD Try.prog 45 (.sl (l.map enMs.d)) (some (.int .i64 (k : Int))) none = some (.sl ((l.drop k).map enMs.d)) := by
  rw [slice_lo Fz.und_45 Fz.size_47 (fun c hc => by obtain ⟨x, _, rfl⟩ := List.mem_map.1 hc; rfl) (by rw [List.length_map]; exact hk), List.map_drop]
theorem ms_hi (l : List MsgW) {k : Nat} (hk : k ≤ l.length) : sliceD Try.prog 45 (.sl (l.map enMs.d)) none (some (.int .i64 (k : Int))) = some (.sl ((l.take k).map enMs.d)) := by
  rw [slice_hi Fz.und_45 Fz.size_47 (fun c hc => by obtain ⟨x, _, rfl⟩ := List.mem_map.1 hc; rfl) (by rw [List.length_map]; exact hk), List.map_take]
theorem same_nils : Pure Try.prog 19 [.nils, .nils] (.bool true) := by
  have h := r_Same_t [] [] (by decide) (by decide)
  exact Pure.nil (ds1 := [.nils]) (ds2 := []) (Pure.nil (ds1 := []) (ds2 := [.sl []]) h)
theorem same_self (l : List Int) (h : BL l) : Pure Try.prog 19 [.sl (intL l), .sl (intL l)] (.bool true) := by
  have h2 := r_Same_t l l h h
  rw [sameB_eq, decide_eq_true rfl] at h2
  exact h2
/-! WatchOrder -/
theorem asked_congr {w : WatchW} {l l' : List MsgW} (h : ∀ m, m ∈ l ↔ m ∈ l') (hl' : l'.length ≤ 60) {now : Int} (ha : askedI w l now = 0) : askedI w l' now = 0 := by
  unfold askedI at ha ⊢
  rw [if_neg (by omega)]
  split at ha
  · cases ha
  · have e : mailB w l' = mailB w l := by unfold mailB; rw [any_congr' h]
    rw [e]; exact ha
theorem where_congr {w : WatchW} {l l' : List MsgW} (h : ∀ m, m ∈ l ↔ m ∈ l') {now : Int} (ha : askedI w l now = 0) (ha' : askedI w l' now = 0) : WhereR w l' now = WhereR w l now := by
  unfold WhereR
  rw [if_pos ha, if_pos ha', pl_congr (known_congr h now) now]
/-- The answers of Where. -/
inductive WhA : D → Prop
  | none : WhA (.tup [.nils, .nils, .int .i64 5])
  | some (a b : List Int) : a.length ≤ 1000 → b.length ≤ 1000 → WhA (.tup [.sl (intL a), .sl (intL b), .int .i64 0])
theorem where_ans {w : WatchW} {l : List MsgW} {now : Int} (ha : askedI w l now = 0) : WhA (WhereR w l now) := by
  have hs := (asked_ok ha).ok.s.le
  unfold WhereR
  rw [if_pos ha]
  split
  · exact .none
  · refine .some _ _ ?_ ?_
    · exact Nat.le_trans (cellsF_len _ _) (by omega)
    · exact Nat.le_trans (cellsF_len _ _) (by omega)
noncomputable abbrev e55 : List (FuncId × (List D → Option D)) :=
  (12, gShort) :: (14, cstO [] (.bool true)) :: (22, gWLN okL mailedD) :: (26, gAhead) ::
  (23, gWLN okL CallsR) :: (24, gSameC) :: (25, gWLN okL WhereR) :: []
theorem e55_ok : OkO Try.prog (mkO e55) :=
  mkO_ok (orcF_ok fun w h => short_t w h) <| mkO_ok (cstO_ok known_t) <| mkO_ok (orcF_ok fun p h => mailed_t h.1 h.2 p.2.2) <| mkO_ok (orcF_ok fun p h => ahead_t p.1 h p.2) <|
  mkO_ok (orcF_ok fun p h => Calls_t h.1 h.2 p.2.2) <| mkO_ok gSameC_ok <| mkO_ok (orcF_ok fun p h => Where_t h.1 h.2 p.2.2) <| fun _ _ _ h => by cases h
set_option maxHeartbeats 4000000 in
theorem watchOrder_at (w : WatchW) (hw : WatchL w) (l : List MsgW) (hl : BL l) (now frm : Int) (more : MsgW) : Pure Try.prog 5 [.agg w.c, msD l, .int .i64 now, .int .i64 frm, .agg (enMs.d more)] (.bool true) := by
  have o1 := gShort_eq hw
  have o2 := cstO_eq [] (.bool true)
  have o3 : gWLN okL mailedD [.agg w.c, msD l, .int .i64 now] = some (.int .i64 (askedI w l now)) := gWLN_eq ⟨hw, hl⟩
  obtain ⟨mt, mc, md, mcame⟩ := more
  simp only [enMs]
  by_cases hgo : shortB w = true ∧ l.length ≤ 15 ∧ askedI w l now = 0 ∧ w.s.sh.length ≤ 40 ∧ now - w.min ≤ 100 ∧ 0 ≤ frm ∧ frm < (l.length : Int)
  rotate_left
  · have hask : askedI w l now = 0 → w.min ≤ now ∧ now ≤ 1440 ∧ 0 ≤ w.min := fun h => ⟨(asked_ok h).b.1, (asked_ok h).b.2, (asked_ok h).ok.m.1⟩
    generalize shortB w = B at *
    generalize askedI w l now = E at *
    obtain ⟨⟨sw, sd, sh⟩, ⟨rl, lk⟩, cell, mi, ev, en, af⟩ := w
    simp only [WatchW.c, SkyW.c, NetW.c, List.cons_append, List.nil_append] at *
    refine pure_of_pieces (rs := [.tmp 10]) (m := 168) [(3, [(7, false, true, [(0, 4)]), (2, false, false, [])]), (13, [(4, false, true, [(1, 3), (0, 3)]), (2, false, false, [])]), (19, [(13, false, false, [])])] e55_ok (by kernel_rfl) Try.func5 rfl (by kernel_rfl) rfl rfl (by kernel_rfl) ?_
    refine awp_peel (T := [(3, [(7, false, true, [(0, 4)]), (2, false, false, [])]), (13, [(4, false, true, [(1, 3), (0, 3)]), (2, false, false, [])]), (19, [(13, false, false, [])])]) e55_ok (by kernel_rfl) (by kernel_rfl) ?_
    simp only [RT, FS, ↓RE, okR, argEnv, Nat.reduceAdd, Nat.reduceSub, Nat.reduceLT, Nat.reduceLeDiff, Nat.reduceEqDiff, reduceIte, RM]
    refine awp_peel (T := [(3, [(7, false, true, [(0, 4)]), (2, false, false, [])]), (13, [(4, false, true, [(1, 3), (0, 3)]), (2, false, false, [])]), (19, [(13, false, false, [])])]) e55_ok (by kernel_rfl) (by kernel_rfl) ?_
    cases B
    · simp only [RT, FS, ↓RE, okR, argEnv, Nat.reduceAdd, Nat.reduceSub, Nat.reduceLT, Nat.reduceLeDiff, Nat.reduceEqDiff, reduceIte, RM, o1, o2, Bool.not_false]
    cases q1 : decide ((15 : Int) < (l.length : Int))
    case true =>
      simp only [RT, FS, ↓RE, okR, argEnv, Nat.reduceAdd, Nat.reduceSub, Nat.reduceLT, Nat.reduceLeDiff, Nat.reduceEqDiff, reduceIte, RM, o1, o2, q1, Bool.not_true, List.length_map]
    cases hE : (E != 0)
    case true =>
      simp only [RT, FS, ↓RE, okR, argEnv, Nat.reduceAdd, Nat.reduceSub, Nat.reduceLT, Nat.reduceLeDiff, Nat.reduceEqDiff, reduceIte, RM, o1, o2, o3, q1, hE, Bool.not_true, List.length_map]
    have hE0 : E = 0 := by simpa using hE
    have hb := hask hE0
    have hw0 := wrap_i64 (z := now - mi) (by omega) (by omega)
    cases q2 : decide ((40 : Int) < (sh.length : Int))
    case true =>
      simp only [RT, FS, ↓RE, okR, argEnv, Nat.reduceAdd, Nat.reduceSub, Nat.reduceLT, Nat.reduceLeDiff, Nat.reduceEqDiff, reduceIte, RM, o1, o2, o3, q1, hE, q2, Bool.not_true, List.length_map]
    cases q3 : decide ((100 : Int) < now - mi)
    case true =>
      simp only [RT, FS, ↓RE, okR, argEnv, Nat.reduceAdd, Nat.reduceSub, Nat.reduceLT, Nat.reduceLeDiff, Nat.reduceEqDiff, reduceIte, RM, o1, o2, o3, q1, hE, q2, hw0, q3, Bool.not_true, List.length_map]
    cases q4 : decide (frm < 0)
    case true =>
      simp only [RT, FS, ↓RE, okR, argEnv, Nat.reduceAdd, Nat.reduceSub, Nat.reduceLT, Nat.reduceLeDiff, Nat.reduceEqDiff, reduceIte, RM, o1, o2, o3, q1, hE, q2, hw0, q3, q4, Bool.not_true, List.length_map]
    have q5 : decide ((l.length : Int) ≤ frm) = true := by
      simp only [decide_eq_true_eq]
      simp only [decide_eq_false_iff_not] at q1 q2 q3 q4
      refine Classical.byContradiction fun hc => hgo ⟨rfl, by omega, hE0, by omega, by omega, by omega, by omega⟩
    simp only [RT, FS, ↓RE, okR, argEnv, Nat.reduceAdd, Nat.reduceSub, Nat.reduceLT, Nat.reduceLeDiff, Nat.reduceEqDiff, reduceIte, RM, o1, o2, o3, q1, hE, q2, hw0, q3, q4, q5, Bool.not_true, List.length_map]
  obtain ⟨g1, g2, g3, g4, g5, g6, g7⟩ := hgo
  have ho := asked_ok g3
  obtain ⟨f, hf⟩ : ∃ f : Nat, frm = (f : Int) := ⟨frm.toNat, by omega⟩
  subst hf
  have hfl : f < l.length := by omega
  obtain ⟨x, hx⟩ : ∃ x, l[f]? = some x := ⟨l[f], by simp [hfl]⟩
  obtain ⟨other, hother⟩ : ∃ o, o = (l.drop f ++ l.take f) ++ [x] := ⟨_, rfl⟩
  have hol : other.length = l.length + 1 := by rw [hother]; simp; omega
  have hmemo : ∀ m, m ∈ l ↔ m ∈ other := fun m => by
    rw [hother]
    simp only [List.mem_append, List.mem_singleton]
    constructor
    · intro h
      rw [← List.take_append_drop f l, List.mem_append] at h
      rcases h with h | h
      · exact .inl (.inr h)
      · exact .inl (.inl h)
    · rintro ((h | h) | rfl)
      · exact List.mem_of_mem_drop h
      · exact List.mem_of_mem_take h
      · exact List.mem_of_getElem? hx
  obtain ⟨L1, hL1⟩ : ∃ L, L = [(⟨mt, mc, md, mcame⟩ : MsgW)] := ⟨_, rfl⟩
  have hL1l : L1.length = 1 := by rw [hL1]; rfl
  have hao := asked_congr hmemo (by omega) g3
  have hblo : BL other := by simp only [BL]; omega
  have hbl2 : BL (l ++ L1) := by simp only [BL, List.length_append]; omega
  have oc1 : gWLN okL CallsR [.agg w.c, msD l, .int .i64 now] = some (.tup [.sl (prL (callsF (stF w l) w.min (now - w.min + 1).toNat)), .int .i64 0]) := by
    rw [gWLN_eq (ok := okL) ⟨hw, hl⟩, CallsR, if_pos g3]
  have oc2 : gWLN okL CallsR [.agg w.c, msD other, .int .i64 now] = some (.tup [.sl (prL (callsF (stF w l) w.min (now - w.min + 1).toNat)), .int .i64 0]) := by
    rw [gWLN_eq (ok := okL) ⟨hw, hblo⟩, CallsR, if_pos hao, stF_congr hmemo]
  have ow1 : gWLN okL WhereR [.agg w.c, msD l, .int .i64 now] = some (WhereR w l now) := gWLN_eq ⟨hw, hl⟩
  have ow2 : gWLN okL WhereR [.agg w.c, msD other, .int .i64 now] = some (WhereR w l now) := by rw [gWLN_eq (ok := okL) ⟨hw, hblo⟩, where_congr hmemo g3 hao]
  have om2 : gWLN okL mailedD [.agg w.c, msD (l ++ L1), .int .i64 now] = some (.int .i64 (askedI w (l ++ L1) now)) := gWLN_eq ⟨hw, hbl2⟩
  have oc3 : askedI w (l ++ L1) now = 0 → gWLN okL CallsR [.agg w.c, msD (l ++ L1), .int .i64 now] = some (.tup [.sl (prL (callsF (stF w (l ++ L1)) w.min (now - w.min + 1).toNat)), .int .i64 0]) := fun h => by
    rw [gWLN_eq (ok := okL) ⟨hw, hbl2⟩, CallsR, if_pos h]
  have hca := where_ans g3
  have hst := fun l t => stF_b ho.ok l t
  have hlen : ∀ l', (callsF (stF w l') w.min (now - w.min + 1).toNat).length ≤ 20000 := fun l' => by
    have := callsF_len (mn := w.min) (hst l') (now - w.min + 1).toNat
    have := ho.b
    have := ho.ok.m
    omega
  have hah := calls_more w l ⟨mt, mc, md, mcame⟩ (now - w.min + 1).toNat
  rw [← hL1] at hah
  have hl1 := hlen l
  have hl2 := hlen (l ++ L1)
  generalize callsF (stF w l) w.min (now - w.min + 1).toNat = C at *
  generalize callsF (stF w (l ++ L1)) w.min (now - w.min + 1).toNat = C2 at *
  generalize askedI w (l ++ L1) now = E2 at *
  generalize WhereR w l now = W at *
  have oa1 := gAhead_eq (C := C) (by omega) mcame
  have oa2 := gAhead_eq (C := C2) (by omega) mcame
  simp only at hah
  rw [← hah] at oa2
  have os1 := gSameC_eq (a := C) (b := C) (by simp only [BL]; omega) (by simp only [BL]; omega)
  have hfC := List.length_filter_le (fun x : Int × Int => decide (x.1 < mcame)) C
  have os2 := gSameC_eq (a := C.filter fun x => decide (x.1 < mcame)) (b := C.filter fun x => decide (x.1 < mcame)) (by simp only [BL]; omega) (by simp only [BL]; omega)
  generalize (C.filter fun x => decide (x.1 < mcame)) = CA at *
  rw [g1] at o1
  rw [g3] at o3
  have hbo := ho.b
  have hmi := ho.ok.m
  have hz : ((0 : Int) != 0) = false := rfl
  clear ho hlen hst hmemo hao
  obtain ⟨⟨sw, sd, sh⟩, ⟨rl, lk⟩, cell, mi, ev, en, af⟩ := w
  dsimp only at g4 g5 hbo hmi
  simp only [WatchW.c, SkyW.c, NetW.c, List.cons_append, List.nil_append] at o1 o3 oc1 oc2 ow1 ow2 om2 oc3 ⊢
  have hw0 := wrap_i64 (z := now - mi) (by omega) (by omega)
  have q1 : decide ((15 : Int) < (l.length : Int)) = false := by simp; omega
  have q2 : decide ((40 : Int) < (sh.length : Int)) = false := by simp; omega
  have q3 : decide ((100 : Int) < now - mi) = false := by simp; omega
  have q4 : decide ((f : Int) < 0) = false := by simp
  have q5 : decide ((l.length : Int) ≤ (f : Int)) = false := by simp; omega
  have s1 := ms_lo l (k := f) (by omega)
  have s2 := ms_hi l (k := f) (by omega)
  have hix := msD_ix hx
  have b1 := fun h nid => ms_nils (l.drop f) h nid (by rw [List.length_drop]; omega)
  have b2 := fun h nid (hb : hget h 2 = some (.arr 47 4 ((l.drop f).map enMs.d))) => ms_app (n := (l.drop f).length) (r := l.take f) hb rfl nid (by rw [List.length_drop, List.length_take]; omega)
  refine pure_of_pieces (rs := [.tmp 10]) (m := 168) [(3, [(7, false, true, [(0, 4)]), (2, false, false, [])]), (13, [(4, false, true, [(1, 3), (0, 3)]), (2, false, false, [])]), (19, [(13, false, false, [])])] e55_ok (by kernel_rfl) Try.func5 rfl (by kernel_rfl) rfl rfl (by kernel_rfl) ?_
  refine awp_peel (T := [(3, [(7, false, true, [(0, 4)]), (2, false, false, [])]), (13, [(4, false, true, [(1, 3), (0, 3)]), (2, false, false, [])]), (19, [(13, false, false, [])])]) e55_ok (by kernel_rfl) (by kernel_rfl) ?_
  simp only [RT, FS, ↓RE, okR, argEnv, Nat.reduceAdd, Nat.reduceSub, Nat.reduceLT, Nat.reduceLeDiff, Nat.reduceEqDiff, reduceIte, RM]
  refine awp_peel (T := [(3, [(7, false, true, [(0, 4)]), (2, false, false, [])]), (13, [(4, false, true, [(1, 3), (0, 3)]), (2, false, false, [])]), (19, [(13, false, false, [])])]) e55_ok (by kernel_rfl) (by kernel_rfl) ?_
  simp only [RT, FS, ↓RE, okR, argEnv, Nat.reduceAdd, Nat.reduceSub, Nat.reduceLT, Nat.reduceLeDiff, Nat.reduceEqDiff, reduceIte, RM, o1, o3, q1, hz, q2, hw0, q3, q4, q5, Bool.not_true, List.length_map]
  refine awp_peel (T := [(3, [(7, false, true, [(0, 4)]), (2, false, false, [])]), (13, [(4, false, true, [(1, 3), (0, 3)]), (2, false, false, [])]), (19, [(13, false, false, [])])]) e55_ok (by kernel_rfl) (by kernel_rfl) ?_
  simp only [RT, FS, ↓RE, okR, argEnv, Nat.reduceAdd, Nat.reduceSub, Nat.reduceLT, Nat.reduceLeDiff, Nat.reduceEqDiff, reduceIte, RM, s1, s2, b1, b2, cells_osl, cur_osl, curC_arr, decide_true, List.length_map, List.length_append]
  have b3 := fun h nid (hb : hget h 2 = some (.arr 47 4 ((l.drop f ++ l.take f).map enMs.d))) (hb2 : hget h 3 = some (.arr 47 4 ([x].map enMs.d))) => ms_appO (n := (l.drop f).length + (l.take f).length) (n2 := 1) (l := l.drop f ++ l.take f) (r := [x]) hb (by rw [List.length_append]) hb2 rfl nid (by simp; omega)
  refine awp_peel (T := [(3, [(7, false, true, [(0, 4)]), (2, false, false, [])]), (13, [(4, false, true, [(1, 3), (0, 3)]), (2, false, false, [])]), (19, [(13, false, false, [])])]) e55_ok (by kernel_rfl) (by kernel_rfl) ?_
  simp only [RT, FS, ↓RE, okR, argEnv, Nat.reduceAdd, Nat.reduceSub, Nat.reduceLT, Nat.reduceLeDiff, Nat.reduceEqDiff, reduceIte, RM, hix, ms_lit, b3, cells_osl, cur_osl, curC_arr, decide_true, List.length_map, List.length_append]
  rw [← hother]
  have hfin : (l.drop f).length + (l.take f).length + 1 = other.length := by rw [hol, List.length_drop, List.length_take]; omega
  rw [hfin]
  refine awp_imp (imp_thaw 2 (.weak (weak_of (e := [(1, msD l), (2, .int .i64 now), (5, .ptr 0 0), (9, .ptr 1 0), (11, msD other)]) (h := [(1, .box [.int .i64 mt, .int .i64 mc, .bool md, .int .i64 mcame]), (0, .box [.int .i64 sw, .int .i64 sd, shD sh, rlD rl, lkD lk, .int .i64 cell, .int .i64 mi, .int .i64 ev, .int .i64 en, inD af])]) (nid := 4) (n := 168) ?_))) ?_
  · simp [headW, heapW, envW, blkLt, D.ltL, D.lt, look, hget, frzHH, frzBlk, herase, fz_int, fz_ref, fz_ptr, fz_bool, fz_sl, fz_nils, fz_osl, fzC_some, fzC_arr, fzP_some, List.length_append, List.length_map, shD, rlD, lkD, inD]
  refine awp_peel (T := [(3, [(7, false, true, [(0, 4)]), (2, false, false, [])]), (13, [(4, false, true, [(1, 3), (0, 3)]), (2, false, false, [])]), (19, [(13, false, false, [])])]) e55_ok (by kernel_rfl) (by kernel_rfl) ?_
  simp only [RT, FS, ↓RE, okR, argEnv, Nat.reduceAdd, Nat.reduceSub, Nat.reduceLT, Nat.reduceLeDiff, Nat.reduceEqDiff, reduceIte, RM, oc1]
  refine awp_peel (T := [(3, [(7, false, true, [(0, 4)]), (2, false, false, [])]), (13, [(4, false, true, [(1, 3), (0, 3)]), (2, false, false, [])]), (19, [(13, false, false, [])])]) e55_ok (by kernel_rfl) (by kernel_rfl) ?_
  simp only [RT, FS, ↓RE, okR, argEnv, Nat.reduceAdd, Nat.reduceSub, Nat.reduceLT, Nat.reduceLeDiff, Nat.reduceEqDiff, reduceIte, RM, oc2]
  refine awp_peel (T := [(3, [(7, false, true, [(0, 4)]), (2, false, false, [])]), (13, [(4, false, true, [(1, 3), (0, 3)]), (2, false, false, [])]), (19, [(13, false, false, [])])]) e55_ok (by kernel_rfl) (by kernel_rfl) ?_
  simp only [RT, FS, ↓RE, okR, argEnv, Nat.reduceAdd, Nat.reduceSub, Nat.reduceLT, Nat.reduceLeDiff, Nat.reduceEqDiff, reduceIte, RM, hz, os1, decide_true, Bool.not_true]
  cases hca with
  | none =>
    have hn5 : ((5 : Int) != 5) = false := rfl
    refine awp_peel (T := [(3, [(7, false, true, [(0, 4)]), (2, false, false, [])]), (13, [(4, false, true, [(1, 3), (0, 3)]), (2, false, false, [])]), (19, [(13, false, false, [])])]) e55_ok (by kernel_rfl) (by kernel_rfl) ?_
    simp only [RT, FS, ↓RE, okR, argEnv, Nat.reduceAdd, Nat.reduceSub, Nat.reduceLT, Nat.reduceLeDiff, Nat.reduceEqDiff, reduceIte, RM, ow1]
    refine awp_peel (T := [(3, [(7, false, true, [(0, 4)]), (2, false, false, [])]), (13, [(4, false, true, [(1, 3), (0, 3)]), (2, false, false, [])]), (19, [(13, false, false, [])])]) e55_ok (by kernel_rfl) (by kernel_rfl) ?_
    simp only [RT, FS, ↓RE, okR, argEnv, Nat.reduceAdd, Nat.reduceSub, Nat.reduceLT, Nat.reduceLeDiff, Nat.reduceEqDiff, reduceIte, RM, ow2]
    refine awp_peel (T := [(3, [(7, false, true, [(0, 4)]), (2, false, false, [])]), (13, [(4, false, true, [(1, 3), (0, 3)]), (2, false, false, [])]), (19, [(13, false, false, [])])]) e55_ok (by kernel_rfl) (by kernel_rfl) ?_
    simp only [RT, FS, ↓RE, okR, argEnv, Nat.reduceAdd, Nat.reduceSub, Nat.reduceLT, Nat.reduceLeDiff, Nat.reduceEqDiff, reduceIte, RM, hn5]
    refine call_of_pure same_nils rfl ?_
    simp only [RT, FS, ↓RE, okR, argEnv, Nat.reduceAdd, Nat.reduceSub, Nat.reduceLT, Nat.reduceLeDiff, Nat.reduceEqDiff, reduceIte, RM, Bool.not_true]
    refine call_of_pure same_nils rfl ?_
    simp only [RT, FS, ↓RE, okR, argEnv, Nat.reduceAdd, Nat.reduceSub, Nat.reduceLT, Nat.reduceLeDiff, Nat.reduceEqDiff, reduceIte, RM, Bool.not_true]
    have b4 := fun h nid => ms_nils l h nid (by omega)
    have b5 := fun h nid (hb : hget h 4 = some (.arr 47 4 (l.map enMs.d))) => ms_app (n := l.length) (r := L1) hb rfl nid (by omega)
    have d5 : ∀ h, litD Try.prog h 45 1 [(0, .agg [.int .i64 mt, .int .i64 mc, .bool md, .int .i64 mcame])] = some (.sl (L1.map enMs.d)) := fun h => by rw [hL1]; exact ms_litD h ⟨mt, mc, md, mcame⟩
    refine awp_peel (T := [(3, [(7, false, true, [(0, 4)]), (2, false, false, [])]), (13, [(4, false, true, [(1, 3), (0, 3)]), (2, false, false, [])]), (19, [(13, false, false, [])])]) e55_ok (by kernel_rfl) (by kernel_rfl) ?_
    simp only [RT, FS, ↓RE, okR, argEnv, Nat.reduceAdd, Nat.reduceSub, Nat.reduceLT, Nat.reduceLeDiff, Nat.reduceEqDiff, reduceIte, RM, b4, b5, d5, cells_osl, cur_osl, curC_arr, decide_true, List.length_map, List.length_append]
    refine awp_imp (imp_thaw 4 (.weak (weak_of (e := [(1, msD l), (2, .int .i64 now), (5, .ptr 0 0), (9, .ptr 1 0), (11, msD (l ++ L1)), (12, .sl (prL C))]) (h := [(1, .box [.int .i64 mt, .int .i64 mc, .bool md, .int .i64 mcame]), (0, .box [.int .i64 sw, .int .i64 sd, shD sh, rlD rl, lkD lk, .int .i64 cell, .int .i64 mi, .int .i64 ev, .int .i64 en, inD af])]) (nid := 5) (n := 168) ?_))) ?_
    · simp [headW, heapW, envW, blkLt, D.ltL, D.lt, look, hget, frzHH, frzBlk, herase, fz_int, fz_ref, fz_ptr, fz_bool, fz_sl, fz_nils, fz_osl, fzC_some, fzC_arr, fzP_some, List.length_append, List.length_map, shD, rlD, lkD, inD]
    refine awp_peel (T := [(3, [(7, false, true, [(0, 4)]), (2, false, false, [])]), (13, [(4, false, true, [(1, 3), (0, 3)]), (2, false, false, [])]), (19, [(13, false, false, [])])]) e55_ok (by kernel_rfl) (by kernel_rfl) ?_
    cases hE : (E2 != 0)
    case true =>
      simp only [RT, FS, ↓RE, okR, argEnv, Nat.reduceAdd, Nat.reduceSub, Nat.reduceLT, Nat.reduceLeDiff, Nat.reduceEqDiff, reduceIte, RM, om2, hE, o2]
    have hE0 : E2 = 0 := by simpa using hE
    have oc3 := oc3 hE0
    simp only [RT, FS, ↓RE, okR, argEnv, Nat.reduceAdd, Nat.reduceSub, Nat.reduceLT, Nat.reduceLeDiff, Nat.reduceEqDiff, reduceIte, RM, om2, hE]
    refine awp_peel (T := [(3, [(7, false, true, [(0, 4)]), (2, false, false, [])]), (13, [(4, false, true, [(1, 3), (0, 3)]), (2, false, false, [])]), (19, [(13, false, false, [])])]) e55_ok (by kernel_rfl) (by kernel_rfl) ?_
    simp only [RT, FS, ↓RE, okR, argEnv, Nat.reduceAdd, Nat.reduceSub, Nat.reduceLT, Nat.reduceLeDiff, Nat.reduceEqDiff, reduceIte, RM, oc3]
    refine awp_peel (T := [(3, [(7, false, true, [(0, 4)]), (2, false, false, [])]), (13, [(4, false, true, [(1, 3), (0, 3)]), (2, false, false, [])]), (19, [(13, false, false, [])])]) e55_ok (by kernel_rfl) (by kernel_rfl) ?_
    simp only [RT, FS, ↓RE, okR, argEnv, Nat.reduceAdd, Nat.reduceSub, Nat.reduceLT, Nat.reduceLeDiff, Nat.reduceEqDiff, reduceIte, RM, hz]
    refine awp_rest (T := [(3, [(7, false, true, [(0, 4)]), (2, false, false, [])]), (13, [(4, false, true, [(1, 3), (0, 3)]), (2, false, false, [])]), (19, [(13, false, false, [])])]) e55_ok (by kernel_rfl) (by kernel_rfl) ?_
    simp only [RT, FS, ↓RE, okR, argEnv, Nat.reduceAdd, Nat.reduceSub, Nat.reduceLT, Nat.reduceLeDiff, Nat.reduceEqDiff, reduceIte, RM, oa1, oa2, os2, decide_true, o2]
  | some a b ha hb =>
    refine awp_peel (T := [(3, [(7, false, true, [(0, 4)]), (2, false, false, [])]), (13, [(4, false, true, [(1, 3), (0, 3)]), (2, false, false, [])]), (19, [(13, false, false, [])])]) e55_ok (by kernel_rfl) (by kernel_rfl) ?_
    simp only [RT, FS, ↓RE, okR, argEnv, Nat.reduceAdd, Nat.reduceSub, Nat.reduceLT, Nat.reduceLeDiff, Nat.reduceEqDiff, reduceIte, RM, ow1]
    refine awp_peel (T := [(3, [(7, false, true, [(0, 4)]), (2, false, false, [])]), (13, [(4, false, true, [(1, 3), (0, 3)]), (2, false, false, [])]), (19, [(13, false, false, [])])]) e55_ok (by kernel_rfl) (by kernel_rfl) ?_
    simp only [RT, FS, ↓RE, okR, argEnv, Nat.reduceAdd, Nat.reduceSub, Nat.reduceLT, Nat.reduceLeDiff, Nat.reduceEqDiff, reduceIte, RM, ow2]
    refine awp_peel (T := [(3, [(7, false, true, [(0, 4)]), (2, false, false, [])]), (13, [(4, false, true, [(1, 3), (0, 3)]), (2, false, false, [])]), (19, [(13, false, false, [])])]) e55_ok (by kernel_rfl) (by kernel_rfl) ?_
    simp only [RT, FS, ↓RE, okR, argEnv, Nat.reduceAdd, Nat.reduceSub, Nat.reduceLT, Nat.reduceLeDiff, Nat.reduceEqDiff, reduceIte, RM, hz]
    refine call_of_pure (same_self a (by simp only [BL]; omega)) rfl ?_
    simp only [RT, FS, ↓RE, okR, argEnv, Nat.reduceAdd, Nat.reduceSub, Nat.reduceLT, Nat.reduceLeDiff, Nat.reduceEqDiff, reduceIte, RM, Bool.not_true]
    refine call_of_pure (same_self b (by simp only [BL]; omega)) rfl ?_
    simp only [RT, FS, ↓RE, okR, argEnv, Nat.reduceAdd, Nat.reduceSub, Nat.reduceLT, Nat.reduceLeDiff, Nat.reduceEqDiff, reduceIte, RM, Bool.not_true]
    have b4 := fun h nid => ms_nils l h nid (by omega)
    have b5 := fun h nid (hb : hget h 4 = some (.arr 47 4 (l.map enMs.d))) => ms_app (n := l.length) (r := L1) hb rfl nid (by omega)
    have d5 : ∀ h, litD Try.prog h 45 1 [(0, .agg [.int .i64 mt, .int .i64 mc, .bool md, .int .i64 mcame])] = some (.sl (L1.map enMs.d)) := fun h => by rw [hL1]; exact ms_litD h ⟨mt, mc, md, mcame⟩
    refine awp_peel (T := [(3, [(7, false, true, [(0, 4)]), (2, false, false, [])]), (13, [(4, false, true, [(1, 3), (0, 3)]), (2, false, false, [])]), (19, [(13, false, false, [])])]) e55_ok (by kernel_rfl) (by kernel_rfl) ?_
    simp only [RT, FS, ↓RE, okR, argEnv, Nat.reduceAdd, Nat.reduceSub, Nat.reduceLT, Nat.reduceLeDiff, Nat.reduceEqDiff, reduceIte, RM, b4, b5, d5, cells_osl, cur_osl, curC_arr, decide_true, List.length_map, List.length_append]
    refine awp_imp (imp_thaw 4 (.weak (weak_of (e := [(1, msD l), (2, .int .i64 now), (5, .ptr 0 0), (9, .ptr 1 0), (11, msD (l ++ L1)), (12, .sl (prL C))]) (h := [(1, .box [.int .i64 mt, .int .i64 mc, .bool md, .int .i64 mcame]), (0, .box [.int .i64 sw, .int .i64 sd, shD sh, rlD rl, lkD lk, .int .i64 cell, .int .i64 mi, .int .i64 ev, .int .i64 en, inD af])]) (nid := 5) (n := 168) ?_))) ?_
    · simp [headW, heapW, envW, blkLt, D.ltL, D.lt, look, hget, frzHH, frzBlk, herase, fz_int, fz_ref, fz_ptr, fz_bool, fz_sl, fz_nils, fz_osl, fzC_some, fzC_arr, fzP_some, List.length_append, List.length_map, shD, rlD, lkD, inD]
    refine awp_peel (T := [(3, [(7, false, true, [(0, 4)]), (2, false, false, [])]), (13, [(4, false, true, [(1, 3), (0, 3)]), (2, false, false, [])]), (19, [(13, false, false, [])])]) e55_ok (by kernel_rfl) (by kernel_rfl) ?_
    cases hE : (E2 != 0)
    case true =>
      simp only [RT, FS, ↓RE, okR, argEnv, Nat.reduceAdd, Nat.reduceSub, Nat.reduceLT, Nat.reduceLeDiff, Nat.reduceEqDiff, reduceIte, RM, om2, hE, o2]
    have hE0 : E2 = 0 := by simpa using hE
    have oc3 := oc3 hE0
    simp only [RT, FS, ↓RE, okR, argEnv, Nat.reduceAdd, Nat.reduceSub, Nat.reduceLT, Nat.reduceLeDiff, Nat.reduceEqDiff, reduceIte, RM, om2, hE]
    refine awp_peel (T := [(3, [(7, false, true, [(0, 4)]), (2, false, false, [])]), (13, [(4, false, true, [(1, 3), (0, 3)]), (2, false, false, [])]), (19, [(13, false, false, [])])]) e55_ok (by kernel_rfl) (by kernel_rfl) ?_
    simp only [RT, FS, ↓RE, okR, argEnv, Nat.reduceAdd, Nat.reduceSub, Nat.reduceLT, Nat.reduceLeDiff, Nat.reduceEqDiff, reduceIte, RM, oc3]
    refine awp_peel (T := [(3, [(7, false, true, [(0, 4)]), (2, false, false, [])]), (13, [(4, false, true, [(1, 3), (0, 3)]), (2, false, false, [])]), (19, [(13, false, false, [])])]) e55_ok (by kernel_rfl) (by kernel_rfl) ?_
    simp only [RT, FS, ↓RE, okR, argEnv, Nat.reduceAdd, Nat.reduceSub, Nat.reduceLT, Nat.reduceLeDiff, Nat.reduceEqDiff, reduceIte, RM, hz]
    refine awp_rest (T := [(3, [(7, false, true, [(0, 4)]), (2, false, false, [])]), (13, [(4, false, true, [(1, 3), (0, 3)]), (2, false, false, [])]), (19, [(13, false, false, [])])]) e55_ok (by kernel_rfl) (by kernel_rfl) ?_
    simp only [RT, FS, ↓RE, okR, argEnv, Nat.reduceAdd, Nat.reduceSub, Nat.reduceLT, Nat.reduceLeDiff, Nat.reduceEqDiff, reduceIte, RM, oa1, oa2, os2, decide_true, o2]
theorem watchOrder_pure : ∀ Ds, TyL Try.prog Try.f5.params.toList Ds → Pure Try.prog 5 Ds (.bool true) := by
  intro Ds h
  rw [Try.params5] at h
  match Ds, h with
  | [_, _, _, _, _], ⟨⟨n, _, h1, e1⟩, ⟨n2, _, h2, e2⟩, ⟨n3, _, h3, e3⟩, ⟨n4, _, h4, e4⟩, ⟨n5, _, h5, e5⟩, _⟩ =>
    rw [Try.underlying31] at e1
    rw [Fz.und_45] at e2
    rw [Fz.und_3] at e3 e4
    rw [Try.underlying47] at e5
    dsimp only at e1 e2 e3 e4 e5
    obtain ⟨w, rfl, hw⟩ := tyWatch h1
    obtain ⟨l, rfl, hl⟩ := tyMsgs h2
    obtain ⟨now, rfl, _⟩ := tyInt Fz.und_3 h3
    obtain ⟨frm, rfl, _⟩ := tyInt Fz.und_3 h4
    obtain ⟨m, rfl⟩ := tyMsg h5
    subst e1; cases e2; cases e3; cases e4; subst e5
    exact watchOrder_at w hw l hl now frm m
end Go.Sx
