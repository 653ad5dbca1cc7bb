/- Own work: contracts of functions, used in the proof of a law. -/
import Derived.Test.YtljkgnicmlhipaaSxWn
import Derived.Test.YtljkgnicmlhipaaSxWm
import Derived.Test.YtljkgnicmlhipaaSxMe
set_option linter.unusedVariables false
set_option linter.unusedSimpArgs false
namespace Go.Sx
open Go.Proofs
set_option maxRecDepth 10000

/-! Types of arguments -/
theorem tyEn {α : Type} {E : En α} {n : Nat} {t e : TypeId} {ds : List D} (ok : α → Prop) (hu : (Try.prog).underlying t = some (.slice e)) (hz : (Try.prog).cellsOf e ≠ 0) (he : ∀ m c, TyD Try.prog m e c → ∃ a, c = E.d a ∧ ok a) (h : TyD Try.prog n t ds) : ∃ l : List α, ds = [.sl (l.map E.d)] ∧ l.length ≤ 9223372036854775807 ∧ ∀ a ∈ l, ok a := by
  obtain ⟨es, m, hs, hle, hc⟩ := tySl hu hz h
  have hex : ∀ (es : List (List D)), (∀ c ∈ es, ∃ a, c = E.d a ∧ ok a) → ∃ l : List α, es = l.map E.d ∧ ∀ a ∈ l, ok a := by
    intro es
    induction es with
    | nil => intro _; exact ⟨[], rfl, fun a h => by cases h⟩
    | cons c es ih =>
      intro hc
      obtain ⟨a, rfl, ha⟩ := hc c (by simp)
      obtain ⟨l, rfl, hl⟩ := ih fun c h => hc c (by simp [h])
      refine ⟨a :: l, rfl, fun b hb => ?_⟩
      rcases List.mem_cons.1 hb with rfl | hb
      · exact ha
      · exact hl b hb
  obtain ⟨l, rfl, hl⟩ := hex es fun c hcm => he m c (hc c hcm).2
  have : maxLen ≤ 9223372036854775807 := by decide
  simp at hle
  exact ⟨l, hs, Nat.le_trans hle this, hl⟩
theorem tyInts {n : Nat} {ds : List D} (h : TyD Try.prog n 29 ds) : ∃ l : List Int, ds = [inD l] ∧ BL l := by
  obtain ⟨l, h1, h2, _⟩ := tyEn (E := enI) (fun _ => True) Fz.und_29 (by decide +kernel) (fun _ _ h => by obtain ⟨x, hx, _⟩ := tyInt Fz.und_3 h; exact ⟨x, hx, trivial⟩) h
  exact ⟨l, h1, h2⟩
theorem tyBools {n : Nat} {ds : List D} (h : TyD Try.prog n 22 ds) : ∃ l : List Bool, ds = [shD l] ∧ BL l := by
  obtain ⟨l, h1, h2, _⟩ := tyEn (E := enB) (fun _ => True) Fz.und_22 (by decide +kernel) (fun _ _ h => by obtain ⟨x, hx⟩ := tyBool Fz.und_4 h; exact ⟨x, hx, trivial⟩) h
  exact ⟨l, h1, h2⟩
theorem tySpan {n : Nat} {ds : List D} (h : TyD Try.prog n 125 ds) : ∃ r : Int × Int, ds = enS.d r := by
  obtain ⟨hl, m, hf⟩ := tySt Try.underlying125 (by decide +kernel) h
  obtain ⟨a, b, rfl⟩ := list2 (hl.trans (by kernel_rfl))
  obtain ⟨x, hx, _⟩ := tyInt Fz.und_3 (hf 0 _ rfl)
  obtain ⟨y, hy, _⟩ := tyInt Fz.und_3 (hf 1 _ rfl)
  cases hx; cases hy
  exact ⟨(x, y), rfl⟩
theorem tySpans {n : Nat} {ds : List D} (h : TyD Try.prog n 72 ds) : ∃ l : List (Int × Int), ds = [spD l] ∧ BL l := by
  obtain ⟨l, h1, h2, _⟩ := tyEn (E := enS) (fun _ => True) Fz.und_72 (by decide +kernel) (fun _ _ h => by obtain ⟨x, hx⟩ := tySpan h; exact ⟨x, hx, trivial⟩) h
  exact ⟨l, h1, h2⟩
theorem tyRelay {n : Nat} {ds : List D} (h : TyD Try.prog n 74 ds) : ∃ r : RelayW, ds = enRl.d r ∧ BL r.l := by
  obtain ⟨hl, m, hf⟩ := tySt Try.underlying74 (by decide +kernel) h
  obtain ⟨a, b, c, rfl⟩ : ∃ a b c, ds = [a, b, c] := by
    match ds, hl.trans (by kernel_rfl : _ = 3) with
    | [a, b, c], _ => exact ⟨a, b, c, rfl⟩
  obtain ⟨x, hx, _⟩ := tyInt Fz.und_3 (hf 0 _ rfl)
  obtain ⟨y, hy, _⟩ := tyInt Fz.und_3 (hf 1 _ rfl)
  obtain ⟨z, hz, hb⟩ := tySpans (hf 2 _ rfl)
  cases hx; cases hy; cases hz
  exact ⟨⟨x, y, z⟩, rfl, hb⟩
theorem tyLink {n : Nat} {ds : List D} (h : TyD Try.prog n 80 ds) : ∃ r : LinkW, ds = enLk.d r ∧ BL r.l := by
  obtain ⟨hl, m, hf⟩ := tySt Try.underlying80 (by decide +kernel) h
  obtain ⟨a, b, c, d, rfl⟩ := list4 (hl.trans (by kernel_rfl))
  obtain ⟨x, hx, _⟩ := tyInt Fz.und_3 (hf 0 _ rfl)
  obtain ⟨y, hy, _⟩ := tyInt Fz.und_3 (hf 1 _ rfl)
  obtain ⟨u, hu, _⟩ := tyInt Fz.und_3 (hf 2 _ rfl)
  obtain ⟨z, hz, hb⟩ := tySpans (hf 3 _ rfl)
  cases hx; cases hy; cases hu; cases hz
  exact ⟨⟨x, y, u, z⟩, rfl, hb⟩
theorem tyMsg {n : Nat} {ds : List D} (h : TyD Try.prog n 47 ds) : ∃ r : MsgW, ds = enMs.d r := by
  obtain ⟨hl, m, hf⟩ := tySt Try.underlying47 (by decide +kernel) h
  obtain ⟨a, b, c, d, rfl⟩ := list4 (hl.trans (by kernel_rfl))
  obtain ⟨x, hx, _⟩ := tyInt Fz.und_3 (hf 0 _ rfl)
  obtain ⟨y, hy, _⟩ := tyInt Fz.und_3 (hf 1 _ rfl)
  obtain ⟨z, hz⟩ := tyBool Fz.und_4 (hf 2 _ rfl)
  obtain ⟨u, hu, _⟩ := tyInt Fz.und_3 (hf 3 _ rfl)
  cases hx; cases hy; cases hu; cases hz
  exact ⟨⟨x, y, z, u⟩, rfl⟩
theorem tyMsgs {n : Nat} {ds : List D} (h : TyD Try.prog n 45 ds) : ∃ l : List MsgW, ds = [msD l] ∧ BL l := by
  obtain ⟨l, h1, h2, _⟩ := tyEn (E := enMs) (fun _ => True) Fz.und_45 (by decide +kernel) (fun _ _ h => by obtain ⟨x, hx⟩ := tyMsg h; exact ⟨x, hx, trivial⟩) h
  exact ⟨l, h1, h2⟩
theorem tySky {n : Nat} {ds : List D} (h : TyD Try.prog n 24 ds) : ∃ r : SkyW, ds = r.c ∧ BL r.sh := by
  obtain ⟨hl, m, hf⟩ := tySt Try.underlying24 (by decide +kernel) h
  obtain ⟨a, b, c, rfl⟩ : ∃ a b c, ds = [a, b, c] := by
    match ds, hl.trans (by kernel_rfl : _ = 3) with
    | [a, b, c], _ => exact ⟨a, b, c, rfl⟩
  obtain ⟨x, hx, _⟩ := tyInt Fz.und_3 (hf 0 _ rfl)
  obtain ⟨y, hy, _⟩ := tyInt Fz.und_3 (hf 1 _ rfl)
  obtain ⟨z, hz, hb⟩ := tyBools (hf 2 _ rfl)
  cases hx; cases hy; cases hz
  exact ⟨⟨x, y, z⟩, rfl, hb⟩
theorem tyNet {n : Nat} {ds : List D} (h : TyD Try.prog n 28 ds) : ∃ r : NetW, ds = r.c ∧ NetL r := by
  obtain ⟨hl, m, hf⟩ := tySt Try.underlying28 (by decide +kernel) h
  obtain ⟨a, b, rfl⟩ := list2 (hl.trans (by kernel_rfl))
  obtain ⟨x, hx, bx, ox⟩ := tyEn (E := enRl) (fun r => BL r.l) Fz.und_25 (by decide +kernel) (fun _ _ h => tyRelay h) (hf 0 _ rfl)
  obtain ⟨y, hy, bY, oy⟩ := tyEn (E := enLk) (fun r => BL r.l) Fz.und_26 (by decide +kernel) (fun _ _ h => tyLink h) (hf 1 _ rfl)
  cases hx; cases hy
  exact ⟨⟨x, y⟩, rfl, ⟨bx, bY, ox, oy⟩⟩
theorem tyWatch {n : Nat} {ds : List D} (h : TyD Try.prog n 31 ds) : ∃ w : WatchW, ds = w.c ∧ WatchL w := by
  obtain ⟨hl, m, hf⟩ := tySt Try.underlying31 (by decide +kernel) h
  obtain ⟨a0, a1, a2, a3, a4, a5, a6, a7, a8, a9, rfl⟩ : ∃ a0 a1 a2 a3 a4 a5 a6 a7 a8 a9, ds = [a0, a1, a2, a3, a4, a5, a6, a7, a8, a9] := by
    match ds, hl.trans (by kernel_rfl : _ = 10) with
    | [a0, a1, a2, a3, a4, a5, a6, a7, a8, a9], _ => exact ⟨a0, a1, a2, a3, a4, a5, a6, a7, a8, a9, rfl⟩
  obtain ⟨s, hs, ls⟩ := tySky (hf 0 _ rfl)
  obtain ⟨t, ht, lt⟩ := tyNet (hf 1 _ rfl)
  obtain ⟨x2, h2, _⟩ := tyInt Fz.und_3 (hf 2 _ rfl)
  obtain ⟨x3, h3, _⟩ := tyInt Fz.und_3 (hf 3 _ rfl)
  obtain ⟨x4, h4, _⟩ := tyInt Fz.und_3 (hf 4 _ rfl)
  obtain ⟨x5, h5, _⟩ := tyInt Fz.und_3 (hf 5 _ rfl)
  obtain ⟨x6, h6, l6⟩ := tyInts (hf 6 _ rfl)
  cases hs; cases ht; cases h2; cases h3; cases h4; cases h5; cases h6
  exact ⟨⟨s, t, x2, x3, x4, x5, x6⟩, rfl, ⟨ls, lt, l6⟩⟩

/-! Oracles of a watch, messages and a minute -/
noncomputable def gWLN (ok : WatchW → List MsgW → Int → Prop) (rf : WatchW → List MsgW → Int → D) : List D → Option D := orcF (fun p : WatchW × List MsgW × Int => ok p.1 p.2.1 p.2.2) (fun p => [.agg p.1.c, msD p.2.1, .int .i64 p.2.2]) (fun p => rf p.1 p.2.1 p.2.2)
theorem gWLN_eq {ok : WatchW → List MsgW → Int → Prop} {rf : WatchW → List MsgW → Int → D} {w : WatchW} {l : List MsgW} {now : Int} (h : ok w l now) : gWLN ok rf [.agg w.c, msD l, .int .i64 now] = some (rf w l now) :=
  orcF_eq (ok := fun p : WatchW × List MsgW × Int => ok p.1 p.2.1 p.2.2) (dsf := fun p => [.agg p.1.c, msD p.2.1, .int .i64 p.2.2]) (rf := fun p => rf p.1 p.2.1 p.2.2) (w, l, now) h fun q hq => by
    simp only [List.cons.injEq, D.agg.injEq, D.int.injEq, and_true, true_and] at hq
    rw [WatchW.c_inj hq.1, En.map_inj (E := enMs) hq.2.1, hq.2.2]
def okL (w : WatchW) (l : List MsgW) (_ : Int) : Prop := WatchL w ∧ BL l
def mailedD (w : WatchW) (l : List MsgW) (now : Int) : D := .int .i64 (askedI w l now)
def rStageD (w : WatchW) (l : List MsgW) (now : Int) : D := .int .i64 (stageI w (knownL l now) now)
def rCallsD (w : WatchW) (l : List MsgW) (now : Int) : D := .sl (prL (callsF (stF w l) w.min (now - w.min + 1).toNat))
noncomputable abbrev e50 : List (FuncId × (List D → Option D)) :=
  (12, gShort) :: (14, cstO [] (.bool true)) :: (22, gWLN okL mailedD) ::
  (32, gWLN okL StageR) :: (23, gWLN okL CallsR) :: (33, gWLN AskOk rStageD) :: (34, gWLN AskOk rCallsD) ::
  (24, gSameC) :: []
theorem e50_ok : OkO Try.prog (mkO e50) :=
  mkO_ok (orcF_ok fun w h => short_t w h) <| mkO_ok (cstO_ok known_t) <| mkO_ok (orcF_ok fun p h => mailed_t h.1 h.2 p.2.2) <|
  mkO_ok (orcF_ok fun p h => Stage_t h.1 h.2 p.2.2) <| mkO_ok (orcF_ok fun p h => Calls_t h.1 h.2 p.2.2) <| mkO_ok (orcF_ok fun p h => r_Stage_t h.ok (by have := h.n; omega) h.t (by have := h.b; have := h.ok.m; omega)) <|
  mkO_ok (orcF_ok fun p h => r_Calls_t h) <| mkO_ok gSameC_ok <| fun _ _ _ h => by cases h

set_option maxHeartbeats 4000000 in
theorem watchStages_at (w : WatchW) (hw : WatchL w) (l : List MsgW) (hl : BL l) (now : Int) : Pure Try.prog 9 [.agg w.c, msD l, .int .i64 now] (.bool true) := by
  have o1 := gShort_eq hw
  have o2 := cstO_eq [] (.bool true)
  have o3 : gWLN okL mailedD [.agg w.c, msD l, .int .i64 now] = some (.int .i64 (askedI w l now)) := gWLN_eq ⟨hw, hl⟩
  have o4 : gWLN okL StageR [.agg w.c, msD l, .int .i64 now] = some (if askedI w l now = 0 then .tup [.int .i64 (stageI w (knownL l now) now), .int .i64 0] else .tup [.int .i64 0, .int .i64 (askedI w l now)]) := gWLN_eq ⟨hw, hl⟩
  have o5 : gWLN okL CallsR [.agg w.c, msD l, .int .i64 now] = some (if askedI w l now = 0 then .tup [.sl (prL (callsF (stF w l) w.min (now - w.min + 1).toNat)), .int .i64 0] else .tup [.nils, .int .i64 (askedI w l now)]) := gWLN_eq ⟨hw, hl⟩
  have o6 : askedI w l now = 0 → gWLN AskOk rStageD [.agg w.c, msD l, .int .i64 now] = some (.int .i64 (stageI w (knownL l now) now)) := fun h => gWLN_eq (asked_ok h)
  have o7 : askedI w l now = 0 → gWLN AskOk rCallsD [.agg w.c, msD l, .int .i64 now] = some (.sl (prL (callsF (stF w l) w.min (now - w.min + 1).toNat))) := fun h => gWLN_eq (asked_ok h)
  have hb : askedI w l now = 0 → BL (callsF (stF w l) w.min (now - w.min + 1).toNat) := fun h => by
    have ho := asked_ok h
    have := callsF_len (mn := w.min) (fun t => stF_b ho.ok l t) (now - w.min + 1).toNat
    have := ho.b
    have := ho.ok.m
    simp only [BL]; omega
  have o8 := fun h => gSameC_eq (hb h) (hb h)
  generalize callsF (stF w l) w.min (now - w.min + 1).toNat = C at *
  generalize stageI w (knownL l now) now = S at *
  generalize askedI w l now = E at *
  generalize shortB w = B at *
  obtain ⟨⟨sw, sd, sh⟩, ⟨rl, lk⟩, cell, mi, ev, en, af⟩ := w
  simp only [WatchW.c, SkyW.c, NetW.c, List.cons_append, List.nil_append] at *
  refine pure_of_pieces (rs := [.tmp 6]) (m := 96) [] e50_ok (by kernel_rfl) Try.func9 rfl (by kernel_rfl) rfl rfl (by kernel_rfl) ?_
  refine awp_peel (T := []) e50_ok (by kernel_rfl) (by kernel_rfl) ?_
  simp only [RT, FS, ↓RE, okR, argEnv, Nat.reduceAdd, Nat.reduceSub, Nat.reduceLT, Nat.reduceLeDiff, Nat.reduceEqDiff, reduceIte, RM]
  refine awp_peel (T := []) e50_ok (by kernel_rfl) (by kernel_rfl) ?_
  cases B
  · simp only [RT, FS, ↓RE, okR, argEnv, Nat.reduceAdd, Nat.reduceSub, Nat.reduceLT, Nat.reduceLeDiff, Nat.reduceEqDiff, reduceIte, RM, o1, o2, Bool.not_false]
  cases q1 : decide ((70 : Int) < (l.length : Int))
  case true =>
    cases q2 : decide ((20 : Int) < (l.length : Int))
    · simp only [RT, FS, ↓RE, okR, argEnv, Nat.reduceAdd, Nat.reduceSub, Nat.reduceLT, Nat.reduceLeDiff, Nat.reduceEqDiff, reduceIte, RM, o1, o2, q1, q2, Bool.not_true, List.length_map]
    cases q3 : decide ((l.length : Int) ≤ 60)
    · simp only [RT, FS, ↓RE, okR, argEnv, Nat.reduceAdd, Nat.reduceSub, Nat.reduceLT, Nat.reduceLeDiff, Nat.reduceEqDiff, reduceIte, RM, o1, o2, q1, q2, q3, Bool.not_true, List.length_map]
    · simp only [RT, FS, ↓RE, okR, argEnv, Nat.reduceAdd, Nat.reduceSub, Nat.reduceLT, Nat.reduceLeDiff, Nat.reduceEqDiff, reduceIte, RM, o1, o2, q1, q2, q3, Bool.not_true, List.length_map]
  cases q4 : decide ((20 : Int) < (l.length : Int)) && decide ((l.length : Int) ≤ 60)
  case true =>
    simp only [Bool.and_eq_true] at q4
    simp only [RT, FS, ↓RE, okR, argEnv, Nat.reduceAdd, Nat.reduceSub, Nat.reduceLT, Nat.reduceLeDiff, Nat.reduceEqDiff, reduceIte, RM, o1, o2, q1, q4.1, q4.2, Bool.not_true, List.length_map]
  have q5 : decide ((20 : Int) < (l.length : Int)) = false ∨ (decide ((20 : Int) < (l.length : Int)) = true ∧ decide ((l.length : Int) ≤ 60) = false) := by
    cases h1 : decide ((20 : Int) < (l.length : Int))
    · exact .inl rfl
    · rw [h1, Bool.true_and] at q4; exact .inr ⟨rfl, q4⟩
  by_cases hE : E = 0
  · have o6 := o6 hE
    have o7 := o7 hE
    have o8 := o8 hE
    rw [if_pos hE] at o4 o5
    subst hE
    have hz : ((0 : Int) != 0) = false := rfl
    have hz2 : ((0 : Int) == 0) = true := rfl
    have hs : (S == S) = true := by simp
    have hfin : ∀ s : St, s = s → True := fun _ _ => trivial
    rcases q5 with q5 | ⟨q5, q6⟩
    · simp only [RT, FS, ↓RE, okR, argEnv, Nat.reduceAdd, Nat.reduceSub, Nat.reduceLT, Nat.reduceLeDiff, Nat.reduceEqDiff, reduceIte, RM, o1, o2, q1, q5, Bool.not_true, List.length_map]
      refine awp_peel (T := []) e50_ok (by kernel_rfl) (by kernel_rfl) ?_
      simp only [RT, FS, ↓RE, okR, argEnv, Nat.reduceAdd, Nat.reduceSub, Nat.reduceLT, Nat.reduceLeDiff, Nat.reduceEqDiff, reduceIte, RM, o4]
      refine awp_peel (T := []) e50_ok (by kernel_rfl) (by kernel_rfl) ?_
      simp only [RT, FS, ↓RE, okR, argEnv, Nat.reduceAdd, Nat.reduceSub, Nat.reduceLT, Nat.reduceLeDiff, Nat.reduceEqDiff, reduceIte, RM, o5]
      refine awp_peel (T := []) e50_ok (by kernel_rfl) (by kernel_rfl) ?_
      simp only [RT, FS, ↓RE, okR, argEnv, Nat.reduceAdd, Nat.reduceSub, Nat.reduceLT, Nat.reduceLeDiff, Nat.reduceEqDiff, reduceIte, RM, o3, hz]
      refine awp_rest (T := []) e50_ok (by kernel_rfl) (by kernel_rfl) ?_
      simp only [RT, FS, ↓RE, okR, argEnv, Nat.reduceAdd, Nat.reduceSub, Nat.reduceLT, Nat.reduceLeDiff, Nat.reduceEqDiff, reduceIte, RM, hz2, hs, o6, o7, o8, o2, decide_true]
    · simp only [RT, FS, ↓RE, okR, argEnv, Nat.reduceAdd, Nat.reduceSub, Nat.reduceLT, Nat.reduceLeDiff, Nat.reduceEqDiff, reduceIte, RM, o1, o2, q1, q5, q6, Bool.not_true, List.length_map]
      refine awp_peel (T := []) e50_ok (by kernel_rfl) (by kernel_rfl) ?_
      simp only [RT, FS, ↓RE, okR, argEnv, Nat.reduceAdd, Nat.reduceSub, Nat.reduceLT, Nat.reduceLeDiff, Nat.reduceEqDiff, reduceIte, RM, o4]
      refine awp_peel (T := []) e50_ok (by kernel_rfl) (by kernel_rfl) ?_
      simp only [RT, FS, ↓RE, okR, argEnv, Nat.reduceAdd, Nat.reduceSub, Nat.reduceLT, Nat.reduceLeDiff, Nat.reduceEqDiff, reduceIte, RM, o5]
      refine awp_peel (T := []) e50_ok (by kernel_rfl) (by kernel_rfl) ?_
      simp only [RT, FS, ↓RE, okR, argEnv, Nat.reduceAdd, Nat.reduceSub, Nat.reduceLT, Nat.reduceLeDiff, Nat.reduceEqDiff, reduceIte, RM, o3, hz]
      refine awp_rest (T := []) e50_ok (by kernel_rfl) (by kernel_rfl) ?_
      simp only [RT, FS, ↓RE, okR, argEnv, Nat.reduceAdd, Nat.reduceSub, Nat.reduceLT, Nat.reduceLeDiff, Nat.reduceEqDiff, reduceIte, RM, hz2, hs, o6, o7, o8, o2, decide_true]
  · rw [if_neg hE] at o4 o5
    have hz : (E != 0) = true := by simp [hE]
    have hz2 : ((0 : Int) == 0) = true := rfl
    have hs : (E == E) = true := by simp
    rcases q5 with q5 | ⟨q5, q6⟩
    · simp only [RT, FS, ↓RE, okR, argEnv, Nat.reduceAdd, Nat.reduceSub, Nat.reduceLT, Nat.reduceLeDiff, Nat.reduceEqDiff, reduceIte, RM, o1, o2, q1, q5, Bool.not_true, List.length_map]
      refine awp_peel (T := []) e50_ok (by kernel_rfl) (by kernel_rfl) ?_
      simp only [RT, FS, ↓RE, okR, argEnv, Nat.reduceAdd, Nat.reduceSub, Nat.reduceLT, Nat.reduceLeDiff, Nat.reduceEqDiff, reduceIte, RM, o4]
      refine awp_peel (T := []) e50_ok (by kernel_rfl) (by kernel_rfl) ?_
      simp only [RT, FS, ↓RE, okR, argEnv, Nat.reduceAdd, Nat.reduceSub, Nat.reduceLT, Nat.reduceLeDiff, Nat.reduceEqDiff, reduceIte, RM, o5]
      refine awp_peel (T := []) e50_ok (by kernel_rfl) (by kernel_rfl) ?_
      simp only [RT, FS, ↓RE, okR, argEnv, Nat.reduceAdd, Nat.reduceSub, Nat.reduceLT, Nat.reduceLeDiff, Nat.reduceEqDiff, reduceIte, RM, o3, hz, hz2, hs, o2]
    · simp only [RT, FS, ↓RE, okR, argEnv, Nat.reduceAdd, Nat.reduceSub, Nat.reduceLT, Nat.reduceLeDiff, Nat.reduceEqDiff, reduceIte, RM, o1, o2, q1, q5, q6, Bool.not_true, List.length_map]
      refine awp_peel (T := []) e50_ok (by kernel_rfl) (by kernel_rfl) ?_
      simp only [RT, FS, ↓RE, okR, argEnv, Nat.reduceAdd, Nat.reduceSub, Nat.reduceLT, Nat.reduceLeDiff, Nat.reduceEqDiff, reduceIte, RM, o4]
      refine awp_peel (T := []) e50_ok (by kernel_rfl) (by kernel_rfl) ?_
      simp only [RT, FS, ↓RE, okR, argEnv, Nat.reduceAdd, Nat.reduceSub, Nat.reduceLT, Nat.reduceLeDiff, Nat.reduceEqDiff, reduceIte, RM, o5]
      refine awp_peel (T := []) e50_ok (by kernel_rfl) (by kernel_rfl) ?_
      simp only [RT, FS, ↓RE, okR, argEnv, Nat.reduceAdd, Nat.reduceSub, Nat.reduceLT, Nat.reduceLeDiff, Nat.reduceEqDiff, reduceIte, RM, o3, hz, hz2, hs, o2]
theorem watchStages_pure : ∀ Ds, TyL Try.prog Try.f9.params.toList Ds → Pure Try.prog 9 Ds (.bool true) := by
  intro Ds h
  rw [Try.params9] at h
  match Ds, h with
  | [_, _, _], ⟨⟨n, _, h1, e1⟩, ⟨n2, _, h2, e2⟩, ⟨n3, _, h3, e3⟩, _⟩ =>
    rw [Try.underlying31] at e1
    rw [Fz.und_45] at e2
    rw [Fz.und_3] at e3
    dsimp only at e1 e2 e3
    obtain ⟨w, rfl, hw⟩ := tyWatch h1
    obtain ⟨l, rfl, hl⟩ := tyMsgs h2
    obtain ⟨now, rfl, _⟩ := tyInt Fz.und_3 h3
    subst e1; cases e2; cases e3
    exact watchStages_at w hw l hl now
end Go.Sx
