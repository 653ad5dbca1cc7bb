/- Own work: contracts of functions, used in the proof of a law. -/
import Derived.Test.YtljkgnicmlhipaaGreatSxW78v
import Derived.Test.YtljkgnicmlhipaaGreatSxW76v
set_option linter.unusedVariables false
set_option linter.unusedSimpArgs false
namespace Go.Sx
open Go.Proofs
set_option maxRecDepth 10000

theorem tyPlace {n : Nat} {ds : List D} (h : TyD Tryz.prog n 44 ds) : ∃ p : PlW, ds = enP.d p := by
 obtain ⟨hl, m, hf⟩ := tySt Tryz.underlying44 (by decide +kernel) h
 obtain ⟨a, b, rfl⟩ := list2 (hl.trans (by kernel_rfl))
 obtain ⟨x, hx, _⟩ := tyInt Fz.und_3 (hf 0 _ rfl)
 obtain ⟨z, hz⟩ := tyBool Fz.und_4 (hf 1 _ rfl)
 cases hx; cases hz
 exact ⟨(x, z), rfl⟩
theorem tyPlaces {n : Nat} {ds : List D} (h : TyD Tryz.prog n 45 ds) : ∃ l : List PlW, ds = [.sl (plL l)] ∧ BL l := by
 obtain ⟨l, h1, h2, _⟩ := tyEn (E := enP) (fun _ => True) Fz.und_45 (by decide +kernel) (fun _ _ h => by obtain ⟨x, hx⟩ := tyPlace h; exact ⟨x, hx, trivial⟩) h
 exact ⟨l, h1, h2⟩
theorem awp_peelE {P : Program} {O : Oracle} {n0 : Nat} {ro : Option Nat} {T : List (Nat × List Ann)} (hO : OkO P O) (hm : P.follows .mixedOrders = true) {x y : Code} {s : St} {Q : Ex → St → Prop} (E : Env) (V : H) (nid n : Nat) (I : Prop) (ht : tabOk T x = true)
  (h : wc P n0 ro T O x s (thenQ (fun s' => I ∧ headW n0 s' E V nid n) Q)) (h2 : I → AWp P n0 ro y ⟨E, V, nid, n⟩ Q) : AWp P n0 ro (.seq x y) s Q :=
 awp_seq (awp_mono (wc_sound hO hm x s _ ht h) fun e s h => by
  cases e with
  | normal => exact awp_imp (imp_head h.2) (h2 h.1)
  | exit _ => exact h
  | ret => exact h)
noncomputable def gAgR : List D → Option D := orcF (fun p : WatchW × List MsgW × List PlW => WatchL p.1 ∧ BL p.2.1 ∧ BL p.2.2) (fun p => [.agg p.1.c, msD p.2.1, .sl (plL p.2.2)]) (fun p => agreesR p.1 p.2.1 p.2.2)
theorem gAgR_eq {w : WatchW} {l : List MsgW} {x : List PlW} (h : WatchL w ∧ BL l ∧ BL x) : gAgR [.agg w.c, msD l, .sl (plL x)] = some (agreesR w l x) :=
 orcF_eq (ok := fun p : WatchW × List MsgW × List PlW => WatchL p.1 ∧ BL p.2.1 ∧ BL p.2.2) (dsf := fun p => [.agg p.1.c, msD p.2.1, .sl (plL p.2.2)]) (rf := fun p => agreesR p.1 p.2.1 p.2.2) (w, l, x) h fun q hq => by
  simp only [List.cons.injEq, D.agg.injEq, and_true] at hq
  rw [WatchW.c_inj hq.1, En.map_inj (E := enMs) hq.2.1, enP_inj hq.2.2]
theorem mail_ok {w : WatchW} {l : List MsgW} (h : mailB w l = true) : ∀ m ∈ l, freeB w.s.sh m.c = true ∧ w.min ≤ m.t ∧ m.t ≤ m.came ∧ m.came ≤ 1440 := fun m hm => by
 simp only [mailB, Bool.not_eq_true', List.any_eq_false] at h
 have := h m hm
 simp only [mBad, Bool.or_eq_true, Bool.not_eq_true', decide_eq_true_eq, not_or, Bool.not_eq_false] at this
 exact ⟨this.1, by omega, by omega, by omega⟩
noncomputable abbrev e83 : List (FuncId × (List D → Option D)) :=
 (15, gShort) :: (8, cstO [] (.bool true)) :: (17, gAgR) :: (13, gAg) :: (18, gMail) :: e5
theorem e83_ok : OkO Tryz.prog (mkO e83) :=
 mkO_ok (orcF_ok fun w h => short_t w h) <| mkO_ok (cstO_ok known_t) <| mkO_ok (orcF_ok fun p h => Agrees_t h.1 h.2.1 h.2.2) <| mkO_ok (orcF_ok fun p h => r_Agrees_t h) <| mkO_ok (orcF_ok fun p h => r_Mail_t p.1 h.1 p.2 h.2) e5_ok
set_option maxHeartbeats 4000000 in
theorem watchAgrees_at (w : WatchW) (hw : WatchL w) (l : List MsgW) (hl : BL l) (x : List PlW) (hx : BL x) : Pure Tryz.prog 5 [.agg w.c, msD l, .sl (plL x)] (.bool true) := by
 have o1 := gShort_eq hw
 have o2 := cstO_eq [] (.bool true)
 have o3 := gAgR_eq (w := w) (l := l) (x := x) ⟨hw, hl, hx⟩
 have o4 := fun h => gAg_eq (w := w) (l := l) (x := x) h
 have o5 := gMail_eq hw hl
 have o6 := gWatch_eq hw
 have hok : watchB w = true → mailB w l = true → l.length ≤ 60 → x.length ≤ 1441 → AgOk w l x := fun h1 h2 h3 h4 => ⟨watch_ok h1, h3, fun m hm => by have := mail_ok h2 m hm; exact ⟨this.2.1, this.2.2.1⟩, by omega⟩
 unfold agreesR at o3
 unfold agD at o4
 generalize agB w (knownL l (w.min + x.length - 1)) (w.min + x.length - 1) x = AG at *
 generalize shortB w = S at *
 have o4 := fun h1 h2 h3 h4 => o4 (hok h1 h2 h3 h4)
 clear hok
 generalize watchB w = WB at *
 generalize mailB w l = MB at *
 obtain ⟨⟨sw, sd, sh⟩, ⟨rl, lk⟩, cell, mi, ev, en, af⟩ := w
 simp only [WatchW.c, SkyW.c, NetW.c, List.cons_append, List.nil_append] at *
 refine pure_of_pieces (rs := [.tmp 6]) (m := 89) [] e83_ok (by kernel_rfl) Tryz.func5 rfl (by kernel_rfl) rfl rfl (by kernel_rfl) ?_
 refine awp_peel (T := []) e83_ok (by kernel_rfl) (by kernel_rfl) ?_
 simp only [FS, ↓RE, okR, argEnv, Nat.reduceAdd, Nat.reduceSub, Nat.reduceLT, Nat.reduceLeDiff, Nat.reduceEqDiff, reduceIte, RT, RM, plL_len, List.length_map]
 refine awp_peelE (T := []) e83_ok (by kernel_rfl) [(1, msD l), (2, .sl (plL x)), (3, .ptr 0 0), (6, .bool false)]
  [(0, .box [.int .i64 sw, .int .i64 sd, shD sh, rlD rl, lkD lk, .int .i64 cell, .int .i64 mi, .int .i64 ev, .int .i64 en, inD af])] 1 89 (l.length ≤ 20) (by kernel_rfl) ?_ ?_
 ·cases S
  ·simp only [FS, ↓RE, okR, argEnv, Nat.reduceAdd, Nat.reduceSub, Nat.reduceLT, Nat.reduceLeDiff, Nat.reduceEqDiff, reduceIte, RT, RM, plL_len, List.length_map, o1, o2, o6, Bool.not_true, Bool.not_false]
  cases q1 : decide ((10 : Int) < (lk.length : Int))
  case true =>
   cases WB
   case true =>
    simp only [FS, ↓RE, okR, argEnv, Nat.reduceAdd, Nat.reduceSub, Nat.reduceLT, Nat.reduceLeDiff, Nat.reduceEqDiff, reduceIte, RT, RM, plL_len, List.length_map, q1, o1, o2, o6, Bool.not_true, Bool.not_false]
   cases q2 : decide ((20 : Int) < (l.length : Int))
   case true =>
    simp only [FS, ↓RE, okR, argEnv, Nat.reduceAdd, Nat.reduceSub, Nat.reduceLT, Nat.reduceLeDiff, Nat.reduceEqDiff, reduceIte, RT, RM, plL_len, List.length_map, q1, q2, o1, o2, o6, Bool.not_true, Bool.not_false]
   cases q3 : decide ((100 : Int) < (x.length : Int))
   case true =>
    cases q4 : decide ((x.length : Int) ≤ 1441)
    case true =>
     simp only [FS, ↓RE, okR, argEnv, Nat.reduceAdd, Nat.reduceSub, Nat.reduceLT, Nat.reduceLeDiff, Nat.reduceEqDiff, reduceIte, RT, RM, plL_len, List.length_map, q1, q2, q3, q4, o1, o2, o6, Bool.not_true, Bool.not_false]
    cases q5 : decide ((1450 : Int) < (x.length : Int))
    ·simp only [FS, ↓RE, okR, argEnv, Nat.reduceAdd, Nat.reduceSub, Nat.reduceLT, Nat.reduceLeDiff, Nat.reduceEqDiff, reduceIte, RT, RM, plL_len, List.length_map, q1, q2, q3, q4, q5, o1, o2, o6, Bool.not_true, Bool.not_false]
     exact ⟨by simp at q2; omega, by simp [headW, heapW, envW, blkLt, D.ltL, D.lt, look, hget, Sx.hset, shD, inD]⟩
    ·simp only [FS, ↓RE, okR, argEnv, Nat.reduceAdd, Nat.reduceSub, Nat.reduceLT, Nat.reduceLeDiff, Nat.reduceEqDiff, reduceIte, RT, RM, plL_len, List.length_map, q1, q2, q3, q4, q5, o1, o2, o6, Bool.not_true, Bool.not_false]
   cases q5 : decide ((1450 : Int) < (x.length : Int))
   ·simp only [FS, ↓RE, okR, argEnv, Nat.reduceAdd, Nat.reduceSub, Nat.reduceLT, Nat.reduceLeDiff, Nat.reduceEqDiff, reduceIte, RT, RM, plL_len, List.length_map, q1, q2, q3, q5, o1, o2, o6, Bool.not_true, Bool.not_false]
    exact ⟨by simp at q2; omega, by simp [headW, heapW, envW, blkLt, D.ltL, D.lt, look, hget, Sx.hset, shD, inD]⟩
   ·simp only [FS, ↓RE, okR, argEnv, Nat.reduceAdd, Nat.reduceSub, Nat.reduceLT, Nat.reduceLeDiff, Nat.reduceEqDiff, reduceIte, RT, RM, plL_len, List.length_map, q1, q2, q3, q5, o1, o2, o6, Bool.not_true, Bool.not_false]
  cases q2 : decide ((20 : Int) < (l.length : Int))
  case true =>
   simp only [FS, ↓RE, okR, argEnv, Nat.reduceAdd, Nat.reduceSub, Nat.reduceLT, Nat.reduceLeDiff, Nat.reduceEqDiff, reduceIte, RT, RM, plL_len, List.length_map, q1, q2, o1, o2, o6, Bool.not_true, Bool.not_false]
  cases q3 : decide ((100 : Int) < (x.length : Int))
  case true =>
   cases q4 : decide ((x.length : Int) ≤ 1441)
   case true =>
    simp only [FS, ↓RE, okR, argEnv, Nat.reduceAdd, Nat.reduceSub, Nat.reduceLT, Nat.reduceLeDiff, Nat.reduceEqDiff, reduceIte, RT, RM, plL_len, List.length_map, q1, q2, q3, q4, o1, o2, o6, Bool.not_true, Bool.not_false]
   cases q5 : decide ((1450 : Int) < (x.length : Int))
   ·simp only [FS, ↓RE, okR, argEnv, Nat.reduceAdd, Nat.reduceSub, Nat.reduceLT, Nat.reduceLeDiff, Nat.reduceEqDiff, reduceIte, RT, RM, plL_len, List.length_map, q1, q2, q3, q4, q5, o1, o2, o6, Bool.not_true, Bool.not_false]
    exact ⟨by simp at q2; omega, by simp [headW, heapW, envW, blkLt, D.ltL, D.lt, look, hget, Sx.hset, shD, inD]⟩
   ·simp only [FS, ↓RE, okR, argEnv, Nat.reduceAdd, Nat.reduceSub, Nat.reduceLT, Nat.reduceLeDiff, Nat.reduceEqDiff, reduceIte, RT, RM, plL_len, List.length_map, q1, q2, q3, q4, q5, o1, o2, o6, Bool.not_true, Bool.not_false]
  cases q5 : decide ((1450 : Int) < (x.length : Int))
  ·simp only [FS, ↓RE, okR, argEnv, Nat.reduceAdd, Nat.reduceSub, Nat.reduceLT, Nat.reduceLeDiff, Nat.reduceEqDiff, reduceIte, RT, RM, plL_len, List.length_map, q1, q2, q3, q5, o1, o2, o6, Bool.not_true, Bool.not_false]
   exact ⟨by simp at q2; omega, by simp [headW, heapW, envW, blkLt, D.ltL, D.lt, look, hget, Sx.hset, shD, inD]⟩
  ·simp only [FS, ↓RE, okR, argEnv, Nat.reduceAdd, Nat.reduceSub, Nat.reduceLT, Nat.reduceLeDiff, Nat.reduceEqDiff, reduceIte, RT, RM, plL_len, List.length_map, q1, q2, q3, q5, o1, o2, o6, Bool.not_true, Bool.not_false]
 intro hl20
 rw [if_neg (by omega)] at o3
 cases q1 : decide ((1441 : Int) < (x.length : Int))
 case true =>
  rw [if_pos (by simp at q1; omega)] at o3
  refine awp_peel (T := []) e83_ok (by kernel_rfl) (by kernel_rfl) ?_
  simp only [FS, ↓RE, okR, argEnv, Nat.reduceAdd, Nat.reduceSub, Nat.reduceLT, Nat.reduceLeDiff, Nat.reduceEqDiff, reduceIte, RT, RM, plL_len, List.length_map, o3]
  refine awp_peel (T := []) e83_ok (by kernel_rfl) (by kernel_rfl) ?_
  simp only [FS, ↓RE, okR, argEnv, Nat.reduceAdd, Nat.reduceSub, Nat.reduceLT, Nat.reduceLeDiff, Nat.reduceEqDiff, reduceIte, RT, RM, plL_len, List.length_map]
  refine awp_peel (T := []) e83_ok (by kernel_rfl) (by kernel_rfl) ?_
  simp only [FS, ↓RE, okR, argEnv, Nat.reduceAdd, Nat.reduceSub, Nat.reduceLT, Nat.reduceLeDiff, Nat.reduceEqDiff, reduceIte, RT, RM, plL_len, List.length_map, q1]
  have z1 : ((3 : Int) != 0) = true := rfl
  have z2 : ((3 : Int) == 3) = true := rfl
  refine awp_peel (T := []) e83_ok (by kernel_rfl) (by kernel_rfl) ?_
  simp only [FS, ↓RE, okR, argEnv, Nat.reduceAdd, Nat.reduceSub, Nat.reduceLT, Nat.reduceLeDiff, Nat.reduceEqDiff, reduceIte, RT, RM, plL_len, List.length_map, z1, z2, o2, Bool.not_false]
 rw [if_neg (by simp at q1; omega)] at o3
 have z1 : ((2 : Int) != 0) = true := rfl
 have z2 : ((2 : Int) == 2) = true := rfl
 cases WB
 ·rw [if_pos rfl] at o3
  refine awp_peel (T := []) e83_ok (by kernel_rfl) (by kernel_rfl) ?_
  simp only [FS, ↓RE, okR, argEnv, Nat.reduceAdd, Nat.reduceSub, Nat.reduceLT, Nat.reduceLeDiff, Nat.reduceEqDiff, reduceIte, RT, RM, plL_len, List.length_map, o3]
  refine awp_peel (T := []) e83_ok (by kernel_rfl) (by kernel_rfl) ?_
  simp only [FS, ↓RE, okR, argEnv, Nat.reduceAdd, Nat.reduceSub, Nat.reduceLT, Nat.reduceLeDiff, Nat.reduceEqDiff, reduceIte, RT, RM, plL_len, List.length_map]
  refine awp_peel (T := []) e83_ok (by kernel_rfl) (by kernel_rfl) ?_
  simp only [FS, ↓RE, okR, argEnv, Nat.reduceAdd, Nat.reduceSub, Nat.reduceLT, Nat.reduceLeDiff, Nat.reduceEqDiff, reduceIte, RT, RM, plL_len, List.length_map, q1, o6, Bool.not_false]
  refine awp_peel (T := []) e83_ok (by kernel_rfl) (by kernel_rfl) ?_
  simp only [FS, ↓RE, okR, argEnv, Nat.reduceAdd, Nat.reduceSub, Nat.reduceLT, Nat.reduceLeDiff, Nat.reduceEqDiff, reduceIte, RT, RM, plL_len, List.length_map, z1, z2, o2, Bool.not_false]
 rw [if_neg (by simp)] at o3
 cases MB
 ·rw [if_pos rfl] at o3
  refine awp_peel (T := []) e83_ok (by kernel_rfl) (by kernel_rfl) ?_
  simp only [FS, ↓RE, okR, argEnv, Nat.reduceAdd, Nat.reduceSub, Nat.reduceLT, Nat.reduceLeDiff, Nat.reduceEqDiff, reduceIte, RT, RM, plL_len, List.length_map, o3]
  refine awp_peel (T := []) e83_ok (by kernel_rfl) (by kernel_rfl) ?_
  simp only [FS, ↓RE, okR, argEnv, Nat.reduceAdd, Nat.reduceSub, Nat.reduceLT, Nat.reduceLeDiff, Nat.reduceEqDiff, reduceIte, RT, RM, plL_len, List.length_map]
  refine awp_peel (T := []) e83_ok (by kernel_rfl) (by kernel_rfl) ?_
  simp only [FS, ↓RE, okR, argEnv, Nat.reduceAdd, Nat.reduceSub, Nat.reduceLT, Nat.reduceLeDiff, Nat.reduceEqDiff, reduceIte, RT, RM, plL_len, List.length_map, q1, o6, o5, Bool.not_false, Bool.not_true]
  refine awp_peel (T := []) e83_ok (by kernel_rfl) (by kernel_rfl) ?_
  simp only [FS, ↓RE, okR, argEnv, Nat.reduceAdd, Nat.reduceSub, Nat.reduceLT, Nat.reduceLeDiff, Nat.reduceEqDiff, reduceIte, RT, RM, plL_len, List.length_map, z1, z2, o2, Bool.not_false]
 rw [if_neg (by simp)] at o3
 have o4 := o4 rfl rfl (by omega) (by simp at q1; omega)
 have z3 : ((0 : Int) != 0) = false := rfl
 have z4 : ((0 : Int) == 0) = true := rfl
 have z5 : (AG == AG) = true := by simp
 have z6 := fun a b => binB_eq (P := Tryz.prog) Fz.und_4 a b
 refine awp_peel (T := []) e83_ok (by kernel_rfl) (by kernel_rfl) ?_
 simp only [FS, ↓RE, okR, argEnv, Nat.reduceAdd, Nat.reduceSub, Nat.reduceLT, Nat.reduceLeDiff, Nat.reduceEqDiff, reduceIte, RT, RM, plL_len, List.length_map, o3]
 refine awp_peel (T := []) e83_ok (by kernel_rfl) (by kernel_rfl) ?_
 simp only [FS, ↓RE, okR, argEnv, Nat.reduceAdd, Nat.reduceSub, Nat.reduceLT, Nat.reduceLeDiff, Nat.reduceEqDiff, reduceIte, RT, RM, plL_len, List.length_map]
 refine awp_peel (T := []) e83_ok (by kernel_rfl) (by kernel_rfl) ?_
 simp only [FS, ↓RE, okR, argEnv, Nat.reduceAdd, Nat.reduceSub, Nat.reduceLT, Nat.reduceLeDiff, Nat.reduceEqDiff, reduceIte, RT, RM, plL_len, List.length_map, q1, o6, o5, Bool.not_true]
 refine awp_peel (T := []) e83_ok (by kernel_rfl) (by kernel_rfl) ?_
 simp only [FS, ↓RE, okR, argEnv, Nat.reduceAdd, Nat.reduceSub, Nat.reduceLT, Nat.reduceLeDiff, Nat.reduceEqDiff, reduceIte, RT, RM, plL_len, List.length_map, z3]
 refine awp_rest (T := []) e83_ok (by kernel_rfl) (by kernel_rfl) ?_
 simp only [FS, ↓RE, okR, argEnv, Nat.reduceAdd, Nat.reduceSub, Nat.reduceLT, Nat.reduceLeDiff, Nat.reduceEqDiff, reduceIte, RT, RM, plL_len, List.length_map, z4, z5, z6, o4, o2]
theorem watchAgrees_pure : ∀ Ds, TyL Tryz.prog Tryz.f5.params.toList Ds → Pure Tryz.prog 5 Ds (.bool true) := by
 intro Ds h
 rw [Tryz.params5] at h
 match Ds, h with
 | [_, _, _], ⟨⟨n, _, h1, e1⟩, ⟨n2, _, h2, e2⟩, ⟨n3, _, h3, e3⟩, _⟩ =>
  rw [Tryz.underlying31] at e1
  rw [Fz.und_32] at e2
  rw [Fz.und_45] at e3
  dsimp only at e1 e2 e3
  obtain ⟨w, rfl, hw⟩ := tyWatch h1
  obtain ⟨l, rfl, hl⟩ := tyMsgs h2
  obtain ⟨x, rfl, hx⟩ := tyPlaces h3
  subst e1; cases e2; cases e3
  exact watchAgrees_at w hw l hl x hx
end Go.Sx
