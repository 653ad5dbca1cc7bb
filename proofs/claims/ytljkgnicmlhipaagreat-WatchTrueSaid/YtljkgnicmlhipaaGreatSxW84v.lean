/- Own work: contracts of functions, used in the proof of a law. -/
import Derived.Test.YtljkgnicmlhipaaGreatSxW83v
set_option linter.unusedVariables false
set_option linter.unusedSimpArgs false
namespace Go.Sx
open Go.Proofs
set_option maxRecDepth 10000

theorem true_mem {w : WatchW} (hw : WatchOk w) {l : List MsgW} {x : List PlW} (hm : mailB w l = true) (hx : 1 ≤ x.length) (hn : w.min + x.length - 1 ≤ 1440) (h : agB w (knownL l (w.min + x.length - 1)) (w.min + x.length - 1) x = true) {c : Int} {d : Bool} (hp : nP x (x.length - 1) = (c, d)) :
  (d = true → c ∈ cellsF w.s.sh.length (plF w (knownL l (w.min + x.length - 1)) (w.min + x.length - 1) (w.min + x.length - 1 - w.min).toNat).2) ∧ (d = false → c ∈ cellsF w.s.sh.length (plF w (knownL l (w.min + x.length - 1)) (w.min + x.length - 1) (w.min + x.length - 1 - w.min).toNat).1) := by
 have hkn : ∀ m ∈ knownL l (w.min + x.length - 1), w.min ≤ m.t ∧ m.t ≤ w.min + x.length - 1 := fun m hm' => by
  simp only [knownL, List.mem_filter] at hm'
  have h1 := mail_ok hm m hm'.1
  have h2 : m.came ≤ w.min + x.length - 1 := by simpa [knB] using hm'.2
  omega
 have e : (w.min + x.length - 1 - w.min).toNat = x.length - 1 := by omega
 rw [e]
 generalize knownL l (w.min + x.length - 1) = kn at *
 have hl : x.length = (x.length - 1) + 1 := by omega
 have pv := (ag_iff hn hl (fun m hm => by have := hkn m hm; omega)).1 h
 have hin : InS w.s c := by
  have := pv_free pv (i := x.length - 1) (by omega)
  rw [hp] at this
  exact free_ins (s := w.s) this
 have hc := pl_courses hw (fun m hm => (hkn m hm).1) (w.min + x.length - 1) (x.length - 1) c
 exact ⟨fun hd => cellsF_mem.2 ⟨hin, hc.2.2 ⟨x, hl, pv, by rw [hp, hd]⟩⟩, fun hd => cellsF_mem.2 ⟨hin, hc.1.2 ⟨x, hl, pv, by rw [hp, hd]⟩⟩⟩
theorem any_mem {l : List Int} {c : Int} (h : c ∈ l) : (l.any fun x => decide (x = c)) = true := by
 rw [List.any_eq_true]
 exact ⟨c, h, by simp⟩
noncomputable abbrev e84 : List (FuncId × (List D → Option D)) := (9, gWLN okL WhereR) :: e83
theorem e84_ok : OkO Tryz.prog (mkO e84) := mkO_ok (orcF_ok fun p h => Where_t h.1 h.2 p.2.2) e83_ok
set_option maxHeartbeats 4000000 in
theorem watchTrue_at (w : WatchW) (hw : WatchL w) (l : List MsgW) (hl : BL l) (x : List PlW) (hx : BL x) : Pure Tryz.prog 6 [.agg w.c, msD l, .sl (plL x)] (.bool true) := by
 have o1 := gShort_eq hw
 have o2 := cstO_eq [] (.bool true)
 have o3 := gAgR_eq (w := w) (l := l) (x := x) ⟨hw, hl, hx⟩
 have o4 := fun h => gAg_eq (w := w) (l := l) (x := x) h
 have o5 := gMail_eq hw hl
 have o6 := gWatch_eq hw
 have o7 : gWLN okL WhereR [.agg w.c, msD l, .int .i64 (w.min + x.length - 1)] = some (if askedI w l (w.min + x.length - 1) = 0 then (if (cellsF w.s.sh.length (plF w (knownL l (w.min + x.length - 1)) (w.min + x.length - 1) ((w.min + x.length - 1) - w.min).toNat).1).length + (cellsF w.s.sh.length (plF w (knownL l (w.min + x.length - 1)) (w.min + x.length - 1) ((w.min + x.length - 1) - w.min).toNat).2).length = 0 then .tup [.nils, .nils, .int .i64 5] else .tup [.sl (intL (cellsF w.s.sh.length (plF w (knownL l (w.min + x.length - 1)) (w.min + x.length - 1) ((w.min + x.length - 1) - w.min).toNat).1)), .sl (intL (cellsF w.s.sh.length (plF w (knownL l (w.min + x.length - 1)) (w.min + x.length - 1) ((w.min + x.length - 1) - w.min).toNat).2)), .int .i64 0]) else .tup [.nils, .nils, .int .i64 (askedI w l (w.min + x.length - 1))]) := gWLN_eq ⟨hw, hl⟩
 have hok : watchB w = true → mailB w l = true → l.length ≤ 15 → x.length ≤ 81 → AgOk w l x := fun h1 h2 h3 h4 => ⟨watch_ok h1, by omega, fun m hm => by have := mail_ok h2 m hm; exact ⟨this.2.1, this.2.2.1⟩, by omega⟩
 have hmi : watchB w = true → (0 ≤ w.min ∧ w.min ≤ 1440) ∧ (w.s.sh.length : Int) ≤ 144 := fun h => ⟨(watch_ok h).m, (watch_ok h).s.le.1⟩
 have hmem := fun (h1 : watchB w = true) h2 h3 h4 h5 => true_mem (watch_ok h1) (l := l) (x := x) h2 h3 h4 h5 (c := (nP x (x.length - 1)).1) (d := (nP x (x.length - 1)).2) rfl
 have hW : watchB w = true → mailB w l = true → l.length ≤ 15 → 1 ≤ x.length → w.min + x.length - 1 ≤ 1440 → askedI w l (w.min + x.length - 1) = 0 := fun h1 h2 h3 h4 h5 => by
  unfold askedI
  have h6 : rI (w.min + x.length - 1) w.min 1440 = true := by simp only [rI, Bool.and_eq_true, decide_eq_true_eq]; omega
  rw [if_neg (by omega), h1, h2, h6]; rfl
 unfold agreesR at o3
 unfold agD at o4
 have hcl := cellsF_len w.s.sh.length
 have hl1 := hcl (plF w (knownL l (w.min + x.length - 1)) (w.min + x.length - 1) (w.min + x.length - 1 - w.min).toNat).1
 have hl2 := hcl (plF w (knownL l (w.min + x.length - 1)) (w.min + x.length - 1) (w.min + x.length - 1 - w.min).toNat).2
 clear hcl
 generalize cellsF w.s.sh.length (plF w (knownL l (w.min + x.length - 1)) (w.min + x.length - 1) (w.min + x.length - 1 - w.min).toNat).1 = X at *
 generalize cellsF w.s.sh.length (plF w (knownL l (w.min + x.length - 1)) (w.min + x.length - 1) (w.min + x.length - 1 - w.min).toNat).2 = Y at *
 generalize agB w (knownL l (w.min + x.length - 1)) (w.min + x.length - 1) x = AG at *
 generalize shortB w = S at *
 have o4 := fun h1 h2 h3 h4 => o4 (hok h1 h2 h3 h4)
 clear hok
 generalize askedI w l (w.min + x.length - 1) = AI at *
 generalize watchB w = WB at *
 generalize mailB w l = MB at *
 obtain ⟨⟨sw, sd, sh⟩, ⟨rl, lk⟩, cell, mi, ev, en, af⟩ := w
 dsimp only at *
 simp only [WatchW.c, SkyW.c, NetW.c, List.cons_append, List.nil_append] at *
 refine pure_of_pieces (rs := [.tmp 6]) (m := 145) [] e84_ok (by kernel_rfl) Tryz.func6 rfl (by kernel_rfl) rfl rfl (by kernel_rfl) ?_
 refine awp_peel (T := []) e84_ok (by kernel_rfl) (by kernel_rfl) ?_
 simp only [FS, ↓RE, okR, argEnv, Nat.reduceAdd, Nat.reduceSub, Nat.reduceLT, Nat.reduceLeDiff, Nat.reduceEqDiff, reduceIte, RT, RM, plL_len, List.length_map]
 refine awp_peel (T := []) e84_ok (by kernel_rfl) (by kernel_rfl) ?_
 cases S
 ·simp only [FS, ↓RE, okR, argEnv, Nat.reduceAdd, Nat.reduceSub, Nat.reduceLT, Nat.reduceLeDiff, Nat.reduceEqDiff, reduceIte, RT, RM, plL_len, List.length_map, o1, o2, o5, o6, Bool.not_true, Bool.not_false]
 cases WB
 ·simp only [FS, ↓RE, okR, argEnv, Nat.reduceAdd, Nat.reduceSub, Nat.reduceLT, Nat.reduceLeDiff, Nat.reduceEqDiff, reduceIte, RT, RM, plL_len, List.length_map, o1, o2, o5, o6, Bool.not_true, Bool.not_false]
 cases q1 : decide ((40 : Int) < (sh.length : Int))
 case true =>
  simp only [FS, ↓RE, okR, argEnv, Nat.reduceAdd, Nat.reduceSub, Nat.reduceLT, Nat.reduceLeDiff, Nat.reduceEqDiff, reduceIte, RT, RM, plL_len, List.length_map, q1, o1, o2, o5, o6, Bool.not_true, Bool.not_false]
 cases q2 : decide ((10 : Int) < (lk.length : Int))
 case true =>
  simp only [FS, ↓RE, okR, argEnv, Nat.reduceAdd, Nat.reduceSub, Nat.reduceLT, Nat.reduceLeDiff, Nat.reduceEqDiff, reduceIte, RT, RM, plL_len, List.length_map, q1, q2, o1, o2, o5, o6, Bool.not_true, Bool.not_false]
 cases q3 : decide ((15 : Int) < (l.length : Int))
 case true =>
  simp only [FS, ↓RE, okR, argEnv, Nat.reduceAdd, Nat.reduceSub, Nat.reduceLT, Nat.reduceLeDiff, Nat.reduceEqDiff, reduceIte, RT, RM, plL_len, List.length_map, q1, q2, q3, o1, o2, o5, o6, Bool.not_true, Bool.not_false]
 cases MB
 ·simp only [FS, ↓RE, okR, argEnv, Nat.reduceAdd, Nat.reduceSub, Nat.reduceLT, Nat.reduceLeDiff, Nat.reduceEqDiff, reduceIte, RT, RM, plL_len, List.length_map, q1, q2, q3, o1, o2, o5, o6, Bool.not_true, Bool.not_false]
 cases q4 : decide ((x.length : Int) < 1)
 case true =>
  simp only [FS, ↓RE, okR, argEnv, Nat.reduceAdd, Nat.reduceSub, Nat.reduceLT, Nat.reduceLeDiff, Nat.reduceEqDiff, reduceIte, RT, RM, plL_len, List.length_map, q1, q2, q3, q4, o1, o2, o5, o6, Bool.not_true, Bool.not_false]
 cases q5 : decide ((81 : Int) < (x.length : Int))
 case true =>
  simp only [FS, ↓RE, okR, argEnv, Nat.reduceAdd, Nat.reduceSub, Nat.reduceLT, Nat.reduceLeDiff, Nat.reduceEqDiff, reduceIte, RT, RM, plL_len, List.length_map, q1, q2, q3, q4, q5, o1, o2, o5, o6, Bool.not_true, Bool.not_false]
 simp only [FS, ↓RE, okR, argEnv, Nat.reduceAdd, Nat.reduceSub, Nat.reduceLT, Nat.reduceLeDiff, Nat.reduceEqDiff, reduceIte, RT, RM, plL_len, List.length_map, q1, q2, q3, q4, q5, o1, o2, o5, o6, Bool.not_true, Bool.not_false]
 have hmi := hmi rfl
 have b1 : 1 ≤ x.length := by simp at q4; omega
 have b2 : x.length ≤ 81 := by simp at q5; omega
 have b3 : l.length ≤ 15 := by simp at q3; omega
 have o4 := o4 rfl rfl b3 b2
 rw [if_neg (by omega), if_neg (by omega), if_neg (by simp), if_neg (by simp)] at o3
 have hW := hW rfl rfl b3 b1
 have hmem := hmem rfl rfl b1
 have w1 := wrap_i64 (z := mi + (x.length : Int)) (by omega) (by omega)
 have w2 := wrap_i64 (z := mi + (x.length : Int) - 1) (by omega) (by omega)
 refine awp_peel (T := []) e84_ok (by kernel_rfl) (by kernel_rfl) ?_
 simp only [FS, ↓RE, okR, argEnv, Nat.reduceAdd, Nat.reduceSub, Nat.reduceLT, Nat.reduceLeDiff, Nat.reduceEqDiff, reduceIte, RT, RM, plL_len, List.length_map, w1, w2]
 refine awp_peel (T := []) e84_ok (by kernel_rfl) (by kernel_rfl) ?_
 cases q6 : decide ((1440 : Int) < mi + (x.length : Int) - 1)
 case true =>
  simp only [FS, ↓RE, okR, argEnv, Nat.reduceAdd, Nat.reduceSub, Nat.reduceLT, Nat.reduceLeDiff, Nat.reduceEqDiff, reduceIte, RT, RM, plL_len, List.length_map, q6, o2]
 have b4 : mi + (x.length : Int) - 1 ≤ 1440 := by simp at q6; omega
 simp only [FS, ↓RE, okR, argEnv, Nat.reduceAdd, Nat.reduceSub, Nat.reduceLT, Nat.reduceLeDiff, Nat.reduceEqDiff, reduceIte, RT, RM, plL_len, List.length_map, q6]
 have hmem := hmem b4
 rw [if_pos (hW b4)] at o7
 clear hW
 refine awp_peel (T := []) e84_ok (by kernel_rfl) (by kernel_rfl) ?_
 simp only [FS, ↓RE, okR, argEnv, Nat.reduceAdd, Nat.reduceSub, Nat.reduceLT, Nat.reduceLeDiff, Nat.reduceEqDiff, reduceIte, RT, RM, plL_len, List.length_map, o4]
 refine awp_peel (T := []) e84_ok (by kernel_rfl) (by kernel_rfl) ?_
 simp only [FS, ↓RE, okR, argEnv, Nat.reduceAdd, Nat.reduceSub, Nat.reduceLT, Nat.reduceLeDiff, Nat.reduceEqDiff, reduceIte, RT, RM, plL_len, List.length_map, o3]
 have z0 : ((0 : Int) != 0) = false := rfl
 have z1 : ((0 : Int) == 0) = true := rfl
 have z2 : ((5 : Int) == 0) = false := rfl
 have z3 : ((5 : Int) == 5) = true := rfl
 have z4 : IntKind.i64.wrap (0 + 0) = 0 := rfl
 have zn := fun a b => binB_ne (P := Tryz.prog) Fz.und_4 a b
 by_cases hXY : X.length + Y.length = 0
 ·rw [if_pos hXY] at o7
  refine awp_peel (T := []) e84_ok (by kernel_rfl) (by kernel_rfl) ?_
  simp only [FS, ↓RE, okR, argEnv, Nat.reduceAdd, Nat.reduceSub, Nat.reduceLT, Nat.reduceLeDiff, Nat.reduceEqDiff, reduceIte, RT, RM, plL_len, List.length_map, o7]
  refine awp_peel (T := []) e84_ok (by kernel_rfl) (by kernel_rfl) ?_
  cases AG
  case true =>
   have hm := hmem rfl
   cases hd : (nP x (x.length - 1)).2
   ·have := List.length_pos_of_mem (hm.2 hd); omega
   ·have := List.length_pos_of_mem (hm.1 hd); omega
  simp only [FS, ↓RE, okR, argEnv, Nat.reduceAdd, Nat.reduceSub, Nat.reduceLT, Nat.reduceLeDiff, Nat.reduceEqDiff, reduceIte, RT, RM, plL_len, List.length_map, z0, zn, beq_self_eq_true, Bool.not_true]
  refine awp_peel (T := []) e84_ok (by kernel_rfl) (by kernel_rfl) ?_
  simp only [FS, ↓RE, okR, argEnv, Nat.reduceAdd, Nat.reduceSub, Nat.reduceLT, Nat.reduceLeDiff, Nat.reduceEqDiff, reduceIte, RT, RM, plL_len, List.length_map, Bool.not_false, z1, z2, z3, z4, o2]
 rw [if_neg hXY] at o7
 refine awp_peel (T := []) e84_ok (by kernel_rfl) (by kernel_rfl) ?_
 simp only [FS, ↓RE, okR, argEnv, Nat.reduceAdd, Nat.reduceSub, Nat.reduceLT, Nat.reduceLeDiff, Nat.reduceEqDiff, reduceIte, RT, RM, plL_len, List.length_map, o7]
 refine awp_peel (T := []) e84_ok (by kernel_rfl) (by kernel_rfl) ?_
 cases AG
 ·simp only [FS, ↓RE, okR, argEnv, Nat.reduceAdd, Nat.reduceSub, Nat.reduceLT, Nat.reduceLeDiff, Nat.reduceEqDiff, reduceIte, RT, RM, plL_len, List.length_map, z0, zn, beq_self_eq_true, Bool.not_true]
  refine awp_peel (T := []) e84_ok (by kernel_rfl) (by kernel_rfl) ?_
  simp only [FS, ↓RE, okR, argEnv, Nat.reduceAdd, Nat.reduceSub, Nat.reduceLT, Nat.reduceLeDiff, Nat.reduceEqDiff, reduceIte, RT, RM, plL_len, List.length_map, Bool.not_false, z1, o2]
 simp only [FS, ↓RE, okR, argEnv, Nat.reduceAdd, Nat.reduceSub, Nat.reduceLT, Nat.reduceLeDiff, Nat.reduceEqDiff, reduceIte, RT, RM, plL_len, List.length_map, z0, zn, beq_self_eq_true, Bool.not_true]
 refine awp_peel (T := []) e84_ok (by kernel_rfl) (by kernel_rfl) ?_
 simp only [FS, ↓RE, okR, argEnv, Nat.reduceAdd, Nat.reduceSub, Nat.reduceLT, Nat.reduceLeDiff, Nat.reduceEqDiff, reduceIte, RT, RM, plL_len, List.length_map, Bool.not_true]
 have hm := hmem rfl
 have wb : IntKind.i64.wrap ((x.length : Int) - 1) = ((x.length - 1 : Nat) : Int) := by rw [wrap_i64 (by omega) (by omega)]; omega
 have ixb : ∀ h, indexAddrD Tryz.prog h 45 (.sl (plL x)) (.int .i64 ((x.length - 1 : Nat) : Int)) = some (.ref [.int .i64 (nP x (x.length - 1)).1, .bool (nP x (x.length - 1)).2] 0) := plD_ix (by omega)
 generalize nP x (x.length - 1) = p at *
 obtain ⟨c, d⟩ := p
 dsimp only at hm ixb
 refine awp_peel (T := []) e84_ok (by kernel_rfl) (by kernel_rfl) ?_
 simp only [FS, ↓RE, okR, argEnv, Nat.reduceAdd, Nat.reduceSub, Nat.reduceLT, Nat.reduceLeDiff, Nat.reduceEqDiff, reduceIte, RT, RM, plL_len, List.length_map, wb, ixb]
 refine awp_rest (T := []) e84_ok (by kernel_rfl) (by kernel_rfl) ?_
 cases d
 ·have pH := r_Has_t X (by simp only [BL]; omega) c
  rw [any_mem (hm.2 rfl)] at pH
  simp only [FS, ↓RE, okR, argEnv, Nat.reduceAdd, Nat.reduceSub, Nat.reduceLT, Nat.reduceLeDiff, Nat.reduceEqDiff, reduceIte, RT, RM, plL_len, List.length_map, z1, Bool.not_false]
  refine call_of_pure' pH (by simp [D.ltL, D.lt]) (by simp [D.lt]) ?_
  simp only [FS, ↓RE, okR, argEnv, Nat.reduceAdd, Nat.reduceSub, Nat.reduceLT, Nat.reduceLeDiff, Nat.reduceEqDiff, reduceIte, RT, RM, plL_len, List.length_map, o2]
 ·have pH := r_Has_t Y (by simp only [BL]; omega) c
  rw [any_mem (hm.1 rfl)] at pH
  simp only [FS, ↓RE, okR, argEnv, Nat.reduceAdd, Nat.reduceSub, Nat.reduceLT, Nat.reduceLeDiff, Nat.reduceEqDiff, reduceIte, RT, RM, plL_len, List.length_map, z1, Bool.not_true]
  refine call_of_pure' pH (by simp [D.ltL, D.lt]) (by simp [D.lt]) ?_
  simp only [FS, ↓RE, okR, argEnv, Nat.reduceAdd, Nat.reduceSub, Nat.reduceLT, Nat.reduceLeDiff, Nat.reduceEqDiff, reduceIte, RT, RM, plL_len, List.length_map, o2]
theorem watchTrue_pure : ∀ Ds, TyL Tryz.prog Tryz.f6.params.toList Ds → Pure Tryz.prog 6 Ds (.bool true) := by
 intro Ds h
 rw [Tryz.params6] at h
 match Ds, h with
 | [_, _, _], ⟨⟨n, _, h1, e1⟩, ⟨n2, _, h2, e2⟩, ⟨n3, _, h3, e3⟩, _⟩ =>
  rw [Tryz.underlying31] at e1
  rw [Fz.und_32] at e2
  rw [Fz.und_45] at e3
  dsimp only at e1 e2 e3
  obtain ⟨w, rfl, hw⟩ := tyWatch h1
  obtain ⟨l, rfl, hl⟩ := tyMsgs h2
  obtain ⟨x, rfl, hx⟩ := tyPlaces h3
  subst e1; cases e2; cases e3
  exact watchTrue_at w hw l hl x hx
end Go.Sx
