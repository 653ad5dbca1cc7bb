/- Own work: a calculus of contracts for the programs of this kit: parts SxE80r, SxE81r. -/
import Derived.Test.YthljonnokmkagaaSxEd
import Derived.Test.YthljonnokmkagaaSxMh
import Derived.Test.YthljonnokmkagaaSxEl
set_option linter.unusedVariables false
set_option linter.unusedSimpArgs false
namespace Go.Sx
open Go.Proofs
set_option maxRecDepth 10000

/-! Straight steps -/
def isStr (s : Stp) : Bool := lenS s.dx s.dy == 10
def strL (w d c : Int) : List Stp := (stepsL w d c).filter isStr
abbrev StrIn (w d c : Int) := { s : Stp // s ∈ strL w d c }
def selS (w d c : Int) (x : StpIn w d c) : Option (StrIn w d c) := if h : isStr x.1 = true then some ⟨x.1, List.mem_filter.2 ⟨x.2, h⟩⟩ else none
theorem val_inj {α : Type} {p : α → Prop} : ∀ {l r : List { x : α // p x }}, l.map (·.1) = r.map (·.1) → l = r := fun h => map_inj (fun _ _ e => Subtype.ext e) h
theorem selS_val (w d c : Int) : ∀ l : List (StpIn w d c), (l.filterMap (selS w d c)).map (·.1) = (l.map (·.1)).filter isStr
  | [] => rfl
  | x :: l => by
    simp only [List.filterMap_cons, List.map_cons, List.filter_cons]
    by_cases h : isStr x.1 = true
    · simp [selS, h, selS_val w d c l]
    · simp [selS, h, selS_val w d c l]
theorem selS_all (w d c : Int) : (stepsL w d c).attach.filterMap (selS w d c) = (strL w d c).attach := by
  refine val_inj ?_
  rw [selS_val, List.attach_map_subtype_val, List.attach_map_subtype_val]
  rfl
theorem selS_some {w d c : Int} {x : StpIn w d c} {y : StrIn w d c} (h : selS w d c x = some y) : isStr x.1 = true ∧ y.1 = x.1 := by
  unfold selS at h
  split at h
  · rename_i hs; cases h; exact ⟨hs, rfl⟩
  · cases h
theorem selS_none {w d c : Int} {x : StpIn w d c} (h : selS w d c x = none) : isStr x.1 = false := by
  unfold selS at h
  split at h
  · cases h
  · rename_i hs; simpa using hs
/-! Closures of Taxi -/
theorem straight_t (fl : List D) (cell : Int) : Pure Try.prog 104 [.int .i64 cell, .ref [.ref fl 0] 0] (.fn (.func 105) [] [.ref [.ref fl 0] 0, .ref [.int .i64 cell] 0]) := by
  refine pure_of_wc (rs := [.tmp 3]) (m := 5) [] oNone_ok (by kernel_rfl) Try.func104 rfl (by kernel_rfl) rfl rfl (by kernel_rfl) ?_
  simp only [RT, FS, ↓RE, okR, argEnv, Nat.reduceAdd, Nat.reduceSub, Nat.reduceLT, Nat.reduceLeDiff, Nat.reduceEqDiff, reduceIte]
theorem wet_t (l : LandM) (hl : LandOk l) (cell : Int) (hc : 0 ≤ cell ∧ cell < (l.ground.length : Int)) : Pure Try.prog 107 [.int .i64 cell, .ref l.c 0] (.bool (wAt l cell.toNat)) := by
  obtain ⟨k, rfl⟩ : ∃ k : Nat, cell = (k : Int) := ⟨cell.toNat, by omega⟩
  have hw := sB_ix (hl.w_at (i := k) (by omega))
  have hlc : l.c = [.int .i64 l.wide, .int .i64 l.deep, .sl (intL l.ground), .sl (boolL l.water), .int .i64 l.clear] := rfl
  rw [hlc]
  refine pure_of_wc (rs := [.tmp 3]) (m := 9) [] oNone_ok (by kernel_rfl) Try.func107 rfl (by kernel_rfl) rfl rfl (by kernel_rfl) ?_
  simp only [RT, FS, ↓RE, okR, argEnv, Nat.reduceAdd, Nat.reduceSub, Nat.reduceLT, Nat.reduceLeDiff, Nat.reduceEqDiff, reduceIte, hw]
  simp
def e1S (F : List D) (cell : Int) (l : Nat) : Env := [(3, .ref [.fn (.yield l) [] []] 0), (7, .fn (.func 115) [] [.ref [.int .i64 cell] 0, .ref [.ref F 0] 0])]
def e2S (w d c : Int) (l : Nat) (x : StpIn w d c) : Env := [(3, .ref [.fn (.yield l) [] []] 0), (4, .ref x.1.c 0)]
def e3S (w d c : Int) (l : Nat) (x : StpIn w d c) (y : StrIn w d c) : Env := [(12, .bool true), (13, .fn (.yield l) [] []), (14, .agg y.1.c)]
set_option maxHeartbeats 1000000 in
theorem straight_seq (F : List D) (w d : Int) (f1 : ∀ h, loadAtD Try.prog h 3 (.ref F 13) = some (.int .i64 w)) (f2 : ∀ h, loadAtD Try.prog h 3 (.ref F 14) = some (.int .i64 d)) (hw : 1 ≤ w ∧ w ≤ 12) (hd : 1 ≤ d ∧ d ≤ 12) (cell : Int) (hc : 0 ≤ cell ∧ cell ≤ 200) (hF : D.nmL F = true) (hF0 : D.ltL 0 F = true) :
    SeqX Try.prog 105 [.ref [.ref F 0] 0, .ref [.int .i64 cell] 0] (fun x : StrIn w d cell => stpV x.1) (fun xs => xs = (strL w d cell).attach) (fun pre => pre <+: (strL w d cell).attach) 9 := by
  refine seqX_nestF (dsf := fun x : StrIn w d cell => stpD x.1) (ds2 := fun x : StpIn w d cell => stpD x.1) (m := 6) (j := 3) (t := 12) (n1 := 18) Try.func105 rfl rfl rfl e3_ok (by kernel_rfl) []
    (by kernel_rfl) (by kernel_rfl) (by kernel_rfl) (by kernel_rfl) (by kernel_rfl) (by kernel_rfl) (fun R n vs x => stp_dec R n vs x.1) (e1S F cell) ?_ (fun l => rfl) (by kernel_rfl) (by kernel_rfl) (steps_seqF F w d f1 f2 hw hd cell hc) (fun _ => rfl) (fun R n x => stp_enc R n x.1)
    (e2S w d cell) ?_ ?_ (selS w d cell) (e3S w d cell) rfl rfl rfl ?_ ?_ (fun l x y h => rfl) ?_ ?_ (fun xs h => by subst h; exact selS_all w d cell) (fun pre h => by rw [← selS_all]; exact h.filterMap _) (Nat.le_refl _)
  · intro l
    simp only [RT, FS, ↓RE, okR, argEnv, Nat.reduceAdd, Nat.reduceSub, Nat.reduceLT, Nat.reduceLeDiff, Nat.reduceEqDiff, reduceIte, e1S, true_and]
    refine call_of_pure' (steps_t F cell) (by simp [D.ltL, D.lt, hF0]) (by simp [D.ltL, D.lt, hF0]) ?_
    simp only [RT, FS, ↓RE, okR, argEnv, Nat.reduceAdd, Nat.reduceSub, Nat.reduceLT, Nat.reduceLeDiff, Nat.reduceEqDiff, reduceIte, true_and]
    simp [headW, heapW, envW, blkLt, D.ltL, D.lt, look, hget, view, viewL, hF0, e1S]
  · intro l x i
    simp only [e2S, look]
    split
    · rfl
    · split
      · rfl
      · rfl
  · intro l l' x
    simp only [RT, FS, ↓RE, okR, argEnv, Nat.reduceAdd, Nat.reduceSub, Nat.reduceLT, Nat.reduceLeDiff, Nat.reduceEqDiff, reduceIte, pe_cons, pe_nil, Array.toList, stpD, Stp.c, e1S, true_and]
    simp [headW, heapW, envW, blkLt, D.ltL, D.lt, look, hget, view, viewL, e2S, Stp.c]
  · intro l x h
    have hs := selS_none h
    have plen := step_length_t x.1
    simp only [isStr] at hs
    simp only [Stp.c] at plen
    simp only [RT, FS, ↓RE, okR, argEnv, Nat.reduceAdd, Nat.reduceSub, Nat.reduceLT, Nat.reduceLeDiff, Nat.reduceEqDiff, reduceIte, e2S, Stp.c]
    refine call_of_pure plen rfl ?_
    simp only [RT, FS, ↓RE, okR, argEnv, Nat.reduceAdd, Nat.reduceSub, Nat.reduceLT, Nat.reduceLeDiff, Nat.reduceEqDiff, reduceIte, hs]
  · intro l x y h
    have hs := (selS_some h).1
    have hy := (selS_some h).2
    have plen := step_length_t x.1
    simp only [isStr] at hs
    simp only [Stp.c] at plen
    simp only [RT, FS, ↓RE, okR, argEnv, Nat.reduceAdd, Nat.reduceSub, Nat.reduceLT, Nat.reduceLeDiff, Nat.reduceEqDiff, reduceIte, e2S, Stp.c, List.take_succ_cons, List.take_zero]
    refine call_of_pure plen rfl ?_
    simp only [RT, FS, ↓RE, okR, argEnv, Nat.reduceAdd, Nat.reduceSub, Nat.reduceLT, Nat.reduceLeDiff, Nat.reduceEqDiff, reduceIte, hs]
    simp [headW, heapW, envW, blkLt, D.ltL, D.lt, look, hget, view, viewL, e3S, hy, Stp.c]
  · intro l x y h
    simp [yieldF, e3S, evO, look, stpD]
  · intro l x y h r
    have hb : flat1 (.bool true) = true := rfl
    simp only [flS, e3S, List.map_cons, List.map_nil, hb, if_true]
    generalize (if flat1 (D.fn (.yield l) [] []) = true then D.fn (.yield l) [] [] else D.any) = A
    generalize (if flat1 (D.agg y.1.c) = true then D.agg y.1.c else D.any) = B
    simp only [RT, FS, ↓RE, okR, argEnv, Nat.reduceAdd, Nat.reduceSub, Nat.reduceLT, Nat.reduceLeDiff, Nat.reduceEqDiff, reduceIte, List.drop_succ_cons, List.drop_zero]
    try (cases r <;> rfl)
end Go.Sx

namespace Go.Sx
open Go.Proofs
set_option maxRecDepth 10000

/-! Clip -/
theorem clip_t (xs : List (List D)) (hx : xs.length ≤ 9223372036854775807) : Pure Try.prog 108 [.sl xs] (.sl xs) := by
  refine pure_of_pieces (rs := [.tmp 2]) (m := 9) [] oNone_ok (by kernel_rfl) Try.func108 rfl (by kernel_rfl) rfl rfl (by kernel_rfl) ?_
  refine awp_peel (T := []) oNone_ok (by kernel_rfl) (by kernel_rfl) ?_
  simp only [RT, FS, ↓RE, okR, argEnv, Nat.reduceAdd, Nat.reduceSub, Nat.reduceLT, Nat.reduceLeDiff, Nat.reduceEqDiff, reduceIte]
  refine awp_seq (awp_region (aops_cut (m := 5) oNone_ok rfl rfl ?_))
  simp only [RT, FS, ↓RE, okR, argEnv, Nat.reduceAdd, Nat.reduceSub, Nat.reduceLT, Nat.reduceLeDiff, Nat.reduceEqDiff, reduceIte, List.take_succ_cons, List.take_zero, List.drop_succ_cons, List.drop_zero]
  refine opOk_slice3 (es := xs) rfl Fz.und_25 Fz.size_3 rfl rfl rfl ?_
  simp only [RT, FS, ↓RE, okR, argEnv, Nat.reduceAdd, Nat.reduceSub, Nat.reduceLT, Nat.reduceLeDiff, Nat.reduceEqDiff, reduceIte]
  refine awp_rest (T := []) oNone_ok (by kernel_rfl) (by kernel_rfl) ?_
  simp only [RT, FS, ↓RE, okR, argEnv, Nat.reduceAdd, Nat.reduceSub, Nat.reduceLT, Nat.reduceLeDiff, Nat.reduceEqDiff, reduceIte]
/-! Taxi -/
def wetB (l : LandM) (x : Int) : Bool := wAt l x.toNat
def costsT (l : LandM) (to : Int) : Mp := farA (wetB l) (strL l.wide l.deep) to
def taxiA (l : LandM) (frm to : Int) : List Int := alongA (costsT l to) (strL l.wide l.deep) frm to
def TaxiD (l : LandM) (frm to : Int) : D := if (cellB l frm && cellB l to) = true then (match mget (costsT l to) frm with
  | none => .tup [.nils, .int .i64 5]
  | some _ => .tup [.sl (intL (taxiA l frm to)), .int .i64 0]) else .tup [.nils, .int .i64 2]
def flZ (l : LandM) : List D := [.nils, .nils, .int .i64 0, .int .i64 0, .int .i64 0, .int .i64 0, .int .i64 0, .int .i64 0, .int .i64 0, .int .i64 0, .int .i64 0, .nils, .int .i64 0, .int .i64 l.wide, .int .i64 l.deep, .sl (intL l.ground), .sl (boolL l.water), .int .i64 l.clear, .int .i64 0, .int .i64 0, .int .i64 0, .int .i64 0, .int .i64 0]
theorem str_ok {l : LandM} (hl : LandOk l) : ∀ c : Int, 0 ≤ c → c < (l.ground.length : Int) → ∀ s ∈ strL l.wide l.deep c, 0 ≤ s.cell ∧ s.cell < (l.ground.length : Int) := fun c h0 h1 s hs => by
  have hsz := hl.size
  obtain ⟨j, hj, he⟩ := mem_steps (List.mem_filter.1 hs).1
  have := stepAt_ok hl.wide.1 ⟨h0, by omega⟩ hj he
  omega
theorem walk_str (l : LandM) (hl : LandOk l) : Walk l.ground.length (wetB l) (strL l.wide l.deep) 107 [] [.ref l.c 0] 104 [] [.ref [.ref (flZ l) 0] 0] 105 (fun x => [.ref [.ref (flZ l) 0] 0, .ref [.int .i64 x] 0]) := by
  have hs := hl.small
  have hsz := hl.size
  refine ⟨hs.2, fun m => rfl, fun m => rfl, fun h c => rfl, fun x h0 h1 => wet_t l hl x ⟨h0, h1⟩, fun m => rfl, fun m => rfl, fun x _ _ => straight_t _ x, fun x m => rfl, by kernel_rfl, fun x h0 h1 => ?_, fun x h0 h1 s hsx => ?_⟩
  · exact straight_seq (flZ l) l.wide l.deep (fun h => by kernel_rfl) (fun h => by kernel_rfl) hl.wide hl.deep x ⟨h0, by omega⟩ (by kernel_rfl) (by kernel_rfl)
  · obtain ⟨j, hj, he⟩ := mem_steps (List.mem_filter.1 hsx).1
    have := stepAt_ok hl.wide.1 ⟨h0, by omega⟩ hj he
    exact ⟨by omega, this.2.1⟩
theorem alongF_len (m : Mp) (L : Int → List Stp) (to : Int) : ∀ (n : Nat) (c : Int), (alongF m L to n c).length ≤ n + 1
  | 0, c => by simp [alongF]
  | n + 1, c => by
    simp only [alongF]
    split
    · simp
    · split
      · rename_i d _; have := alongF_len m L to n d; simp; omega
      · simp
theorem along_len {N : Nat} {m : Mp} (hm : MapOk N m) (L : Int → List Stp) (frm to : Int) : (alongA m L frm to).length ≤ 204 := by
  have h := alongF_len m L to (cellsN m frm + 1) frm
  have hc : cellsN m frm ≤ 202 := by
    unfold cellsN
    cases hv : mget m frm with
    | none => simp
    | some v => have := hm.b _ _ hv; simp; omega
  unfold alongA; omega
set_option maxHeartbeats 4000000 in
theorem run_Taxi_t (l : LandM) (hl : LandL l) (frm to : Int) : Pure Try.prog 58 [.agg l.c, .int .i64 frm, .int .i64 to] (TaxiD l frm to) := by
  have oc1 := gCe_eq hl frm
  have oc2 := gCe_eq hl to
  have hlc : l.c = [.int .i64 l.wide, .int .i64 l.deep, .sl (intL l.ground), .sl (boolL l.water), .int .i64 l.clear] := rfl
  have ll : ∀ m, D.ltL m l.c = true := fun m => rfl
  unfold TaxiD
  rw [hlc] at oc1 oc2 ⊢
  cases h1 : cellB l frm
  · rw [h1] at oc1
    refine pure_of_wc (rs := [.tmp 6, .tmp 7]) (m := 45) [] e4_ok (by kernel_rfl) Try.func58 rfl (by kernel_rfl) rfl rfl (by kernel_rfl) ?_
    simp only [RT, FS, ↓RE, okR, argEnv, Nat.reduceAdd, Nat.reduceSub, Nat.reduceLT, Nat.reduceLeDiff, Nat.reduceEqDiff, reduceIte, RM, oc1]
    simp
  rw [h1] at oc1
  cases h2 : cellB l to
  · rw [h2] at oc2
    refine pure_of_wc (rs := [.tmp 6, .tmp 7]) (m := 45) [] e4_ok (by kernel_rfl) Try.func58 rfl (by kernel_rfl) rfl rfl (by kernel_rfl) ?_
    simp only [RT, FS, ↓RE, okR, argEnv, Nat.reduceAdd, Nat.reduceSub, Nat.reduceLT, Nat.reduceLeDiff, Nat.reduceEqDiff, reduceIte, RM, oc1, oc2]
    simp
  rw [h2] at oc2
  have hfr := cellB_ok hl h1
  have hto := cellB_ok hl h2
  have hb : landB l = true := by simp only [cellB, Bool.and_eq_true] at h1; exact h1.1
  have hk := land_ok hl hb
  have hs := hk.small
  have W := walk_str l hk
  have p2 := far_t W to hto
  have hmok : MapOk l.ground.length (costsT l to) := farA_ok W.n _ _ (str_ok hk) hto
  have p3 := along_t W.n (m := costsT l to) hmok W.sfl W.scl W.s W.icl W.cal W.q frm to hfr
  have e2 : farA (wetB l) (strL l.wide l.deep) to = costsT l to := rfl
  have e3 : alongA (costsT l to) (strL l.wide l.deep) frm to = taxiA l frm to := rfl
  rw [e2] at p2
  rw [e3] at p3
  have hlen : (taxiA l frm to).length ≤ 9223372036854775807 := by
    have := along_len hmok (strL l.wide l.deep) frm to
    unfold taxiA; omega
  have p4 := clip_t (intL (taxiA l frm to)) (by rw [intL_len]; exact hlen)
  generalize taxiA l frm to = R at *
  have hlk := fun hh => md_look hh (costsT l to) frm
  generalize costsT l to = M at *
  have hZ : [D.nils, .nils, .int .i64 0, .int .i64 0, .int .i64 0, .int .i64 0, .int .i64 0, .int .i64 0, .int .i64 0, .int .i64 0, .int .i64 0, .nils, .int .i64 0, .int .i64 l.wide, .int .i64 l.deep, .sl (intL l.ground), .sl (boolL l.water), .int .i64 l.clear, .int .i64 0, .int .i64 0, .int .i64 0, .int .i64 0, .int .i64 0] = flZ l := rfl
  refine pure_of_pieces (rs := [.tmp 6, .tmp 7]) (m := 45) [] e4_ok (by kernel_rfl) Try.func58 rfl (by kernel_rfl) rfl rfl (by kernel_rfl) ?_
  refine awp_peel (T := []) e4_ok (by kernel_rfl) (by kernel_rfl) ?_
  simp only [RT, FS, ↓RE, okR, argEnv, Nat.reduceAdd, Nat.reduceSub, Nat.reduceLT, Nat.reduceLeDiff, Nat.reduceEqDiff, reduceIte, RM]
  refine awp_peel (T := []) e4_ok (by kernel_rfl) (by kernel_rfl) ?_
  simp only [RT, FS, ↓RE, okR, argEnv, Nat.reduceAdd, Nat.reduceSub, Nat.reduceLT, Nat.reduceLeDiff, Nat.reduceEqDiff, reduceIte, RM, oc1, oc2]
  refine awp_peel (T := []) e4_ok (by kernel_rfl) (by kernel_rfl) ?_
  simp only [RT, FS, ↓RE, okR, argEnv, Nat.reduceAdd, Nat.reduceSub, Nat.reduceLT, Nat.reduceLeDiff, Nat.reduceEqDiff, reduceIte, RM]
  refine awp_imp (imp_thaw 1 (.weak (weak_of (e := [(1, .int .i64 frm), (2, .int .i64 to), (3, .ptr 0 0), (8, .ptr 2 0)]) (h := [(2, .box [.ref (flZ l) 0]), (0, .box l.c)]) (nid := 3) (n := 45) ?_))) ?_
  · simp [headW, heapW, envW, blkLt, D.ltL, D.lt, look, hget, frzHH, herase, frzBlk, frzD, hlc, flZ]
  refine awp_imp (imp_view (e := [(1, .int .i64 frm), (2, .int .i64 to), (3, .ref l.c 0), (8, .ref [.ref (flZ l) 0] 0)]) (h' := []) (nid' := 0) (n' := 45) ?_) ?_
  · simp [headW, heapW, envW, blkLt, D.ltL, D.lt, look, hget, view, viewL, hlc, flZ]
  refine awp_peel (T := []) e4_ok (by kernel_rfl) (by kernel_rfl) ?_
  simp only [RT, FS, ↓RE, okR, argEnv, Nat.reduceAdd, Nat.reduceSub, Nat.reduceLT, Nat.reduceLeDiff, Nat.reduceEqDiff, reduceIte, RM]
  refine awp_peel (T := []) e4_ok (by kernel_rfl) (by kernel_rfl) ?_
  simp only [RT, FS, ↓RE, okR, argEnv, Nat.reduceAdd, Nat.reduceSub, Nat.reduceLT, Nat.reduceLeDiff, Nat.reduceEqDiff, reduceIte, RM]
  refine call_of_free p2 (by simp [D.frL, D.fr, flZ, hlc]) (by simp [D.fr]) ?_
  simp only [RT, FS, ↓RE, okR, argEnv, Nat.reduceAdd, Nat.reduceSub, Nat.reduceLT, Nat.reduceLeDiff, Nat.reduceEqDiff, reduceIte, RM]
  cases hm : mget M frm with
  | none =>
    rw [hm] at hlk
    simp only [valC, Option.isSome_none] at hlk
    refine awp_rest (T := []) e4_ok (by kernel_rfl) (by kernel_rfl) ?_
    simp only [RT, FS, ↓RE, okR, argEnv, Nat.reduceAdd, Nat.reduceSub, Nat.reduceLT, Nat.reduceLeDiff, Nat.reduceEqDiff, reduceIte, RM, hlk]
  | some v =>
    rw [hm] at hlk
    simp only [valC, Option.isSome_some, Cst.c] at hlk
    refine awp_rest (T := []) e4_ok (by kernel_rfl) (by kernel_rfl) ?_
    simp only [RT, FS, ↓RE, okR, argEnv, Nat.reduceAdd, Nat.reduceSub, Nat.reduceLT, Nat.reduceLeDiff, Nat.reduceEqDiff, reduceIte, RM, hlk]
    refine call_of_free p3 (by simp [D.frL, D.fr, flZ]) (by simp [D.fr]) ?_
    simp only [RT, FS, ↓RE, okR, argEnv, Nat.reduceAdd, Nat.reduceSub, Nat.reduceLT, Nat.reduceLeDiff, Nat.reduceEqDiff, reduceIte, RM]
    refine call_of_free p4 (by simp [D.frL, D.fr]) (by simp [D.fr]) ?_
    simp only [RT, FS, ↓RE, okR, argEnv, Nat.reduceAdd, Nat.reduceSub, Nat.reduceLT, Nat.reduceLeDiff, Nat.reduceEqDiff, reduceIte, RM]
end Go.Sx
