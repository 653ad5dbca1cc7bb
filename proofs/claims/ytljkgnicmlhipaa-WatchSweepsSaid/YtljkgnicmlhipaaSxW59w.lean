/- Own work: contracts of functions, used in the proof of a law. -/
import Derived.Test.YtljkgnicmlhipaaSxW58w
set_option linter.unusedVariables false
set_option linter.unusedSimpArgs false
namespace Go.Sx
open Go.Proofs
set_option maxRecDepth 10000

theorem awp_seqE {P : Program} {n0 n nid : Nat} {ro : Option Nat} {ι : Type} {x y : Code} {s : St} {Q : Ex → St → Prop} (E : ι → Env) (V : ι → H) (I : ι → Prop)
    (h : AWp P n0 ro x s (thenQ (fun s' => ∃ i, I i ∧ headW n0 s' (E i) (V i) nid n) Q)) (h2 : ∀ i, I i → AWp P n0 ro y ⟨E i, V i, nid, n⟩ Q) : AWp P n0 ro (.seq x y) s Q :=
  awp_seq (awp_mono h fun e s' h' => by
    cases e with
    | normal => obtain ⟨i, hi, hw⟩ := h'; exact awp_weak (weak_of hw) (h2 i hi)
    | exit => exact h'
    | ret => exact h')
/-! The document's best search -/
noncomputable def gWith : List D → Option D := orcF (fun p : Nat × List Int × Int => p.2.1.length ≤ 8 ∧ p.1 < 2 ^ p.2.1.length) (fun p => [.int .i64 (p.1 : Int), inD p.2.1, .int .i64 p.2.2]) (fun p => .int .i64 (withN p.2.1 p.1 p.2.2 : Nat))
theorem gWith_eq {l : List Int} {b : Nat} (hl : l.length ≤ 8) (hb : b < 2 ^ l.length) (c : Int) : gWith [.int .i64 (b : Int), inD l, .int .i64 c] = some (.int .i64 (withN l b c : Nat)) :=
  orcF_eq (ok := fun p : Nat × List Int × Int => p.2.1.length ≤ 8 ∧ p.1 < 2 ^ p.2.1.length) (dsf := fun p => [.int .i64 (p.1 : Int), inD p.2.1, .int .i64 p.2.2]) (rf := fun p => .int .i64 (withN p.2.1 p.1 p.2.2 : Nat)) (b, l, c) ⟨hl, hb⟩ fun q hq => by
    simp only [List.cons.injEq, D.int.injEq, and_true, true_and] at hq
    rw [inD_inj hq.2.1, hq.2.2, show q.1 = b by have := hq.1; omega]
noncomputable abbrev e59 : List (FuncId × (List D → Option D)) := (69, gSII okSB besD) :: (68, gWith) :: e5
theorem e59_ok : OkO Try.prog (mkO e59) := mkO_ok (orcF_ok fun p h => r_Beside_t h.1 h.2.1 h.2.2) <| mkO_ok (orcF_ok fun p h => r_with_t p.2.1 h.1 p.1 h.2 p.2.2) e5_ok
def swpD : Option (List Int) → D
  | some p => .sl (intL p)
  | none => .nils
set_option maxHeartbeats 4000000 in
theorem r_Sweep_t {s : SkyW} (hs : SkyOk s) {frm : Int} (hf : freeB s.sh frm = true) {l : List Int} (hl : l.length ≤ 8) : Pure Try.prog 30 [.agg s.c, .int .i64 frm, inD l] (swpD (searchO s frm l)) := by
  have hle := hs.le
  have hin := free_ins (s := s) hf
  have oF := fun c => gFree_eq (s := s) (by simp only [BL]; omega) c
  have oB : ∀ a b, InS s a → InS s b → gSII okSB besD [.agg s.c, .int .i64 a, .int .i64 b] = some (.bool (decide (distI s.w a b = 1))) := fun a b ha hb => gSII_eq (ok := okSB) (rf := besD) ⟨hs, ha, hb⟩
  have oW := fun b hb c => gWith_eq (l := l) (b := b) hl hb c
  have h8 := pow_lt8 hl
  have hW0 := Nat.two_pow_pos l.length
  have hL0 := ly_start (l := l) hs hf hl
  have hLst := fun n rest next seen x (h : LyI s frm l n (x :: rest ++ next) seen) hx => LyI.step hs h hx
  have hLlen := fun n q seen (h : LyI s frm l n q seen) => LyI.seen_len hs hl h
  have hLhit := fun n q seen x (h : LyI s frm l n (x :: q) seen) hx => LyI.hit h hx
  have hLfin := fun n seen (h : LyI s frm l n [] seen) => LyI.fin h
  have hLpos := fun n q seen (h : LyI s frm l n q seen) => LyI.pos h
  have hLit := fun n q seen (h : LyI s frm l n q seen) => h.it
  have hLf := fun n q seen (h : LyI s frm l n q seen) => h.f
  have hsall := fun y (hy : InS s y.1) => sucTo_all hs l (y := y) hy
  have hssucc := fun y k => sucTo_succ s l y k
  have hs0 : ∀ y, sucTo s l y 0 = [] := fun y => rfl
  have hfi : ∀ c, freeB s.sh c = true → InS s c := fun c h => free_ins h
  have hbeg : begP l frm = (frm, (withN l 0 frm : Int)) := rfl
  have hbb := withN_lt (l := l) (b := 0) hW0 frm
  generalize sucTo s l = ST at *
  generalize searchO s frm l = RES at *
  generalize LyI s frm l = LY at *
  generalize sucP s l = SP at *
  obtain ⟨W, hW⟩ : ∃ W, 2 ^ l.length = W := ⟨_, rfl⟩
  rw [hbeg] at hL0
  generalize hbw : withN l 0 frm = bw at *
  rw [hW] at hbb h8 hW0
  simp only [hW] at oW hLf hLit
  obtain ⟨w, d, sh⟩ := s
  dsimp only at hle hin hf hLf hLit ⊢
  simp only [SkyW.c] at *
  obtain ⟨fn, hfn⟩ : ∃ fn : Nat, frm = (fn : Int) := ⟨frm.toNat, by have := hin.1; omega⟩
  subst hfn
  have hfl : fn < sh.length := by have := hin.2; simp only at this; omega
  have hNW : sh.length * W ≤ 144 * 256 := Nat.mul_le_mul (by omega) h8
  have hidx : ∀ n b : Nat, n < sh.length → b < W → n * W + b < sh.length * W := fun n b hn hb => by
    have : (n + 1) * W ≤ sh.length * W := Nat.mul_le_mul_right W hn
    rw [Nat.add_mul] at this
    omega
  have hall : allI l = (W : Int) - 1 := by unfold allI; rw [hW]
  have hs1 := shl_1 (i := l.length) (by omega)
  rw [hW] at hs1
  have hsN := shl_n (a := sh.length) (i := l.length) (by omega) (by omega)
  rw [hW] at hsN
  have hsh : ∀ n : Nat, n < sh.length → arith .shl .i64 (n : Int) (l.length : Int) = some (.int .i64 ((n * W : Nat) : Int)) := fun n hn => by
    have := shl_n (a := n) (i := l.length) (by omega) (by omega)
    rw [hW] at this; exact this
  have w1 : IntKind.i64.wrap ((W : Int) - 1) = allI l := by rw [hall]; exact wrap_i64 (by omega) (by omega)
  have oW0 := oW 0 hW0 (fn : Int)
  simp only [Int.natCast_zero, hbw] at oW0
  have mk := fun h nid => make_b h nid (sh.length * W) (by omega)
  have dl1 := fun h => litD_1 h (fn : Int)
  have dl2 := fun h => fd_litD h [(fn : Int)] (fn : Int) (bw : Int)
  obtain ⟨Q0, hQ0⟩ : ∃ Q, Q = [([(fn : Int)], ((fn : Int), (bw : Int)))] := ⟨_, rfl⟩
  obtain ⟨p0, hp0⟩ : ∃ p, p = [(fn : Int)] := ⟨_, rfl⟩
  rw [← hp0] at dl1 dl2 hQ0 hL0
  rw [← hQ0] at dl2 hL0
  have ix0 : ∀ h, indexAddrD Try.prog h 117 (.sl (fdL Q0)) (.int .i64 0) = some (.ref [.sl (intL p0), .int .i64 (bw : Int)] 0) := fun h => fd_ix (i := 0) (x := (p0, ((fn : Int), (bw : Int)))) (by rw [hQ0]; rfl) h
  have wi0 : IntKind.i64.wrap (((fn * W : Nat) : Int) + (bw : Int)) = ((fn * W + bw : Nat) : Int) := by have := hidx fn bw hfl hbb; rw [wrap_i64 (by omega) (by omega)]; omega
  have bx0 := fun h (hb : hget h 1 = some (.arr 4 1 (boolL (List.replicate (sh.length * W) false)))) => oB_ix (n := sh.length * W) (i := fn * W + bw) hb (by simp) (hidx fn bw hfl hbb)
  have bs0 := fun h nid (hb : hget h 1 = some (.arr 4 1 (boolL (List.replicate (sh.length * W) false)))) => oB_store (n := sh.length * W) (i := fn * W + bw) hb (by simp) (hidx fn bw hfl hbb) nid true
  have hst0 : (List.replicate (sh.length * W) false).set (fn * W + bw) true = boolsF (sh.length * W) (snP W [((fn : Int), (bw : Int))]) := by rw [sn_start, sn_add [] hbb]; rfl
  refine pure_of_pieces (rs := [.tmp 6]) (m := 123) [(4, [(12, false, false, [])]), (16, [(18, false, false, [])])] e59_ok (by kernel_rfl) Try.func30 rfl (by kernel_rfl) rfl rfl (by kernel_rfl) ?_
  refine awp_peel (T := [(4, [(12, false, false, [])]), (16, [(18, false, false, [])])]) e59_ok (by kernel_rfl) (by kernel_rfl) ?_
  simp only [RT, FS, ↓RE, okR, argEnv, Nat.reduceAdd, Nat.reduceSub, Nat.reduceLT, Nat.reduceLeDiff, Nat.reduceEqDiff, reduceIte, RM]
  refine awp_peel (T := [(4, [(12, false, false, [])]), (16, [(18, false, false, [])])]) e59_ok (by kernel_rfl) (by kernel_rfl) ?_
  simp only [RT, FS, ↓RE, okR, argEnv, Nat.reduceAdd, Nat.reduceSub, Nat.reduceLT, Nat.reduceLeDiff, Nat.reduceEqDiff, reduceIte, RM, List.length_map, hs1, w1]
  refine awp_seq (awp_regionD e59_ok ?_)
  simp only [RT, FS, ↓RE, okR, argEnv, Nat.reduceAdd, Nat.reduceSub, Nat.reduceLT, Nat.reduceLeDiff, Nat.reduceEqDiff, reduceIte, RM, dl1, dl2, oW0]
  refine awp_peel (T := [(4, [(12, false, false, [])]), (16, [(18, false, false, [])])]) e59_ok (by kernel_rfl) (by kernel_rfl) ?_
  simp only [RT, FS, ↓RE, okR, argEnv, Nat.reduceAdd, Nat.reduceSub, Nat.reduceLT, Nat.reduceLeDiff, Nat.reduceEqDiff, reduceIte, RM, List.length_map, hsN, mk]
  refine awp_peel (T := [(4, [(12, false, false, [])]), (16, [(18, false, false, [])])]) e59_ok (by kernel_rfl) (by kernel_rfl) ?_
  simp only [RT, FS, ↓RE, okR, argEnv, Nat.reduceAdd, Nat.reduceSub, Nat.reduceLT, Nat.reduceLeDiff, Nat.reduceEqDiff, reduceIte, RM, List.length_map, hsh fn hfl, ix0, wi0, bx0, bs0]
  rw [hst0]
  refine awp_seqE (ι := Unit) (nid := 0) (n := 123) (fun _ => []) (fun _ => []) (fun _ => RES = none) ?_ ?_
  rotate_left
  · intro _ hr
    rw [hr]
    refine awp_rest (T := [(4, [(12, false, false, [])]), (16, [(18, false, false, [])])]) e59_ok (by kernel_rfl) (by kernel_rfl) ?_
    simp only [RT, FS, ↓RE, okR, argEnv, Nat.reduceAdd, Nat.reduceSub, Nat.reduceLT, Nat.reduceLeDiff, Nat.reduceEqDiff, reduceIte, RM]
    rfl
  refine awp_block (awp_loopH (ι := Nat × List It × List Pr) (fun s => [(2, inD l), (3, .ptr 0 0), (7, .int .i64 (allI l)), (8, .sl (fdL s.2.1)), (9, .osl 1 (sh.length * W))]) (fun s => [(1, .arr 4 1 (boolL (boolsF (sh.length * W) (snP W s.2.2)))), (0, .box [.int .i64 w, .int .i64 d, shD sh])]) 2
    (fun s => LY s.1 s.2.1 s.2.2) (fun s => s.1) (SFUEL, Q0, [((fn : Int), (bw : Int))]) hL0 ?_ ?_)
  · simp [headW, heapW, envW, blkLt, D.ltL, D.lt, look, hget, shD, inD]
  rintro ⟨n, now, seen0⟩ hB
  dsimp only at hB ⊢
  refine awp_peel (T := [(4, [(12, false, false, [])]), (16, [(18, false, false, [])])]) e59_ok (by kernel_rfl) (by kernel_rfl) ?_
  by_cases hne : now = []
  · have hq : ((0 : Int) < ((now.length : Nat) : Int)) = False := by rw [hne]; simp
    simp only [RT, FS, ↓RE, okR, argEnv, Nat.reduceAdd, Nat.reduceSub, Nat.reduceLT, Nat.reduceLeDiff, Nat.reduceEqDiff, reduceIte, RM, fdL_len, hq, decide_false]
    exact ⟨(), hLfin n seen0 (by rw [hne] at hB; exact hB), by simp [headW, heapW, envW, blkLt, D.ltL, D.lt, look, hget]⟩
  have hq : ((0 : Int) < ((now.length : Nat) : Int)) = True := by
    have := List.length_pos_iff.2 hne
    simp only [eq_iff_iff, iff_true]; omega
  have hnl := List.length_pos_iff.2 hne
  simp only [RT, FS, ↓RE, okR, argEnv, Nat.reduceAdd, Nat.reduceSub, Nat.reduceLT, Nat.reduceLeDiff, Nat.reduceEqDiff, reduceIte, RM, fdL_len, hq, decide_true]
  refine awp_block ?_
  refine awp_peel (T := [(4, [(12, false, false, [])]), (16, [(18, false, false, [])])]) e59_ok (by kernel_rfl) (by kernel_rfl) ?_
  simp only [RT, FS, ↓RE, okR, argEnv, Nat.reduceAdd, Nat.reduceSub, Nat.reduceLT, Nat.reduceLeDiff, Nat.reduceEqDiff, reduceIte, RM]
  refine awp_nil 10 116 2 rfl ?_
  refine awp_headW [(2, inD l), (3, .ptr 0 0), (7, .int .i64 (allI l)), (8, .sl (fdL now)), (9, .osl 1 (sh.length * W)), (10, .osl 2 (([] : List It).length))] [(2, .arr 116 2 (fdL [])), (1, .arr 4 1 (boolL (boolsF (sh.length * W) (snP W seen0)))), (0, .box [.int .i64 w, .int .i64 d, shD sh])] 3 123 (by simp [headW, heapW, envW, blkLt, D.ltL, D.lt, look, hget, Sx.hset, eset_nil, eset_cons, fdL, shD, inD]) ?_
  refine awp_seqE (ι := Nat × List It × List Pr) (nid := 3) (n := 123) (fun s => [(2, inD l), (3, .ptr 0 0), (7, .int .i64 (allI l)), (9, .osl 1 (sh.length * W)), (10, .osl 2 s.2.1.length)]) (fun s => [(2, .arr 116 2 (fdL s.2.1)), (1, .arr 4 1 (boolL (boolsF (sh.length * W) (snP W s.2.2)))), (0, .box [.int .i64 w, .int .i64 d, shD sh])])
    (fun s => LY s.1 s.2.1 s.2.2 ∧ s.1 < n) ?_ ?_
  rotate_left
  · rintro ⟨n2, next, sn⟩ ⟨hB1, hn2⟩
    dsimp only at hB1 hn2 ⊢
    refine awp_imp (imp_thaw 2 (.weak (weak_of (e := [(2, inD l), (3, .ptr 0 0), (7, .int .i64 (allI l)), (9, .osl 1 (sh.length * W)), (10, .sl (fdL next))]) (h := [(1, .arr 4 1 (boolL (boolsF (sh.length * W) (snP W sn)))), (0, .box [.int .i64 w, .int .i64 d, shD sh])]) (nid := 2) (n := 123) ?_))) ?_
    · simp [headW, heapW, envW, blkLt, D.ltL, D.lt, look, hget, frzHH, frzBlk, herase, fz_int, fz_ref, fz_ptr, fz_bool, fz_sl, fz_nils, fz_osl, fzC_some, fzC_arr, fzP_some, fdL_len, boolL_len, boolsF_len, shD, inD]
    refine awp_rest (T := [(4, [(12, false, false, [])]), (16, [(18, false, false, [])])]) e59_ok (by kernel_rfl) (by kernel_rfl) ?_
    simp only [RT, FS, ↓RE, okR, argEnv, Nat.reduceAdd, Nat.reduceSub, Nat.reduceLT, Nat.reduceLeDiff, Nat.reduceEqDiff, reduceIte, RM]
    exact ⟨(n2, next, sn), hB1, by simp only; omega, by simp [headW, heapW, envW, blkLt, D.ltL, D.lt, look, hget, shD, inD]⟩
  refine awp_peel (T := [(4, [(12, false, false, [])]), (16, [(18, false, false, [])])]) e59_ok (by kernel_rfl) (by kernel_rfl) ?_
  simp only [RT, FS, ↓RE, okR, argEnv, Nat.reduceAdd, Nat.reduceSub, Nat.reduceLT, Nat.reduceLeDiff, Nat.reduceEqDiff, reduceIte, RM]
  refine awp_block (awp_loopH (ι := Nat × Nat × List It × List Pr) (fun s => [(2, inD l), (3, .ptr 0 0), (7, .int .i64 (allI l)), (8, .sl (fdL now)), (9, .osl 1 (sh.length * W)), (10, .osl 2 s.2.2.1.length), (11, .int .i64 (s.1 : Int))]) (fun s => [(2, .arr 116 2 (fdL s.2.2.1)), (1, .arr 4 1 (boolL (boolsF (sh.length * W) (snP W s.2.2.2)))), (0, .box [.int .i64 w, .int .i64 d, shD sh])]) 3
    (fun s => s.1 ≤ now.length ∧ LY s.2.1 (now.drop s.1 ++ s.2.2.1) s.2.2.2 ∧ s.2.1 + s.1 = n) (fun s => now.length - s.1) (0, n, [], seen0) ⟨Nat.zero_le _, by simpa using hB, rfl⟩ ?_ ?_)
  · simp [headW, heapW, envW, blkLt, D.ltL, D.lt, look, hget, shD, inD, fdL]
  rintro ⟨i, m, next, seen⟩ ⟨hi, hL, hmi⟩
  dsimp only at hi hL hmi ⊢
  refine awp_peel (T := [(4, [(12, false, false, [])]), (16, [(18, false, false, [])])]) e59_ok (by kernel_rfl) (by kernel_rfl) ?_
  rcases Nat.lt_or_ge i now.length with hlt | hge
  rotate_left
  · have hq := nat_lt_false hge
    simp only [RT, FS, ↓RE, okR, argEnv, Nat.reduceAdd, Nat.reduceSub, Nat.reduceLT, Nat.reduceLeDiff, Nat.reduceEqDiff, reduceIte, RM, fdL_len, hq, decide_false]
    have hie : i = now.length := by omega
    subst hie
    rw [List.drop_length, List.nil_append] at hL
    exact ⟨(m, next, seen), ⟨hL, by simp only; omega⟩, by simp [headW, heapW, envW, blkLt, D.ltL, D.lt, look, hget, shD, inD]⟩
  have hq := nat_lt_true hlt
  simp only [RT, FS, ↓RE, okR, argEnv, Nat.reduceAdd, Nat.reduceSub, Nat.reduceLT, Nat.reduceLeDiff, Nat.reduceEqDiff, reduceIte, RM, fdL_len, hq, decide_true]
  refine awp_seqE (ι := Nat × List It × List Pr) (nid := 3) (n := 123) (fun s => [(2, inD l), (3, .ptr 0 0), (7, .int .i64 (allI l)), (8, .sl (fdL now)), (9, .osl 1 (sh.length * W)), (10, .osl 2 s.2.1.length), (11, .int .i64 (i : Int))]) (fun s => [(2, .arr 116 2 (fdL s.2.1)), (1, .arr 4 1 (boolL (boolsF (sh.length * W) (snP W s.2.2)))), (0, .box [.int .i64 w, .int .i64 d, shD sh])])
    (fun s => LY s.1 (now.drop (i + 1) ++ s.2.1) s.2.2 ∧ s.1 + 1 = m) ?_ ?_
  rotate_left
  · rintro ⟨m2, next2, sn2⟩ ⟨hL2, hm2⟩
    dsimp only at hL2 hm2 ⊢
    have wi := wrap_i64 (z := (i : Int) + 1) (by have := hLlen _ _ _ hB; omega) (by have := hLlen _ _ _ hB; omega)
    refine awp_rest (T := [(4, [(12, false, false, [])]), (16, [(18, false, false, [])])]) e59_ok (by kernel_rfl) (by kernel_rfl) ?_
    simp only [RT, FS, ↓RE, okR, argEnv, Nat.reduceAdd, Nat.reduceSub, Nat.reduceLT, Nat.reduceLeDiff, Nat.reduceEqDiff, reduceIte, RM, wi]
    exact ⟨(i + 1, m2, next2, sn2), ⟨by simp only; omega, hL2, by simp only; omega⟩, by simp only; omega, by simp [headW, heapW, envW, blkLt, D.ltL, D.lt, look, hget, shD, inD]⟩
  refine awp_block ?_
  obtain ⟨⟨p, c, b⟩, hx⟩ : ∃ x, now[i]? = some x := ⟨now[i], by simp [hlt]⟩
  have hdr : now.drop i = (p, c, b) :: now.drop (i + 1) := by
    rw [List.drop_eq_getElem_cons hlt]
    rw [List.getElem?_eq_getElem hlt] at hx
    simp at hx
    rw [hx]
  rw [hdr] at hL
  obtain ⟨⟨hc1, hb1, hb2⟩, ⟨r, hr⟩, hpl⟩ := hLit _ _ _ hL (p, c, b) (by simp)
  simp only at hc1 hb1 hb2 hr hpl
  have hlens := hLlen _ _ _ hL
  obtain ⟨cn, hcn⟩ : ∃ cn : Nat, c = (cn : Int) := ⟨c.toNat, by omega⟩
  obtain ⟨bn, hbn⟩ : ∃ bn : Nat, b = (bn : Int) := ⟨b.toNat, by omega⟩
  subst hcn hbn
  have hbW : bn < W := by omega
  have hpl1 : 1 ≤ p.length := by rw [hr]; simp
  have ixF := fd_ix hx
  have hlast : nAt p (p.length - 1) = (cn : Int) := by rw [hr, List.length_append, List.length_singleton, Nat.add_sub_cancel]; exact nAt_last r _
  have ixl := sI_ix (nAt_get (l := p) (i := p.length - 1) (by omega))
  rw [hlast] at ixl
  have wl : IntKind.i64.wrap ((p.length : Int) - 1) = ((p.length - 1 : Nat) : Int) := by rw [wrap_i64 (by omega) (by omega)]; omega
  refine awp_peel (T := [(4, [(12, false, false, [])]), (16, [(18, false, false, [])])]) e59_ok (by kernel_rfl) (by kernel_rfl) ?_
  simp only [RT, FS, ↓RE, okR, argEnv, Nat.reduceAdd, Nat.reduceSub, Nat.reduceLT, Nat.reduceLeDiff, Nat.reduceEqDiff, reduceIte, RM, ixF]
  refine awp_peel (T := [(4, [(12, false, false, [])]), (16, [(18, false, false, [])])]) e59_ok (by kernel_rfl) (by kernel_rfl) ?_
  by_cases hba : (bn : Int) = allI l
  · have hbq : ((bn : Int) == allI l) = true := by simpa using hba
    simp only [RT, FS, ↓RE, okR, argEnv, Nat.reduceAdd, Nat.reduceSub, Nat.reduceLT, Nat.reduceLeDiff, Nat.reduceEqDiff, reduceIte, RM, hbq]
    rw [hLhit m _ seen (p, (cn : Int), (bn : Int)) (by rw [List.cons_append] at hL; exact hL) hba]
    rfl
  have hbq : ((bn : Int) == allI l) = false := by simpa using hba
  simp only [RT, FS, ↓RE, okR, argEnv, Nat.reduceAdd, Nat.reduceSub, Nat.reduceLT, Nat.reduceLeDiff, Nat.reduceEqDiff, reduceIte, RM, hbq]
  have hS2 := hLst m (now.drop (i + 1)) next seen (p, (cn : Int), (bn : Int)) hL hba
  have hyS := hsall ((cn : Int), (bn : Int)) ⟨by omega, by simp only; omega⟩
  have hysucc := hssucc ((cn : Int), (bn : Int))
  have hy0 := hs0 ((cn : Int), (bn : Int))
  dsimp only at hS2
  rw [← hyS] at hS2
  simp only [Int.toNat_natCast] at hysucc
  generalize ST ((cn : Int), (bn : Int)) = Sy at *
  have hSl : ∀ k, (Sy k).length ≤ k := fun k => by
    induction k with
    | zero => rw [hy0]; simp
    | succ k ih =>
      rw [hysucc, List.length_append]
      split
      · simp; omega
      · simp; omega
  obtain ⟨G, hG⟩ : ∃ G : Nat → List Pr × List It, G = fun k => (Sy k).foldl (addI p) (seen, next) := ⟨_, rfl⟩
  have hG0 : G 0 = (seen, next) := by rw [hG]; simp only [hy0]; rfl
  have hGN : LY (m - 1) (now.drop (i + 1) ++ (G sh.length).2) (G sh.length).1 := by rw [hG]; exact hS2
  have hGl : ∀ k, (G k).2.length ≤ next.length + k := fun k => by
    rw [hG]
    have := add_next_len p (Sy k) seen next
    have := hSl k
    simp only; omega
  have hGs : ∀ k : Nat, (freeB sh (k : Int) && decide (distI w (k : Int) (cn : Int) = 1)) = false → G (k + 1) = G k := fun k h => by
    rw [hG]; simp only [hysucc]; rw [if_neg (by rw [h]; simp), List.append_nil]
  have hGa : ∀ k : Nat, (freeB sh (k : Int) && decide (distI w (k : Int) (cn : Int) = 1)) = true → G (k + 1) = addI p (G k) ((k : Int), (withN l bn (k : Int) : Int)) := fun k h => by
    rw [hG]; simp only [hysucc]; rw [if_pos h, List.foldl_append]; rfl
  have hmp := hLpos _ _ _ hL
  clear hG hysucc hy0 hS2 hyS
  refine awp_peel (T := [(4, [(12, false, false, [])]), (16, [(18, false, false, [])])]) e59_ok (by kernel_rfl) (by kernel_rfl) ?_
  simp only [RT, FS, ↓RE, okR, argEnv, Nat.reduceAdd, Nat.reduceSub, Nat.reduceLT, Nat.reduceLeDiff, Nat.reduceEqDiff, reduceIte, RM]
  refine awp_block (awp_loopH (ι := Nat) (fun k => [(2, inD l), (3, .ptr 0 0), (7, .int .i64 (allI l)), (8, .sl (fdL now)), (9, .osl 1 (sh.length * W)), (10, .osl 2 (G k).2.length), (11, .int .i64 (i : Int)), (12, .ptr 3 0), (13, .int .i64 (k : Int))]) (fun k => [(3, .box [.sl (intL p), .int .i64 (bn : Int)]), (2, .arr 116 2 (fdL (G k).2)), (1, .arr 4 1 (boolL (boolsF (sh.length * W) (snP W (G k).1)))), (0, .box [.int .i64 w, .int .i64 d, shD sh])]) 4
    (fun k => k ≤ sh.length) (fun k => sh.length - k) 0 (Nat.zero_le _) ?_ ?_)
  · rw [hG0]
    simp [headW, heapW, envW, blkLt, D.ltL, D.lt, look, hget, shD, inD]
  intro k hkl
  refine awp_peel (T := [(4, [(12, false, false, [])]), (16, [(18, false, false, [])])]) e59_ok (by kernel_rfl) (by kernel_rfl) ?_
  rcases Nat.lt_or_ge k sh.length with hlk | hgk
  rotate_left
  · have hq := nat_lt_false hgk
    simp only [RT, FS, ↓RE, okR, argEnv, Nat.reduceAdd, Nat.reduceSub, Nat.reduceLT, Nat.reduceLeDiff, Nat.reduceEqDiff, reduceIte, RM, List.length_map, hq, decide_false]
    have hke : k = sh.length := by omega
    subst hke
    exact ⟨(m - 1, (G sh.length).2, (G sh.length).1), ⟨hGN, by simp only; omega⟩, by simp [headW, heapW, envW, blkLt, D.ltL, D.lt, look, hget, shD, inD]⟩
  have hq := nat_lt_true hlk
  simp only [RT, FS, ↓RE, okR, argEnv, Nat.reduceAdd, Nat.reduceSub, Nat.reduceLT, Nat.reduceLeDiff, Nat.reduceEqDiff, reduceIte, RM, List.length_map, hq, decide_true]
  refine awp_seqE (ι := Unit) (nid := 4) (n := 123) (fun _ => [(2, inD l), (3, .ptr 0 0), (7, .int .i64 (allI l)), (8, .sl (fdL now)), (9, .osl 1 (sh.length * W)), (10, .osl 2 (G (k + 1)).2.length), (11, .int .i64 (i : Int)), (12, .ptr 3 0), (13, .int .i64 (k : Int))]) (fun _ => [(3, .box [.sl (intL p), .int .i64 (bn : Int)]), (2, .arr 116 2 (fdL (G (k + 1)).2)), (1, .arr 4 1 (boolL (boolsF (sh.length * W) (snP W (G (k + 1)).1)))), (0, .box [.int .i64 w, .int .i64 d, shD sh])])
    (fun _ => True) ?_ ?_
  rotate_left
  · rintro _ _
    have wi := wrap_i64 (z := (k : Int) + 1) (by omega) (by omega)
    refine awp_rest (T := [(4, [(12, false, false, [])]), (16, [(18, false, false, [])])]) e59_ok (by kernel_rfl) (by kernel_rfl) ?_
    simp only [RT, FS, ↓RE, okR, argEnv, Nat.reduceAdd, Nat.reduceSub, Nat.reduceLT, Nat.reduceLeDiff, Nat.reduceEqDiff, reduceIte, RM, wi]
    exact ⟨k + 1, by omega, by omega, by simp [headW, heapW, envW, blkLt, D.ltL, D.lt, look, hget, shD, inD]⟩
  refine awp_block ?_
  have oFk := oF (k : Int)
  have hkG := hGl k
  refine awp_peel (T := [(4, [(12, false, false, [])]), (16, [(18, false, false, [])])]) e59_ok (by kernel_rfl) (by kernel_rfl) ?_
  cases q1 : freeB sh (k : Int)
  · rw [q1] at oFk
    simp only [RT, FS, ↓RE, okR, argEnv, Nat.reduceAdd, Nat.reduceSub, Nat.reduceLT, Nat.reduceLeDiff, Nat.reduceEqDiff, reduceIte, RM, oFk, Bool.not_false]
    rw [hGs k (by rw [q1]; rfl)]; simp [headW, heapW, envW, blkLt, D.ltL, D.lt, look, hget, shD, inD]
  rw [q1] at oFk
  have oBk := oB (cn : Int) (k : Int) ⟨by omega, by simp only; omega⟩ ⟨by omega, by simp only; omega⟩
  rw [dist_comm] at oBk
  cases q2 : decide (distI w (k : Int) (cn : Int) = 1)
  · rw [q2] at oBk
    simp only [RT, FS, ↓RE, okR, argEnv, Nat.reduceAdd, Nat.reduceSub, Nat.reduceLT, Nat.reduceLeDiff, Nat.reduceEqDiff, reduceIte, RM, oFk, Bool.not_true, Bool.not_false, intL_len, wl, ixl, oBk]
    rw [hGs k (by rw [q1, q2]; rfl)]; simp [headW, heapW, envW, blkLt, D.ltL, D.lt, look, hget, shD, inD]
  rw [q2] at oBk
  simp only [RT, FS, ↓RE, okR, argEnv, Nat.reduceAdd, Nat.reduceSub, Nat.reduceLT, Nat.reduceLeDiff, Nat.reduceEqDiff, reduceIte, RM, oFk, Bool.not_true, intL_len, wl, ixl, oBk]
  have hGa1 := hGa k (by rw [q1, q2]; rfl)
  have oWk := oW bn hbW (k : Int)
  have hzW := withN_lt (l := l) (b := bn) (by rw [hW]; exact hbW) (k : Int)
  rw [hW] at hzW
  generalize withN l bn (k : Int) = bz at *
  refine awp_peel (T := [(4, [(12, false, false, [])]), (16, [(18, false, false, [])])]) e59_ok (by kernel_rfl) (by kernel_rfl) ?_
  simp only [RT, FS, ↓RE, okR, argEnv, Nat.reduceAdd, Nat.reduceSub, Nat.reduceLT, Nat.reduceLeDiff, Nat.reduceEqDiff, reduceIte, RM, oWk]
  have hix2 := hidx k bz hlk hzW
  have wi2 : IntKind.i64.wrap (((k * W : Nat) : Int) + (bz : Int)) = ((k * W + bz : Nat) : Int) := by rw [wrap_i64 (by omega) (by omega)]; omega
  have hsnv : snP W (G k).1 ((k * W + bz : Nat) : Int) = decide (((k : Int), (bz : Int)) ∈ (G k).1) := by
    have := snP_at (W := (W : Int)) (n := (k : Int)) (b := (bz : Int)) ⟨by omega, by omega⟩ (G k).1
    rw [← this]
    congr 1
  have hln := boolsF_len (sh.length * W) (snP W (G k).1)
  have hgt := boolsF_get (snP W (G k).1) hix2
  rw [hsnv] at hgt
  have bx := fun h (hb : hget h 1 = some (.arr 4 1 (boolL (boolsF (sh.length * W) (snP W (G k).1))))) => oB_ix (n := sh.length * W) (i := k * W + bz) hb hln hix2
  have bl := fun h (hb : hget h 1 = some (.arr 4 1 (boolL (boolsF (sh.length * W) (snP W (G k).1))))) => oB_load (n := sh.length * W) (i := k * W + bz) hb hln hgt
  have bs := fun h nid (hb : hget h 1 = some (.arr 4 1 (boolL (boolsF (sh.length * W) (snP W (G k).1))))) => oB_store (n := sh.length * W) (i := k * W + bz) hb hln hix2 nid true
  rw [sn_add (G k).1 hzW] at bs
  refine awp_seq ?_
  refine awp_rest (T := [(4, [(12, false, false, [])]), (16, [(18, false, false, [])])]) e59_ok (by kernel_rfl) (by kernel_rfl) ?_
  by_cases hz : ((k : Int), (bz : Int)) ∈ (G k).1
  · rw [decide_eq_true hz] at bl
    simp only [RT, FS, ↓RE, okR, argEnv, Nat.reduceAdd, Nat.reduceSub, Nat.reduceLT, Nat.reduceLeDiff, Nat.reduceEqDiff, reduceIte, RM, List.length_map, hsh k hlk, wi2, bx, bl, Bool.not_true]
    refine awp_rest (T := [(4, [(12, false, false, [])]), (16, [(18, false, false, [])])]) e59_ok (by kernel_rfl) (by kernel_rfl) ?_
    simp only [RT, FS, ↓RE, okR, argEnv, Nat.reduceAdd, Nat.reduceSub, Nat.reduceLT, Nat.reduceLeDiff, Nat.reduceEqDiff, reduceIte, RM]
    rw [hGa1, show addI p (G k) ((k : Int), (bz : Int)) = G k by simp [addI, hz]]
    simp [headW, heapW, envW, blkLt, D.ltL, D.lt, look, hget, shD, inD]
  rw [decide_eq_false hz] at bl
  simp only [RT, FS, ↓RE, okR, argEnv, Nat.reduceAdd, Nat.reduceSub, Nat.reduceLT, Nat.reduceLeDiff, Nat.reduceEqDiff, reduceIte, RM, List.length_map, hsh k hlk, wi2, bx, bl, Bool.not_false]
  refine awp_cond (t := true) rfl (fun _ => ?_) (fun h => by cases h)
  refine awp_seq ?_
  refine awp_rest (T := [(4, [(12, false, false, [])]), (16, [(18, false, false, [])])]) e59_ok (by kernel_rfl) (by kernel_rfl) ?_
  simp only [RT, FS, ↓RE, okR, argEnv, Nat.reduceAdd, Nat.reduceSub, Nat.reduceLT, Nat.reduceLeDiff, Nat.reduceEqDiff, reduceIte, RM, List.length_map, hsh k hlk, wi2, bx, bs]
  refine awp_headW [(2, inD l), (3, .ptr 0 0), (7, .int .i64 (allI l)), (8, .sl (fdL now)), (9, .osl 1 (sh.length * W)), (10, .osl 2 (G k).2.length), (11, .int .i64 (i : Int)), (12, .ptr 3 0), (13, .int .i64 (k : Int)), (14, .int .i64 (bz : Int))] [(3, .box [.sl (intL p), .int .i64 (bn : Int)]), (2, .arr 116 2 (fdL (G k).2)), (1, .arr 4 1 (boolL (boolsF (sh.length * W) (snP W ((G k).1 ++ [((k : Int), (bz : Int))]))))), (0, .box [.int .i64 w, .int .i64 d, shD sh])] 4 123 (by simp [headW, heapW, envW, blkLt, D.ltL, D.lt, look, hget, Sx.hset, shD, inD]) ?_
  have hnx : next.length ≤ 80000 := by have := hlens.2; simp only [List.length_append, List.length_cons] at this; omega
  have mkA := fun h nid => int_nils p h nid (by omega)
  have apA := fun h nid (hb : hget h 4 = some (.arr 3 1 (intL p))) (hb2 : hget h 5 = some (.arr 3 1 [[.int .i64 (k : Int)]])) => oI_app (n := p.length) (n2 := 1) (r := [(k : Int)]) hb rfl hb2 rfl nid (by simp; omega)
  obtain ⟨pk, hpk⟩ : ∃ pk, pk = p ++ [(k : Int)] := ⟨_, rfl⟩
  have hpkl : pk.length = p.length + 1 := by rw [hpk]; simp
  rw [← hpk] at apA
  have fl := fun h nid => fd_lit h nid pk (k : Int) (bz : Int)
  obtain ⟨Q1, hQ1⟩ : ∃ Q, Q = [(pk, ((k : Int), (bz : Int)))] := ⟨_, rfl⟩
  have hQ1l : Q1.length = 1 := by rw [hQ1]; rfl
  rw [← hQ1] at fl
  have apF := fun h nid (hb : hget h 2 = some (.arr 116 2 (fdL (G k).2))) (hb2 : hget h 4 = some (.arr 116 2 (fdL Q1))) => fd_app (n := (G k).2.length) (n2 := 1) hb rfl hb2 hQ1l nid (by omega)
  refine awp_region (aops_mid e59_ok 7 (by decide) ?_)
  simp only [RT, FS, ↓RE, okR, argEnv, Nat.reduceAdd, Nat.reduceSub, Nat.reduceLT, Nat.reduceLeDiff, Nat.reduceEqDiff, reduceIte, RM, List.take_succ_cons, List.take_zero, mkA, lit_1, apA]
  refine ⟨⟨[(2, inD l), (3, .ptr 0 0), (7, .int .i64 (allI l)), (8, .sl (fdL now)), (9, .osl 1 (sh.length * W)), (10, .osl 2 (G k).2.length), (11, .int .i64 (i : Int)), (12, .ptr 3 0), (13, .int .i64 (k : Int)), (14, .int .i64 (bz : Int)), (111, .osl 2 (G k).2.length), (117, .sl (intL pk))], [(3, .box [.sl (intL p), .int .i64 (bn : Int)]), (2, .arr 116 2 (fdL (G k).2)), (1, .arr 4 1 (boolL (boolsF (sh.length * W) (snP W ((G k).1 ++ [((k : Int), (bz : Int))]))))), (0, .box [.int .i64 w, .int .i64 d, shD sh])], 4, 123⟩, imp_thaw 4 (.weak (weak_of ?_)), ?_⟩
  · simp [headW, heapW, envW, blkLt, D.ltL, D.lt, look, hget, frzHH, herase, frzBlk, fz_int, fz_ref, fz_ptr, fz_bool, fz_sl, fz_nils, fz_osl, fzC_some, fzC_arr, fzP_some, intL_len, hpkl, shD, inD]
  simp only [RT, FS, ↓RE, okR, argEnv, Nat.reduceAdd, Nat.reduceSub, Nat.reduceLT, Nat.reduceLeDiff, Nat.reduceEqDiff, reduceIte, RM, List.drop_succ_cons, List.drop_zero, fl, apF]
  rw [hGa1, show addI p (G k) ((k : Int), (bz : Int)) = ((G k).1 ++ [((k : Int), (bz : Int))], (G k).2 ++ [(p ++ [(k : Int)], ((k : Int), (bz : Int)))]) by simp [addI, hz], ← hpk, ← hQ1]
  simp [headW, heapW, envW, blkLt, D.ltL, D.lt, look, hget, shD, inD, hQ1l]
end Go.Sx
