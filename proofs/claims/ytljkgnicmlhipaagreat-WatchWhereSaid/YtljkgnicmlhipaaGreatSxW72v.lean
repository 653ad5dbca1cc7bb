/- Own work: contracts of functions, used in the proof of a law. -/
import Derived.Test.YtljkgnicmlhipaaGreatSxW71v
set_option linter.unusedVariables false
set_option linter.unusedSimpArgs false
namespace Go.Sx
open Go.Proofs
set_option maxRecDepth 10000

noncomputable def gSil : List D → Option D := orcF (fun p : WatchW × List MsgW × Int × Int × Int => SilOk p.1 p.2.1 p.2.2.1 p.2.2.2.1) (fun p => [.agg p.1.c, msD p.2.1, .int .i64 p.2.2.1, .int .i64 p.2.2.2.1, .int .i64 p.2.2.2.2]) (fun p => .bool (silX p.1 p.2.1 p.2.2.2.2 p.2.2.2.1 p.2.2.1))
theorem gSil_eq {w : WatchW} {kn : List MsgW} {c t : Int} (h : SilOk w kn c t) (now : Int) : gSil [.agg w.c, msD kn, .int .i64 c, .int .i64 t, .int .i64 now] = some (.bool (silX w kn now t c)) :=
 orcF_eq (ok := fun p : WatchW × List MsgW × Int × Int × Int => SilOk p.1 p.2.1 p.2.2.1 p.2.2.2.1) (dsf := fun p => [.agg p.1.c, msD p.2.1, .int .i64 p.2.2.1, .int .i64 p.2.2.2.1, .int .i64 p.2.2.2.2]) (rf := fun p => .bool (silX p.1 p.2.1 p.2.2.2.2 p.2.2.2.1 p.2.2.1)) (w, kn, c, t, now) h fun q hq => by
  simp only [List.cons.injEq, D.agg.injEq, D.int.injEq, and_true, true_and] at hq
  rw [WatchW.c_inj hq.1, En.map_inj (E := enMs) hq.2.1, hq.2.2.1, hq.2.2.2.1, hq.2.2.2.2]
noncomputable def gSnd : List D → Option D := orcF (fun p : WatchW × Int => WatchOk p.1 ∧ (-5000 ≤ p.2 ∧ p.2 ≤ 5000)) (fun p => [.agg p.1.c, .int .i64 p.2]) (fun p => .bool (sendsB p.1 p.2))
theorem gSnd_eq {w : WatchW} (h : WatchOk w) {t : Int} (ht : -5000 ≤ t ∧ t ≤ 5000) : gSnd [.agg w.c, .int .i64 t] = some (.bool (sendsB w t)) :=
 orcF_eq (ok := fun p : WatchW × Int => WatchOk p.1 ∧ (-5000 ≤ p.2 ∧ p.2 ≤ 5000)) (dsf := fun p => [.agg p.1.c, .int .i64 p.2]) (rf := fun p => .bool (sendsB p.1 p.2)) (w, t) ⟨h, ht⟩ fun q hq => by
  simp only [List.cons.injEq, D.agg.injEq, D.int.injEq, and_true, true_and] at hq
  rw [WatchW.c_inj hq.1, hq.2]
noncomputable abbrev e72 : List (FuncId × (List D → Option D)) := (35, gSil) :: (34, gSnd) :: []
theorem e72_ok : OkO Tryz.prog (mkO e72) := mkO_ok (orcF_ok fun p h => r_Silent_t h p.2.2.2.2) <| mkO_ok (orcF_ok fun p h => r_Sends_t h.1 p.2 h.2) <| fun _ _ _ h => by cases h
def preF (w : WatchW) (kn : List MsgW) (now : Int) : Nat → (Int → Bool) × (Int → Bool)
 | 0 => (oneF w.cell, fun _ => false)
 | n + 1 => plF w kn now n
def movF (w : WatchW) (n : Nat) (p : (Int → Bool) × (Int → Bool)) : (Int → Bool) × (Int → Bool) := if n = 0 then p else (aF w.s p.1, fun c => p.2 c || p.1 c)
def deadF (w : WatchW) (kn : List MsgW) (now : Int) (n : Nat) (c : Int) : Bool := decide (w.endu < (n : Int)) || (sendsB w (w.min + n) && silX w kn now (w.min + n) c)
theorem said_all (kn : List MsgW) (t c : Int) (d : Bool) : saidB kn t c d = kn.all fun m => !(sayB t c d m) := by
 unfold saidB
 rw [List.not_any_eq_all_not]
theorem pl_steps {w : WatchW} (hw : WatchOk w) (kn : List MsgW) (now : Int) (n : Nat) :
  (∀ c, (plF w kn now n).1 c = (((movF w n (preF w kn now n)).1 c && !(deadF w kn now n c)) && kn.all fun m => !(sayB (w.min + n) c false m))) ∧
  ∀ c, (plF w kn now n).2 c = ((movF w n (preF w kn now n)).2 c && kn.all fun m => !(sayB (w.min + n) c true m)) := by
 cases n with
 | zero =>
  refine ⟨fun c => ?_, fun c => ?_⟩
  ·rw [← said_all]
   have h1 : deadF w kn now 0 c = false := by
    have hu := hw.u
    have hs : sendsB w w.min = false := by simp [sendsB]
    have e : w.min + ((0 : Nat) : Int) = w.min := by simp
    unfold deadF
    rw [e, hs]
    simp; omega
   rw [h1]
   simp [plF, movF, preF, oneF]
  ·simp [plF, movF, preF]
 | succ n =>
  have e : w.min + ((n + 1 : Nat) : Int) = w.min + ((n : Int) + 1) := by omega
  have e2 : ((n + 1 : Nat) : Int) = (n : Int) + 1 := by omega
  refine ⟨fun c => ?_, fun c => ?_⟩
  ·rw [← said_all]
   simp only [plF, movF, preF, deadF, sil_eq, if_neg (Nat.succ_ne_zero n), e, e2]
   cases aF w.s (plF w kn now n).1 c <;> cases decide (w.endu < (n : Int) + 1) <;> cases saidB kn (w.min + ((n : Int) + 1)) c false <;> cases (sendsB w (w.min + ((n : Int) + 1)) && silX w kn now (w.min + ((n : Int) + 1)) c) <;> rfl
  ·rw [← said_all]
   simp only [plF, movF, preF, if_neg (Nat.succ_ne_zero n), e]
   rw [Bool.or_comm (x := (plF w kn now n).1 c)]
theorem pl_free {w : WatchW} (hw : WatchOk w) (kn : List MsgW) (now : Int) : ∀ n, FreeP w.s (plF w kn now n).1
 | 0, c, h => by
  simp only [plF, Bool.and_eq_true, decide_eq_true_eq] at h
  rw [h.1]; exact hw.c
 | n + 1, c, h => by
  simp only [plF, Bool.and_eq_true] at h
  exact FreeP.aF hw.s (pl_free hw kn now n) c h.1.1.2
theorem pre_free {w : WatchW} (hw : WatchOk w) (kn : List MsgW) (now : Int) : ∀ n, FreeP w.s (preF w kn now n).1
 | 0 => one_free hw.c
 | n + 1 => pl_free hw kn now n
theorem mov_free {w : WatchW} (hw : WatchOk w) (kn : List MsgW) (now : Int) (n : Nat) : FreeP w.s (movF w n (preF w kn now n)).1 := by
 unfold movF
 split
 ·exact pre_free hw kn now n
 ·exact FreeP.aF hw.s (pre_free hw kn now n)
theorem around_callA {s : SkyW} (hs : SkyOk s) (p : Int → Bool) {h : H} {nid : Nat} {y : D} (hy : view h y = shD (boolsF s.sh.length p)) :
  ACall Tryz.prog 33 [.agg s.c, y] h nid fun r h' nid' => r = .osl nid s.sh.length ∧ h' = (nid, .arr 4 1 (boolL (boolsF s.sh.length (arF s p)))) :: h ∧ nid' = nid + 1 := by
 have hv : ([.agg s.c, y] : List D).map (view h) = [.agg s.c, shD (boolsF s.sh.length p)] := by
  obtain ⟨w, d, sh⟩ := s
  simp [SkyW.c, view, viewL, hy]
 refine (acall_borrowA (es := boolL (boolsF s.sh.length (arF s p))) (by rw [hv]; exact r_aroundA_t hs p) fun e he d hd => ?_).mono ?_
 ·obtain ⟨b, _, rfl⟩ := List.mem_map.1 he
  simp [enB] at hd; subst hd; rfl
 ·rintro r h' n' ⟨h1, h2, h3⟩
  rw [boolL_len, boolsF_len] at h1
  exact ⟨h1, h2, h3⟩
set_option maxHeartbeats 8000000 in
theorem r_Where_t {w : WatchW} {l : List MsgW} {now : Int} (ho : AskOk w l now) : Pure Tryz.prog 11 [.agg w.c, msD l, .int .i64 now]
  (.tup [.sl (intL (cellsF w.s.sh.length (plF w (knownL l now) now (now - w.min).toNat).1)), .sl (intL (cellsF w.s.sh.length (plF w (knownL l now) now (now - w.min).toNat).2))]) := by
 have hwo := ho.ok
 have hs := hwo.s
 have hle := hs.le
 have hmi := hwo.m
 have hbo := ho.b
 have hcell := free_ins (s := w.s) hwo.c
 have hu := hwo.u
 have hln := ho.n
 have pK := r_Known_t l (by omega) now
 have hknl : (knownL l now).length ≤ 60 := Nat.le_trans (List.length_filter_le _ _) ho.n
 have hst := pl_steps hwo (knownL l now) now
 have hfr := mov_free hwo (knownL l now) now
 have hpfr := pre_free hwo (knownL l now) now
 have haF := fun n => aF_arF hs (hpfr n)
 generalize knownL l now = kn at *
 have pA := fun p h nid y hy => around_callA hs p (h := h) (nid := nid) (y := y) hy
 have pC := fun p => r_Cells_t (boolsF w.s.sh.length p) (by rw [boolsF_len]; omega)
 simp only [boolsF_len, cellsN_bools] at pC
 have oSil := fun c t (h1 : InS w.s c) (h2 : 0 ≤ t ∧ t ≤ 1440) => gSil_eq (w := w) (kn := kn) ⟨hwo, by omega, h1, h2⟩ now
 have oSnd := fun t (h : -5000 ≤ t ∧ t ≤ 5000) => gSnd_eq hwo h
 obtain ⟨PL, hPL⟩ : ∃ PL, PL = plF w kn now := ⟨_, rfl⟩
 obtain ⟨PR, hPR⟩ : ∃ PR, PR = preF w kn now := ⟨_, rfl⟩
 obtain ⟨MV, hMV⟩ : ∃ MV, MV = fun n => movF w n (preF w kn now n) := ⟨_, rfl⟩
 have hMV0 : MV 0 = PR 0 := by rw [hMV, hPR]; rfl
 have hMVS : ∀ n, MV (n + 1) = (arF w.s (PR (n + 1)).1, fun c => (PR (n + 1)).2 c || (PR (n + 1)).1 c) := fun n => by
  rw [hMV, hPR]
  simp only [movF, if_neg (Nat.succ_ne_zero n)]
  rw [haF]
 have hPR0 : PR 0 = (oneF w.cell, fun _ => false) := by rw [hPR]; rfl
 have hPRS : ∀ n, PR (n + 1) = PL n := fun n => by rw [hPR, hPL]; rfl
 simp only [← hPL] at hst
 have hMVe : ∀ n, movF w n (preF w kn now n) = MV n := fun n => by rw [hMV]
 simp only [hMVe] at hst hfr
 rw [← hPL]
 clear hPL hPR hMV hMVe haF hpfr
 have hfi : ∀ n c, (MV n).1 c = true → InS w.s c := fun n c h => free_ins (hfr n c h)
 clear hfr
 have hdd : ∀ n c, deadF w kn now n c = (decide (w.endu < (n : Int)) || (sendsB w (w.min + n) && silX w kn now (w.min + n) c)) := fun n c => rfl
 generalize deadF w kn now = DF at *
 generalize sendsB w = SB at *
 generalize silX w kn now = SX at *
 clear ho hwo
 obtain ⟨⟨sw, sd, sh⟩, ⟨rl, lk⟩, cell, mi, ev, en, af⟩ := w
 dsimp only at hs hle hmi hbo hcell hu pA pC hst hMVS hPR0 hfi hdd oSil ⊢
 simp only [WatchW.c, SkyW.c, NetW.c, List.cons_append, List.nil_append] at pA oSil oSnd ⊢
 obtain ⟨N, hN⟩ : ∃ N : Nat, now = mi + N := ⟨(now - mi).toNat, by omega⟩
 have hNt : (now - mi).toNat = N := by omega
 rw [hNt]
 have mk := fun h nid => make_b h nid sh.length (by omega)
 obtain ⟨cn, hcn⟩ : ∃ cn : Nat, cell = (cn : Int) := ⟨cell.toNat, by have h : 0 ≤ cell := hcell.1; omega⟩
 have hcnl : cn < sh.length := by have h : cell < (sh.length : Int) := hcell.2; omega
 have hrep : List.replicate sh.length false = boolsF sh.length fun _ => false := boolsF_ext (by simp) fun i hi => by simp [hi]
 have hbl := fun p => boolsF_len sh.length p
 have bx := fun p b i (hi : i < sh.length) h (hb : hget h b = some (.arr 4 1 (boolL (boolsF sh.length p)))) => oB_ix (n := sh.length) (i := i) hb (hbl p) hi
 have bl := fun p b i (hi : i < sh.length) h (hb : hget h b = some (.arr 4 1 (boolL (boolsF sh.length p)))) => oB_load (n := sh.length) (i := i) hb (hbl p) (boolsF_get p hi)
 have bs := fun p b i (hi : i < sh.length) y h nid (hb : hget h b = some (.arr 4 1 (boolL (boolsF sh.length p)))) => oB_store (n := sh.length) (i := i) hb (hbl p) hi nid y
 have bn := fun p b h (hb : hget h b = some (.arr 4 1 (boolL (boolsF sh.length p)))) => oB_len (n := sh.length) hb (hbl p)
 simp only [boolsF_set] at bs
 have h1f : (fun c : Int => if c = (cn : Int) then true else (fun _ : Int => false) c) = oneF cell := funext fun c => by rw [hcn]; unfold oneF; by_cases e : c = (cn : Int) <;> simp [e]
 refine pure_of_pieces (rs := [.tmp 6, .tmp 7]) (m := 164) [(2, [(12, false, false, [])])] e72_ok (by kernel_rfl) Tryz.func11 rfl (by kernel_rfl) rfl rfl (by kernel_rfl) ?_
 refine awp_peel (T := [(2, [(12, false, false, [])])]) e72_ok (by kernel_rfl) (by kernel_rfl) ?_
 simp only [RT, FS, ↓RE, okR, argEnv, Nat.reduceAdd, Nat.reduceSub, Nat.reduceLT, Nat.reduceLeDiff, Nat.reduceEqDiff, reduceIte, RM]
 refine awp_peel (T := [(2, [(12, false, false, [])])]) e72_ok (by kernel_rfl) (by kernel_rfl) ?_
 simp only [RT, FS, ↓RE, okR, argEnv, Nat.reduceAdd, Nat.reduceSub, Nat.reduceLT, Nat.reduceLeDiff, Nat.reduceEqDiff, reduceIte, RM]
 refine call_of_pure' pK (by simp [D.ltL, D.lt]) (by simp [D.ltL, D.lt]) ?_
 simp only [RT, FS, ↓RE, okR, argEnv, Nat.reduceAdd, Nat.reduceSub, Nat.reduceLT, Nat.reduceLeDiff, Nat.reduceEqDiff, reduceIte, RM]
 have mk2 := mk
 simp only [hrep] at mk2
 refine awp_cutA [(2, .int .i64 now), (3, .ptr 0 0), (8, msD kn), (9, .osl 1 sh.length), (10, .osl 2 sh.length)] [(2, .arr 4 1 (boolL (boolsF sh.length (fun _ => false)))), (1, .arr 4 1 (boolL (boolsF sh.length (fun _ => false)))), (0, .box [.int .i64 sw, .int .i64 sd, shD sh, rlD rl, lkD lk, .int .i64 cell, .int .i64 mi, .int .i64 ev, .int .i64 en, inD af])] 3 164 ?_ ?_
 ·refine (awp_slots (σ := Nat) e72_ok (by kernel_rfl) (fun m L => (m = 0 ∧ ¬ L 4 ∧ ¬ L 9) ∨ (m = 1 ∧ L 4 ∧ ¬ L 9) ∨ (m = 2 ∧ ¬ L 4 ∧ L 9) ∨ (m = 3 ∧ L 4 ∧ L 9) ∨ (m = 4 ∧ L 4 ∧ L 9))
   (fun m => match m with | 0 => [(0, .box [.int .i64 sw, .int .i64 sd, shD sh, rlD rl, lkD lk, .int .i64 cell, .int .i64 mi, .int .i64 ev, .int .i64 en, inD af])] | 1 => [(1, .arr 4 1 (boolL (boolsF sh.length (fun _ => false)))), (0, .box [.int .i64 sw, .int .i64 sd, shD sh, rlD rl, lkD lk, .int .i64 cell, .int .i64 mi, .int .i64 ev, .int .i64 en, inD af])] | 2 => [(1, .arr 4 1 (boolL (boolsF sh.length (fun _ => false)))), (0, .box [.int .i64 sw, .int .i64 sd, shD sh, rlD rl, lkD lk, .int .i64 cell, .int .i64 mi, .int .i64 ev, .int .i64 en, inD af])] | _ => [(2, .arr 4 1 (boolL (boolsF sh.length (fun _ => false)))), (1, .arr 4 1 (boolL (boolsF sh.length (fun _ => false)))), (0, .box [.int .i64 sw, .int .i64 sd, shD sh, rlD rl, lkD lk, .int .i64 cell, .int .i64 mi, .int .i64 ev, .int .i64 en, inD af])])
   (fun m => match m with | 0 => 1 | 1 => 2 | 2 => 2 | _ => 3)
   (fun m i => match i with | 0 | 5 => .ptr 0 0 | 1 | 6 => .ptr 0 2 | 2 | 7 => shD sh | 3 | 8 => .int .i64 (sh.length : Int) | 4 | 10 => (match m with | 4 => .osl 2 sh.length | _ => .osl 1 sh.length) | 9 | 11 => (match m with | 3 => .osl 2 sh.length | _ => .osl 1 sh.length) | _ => .any) 0
   (by kernel_rfl) (by kernel_rfl) rfl rfl (.inl ⟨rfl, id, id⟩) ?_ ?_)
  ·intro m L i o e hok hcl hoo hnr hr hsl
   have hi : i < 12 := lt_of_arr hoo
   obtain rfl | rfl | rfl | rfl | rfl | rfl | rfl | rfl | rfl | rfl | rfl | rfl : i = 0 ∨ i = 1 ∨ i = 2 ∨ i = 3 ∨ i = 4 ∨ i = 5 ∨ i = 6 ∨ i = 7 ∨ i = 8 ∨ i = 9 ∨ i = 10 ∨ i = 11 := by omega
   ·simp only [List.getElem?_toArray, List.getElem?_cons_succ, List.getElem?_cons_zero, Option.some.injEq] at hoo
    subst hoo
    have k3 := hsl.base 3 rfl
    refine ⟨rfl, ?_⟩
    rcases hok with ⟨rfl, h4, h9⟩ | ⟨rfl, h4, h9⟩ | ⟨rfl, h4, h9⟩ | ⟨rfl, h4, h9⟩ | ⟨rfl, h4, h9⟩
    ·simp only [RT, FS, ↓RE, okR, argEnv, Nat.reduceAdd, Nat.reduceSub, Nat.reduceLT, Nat.reduceLeDiff, Nat.reduceEqDiff, reduceIte, RM, List.length_map, mk2, k3]
     exact ⟨0, by simp [h4, h9], by simp⟩
    ·simp only [RT, FS, ↓RE, okR, argEnv, Nat.reduceAdd, Nat.reduceSub, Nat.reduceLT, Nat.reduceLeDiff, Nat.reduceEqDiff, reduceIte, RM, List.length_map, mk2, k3]
     exact ⟨1, by simp [h4, h9], by simp⟩
    ·simp only [RT, FS, ↓RE, okR, argEnv, Nat.reduceAdd, Nat.reduceSub, Nat.reduceLT, Nat.reduceLeDiff, Nat.reduceEqDiff, reduceIte, RM, List.length_map, mk2, k3]
     exact ⟨2, by simp [h4, h9], by simp⟩
    ·simp only [RT, FS, ↓RE, okR, argEnv, Nat.reduceAdd, Nat.reduceSub, Nat.reduceLT, Nat.reduceLeDiff, Nat.reduceEqDiff, reduceIte, RM, List.length_map, mk2, k3]
     exact ⟨3, by simp [h4, h9], by simp⟩
    ·simp only [RT, FS, ↓RE, okR, argEnv, Nat.reduceAdd, Nat.reduceSub, Nat.reduceLT, Nat.reduceLeDiff, Nat.reduceEqDiff, reduceIte, RM, List.length_map, mk2, k3]
     exact ⟨4, by simp [h4, h9], by simp⟩
   ·simp only [List.getElem?_toArray, List.getElem?_cons_succ, List.getElem?_cons_zero, Option.some.injEq] at hoo
    subst hoo
    have k20 := hsl.new 0 _ 20 rfl (hr 0 (by decide)) rfl
    refine ⟨rfl, ?_⟩
    rcases hok with ⟨rfl, h4, h9⟩ | ⟨rfl, h4, h9⟩ | ⟨rfl, h4, h9⟩ | ⟨rfl, h4, h9⟩ | ⟨rfl, h4, h9⟩
    ·simp only [RT, FS, ↓RE, okR, argEnv, Nat.reduceAdd, Nat.reduceSub, Nat.reduceLT, Nat.reduceLeDiff, Nat.reduceEqDiff, reduceIte, RM, List.length_map, mk2, k20]
     exact ⟨0, by simp [h4, h9], by simp⟩
    ·simp only [RT, FS, ↓RE, okR, argEnv, Nat.reduceAdd, Nat.reduceSub, Nat.reduceLT, Nat.reduceLeDiff, Nat.reduceEqDiff, reduceIte, RM, List.length_map, mk2, k20]
     exact ⟨1, by simp [h4, h9], by simp⟩
    ·simp only [RT, FS, ↓RE, okR, argEnv, Nat.reduceAdd, Nat.reduceSub, Nat.reduceLT, Nat.reduceLeDiff, Nat.reduceEqDiff, reduceIte, RM, List.length_map, mk2, k20]
     exact ⟨2, by simp [h4, h9], by simp⟩
    ·simp only [RT, FS, ↓RE, okR, argEnv, Nat.reduceAdd, Nat.reduceSub, Nat.reduceLT, Nat.reduceLeDiff, Nat.reduceEqDiff, reduceIte, RM, List.length_map, mk2, k20]
     exact ⟨3, by simp [h4, h9], by simp⟩
    ·simp only [RT, FS, ↓RE, okR, argEnv, Nat.reduceAdd, Nat.reduceSub, Nat.reduceLT, Nat.reduceLeDiff, Nat.reduceEqDiff, reduceIte, RM, List.length_map, mk2, k20]
     exact ⟨4, by simp [h4, h9], by simp⟩
   ·simp only [List.getElem?_toArray, List.getElem?_cons_succ, List.getElem?_cons_zero, Option.some.injEq] at hoo
    subst hoo
    have k21 := hsl.new 1 _ 21 rfl (hr 1 (by decide)) rfl
    refine ⟨rfl, ?_⟩
    rcases hok with ⟨rfl, h4, h9⟩ | ⟨rfl, h4, h9⟩ | ⟨rfl, h4, h9⟩ | ⟨rfl, h4, h9⟩ | ⟨rfl, h4, h9⟩
    ·simp only [RT, FS, ↓RE, okR, argEnv, Nat.reduceAdd, Nat.reduceSub, Nat.reduceLT, Nat.reduceLeDiff, Nat.reduceEqDiff, reduceIte, RM, List.length_map, mk2, k21]
     exact ⟨0, by simp [h4, h9], by simp⟩
    ·simp only [RT, FS, ↓RE, okR, argEnv, Nat.reduceAdd, Nat.reduceSub, Nat.reduceLT, Nat.reduceLeDiff, Nat.reduceEqDiff, reduceIte, RM, List.length_map, mk2, k21]
     exact ⟨1, by simp [h4, h9], by simp⟩
    ·simp only [RT, FS, ↓RE, okR, argEnv, Nat.reduceAdd, Nat.reduceSub, Nat.reduceLT, Nat.reduceLeDiff, Nat.reduceEqDiff, reduceIte, RM, List.length_map, mk2, k21]
     exact ⟨2, by simp [h4, h9], by simp⟩
    ·simp only [RT, FS, ↓RE, okR, argEnv, Nat.reduceAdd, Nat.reduceSub, Nat.reduceLT, Nat.reduceLeDiff, Nat.reduceEqDiff, reduceIte, RM, List.length_map, mk2, k21]
     exact ⟨3, by simp [h4, h9], by simp⟩
    ·simp only [RT, FS, ↓RE, okR, argEnv, Nat.reduceAdd, Nat.reduceSub, Nat.reduceLT, Nat.reduceLeDiff, Nat.reduceEqDiff, reduceIte, RM, List.length_map, mk2, k21]
     exact ⟨4, by simp [h4, h9], by simp⟩
   ·simp only [List.getElem?_toArray, List.getElem?_cons_succ, List.getElem?_cons_zero, Option.some.injEq] at hoo
    subst hoo
    have k22 := hsl.new 2 _ 22 rfl (hr 2 (by decide)) rfl
    refine ⟨rfl, ?_⟩
    rcases hok with ⟨rfl, h4, h9⟩ | ⟨rfl, h4, h9⟩ | ⟨rfl, h4, h9⟩ | ⟨rfl, h4, h9⟩ | ⟨rfl, h4, h9⟩
    ·simp only [RT, FS, ↓RE, okR, argEnv, Nat.reduceAdd, Nat.reduceSub, Nat.reduceLT, Nat.reduceLeDiff, Nat.reduceEqDiff, reduceIte, RM, List.length_map, mk2, k22]
     exact ⟨0, by simp [h4, h9], by simp⟩
    ·simp only [RT, FS, ↓RE, okR, argEnv, Nat.reduceAdd, Nat.reduceSub, Nat.reduceLT, Nat.reduceLeDiff, Nat.reduceEqDiff, reduceIte, RM, List.length_map, mk2, k22]
     exact ⟨1, by simp [h4, h9], by simp⟩
    ·simp only [RT, FS, ↓RE, okR, argEnv, Nat.reduceAdd, Nat.reduceSub, Nat.reduceLT, Nat.reduceLeDiff, Nat.reduceEqDiff, reduceIte, RM, List.length_map, mk2, k22]
     exact ⟨2, by simp [h4, h9], by simp⟩
    ·simp only [RT, FS, ↓RE, okR, argEnv, Nat.reduceAdd, Nat.reduceSub, Nat.reduceLT, Nat.reduceLeDiff, Nat.reduceEqDiff, reduceIte, RM, List.length_map, mk2, k22]
     exact ⟨3, by simp [h4, h9], by simp⟩
    ·simp only [RT, FS, ↓RE, okR, argEnv, Nat.reduceAdd, Nat.reduceSub, Nat.reduceLT, Nat.reduceLeDiff, Nat.reduceEqDiff, reduceIte, RM, List.length_map, mk2, k22]
     exact ⟨4, by simp [h4, h9], by simp⟩
   ·simp only [List.getElem?_toArray, List.getElem?_cons_succ, List.getElem?_cons_zero, Option.some.injEq] at hoo
    subst hoo
    have k23 := hsl.new 3 _ 23 rfl (hr 3 (by decide)) rfl
    refine ⟨rfl, ?_⟩
    rcases hok with ⟨rfl, h4, h9⟩ | ⟨rfl, h4, h9⟩ | ⟨rfl, h4, h9⟩ | ⟨rfl, h4, h9⟩ | ⟨rfl, h4, h9⟩
    ·simp only [RT, FS, ↓RE, okR, argEnv, Nat.reduceAdd, Nat.reduceSub, Nat.reduceLT, Nat.reduceLeDiff, Nat.reduceEqDiff, reduceIte, RM, List.length_map, mk2, k23]
     exact ⟨1, by simp [h4, h9], by simp⟩
    ·exact absurd h4 hnr
    ·simp only [RT, FS, ↓RE, okR, argEnv, Nat.reduceAdd, Nat.reduceSub, Nat.reduceLT, Nat.reduceLeDiff, Nat.reduceEqDiff, reduceIte, RM, List.length_map, mk2, k23]
     exact ⟨4, by simp [h4, h9], fun j hj => match j, hj with | 0, _ => rfl | 1, _ => rfl | 2, _ => rfl | 3, _ => rfl | 4, h => absurd h h4 | 5, _ => rfl | 6, _ => rfl | 7, _ => rfl | 8, _ => rfl | 9, _ => rfl | 10, h => absurd (hcl 10 4 h (by decide)) h4 | 11, _ => rfl | n + 12, _ => rfl, by simp⟩
    ·exact absurd h4 hnr
    ·exact absurd h4 hnr
   ·simp only [List.getElem?_toArray, List.getElem?_cons_succ, List.getElem?_cons_zero, Option.some.injEq] at hoo
    subst hoo
    have k3 := hsl.base 3 rfl
    refine ⟨rfl, ?_⟩
    rcases hok with ⟨rfl, h4, h9⟩ | ⟨rfl, h4, h9⟩ | ⟨rfl, h4, h9⟩ | ⟨rfl, h4, h9⟩ | ⟨rfl, h4, h9⟩
    ·simp only [RT, FS, ↓RE, okR, argEnv, Nat.reduceAdd, Nat.reduceSub, Nat.reduceLT, Nat.reduceLeDiff, Nat.reduceEqDiff, reduceIte, RM, List.length_map, mk2, k3]
     exact ⟨0, by simp [h4, h9], by simp⟩
    ·simp only [RT, FS, ↓RE, okR, argEnv, Nat.reduceAdd, Nat.reduceSub, Nat.reduceLT, Nat.reduceLeDiff, Nat.reduceEqDiff, reduceIte, RM, List.length_map, mk2, k3]
     exact ⟨1, by simp [h4, h9], by simp⟩
    ·simp only [RT, FS, ↓RE, okR, argEnv, Nat.reduceAdd, Nat.reduceSub, Nat.reduceLT, Nat.reduceLeDiff, Nat.reduceEqDiff, reduceIte, RM, List.length_map, mk2, k3]
     exact ⟨2, by simp [h4, h9], by simp⟩
    ·simp only [RT, FS, ↓RE, okR, argEnv, Nat.reduceAdd, Nat.reduceSub, Nat.reduceLT, Nat.reduceLeDiff, Nat.reduceEqDiff, reduceIte, RM, List.length_map, mk2, k3]
     exact ⟨3, by simp [h4, h9], by simp⟩
    ·simp only [RT, FS, ↓RE, okR, argEnv, Nat.reduceAdd, Nat.reduceSub, Nat.reduceLT, Nat.reduceLeDiff, Nat.reduceEqDiff, reduceIte, RM, List.length_map, mk2, k3]
     exact ⟨4, by simp [h4, h9], by simp⟩
   ·simp only [List.getElem?_toArray, List.getElem?_cons_succ, List.getElem?_cons_zero, Option.some.injEq] at hoo
    subst hoo
    have k25 := hsl.new 5 _ 25 rfl (hr 5 (by decide)) rfl
    refine ⟨rfl, ?_⟩
    rcases hok with ⟨rfl, h4, h9⟩ | ⟨rfl, h4, h9⟩ | ⟨rfl, h4, h9⟩ | ⟨rfl, h4, h9⟩ | ⟨rfl, h4, h9⟩
    ·simp only [RT, FS, ↓RE, okR, argEnv, Nat.reduceAdd, Nat.reduceSub, Nat.reduceLT, Nat.reduceLeDiff, Nat.reduceEqDiff, reduceIte, RM, List.length_map, mk2, k25]
     exact ⟨0, by simp [h4, h9], by simp⟩
    ·simp only [RT, FS, ↓RE, okR, argEnv, Nat.reduceAdd, Nat.reduceSub, Nat.reduceLT, Nat.reduceLeDiff, Nat.reduceEqDiff, reduceIte, RM, List.length_map, mk2, k25]
     exact ⟨1, by simp [h4, h9], by simp⟩
    ·simp only [RT, FS, ↓RE, okR, argEnv, Nat.reduceAdd, Nat.reduceSub, Nat.reduceLT, Nat.reduceLeDiff, Nat.reduceEqDiff, reduceIte, RM, List.length_map, mk2, k25]
     exact ⟨2, by simp [h4, h9], by simp⟩
    ·simp only [RT, FS, ↓RE, okR, argEnv, Nat.reduceAdd, Nat.reduceSub, Nat.reduceLT, Nat.reduceLeDiff, Nat.reduceEqDiff, reduceIte, RM, List.length_map, mk2, k25]
     exact ⟨3, by simp [h4, h9], by simp⟩
    ·simp only [RT, FS, ↓RE, okR, argEnv, Nat.reduceAdd, Nat.reduceSub, Nat.reduceLT, Nat.reduceLeDiff, Nat.reduceEqDiff, reduceIte, RM, List.length_map, mk2, k25]
     exact ⟨4, by simp [h4, h9], by simp⟩
   ·simp only [List.getElem?_toArray, List.getElem?_cons_succ, List.getElem?_cons_zero, Option.some.injEq] at hoo
    subst hoo
    have k26 := hsl.new 6 _ 26 rfl (hr 6 (by decide)) rfl
    refine ⟨rfl, ?_⟩
    rcases hok with ⟨rfl, h4, h9⟩ | ⟨rfl, h4, h9⟩ | ⟨rfl, h4, h9⟩ | ⟨rfl, h4, h9⟩ | ⟨rfl, h4, h9⟩
    ·simp only [RT, FS, ↓RE, okR, argEnv, Nat.reduceAdd, Nat.reduceSub, Nat.reduceLT, Nat.reduceLeDiff, Nat.reduceEqDiff, reduceIte, RM, List.length_map, mk2, k26]
     exact ⟨0, by simp [h4, h9], by simp⟩
    ·simp only [RT, FS, ↓RE, okR, argEnv, Nat.reduceAdd, Nat.reduceSub, Nat.reduceLT, Nat.reduceLeDiff, Nat.reduceEqDiff, reduceIte, RM, List.length_map, mk2, k26]
     exact ⟨1, by simp [h4, h9], by simp⟩
    ·simp only [RT, FS, ↓RE, okR, argEnv, Nat.reduceAdd, Nat.reduceSub, Nat.reduceLT, Nat.reduceLeDiff, Nat.reduceEqDiff, reduceIte, RM, List.length_map, mk2, k26]
     exact ⟨2, by simp [h4, h9], by simp⟩
    ·simp only [RT, FS, ↓RE, okR, argEnv, Nat.reduceAdd, Nat.reduceSub, Nat.reduceLT, Nat.reduceLeDiff, Nat.reduceEqDiff, reduceIte, RM, List.length_map, mk2, k26]
     exact ⟨3, by simp [h4, h9], by simp⟩
    ·simp only [RT, FS, ↓RE, okR, argEnv, Nat.reduceAdd, Nat.reduceSub, Nat.reduceLT, Nat.reduceLeDiff, Nat.reduceEqDiff, reduceIte, RM, List.length_map, mk2, k26]
     exact ⟨4, by simp [h4, h9], by simp⟩
   ·simp only [List.getElem?_toArray, List.getElem?_cons_succ, List.getElem?_cons_zero, Option.some.injEq] at hoo
    subst hoo
    have k27 := hsl.new 7 _ 27 rfl (hr 7 (by decide)) rfl
    refine ⟨rfl, ?_⟩
    rcases hok with ⟨rfl, h4, h9⟩ | ⟨rfl, h4, h9⟩ | ⟨rfl, h4, h9⟩ | ⟨rfl, h4, h9⟩ | ⟨rfl, h4, h9⟩
    ·simp only [RT, FS, ↓RE, okR, argEnv, Nat.reduceAdd, Nat.reduceSub, Nat.reduceLT, Nat.reduceLeDiff, Nat.reduceEqDiff, reduceIte, RM, List.length_map, mk2, k27]
     exact ⟨0, by simp [h4, h9], by simp⟩
    ·simp only [RT, FS, ↓RE, okR, argEnv, Nat.reduceAdd, Nat.reduceSub, Nat.reduceLT, Nat.reduceLeDiff, Nat.reduceEqDiff, reduceIte, RM, List.length_map, mk2, k27]
     exact ⟨1, by simp [h4, h9], by simp⟩
    ·simp only [RT, FS, ↓RE, okR, argEnv, Nat.reduceAdd, Nat.reduceSub, Nat.reduceLT, Nat.reduceLeDiff, Nat.reduceEqDiff, reduceIte, RM, List.length_map, mk2, k27]
     exact ⟨2, by simp [h4, h9], by simp⟩
    ·simp only [RT, FS, ↓RE, okR, argEnv, Nat.reduceAdd, Nat.reduceSub, Nat.reduceLT, Nat.reduceLeDiff, Nat.reduceEqDiff, reduceIte, RM, List.length_map, mk2, k27]
     exact ⟨3, by simp [h4, h9], by simp⟩
    ·simp only [RT, FS, ↓RE, okR, argEnv, Nat.reduceAdd, Nat.reduceSub, Nat.reduceLT, Nat.reduceLeDiff, Nat.reduceEqDiff, reduceIte, RM, List.length_map, mk2, k27]
     exact ⟨4, by simp [h4, h9], by simp⟩
   ·simp only [List.getElem?_toArray, List.getElem?_cons_succ, List.getElem?_cons_zero, Option.some.injEq] at hoo
    subst hoo
    have k28 := hsl.new 8 _ 28 rfl (hr 8 (by decide)) rfl
    refine ⟨rfl, ?_⟩
    rcases hok with ⟨rfl, h4, h9⟩ | ⟨rfl, h4, h9⟩ | ⟨rfl, h4, h9⟩ | ⟨rfl, h4, h9⟩ | ⟨rfl, h4, h9⟩
    ·simp only [RT, FS, ↓RE, okR, argEnv, Nat.reduceAdd, Nat.reduceSub, Nat.reduceLT, Nat.reduceLeDiff, Nat.reduceEqDiff, reduceIte, RM, List.length_map, mk2, k28]
     exact ⟨2, by simp [h4, h9], by simp⟩
    ·simp only [RT, FS, ↓RE, okR, argEnv, Nat.reduceAdd, Nat.reduceSub, Nat.reduceLT, Nat.reduceLeDiff, Nat.reduceEqDiff, reduceIte, RM, List.length_map, mk2, k28]
     exact ⟨3, by simp [h4, h9], fun j hj => match j, hj with | 0, _ => rfl | 1, _ => rfl | 2, _ => rfl | 3, _ => rfl | 4, _ => rfl | 5, _ => rfl | 6, _ => rfl | 7, _ => rfl | 8, _ => rfl | 9, h => absurd h h9 | 10, _ => rfl | 11, h => absurd (hcl 11 9 h (by decide)) h9 | n + 12, _ => rfl, by simp⟩
    ·exact absurd h9 hnr
    ·exact absurd h9 hnr
    ·exact absurd h9 hnr
   ·simp only [List.getElem?_toArray, List.getElem?_cons_succ, List.getElem?_cons_zero, Option.some.injEq] at hoo
    subst hoo
    have k24 := hsl.new 4 _ 24 rfl (hr 4 (by decide)) rfl
    refine ⟨rfl, ?_⟩
    rcases hok with ⟨rfl, h4, h9⟩ | ⟨rfl, h4, h9⟩ | ⟨rfl, h4, h9⟩ | ⟨rfl, h4, h9⟩ | ⟨rfl, h4, h9⟩
    ·exact absurd (hr 4 (by decide)) h4
    ·simp only [RT, FS, ↓RE, okR, argEnv, Nat.reduceAdd, Nat.reduceSub, Nat.reduceLT, Nat.reduceLeDiff, Nat.reduceEqDiff, reduceIte, RM, List.length_map, mk2, k24]
     exact ⟨1, by simp [h4, h9], by simp⟩
    ·exact absurd (hr 4 (by decide)) h4
    ·simp only [RT, FS, ↓RE, okR, argEnv, Nat.reduceAdd, Nat.reduceSub, Nat.reduceLT, Nat.reduceLeDiff, Nat.reduceEqDiff, reduceIte, RM, List.length_map, mk2, k24]
     exact ⟨3, by simp [h4, h9], by simp⟩
    ·simp only [RT, FS, ↓RE, okR, argEnv, Nat.reduceAdd, Nat.reduceSub, Nat.reduceLT, Nat.reduceLeDiff, Nat.reduceEqDiff, reduceIte, RM, List.length_map, mk2, k24]
     exact ⟨4, by simp [h4, h9], by simp⟩
   ·simp only [List.getElem?_toArray, List.getElem?_cons_succ, List.getElem?_cons_zero, Option.some.injEq] at hoo
    subst hoo
    have k29 := hsl.new 9 _ 29 rfl (hr 9 (by decide)) rfl
    refine ⟨rfl, ?_⟩
    rcases hok with ⟨rfl, h4, h9⟩ | ⟨rfl, h4, h9⟩ | ⟨rfl, h4, h9⟩ | ⟨rfl, h4, h9⟩ | ⟨rfl, h4, h9⟩
    ·exact absurd (hr 9 (by decide)) h9
    ·exact absurd (hr 9 (by decide)) h9
    ·simp only [RT, FS, ↓RE, okR, argEnv, Nat.reduceAdd, Nat.reduceSub, Nat.reduceLT, Nat.reduceLeDiff, Nat.reduceEqDiff, reduceIte, RM, List.length_map, mk2, k29]
     exact ⟨2, by simp [h4, h9], by simp⟩
    ·simp only [RT, FS, ↓RE, okR, argEnv, Nat.reduceAdd, Nat.reduceSub, Nat.reduceLT, Nat.reduceLeDiff, Nat.reduceEqDiff, reduceIte, RM, List.length_map, mk2, k29]
     exact ⟨3, by simp [h4, h9], by simp⟩
    ·simp only [RT, FS, ↓RE, okR, argEnv, Nat.reduceAdd, Nat.reduceSub, Nat.reduceLT, Nat.reduceLeDiff, Nat.reduceEqDiff, reduceIte, RM, List.length_map, mk2, k29]
     exact ⟨4, by simp [h4, h9], by simp⟩
  ·intro m L e hok hall hsl
   have k9 := hsl.new 10 _ 9 rfl (hall 10 (by decide)) rfl
   have k10 := hsl.new 11 _ 10 rfl (hall 11 (by decide)) rfl
   have k2 := hsl.base 2 rfl
   have k3 := hsl.base 3 rfl
   have k8 := hsl.base 8 rfl
   have h4 := hall 4 (by decide)
   have h9 := hall 9 (by decide)
   have hm : m = 3 ∨ m = 4 := by
    rcases hok with h | h | h | h | h
    ·exact absurd h4 h.2.1
    ·exact absurd h9 h.2.2
    ·exact absurd h4 h.2.1
    ·exact .inl h.1
    ·exact .inr h.1
   simp only at k9 k10
   rcases hm with rfl | rfl
   ·refine .weak (weak_of ?_)
    simp [headW, heapW, envW, blkLt, D.ltL, D.lt, look, hget, k9, k10, k2, k3, k8, shD, inD]
   ·refine (Imp.weak (weak_of (e := [(2, .int .i64 now), (3, .ptr 0 0), (8, msD kn), (9, .osl 2 sh.length), (10, .osl 1 sh.length)]) (h := [(2, .arr 4 1 (boolL (boolsF sh.length (fun _ => false)))), (1, .arr 4 1 (boolL (boolsF sh.length (fun _ => false)))), (0, .box [.int .i64 sw, .int .i64 sd, shD sh, rlD rl, lkD lk, .int .i64 cell, .int .i64 mi, .int .i64 ev, .int .i64 en, inD af])]) (nid := 4) (n := 164) ?_)).trans
     (imp_move' 1 3 (bi := .arr 4 1 (boolL (boolsF sh.length (fun _ => false)))) (by omega) rfl rfl (by omega) (by omega) ?_ ?_ ?_)
    ·simp [headW, heapW, envW, blkLt, D.ltL, D.lt, look, hget, k9, k10, k2, k3, k8, shD, inD]
    ·simp [okMB', okM, D.lt, D.noI, D.noIL, D.ltL, shD, inD, boolL, boolsF, enB]
    ·simp [okM, D.lt, D.noI, D.noIL, shD, inD]
    refine imp_move' 2 1 (bi := .arr 4 1 (boolL (boolsF sh.length (fun _ => false)))) (by omega) rfl rfl (by omega) (by omega) ?_ ?_ ?_
    ·simp [okMB', okM, D.lt, D.noI, D.noIL, D.ltL, mvH, mvB, mvD, shD, inD]
    ·simp [okM, D.lt, D.noI, D.noIL, mvD, shD, inD]
    refine imp_move' 3 2 (bi := .arr 4 1 (boolL (boolsF sh.length (fun _ => false)))) (by omega) rfl rfl (by omega) (by omega) ?_ ?_ (.weak (weak_of ?_))
    ·simp [okMB', okM, D.lt, D.noI, D.noIL, D.ltL, mvH, mvB, mvD, shD, inD]
    ·simp [okM, D.lt, D.noI, D.noIL, mvD, shD, inD]
    ·simp [headW, heapW, envW, blkLt, D.ltL, D.lt, look, hget, mvH, mvB, mvD, shD, inD]
 have bx0 : ∀ h, hget h 1 = some (.arr 4 1 (boolL (boolsF sh.length (fun _ => false)))) → indexAddrD Tryz.prog h 22 (.osl 1 sh.length) (.int .i64 cell) = some (.eptr 1 sh.length 1 cn 0) := fun h hb => by rw [hcn]; exact bx _ 1 cn hcnl h hb
 have bs0 := fun h nid hb => bs (fun _ => false) 1 cn hcnl true h nid hb
 rw [h1f] at bs0
 refine awp_peel (T := [(2, [(12, false, false, [])])]) e72_ok (by kernel_rfl) (by kernel_rfl) ?_
 simp only [RT, FS, ↓RE, okR, argEnv, Nat.reduceAdd, Nat.reduceSub, Nat.reduceLT, Nat.reduceLeDiff, Nat.reduceEqDiff, reduceIte, RM, bx0, bs0]
 refine awp_seqF (ι := Unit) (nid := 3) (n := 164) (fun _ => [(9, .osl 1 sh.length), (10, .osl 2 sh.length)]) (fun _ => [(2, .arr 4 1 (boolL (boolsF sh.length (PR (N + 1)).2))), (1, .arr 4 1 (boolL (boolsF sh.length (PR (N + 1)).1))), (0, .box [.int .i64 sw, .int .i64 sd, shD sh, rlD rl, lkD lk, .int .i64 cell, .int .i64 mi, .int .i64 ev, .int .i64 en, inD af])]) (fun _ => True) ?_ ?_
 rotate_left
 ·rintro _ _
  refine awp_imp (imp_thaw 1 (imp_thaw 2 (.weak (weak_of (e := [(9, shD (boolsF sh.length (PR (N + 1)).1)), (10, shD (boolsF sh.length (PR (N + 1)).2))]) (h := [(0, .box [.int .i64 sw, .int .i64 sd, shD sh, rlD rl, lkD lk, .int .i64 cell, .int .i64 mi, .int .i64 ev, .int .i64 en, inD af])]) (nid := 1) (n := 164) ?_)))) ?_
  ·simp [headW, heapW, envW, blkLt, D.ltL, D.lt, look, hget, frzHH, frzBlk, herase, fz_int, fz_ref, fz_ptr, fz_bool, fz_sl, fz_nils, fz_osl, fzC_some, fzC_arr, fzP_some, boolL_len, boolsF_len, shD, boolL, inD]
  refine awp_rest (T := [(2, [(12, false, false, [])])]) e72_ok (by kernel_rfl) (by kernel_rfl) ?_
  simp only [RT, FS, ↓RE, okR, argEnv, Nat.reduceAdd, Nat.reduceSub, Nat.reduceLT, Nat.reduceLeDiff, Nat.reduceEqDiff, reduceIte, RM]
  refine call_of_pure' (pC _) (by simp [D.ltL, D.lt]) (by simp [D.lt]) ?_
  simp only [RT, FS, ↓RE, okR, argEnv, Nat.reduceAdd, Nat.reduceSub, Nat.reduceLT, Nat.reduceLeDiff, Nat.reduceEqDiff, reduceIte, RM]
  refine call_of_pure' (pC _) (by simp [D.ltL, D.lt]) (by simp [D.lt]) ?_
  simp only [RT, FS, ↓RE, okR, argEnv, Nat.reduceAdd, Nat.reduceSub, Nat.reduceLT, Nat.reduceLeDiff, Nat.reduceEqDiff, reduceIte, RM]
  rw [hPRS]
 refine awp_peel (T := [(2, [(12, false, false, [])])]) e72_ok (by kernel_rfl) (by kernel_rfl) ?_
 simp only [RT, FS, ↓RE, okR, argEnv, Nat.reduceAdd, Nat.reduceSub, Nat.reduceLT, Nat.reduceLeDiff, Nat.reduceEqDiff, reduceIte, RM]
 refine awp_block (awp_loopH (ι := Nat) (fun n => [(2, .int .i64 now), (3, .ptr 0 0), (8, msD kn), (9, .osl 1 sh.length), (10, .osl 2 sh.length), (11, .int .i64 (mi + (n : Int)))]) (fun n => [(2, .arr 4 1 (boolL (boolsF sh.length (PR n).2))), (1, .arr 4 1 (boolL (boolsF sh.length (PR n).1))), (0, .box [.int .i64 sw, .int .i64 sd, shD sh, rlD rl, lkD lk, .int .i64 cell, .int .i64 mi, .int .i64 ev, .int .i64 en, inD af])]) 3 (fun n => n ≤ N + 1) (fun n => N + 1 - n) 0 (Nat.zero_le _) ?_ ?_)
 ·rw [hPR0]; simp [headW, heapW, envW, blkLt, D.ltL, D.lt, look, hget, Sx.hset, shD, inD]
 intro n hnl
 refine awp_peel (T := [(2, [(12, false, false, [])])]) e72_ok (by kernel_rfl) (by kernel_rfl) ?_
 rcases Nat.lt_or_ge n (N + 1) with hlt | hge
 rotate_left
 ·have hq : (mi + (n : Int) ≤ now) = False := by simp; omega
  simp only [RT, FS, ↓RE, okR, argEnv, Nat.reduceAdd, Nat.reduceSub, Nat.reduceLT, Nat.reduceLeDiff, Nat.reduceEqDiff, reduceIte, RM, hq, decide_false]
  have : n = N + 1 := by omega
  subst this
  simp [headW, heapW, envW, blkLt, D.ltL, D.lt, look, hget, Sx.hset, shD, inD]
 have hq : (mi + (n : Int) ≤ now) = True := by simp; omega
 simp only [RT, FS, ↓RE, okR, argEnv, Nat.reduceAdd, Nat.reduceSub, Nat.reduceLT, Nat.reduceLeDiff, Nat.reduceEqDiff, reduceIte, RM, hq, decide_true]
 refine awp_seqF (ι := Unit) (nid := 3) (n := 164) (fun _ => [(2, .int .i64 now), (3, .ptr 0 0), (8, msD kn), (9, .osl 1 sh.length), (10, .osl 2 sh.length), (11, .int .i64 (mi + (n : Int)))]) (fun _ => [(2, .arr 4 1 (boolL (boolsF sh.length (PR (n + 1)).2))), (1, .arr 4 1 (boolL (boolsF sh.length (PR (n + 1)).1))), (0, .box [.int .i64 sw, .int .i64 sd, shD sh, rlD rl, lkD lk, .int .i64 cell, .int .i64 mi, .int .i64 ev, .int .i64 en, inD af])]) (fun _ => True) ?_ ?_
 rotate_left
 ·rintro _ _
  have wi : IntKind.i64.wrap (mi + (n : Int) + 1) = mi + ((n + 1 : Nat) : Int) := by rw [wrap_i64 (by omega) (by omega)]; omega
  refine awp_rest (T := [(2, [(12, false, false, [])])]) e72_ok (by kernel_rfl) (by kernel_rfl) ?_
  simp only [RT, FS, ↓RE, okR, argEnv, Nat.reduceAdd, Nat.reduceSub, Nat.reduceLT, Nat.reduceLeDiff, Nat.reduceEqDiff, reduceIte, RM, wi]
  exact ⟨n + 1, by omega, by omega, by simp [headW, heapW, envW, blkLt, D.ltL, D.lt, look, hget, Sx.hset, shD, inD]⟩
 refine awp_block ?_
 refine awp_cutA [(2, .int .i64 now), (3, .ptr 0 0), (8, msD kn), (9, .osl 1 sh.length), (10, .osl 2 sh.length), (11, .int .i64 (mi + (n : Int)))] [(2, .arr 4 1 (boolL (boolsF sh.length (MV n).2))), (1, .arr 4 1 (boolL (boolsF sh.length (MV n).1))), (0, .box [.int .i64 sw, .int .i64 sd, shD sh, rlD rl, lkD lk, .int .i64 cell, .int .i64 mi, .int .i64 ev, .int .i64 en, inD af])] 3 164 ?_ ?_
 ·refine awp_seq ?_
  refine awp_rest (T := [(2, [(12, false, false, [])])]) e72_ok (by kernel_rfl) (by kernel_rfl) ?_
  rcases n with _ | m
  ·have g0 : (mi < mi + ((0 : Nat) : Int)) = False := by simp
   simp only [RT, FS, ↓RE, okR, argEnv, Nat.reduceAdd, Nat.reduceSub, Nat.reduceLT, Nat.reduceLeDiff, Nat.reduceEqDiff, reduceIte, RM, g0, decide_false]
   refine awp_rest (T := [(2, [(12, false, false, [])])]) e72_ok (by kernel_rfl) (by kernel_rfl) ?_
   simp only [RT, FS, ↓RE, okR, argEnv, Nat.reduceAdd, Nat.reduceSub, Nat.reduceLT, Nat.reduceLeDiff, Nat.reduceEqDiff, reduceIte, RM]
   rw [hMV0]
   refine .weak (weak_of ?_)
   simp [headW, heapW, envW, blkLt, D.ltL, D.lt, look, hget, Sx.hset, shD, inD]
  have g0 : (mi < mi + ((m + 1 : Nat) : Int)) = True := by simp; omega
  simp only [RT, FS, ↓RE, okR, argEnv, Nat.reduceAdd, Nat.reduceSub, Nat.reduceLT, Nat.reduceLeDiff, Nat.reduceEqDiff, reduceIte, RM, g0, decide_true]
  refine awp_cond (t := true) rfl (fun _ => ?_) (fun h => by cases h)
  rw [hMVS]
  generalize hP : PR (m + 1) = PP
  obtain ⟨f, d⟩ := PP
  dsimp only
  refine awp_seqF (ι := Unit) (nid := 3) (n := 164) (fun _ => [(2, .int .i64 now), (3, .ptr 0 0), (8, msD kn), (9, .osl 1 sh.length), (10, .osl 2 sh.length), (11, .int .i64 (mi + ((m + 1 : Nat) : Int)))]) (fun _ => [(2, .arr 4 1 (boolL (boolsF sh.length (fun c => d c || f c)))), (1, .arr 4 1 (boolL (boolsF sh.length f))), (0, .box [.int .i64 sw, .int .i64 sd, shD sh, rlD rl, lkD lk, .int .i64 cell, .int .i64 mi, .int .i64 ev, .int .i64 en, inD af])]) (fun _ => True) ?_ ?_
  ·refine awp_peel (T := [(2, [(12, false, false, [])])]) e72_ok (by kernel_rfl) (by kernel_rfl) ?_
   simp only [RT, FS, ↓RE, okR, argEnv, Nat.reduceAdd, Nat.reduceSub, Nat.reduceLT, Nat.reduceLeDiff, Nat.reduceEqDiff, reduceIte, RM]
   refine awp_block (awp_loopH (ι := Nat) (fun i => [(2, .int .i64 now), (3, .ptr 0 0), (8, msD kn), (9, .osl 1 sh.length), (10, .osl 2 sh.length), (11, .int .i64 (mi + ((m + 1 : Nat) : Int))), (12, .int .i64 (i : Int))]) (fun i => [(2, .arr 4 1 (boolL (boolsF sh.length (fun c => if c < (i : Int) then d c || f c else d c)))), (1, .arr 4 1 (boolL (boolsF sh.length f))), (0, .box [.int .i64 sw, .int .i64 sd, shD sh, rlD rl, lkD lk, .int .i64 cell, .int .i64 mi, .int .i64 ev, .int .i64 en, inD af])]) 3 (fun i => i ≤ sh.length) (fun i => sh.length - i) 0 (Nat.zero_le _) ?_ ?_)
   ·have e : boolsF sh.length d = boolsF sh.length (fun c => if c < ((0 : Nat) : Int) then d c || f c else d c) := boolsF_congr fun c h0 _ => by rw [if_neg (by omega)]
    rw [e]
    simp [headW, heapW, envW, blkLt, D.ltL, D.lt, look, hget, Sx.hset, shD, inD]
   intro i hil
   obtain ⟨C, hC⟩ : ∃ C : Nat → Int → Bool, C = fun i c => if c < ((i : Nat) : Int) then d c || f c else d c := ⟨_, rfl⟩
   have hCe : ∀ i : Nat, (fun c : Int => if c < (i : Int) then d c || f c else d c) = C i := fun i => by rw [hC]
   simp only [hCe]
   have hCi : C i (i : Int) = d (i : Int) := by rw [hC]; simp
   have hCS : (fun c => if c = (i : Int) then (d (i : Int) || f (i : Int)) else C i c) = C (i + 1) := funext fun c => by
    rw [hC]
    by_cases e : c = (i : Int)
    ·subst e
     rw [if_pos rfl]
     simp only
     rw [if_pos (by omega)]
    ·rw [if_neg e]
     simp only
     by_cases e2 : c < (i : Int)
     ·rw [if_pos e2, if_pos (by omega)]
     ·rw [if_neg e2, if_neg (by omega)]
   have bnC := bn (C i) 2
   refine awp_peel (T := [(2, [(12, false, false, [])])]) e72_ok (by kernel_rfl) (by kernel_rfl) ?_
   rcases Nat.lt_or_ge i sh.length with hlt2 | hge2
   rotate_left
   ·have hq2 := nat_lt_false hge2
    simp only [RT, FS, ↓RE, okR, argEnv, Nat.reduceAdd, Nat.reduceSub, Nat.reduceLT, Nat.reduceLeDiff, Nat.reduceEqDiff, reduceIte, RM, bnC, hq2, decide_false]
    have hie : i = sh.length := by omega
    subst hie
    have e : boolsF sh.length (fun c => d c || f c) = boolsF sh.length (C sh.length) := boolsF_congr fun c h0 h1 => by rw [hC]; simp only; rw [if_pos h1]
    rw [e]
    simp [headW, heapW, envW, blkLt, D.ltL, D.lt, look, hget, Sx.hset, shD, inD]
   have hq2 := nat_lt_true hlt2
   have wi := wrap_i64 (z := (i : Int) + 1) (by omega) (by omega)
   have x2 := bx (C i) 2 i hlt2
   have l2 := bl (C i) 2 i hlt2
   have x1 := bx f 1 i hlt2
   have l1 := bl f 1 i hlt2
   have s2 := bs (C i) 2 i hlt2 (d (i : Int) || f (i : Int))
   rw [hCi] at l2
   rw [hCS] at s2
   simp only [RT, FS, ↓RE, okR, argEnv, Nat.reduceAdd, Nat.reduceSub, Nat.reduceLT, Nat.reduceLeDiff, Nat.reduceEqDiff, reduceIte, RM, bnC, hq2, decide_true]
   refine awp_seqF (ι := Unit) (nid := 3) (n := 164) (fun _ => [(2, .int .i64 now), (3, .ptr 0 0), (8, msD kn), (9, .osl 1 sh.length), (10, .osl 2 sh.length), (11, .int .i64 (mi + ((m + 1 : Nat) : Int))), (12, .int .i64 (i : Int))]) (fun _ => [(2, .arr 4 1 (boolL (boolsF sh.length (C (i + 1))))), (1, .arr 4 1 (boolL (boolsF sh.length f))), (0, .box [.int .i64 sw, .int .i64 sd, shD sh, rlD rl, lkD lk, .int .i64 cell, .int .i64 mi, .int .i64 ev, .int .i64 en, inD af])]) (fun _ => True) ?_ ?_
   rotate_left
   ·rintro _ _
    refine awp_rest (T := [(2, [(12, false, false, [])])]) e72_ok (by kernel_rfl) (by kernel_rfl) ?_
    simp only [RT, FS, ↓RE, okR, argEnv, Nat.reduceAdd, Nat.reduceSub, Nat.reduceLT, Nat.reduceLeDiff, Nat.reduceEqDiff, reduceIte, RM, wi]
    exact ⟨i + 1, by omega, by omega, by simp [headW, heapW, envW, blkLt, D.ltL, D.lt, look, hget, Sx.hset, shD, inD]⟩
   refine awp_block ?_
   refine awp_rest (T := [(2, [(12, false, false, [])])]) e72_ok (by kernel_rfl) (by kernel_rfl) ?_
   cases q : d (i : Int)
   ·rw [q] at l2 s2
    rw [Bool.false_or] at s2
    simp only [RT, FS, ↓RE, okR, argEnv, Nat.reduceAdd, Nat.reduceSub, Nat.reduceLT, Nat.reduceLeDiff, Nat.reduceEqDiff, reduceIte, RM, x2, l2, x1, l1, s2]
    simp [headW, heapW, envW, blkLt, D.ltL, D.lt, look, hget, Sx.hset, shD, inD]
   ·rw [q] at l2 s2
    rw [Bool.true_or] at s2
    simp only [RT, FS, ↓RE, okR, argEnv, Nat.reduceAdd, Nat.reduceSub, Nat.reduceLT, Nat.reduceLeDiff, Nat.reduceEqDiff, reduceIte, RM, x2, l2, s2]
    simp [headW, heapW, envW, blkLt, D.ltL, D.lt, look, hget, Sx.hset, shD, inD]
  rintro _ _
  have hvw : ∀ h, hget h 1 = some (.arr 4 1 (boolL (boolsF sh.length f))) → view h (.osl 1 sh.length) = shD (boolsF sh.length f) := fun h hb => by
   simp [view, hb, viewA, boolL_len, boolsF_len]
   rfl
  refine awp_rest (T := [(2, [(12, false, false, [])])]) e72_ok (by kernel_rfl) (by kernel_rfl) ?_
  simp only [RT, FS, ↓RE, okR, argEnv, Nat.reduceAdd, Nat.reduceSub, Nat.reduceLT, Nat.reduceLeDiff, Nat.reduceEqDiff, reduceIte, RM]
  refine call_of_acall ((pA f _ _ _ (hvw _ (by simp [hget]))).mono ?_)
  rintro r h' nid' ⟨rfl, rfl, rfl⟩
  simp only [RT, FS, ↓RE, okR, argEnv, Nat.reduceAdd, Nat.reduceSub, Nat.reduceLT, Nat.reduceLeDiff, Nat.reduceEqDiff, reduceIte, RM]
  refine (Imp.weak (weak_of (e := [(2, .int .i64 now), (3, .ptr 0 0), (8, msD kn), (9, .osl 3 sh.length), (10, .osl 2 sh.length), (11, .int .i64 (mi + ((m + 1 : Nat) : Int)))]) (h := [(3, .arr 4 1 (boolL (boolsF sh.length (arF ⟨sw, sd, sh⟩ f)))), (2, .arr 4 1 (boolL (boolsF sh.length (fun c => d c || f c)))), (0, .box [.int .i64 sw, .int .i64 sd, shD sh, rlD rl, lkD lk, .int .i64 cell, .int .i64 mi, .int .i64 ev, .int .i64 en, inD af])]) (nid := 4) (n := 164) ?_)).trans
   (imp_move' 3 1 (bi := .arr 4 1 (boolL (boolsF sh.length (arF ⟨sw, sd, sh⟩ f)))) (by omega) rfl rfl (by omega) (by omega) ?_ ?_ (.weak (weak_of ?_)))
  ·simp [headW, heapW, envW, blkLt, D.ltL, D.lt, look, hget, Sx.hset, shD, inD]
  ·simp [okMB', okM, D.lt, D.noI, D.noIL, D.ltL, shD, inD, boolL, boolsF, enB]
  ·simp [okM, D.lt, D.noI, D.noIL, shD, inD]
  ·simp [headW, heapW, envW, blkLt, D.ltL, D.lt, look, hget, mvH, mvB, mvD, shD, inD]
 have hg1 := (hst n).1
 have hg2 := (hst n).2
 have hMfi := hfi n
 have hDF := hdd n
 generalize hM : MV n = MM at *
 obtain ⟨A, B⟩ := MM
 dsimp only at hg1 hg2 hMfi ⊢
 clear hM
 obtain ⟨g, hg⟩ : ∃ g : Int → Bool, g = fun c => A c && !(DF n c) := ⟨_, rfl⟩
 have hge : ∀ c, (A c && !(DF n c)) = g c := fun c => by rw [hg]
 have wt1 := wrap_i64 (z := mi + en) (by omega) (by omega)
 have ht : 0 ≤ mi + (n : Int) ∧ mi + (n : Int) ≤ 1440 := by omega
 have oSn := oSnd (mi + (n : Int)) (by omega)
 refine awp_seqF (ι := Unit) (nid := 3) (n := 164) (fun _ => [(2, .int .i64 now), (3, .ptr 0 0), (8, msD kn), (9, .osl 1 sh.length), (10, .osl 2 sh.length), (11, .int .i64 (mi + (n : Int)))]) (fun _ => [(2, .arr 4 1 (boolL (boolsF sh.length B))), (1, .arr 4 1 (boolL (boolsF sh.length g))), (0, .box [.int .i64 sw, .int .i64 sd, shD sh, rlD rl, lkD lk, .int .i64 cell, .int .i64 mi, .int .i64 ev, .int .i64 en, inD af])]) (fun _ => True) ?_ ?_
 ·refine awp_peel (T := [(2, [(12, false, false, [])])]) e72_ok (by kernel_rfl) (by kernel_rfl) ?_
  simp only [RT, FS, ↓RE, okR, argEnv, Nat.reduceAdd, Nat.reduceSub, Nat.reduceLT, Nat.reduceLeDiff, Nat.reduceEqDiff, reduceIte, RM]
  refine awp_block (awp_loopH (ι := Nat) (fun i => [(2, .int .i64 now), (3, .ptr 0 0), (8, msD kn), (9, .osl 1 sh.length), (10, .osl 2 sh.length), (11, .int .i64 (mi + (n : Int))), (13, .int .i64 (i : Int))]) (fun i => [(2, .arr 4 1 (boolL (boolsF sh.length B))), (1, .arr 4 1 (boolL (boolsF sh.length (fun c => if c < (i : Int) then g c else A c)))), (0, .box [.int .i64 sw, .int .i64 sd, shD sh, rlD rl, lkD lk, .int .i64 cell, .int .i64 mi, .int .i64 ev, .int .i64 en, inD af])]) 3 (fun i => i ≤ sh.length) (fun i => sh.length - i) 0 (Nat.zero_le _) ?_ ?_)
  ·have e : boolsF sh.length A = boolsF sh.length (fun c => if c < ((0 : Nat) : Int) then g c else A c) := boolsF_congr fun c h0 _ => by rw [if_neg (by omega)]
   rw [e]
   simp [headW, heapW, envW, blkLt, D.ltL, D.lt, look, hget, Sx.hset, shD, inD]
  intro i hil
  obtain ⟨C, hC⟩ : ∃ C : Nat → Int → Bool, C = fun i c => if c < ((i : Nat) : Int) then g c else A c := ⟨_, rfl⟩
  have hCe : ∀ i : Nat, (fun c : Int => if c < (i : Int) then g c else A c) = C i := fun i => by rw [hC]
  simp only [hCe]
  have hCi : C i (i : Int) = A (i : Int) := by rw [hC]; simp
  have hCS : (fun c => if c = (i : Int) then g (i : Int) else C i c) = C (i + 1) := funext fun c => by
   rw [hC]
   by_cases e : c = (i : Int)
   ·subst e
    rw [if_pos rfl]
    simp only
    rw [if_pos (by omega)]
   ·rw [if_neg e]
    simp only
    by_cases e2 : c < (i : Int)
    ·rw [if_pos e2, if_pos (by omega)]
    ·rw [if_neg e2, if_neg (by omega)]
  have hCsame : g (i : Int) = A (i : Int) → C (i + 1) = C i := fun h => by
   rw [← hCS]
   funext c
   by_cases e : c = (i : Int)
   ·rw [if_pos e, e, hCi, h]
   ·rw [if_neg e]
  have bnC := bn (C i) 1
  refine awp_peel (T := [(2, [(12, false, false, [])])]) e72_ok (by kernel_rfl) (by kernel_rfl) ?_
  rcases Nat.lt_or_ge i sh.length with hlt2 | hge2
  rotate_left
  ·have hq2 := nat_lt_false hge2
   simp only [RT, FS, ↓RE, okR, argEnv, Nat.reduceAdd, Nat.reduceSub, Nat.reduceLT, Nat.reduceLeDiff, Nat.reduceEqDiff, reduceIte, RM, bnC, hq2, decide_false]
   have hie : i = sh.length := by omega
   subst hie
   have e : boolsF sh.length g = boolsF sh.length (C sh.length) := boolsF_congr fun c h0 h1 => by rw [hC]; simp only; rw [if_pos h1]
   rw [e]
   simp [headW, heapW, envW, blkLt, D.ltL, D.lt, look, hget, Sx.hset, shD, inD]
  have hq2 := nat_lt_true hlt2
  have wi := wrap_i64 (z := (i : Int) + 1) (by omega) (by omega)
  have x1 := bx (C i) 1 i hlt2
  have l1 := bl (C i) 1 i hlt2
  have s1 := bs (C i) 1 i hlt2 false
  rw [hCi] at l1
  simp only [RT, FS, ↓RE, okR, argEnv, Nat.reduceAdd, Nat.reduceSub, Nat.reduceLT, Nat.reduceLeDiff, Nat.reduceEqDiff, reduceIte, RM, bnC, hq2, decide_true]
  refine awp_seqF (ι := Unit) (nid := 3) (n := 164) (fun _ => [(2, .int .i64 now), (3, .ptr 0 0), (8, msD kn), (9, .osl 1 sh.length), (10, .osl 2 sh.length), (11, .int .i64 (mi + (n : Int))), (13, .int .i64 (i : Int))]) (fun _ => [(2, .arr 4 1 (boolL (boolsF sh.length B))), (1, .arr 4 1 (boolL (boolsF sh.length (C (i + 1))))), (0, .box [.int .i64 sw, .int .i64 sd, shD sh, rlD rl, lkD lk, .int .i64 cell, .int .i64 mi, .int .i64 ev, .int .i64 en, inD af])]) (fun _ => True) ?_ ?_
  rotate_left
  ·rintro _ _
   refine awp_rest (T := [(2, [(12, false, false, [])])]) e72_ok (by kernel_rfl) (by kernel_rfl) ?_
   simp only [RT, FS, ↓RE, okR, argEnv, Nat.reduceAdd, Nat.reduceSub, Nat.reduceLT, Nat.reduceLeDiff, Nat.reduceEqDiff, reduceIte, RM, wi]
   exact ⟨i + 1, by omega, by omega, by simp [headW, heapW, envW, blkLt, D.ltL, D.lt, look, hget, Sx.hset, shD, inD]⟩
  refine awp_block ?_
  have hgi := hge (i : Int)
  have hDFi := hDF (i : Int)
  have hMi := hMfi (i : Int)
  have dead : g (i : Int) = false → (fun c => if c = (i : Int) then false else C i c) = C (i + 1) := fun h => by rw [← hCS, h]
  refine awp_rest (T := [(2, [(12, false, false, [])])]) e72_ok (by kernel_rfl) (by kernel_rfl) ?_
  cases q1 : decide (mi + en < mi + (n : Int))
  case true =>
   have e1 : decide (en < (n : Int)) = true := by simp at q1 ⊢; omega
   rw [e1, Bool.true_or] at hDFi
   rw [dead (by rw [← hgi, hDFi]; simp)] at s1
   simp only [RT, FS, ↓RE, okR, argEnv, Nat.reduceAdd, Nat.reduceSub, Nat.reduceLT, Nat.reduceLeDiff, Nat.reduceEqDiff, reduceIte, RM, wt1, q1, x1, s1]
   simp [headW, heapW, envW, blkLt, D.ltL, D.lt, look, hget, Sx.hset, shD, inD]
  have e1 : decide (en < (n : Int)) = false := by simp at q1 ⊢; omega
  rw [e1, Bool.false_or] at hDFi
  cases q2 : A (i : Int)
  ·rw [q2] at l1
   have hs := hCsame (by rw [← hgi, q2]; rfl)
   simp only [RT, FS, ↓RE, okR, argEnv, Nat.reduceAdd, Nat.reduceSub, Nat.reduceLT, Nat.reduceLeDiff, Nat.reduceEqDiff, reduceIte, RM, wt1, q1, x1, l1]
   rw [hs]
   simp [headW, heapW, envW, blkLt, D.ltL, D.lt, look, hget, Sx.hset, shD, inD]
  rw [q2] at l1
  cases q3 : SB (mi + (n : Int))
  ·rw [q3] at oSn hDFi
   have hs := hCsame (by rw [← hgi, hDFi, q2]; rfl)
   simp only [RT, FS, ↓RE, okR, argEnv, Nat.reduceAdd, Nat.reduceSub, Nat.reduceLT, Nat.reduceLeDiff, Nat.reduceEqDiff, reduceIte, RM, wt1, q1, x1, l1, oSn]
   rw [hs]
   simp [headW, heapW, envW, blkLt, D.ltL, D.lt, look, hget, Sx.hset, shD, inD]
  rw [q3] at oSn hDFi
  have oSi := oSil (i : Int) (mi + (n : Int)) (hMi q2) ht
  cases q4 : SX (mi + (n : Int)) (i : Int)
  ·rw [q4] at oSi hDFi
   have hs := hCsame (by rw [← hgi, hDFi, q2]; rfl)
   simp only [RT, FS, ↓RE, okR, argEnv, Nat.reduceAdd, Nat.reduceSub, Nat.reduceLT, Nat.reduceLeDiff, Nat.reduceEqDiff, reduceIte, RM, wt1, q1, x1, l1, oSn, oSi]
   rw [hs]
   simp [headW, heapW, envW, blkLt, D.ltL, D.lt, look, hget, Sx.hset, shD, inD]
  ·rw [q4] at oSi hDFi
   rw [dead (by rw [← hgi, hDFi]; simp)] at s1
   simp only [RT, FS, ↓RE, okR, argEnv, Nat.reduceAdd, Nat.reduceSub, Nat.reduceLT, Nat.reduceLeDiff, Nat.reduceEqDiff, reduceIte, RM, wt1, q1, x1, l1, oSn, oSi, s1]
   simp [headW, heapW, envW, blkLt, D.ltL, D.lt, look, hget, Sx.hset, shD, inD]
 rintro _ _
 have hg1 : ∀ c, (PL n).1 c = (g c && kn.all fun m => !(sayB (mi + n) c false m)) := fun c => by rw [hg1, hge]
 clear hg hge hDF hMfi
 obtain ⟨F3, hF3⟩ : ∃ F3 : Nat → Int → Bool, F3 = fun k c => g c && (kn.take k).all fun m => !(sayB (mi + n) c false m) := ⟨_, rfl⟩
 obtain ⟨D3, hD3⟩ : ∃ D3 : Nat → Int → Bool, D3 = fun k c => B c && (kn.take k).all fun m => !(sayB (mi + n) c true m) := ⟨_, rfl⟩
 have F0 : F3 0 = g := by rw [hF3]; funext c; simp
 have D0 : D3 0 = B := by rw [hD3]; funext c; simp
 have FE : F3 kn.length = (PR (n + 1)).1 := by funext c; rw [hPRS, hg1, hF3]; simp only [List.take_length]
 have DE : D3 kn.length = (PR (n + 1)).2 := by funext c; rw [hPRS, hg2, hD3]; simp only [List.take_length]
 have fS3 : ∀ k m, kn[k]? = some m → ∀ c, F3 (k + 1) c = (F3 k c && !(sayB (mi + n) c false m)) := fun k m hr c => by
  rw [hF3]; simp only [List.take_add_one, hr, Option.toList_some, List.all_append, List.all_cons, List.all_nil, Bool.and_true, Bool.and_assoc]
 have dS3 : ∀ k m, kn[k]? = some m → ∀ c, D3 (k + 1) c = (D3 k c && !(sayB (mi + n) c true m)) := fun k m hr c => by
  rw [hD3]; simp only [List.take_add_one, hr, Option.toList_some, List.all_append, List.all_cons, List.all_nil, Bool.and_true, Bool.and_assoc]
 clear hF3 hD3 hg1 hg2 hst oSn
 rw [← FE, ← DE, ← F0, ← D0]
 clear F0 D0 FE DE
 refine awp_peel (T := [(2, [(12, false, false, [])])]) e72_ok (by kernel_rfl) (by kernel_rfl) ?_
 simp only [RT, FS, ↓RE, okR, argEnv, Nat.reduceAdd, Nat.reduceSub, Nat.reduceLT, Nat.reduceLeDiff, Nat.reduceEqDiff, reduceIte, RM]
 refine awp_block (awp_loopH (ι := Nat) (fun k => [(2, .int .i64 now), (3, .ptr 0 0), (8, msD kn), (9, .osl 1 sh.length), (10, .osl 2 sh.length), (11, .int .i64 (mi + (n : Int))), (14, .int .i64 (k : Int))]) (fun k => [(2, .arr 4 1 (boolL (boolsF sh.length (D3 k)))), (1, .arr 4 1 (boolL (boolsF sh.length (F3 k)))), (0, .box [.int .i64 sw, .int .i64 sd, shD sh, rlD rl, lkD lk, .int .i64 cell, .int .i64 mi, .int .i64 ev, .int .i64 en, inD af])]) 3 (fun k => k ≤ kn.length) (fun k => kn.length - k) 0 (Nat.zero_le _) ?_ ?_)
 ·simp [headW, heapW, envW, blkLt, D.ltL, D.lt, look, hget, Sx.hset, shD, inD]
 intro k hkl
 refine awp_peel (T := [(2, [(12, false, false, [])])]) e72_ok (by kernel_rfl) (by kernel_rfl) ?_
 rcases Nat.lt_or_ge k kn.length with hlt3 | hge3
 rotate_left
 ·have hq2 := nat_lt_false hge3
  have hie : k = kn.length := by omega
  subst hie
  simp only [RT, FS, ↓RE, okR, argEnv, Nat.reduceAdd, Nat.reduceSub, Nat.reduceLT, Nat.reduceLeDiff, Nat.reduceEqDiff, reduceIte, RM, List.length_map, hq2, decide_false]
  simp [headW, heapW, envW, blkLt, D.ltL, D.lt, look, hget, Sx.hset, shD, inD]
 have hq2 := nat_lt_true hlt3
 have wk := wrap_i64 (z := (k : Int) + 1) (by omega) (by omega)
 obtain ⟨⟨mt, mc, md, came⟩, hr⟩ : ∃ r, kn[k]? = some r := ⟨kn[k], by simp [hlt3]⟩
 have hix := msD_ix hr
 have fS3 := fS3 k _ hr
 have dS3 := dS3 k _ hr
 dsimp only at hix
 simp only [RT, FS, ↓RE, okR, argEnv, Nat.reduceAdd, Nat.reduceSub, Nat.reduceLT, Nat.reduceLeDiff, Nat.reduceEqDiff, reduceIte, RM, List.length_map, hq2, decide_true]
 refine awp_seqF (ι := Unit) (nid := 3) (n := 164) (fun _ => [(2, .int .i64 now), (3, .ptr 0 0), (8, msD kn), (9, .osl 1 sh.length), (10, .osl 2 sh.length), (11, .int .i64 (mi + (n : Int))), (14, .int .i64 (k : Int))]) (fun _ => [(2, .arr 4 1 (boolL (boolsF sh.length (D3 (k + 1))))), (1, .arr 4 1 (boolL (boolsF sh.length (F3 (k + 1))))), (0, .box [.int .i64 sw, .int .i64 sd, shD sh, rlD rl, lkD lk, .int .i64 cell, .int .i64 mi, .int .i64 ev, .int .i64 en, inD af])]) (fun _ => True) ?_ ?_
 rotate_left
 ·rintro _ _
  refine awp_rest (T := [(2, [(12, false, false, [])])]) e72_ok (by kernel_rfl) (by kernel_rfl) ?_
  simp only [RT, FS, ↓RE, okR, argEnv, Nat.reduceAdd, Nat.reduceSub, Nat.reduceLT, Nat.reduceLeDiff, Nat.reduceEqDiff, reduceIte, RM, wk]
  exact ⟨k + 1, by omega, by omega, by simp [headW, heapW, envW, blkLt, D.ltL, D.lt, look, hget, Sx.hset, shD, inD]⟩
 refine awp_block ?_
 refine awp_peel (T := [(2, [(12, false, false, [])])]) e72_ok (by kernel_rfl) (by kernel_rfl) ?_
 simp only [RT, FS, ↓RE, okR, argEnv, Nat.reduceAdd, Nat.reduceSub, Nat.reduceLT, Nat.reduceLeDiff, Nat.reduceEqDiff, reduceIte, RM, hix]
 refine awp_peel (T := [(2, [(12, false, false, [])])]) e72_ok (by kernel_rfl) (by kernel_rfl) ?_
 simp only [RT, FS, ↓RE, okR, argEnv, Nat.reduceAdd, Nat.reduceSub, Nat.reduceLT, Nat.reduceLeDiff, Nat.reduceEqDiff, reduceIte, RM]
 cases q1 : decide (mt = mi + (n : Int))
 ·have b1 : (mt == mi + (n : Int)) = false := by simpa using q1
  have e1 : F3 (k + 1) = F3 k := funext fun c => by rw [fS3]; simp only [sayB, q1, Bool.false_and, Bool.not_false, Bool.and_true]
  have e2 : D3 (k + 1) = D3 k := funext fun c => by rw [dS3]; simp only [sayB, q1, Bool.false_and, Bool.not_false, Bool.and_true]
  rw [e1, e2]
  refine awp_block (awp_loopH (ι := Nat) (fun i => [(2, .int .i64 now), (3, .ptr 0 0), (8, msD kn), (9, .osl 1 sh.length), (10, .osl 2 sh.length), (11, .int .i64 (mi + (n : Int))), (14, .int .i64 (k : Int)), (15, .ptr 3 0), (16, .int .i64 (i : Int))]) (fun _ => [(3, .box [.int .i64 mt, .int .i64 mc, .bool md, .int .i64 came]), (2, .arr 4 1 (boolL (boolsF sh.length (D3 k)))), (1, .arr 4 1 (boolL (boolsF sh.length (F3 k)))), (0, .box [.int .i64 sw, .int .i64 sd, shD sh, rlD rl, lkD lk, .int .i64 cell, .int .i64 mi, .int .i64 ev, .int .i64 en, inD af])]) 4 (fun i => i = 0) (fun i => i) 0 rfl ?_ ?_)
  ·simp [headW, heapW, envW, blkLt, D.ltL, D.lt, look, hget, Sx.hset, shD, inD]
  rintro _ rfl
  have bnC := bn (F3 k) 1
  have hq2 := nat_lt_true (i := 0) (n := sh.length) (by omega)
  refine awp_peel (T := [(2, [(12, false, false, [])])]) e72_ok (by kernel_rfl) (by kernel_rfl) ?_
  simp only [RT, FS, ↓RE, okR, argEnv, Nat.reduceAdd, Nat.reduceSub, Nat.reduceLT, Nat.reduceLeDiff, Nat.reduceEqDiff, reduceIte, RM, bnC, hq2, decide_true, b1]
  simp [headW, heapW, envW, blkLt, D.ltL, D.lt, look, hget, Sx.hset, shD, inD]
 have b1 : (mt == mi + (n : Int)) = true := by simpa using q1
 replace fS3 : ∀ c, F3 (k + 1) c = (F3 k c && (!md && decide (mc = c))) := fun c => by
  rw [fS3]; simp only [sayB, q1, Bool.true_and]; cases md <;> cases decide (mc = c) <;> rfl
 replace dS3 : ∀ c, D3 (k + 1) c = (D3 k c && (md && decide (mc = c))) := fun c => by
  rw [dS3]; simp only [sayB, q1, Bool.true_and]; cases md <;> cases decide (mc = c) <;> rfl
 generalize F3 (k + 1) = f1 at *
 generalize D3 (k + 1) = d1 at *
 generalize F3 k = f0 at *
 generalize D3 k = d0 at *
 refine awp_block (awp_loopH (ι := Nat) (fun i => [(2, .int .i64 now), (3, .ptr 0 0), (8, msD kn), (9, .osl 1 sh.length), (10, .osl 2 sh.length), (11, .int .i64 (mi + (n : Int))), (14, .int .i64 (k : Int)), (15, .ptr 3 0), (16, .int .i64 (i : Int))]) (fun i => [(3, .box [.int .i64 mt, .int .i64 mc, .bool md, .int .i64 came]), (2, .arr 4 1 (boolL (boolsF sh.length (fun c => if c < (i : Int) then d1 c else d0 c)))), (1, .arr 4 1 (boolL (boolsF sh.length (fun c => if c < (i : Int) then f1 c else f0 c)))), (0, .box [.int .i64 sw, .int .i64 sd, shD sh, rlD rl, lkD lk, .int .i64 cell, .int .i64 mi, .int .i64 ev, .int .i64 en, inD af])]) 4 (fun i => i ≤ sh.length) (fun i => sh.length - i) 0 (Nat.zero_le _) ?_ ?_)
 ·have e1 : boolsF sh.length f0 = boolsF sh.length (fun c => if c < ((0 : Nat) : Int) then f1 c else f0 c) := boolsF_congr fun c h0 _ => by rw [if_neg (by omega)]
  have e2 : boolsF sh.length d0 = boolsF sh.length (fun c => if c < ((0 : Nat) : Int) then d1 c else d0 c) := boolsF_congr fun c h0 _ => by rw [if_neg (by omega)]
  rw [e1, e2]
  simp [headW, heapW, envW, blkLt, D.ltL, D.lt, look, hget, Sx.hset, shD, inD]
 intro i hil
 have gen : ∀ A A1 : Int → Bool, ∃ C : Nat → Int → Bool, (∀ i : Nat, (fun c : Int => if c < (i : Int) then A1 c else A c) = C i) ∧ (∀ i : Nat, C i (i : Int) = A (i : Int)) ∧ (∀ i : Nat, (fun c => if c = (i : Int) then A1 (i : Int) else C i c) = C (i + 1)) := fun A A1 => by
  refine ⟨fun i c => if c < ((i : Nat) : Int) then A1 c else A c, fun _ => rfl, fun i => by simp, fun i => funext fun c => ?_⟩
  by_cases e : c = (i : Int)
  ·subst e
   rw [if_pos rfl]
   simp only
   rw [if_pos (by omega)]
  ·rw [if_neg e]
   simp only
   by_cases e2 : c < (i : Int)
   ·rw [if_pos e2, if_pos (by omega)]
   ·rw [if_neg e2, if_neg (by omega)]
 obtain ⟨C, hCe, hCi, hCS⟩ := gen f0 f1
 obtain ⟨E, hEe, hEi, hES⟩ := gen d0 d1
 clear gen
 simp only [hCe, hEe]
 have bnC := bn (C i) 1
 refine awp_peel (T := [(2, [(12, false, false, [])])]) e72_ok (by kernel_rfl) (by kernel_rfl) ?_
 rcases Nat.lt_or_ge i sh.length with hlt4 | hge4
 rotate_left
 ·have hq2 := nat_lt_false hge4
  simp only [RT, FS, ↓RE, okR, argEnv, Nat.reduceAdd, Nat.reduceSub, Nat.reduceLT, Nat.reduceLeDiff, Nat.reduceEqDiff, reduceIte, RM, bnC, hq2, decide_false, b1]
  have hie : i = sh.length := by omega
  subst hie
  have e1 : boolsF sh.length f1 = boolsF sh.length (C sh.length) := boolsF_congr fun c h0 h1 => by rw [← hCe]; simp only; rw [if_pos h1]
  have e2 : boolsF sh.length d1 = boolsF sh.length (E sh.length) := boolsF_congr fun c h0 h1 => by rw [← hEe]; simp only; rw [if_pos h1]
  rw [e1, e2]
  simp [headW, heapW, envW, blkLt, D.ltL, D.lt, look, hget, Sx.hset, shD, inD]
 have hq2 := nat_lt_true hlt4
 have wi := wrap_i64 (z := (i : Int) + 1) (by omega) (by omega)
 have x1 := bx (C i) 1 i hlt4
 have l1 := bl (C i) 1 i hlt4
 have x2 := bx (E i) 2 i hlt4
 have l2 := bl (E i) 2 i hlt4
 have s1 := bs (C i) 1 i hlt4 (f1 (i : Int))
 have s2 := bs (E i) 2 i hlt4 (d1 (i : Int))
 rw [hCi] at l1
 rw [hEi] at l2
 rw [hCS] at s1
 rw [hES] at s2
 obtain ⟨q, q2⟩ : ∃ q, decide (mc = (i : Int)) = q := ⟨_, rfl⟩
 have b2 : ((i : Int) == mc) = q := by rw [← q2, Bool.eq_iff_iff]; simp; omega
 have f1i := fS3 (i : Int)
 have d1i := dS3 (i : Int)
 rw [q2] at f1i d1i
 clear fS3 dS3 hCe hEe hCS hES hCi hEi
 simp only [RT, FS, ↓RE, okR, argEnv, Nat.reduceAdd, Nat.reduceSub, Nat.reduceLT, Nat.reduceLeDiff, Nat.reduceEqDiff, reduceIte, RM, bnC, hq2, decide_true, b1]
 refine awp_seqF (ι := Unit) (nid := 4) (n := 164) (fun _ => [(2, .int .i64 now), (3, .ptr 0 0), (8, msD kn), (9, .osl 1 sh.length), (10, .osl 2 sh.length), (11, .int .i64 (mi + (n : Int))), (14, .int .i64 (k : Int)), (15, .ptr 3 0), (16, .int .i64 (i : Int))]) (fun _ => [(3, .box [.int .i64 mt, .int .i64 mc, .bool md, .int .i64 came]), (2, .arr 4 1 (boolL (boolsF sh.length (E (i + 1))))), (1, .arr 4 1 (boolL (boolsF sh.length (C (i + 1))))), (0, .box [.int .i64 sw, .int .i64 sd, shD sh, rlD rl, lkD lk, .int .i64 cell, .int .i64 mi, .int .i64 ev, .int .i64 en, inD af])]) (fun _ => True) ?_ ?_
 rotate_left
 ·rintro _ _
  refine awp_rest (T := [(2, [(12, false, false, [])])]) e72_ok (by kernel_rfl) (by kernel_rfl) ?_
  simp only [RT, FS, ↓RE, okR, argEnv, Nat.reduceAdd, Nat.reduceSub, Nat.reduceLT, Nat.reduceLeDiff, Nat.reduceEqDiff, reduceIte, RM, wi]
  exact ⟨i + 1, by omega, by omega, by simp [headW, heapW, envW, blkLt, D.ltL, D.lt, look, hget, Sx.hset, shD, inD]⟩
 refine awp_block ?_
 refine awp_seqF (ι := Unit) (nid := 4) (n := 164) (fun _ => [(2, .int .i64 now), (3, .ptr 0 0), (8, msD kn), (9, .osl 1 sh.length), (10, .osl 2 sh.length), (11, .int .i64 (mi + (n : Int))), (14, .int .i64 (k : Int)), (15, .ptr 3 0), (16, .int .i64 (i : Int))]) (fun _ => [(3, .box [.int .i64 mt, .int .i64 mc, .bool md, .int .i64 came]), (2, .arr 4 1 (boolL (boolsF sh.length (E i)))), (1, .arr 4 1 (boolL (boolsF sh.length (C (i + 1))))), (0, .box [.int .i64 sw, .int .i64 sd, shD sh, rlD rl, lkD lk, .int .i64 cell, .int .i64 mi, .int .i64 ev, .int .i64 en, inD af])]) (fun _ => True) ?_ ?_
 ·refine awp_rest (T := [(2, [(12, false, false, [])])]) e72_ok (by kernel_rfl) (by kernel_rfl) ?_
  cases q5 : f0 (i : Int)
  ·rw [q5] at l1 f1i
   rw [f1i, Bool.false_and] at s1
   simp only [RT, FS, ↓RE, okR, argEnv, Nat.reduceAdd, Nat.reduceSub, Nat.reduceLT, Nat.reduceLeDiff, Nat.reduceEqDiff, reduceIte, RM, x1, l1, s1]
   simp [headW, heapW, envW, blkLt, D.ltL, D.lt, look, hget, Sx.hset, shD, inD]
  rw [q5] at l1 f1i
  cases md
  ·rw [f1i] at s1
   simp only [Bool.true_and, Bool.not_false] at s1
   simp only [RT, FS, ↓RE, okR, argEnv, Nat.reduceAdd, Nat.reduceSub, Nat.reduceLT, Nat.reduceLeDiff, Nat.reduceEqDiff, reduceIte, RM, x1, l1, b2, s1]
   simp [headW, heapW, envW, blkLt, D.ltL, D.lt, look, hget, Sx.hset, shD, inD]
  ·rw [f1i] at s1
   simp only [Bool.not_true, Bool.false_and, Bool.and_false] at s1
   simp only [RT, FS, ↓RE, okR, argEnv, Nat.reduceAdd, Nat.reduceSub, Nat.reduceLT, Nat.reduceLeDiff, Nat.reduceEqDiff, reduceIte, RM, x1, l1, s1]
   simp [headW, heapW, envW, blkLt, D.ltL, D.lt, look, hget, Sx.hset, shD, inD]
 rintro _ _
 refine awp_rest (T := [(2, [(12, false, false, [])])]) e72_ok (by kernel_rfl) (by kernel_rfl) ?_
 cases q5 : d0 (i : Int)
 ·rw [q5] at l2 d1i
  rw [d1i, Bool.false_and] at s2
  simp only [RT, FS, ↓RE, okR, argEnv, Nat.reduceAdd, Nat.reduceSub, Nat.reduceLT, Nat.reduceLeDiff, Nat.reduceEqDiff, reduceIte, RM, x2, l2, s2]
  simp [headW, heapW, envW, blkLt, D.ltL, D.lt, look, hget, Sx.hset, shD, inD]
 rw [q5] at l2 d1i
 cases md
 ·rw [d1i] at s2
  simp only [Bool.false_and, Bool.and_false] at s2
  simp only [RT, FS, ↓RE, okR, argEnv, Nat.reduceAdd, Nat.reduceSub, Nat.reduceLT, Nat.reduceLeDiff, Nat.reduceEqDiff, reduceIte, RM, x2, l2, s2]
  simp [headW, heapW, envW, blkLt, D.ltL, D.lt, look, hget, Sx.hset, shD, inD]
 ·rw [d1i] at s2
  simp only [Bool.true_and] at s2
  simp only [RT, FS, ↓RE, okR, argEnv, Nat.reduceAdd, Nat.reduceSub, Nat.reduceLT, Nat.reduceLeDiff, Nat.reduceEqDiff, reduceIte, RM, x2, l2, b2, s2]
  simp [headW, heapW, envW, blkLt, D.ltL, D.lt, look, hget, Sx.hset, shD, inD]
end Go.Sx
