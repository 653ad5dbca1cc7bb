/- Own work: contracts of functions, used in the proof of a law. -/
import Derived.Test.YtjhoplbdpdbgaaaGreatDoorSxNC
import Derived.Test.YtjhoplbdpdbgaaaGreatDoorSxMn
set_option linter.unusedVariables false
set_option linter.unusedSimpArgs false
namespace Go.Sx
open Go.Proofs Go.Lib
set_option maxRecDepth 10000
variable {w0 : World}

theorem names_t : Pure Tryz.prog 95 [] (.agg (namesB.map stD)) := by
 refine pure_of_pieces (rs := [.cell 0 139]) (m := 2) [] oNone_ok (by kernel_rfl) Tryz.func95 rfl (by kernel_rfl) rfl rfl (by kernel_rfl) ?_
 refine awp_peel (T := []) oNone_ok (by kernel_rfl) (by kernel_rfl) ?_
 simp only [FS, ↓RE, okR, argEnv, Nat.reduceAdd, Nat.reduceSub, Nat.reduceLT, Nat.reduceLeDiff, Nat.reduceEqDiff, reduceIte, RT, RM]
 refine awp_rest (T := []) oNone_ok (by kernel_rfl) (by kernel_rfl) ?_
 simp only [FS, ↓RE, okR, argEnv, Nat.reduceAdd, Nat.reduceSub, Nat.reduceLT, Nat.reduceLeDiff, Nat.reduceEqDiff, reduceIte, RT, RM]
 rfl
def v8 (s n : Bs) (i : Nat) (r l m : Int) : Nat → D
 | 0 => stD s | 1 => stD n | 2 => .ptr 0 (4 * i) | 3 => .ptr 0 (4 * i) | 4 => .ptr 0 (4 * i + 0) | 5 => .int .i64 r | 6 => .ptr 0 (4 * i) | 7 => .ptr 0 (4 * i) | 8 => .ptr 0 (4 * i + 1) | 9 => .int .i64 l
 | 10 => .ptr 0 (4 * i) | 11 => .ptr 0 (4 * i) | 12 => .ptr 0 (4 * i + 2) | 13 => .int .i64 m | 14 => nmD [r, l, m] | 15 => stD (linB n [r, l, m] ++ [10]) | _ => stD (s ++ (linB n [r, l, m] ++ [10]))
theorem ga_load {w : Wx} {i : Nat} {g : Ga} (h : w.gs[i]? = some g) : loadAtD Tryz.prog [(0, .box (w.c []))] 3 (.ptr 0 (4 * i + 0)) = some (.int .i64 g.rate) ∧ loadAtD Tryz.prog [(0, .box (w.c []))] 3 (.ptr 0 (4 * i + 1)) = some (.int .i64 g.least) ∧
  loadAtD Tryz.prog [(0, .box (w.c []))] 3 (.ptr 0 (4 * i + 2)) = some (.int .i64 g.most) ∧ loadAtD Tryz.prog [(0, .box (w.c []))] 25 (.ptr 0 (4 * i + 3)) = some (.sl (g.rs.map Rd.d)) := by
 match i, h with
 | 0, h | 1, h | 2, h | 3, h | 4, h => 
  obtain rfl := Option.some.inj h
  exact ⟨by kernel_rfl, by kernel_rfl, by kernel_rfl, by kernel_rfl⟩
 | i + 5, h => simp [Wx.gs] at h
theorem names_i {P : Nat → Bs → Prop} (h0 : P 0 [116, 105, 100, 101]) (h1 : P 1 [101, 97, 115, 116]) (h2 : P 2 [110, 111, 114, 116, 104]) (h3 : P 3 [119, 97, 118, 101]) (h4 : P 4 [115, 119, 101, 108, 108]) {i : Nat} {n : Bs} (h : namesB[i]? = some n) : P i n := by
 match i, h with
 | 0, h | 1, h | 2, h | 3, h | 4, h =>
  obtain rfl := Option.some.inj h
  assumption
 | i + 5, h => simp [namesB] at h
theorem names_ix {i : Nat} {n : Bs} (h : namesB[i]? = some n) : indexD Tryz.prog 139 (.agg (namesB.map stD)) (.int .i64 (i : Int)) = some (stD n) :=
 names_i (P := fun i n => indexD Tryz.prog 139 (.agg (namesB.map stD)) (.int .i64 (i : Int)) = some (stD n)) (by kernel_rfl) (by kernel_rfl) (by kernel_rfl) (by kernel_rfl) (by kernel_rfl) h
def gmH (WC : List D) : H := [(1, .map [(.str ⟨#[116, 105, 100, 101]⟩, .ptr 0 0), (.str ⟨#[101, 97, 115, 116]⟩, .ptr 0 4), (.str ⟨#[110, 111, 114, 116, 104]⟩, .ptr 0 8), (.str ⟨#[119, 97, 118, 101]⟩, .ptr 0 12), (.str ⟨#[115, 119, 101, 108, 108]⟩, .ptr 0 16)]), (0, .box WC)]
theorem names_lk' {i : Nat} {n : Bs} (h : namesB[i]? = some n) (WC : List D) : lookupD Tryz.prog (gmH WC) 142 (.mp 1) (stD n) false = some (.ptr 0 (4 * i)) :=
 names_i (P := fun i n => lookupD Tryz.prog (gmH WC) 142 (.mp 1) (stD n) false = some (.ptr 0 (4 * i))) (by kernel_rfl) (by kernel_rfl) (by kernel_rfl) (by kernel_rfl) (by kernel_rfl) h
theorem names_lk {i : Nat} {n : Bs} (h : namesB[i]? = some n) (WC : List D) : lookupD Tryz.prog [(1, .map [(.str ⟨#[116, 105, 100, 101]⟩, .ptr 0 0), (.str ⟨#[101, 97, 115, 116]⟩, .ptr 0 4), (.str ⟨#[110, 111, 114, 116, 104]⟩, .ptr 0 8), (.str ⟨#[119, 97, 118, 101]⟩, .ptr 0 12), (.str ⟨#[115, 119, 101, 108, 108]⟩, .ptr 0 16)]), (0, .box WC)] 142 (.mp 1) (stD n) false = some (.ptr 0 (4 * i)) := names_lk' h WC
theorem names_lt (m : Nat) : D.ltL m (namesB.map stD) = true := by simp [namesB, D.ltL, D.lt]
set_option maxHeartbeats 4000000 in
theorem Print_g (hT : TabsT w0) {w : Wx} (hl : WxL w) (hw : okWx w = true → GsOk w.gs) {R : List PanicEntry → H → Nat → Prop} :
  PCallG Tryz.prog w0 41 [.agg (w.c [])] [] 0 (fun r _ _ => r = if okWx w = true then .tup [stD (printB w.gs), .int .i64 0] else .tup [stD [], .int .i64 2]) R := by
 have pW := weather_t w hl
 refine pcallg_of_pieces (rs := [.tmp 2, .tmp 3]) (m := 70) Tryz.func41 rfl (by kernel_rfl) rfl rfl ?_
 refine awg_peel (T := []) oNone_ok (by kernel_rfl) (by kernel_rfl) ?_
 simp only [FS, ↓RE, okR, argEnv, Nat.reduceAdd, Nat.reduceSub, Nat.reduceLT, Nat.reduceLeDiff, Nat.reduceEqDiff, reduceIte, RT, RM, RG]
 refine awg_peel (T := []) oNone_ok (by kernel_rfl) (by kernel_rfl) ?_
 simp only [FS, ↓RE, okR, argEnv, Nat.reduceAdd, Nat.reduceSub, Nat.reduceLT, Nat.reduceLeDiff, Nat.reduceEqDiff, reduceIte, RT, RM, RG]
 refine call_of_pure pW rfl ?_
 cases hk : okWx w
 ·simp only [FS, ↓RE, okR, argEnv, Nat.reduceAdd, Nat.reduceSub, Nat.reduceLT, Nat.reduceLeDiff, Nat.reduceEqDiff, reduceIte, RT, RM, RG, Bool.not_false]
  rfl
 have hw := hw hk
 simp only [FS, ↓RE, okR, argEnv, Nat.reduceAdd, Nat.reduceSub, Nat.reduceLT, Nat.reduceLeDiff, Nat.reduceEqDiff, reduceIte, RT, RM, RG, Bool.not_true]
 rw [print_eq hw.l, ← mn_all hw]
 have hpl := pr_len hw
 have hml := mn_le hw
 have hg := hw.g
 have l1e := fun i => lin_len (end_ok (hml i))
 have hP0 : prB w.gs 0 = [] := rfl
 have hM0 : mnB w.gs 0 = 0 := rfl
 have hPS := fun i n g => pr_succ (gs := w.gs) (i := i) (n := n) (g := g)
 have hMS : ∀ i g, w.gs[i]? = some g → mnB w.gs (i + 1) = mnB w.gs i + g.rs.length := fun i g h => many_snoc h
 have hld := fun i g => ga_load (w := w) (i := i) (g := g)
 have hl5 := hw.l
 generalize prB w.gs = PR at *
 generalize mnB w.gs = MN at *
 generalize w.gs = gs at *
 have hWC : ∀ m, D.ltL m (w.c []) = true := fun m => by simp [D.ltL, D.lt]
 generalize w.c [] = WC at *
 clear hw
 refine awg_peelT (T := []) oNone_ok rfl ?_
 simp only [FS, ↓RE, okR, argEnv, Nat.reduceAdd, Nat.reduceSub, Nat.reduceLT, Nat.reduceLeDiff, Nat.reduceEqDiff, reduceIte, RT, RM, RG]
 refine awg_seq ?_
 refine awg_peelT (T := []) oNone_ok rfl ?_
 simp only [FS, ↓RE, okR, argEnv, Nat.reduceAdd, Nat.reduceSub, Nat.reduceLT, Nat.reduceLeDiff, Nat.reduceEqDiff, reduceIte, RT, RM, RG]
 refine call_of_pure' names_t rfl rfl ?_
 simp only [FS, ↓RE, okR, argEnv, Nat.reduceAdd, Nat.reduceSub, Nat.reduceLT, Nat.reduceLeDiff, Nat.reduceEqDiff, reduceIte, RT, RM, RG]
 refine awg_block ?_
 refine awg_loopI (ι := Nat) (fun i => ⟨[(1, .ptr 0 0), (4, stD (PR i)), (5, .int .i64 (MN i : Nat)), (14, .agg (namesB.map stD)), (15, .int .i64 (i : Int))], [(0, .box WC)], 1, 70⟩) (fun i => i ≤ 5) (fun i => 5 - i) 0 (Nat.zero_le _) (imp_head (by rw [hP0, hM0]; simp [headW, heapW, envW, blkLt, D.ltL, D.lt, look, hget, hWC, names_lt]; rfl)) ?_
 intro i hil
 refine awg_peelT (T := []) oNone_ok rfl ?_
 rcases Nat.lt_or_ge i 5 with hlt | hge
 ·have hc : ((i : Int) < 5) = True := by simp; omega
  obtain ⟨n, hn⟩ : ∃ n, namesB[i]? = some n := ⟨namesB[i]'(by simp [namesB]; omega), by simp⟩
  obtain ⟨g, hgi⟩ : ∃ g, gs[i]? = some g := ⟨gs[i], by simp [hl5, hlt]⟩
  have hn5 := names_5 n (List.mem_of_getElem? hn)
  obtain ⟨sg, h30⟩ := hg g (List.mem_of_getElem? hgi)
  obtain ⟨ld0, ld1, ld2, ld3⟩ := hld i g hgi
  rw [Nat.add_zero] at ld0
  have lL := lin_len (ga_ok hn5 sg)
  have hPS := hPS i n g hn hgi
  have hMS := hMS i g hgi
  have hw1 := wrap_i64 (z := (i : Int) + 1) (by omega) (by omega)
  have hpi := hpl i
  have hmi := hml i
  have hrl : (g.rs.map Rd.d).length = g.rs.length := List.length_map ..
  simp only [FS, ↓RE, okR, argEnv, Nat.reduceAdd, Nat.reduceSub, Nat.reduceLT, Nat.reduceLeDiff, Nat.reduceEqDiff, reduceIte, RT, RM, RG, hc, decide_true]
  refine awg_peelT (T := []) oNone_ok rfl ?_
  simp only [FS, ↓RE, okR, argEnv, Nat.reduceAdd, Nat.reduceSub, Nat.reduceLT, Nat.reduceLeDiff, Nat.reduceEqDiff, reduceIte, RT, RM, RG]
  refine awg_seq ?_
  refine awg_block ?_
  refine awg_peelI (T := []) oNone_ok (by kernel_rfl) [(1, .ptr 0 0), (4, stD (PR i)), (5, .int .i64 (MN i : Nat)), (7, stD n), (14, .agg (namesB.map stD)), (15, .int .i64 (i : Int))] [(0, .box WC)] 1 70 (by kernel_rfl) ?_ ?_
  ·simp only [FS, ↓RE, okR, argEnv, Nat.reduceAdd, Nat.reduceSub, Nat.reduceLT, Nat.reduceLeDiff, Nat.reduceEqDiff, reduceIte, RT, RM, RG, names_ix hn]
   simp [headW, heapW, envW, blkLt, D.ltL, D.lt, look, hget, hWC, names_lt]
  refine awg_peelI (T := []) oNone_ok (by kernel_rfl) [(1, .ptr 0 0), (4, stD (PR i)), (5, .int .i64 (MN i : Nat)), (7, stD n), (8, .ptr 0 (4 * i)), (14, .agg (namesB.map stD)), (15, .int .i64 (i : Int))] [(0, .box WC)] 1 70 (by kernel_rfl) ?_ ?_
  ·simp only [FS, ↓RE, okR, argEnv, Nat.reduceAdd, Nat.reduceSub, Nat.reduceLT, Nat.reduceLeDiff, Nat.reduceEqDiff, reduceIte, RT, RM, RG]
   refine call_of_acall ((gauges_t 0 _ _).mono ?_)
   rintro r h' n' ⟨rfl, rfl, rfl⟩
   simp only [FS, ↓RE, okR, argEnv, Nat.reduceAdd, Nat.reduceSub, Nat.reduceLT, Nat.reduceLeDiff, Nat.reduceEqDiff, reduceIte, RT, RM, RG, names_lk hn WC]
   simp [headW, heapW, envW, blkLt, D.ltL, D.lt, look, hget, hWC, names_lt]
  have lI := fun h => lit_i3 h g.rate g.least g.most
  have a1 := s_add (P := Tryz.prog) 9 (a := PR i) (b := linB n [g.rate, g.least, g.most] ++ [10]) (by simp only [List.length_append, List.length_cons, List.length_nil] at lL ⊢; omega)
  refine awg_seq (awg_drawP oNone_ok (by kernel_rfl) (v8 (PR i) n i g.rate g.least g.most) (by kernel_rfl) (by kernel_rfl) ?_ ?_)
  ·intro L i o e hcl hoo hnr hr hsl
   have ho := hoo
   have hi : i < 18 := lt_of_arr hoo
   obtain rfl | rfl | rfl | rfl | rfl | rfl | rfl | rfl | rfl | rfl | rfl | rfl | rfl | rfl | rfl | rfl | rfl | rfl : i = 0 ∨ i = 1 ∨ i = 2 ∨ i = 3 ∨ i = 4 ∨ i = 5 ∨ i = 6 ∨ i = 7 ∨ i = 8 ∨ i = 9 ∨ i = 10 ∨ i = 11 ∨ i = 12 ∨ i = 13 ∨ i = 14 ∨ i = 15 ∨ i = 16 ∨ i = 17 := by omega
   ·simp only [List.getElem?_toArray, List.getElem?_cons_succ, List.getElem?_cons_zero, Option.some.injEq] at hoo
    subst hoo
    have k4 := hsl.old1 4 17 rfl (fun h => hnr (hcl 17 0 h (by decide)))
    simp only [look, Nat.reduceEqDiff, reduceIte] at k4
    refine ⟨rfl, .inl ?_⟩
    simp only [FS, ↓RE, okR, argEnv, Nat.reduceAdd, Nat.reduceSub, Nat.reduceLT, Nat.reduceLeDiff, Nat.reduceEqDiff, reduceIte, RT, RM, k4]
    first | exact rfl | exact ⟨rfl, rfl, rfl⟩
   ·simp only [List.getElem?_toArray, List.getElem?_cons_succ, List.getElem?_cons_zero, Option.some.injEq] at hoo
    subst hoo
    have k7 := hsl.base 7 rfl
    simp only [look, Nat.reduceEqDiff, reduceIte] at k7
    refine ⟨rfl, .inl ?_⟩
    simp only [FS, ↓RE, okR, argEnv, Nat.reduceAdd, Nat.reduceSub, Nat.reduceLT, Nat.reduceLeDiff, Nat.reduceEqDiff, reduceIte, RT, RM, k7]
    first | exact rfl | exact ⟨rfl, rfl, rfl⟩
   ·simp only [List.getElem?_toArray, List.getElem?_cons_succ, List.getElem?_cons_zero, Option.some.injEq] at hoo
    subst hoo
    have k8 := hsl.base 8 rfl
    simp only [look, Nat.reduceEqDiff, reduceIte] at k8
    refine ⟨rfl, .inl ?_⟩
    simp only [FS, ↓RE, okR, argEnv, Nat.reduceAdd, Nat.reduceSub, Nat.reduceLT, Nat.reduceLeDiff, Nat.reduceEqDiff, reduceIte, RT, RM, k8]
    first | exact rfl | exact ⟨rfl, rfl, rfl⟩
   ·simp only [List.getElem?_toArray, List.getElem?_cons_succ, List.getElem?_cons_zero, Option.some.injEq] at hoo
    subst hoo
    have k23 := hsl.new 2 _ 23 rfl (hr 2 (by decide)) rfl
    simp only [v8] at k23
    refine ⟨rfl, .inl ?_⟩
    simp only [FS, ↓RE, okR, argEnv, Nat.reduceAdd, Nat.reduceSub, Nat.reduceLT, Nat.reduceLeDiff, Nat.reduceEqDiff, reduceIte, RT, RM, k23]
    first | exact rfl | exact ⟨rfl, rfl, rfl⟩
   ·simp only [List.getElem?_toArray, List.getElem?_cons_succ, List.getElem?_cons_zero, Option.some.injEq] at hoo
    subst hoo
    have k24 := hsl.new 3 _ 24 rfl (hr 3 (by decide)) rfl
    simp only [v8] at k24
    refine ⟨rfl, .inl ?_⟩
    simp only [FS, ↓RE, okR, argEnv, Nat.reduceAdd, Nat.reduceSub, Nat.reduceLT, Nat.reduceLeDiff, Nat.reduceEqDiff, reduceIte, RT, RM, k24]
    first | exact rfl | exact ⟨rfl, rfl, rfl⟩
   ·simp only [List.getElem?_toArray, List.getElem?_cons_succ, List.getElem?_cons_zero, Option.some.injEq] at hoo
    subst hoo
    have k25 := hsl.new 4 _ 25 rfl (hr 4 (by decide)) rfl
    simp only [v8] at k25
    refine ⟨rfl, .inl ?_⟩
    simp only [FS, ↓RE, okR, argEnv, Nat.reduceAdd, Nat.reduceSub, Nat.reduceLT, Nat.reduceLeDiff, Nat.reduceEqDiff, reduceIte, RT, RM, k25, ld0]
    first | exact rfl | exact ⟨rfl, rfl, rfl⟩
   ·simp only [List.getElem?_toArray, List.getElem?_cons_succ, List.getElem?_cons_zero, Option.some.injEq] at hoo
    subst hoo
    have k8 := hsl.base 8 rfl
    simp only [look, Nat.reduceEqDiff, reduceIte] at k8
    refine ⟨rfl, .inl ?_⟩
    simp only [FS, ↓RE, okR, argEnv, Nat.reduceAdd, Nat.reduceSub, Nat.reduceLT, Nat.reduceLeDiff, Nat.reduceEqDiff, reduceIte, RT, RM, k8]
    first | exact rfl | exact ⟨rfl, rfl, rfl⟩
   ·simp only [List.getElem?_toArray, List.getElem?_cons_succ, List.getElem?_cons_zero, Option.some.injEq] at hoo
    subst hoo
    have k27 := hsl.new 6 _ 27 rfl (hr 6 (by decide)) rfl
    simp only [v8] at k27
    refine ⟨rfl, .inl ?_⟩
    simp only [FS, ↓RE, okR, argEnv, Nat.reduceAdd, Nat.reduceSub, Nat.reduceLT, Nat.reduceLeDiff, Nat.reduceEqDiff, reduceIte, RT, RM, k27]
    first | exact rfl | exact ⟨rfl, rfl, rfl⟩
   ·simp only [List.getElem?_toArray, List.getElem?_cons_succ, List.getElem?_cons_zero, Option.some.injEq] at hoo
    subst hoo
    have k28 := hsl.new 7 _ 28 rfl (hr 7 (by decide)) rfl
    simp only [v8] at k28
    refine ⟨rfl, .inl ?_⟩
    simp only [FS, ↓RE, okR, argEnv, Nat.reduceAdd, Nat.reduceSub, Nat.reduceLT, Nat.reduceLeDiff, Nat.reduceEqDiff, reduceIte, RT, RM, k28]
    first | exact rfl | exact ⟨rfl, rfl, rfl⟩
   ·simp only [List.getElem?_toArray, List.getElem?_cons_succ, List.getElem?_cons_zero, Option.some.injEq] at hoo
    subst hoo
    have k29 := hsl.new 8 _ 29 rfl (hr 8 (by decide)) rfl
    simp only [v8] at k29
    refine ⟨rfl, .inl ?_⟩
    simp only [FS, ↓RE, okR, argEnv, Nat.reduceAdd, Nat.reduceSub, Nat.reduceLT, Nat.reduceLeDiff, Nat.reduceEqDiff, reduceIte, RT, RM, k29, ld1]
    first | exact rfl | exact ⟨rfl, rfl, rfl⟩
   ·simp only [List.getElem?_toArray, List.getElem?_cons_succ, List.getElem?_cons_zero, Option.some.injEq] at hoo
    subst hoo
    have k8 := hsl.base 8 rfl
    simp only [look, Nat.reduceEqDiff, reduceIte] at k8
    refine ⟨rfl, .inl ?_⟩
    simp only [FS, ↓RE, okR, argEnv, Nat.reduceAdd, Nat.reduceSub, Nat.reduceLT, Nat.reduceLeDiff, Nat.reduceEqDiff, reduceIte, RT, RM, k8]
    first | exact rfl | exact ⟨rfl, rfl, rfl⟩
   ·simp only [List.getElem?_toArray, List.getElem?_cons_succ, List.getElem?_cons_zero, Option.some.injEq] at hoo
    subst hoo
    have k31 := hsl.new 10 _ 31 rfl (hr 10 (by decide)) rfl
    simp only [v8] at k31
    refine ⟨rfl, .inl ?_⟩
    simp only [FS, ↓RE, okR, argEnv, Nat.reduceAdd, Nat.reduceSub, Nat.reduceLT, Nat.reduceLeDiff, Nat.reduceEqDiff, reduceIte, RT, RM, k31]
    first | exact rfl | exact ⟨rfl, rfl, rfl⟩
   ·simp only [List.getElem?_toArray, List.getElem?_cons_succ, List.getElem?_cons_zero, Option.some.injEq] at hoo
    subst hoo
    have k32 := hsl.new 11 _ 32 rfl (hr 11 (by decide)) rfl
    simp only [v8] at k32
    refine ⟨rfl, .inl ?_⟩
    simp only [FS, ↓RE, okR, argEnv, Nat.reduceAdd, Nat.reduceSub, Nat.reduceLT, Nat.reduceLeDiff, Nat.reduceEqDiff, reduceIte, RT, RM, k32]
    first | exact rfl | exact ⟨rfl, rfl, rfl⟩
   ·simp only [List.getElem?_toArray, List.getElem?_cons_succ, List.getElem?_cons_zero, Option.some.injEq] at hoo
    subst hoo
    have k33 := hsl.new 12 _ 33 rfl (hr 12 (by decide)) rfl
    simp only [v8] at k33
    refine ⟨rfl, .inl ?_⟩
    simp only [FS, ↓RE, okR, argEnv, Nat.reduceAdd, Nat.reduceSub, Nat.reduceLT, Nat.reduceLeDiff, Nat.reduceEqDiff, reduceIte, RT, RM, k33, ld2]
    first | exact rfl | exact ⟨rfl, rfl, rfl⟩
   ·simp only [List.getElem?_toArray, List.getElem?_cons_succ, List.getElem?_cons_zero, Option.some.injEq] at hoo
    subst hoo
    have k26 := hsl.new 5 _ 26 rfl (hr 5 (by decide)) rfl
    simp only [v8] at k26
    have k30 := hsl.new 9 _ 30 rfl (hr 9 (by decide)) rfl
    simp only [v8] at k30
    have k34 := hsl.new 13 _ 34 rfl (hr 13 (by decide)) rfl
    simp only [v8] at k34
    refine ⟨rfl, .inl ?_⟩
    simp only [FS, ↓RE, okR, argEnv, Nat.reduceAdd, Nat.reduceSub, Nat.reduceLT, Nat.reduceLeDiff, Nat.reduceEqDiff, reduceIte, RT, RM, k26, k30, k34, lI]
    first | exact rfl | exact ⟨rfl, rfl, rfl⟩
   ·simp only [List.getElem?_toArray, List.getElem?_cons_succ, List.getElem?_cons_zero, Option.some.injEq] at hoo
    subst hoo
    have k22 := hsl.new 1 _ 22 rfl (hr 1 (by decide)) rfl
    simp only [v8] at k22
    have k35 := hsl.new 14 _ 35 rfl (hr 14 (by decide)) rfl
    simp only [v8] at k35
    have pL := (pcallg_data (h := [(0, .box WC)]) (nid := 1) (A := fun r => r = stD (linB n [g.rate, g.least, g.most] ++ [10])) (R := fun _ => False) (line_g hT (ga_ok hn5 sg)) rfl fun r hr => by subst hr; rfl).mono (Q' := fun r h' nid' => r = v8 (PR i) n i g.rate g.least g.most 15 ∧ h' = [(0, .box WC)] ∧ nid' = 1) (R' := fun _ _ _ => False) (fun _ _ _ h => h) fun _ _ _ h => h.1.elim
    refine ⟨rfl, .inr ⟨_, _, _, rfl, ?_, pL⟩⟩
    simp [calleeD, evO, k22, k35]
   ·simp only [List.getElem?_toArray, List.getElem?_cons_succ, List.getElem?_cons_zero, Option.some.injEq] at hoo
    subst hoo
    have k21 := hsl.new 0 _ 21 rfl (hr 0 (by decide)) rfl
    simp only [v8] at k21
    have k36 := hsl.new 15 _ 36 rfl (hr 15 (by decide)) rfl
    simp only [v8] at k36
    refine ⟨rfl, .inl ?_⟩
    simp only [FS, ↓RE, okR, argEnv, Nat.reduceAdd, Nat.reduceSub, Nat.reduceLT, Nat.reduceLeDiff, Nat.reduceEqDiff, reduceIte, RT, RM, k21, k36, a1]
    first | exact rfl | exact ⟨rfl, rfl, rfl⟩
   ·simp only [List.getElem?_toArray, List.getElem?_cons_succ, List.getElem?_cons_zero, Option.some.injEq] at hoo
    subst hoo
    have k37 := hsl.new 16 _ 37 rfl (hr 16 (by decide)) rfl
    simp only [v8] at k37
    refine ⟨rfl, .inl ?_⟩
    simp only [FS, ↓RE, okR, argEnv, Nat.reduceAdd, Nat.reduceSub, Nat.reduceLT, Nat.reduceLeDiff, Nat.reduceEqDiff, reduceIte, RT, RM, k37]
    first | exact rfl | exact ⟨rfl, rfl, rfl⟩
  ·intro L e hall hsl
   have k1 := hsl.base 1 rfl
   have k5 := hsl.base 5 rfl
   have k8 := hsl.base 8 rfl
   have k14 := hsl.base 14 rfl
   have k15 := hsl.base 15 rfl
   have k4 := hsl.new 17 _ 4 rfl (hall 17 (by decide)) rfl
   simp only [look, Nat.reduceEqDiff, reduceIte, v8] at k1 k4 k5 k8 k14 k15
   refine awg_imp (s' := ⟨[(1, .ptr 0 0), (4, stD (PR i ++ (linB n [g.rate, g.least, g.most] ++ [10]))), (5, .int .i64 (MN i : Nat)), (8, .ptr 0 (4 * i)), (14, .agg (namesB.map stD)), (15, .int .i64 (i : Int))], [(0, .box WC)], 1, 70⟩) (imp_env (Nat.zero_le _) (key_box (Nat.le_refl _)) (by simp [k1, k4, k5, k8, k14, k15])) ?_
   refine awg_peelT (T := []) oNone_ok rfl ?_
   simp only [FS, ↓RE, okR, argEnv, Nat.reduceAdd, Nat.reduceSub, Nat.reduceLT, Nat.reduceLeDiff, Nat.reduceEqDiff, reduceIte, RT, RM, RG, ld3, hrl]
   refine awg_block ?_
   refine awg_loopI (ι := Nat) (fun k => ⟨[(1, .ptr 0 0), (4, stD (PR i ++ (linB n [g.rate, g.least, g.most] ++ [10]) ++ flatB ((g.rs.take k).map rdLine))), (5, .int .i64 ((MN i : Nat) + (k : Int))), (14, .agg (namesB.map stD)), (15, .int .i64 (i : Int)), (41, .sl (g.rs.map Rd.d)), (42, .int .i64 (g.rs.length : Int)), (43, .int .i64 (k : Int))], [(0, .box WC)], 1, 70⟩) (fun k => k ≤ g.rs.length) (fun k => g.rs.length - k) 0 (Nat.zero_le _) (imp_head (by simp [headW, heapW, envW, blkLt, D.ltL, D.lt, look, hget, hWC, names_lt, flatB])) ?_
   intro k hkl
   have hrk := rds_len sg.2.2.2 h30 k
   refine awg_peelT (T := []) oNone_ok rfl ?_
   rcases Nat.lt_or_ge k g.rs.length with hkt | hkg
   ·have hc := natT hkt
    obtain ⟨r, hr⟩ : ∃ r, g.rs[k]? = some r := ⟨g.rs[k], by simp [hkt]⟩
    have sr := sg.2.2.2 r (List.mem_of_getElem? hr)
    have hix3 := fun h => ix_rd (t := 25) Fz.und_25 Fz.size_75 hr h
    have lR := lin_len (rd_ok sr)
    have hbr : bRead.length = 4 := rfl
    have hsn := rd_snoc hr
    have hw2 := wrap_i64 (z := (k : Int) + 1) (by omega) (by omega)
    have hw3 := wrap_i64 (z := ((MN i : Nat) : Int) + (k : Int) + 1) (by omega) (by omega)
    have l4 := fun h => lit_i4 h r.minute r.lo r.hi r.src
    have a2 := s_add (P := Tryz.prog) 9 (a := PR i ++ (linB n [g.rate, g.least, g.most] ++ [10]) ++ flatB ((g.rs.take k).map rdLine)) (b := linB bRead [r.minute, r.lo, r.hi, r.src] ++ [10]) (by simp only [List.length_append, List.length_cons, List.length_nil] at lL lR ⊢; omega)
    simp only [FS, ↓RE, okR, argEnv, Nat.reduceAdd, Nat.reduceSub, Nat.reduceLT, Nat.reduceLeDiff, Nat.reduceEqDiff, reduceIte, RT, RM, RG, hc, decide_true]
    refine awg_peelT (T := []) oNone_ok rfl ?_
    simp only [FS, ↓RE, okR, argEnv, Nat.reduceAdd, Nat.reduceSub, Nat.reduceLT, Nat.reduceLeDiff, Nat.reduceEqDiff, reduceIte, RT, RM, RG]
    refine awg_seq ?_
    refine awg_block ?_
    refine awg_peelT (T := []) oNone_ok rfl ?_
    simp only [FS, ↓RE, okR, argEnv, Nat.reduceAdd, Nat.reduceSub, Nat.reduceLT, Nat.reduceLeDiff, Nat.reduceEqDiff, reduceIte, RT, RM, RG, hix3]
    refine awg_seq (awg_cutD oNone_ok 12 rfl rfl rfl ?_)
    simp only [FS, ↓RE, okR, argEnv, Nat.reduceAdd, Nat.reduceSub, Nat.reduceLT, Nat.reduceLeDiff, Nat.reduceEqDiff, reduceIte, RT, RM, RG, l4, List.take_succ_cons, List.take_zero]
    refine ⟨_, _, rfl, (pcallg_data (A := fun x => x = stD (linB bRead [r.minute, r.lo, r.hi, r.src] ++ [10])) (R := fun _ => False) (line_g hT (rd_ok sr)) rfl fun r hr => by subst hr; rfl).mono ?_ fun _ _ _ h => h.1.elim⟩
    rintro _ h nid ⟨rfl, rfl, rfl⟩
    simp only [FS, ↓RE, okR, argEnv, Nat.reduceAdd, Nat.reduceSub, Nat.reduceLT, Nat.reduceLeDiff, Nat.reduceEqDiff, reduceIte, RT, RM, RG, a2, List.drop_succ_cons, List.drop_zero]
    refine awg_restT (T := []) oNone_ok rfl ?_
    simp only [FS, ↓RE, okR, argEnv, Nat.reduceAdd, Nat.reduceSub, Nat.reduceLT, Nat.reduceLeDiff, Nat.reduceEqDiff, reduceIte, RT, RM, RG, hw3]
    refine awg_restT (T := []) oNone_ok rfl ?_
    simp only [FS, ↓RE, okR, argEnv, Nat.reduceAdd, Nat.reduceSub, Nat.reduceLT, Nat.reduceLeDiff, Nat.reduceEqDiff, reduceIte, RT, RM, RG, hw2]
    exact ⟨k + 1, by omega, by omega, imp_head (by rw [hsn]; simp [headW, heapW, envW, blkLt, D.ltL, D.lt, look, hget, hWC, names_lt, rdLine]; omega)⟩
   have hc := natF hkg
   have : k = g.rs.length := by omega
   subst this
   rw [List.take_length] at *
   simp only [FS, ↓RE, okR, argEnv, Nat.reduceAdd, Nat.reduceSub, Nat.reduceLT, Nat.reduceLeDiff, Nat.reduceEqDiff, reduceIte, RT, RM, RG, hc, decide_false]
   refine awg_peelT (T := []) oNone_ok rfl ?_
   simp only [FS, ↓RE, okR, argEnv, Nat.reduceAdd, Nat.reduceSub, Nat.reduceLT, Nat.reduceLeDiff, Nat.reduceEqDiff, reduceIte, RT, RM, RG]
   refine awg_restT (T := []) oNone_ok rfl ?_
   simp only [FS, ↓RE, okR, argEnv, Nat.reduceAdd, Nat.reduceSub, Nat.reduceLT, Nat.reduceLeDiff, Nat.reduceEqDiff, reduceIte, RT, RM, RG, hw1]
   exact ⟨i + 1, by omega, by omega, imp_head (by rw [hPS, hMS]; simp [headW, heapW, envW, blkLt, D.ltL, D.lt, look, hget, hWC, names_lt])⟩
 have hc : ((i : Int) < 5) = False := by simp; omega
 have : i = 5 := by omega
 subst this
 have hp5 := hpl 5
 have he5 := l1e 5
 have hm5 := hml 5
 have l1 := fun h => lit_i1 h (MN 5 : Nat)
 have hbe : bEnd.length = 3 := rfl
 have a3 := s_add (P := Tryz.prog) 9 (a := PR 5) (b := linB bEnd [(MN 5 : Int)] ++ [10]) (by simp only [List.length_append, List.length_cons, List.length_nil] at he5 ⊢; omega)
 simp only [FS, ↓RE, okR, argEnv, Nat.reduceAdd, Nat.reduceSub, Nat.reduceLT, Nat.reduceLeDiff, Nat.reduceEqDiff, reduceIte, RT, RM, RG, hc, decide_false]
 refine awg_peelT (T := []) oNone_ok rfl ?_
 simp only [FS, ↓RE, okR, argEnv, Nat.reduceAdd, Nat.reduceSub, Nat.reduceLT, Nat.reduceLeDiff, Nat.reduceEqDiff, reduceIte, RT, RM, RG]
 refine awg_seq (awg_cutD oNone_ok 3 rfl rfl rfl ?_)
 simp only [FS, ↓RE, okR, argEnv, Nat.reduceAdd, Nat.reduceSub, Nat.reduceLT, Nat.reduceLeDiff, Nat.reduceEqDiff, reduceIte, RT, RM, RG, l1, List.take_succ_cons, List.take_zero]
 refine ⟨_, _, rfl, (pcallg_data (A := fun x => x = stD (linB bEnd [(MN 5 : Int)] ++ [10])) (R := fun _ => False) (line_g hT (end_ok hm5)) rfl fun r hr => by subst hr; rfl).mono ?_ fun _ _ _ h => h.1.elim⟩
 rintro _ h nid ⟨rfl, rfl, rfl⟩
 simp only [FS, ↓RE, okR, argEnv, Nat.reduceAdd, Nat.reduceSub, Nat.reduceLT, Nat.reduceLeDiff, Nat.reduceEqDiff, reduceIte, RT, RM, RG, a3, List.drop_succ_cons, List.drop_zero]
 refine awg_restT (T := []) oNone_ok rfl ?_
 simp only [FS, ↓RE, okR, argEnv, Nat.reduceAdd, Nat.reduceSub, Nat.reduceLT, Nat.reduceLeDiff, Nat.reduceEqDiff, reduceIte, RT, RM, RG]
end Go.Sx
