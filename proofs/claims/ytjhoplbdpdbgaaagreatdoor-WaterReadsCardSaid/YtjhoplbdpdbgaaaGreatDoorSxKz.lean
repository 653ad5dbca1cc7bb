/- Contracts by which the examples of the package are evaluated. Own work. -/
import Derived.Test.YtjhoplbdpdbgaaaGreatDoorSxFtz
set_option linter.unusedVariables false
set_option linter.unusedSimpArgs false
namespace Go.Sx
open Go.Proofs
set_option maxRecDepth 10000
theorem shr_nat (n i : Nat) (hi : i ≤ 64) : ((n : Int).fdiv (2 ^ (min i IntKind.i64.bits))) = ((n / 2 ^ i : Nat) : Int) := by
 rw [show min i IntKind.i64.bits = i from Nat.min_eq_left hi]
 rw [Int.fdiv_eq_ediv_of_nonneg _ (by exact Int.pow_nonneg (by omega))]
 simp

def bitsTo (n i : Nat) : List Nat := (List.range i).filter fun j => n / 2 ^ j % 2 == 1
def intL (l : List Nat) : List (List D) := l.map fun (j : Nat) => [D.int .i64 (j : Int)]

theorem bitsTo_succ (n i : Nat) : bitsTo n (i + 1) = if n / 2 ^ i % 2 = 1 then bitsTo n i ++ [i] else bitsTo n i := by
 simp only [bitsTo, List.range_succ, List.filter_append, List.filter_cons, List.filter_nil, beq_iff_eq]
 split <;> simp

theorem bitsTo_stop (n i k : Nat) (h : n / 2 ^ i = 0) : bitsTo n (i + k) = bitsTo n i := by
 induction k with
 | zero => rfl
 | succ k ih =>
  rw [← Nat.add_assoc, bitsTo_succ, ih, Nat.pow_add, ← Nat.div_div_eq_div_mul, h]
  simp

theorem listed_t (n : Nat) (hn : n < 256) : Pure Tryz.prog 106 [.int .i64 (n : Int)] (.sl (intL (bitsTo n 8))) := by
 refine pure_of_wc (rs := [.tmp 2]) (m := 21) [] oNone_ok (by kernel_rfl) Tryz.func106 rfl (by kernel_rfl) rfl rfl (by kernel_rfl) ?_
 simp only [FS, ↓RE, okR, argEnv, Nat.reduceAdd, Nat.reduceSub, Nat.reduceLT, Nat.reduceLeDiff, Nat.reduceEqDiff, reduceIte]
 refine loopNil 3 3 1 rfl ?_
 refine loopV (ι := Nat) oNone_ok [] (fun i => [(0, .int .i64 (n : Int)), (3, .osl 0 (intL (bitsTo n i)).length), (4, .int .i64 (i : Int))])
  (fun i => [(0, .arr 3 1 (intL (bitsTo n i)))]) 1 (fun i => i ≤ 8) (fun i => 9 - i) 0 (by kernel_rfl) (by kernel_rfl) (by omega) ?_ ?_
 ·simp [headW, heapW, envW, blkLt, D.lt, look, hget, eset_nil, eset_cons, bitsTo, intL]
 intro i hi
 have hs := shr_nat n i (by omega)
 have hlen : (bitsTo n i).length ≤ i := by simpa [bitsTo] using List.length_filter_le (fun j => n / 2 ^ j % 2 == 1) (List.range i)
 by_cases h0 : n / 2 ^ i = 0
 ·have hc : decide ((0 : Int) < ((n / 2 ^ i : Nat) : Int)) = false := by simp [h0]
  simp only [FS, ↓RE, okR, argEnv, Nat.reduceAdd, Nat.reduceSub, Nat.reduceLT, Nat.reduceLeDiff, Nat.reduceEqDiff, reduceIte, a_shr, hs, hc]
  simp [view, hget]
  have h8 := bitsTo_stop n i (8 - i) h0
  rw [show i + (8 - i) = 8 by omega] at h8
  rw [h8]
 ·have hc : decide ((0 : Int) < ((n / 2 ^ i : Nat) : Int)) = true := decide_eq_true (by exact_mod_cast Nat.pos_of_ne_zero h0)
  have hlt : i < 8 := by
   rcases Nat.lt_or_ge i 8 with h | h
   ·exact h
   ·have : i = 8 := by omega
    subst this
    exact absurd (Nat.div_eq_of_lt hn) h0
  have hw := wrap_i64 (z := (i : Int) + 1) (by omega) (by omega)
  by_cases h1 : n / 2 ^ i % 2 = 1
  ·have hb : (((n / 2 ^ i % 2 : Nat) : Int) == 1) = true := by simp [h1]
   have ha := app_osl (P := Tryz.prog) Fz.und_62 Fz.size_3 Fz.zero_3 rfl (by omega) Fz.bytes_3_62 [(1, .arr 3 1 [[.int .i64 (i : Int)]]), (0, .arr 3 1 (intL (bitsTo n i)))] 2 0 (intL (bitsTo n i)).length 1 1 (es := intL (bitsTo n i)) (xs := [[.int .i64 (i : Int)]]) rfl rfl rfl rfl rfl
    (by simp [intL]; omega) (by simp [intL]; omega)
   simp only [FS, ↓RE, okR, argEnv, Nat.reduceAdd, Nat.reduceSub, Nat.reduceLT, Nat.reduceLeDiff, Nat.reduceEqDiff, reduceIte, a_shr, hs, hc, a_and, and_one, hb, ha, hw]
   refine ⟨i + 1, by omega, by omega, ?_⟩
   simp [headW, heapW, envW, blkLt, D.lt, look, hget, hset, bitsTo_succ, h1, intL]
  ·have hb : (((n / 2 ^ i % 2 : Nat) : Int) == 1) = false := by simpa using (by exact_mod_cast h1 : ¬ ((n / 2 ^ i % 2 : Nat) : Int) = 1)
   simp only [FS, ↓RE, okR, argEnv, Nat.reduceAdd, Nat.reduceSub, Nat.reduceLT, Nat.reduceLeDiff, Nat.reduceEqDiff, reduceIte, a_shr, hs, hc, a_and, and_one, hb, hw]
   refine ⟨i + 1, by omega, by omega, ?_⟩
   simp [headW, heapW, envW, blkLt, D.lt, look, hget, bitsTo_succ, h1]
def gIns : Nat → Ins
 | 4 => ⟨142, 3, .string ⟨#[116, 105, 100, 101]⟩, 6, 0, "file.go:33", #[{ on := 0, ground := .data }, { on := 3, ground := .data }]⟩
 | 8 => ⟨142, 3, .string ⟨#[101, 97, 115, 116]⟩, 9, 0, "file.go:33", #[{ on := 0, ground := .data }, { on := 7, ground := .data }]⟩
 | 12 => ⟨142, 3, .string ⟨#[110, 111, 114, 116, 104]⟩, 12, 0, "file.go:33", #[{ on := 0, ground := .data }, { on := 11, ground := .data }]⟩
 | 16 => ⟨142, 3, .string ⟨#[119, 97, 118, 101]⟩, 15, 0, "file.go:33", #[{ on := 0, ground := .data }, { on := 15, ground := .data }]⟩
 | 20 => ⟨142, 3, .string ⟨#[115, 119, 101, 108, 108]⟩, 18, 0, "file.go:33", #[{ on := 0, ground := .data }, { on := 19, ground := .data }]⟩
 | _ => ⟨0, 0, undef, 0, 0, "", #[]⟩
def gSubs : List Nat → List (List Nat)
 | [] => [[]]
 | x :: r => gSubs r ++ (gSubs r).map (x :: ·)
def gBase (R : List Nat) : Array Bool := ((List.range 23).map fun i => Nat.blt i 21 && !(R.contains i)).toArray

theorem gauges_t (b : Nat) (h : H) (nid : Nat) : ACall Tryz.prog 96 [.ptr b 0] h nid fun r h' n' => r = .mp nid ∧ h' = (nid, .map [(.str ⟨#[116, 105, 100, 101]⟩, .ptr b 0), (.str ⟨#[101, 97, 115, 116]⟩, .ptr b 4), (.str ⟨#[110, 111, 114, 116, 104]⟩, .ptr b 8), (.str ⟨#[119, 97, 118, 101]⟩, .ptr b 12), (.str ⟨#[115, 119, 101, 108, 108]⟩, .ptr b 16)]) :: h ∧ n' = nid + 1 := by
 refine acall_of_wc (rs := [.tmp 2]) (m := 20) [] oNone_ok (by kernel_rfl) Tryz.func96 rfl (by kernel_rfl) rfl rfl (by kernel_rfl) ?_
 simp only [FS, ↓RE, okR, argEnv, Nat.reduceAdd, Nat.reduceSub, Nat.reduceLT, Nat.reduceLeDiff, Nat.reduceEqDiff, reduceIte]
 intro X k0 k a hn hat
 refine wpIn_region_any (by kernel_rfl) ?_
 have hle : Le k { k with w := { k.w with drawn := k.w.drawn + 1 } } := le_world rfl rfl rfl (Nat.le_refl _) fun _ _ => rfl
 have hat : At X k0 { k with w := { k.w with drawn := k.w.drawn + 1 } } a _ := ⟨hat.h, hat.nid, hat.good.world hle fun _ _ => rfl, hat.le.trans hle, hat.act.le hat.good hle⟩
 show wpAnyIn _ _ _ _ _ _ 23 _ a ({ k with w := { k.w with drawn := k.w.drawn + 1 } } : Cx).w
 generalize ({ k with w := { k.w with drawn := k.w.drawn + 1 } } : Cx) = k1 at hat
 refine take_move (i := 1) hat rfl (by omega) rfl (by kernel_rfl) (by kernel_rfl) (by kernel_rfl) fun a hat => ?_
 refine take_nilCheck (i := 2) hat rfl (by omega) rfl (by kernel_rfl) (by kernel_rfl) (by kernel_rfl) fun a hat => ?_
 refine take_field (i := 3) hat rfl (by omega) rfl Fz.off_29_0 (by kernel_rfl) (by kernel_rfl) (by kernel_rfl) fun a hat => ?_
 refine take_move (i := 5) hat rfl (by omega) rfl (by kernel_rfl) (by kernel_rfl) (by kernel_rfl) fun a hat => ?_
 refine take_nilCheck (i := 6) hat rfl (by omega) rfl (by kernel_rfl) (by kernel_rfl) (by kernel_rfl) fun a hat => ?_
 refine take_field (i := 7) hat rfl (by omega) rfl Fz.off_29_1 (by kernel_rfl) (by kernel_rfl) (by kernel_rfl) fun a hat => ?_
 refine take_move (i := 9) hat rfl (by omega) rfl (by kernel_rfl) (by kernel_rfl) (by kernel_rfl) fun a hat => ?_
 refine take_nilCheck (i := 10) hat rfl (by omega) rfl (by kernel_rfl) (by kernel_rfl) (by kernel_rfl) fun a hat => ?_
 refine take_field (i := 11) hat rfl (by omega) rfl Fz.off_29_2 (by kernel_rfl) (by kernel_rfl) (by kernel_rfl) fun a hat => ?_
 refine take_move (i := 13) hat rfl (by omega) rfl (by kernel_rfl) (by kernel_rfl) (by kernel_rfl) fun a hat => ?_
 refine take_nilCheck (i := 14) hat rfl (by omega) rfl (by kernel_rfl) (by kernel_rfl) (by kernel_rfl) fun a hat => ?_
 refine take_field (i := 15) hat rfl (by omega) rfl Fz.off_29_3 (by kernel_rfl) (by kernel_rfl) (by kernel_rfl) fun a hat => ?_
 refine take_move (i := 17) hat rfl (by omega) rfl (by kernel_rfl) (by kernel_rfl) (by kernel_rfl) fun a hat => ?_
 refine take_nilCheck (i := 18) hat rfl (by omega) rfl (by kernel_rfl) (by kernel_rfl) (by kernel_rfl) fun a hat => ?_
 refine take_field (i := 19) hat rfl (by omega) rfl Fz.off_29_4 (by kernel_rfl) (by kernel_rfl) (by kernel_rfl) fun a hat => ?_
 refine only_op (i := 0) hn hat (by kernel_rfl) rfl rfl (opOk_eff (d := .mp nid) rfl rfl) fun k a hat => ?_
 refine ins_go (b := nid) (kt := 9) (et := 141) (fuel := 2) hn [4, 8, 12, 16, 20] gIns gBase (gSubs [4, 8, 12, 16, 20]) ?_ ?_ (by kernel_rfl) (by kernel_rfl) (by kernel_rfl) (by decide) 5 [4, 8, 12, 16, 20] [] k a rfl (by simp [gSubs]) (.refl _) hat
 ·intro i hi
  simp only [List.mem_cons, List.not_mem_nil, or_false] at hi
  rcases hi with rfl | rfl | rfl | rfl | rfl <;> exact ⟨rfl, by kernel_rfl, by kernel_rfl, rfl, rfl⟩
 ·intro k a kvs hp hat
  obtain ⟨k', e, hat⟩ := at_perm hp (by kernel_rfl) hat
  rw [← e]
  refine only_op (i := 21) hn hat (by kernel_rfl) rfl rfl (opOk_read (d := .mp nid) rfl rfl) fun k a hat => ?_
  refine only_op (i := 22) hn hat (by kernel_rfl) rfl rfl (opOk_read (d := .mp nid) rfl rfl) fun k a hat => ?_
  refine wpAnyIn_done (by kernel_rfl) ?_ 0
  refine ⟨.normal, k, _, rfl, rfl, ?_, hat⟩
  simp only [FS, ↓RE, okR, argEnv, Nat.reduceAdd, Nat.reduceSub, Nat.reduceLT, Nat.reduceLeDiff, Nat.reduceEqDiff, reduceIte]
  exact ⟨rfl, rfl, rfl⟩
def orD : Oracle := fun f ds =>
 if f = 106 then
  match ds with
  | [.int .i64 n] => if 0 ≤ n ∧ n < 256 then some (.sl (intL (bitsTo n.toNat 8))) else none
  | _ => none
 else none
theorem orD_ok : OkO Tryz.prog orD := fun f ds r h => by
 unfold orD at h
 split at h
 ·rename_i hf
  subst hf
  split at h
  ·rename_i n
   split at h
   ·rename_i hn
    cases h
    have := listed_t n.toNat (by omega)
    rw [Int.toNat_of_nonneg hn.1] at this
    exact this
   ·cases h
  ·cases h
 ·cases h
def orC : CallE := fun f ds h nid =>
 if f = 96 then
  match ds with
  | [.ptr b 0] => some (.mp nid, (nid, .map [(.str ⟨#[116, 105, 100, 101]⟩, .ptr b 0), (.str ⟨#[101, 97, 115, 116]⟩, .ptr b 4), (.str ⟨#[110, 111, 114, 116, 104]⟩, .ptr b 8), (.str ⟨#[119, 97, 118, 101]⟩, .ptr b 12), (.str ⟨#[115, 119, 101, 108, 108]⟩, .ptr b 16)]) :: h, nid + 1)
  | _ => none
 else none
theorem orC_ok : OkCall Tryz.prog orC := fun f ds h nid d h' nid' e => by
 unfold orC at e
 split at e
 ·rename_i hf
  subst hf
  split at e
  ·rename_i b
   simp only [Option.some.injEq, Prod.mk.injEq] at e
   obtain ⟨rfl, rfl, rfl⟩ := e
   exact gauges_t b h nid
  ·cases e
 ·cases e
def tabD : List (Nat × List (Nat × List Ann)) := [(15, []), (22, []), (24, [(17, [(17, false, false, [])])]), (41, [(8, [(18, false, false, [])])]), (52, []), (53, []), (54, []), (55, []), (56, []), (57, []), (58, [(6, [(9, false, false, [])])]), (59, []), (60, []), (63, []), (64, []), (66, []), (67, []), (68, []), (70, []), (71, []), (72, [(2, [(16, false, false, [])])]), (73, []), (74, [(1, [(20, false, false, [])])]), (75, [(5, [(8, false, false, [])]), (6, [(18, false, true, [(7, 0), (6, 0), (5, 0), (2, 0)]), (2, false, false, [])])]), (83, []), (86, [(1, [(10, false, false, [])]), (2, [(35, false, false, [])])]), (87, []), (88, []), (94, []), (95, []), (97, []), (105, [(10, [(24, false, false, [])])]), (106, []), (107, []), (108, []), (109, []), (110, []), (111, []), (112, []), (114, [(2, [(6, false, false, [])])]), (115, []), (116, [(1, [(16, true, false, []), (2, false, false, [])])]), (117, [(2, [(29, false, false, [])])]), (118, []), (119, []), (120, [(2, [(23, false, false, [])])]), (124, []), (129, []), (130, []), (131, []), (132, []), (133, []), (134, []), (135, []), (145, []), (146, []), (154, []), (159, []), (160, []), (168, []), (169, []), (170, [(7, [(15, false, false, [])]), (8, [(15, false, false, [])]), (9, [(15, false, false, [])]), (10, [(15, false, false, [])]), (17, [(15, false, false, [])]), (18, [(15, false, false, [])]), (23, [(15, false, false, [])])]), (171, []), (179, []), (180, []), (181, []), (182, []), (183, []), (194, []), (195, [])]
theorem tabD_ok : (tabD.all fun p => bodyOk Tryz.prog p.1 p.2) = true := by kernel_rfl
end Go.Sx
