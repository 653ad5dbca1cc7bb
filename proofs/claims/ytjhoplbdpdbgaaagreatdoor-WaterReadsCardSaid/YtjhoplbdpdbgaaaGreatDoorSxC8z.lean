/- Own work: contracts of functions, used in the proof of a law. -/
import Derived.Test.YtjhoplbdpdbgaaaGreatDoorSxC7z
set_option linter.unusedVariables false
set_option linter.unusedSimpArgs false
namespace Go.Sx
open Go.Proofs
set_option maxRecDepth 10000
def atS (g : Ga) (t : Nat) : List D := [.int .i64 (atG g.rate g.least g.most g.rs t).1, .int .i64 (atG g.rate g.least g.most g.rs t).2]
def boundsL (g : Ga) (n : Nat) : List (List D) := (List.range n).map (atS g)
def BoundsA (g : Ga) : D := if gaOk g then (if (clashG g).2.2 then .tup [.nils, .int .i64 5] else .tup [.sl (boundsL g 1441), .int .i64 0]) else .tup [.nils, .int .i64 2]

theorem Bounds_t (g : Ga) (hl : g.rs.length ≤ 9223372036854775807) : Pure Tryz.prog 33 [.agg g.c] (BoundsA g) := by
 obtain ⟨a, b, c, rs⟩ := g
 dsimp only at hl
 simp only [Ga.c]
 refine pure_of_wc (rs := [.tmp 2, .tmp 3]) (m := 20) [(7, [(7, false, false, [])])] o8_ok (by kernel_rfl) Tryz.func33 rfl (by kernel_rfl) rfl rfl (by kernel_rfl) ?_
 cases hga : gaOk ⟨a, b, c, rs⟩
 ·simp only [FS, ↓RE, okR, argEnv, Nat.reduceAdd, Nat.reduceSub, Nat.reduceLT, Nat.reduceLeDiff, Nat.reduceEqDiff, reduceIte, gGa_eq _ _ _ _ hl, hga]
  simp [BoundsA, hga]
 cases hc : (clashG ⟨a, b, c, rs⟩).2.2
 rotate_left
 ·simp only [FS, ↓RE, okR, argEnv, Nat.reduceAdd, Nat.reduceSub, Nat.reduceLT, Nat.reduceLeDiff, Nat.reduceEqDiff, reduceIte, gGa_eq _ _ _ _ hl, hga, gGk_eq hga, hc]
  simp [BoundsA, hga, hc]
 simp only [FS, ↓RE, okR, argEnv, Nat.reduceAdd, Nat.reduceSub, Nat.reduceLT, Nat.reduceLeDiff, Nat.reduceEqDiff, reduceIte, gGa_eq _ _ _ _ hl, hga, gGk_eq hga, hc]
 refine loopNilB 1 0 [.nils] 70 2 rfl rfl ?_
 refine rangeV (α := Fin 1441) o8_ok [(7, [(7, false, false, [])])] (by kernel_rfl) (by kernel_rfl) (fun w => minutes_seq w) (by kernel_rfl) (fun _ => rfl) (fun R n x => relL_int R n .i64 _) rfl
  [(1, .ptr 0 0), (4, .ptr 1 0)] (fun xs => [(2, .arr 70 2 (xs.map fun t => atS ⟨a, b, c, rs⟩ t.val)), (1, .box [.osl 2 xs.length]), (0, .box [.int .i64 a, .int .i64 b, .int .i64 c, .sl (rs.map Rd.d)])]) 3 (fun _ => True) trivial rfl (fun _ => rfl) ?_ ?_ ?_
 ·simp [headW, heapW, envW, blkLt, D.ltL, D.lt, look, hget, hset]
 ·intro l pre x _ hlen
  have hx := x.isLt
  have hat := gAt_eq (a := a) (b := b) (c := c) (rs := rs) (t := (x.val : Int)) ⟨hga, by omega, by omega⟩
  have ha := fun h nid (hb : hget h 2 = some (.arr 70 2 (pre.map fun t => atS ⟨a, b, c, rs⟩ t.val))) => app_sl (P := Tryz.prog) (h := h) (nid := nid) Fz.und_22 Fz.size_70 Fz.zero_70 rfl (by omega) Fz.bytes_70_22 (b := 2) (n := pre.length) (xs := [atS ⟨a, b, c, rs⟩ x.val]) hb (by simp) rfl (by simp; omega) (by simp; omega)
  have hd := fun h => litD_agg (P := Tryz.prog) Fz.und_22 Fz.size_70 Fz.zero_70 rfl (by omega) (by omega) h (atS ⟨a, b, c, rs⟩ x.val) rfl rfl
  simp only [atS] at hd ha
  simp only [FS, ↓RE, okR, argEnv, Nat.reduceAdd, Nat.reduceSub, Nat.reduceLT, Nat.reduceLeDiff, Nat.reduceEqDiff, reduceIte, cells_osl, cur_osl, curC_arr, decide_true, List.length_append, List.length_map, hd, ha, atS, ms_nil, ms_assign, pe_cons, pe_nil, Array.toList, hat]
  simp [headW, heapW, envW, blkLt, D.ltL, D.lt, look, hget]
 ·intro xs hxs _
  subst hxs
  simp only [FS, ↓RE, okR, argEnv, Nat.reduceAdd, Nat.reduceSub, Nat.reduceLT, Nat.reduceLeDiff, Nat.reduceEqDiff, reduceIte, BoundsA]
  rw [hga, hc, if_pos rfl, if_neg Bool.false_ne_true]
  have hm : (List.finRange 1441).map (fun t => atS ⟨a, b, c, rs⟩ t.val) = boundsL ⟨a, b, c, rs⟩ 1441 := by
   rw [boundsL]
   apply List.ext_getElem
   ·rw [List.length_map, List.length_map, List.length_finRange, List.length_range]
   ·intro i h1 h2
    simp
  rw [hm]
  have hlen : (List.finRange 1441).length = (boundsL ⟨a, b, c, rs⟩ 1441).length := by rw [List.length_finRange, boundsL, List.length_map, List.length_range]
  rw [hlen]
  simp [viewA]
end Go.Sx
