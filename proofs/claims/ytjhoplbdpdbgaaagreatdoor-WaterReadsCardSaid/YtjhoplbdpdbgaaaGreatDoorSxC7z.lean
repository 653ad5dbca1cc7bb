/- Own work: contracts of functions, used in the proof of a law. -/
import Derived.Test.YtjhoplbdpdbgaaaGreatDoorSxMf
import Derived.Test.YtjhoplbdpdbgaaaGreatDoorSxC6z
import Derived.Test.YtjhoplbdpdbgaaaGreatDoorSxC4z
set_option linter.unusedVariables false
set_option linter.unusedSimpArgs false
namespace Go.Sx
open Go.Proofs
set_option maxRecDepth 10000

def gGk (k : Ga → D) : List D → Option D
 | [.agg [.int .i64 a, .int .i64 b, .int .i64 c, .sl es]] => match decRds es with
  | some rs => if gaOk ⟨a, b, c, rs⟩ = true then some (k ⟨a, b, c, rs⟩) else none
  | none => none
 | _ => none
theorem gGk_eq {k : Ga → D} {a b c : Int} {rs : List Rd} (h : gaOk ⟨a, b, c, rs⟩ = true) : gGk k [.agg [.int .i64 a, .int .i64 b, .int .i64 c, .sl (rs.map Rd.d)]] = some (k ⟨a, b, c, rs⟩) := by
 simp only [gGk, decRds_map]; rw [if_pos h]
theorem gGk_inv {k : Ga → D} {ds : List D} {r : D} (h : gGk k ds = some r) : ∃ g : Ga, gaOk g = true ∧ ds = [.agg g.c] ∧ r = k g := by
 unfold gGk at h
 split at h
 ·split at h
  ·rename_i rs hrs
   split at h
   ·rename_i hc
    cases h
    exact ⟨⟨_, _, _, rs⟩, hc, by rw [decRds_inv hrs]; rfl, rfl⟩
   ·cases h
  ·cases h
 ·cases h

abbrev o7 : List (FuncId × (List D → Option D)) := (75, gAt) :: (78, gAt) :: (105, gGk fun g => clD (clashG g)) :: (25, gGk fun g => clD (clashG g)) :: o6
theorem o7_ok : OkO Tryz.prog (mkO o7) :=
 mkO_ok (fun ds r h => by obtain ⟨a, b, c, rs, t, h', rfl, rfl⟩ := gAt_inv h; exact at_t a b c t rs h') <|
 mkO_ok (fun ds r h => by obtain ⟨a, b, c, rs, t, h', rfl, rfl⟩ := gAt_inv h; exact rAt_t a b c t rs h') <|
 mkO_ok (fun ds r h => by obtain ⟨g, h', rfl, rfl⟩ := gGk_inv h; exact clash_t g h') <|
 mkO_ok (fun ds r h => by obtain ⟨g, h', rfl, rfl⟩ := gGk_inv h; exact rClash_t g h') o6_ok

theorem runs_t (g : Ga) (hga : gaOk g = true) : Pure Tryz.prog 71 [.agg g.c] (.bool (!(clashG g).2.2)) := by
 obtain ⟨a, b, c, rs⟩ := g
 simp only [Ga.c]
 refine pure_of_wc (rs := [.tmp 2]) (m := 14) [] o7_ok (by kernel_rfl) Tryz.func71 rfl (by kernel_rfl) rfl rfl (by kernel_rfl) ?_
 simp only [FS, ↓RE, okR, argEnv, Nat.reduceAdd, Nat.reduceSub, Nat.reduceLT, Nat.reduceLeDiff, Nat.reduceEqDiff, reduceIte, gGk_eq hga, clD, ex_tup]

def ClashA (g : Ga) : D := if gaOk g then (if (clashG g).2.2 then .tup [.int .i64 (clashG g).1, .int .i64 (clashG g).2.1, .int .i64 0] else .tup [.int .i64 0, .int .i64 0, .int .i64 6]) else .tup [.int .i64 0, .int .i64 0, .int .i64 2]

theorem Clash_t (g : Ga) (hl : g.rs.length ≤ 9223372036854775807) : Pure Tryz.prog 52 [.agg g.c] (ClashA g) := by
 obtain ⟨a, b, c, rs⟩ := g
 dsimp only at hl
 simp only [Ga.c]
 refine pure_of_wc (rs := [.tmp 2, .tmp 3, .tmp 4]) (m := 21) [] o7_ok (by kernel_rfl) Tryz.func52 rfl (by kernel_rfl) rfl rfl (by kernel_rfl) ?_
 cases hga : gaOk ⟨a, b, c, rs⟩
 ·simp only [FS, ↓RE, okR, argEnv, Nat.reduceAdd, Nat.reduceSub, Nat.reduceLT, Nat.reduceLeDiff, Nat.reduceEqDiff, reduceIte, gGa_eq _ _ _ _ hl, hga]
  simp [ClashA, hga]
 ·cases hc : (clashG ⟨a, b, c, rs⟩).2.2
  ·simp only [FS, ↓RE, okR, argEnv, Nat.reduceAdd, Nat.reduceSub, Nat.reduceLT, Nat.reduceLeDiff, Nat.reduceEqDiff, reduceIte, gGa_eq _ _ _ _ hl, hga, gGk_eq hga, clD, ex_tup, hc]
   simp [ClashA, hga, hc]
  ·simp only [FS, ↓RE, okR, argEnv, Nat.reduceAdd, Nat.reduceSub, Nat.reduceLT, Nat.reduceLeDiff, Nat.reduceEqDiff, reduceIte, gGa_eq _ _ _ _ hl, hga, gGk_eq hga, clD, ex_tup, hc]
   simp [ClashA, hga, hc]

abbrev o8 : List (FuncId × (List D → Option D)) := (71, gGk fun g => .bool (!(clashG g).2.2)) :: (52, gGa ClashA) :: o7
theorem o8_ok : OkO Tryz.prog (mkO o8) :=
 mkO_ok (fun ds r h => by obtain ⟨g, h', rfl, rfl⟩ := gGk_inv h; exact runs_t g h') <|
 mkO_ok (fun ds r h => by obtain ⟨g, hl, rfl, rfl⟩ := gGa_inv h; exact Clash_t g hl) o7_ok

end Go.Sx
