/- Own work: contracts of functions, used in the proof of a law. -/
import Derived.Test.YthljonnokmkagaaSxE35r
set_option linter.unusedVariables false
set_option linter.unusedSimpArgs false
namespace Go.Sx
open Go.Proofs
set_option maxRecDepth 10000

/-! The waves of the specification -/
def cornL (c : Craft) : List Int := [c.glass - 1, c.glass, c.rough, c.rough + 1]
def wavesR (c : Craft) (s : SpI) : List Int := [s.lo, s.hi] ++ (cornL c).filter fun x => rI x s.lo s.hi
theorem filter_take {p : Int → Bool} {l : List Int} {i : Nat} {x : Int} (h : l[i]? = some x) : (l.take (i + 1)).filter p = (l.take i).filter p ++ (if p x then [x] else []) := by
  rw [List.take_add_one, h]
  cases hp : p x <;> simp [hp]
theorem ref3_waves_t (c : Craft) (hc : CraftOk c) (s : SpI) : Pure Try.prog 102 [.agg c.c, .agg s.c] (.sl (intL (wavesR c s))) := by
  have hw := hc.wave
  have hg := hc.n.gr
  have w1 := wrap_i64 (z := c.glass - 1) (by omega) (by omega)
  have w2 := wrap_i64 (z := c.rough + 1) (by omega) (by omega)
  have lit4 : ∀ h nid, litOpD Try.prog h nid 25 4 [(0, .int .i64 (c.glass - 1)), (1, .int .i64 c.glass), (2, .int .i64 c.rough), (3, .int .i64 (c.rough + 1))] = some (.osl nid 4, (nid, .arr 3 1 (intL [c.glass - 1, c.glass, c.rough, c.rough + 1])) :: h, nid + 1) := fun h nid => by kernel_rfl
  simp only [Craft.c, SpI.c]
  refine pure_of_wc (rs := [.tmp 4]) (m := 47) [(6, [(9, false, false, [])])] e1_ok (by kernel_rfl) Try.func102 rfl (by kernel_rfl) rfl rfl (by kernel_rfl) ?_
  simp only [RT, FS, ↓RE, okR, argEnv, Nat.reduceAdd, Nat.reduceSub, Nat.reduceLT, Nat.reduceLeDiff, Nat.reduceEqDiff, reduceIte, lit_2, lit4, w1, w2]
  have hlen : (cornL c).length = 4 := rfl
  have hwr : wavesR c s = [s.lo, s.hi] ++ (cornL c).filter fun x => rI x s.lo s.hi := rfl
  rw [hwr, show [c.glass - 1, c.glass, c.rough, c.rough + 1] = cornL c from rfl]
  generalize cornL c = L at hlen
  refine loopV (ι := Nat) e1_ok [(6, [(9, false, false, [])])] (fun i => [(3, .ptr 1 0), (5, .osl 2 ([s.lo, s.hi] ++ (L.take i).filter fun x => rI x s.lo s.hi).length), (6, .osl 3 4), (7, .int .i64 (i : Int))])
    (fun i => [(2, .arr 3 1 (intL ([s.lo, s.hi] ++ (L.take i).filter fun x => rI x s.lo s.hi))), (3, .arr 3 1 (intL L)), (1, .box [.int .i64 s.lo, .int .i64 s.hi])]) 4 (fun i => i ≤ 4) (fun i => 4 - i) 0 (by kernel_rfl) (by kernel_rfl) (by omega) ?_ ?_
  · simp [headW, heapW, envW, blkLt, D.ltL, D.lt, look, hget, hset]
  intro i hi
  have o3 := fun h (hb : hget h 3 = some (.arr 3 1 (intL L))) => oI_len (n := 4) hb hlen
  rcases Nat.lt_or_ge i 4 with hlt | hge
  · have hq : ((i : Int) < ((4 : Nat) : Int)) = True := by simp; omega
    obtain ⟨x, hx⟩ : ∃ x, L[i]? = some x := ⟨L[i]'(by omega), by simp⟩
    have x3 := fun h (hb : hget h 3 = some (.arr 3 1 (intL L))) => oI_ix (n := 4) hb hlen hlt
    have l3 := fun h (hb : hget h 3 = some (.arr 3 1 (intL L))) => oI_load (n := 4) hb hlen hx
    have wi := wrap_i64 (z := (i : Int) + 1) (by omega) (by omega)
    have hF := filter_take (p := fun x => rI x s.lo s.hi) hx
    have hfl : ((L.take i).filter fun x => rI x s.lo s.hi).length ≤ 4 := Nat.le_trans (List.length_filter_le _ _) (by rw [List.length_take]; omega)
    generalize hG : (L.take i).filter (fun x => rI x s.lo s.hi) = G at *
    cases hr : rI x s.lo s.hi
    · simp only [RT, FS, ↓RE, okR, argEnv, Nat.reduceAdd, Nat.reduceSub, Nat.reduceLT, Nat.reduceLeDiff, Nat.reduceEqDiff, reduceIte, o3, hq, decide_true, x3, l3, gI3_eq, hr, wi]
      refine ⟨i + 1, by omega, by omega, ?_⟩
      rw [hF, hr]
      simp [headW, heapW, envW, blkLt, D.ltL, D.lt, look, hget, hset]
    · have a2 := fun h nid (hb : hget h 2 = some (.arr 3 1 (intL (s.lo :: s.hi :: G)))) (hb2 : hget h 4 = some (.arr 3 1 [[.int .i64 x]])) => oI_app (n := G.length + 1 + 1) (n2 := 1) (r := [x]) hb rfl hb2 rfl nid (by simp; omega)
      simp only [RT, FS, ↓RE, okR, argEnv, Nat.reduceAdd, Nat.reduceSub, Nat.reduceLT, Nat.reduceLeDiff, Nat.reduceEqDiff, reduceIte, o3, hq, decide_true, x3, l3, gI3_eq, hr, wi, lit_1, a2]
      refine ⟨i + 1, by omega, by omega, ?_⟩
      rw [hF, hr]
      simp [headW, heapW, envW, blkLt, D.ltL, D.lt, look, hget, hset]
  · have hq : ((i : Int) < ((4 : Nat) : Int)) = False := by simp; omega
    have : i = 4 := by omega
    subst this
    simp only [RT, FS, ↓RE, okR, argEnv, Nat.reduceAdd, Nat.reduceSub, Nat.reduceLT, Nat.reduceLeDiff, Nat.reduceEqDiff, reduceIte, o3, hq, decide_false]
    rw [List.take_of_length_le (by omega)]
    simp [viewA, intL_len]
theorem spans_t (w al wv : SpI) : Pure Try.prog 46 [.agg w.c, .agg al.c, .agg wv.c] (.bool (rS w.lo w.hi 0 100000 && condB al wv)) := by
  simp only [SpI.c, condB]
  refine pure_of_wc (rs := [.tmp 6]) (m := 17) [] e1_ok (by kernel_rfl) Try.func46 rfl (by kernel_rfl) rfl rfl (by kernel_rfl) ?_
  simp only [RT, FS, ↓RE, okR, argEnv, Nat.reduceAdd, Nat.reduceSub, Nat.reduceLT, Nat.reduceLeDiff, Nat.reduceEqDiff, reduceIte, gS3_eq]
  cases rS w.lo w.hi 0 100000 <;> cases rS al.lo al.hi (-600) 600 <;> simp [BR]
end Go.Sx
