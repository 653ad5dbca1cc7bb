/- Own work: contracts of functions, used in the proof of a law. -/
import Derived.Test.YtjhoplbdpdbgaaaGreatDoorSxC21z
set_option linter.unusedVariables false
set_option linter.unusedSimpArgs false
namespace Go.Sx
open Go.Proofs
set_option maxRecDepth 10000

theorem gl_ix (l : List _) (x : D) (hx : En.sl enGl x = some l) (g : FuncId) (caps : List D) (q : _ → Bool) (hl : l.length ≤ 9223372036854775807) (hcl : ∀ m, D.ltL m caps = true) (hcv : ∀ h, viewL h caps = caps)
    (hq : ∀ a ∈ l, Pure Tryz.prog g (.agg (enGl.d a) :: caps) (.bool (q a))) : Pure Tryz.prog 146 [x, .fn (.func g) [] caps] (.int .i64 (firstI q l 0)) := by
  have lx := fun hp => En.len (P := Tryz.prog) Fz.und_31 hx hp
  have vx := En.lt hx
  refine pure_of_wc (rs := [.tmp 4]) (m := 19) [] oNone_ok (by kernel_rfl) Tryz.func146 rfl (by kernel_rfl) rfl rfl (by kernel_rfl) ?_
  simp only [FS, ↓RE, okR, argEnv, Nat.reduceAdd, Nat.reduceSub, Nat.reduceLT, Nat.reduceLeDiff, Nat.reduceEqDiff, reduceIte, lx]
  refine loopV (ι := Nat) oNone_ok [] (fun i => [(0, x), (1, .fn (.func g) [] caps), (7, .int .i64 (l.length : Int)), (8, .int .i64 (i : Int))])
    (fun i => []) 0 (fun i => i ≤ l.length ∧ (l.take i).all (fun r => !(q r)) = true) (fun i => l.length - i) 0 (by kernel_rfl) (by kernel_rfl) ⟨Nat.zero_le _, by simp⟩ ?_ ?_
  · simp [headW, heapW, envW, blkLt, D.ltL, D.lt, look, hget, vx, hcl]
  rintro i ⟨hil, hok⟩
  rcases Nat.lt_or_ge i l.length with hlt | hge
  · have hc : ((i : Int) < (l.length : Int)) = True := by simp [hlt]
    obtain ⟨r, hr⟩ : ∃ r, l[i]? = some r := ⟨l[i], by simp [hlt]⟩
    have hix := fun hp => En.ix (P := Tryz.prog) Fz.und_31 Fz.size_106 hx hr hp .i64
    have hw := wrap_i64 (z := (i : Int) + 1) (by omega) (by omega)
    have hqr := hq r (List.mem_of_getElem? hr)
    simp only [enGl] at hix hqr
    simp only [FS, ↓RE, okR, argEnv, Nat.reduceAdd, Nat.reduceSub, Nat.reduceLT, Nat.reduceLeDiff, Nat.reduceEqDiff, reduceIte, hix, hc, decide_true, List.nil_append, List.cons_append, hcv]
    refine call_of_pure hqr rfl ?_
    cases hm : q r
    · simp only [FS, ↓RE, okR, argEnv, Nat.reduceAdd, Nat.reduceSub, Nat.reduceLT, Nat.reduceLeDiff, Nat.reduceEqDiff, reduceIte, hw]
      exact ⟨i + 1, ⟨by omega, all_take hr hok (by simp [hm])⟩, by omega, by simp [headW, heapW, envW, blkLt, D.ltL, D.lt, look, hget, vx, hcl]⟩
    · simp only [FS, ↓RE, okR, argEnv, Nat.reduceAdd, Nat.reduceSub, Nat.reduceLT, Nat.reduceLeDiff, Nat.reduceEqDiff, reduceIte, hw]
      rw [firstI_at hok hr (by simp [hm])]; simp
  · have hc : ((i : Int) < (l.length : Int)) = False := by simp; omega
    have : i = l.length := by omega
    subst this
    rw [List.take_length] at hok
    simp only [FS, ↓RE, okR, argEnv, Nat.reduceAdd, Nat.reduceSub, Nat.reduceLT, Nat.reduceLeDiff, Nat.reduceEqDiff, reduceIte, hc, decide_false]
    rw [firstI_none hok]
theorem gl_has (l : List _) (x : D) (hx : En.sl enGl x = some l) (g : FuncId) (caps : List D) (q : _ → Bool) (hl : l.length ≤ 9223372036854775807) (hcl : ∀ m, D.ltL m caps = true) (hcv : ∀ h, viewL h caps = caps)
    (hq : ∀ a ∈ l, Pure Tryz.prog g (.agg (enGl.d a) :: caps) (.bool (q a))) : Pure Tryz.prog 110 [x, .fn (.func g) [] caps] (.bool (l.any q)) := by
  have vx := fun h => En.view hx h
  refine pure_of_wc (rs := [.tmp 4]) (m := 9) [] oNone_ok (by kernel_rfl) Tryz.func110 rfl (by kernel_rfl) rfl rfl (by kernel_rfl) ?_
  simp only [FS, ↓RE, okR, argEnv, Nat.reduceAdd, Nat.reduceSub, Nat.reduceLT, Nat.reduceLeDiff, Nat.reduceEqDiff, reduceIte, vx, view_fn, hcv]
  refine call_of_pure (gl_ix l x hx g caps q hl hcl hcv hq) rfl ?_
  simp only [FS, ↓RE, okR, argEnv, Nat.reduceAdd, Nat.reduceSub, Nat.reduceLT, Nat.reduceLeDiff, Nat.reduceEqDiff, reduceIte, firstI_ge]

def okGl (g : Gl) : Bool := okWay g.way && okTimes g.t
theorem seaGl_t (g : Gl) : Pure Tryz.prog 111 [.agg (enGl.d g)] (.bool (!okGl g)) := by
  simp only [enGl]
  refine pure_of_wc (rs := [.tmp 2]) (m := 13) [] o21_ok (by kernel_rfl) Tryz.func111 rfl (by kernel_rfl) rfl rfl (by kernel_rfl) ?_
  simp only [FS, ↓RE, okR, argEnv, Nat.reduceAdd, Nat.reduceSub, Nat.reduceLT, Nat.reduceLeDiff, Nat.reduceEqDiff, reduceIte, gWy_eq, gTi_eq]
  cases h1 : okWay g.way <;> cases h2 : okTimes (g.t.1, g.t.2) <;> simp [BR, okGl, h1, h2]
end Go.Sx
