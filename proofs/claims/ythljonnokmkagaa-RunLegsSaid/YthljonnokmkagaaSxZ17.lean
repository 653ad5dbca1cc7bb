/- Sx: maps from numbers to coded values. Own work. -/
import Derived.Test.YthljonnokmkagaaSxMh
set_option linter.unusedVariables false
set_option linter.unusedSimpArgs false
namespace Go.Sx
variable {P : Program} {β : Type}
abbrev MpG (β : Type) := List (Int × β)
def gget : MpG β → Int → Option β
  | [], _ => none
  | (a, v) :: r, k => if k = a then some v else gget r k
def gput : MpG β → Int → β → MpG β
  | [], k, v => [(k, v)]
  | (a, w) :: r, k, v => if k = a then (k, v) :: r else (a, w) :: gput r k v
theorem gget_put : ∀ (m : MpG β) (k : Int) (v : β) (j : Int), gget (gput m k v) j = if j = k then some v else gget m j
  | [], k, v, j => by simp [gput, gget]
  | (a, w) :: r, k, v, j => by
    simp only [gput]
    by_cases h : k = a
    · subst h
      simp only [if_true, gget]
      split <;> simp_all
    · simp only [if_neg h, gget, gget_put r k v j]
      by_cases h2 : j = a
      · subst h2
        have : ¬ j = k := fun e => h e.symm
        simp [this]
      · simp [h2]
def gkv (vd : β → D) (m : MpG β) : List (D × D) := m.map fun p => (.int .i64 p.1, vd p.2)
theorem gkv_find (vd : β → D) (k : Int) : ∀ (m : MpG β) (i : Nat), (findK (.int .i64 k) (gkv vd m) i = none ∧ gget m k = none ∧ ∀ v : β, gkv vd m ++ [(.int .i64 k, vd v)] = gkv vd (gput m k v)) ∨
    ∃ j v0, findK (.int .i64 k) (gkv vd m) i = some (i + j, vd v0) ∧ gget m k = some v0 ∧ ∀ v : β, (gkv vd m).set j (.int .i64 k, vd v) = gkv vd (gput m k v)
  | [], i => .inl ⟨rfl, rfl, fun v => rfl⟩
  | (a, w) :: r, i => by
    by_cases h : k = a
    · subst h
      refine .inr ⟨0, w, ?_, by simp [gget], fun v => by simp [gkv, gput]⟩
      simp [gkv, findK, keyEq]
    · rcases gkv_find vd k r (i + 1) with ⟨h1, h2, h3⟩ | ⟨j, v0, h1, h2, h3⟩
      · refine .inl ⟨?_, by simp [gget, h, h2], fun v => ?_⟩
        · simp only [gkv, List.map_cons, findK]
          rw [if_neg (by simp [keyEq, h])]
          exact h1
        · simp only [gput, if_neg h]
          have := h3 v
          simp only [gkv, List.map_cons, List.cons_append] at this ⊢
          rw [this]
      · refine .inr ⟨j + 1, v0, ?_, by simp [gget, h, h2], fun v => ?_⟩
        · simp only [gkv, List.map_cons, findK]
          rw [if_neg (by simp [keyEq, h])]
          have := h1
          simp only [gkv] at this
          rw [this, show i + 1 + j = i + (j + 1) by omega]
        · simp only [gput, if_neg h]
          have := h3 v
          simp only [gkv, List.map_cons, List.set_cons_succ] at this ⊢
          rw [this]
section
variable {t kt et : TypeId} (hu : P.underlying t = some (.map kt et)) (hk : P.underlying kt = some (.int .i64))
include hk in
theorem g_fit (k : Int) : keyFit P kt (.int .i64 k) = true := by simp [keyFit, hk]
include hk in
theorem g_fits (vd : β → D) (m : MpG β) : ((gkv vd m).all fun p => keyFit P kt p.1) = true := by
  simp [gkv, g_fit hk]
def valG (vd : β → D) (z : D) (o : Option β) : D := match o with | some v => vd v | none => z
include hu hk
theorem gm_get {h : H} {b : Nat} {vd : β → D} {m : MpG β} {z : D} (hz : zeroV P et = some z) (hb : hget h b = some (.map (gkv vd m))) (k : Int) : lookupD P h t (.mp b) (.int .i64 k) false = some (valG vd z (gget m k)) := by
  simp only [lookupD, hu, hb, g_fit hk, g_fits hk, Bool.and_self, if_true]
  rcases gkv_find vd k m 0 with ⟨h1, h2, _⟩ | ⟨j, v0, h1, h2, _⟩
  · rw [h1, h2]; simp [lookR, hz, valG]
  · rw [h1, h2]; simp [lookR, valG]
theorem gm_put {h : H} {b : Nat} {vd : β → D} {m : MpG β} (hb : hget h b = some (.map (gkv vd m))) (nid : Nat) (k : Int) {v : D} (x : β) (hx : v = vd x) (hn : v.nm = true) :
    mapUpdD P h nid t (.mp b) (.int .i64 k) v = some (.any, hset h b (.map (gkv vd (gput m k x))), nid) := by
  subst hx
  simp only [mapUpdD, hu, hb, g_fit hk, g_fits hk, hn, Bool.and_self, if_true]
  rcases gkv_find vd k m 0 with ⟨h1, _, h3⟩ | ⟨j, v0, h1, _, h3⟩
  · rw [h1]
    simp only [h3 x]
  · rw [h1]
    simp only [Nat.zero_add, h3 x]
end
theorem gkv_lt {vd : β → D} (hv : ∀ k x, D.lt k (vd x) = true) (k : Nat) : ∀ m : MpG β, D.ltL k ((gkv vd m).map (·.2)) = true
  | [] => rfl
  | p :: m => by
    have := gkv_lt hv k m
    simp only [gkv, List.map_cons, D.ltL, hv, Bool.true_and] at this ⊢
    exact this
end Go.Sx
