/- Own work: a calculus of contracts for the programs of this kit: parts SxZ8, SxZ9. -/
import Derived.Test.YtjhoplbdpdbgaaaGreatDoorSxMf
set_option linter.unusedVariables false
set_option linter.unusedSimpArgs false
namespace Go.Sx


variable {P : Program}
end Go.Sx

namespace Go.Sx
variable {P : Program} {O : Oracle} {n0 : Nat} {ro : Option Nat} {T : List (Nat × List Ann)}
theorem pure_of_pieces {f : FuncId} {fn : Func} {c : Code} {ds : List D} {r : D} {rs : List ResultVar} {m : Nat} (T : List (Nat × List Ann)) (hO : OkO P O) (hm : P.follows .mixedOrders = true) (hf : P.funcs[f]? = some fn) (hb : fn.body = some c) (hcal : callable P f = true)
  (hrs : fn.results.toList = rs) (hn : ds.length + (fn.ntmps - ds.length) = m) (ht : tabOk T c = true) (h : AWp P 0 none c ⟨argEnv 0 ds, [], 0, m⟩ (endK P rs fun d h _ => view h d = r)) : Pure P f ds r :=
 pure_of_awp hf hb hcal (awp_mono (by rw [hn]; exact h) fun e s hq => endQ_of hrs hq)
theorem awp_peel (hO : OkO P O) (hm : P.follows .mixedOrders = true) {x y : Code} {s : St} {Q : Ex → St → Prop} (ht : tabOk T x = true) (h : wc P n0 ro T O x s (thenQ (fun s' => AWp P n0 ro y s' Q) Q)) : AWp P n0 ro (.seq x y) s Q :=
 awp_seq (wc_sound hO hm x s _ ht h)
theorem awp_rest (hO : OkO P O) (hm : P.follows .mixedOrders = true) {x : Code} {s : St} {Q : Ex → St → Prop} (ht : tabOk T x = true) (h : wc P n0 ro T O x s Q) : AWp P n0 ro x s Q :=
 wc_sound hO hm x s _ ht h
theorem Imp.view {env : Env} {h : H} {nid n : Nat} : Imp n0 ⟨env, h, nid, n⟩ ⟨env.map fun p => (p.1, Sx.view h p.2), [], nid, n⟩ := fun X k0 k a hn hat => by
 have hh : k.h = h := hat.h
 have hnid : k.nid = nid := hat.nid
 subst hh; subst hnid
 have hsub : ∀ id blk, hget ([] : H) id = some blk → hget k.h id = some blk := fun id blk hb => by simp [hget] at hb
 refine ⟨{ k with h := [], nid := k.nid }, rfl, rfl, rfl, hat.good.drop hsub (fun id blk hb => hat.good.key id blk (hsub id blk hb)) (fun hlt => absurd hlt (Nat.lt_irrefl _)), Le.drop hat.le hat.le.nid hsub, hat.act.size, fun i => ?_, hat.act.marks⟩
 have hl : look (env.map fun p => (p.1, Sx.view k.h p.2)) i = Sx.view k.h (look env i) := by
  clear hat hsub
  induction env with
  | nil => simp [look, Sx.view]
  | cons p e ih =>
   obtain ⟨j, d⟩ := p
   simp only [List.map_cons, look]
   split
   ·rfl
   ·exact ih
 show Rel _ _ _ (look (env.map fun p => (p.1, Sx.view k.h p.2)) i)
 rw [hl]
 have := (hat.act.rel i).view hat.good
 exact this.weak (Nat.zero_le _)
end Go.Sx
