/- Own work: a calculus of contracts for the programs of this kit: parts SxZ8, SxZ9. -/
import Derived.Test.YtaifjmjooapmhaaGreatSxMf
set_option linter.unusedVariables false
set_option linter.unusedSimpArgs false
namespace Go.Sx


variable {P : Program}
theorem own_len {t e : TypeId} (hu : P.underlying t = some (.slice e)) {h : H} {b n : Nat} {ty : TypeId} {sz : Nat} {es : List (List D)} (hb : hget h b = some (.arr ty sz es)) (hn : es.length = n) : lenOpD P h t (.osl b n) = some (.int .i64 n) := by
 subst hn
 simp [lenOpD, hu, lenD, hb]
theorem own_ix {t e : TypeId} (hu : P.underlying t = some (.slice e)) {h : H} {b n : Nat} {ty : TypeId} {sz : Nat} (hs : sizeT P e = some sz) {es : List (List D)} (hb : hget h b = some (.arr ty sz es)) (hn : es.length = n) {i : Nat} (hi : i < n) (k : IntKind) :
  indexAddrD P h t (.osl b n) (.int k (i : Int)) = some (.eptr b n sz i 0) := by
 subst hn
 simp [indexAddrD, hu, hb, hs, hi]
theorem own_load {t : TypeId} {h : H} {b n : Nat} {ty : TypeId} {sz : Nat} {es : List (List D)} (hb : hget h b = some (.arr ty sz es)) (hn : es.length = n) {i : Nat} {c : List D} (hc : es[i]? = some c) (o : Nat) :
  loadAtD P h t (.eptr b n sz i o) = loadD P t c o := by
 subst hn
 simp [loadAtD, hb, hc]
theorem own_store {t : TypeId} {h : H} {b n : Nat} {ty : TypeId} {sz : Nat} {es : List (List D)} (hb : hget h b = some (.arr ty sz es)) (hn : es.length = n) {i : Nat} {c : List D} (hc : es[i]? = some c) (o nid : Nat) {k : Nat} (hs : sizeT P t = some k) {x : D} {ds : List D}
  (hx : cellsE h x = some ds) (hl : ds.length = k) (hok : o + k ≤ sz) (hcur : ds.all (curD h) = true) (hlt : D.ltL 0 ds = true) :
  storeD P h nid t (.eptr b n sz i o) x = some (.any, hset h b (.arr ty sz (es.set i (putL c o ds))), nid) := by
 subst hn
 have hcur' : ∀ x ∈ ds, curD h x = true := List.all_eq_true.1 hcur
 simp [storeD, hx, hs, hb, hl, hok, hlt, hc]
 exact hcur'
end Go.Sx

namespace Go.Sx
variable {P : Program} {O : Oracle} {n0 : Nat} {ro : Option Nat} {T : List (Nat × List Ann)}
theorem pure_of_pieces {f : FuncId} {fn : Func} {c : Code} {ds : List D} {r : D} {rs : List ResultVar} {m : Nat} (T : List (Nat × List Ann)) (hO : OkO P O) (hm : P.follows .mixedOrders = true) (hf : P.funcs[f]? = some fn) (hb : fn.body = some c) (hcal : callable P f = true)
  (hrs : fn.results.toList = rs) (hn : ds.length + (fn.ntmps - ds.length) = m) (ht : tabOk T c = true) (h : AWp P 0 none c ⟨argEnv 0 ds, [], 0, m⟩ (endK P rs fun d h _ => view h d = r)) : Pure P f ds r :=
 pure_of_awp hf hb hcal (awp_mono (by rw [hn]; exact h) fun e s hq => endQ_of hrs hq)
theorem awp_peel (hO : OkO P O) (hm : P.follows .mixedOrders = true) {x y : Code} {s : St} {Q : Ex → St → Prop} (ht : tabOk T x = true) (h : wc P n0 ro T O x s (thenQ (fun s' => AWp P n0 ro y s' Q) Q)) : AWp P n0 ro (.seq x y) s Q :=
 awp_seq (wc_sound hO hm x s _ ht h)
theorem awp_rest (hO : OkO P O) (hm : P.follows .mixedOrders = true) {x : Code} {s : St} {Q : Ex → St → Prop} (ht : tabOk T x = true) (h : wc P n0 ro T O x s Q) : AWp P n0 ro x s Q :=
 wc_sound hO hm x s _ ht h
theorem Imp.view {env : Env} {h : H} {nid n : Nat} : Imp n0 ⟨env, h, nid, n⟩ ⟨env.map fun p => (p.1, Sx.view h p.2), [], nid, n⟩ := fun X k0 k a hn hat => by
 have hh : k.h = h := hat.h
 have hnid : k.nid = nid := hat.nid
 subst hh; subst hnid
 have hsub : ∀ id blk, hget ([] : H) id = some blk → hget k.h id = some blk := fun id blk hb => by simp [hget] at hb
 refine ⟨{ k with h := [], nid := k.nid }, rfl, rfl, rfl, hat.good.drop hsub (fun id blk hb => hat.good.key id blk (hsub id blk hb)) (fun hlt => absurd hlt (Nat.lt_irrefl _)), Le.drop hat.le hat.le.nid hsub, hat.act.size, fun i => ?_, hat.act.marks⟩
 have hl : look (env.map fun p => (p.1, Sx.view k.h p.2)) i = Sx.view k.h (look env i) := by
  clear hat hsub
  induction env with
  | nil => simp [look, Sx.view]
  | cons p e ih =>
   obtain ⟨j, d⟩ := p
   simp only [List.map_cons, look]
   split
   ·rfl
   ·exact ih
 show Rel _ _ _ (look (env.map fun p => (p.1, Sx.view k.h p.2)) i)
 rw [hl]
 have := (hat.act.rel i).view hat.good
 exact this.weak (Nat.zero_le _)
theorem imp_view {env e : Env} {h h' : H} {nid nid' n n' : Nat} (hw : headW n0 ⟨env.map fun p => (p.1, Sx.view h p.2), [], nid, n⟩ e h' nid' n') : Imp n0 ⟨env, h, nid, n⟩ ⟨e, h', nid', n'⟩ :=
 Imp.view.trans (.weak (weak_of hw))
end Go.Sx
