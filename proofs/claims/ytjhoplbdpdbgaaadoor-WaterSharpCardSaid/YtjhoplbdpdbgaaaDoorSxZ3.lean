/- More rules. Own work. -/
import Derived.Test.YtjhoplbdpdbgaaaDoorSxRG
set_option linter.unusedVariables false
set_option linter.unusedSimpArgs false
namespace Go.Sx
variable {P : Program}
theorem app_sl {t e : TypeId} (hu : P.underlying t = some (.slice e)) {sz : Nat} (hs : sizeT P e = some sz) {zs : List D} (hz : zeroD P e = some zs) (hzl : zs.length = sz) (h0 : 0 < sz) {by_ : Nat} (hby : P.bytesOf e = by_) (h : H) (nid b n : Nat) {es xs : List (List D)}
    (hb : hget h b = some (.arr e sz es)) (hn : n = es.length) (hok : okSrc sz xs = true) (hc : (es.length + xs.length) * by_ ≤ 140737488355328) (hc2 : es.length + xs.length ≤ 140737488355328) :
    appE P h nid t t (.osl b n) (.sl xs) = some (.osl b (es.length + xs.length), hset h b (.arr e sz (es ++ xs)), nid) := by
  subst hn; subst hby
  simp [appE, hu, srcD, hs, hz, hzl, h0, hok, hb, hc, hc2]
theorem litD_one {t e : TypeId} (hu : P.underlying t = some (.slice e)) (hs : sizeT P e = some 1) {z : D} (hz : zeroD P e = some [z]) (h : H) (d : D) (hd : cellsE h d = some [d]) (hl : D.lt 0 d = true) :
    litD P h t 1 [(0, d)] = some (.sl [[d]]) := by
  have : litSl P h t 1 [(0, d)] = some (e, 1, [[d]]) := by simp [litSl, hu, hs, hz, fillD, hd, repL, putL, chunk]
  simp [litD, this, D.ltL, hl]
theorem litD_int {t e : TypeId} (hu : P.underlying t = some (.slice e)) (hs : sizeT P e = some 1) {z : D} (hz : zeroD P e = some [z]) (h : H) (k : IntKind) (n : Int) :
    litD P h t 1 [(0, .int k n)] = some (.sl [[.int k n]]) := litD_one hu hs hz h _ rfl rfl
theorem litD_agg {t e : TypeId} {sz : Nat} (hu : P.underlying t = some (.slice e)) (hs : sizeT P e = some sz) {zs : List D} (hz : zeroD P e = some zs) (hzl : zs.length = sz) (h0 : 0 < sz) (hb : sz ≤ 16777216) (h : H) (cs : List D) (hcl : cs.length = sz) (hl : D.ltL 0 cs = true) :
    litD P h t 1 [(0, .agg cs)] = some (.sl [cs]) := by
  have : litSl P h t 1 [(0, .agg cs)] = some (e, sz, [cs]) := by simp [litSl, hu, hs, hz, fillD, cellsE, repL, putL, chunk, hzl, hcl, h0, hb]
  simp [litD, this, hl]
def curC (n : Nat) : Option Blk → Bool
  | some (.arr _ _ es) => Nat.beq n es.length
  | _ => false
theorem cur_osl (h : H) (b n : Nat) : curD h (.osl b n) = curC n (hget h b) := (rfl)
theorem curC_arr (n : Nat) (t : TypeId) (sz : Nat) (es : List (List D)) : curC n (some (.arr t sz es)) = decide (n = es.length) := by
  show Nat.beq n es.length = _
  rw [Bool.eq_iff_iff, decide_eq_true_eq]
  rw [Nat.beq_eq]
theorem ms_nil (s : St) : moveSt [] s = s := (rfl)
theorem ms_assign (d : Option Tmp) (x : Operand) (ty : TypeId) (p : String) (a : Array Edge) (g : Option (Nat × Bool)) (r : List Oper) (s : St) : moveSt (⟨d, .assign x, ty, p, a, g⟩ :: r) s = moveSt r (s.put d (evO s.env x)) := (rfl)
theorem ms_move (d : Option Tmp) (x : Operand) (ty : TypeId) (p : String) (a : Array Edge) (g : Option (Nat × Bool)) (r : List Oper) (s : St) : moveSt (⟨d, .move x, ty, p, a, g⟩ :: r) s = moveSt r (s.put d (evO s.env x)) := (rfl)
theorem pe_cons (n p : Nat) (ps : List Tmp) (d : D) (ds : List D) (e : Env) : parEnv n (p :: ps) (d :: ds) e = parEnv n ps ds (if p < n then (p, d) :: e else e) := (rfl)
theorem pe_nil (n : Nat) (ds : List D) (e : Env) : parEnv n [] ds e = e := (rfl)
theorem relL_int (R : Rx) (n : Nat) (k : IntKind) (x : Int) : RelL R n [Value.int k x] [D.int k x] := ⟨rfl, fun i v d a b => by
  cases i with
  | zero => simp at a b; subst a; subst b; exact .int _ _ _
  | succ i => simp at a⟩
theorem ex_tup (i : Nat) (ds : List D) : extractD i (.tup ds) = ds[i]? := (rfl)

variable {O : Oracle} {n0 : Nat}
/-- A range over an iterator that reads no memory. 'E': what the slots hold. -/
theorem rangeV {α : Type} {g : Operand} {ps : Array Tmp} {id : Nat} {ops : Array Oper} {body : Code} {env : Env} {h : H} {nid n : Nat} {Q : Ex → St → Prop} {u : Tag (Code.rangeFunc g ps (.region id ops false) body, Q)} {gf : FuncId} {encs : α → Array Value} {ds : α → List D} {N : Nat} {Sd Sp : List α → Prop}
    (hO : OkO P O) (T : List (Nat × List Ann)) (hm : P.follows .mixedOrders = true) (ht : tabOk T body = true) (hseq : ∀ w, SeqStopsK (FW none) 0 P gf #[] encs (fun _ _ => True) Sd Sp N w) (hcal : callable P gf = true)
    (hps : ∀ x, (encs x).size = ps.size) (henc : ∀ (R : Rx) (n : Nat) x, RelL R n (encs x).toList (ds x)) (hmv : movesOnly ops.toList = true)
    (E : Env) (hh : List α → H) (m : Nat) (I : List α → Prop) (h0 : I []) (hg : evO E g = .fn (.func gf) [] []) (hnm : ∀ xs, noMap (hh xs) = true) (hw : headW n0 ⟨env, h, nid, n⟩ E (hh []) m n)
    (round : ∀ l pre x, I pre → pre.length < N → wc P m (some l) T O body (moveSt ops.toList ⟨parEnv n ps.toList (ds x) E, hh pre, m, n⟩)
      (thenQ (fun s' => I (pre ++ [x]) ∧ headW m ⟨E, s'.h, s'.nid, n⟩ E (hh (pre ++ [x])) m n) fun e s' => noMap s'.h = true ∧ (Sp (pre ++ [x]) → Q e ⟨E, s'.h, s'.nid, n⟩)))
    (hdone : ∀ xs, Sd xs → I xs → Q .normal ⟨E, hh xs, m, n⟩) : LoopV P n0 none (.rangeFunc g ps (.region id ops false) body) ⟨env, h, nid, n⟩ Q u := by
  refine awp_weak (weak_of hw) (awp_rangeFunc (s := ⟨E, hh [], m, n⟩) hm T ht hO hg hcal hseq hps henc hmv hh m I h0 ?_ hnm (fun l pre x hi hl => ?_) hdone)
  · have hk := weak_of hw
    exact ⟨rfl, fun i => .inr ⟨rfl, .inl (Nat.le_refl _)⟩, fun _ _ h => h, hk.key, hk.nid, .inl (Nat.le_refl _)⟩
  · have := round l pre x hi hl
    have he : (thenQ (fun s' => I (pre ++ [x]) ∧ headW m ⟨E, s'.h, s'.nid, n⟩ E (hh (pre ++ [x])) m n) fun e s' => noMap s'.h = true ∧ (Sp (pre ++ [x]) → Q e ⟨E, s'.h, s'.nid, n⟩)) =
      fun e s' => match e with
        | .normal => I (pre ++ [x]) ∧ headW m ⟨E, s'.h, s'.nid, n⟩ E (hh (pre ++ [x])) m n
        | e => noMap s'.h = true ∧ (Sp (pre ++ [x]) → Q e ⟨E, s'.h, s'.nid, n⟩) := by
      funext e s'; cases e <;> rfl
    rw [he] at this
    exact this
end Go.Sx
