/- Sx: the calculus behind a deferred call and ahead of a panic. Own work. -/
import Derived.Test.YtljkgnicmlhipaaGreatSxZ32
set_option linter.unusedVariables false
set_option linter.unusedSimpArgs false
namespace Go.Sx
variable {P : Program} {O : Oracle} {n0 : Nat} {T : List (Nat × List Ann)}

def exK (Q : Ex → St → Prop) : ExP → St → Prop
 | .ex x, s => Q x s
 | .panic _, _ => False
theorem awt_peel (hO : OkO P O) (hm : P.follows .mixedOrders = true) {x y : Code} {s : St} {Q : ExP → St → Prop} (ht : tabOk T x = true) (h : wc P n0 none T O x s (thenQ (fun s' => AWT P n0 (false, []) y s' Q) fun x s => Q (.ex x) s)) : AWT P n0 (false, []) (.seq x y) s Q :=
 awt_seq (awt_of_awp (awp_mono (wc_sound hO hm x s _ ht h) fun e s h => by cases e <;> exact h))
def calmC : Code → Bool
 | .skip | .exit _ | .ret => true
 | .seq a b => calmC a && calmC b
 | .cond _ a b => calmC a && calmC b
 | .block _ c => calmC c
 | .region _ _ d => !d
 | _ => false
theorem awt_regW (hO : OkO P O) {TT : Tl} {id : Nat} {ops : Array Oper} {s : St} {Q : ExP → St → Prop} (h : wcOps P O ops ops.toList s fun s' => Q (.ex .normal) s') : AWT P n0 TT (.region id ops false) s Q :=
 awt_region (by
  have := wcOps_aops hO (n0 := n0) (ro := none) ops.toList 0 s _ (fun j => by simp) h
  simpa using this)
theorem wct_sound (hO : OkO P O) {TT : Tl} : ∀ (c : Code) (s : St) (Q : Ex → St → Prop), calmC c = true → wc P n0 none T O c s Q → AWT P n0 TT c s (exK Q)
 | .skip, s, Q, _, h => awt_skip h
 | .exit _, s, Q, _, h => awt_exit h
 | .ret, s, Q, _, h => awt_ret h
 | .seq a b, s, Q, ht, h => by
  simp only [calmC, Bool.and_eq_true] at ht
  refine awt_seq (awt_mono (wct_sound hO a s _ ht.1 h) fun e s' h' => ?_)
  cases e with
  | panic _ => exact h'
  | ex x =>
   cases x with
   | normal => exact wct_sound hO b s' Q ht.2 h'
   | exit id => exact h'
   | ret => exact h'
 | .cond c a b, s, Q, ht, h => by
  simp only [calmC, Bool.and_eq_true] at ht
  simp only [wc] at h
  split at h
  ·rename_i t hc
   exact awt_cond hc (fun e => wct_sound hO a s Q ht.1 (h.1 e)) (fun e => wct_sound hO b s Q ht.2 (h.2 e))
  ·exact h.elim
 | .block id c, s, Q, ht, h => by
  refine awt_block (awt_mono (wct_sound hO c s _ ht h) fun e s' h' => ?_)
  cases e with
  | panic _ => exact h'
  | ex x =>
   cases x with
   | normal => exact h'
   | ret => exact h'
   | exit i =>
    by_cases hi : i = id
    ·simp only [exK, blockQ, blockP, if_pos hi] at h' ⊢
     exact h'
    ·simp only [exK, blockQ, blockP, if_neg hi] at h' ⊢
     exact h'
 | .region id ops false, s, Q, _, h => awt_regW hO h
 | .region _ _ true, _, _, ht, _ => by simp [calmC] at ht
theorem awt_peelT (hO : OkO P O) {TT : Tl} {x y : Code} {s : St} {Q : ExP → St → Prop} (ht : calmC x = true) (h : wc P n0 none T O x s (thenQ (fun s' => AWT P n0 TT y s' Q) fun x s => Q (.ex x) s)) : AWT P n0 TT (.seq x y) s Q :=
 awt_seq (awt_mono (wct_sound hO x s _ ht h) fun e s' h' => by
  cases e with
  | panic _ => exact h'.elim
  | ex x => cases x <;> exact h')
theorem awt_restT (hO : OkO P O) {TT : Tl} {x : Code} {s : St} {Q : ExP → St → Prop} (ht : calmC x = true) (h : wc P n0 none T O x s fun x s => Q (.ex x) s) : AWT P n0 TT x s Q :=
 awt_mono (wct_sound hO x s _ ht h) fun e s' h' => by
  cases e with
  | panic _ => exact h'.elim
  | ex x => exact h'
theorem bwp_peel (hO : OkO P O) {fn : Func} {rs : List ResultVar} (hrs : fn.results.toList = rs) {Q : D → H → Nat → Prop} {x y : Code} {s : St} (ht : calmC x = true) (h : wc P n0 none T O x s (thenQ (fun s' => BWp P fn n0 Q y s') (endK P rs Q))) : BWp P fn n0 Q (.seq x y) s :=
 bwp_seq (awt_mono (wct_sound hO x s _ ht h) fun e s' h' => by
  cases e with
  | panic _ => exact h'.elim
  | ex x =>
   cases x with
   | normal => exact h'
   | exit _ => exact h'
   | ret => exact (endQ_of hrs (show endK P rs Q .ret s' from h') : endQ P fn Q .ret s'))
theorem awt_last (hO : OkO P O) {TT : Tl} {id m : Nat} {ops : Array Oper} {s : St} {Q : ExP → St → Prop} (hms : ops.size = m + 1)
  (h : wcOps P O ops (ops.toList.take m) s fun s1 => AOpsT P n0 TT ops [m] s1 Q) : AWT P n0 TT (.region id ops false) s Q := by
 refine awt_regionT ?_
 have htl : (ops.toList.take m).length = m := by simp; omega
 rw [hms, List.range_succ]
 refine aopst_app ?_
 have hA := wcOps_pre (n0 := n0) (ro := none) hO (ops.toList.take m) 0 s _ (fun j hj => by rw [List.getElem?_take_of_lt (by omega)]; simp) h
 rw [htl] at hA
 simpa using hA
def endKP (P : Program) (rs : List ResultVar) (Q : D → H → Nat → Prop) (R : List PanicEntry → H → Nat → Prop) : ExP → St → Prop
 | .ex .normal, s | .ex .ret, s => optK (resD P s rs) fun ds => Q (tupD ds) s.h s.nid
 | .ex (.exit _), _ => False
 | .panic ch, s => R ch s.h s.nid
theorem pcall_of_pieces {f : FuncId} {fn : Func} {c : Code} {ds : List D} {h : H} {nid : Nat} {rs : List ResultVar} {m : Nat} {Q : D → H → Nat → Prop} {R : List PanicEntry → H → Nat → Prop} (hf : P.funcs[f]? = some fn) (hb : fn.body = some c) (hcal : callable P f = true)
  (hrs : fn.results.toList = rs) (hn : ds.length + (fn.ntmps - ds.length) = m) (hw : AWT P nid (false, []) c ⟨argEnv 0 ds, h, nid, m⟩ (endKP P rs Q R)) : PCall P f ds h nid Q R := by
 refine pcall_of_awt hf hb hcal ?_
 rw [hn]
 refine awt_mono hw fun e s hq => ?_
 subst hrs
 cases e with
 | panic ch => exact hq
 | ex x =>
  cases x with
  | exit _ => exact hq
  | normal => obtain ⟨ds, h1, h2⟩ := optK_inv (show optK _ _ from hq); exact ⟨ds, h1, h2⟩
  | ret => obtain ⟨ds, h1, h2⟩ := optK_inv (show optK _ _ from hq); exact ⟨ds, h1, h2⟩
theorem awt_peelI (hO : OkO P O) (hm : P.follows .mixedOrders = true) {x y : Code} {s : St} {Q : ExP → St → Prop} (E : Env) (V : H) (nid n : Nat) (ht : tabOk T x = true) (h : wc P n0 none T O x s (thenQ (fun s' => headW n0 s' E V nid n) fun x s => Q (.ex x) s))
  (h2 : AWT P n0 (false, []) y ⟨E, V, nid, n⟩ Q) : AWT P n0 (false, []) (.seq x y) s Q :=
 awt_seq (awt_of_awp (awp_mono (wc_sound hO hm x s _ ht h) fun e s h => by
  cases e with
  | normal => exact awt_imp (imp_head h) h2
  | exit _ => exact h
  | ret => exact h))
theorem run_eqI {d : Nat} {t : TypeId} {w : World} (hu : ∃ ms, P.underlying t = some (.interface ms)) : (Op.equalIn (d + 1) t .nilIface .nilIface).run P w = .ok true w ∧ ∀ u v, (Op.equalIn (d + 1) t (.iface u v) .nilIface).run P w = .ok false w := by
 obtain ⟨ms, hu⟩ := hu
 exact ⟨by simp [Op.equalIn, run_underlying hu], fun u v => by simp [Op.equalIn, run_underlying hu]⟩
theorem run_eqnil {t : TypeId} {x : Operand} {v : Value} {w : World} (hu : ∃ ms, P.underlying t = some (.interface ms)) {R : Rx} {n : Nat} {d : D} (hv : Rel R n v d) {b : Bool} (hd : d = .nili ∧ b = true ∨ (∃ u e, d = .ifc u e) ∧ b = false) :
  ((do eqGuard .eql t x (.const .nilIface) v .nilIface; binOp .eql t v .nilIface) : Sem Value).run P w = .ok (.bool b) w := by
 have h1 := run_eqI (P := P) (d := 9999) (w := w) hu
 rcases hd with ⟨rfl, rfl⟩ | ⟨⟨u, e, rfl⟩, rfl⟩
 ·cases hv
  have e1 : eqGuard .eql t x (.const .nilIface) .nilIface .nilIface = pure () := by simp [eqGuard]
  have e2 : binOp .eql t .nilIface .nilIface = (do pure (.bool (← Op.equal t .nilIface .nilIface))) := rfl
  have h2 : (Op.equal t .nilIface .nilIface).run P w = .ok true w := h1.1
  rw [e1, e2]
  simp only [Sem.run_bind, Sem.run_pure, Result.andThen_ok, h2]
 ·cases hv with
  | ifc _ _ v' _ _ =>
   have e1 : eqGuard .eql t x (.const .nilIface) (.iface u v') .nilIface = pure () := by simp [eqGuard]
   have e2 : binOp .eql t (.iface u v') .nilIface = (do pure (.bool (← Op.equal t (.iface u v') .nilIface))) := rfl
   have h2 : (Op.equal t (.iface u v') .nilIface).run P w = .ok false w := h1.2 _ _
   rw [e1, e2]
   simp only [Sem.run_bind, Sem.run_pure, Result.andThen_ok, h2]
theorem opOk_eqnil {o : Oper} {t yt : TypeId} {x : Operand} {s : St} {K : St → Prop} (ho : o.op = .binOp .eql t x (.const .nilIface) yt) (hu : ∃ ms, P.underlying t = some (.interface ms)) {b : Bool} (hx : evO s.env x = .nili ∧ b = true ∨ (∃ u e, evO s.env x = .ifc u e) ∧ b = false)
  (hK : K (s.put o.dst (.bool b))) : OpOk P n0 none o s K := by
 intro X k0 k a Q Kc hn hat hk
 have r1 := hat.act.eval x
 have h1 := run_eqnil (P := P) (x := x) (w := k.w) hu r1 hx
 refine ⟨fun _ _ => trivial, ?_⟩
 have hex : (execOp a.eval o).run P k.w = .ok (.value (.bool b)) k.w := by
  unfold execOp
  rw [ho]
  exact ok_bind_value _ _ _ _ _ h1
 rw [semAt_eq _ _ (by rw [ho]; simp), hex]
 refine hk k _ _ hK ⟨?_, ?_, hat.good, hat.le, hat.act.put o.dst (.bool _ _)⟩ (.refl k) (kept1_put _ _ _)
 ·rw [put_h]; exact hat.h
 ·rw [put_nid]; exact hat.nid
theorem opOk_assert {o : Oper} {xt u : TypeId} {x : Operand} {s : St} {K : St → Prop} {d : D} (ho : o.op = .typeAssert x xt u true) (hu : ∃ fs, P.underlying u = some (.struct fs)) (hx : evO s.env x = .ifc u d)
  (hK : K (s.put o.dst (.tup [d, .bool true]))) : OpOk P n0 none o s K := by
 intro X k0 k a Q Kc hn hat hk
 obtain ⟨fs, hu⟩ := hu
 have r1 := hat.act.eval x
 rw [hx] at r1
 generalize hv : a.eval x = v at r1
 cases r1 with
 | ifc _ _ v' _ hd =>
  have h1 : (Instr.typeAssert (.iface u v') xt u true).run P k.w = .ok (.tuple #[v', .bool true]) k.w := by
   simp [Instr.typeAssert, run_underlying hu, Sem.run_bind]
  refine ⟨fun _ _ => trivial, ?_⟩
  have hex : (execOp a.eval o).run P k.w = .ok (.value (.tuple #[v', .bool true])) k.w := by
   unfold execOp
   rw [ho]
   simp only [hv]
   exact ok_bind_value _ _ _ _ _ h1
  rw [semAt_eq _ _ (by rw [ho]; simp), hex]
  have hr : Rel (k.R X) k.nid (.tuple #[v', .bool true]) (.tup [d, .bool true]) := .tup _ [v', .bool true] [d, .bool true] rfl fun i v e h1 h2 => by
   match i with
   | 0 => simp at h1 h2; subst h1 h2; exact hd
   | 1 => simp at h1 h2; subst h1 h2; exact .bool _ _
   | i + 2 => simp at h1
  refine hk k _ _ hK ⟨?_, ?_, hat.good, hat.le, hat.act.put o.dst hr⟩ (.refl k) (kept1_put _ _ _)
  ·rw [put_h]; exact hat.h
  ·rw [put_nid]; exact hat.nid
theorem rel_int1 {R : Rx} {n : Nat} {v : Value} {k : IntKind} {t : Int} (h : Rel R n v (.agg [.int k t])) (u : TypeId) : ∀ R' n', Rel R' n' (.iface u v) (.ifc u (.agg [.int k t])) := by
 cases h with
 | agg _ vs _ h1 h2 =>
  obtain ⟨a, rfl⟩ : ∃ a, vs = [a] := List.length_eq_one_iff.1 h1
  have h3 := h2 0 a (.int k t) rfl rfl
  cases h3
  intro R' n'
  exact .ifc _ _ _ _ (.agg _ [.int k t] [.int k t] rfl fun i v e h1 h2 => by
   match i with
   | 0 => simp at h1 h2; subst h1 h2; exact .int _ _ _
   | i + 1 => simp at h1)
end Go.Sx
