/- Sx: a deferred closure that recovers. Own work. -/
import Derived.Test.YtljkgnicmlhipaaGreatSxZ31
import Derived.Recover
set_option linter.unusedVariables false
set_option linter.unusedSimpArgs false
namespace Go.Sx
variable {P : Program} {n0 : Nat}

theorem callsDIn_of_wpS {f : FuncId} {fn : Func} {c : Code} {args : Array Value} {u : FrameMode} {w : World} {n : Nat} {R : Ending → FrameMode → World → Prop}
  (hf : P.funcs[f]? = some fn) (hb : fn.body = some c)
  (h : ∀ (c₀ : Frame) (cs : List Frame), c₀.mode = u →
   c.wpS P (bodyPostS P fn c₀ cs R) { tmps := args ++ Array.replicate (fn.ntmps - args.size) undef, defers := [] } (c₀ :: cs) w) :
  CallsDIn (FW none) n P f args u w R := by
 refine ⟨trivial, fun c₀ cs hu _ => ?_⟩
 let b : Frame := { (default : Frame) with fn := f, kind := .deferred }
 have henter : Frame.enter P f args .deferred =
   b.at { tmps := args ++ Array.replicate (fn.ntmps - args.size) undef, defers := [] } [.code c] := by
  simp [Frame.enter, Frame.at, hf, hb, b]
 obtain ⟨e, a', cs', w', hq, harr⟩ := h c₀ cs hu b [] rfl rfl
 rw [← henter] at harr
 cases e with
 | normal =>
  obtain ⟨hd, u', rfl, v, hr, hR⟩ := hq
  exact ⟨.returned v, u', w', _, hR, comesIn_wide.2 (Steps.trans harr (.one step_end)), rfl, rfl, rfl, hd, fn, hf, hr⟩
 | ret =>
  obtain ⟨hd, u', rfl, v, hr, hR⟩ := hq
  obtain ⟨todo, hs⟩ := harr
  exact ⟨.returned v, u', w', _, hR, comesIn_wide.2 hs, rfl, rfl, rfl, hd, fn, hf, hr⟩
 | panic chain =>
  obtain ⟨hd, u', rfl, hR⟩ := hq
  obtain ⟨todo, hs⟩ := harr
  exact ⟨.panicked chain, u', w', _, hR, comesIn_wide.2 hs, rfl, rfl, rfl, hd, fn, hf⟩
 | exit id => exact hq.elim
 | goto l => exact hq.elim
 | outgrown =>
  obtain ⟨u', hR⟩ := hq
  exact ⟨.outgrown, u', w', b, hR, comesIn_wide.2 (harr.resolve_left (by simp [b])), rfl, rfl, trivial⟩
def RecIn (u u' : FrameMode) (v : Value) : Prop := ∀ (c₀ : Frame) (cs : List Frame), c₀.mode = u → match recoverD (c₀ :: cs) with
 | some (v', cs') => v' = v ∧ cs' = { c₀ with mode := u' } :: cs
 | none => v = .nilIface ∧ u' = u
theorem recIn_ret : RecIn .returning .returning .nilIface := fun c₀ cs h => by
 simp [recoverD, h]
theorem recIn_panic (v : Value) (older : List PanicEntry) : RecIn (.panicking ({ v, recovered := false } :: older)) (.panicking ({ v, recovered := true } :: older)) v := fun c₀ cs h => by
 simp [recoverD, h]
theorem clos_call {X : Nat → Prop} {k : Cx} {g : FuncId} {fn : Func} {id : Nat} {o : Oper} {c2 : Code} {t4 n : Nat} {tys : Array TypeId} (hf : P.funcs[g]? = some fn) (hb : fn.body = some (.seq (.region id #[o] false) c2))
  (ho : o.op = .call ⟨.builtin .recover, #[], tys⟩) (hg : o.guard = none) (hdst : o.dst = some t4) (hres : fn.results = #[]) (hnt : t4 < fn.ntmps) {v0 v4 : Value} {d0 d4 : D} (hgood : Good X k) (hr0 : Rel (k.R X) k.nid v0 d0) (hr4 : Rel (k.R X) k.nid v4 d4)
  {u u' : FrameMode} (hrec : RecIn u u' v4) {K : H → Nat → Prop} (hw : AWT P k.nid (true, []) c2 { env := [(t4, d4), (0, d0)], h := k.h, nid := k.nid, n := 1 + (fn.ntmps - 1) } fun x s' => (x = .ex .normal ∨ x = .ex .ret) ∧ K s'.h s'.nid) :
  CallsDIn (FW none) n P g #[v0] u k.w fun e u2 w' => e = .returned (.tuple #[]) ∧ u2 = u' ∧ ∃ k', k'.w = w' ∧ Good X k' ∧ Le k k' ∧ K k'.h k'.nid := by
 refine callsDIn_of_wpS hf hb fun c₀ cs hu => wpS_seq (wpS_region ?_)
 have hat := at_entry (X := X) (k := k) (vs := [v0]) (ds := [d0]) (fn := fn) hgood ⟨rfl, fun i v d h1 h2 => by
  match i with
  | 0 => simp at h1 h2; subst h1 h2; exact hr0
  | i + 1 => simp at h1⟩
 have ha : ({ tmps := #[v0] ++ Array.replicate (fn.ntmps - (#[v0] : Array Value).size) undef, defers := [] } : Act) = { tmps := [v0].toArray ++ Array.replicate (fn.ntmps - [v0].toArray.size) undef, defers := [] } := rfl
 rw [ha]
 generalize hA : ({ tmps := [v0].toArray ++ Array.replicate (fn.ntmps - [v0].toArray.size) undef, defers := [] } : Act) = a at hat
 have hd : a.defers = [] := by rw [← hA]
 clear hA ha
 have hrun : (execOp a.eval o).run P k.w = .ok .recover k.w := by
  unfold execOp
  rw [ho]
  simp [resolve, invoke, go_sem]
 have hw1 : Region.wanted o (yielded #[o] a.tmps) = true := by simp [Region.wanted, hg]
 have hlt : t4 < 1 + (fn.ntmps - 1) := by omega
 have key : ∀ cs', cs' = { c₀ with mode := u' } :: cs → c2.wpS P (bodyPostS P fn c₀ cs fun e u2 w' => e = .returned (.tuple #[]) ∧ u2 = u' ∧ ∃ k', k'.w = w' ∧ Good X k' ∧ Le k k' ∧ K k'.h k'.nid) (a.put o.dst v4) cs' k.w := fun cs' hcs => by
  refine wpS_of_wp ?_
  have hat1 : AtT (true, []) X k k (a.put o.dst v4) { env := [(t4, d4), (0, d0)], h := k.h, nid := k.nid, n := 1 + (fn.ntmps - 1) } := by
   refine ⟨[], by rw [put_defers]; exact hd, fun _ => rfl, rfl, rfl, hgood, .refl k, ?_⟩
   have := ActOk.put hat.act (some t4) hr4
   rw [hdst]
   simp only [St.put] at this
   rw [if_pos (show t4 < [d0].length + (fn.ntmps - [d0].length) from hlt)] at this
   have e : ({ a.put (some t4) v4 with defers := [] } : Act) = a.put (some t4) v4 := by
    cases a; simp only at hd; subst hd; rfl
   rw [e]
   exact this
  refine (wpIn_wide (n := 0)).1 (wpIn_mono (hw X k k _ rfl hat1) ?_)
  rintro e a' w' ⟨x, k', s, hx, rfl, ⟨hxx, hK⟩, ds, h1, h2, hat'⟩
  have hds := h2 rfl
  subst hds
  have hd' : a'.defers = [] := h1
  have fin : a'.defers = [] ∧ ∃ u2, cs' = { c₀ with mode := u2 } :: cs ∧ ∃ v, (results fn a'.tmps).run P k'.w = .ok v k'.w ∧ (Ending.returned v = .returned (.tuple #[]) ∧ u2 = u' ∧ ∃ k2, k2.w = k'.w ∧ Good X k2 ∧ Le k k2 ∧ K k2.h k2.nid) :=
   ⟨hd', u', hcs, _, results_none hres _ _ _, rfl, rfl, k', rfl, hat'.good, hat'.le, by rw [hat'.h, hat'.nid]; exact hK⟩
  cases e with
  | normal => exact fin
  | ret => exact fin
  | exit id => simp only [exP, exOf, Option.map_some, Option.some.injEq] at hx; subst hx; rcases hxx with h | h <;> cases h
  | panic ch => simp only [exP, Option.some.injEq] at hx; subst hx; rcases hxx with h | h <;> cases h
  | _ => simp [exP, exOf] at hx
 have hrec1 := hrec c₀ cs hu
 show wpOpsS P #[o] _ [0] a (c₀ :: cs) k.w
 simp only [wpOpsS, show (#[o] : Array Oper)[0]? = some o from rfl, hw1, if_true, hrun]
 cases hq : recoverD (c₀ :: cs) with
 | some p =>
  obtain ⟨v', cs'⟩ := p
  rw [hq] at hrec1
  obtain ⟨rfl, rfl⟩ := hrec1
  exact key _ rfl
 | none =>
  rw [hq] at hrec1
  obtain ⟨rfl, rfl⟩ := hrec1
  exact key _ (by subst hu; rfl)

def NoP : List PanicEntry → H → Nat → Prop := fun _ _ _ => False
def BWp (P : Program) (fn : Func) (n0 : Nat) (Q : D → H → Nat → Prop) (c : Code) (s : St) : Prop :=
 ∀ X k0 k a, k0.nid = n0 → AtT (true, []) X k0 k a s → c.wpIn (FW none) 0 P (bodyPostM (FW none) 0 P fn (ResP X k0 Q NoP)) a k.w
theorem bwp_seq {fn : Func} {Q : D → H → Nat → Prop} {x y : Code} {s : St} (h : AWT P n0 (true, []) x s (thenP (fun s' => BWp P fn n0 Q y s') (endP P fn Q NoP))) : BWp P fn n0 Q (.seq x y) s :=
 fun X k0 k a hn hat => wpIn_seq (wpIn_mono (h X k0 k a hn hat) fun e a w ⟨x, k, s, hx, h2, hq, hat'⟩ => by
  subst h2
  cases e with
  | normal => simp only [exP, exOf, Option.map_some, Option.some.injEq] at hx; subst hx; exact hq X k0 k a hn hat'
  | ret => simp only [exP, exOf, Option.map_some, Option.some.injEq] at hx; subst hx; obtain ⟨rs, hrs, hq⟩ := hq; exact leaves_ret hat'.nil hrs hq
  | exit id => simp only [exP, exOf, Option.map_some, Option.some.injEq] at hx; subst hx; exact hq.elim
  | panic ch => simp only [exP, Option.some.injEq] at hx; subst hx; exact hq.elim
  | _ => simp [exP, exOf] at hx)
theorem acall_of_bwp {f : FuncId} {fn : Func} {c : Code} {ds : List D} {h : H} {nid : Nat} {Q : D → H → Nat → Prop} (hf : P.funcs[f]? = some fn) (hb : fn.body = some c) (hcal : callable P f = true)
  (hw : BWp P fn nid Q c { env := argEnv 0 ds, h := h, nid := nid, n := ds.length + (fn.ntmps - ds.length) }) : ACall P f ds h nid Q := by
 refine ⟨hcal, fun X k vs hh hn hg hr => ?_⟩
 subst hh hn
 have hc : Calls P f vs.toArray k.w (ResP X k Q NoP) := calls_of_callsIn (n := 0) (callsIn_of_wp_marks hf hb trivial (hw X k k _ rfl ⟨[], rfl, fun _ => rfl, at_entry (fn := fn) hg hr⟩) rfl)
 exact hc.mono fun e w' ⟨k', h1, h2, h3, h4⟩ => by
  rcases h4 with ⟨v, r, a, b, c⟩ | ⟨_, _, h⟩
  ·exact ⟨v, k', r, a, h1, b, h2, h3, c⟩
  ·exact h.elim
def DefQ (P : Program) (fn : Func) (Q : D → H → Nat → Prop) (c2 : Code) (t4 m b : Nat) : ExP → St → Prop
 | .ex .normal, s | .ex .ret, s => (∃ ds, resD P s fn.results.toList = some ds ∧ Q (tupD ds) s.h s.nid) ∧ b < s.nid ∧
   AWT P s.nid (true, []) c2 { env := [(t4, .nili), (0, .ptr b 0)], h := s.h, nid := s.nid, n := m } fun x s' => (x = .ex .normal ∨ x = .ex .ret) ∧ s'.h = s.h ∧ s'.nid = s.nid
 | .ex (.exit _), _ => False
 | .panic ch, s => b < s.nid ∧ ∃ (v : Value) (d : D) (K : H → Nat → Prop), ch = [{ v := v, recovered := false }] ∧ (∀ R n, Rel R n v d) ∧
   (AWT P s.nid (true, []) c2 { env := [(t4, d), (0, .ptr b 0)], h := s.h, nid := s.nid, n := m } fun x s' => (x = .ex .normal ∨ x = .ex .ret) ∧ K s'.h s'.nid) ∧
   ∀ h nid, K h nid → ∃ ds, resD P { s with h := h, nid := nid } fn.results.toList = some ds ∧ Q (tupD ds) h nid
theorem bwp_defer {fn : Func} {Q : D → H → Nat → Prop} {id : Nat} {o1 o2 : Oper} {rest : Code} {s : St} {g : FuncId} {gn : Func} {t6 t41 t4 b : Nat} {gid : Nat} {go : Oper} {c2 : Code} {tys gtys : Array TypeId}
  (h1 : o1.op = .makeFunc (.func g) #[] #[.tmp t6]) (h1g : o1.guard = none) (h1d : o1.dst = some t41) (h2 : o2.op = .defer ⟨.value (.tmp t41), #[], tys⟩) (h2g : o2.guard = none) (h2d : o2.dst = none)
  (h6 : look s.env t6 = .ptr b 0) (hn : t41 < s.n) (hgf : P.funcs[g]? = some gn) (hgb : gn.body = some (.seq (.region gid #[go] false) c2)) (hgo : go.op = .call ⟨.builtin .recover, #[], gtys⟩) (hgg : go.guard = none) (hgd : go.dst = some t4) (hgr : gn.results = #[]) (hgt : t4 < gn.ntmps)
  (hcal : callable P g = true)
  (hrest : ∀ d, AWT P s.nid (true, [d]) rest ⟨(t41, .fn (.func g) [] [.ptr b 0]) :: s.env, s.h, s.nid, s.n⟩ (DefQ P fn Q c2 t4 (1 + (gn.ntmps - 1)) b)) : BWp P fn n0 Q (.seq (.region id #[o1, o2] false) rest) s := by
 intro X k0 k a hnid hat
 obtain ⟨ds, hd1, hd2, hat⟩ := hat
 have hds := hd2 rfl
 subst hds
 have hd : a.defers = [] := hd1
 have e0 : ({ a with defers := [] } : Act) = a := by cases a; simp only at hd; subst hd; rfl
 rw [e0] at hat
 clear e0 hd1 hd2
 have hr6 : Rel (k.R X) k.nid (a.eval (.tmp t6)) (.ptr b 0) := by have := hat.act.eval (.tmp t6); rwa [show evO s.env (.tmp t6) = look s.env t6 from rfl, h6] at this
 generalize hv6 : a.eval (.tmp t6) = v6 at hr6
 have hblt : b < k.nid := by cases hr6; assumption
 have hle0 := hat.le
 have hng : k.nid = s.nid := hat.nid
 -- the two operations
 obtain ⟨d, hdt, hda⟩ : ∃ d : Deferred, d.target = .fn (.func g) #[v6] ∧ d.args = #[] := ⟨⟨.fn (.func g) #[v6], #[]⟩, rfl, rfl⟩
 have hdd : d = ⟨.fn (.func g) #[v6], #[]⟩ := by cases d; simp only at hdt hda; subst hdt hda; rfl
 have key : rest.wpIn (FW none) 0 P (bodyPostM (FW none) 0 P fn (ResP X k0 Q NoP)) { a.put (some t41) (.func (.func g) #[] #[v6]) with defers := [d] } k.w := by
  have hat1 : AtT (true, [d]) X k k { a.put (some t41) (.func (.func g) #[] #[v6]) with defers := [d] } ⟨(t41, .fn (.func g) [] [.ptr b 0]) :: s.env, s.h, s.nid, s.n⟩ := by
   have hfn : Rel (k.R X) k.nid (.func (.func g) #[] #[v6]) (.fn (.func g) [] [.ptr b 0]) := .fn _ _ [] [v6] [] [.ptr b 0] rfl rfl (by simp) (fun i v d a b => by
    match i with
    | 0 => simp at a b; subst a b; exact hr6
    | i + 1 => simp at a)
   have hput := ActOk.put (s := s) hat.act (some t41) hfn
   simp only [St.put] at hput
   rw [if_pos hn] at hput
   exact ⟨[], rfl, fun _ => rfl, hat.h, hat.nid, hat.good, .refl k, hput.size, hput.rel, [], rfl, List.nodup_nil, by simp⟩
  refine wpIn_mono (hrest d X k k _ hng hat1) ?_
  rintro e a' w ⟨x, k', s', hx, rfl, hq, ds, hd1, hd2, hat'⟩
  have hds := hd2 rfl
  subst hds
  have hdf : a'.defers = [d] := hd1
  clear hd1 hd2
  have hr6' := hr6.le hat'.le
  -- behind the closure
  have fin : ∀ k'', Good X k'' → Le k' k'' → (∃ ds, resD P { s' with h := k''.h, nid := k''.nid } fn.results.toList = some ds ∧ Q (tupD ds) k''.h k''.nid) → LeavesInM (FW none) 0 P fn a'.tmps (ResP X k0 Q NoP) [] .returning k''.w := fun k'' hg hle ⟨rs, hrs, hQ⟩ => by
   have hat2 : At X k0 k'' { a' with defers := [] } { s' with h := k''.h, nid := k''.nid } := ⟨rfl, rfl, hg, hle0.trans (hat'.le.trans hle), (hat'.act.le hat'.good hle).size, (hat'.act.le hat'.good hle).rel, [], rfl, List.nodup_nil, by simp⟩
   exact leaves_ret hat2 hrs hQ
  have door : ∀ (u u' : FrameMode) (v4 : Value) (d4 : D) (K : H → Nat → Prop), u ≠ .run → settle u' = .returning → RecIn u u' v4 → Rel (k'.R X) k'.nid v4 d4 →
    (AWT P s'.nid (true, []) c2 { env := [(t4, d4), (0, .ptr b 0)], h := s'.h, nid := s'.nid, n := 1 + (gn.ntmps - 1) } fun x s2 => (x = .ex .normal ∨ x = .ex .ret) ∧ K s2.h s2.nid) →
    (∀ h nid, K h nid → ∃ ds, resD P { s' with h := h, nid := nid } fn.results.toList = some ds ∧ Q (tupD ds) h nid) → LeavesInM (FW none) 0 P fn a'.tmps (ResP X k0 Q NoP) a'.defers u k'.w := fun u u' v4 d4 K hu hset hrec hr4 hw hK => by
   rw [hdf, hdd]
   refine ⟨hu, .inr ⟨by simp [FW, Fence.wide], .func g, #[v6], g, #[v6], rfl, ?_, fun _ _ => trivial, ?_⟩⟩
   ·simp only [invoke]
    rw [run_callFunc hcal]
    rfl
   ·rw [← hat'.h, ← hat'.nid] at hw
    have hc := clos_call (n := 0 - 1) hgf hgb hgo hgg hgd hgr hgt hat'.good hr6' hr4 hrec hw
    refine hc.mono ?_
    rintro e u2 w' ⟨rfl, rfl, k'', rfl, hg, hle, hk⟩
    show LeavesInM (FW none) 0 P fn a'.tmps (ResP X k0 Q NoP) [] (settle u2) k''.w
    rw [hset]
    exact fin k'' hg hle (hK _ _ hk)
  have ret : ((∃ ds, resD P s' fn.results.toList = some ds ∧ Q (tupD ds) s'.h s'.nid) ∧ b < s'.nid ∧
   AWT P s'.nid (true, []) c2 { env := [(t4, .nili), (0, .ptr b 0)], h := s'.h, nid := s'.nid, n := 1 + (gn.ntmps - 1) } fun x s2 => (x = .ex .normal ∨ x = .ex .ret) ∧ s2.h = s'.h ∧ s2.nid = s'.nid) → LeavesInM (FW none) 0 P fn a'.tmps (ResP X k0 Q NoP) a'.defers .returning k'.w := fun ⟨⟨rs, hrs, hQ⟩, _, hw⟩ =>
   door .returning .returning .nilIface .nili (fun h nid => h = s'.h ∧ nid = s'.nid) (by simp) rfl recIn_ret (.nili _) hw fun h nid ⟨h1, h2⟩ => by subst h1 h2; exact ⟨rs, hrs, hQ⟩
  cases e with
  | normal => simp only [exP, exOf, Option.map_some, Option.some.injEq] at hx; subst hx; exact ret hq
  | ret => simp only [exP, exOf, Option.map_some, Option.some.injEq] at hx; subst hx; exact ret hq
  | exit id => simp only [exP, exOf, Option.map_some, Option.some.injEq] at hx; subst hx; exact hq.elim
  | panic ch =>
   simp only [exP, Option.some.injEq] at hx; subst hx
   obtain ⟨_, v, d4, K, rfl, hrv, hw, hK⟩ := hq
   exact door _ _ v d4 K (by simp) (by simp [settle]) (recIn_panic v []) (hrv _ _) hw hK
  | _ => simp [exP, exOf] at hx
 refine wpIn_seq (wpIn_region ?_)
 show wpOpsIn (FW none) 0 P #[o1, o2] _ [0, 1] a k.w
 rw [wpOpsIn_cons]
 have hw1 : Region.wanted o1 (yielded #[o1, o2] a.tmps) = true := by simp [Region.wanted, h1g]
 simp only [wpOpIn, show (#[o1, o2] : Array Oper)[0]? = some o1 from rfl, hw1, if_true]
 refine ⟨fun _ _ => trivial, ?_⟩
 rw [semAt_eq _ _ (by rw [h1]; simp)]
 have hrun1 : (execOp a.eval o1).run P k.w = .ok (.value (.func (.func g) #[] #[v6])) k.w := by
  unfold execOp
  rw [h1]
  simp only [Instr.makeFunc, List.map_toArray, List.map_cons, List.map_nil, hv6]
  rfl
 rw [hrun1]
 show wpOpsIn (FW none) 0 P #[o1, o2] _ [1] (a.put o1.dst (.func (.func g) #[] #[v6])) k.w
 rw [wpOpsIn_cons]
 have hw2 : Region.wanted o2 (yielded #[o1, o2] (a.put o1.dst (.func (.func g) #[] #[v6])).tmps) = true := by simp [Region.wanted, h2g]
 simp only [wpOpIn, show (#[o1, o2] : Array Oper)[1]? = some o2 from rfl, hw2, if_true]
 refine ⟨fun _ _ => trivial, ?_⟩
 have hrun2 : (o2.semAt none (a.put o1.dst (.func (.func g) #[] #[v6])).eval).run P k.w = .ok (.defer ⟨.fn (.func g) #[v6], #[]⟩) k.w := by
  rw [Oper.semAt_none]
  unfold execOp
  rw [h2]
  have hv : (a.put o1.dst (.func (.func g) #[] #[v6])).eval (.tmp t41) = .func (.func g) #[] #[v6] := by
   rw [h1d]
   simp only [Act.put, Act.eval]
   have hlt : t41 < a.tmps.size := by rw [hat.act.size]; exact hn
   rw [Array.getD_eq_getD_getElem?, Array.getElem?_setIfInBounds_self_of_lt hlt]
   rfl
  simp only [resolve, Sem.run_bind, hv, Deferred.ofValue, Sem.run_pure, Result.andThen_ok, List.map_toArray, List.map_nil]
  rfl
 rw [show (FW none).round = none from rfl, hrun2]
 show rest.wpIn (FW none) 0 P _ _ k.w
 rw [h2d, h1d, ← hdd]
 have e1 : ({ (a.put (some t41) (.func (.func g) #[] #[v6])) with defers := d :: (a.put (some t41) (.func (.func g) #[] #[v6])).defers } : Act).put none undef = { a.put (some t41) (.func (.func g) #[] #[v6]) with defers := [d] } := by
  rw [put_defers, hd]; rfl
 rw [e1]
 exact key
theorem pcall_borrow {f : FuncId} {ds : List D} {A : Prop} {R : List PanicEntry → Prop} {h : H} {nid : Nat} (hp : PCall P f (ds.map (view h)) [] 0 (fun r _ _ => r = .tup [] ∧ A) fun ch _ _ => R ch) :
  PCall P f ds h nid (fun r' h' nid' => (r' = .tup [] ∧ h' = h ∧ nid' = nid) ∧ A) fun ch h' nid' => R ch ∧ h' = h ∧ nid' = nid := by
 refine ⟨hp.1, fun X k vs hh hn hg hrel => ?_⟩
 subst hh; subst hn
 refine (hp.2 X k.sub vs rfl rfl (good_sub hg.xlt) ⟨by simp [hrel.1], fun i v d a b => ?_⟩).mono ?_
 ·rw [List.getElem?_map] at b
  cases hd : ds[i]? with
  | none => simp [hd] at b
  | some d' => simp [hd] at b; subst b; exact (hrel.2 i v d' a hd).view hg
 ·rintro e w' ⟨kc, rfl, hgc, hlec, hres⟩
  have hheap : ∀ b, b < k.w.heap.size → kc.w.heap[b]? = k.w.heap[b]? := fun b hb => hlec.heap b hb (sub_mut k b)
  have hle : Le k { k with w := kc.w } := le_world hlec.os hlec.tape hlec.output hlec.size hheap
  refine ⟨{ k with w := kc.w }, rfl, hg.world hle hheap, hle, ?_⟩
  rcases hres with ⟨v, r', rfl, ⟨rfl, hA⟩, hrc⟩ | ⟨ch, rfl, hR⟩
  ·exact .inl ⟨v, _, rfl, ⟨⟨rfl, rfl, rfl⟩, hA⟩, hrc.flat rfl⟩
  ·exact .inr ⟨ch, rfl, hR, rfl, rfl⟩
end Go.Sx
