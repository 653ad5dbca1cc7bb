/- Sx, part I: calls, contracts, regions. Own work. -/
import Derived.Test.YtjhoplbdpdbgaaaDoorSxH
set_option linter.unusedVariables false
set_option linter.unusedSimpArgs false
namespace Go.Sx

def callable (P : Program) (f : FuncId) : Bool :=
  match P.funcs[f]? with
  | some fn => fn.body.isSome && !(fn.name == "runtime.NumGoroutine")
  | none => false

/-- What a call comes to, over an abstract heap. -/
def ACall (P : Program) (f : FuncId) (ds : List D) (h : H) (nid : Nat) (Q : D → H → Nat → Prop) : Prop :=
  callable P f = true ∧ ∀ X k vs, k.h = h → k.nid = nid → Good X k → RelL (k.R X) k.nid vs ds →
    Calls P f (List.toArray vs) k.w fun e w' => ∃ v k' r, e = .returned v ∧ k'.w = w' ∧ Q r k'.h k'.nid ∧ Good X k' ∧ Le k k' ∧ Rel (k'.R X) k'.nid v r

/-- A function of data alone. -/
def Pure (P : Program) (f : FuncId) (ds : List D) (r : D) : Prop := ACall P f ds [] 0 fun r' _ _ => r' = r

section
variable {P : Program} {n0 : Nat} {ro : Option Nat}

theorem ACall.mono {f : FuncId} {ds : List D} {h : H} {nid : Nat} {Q Q' : D → H → Nat → Prop} (hc : ACall P f ds h nid Q) (hq : ∀ r h n, Q r h n → Q' r h n) : ACall P f ds h nid Q' :=
  ⟨hc.1, fun X k vs h1 h2 h3 h4 => (hc.2 X k vs h1 h2 h3 h4).mono fun _ _ ⟨v, k', r, a, b, c, d⟩ => ⟨v, k', r, a, b, hq _ _ _ c, d⟩⟩

theorem callsIn_of_calls {ro : Option Nat} {n : Nat} {f : FuncId} {args : Array Value} {w : World} {R : Ending → World → Prop} (h : Calls P f args w R) : CallsIn (FW ro) n P f args w R :=
  ⟨trivial, fun cs _ => let ⟨e, w', fr, r, s, x⟩ := h cs; ⟨e, w', fr, r, (comesIn_wide (P := P)).2 s, x⟩⟩

theorem calls_of_callsIn {n : Nat} {f : FuncId} {args : Array Value} {w : World} {R : Ending → World → Prop} (h : CallsIn (FW none) n P f args w R) : Calls P f args w R :=
  (callsIn_wide (n := n)).1 h

theorem run_callFunc {f : FuncId} (h : callable P f = true) (args : Array Value) (w : World) : (callFunc f args).run P w = .ok (.enter f args) w := by
  unfold callable at h
  split at h
  · rename_i fn hf
    simp only [Bool.and_eq_true, Bool.not_eq_true'] at h
    obtain ⟨body, hb⟩ := Option.isSome_iff_exists.1 h.1
    simp only [callFunc, Sem.run_bind, run_program, Result.andThen_ok, hf, h.2, hb]
    rfl
  · cases h

/-- The function value that is called, as data. -/
def calleeD (env : Env) (c : Call) : Option (FuncId × List D) :=
  match c.callee with
  | .value x =>
    match evO env x with
    | .fn (.func f) first cap => some (f, first ++ c.args.toList.map (evO env) ++ cap)
    | _ => none
  | _ => none

theorem opOk_call {o : Oper} {c : Call} {s : St} {K : St → Prop} {f : FuncId} {ds : List D} (ho : o.op = .call c) (hcal : calleeD s.env c = some (f, ds))
    (h : ACall P f ds s.h s.nid fun r h' nid' => K (St.put { s with h := h', nid := nid' } o.dst r)) : OpOk P n0 ro o s K := by
  intro X k0 k a Q Kc hn hat hk
  refine ⟨fun _ _ => trivial, ?_⟩
  rw [semAt_eq _ _ (by rw [ho]; simp)]
  unfold calleeD at hcal
  split at hcal
  · rename_i x hx
    split at hcal
    · rename_i f' first cap hf
      cases hcal
      have hr := hat.act.eval x
      rw [hf] at hr
      obtain ⟨callee, args, argTypes⟩ := c
      dsimp only at hx
      subst hx
      generalize hv : a.eval x = v at hr
      cases hr with
      | fn _ _ va vc _ _ h1 h2 h3 h4 =>
        have hrun : (execOp a.eval o).run P k.w = .ok (.enter f (va ++ args.toList.map a.eval ++ vc).toArray) k.w := by
          unfold execOp
          rw [ho]
          simp only [resolve, Sem.run_bind, hv, Deferred.ofValue, Sem.run_pure, Result.andThen_ok, invoke]
          rw [run_callFunc h.1]
          congr 2
          apply Array.ext'
          simp
        rw [hrun]
        refine ⟨by simp [FW, Fence.wide], callsIn_of_calls ?_⟩
        have hl : RelL (k.R X) k.nid (va ++ args.toList.map a.eval ++ vc) (first ++ args.toList.map (evO s.env) ++ cap) :=
          (RelL.append ⟨h1, h3⟩ (RelL.map (fun x => hat.act.eval x) _)).append ⟨h2, h4⟩
        refine (h.2 X k _ hat.h hat.nid hat.good hl).mono ?_
        rintro e w' ⟨v', k', r, rfl, rfl, hK, hg', hle, hrel⟩
        have hact : ActOk X k' k0.w.heap.size a s.env s.n := hat.act.le hat.good hle
        refine hk k' _ _ hK ⟨?_, ?_, hg', hat.le.trans hle, ?_⟩ hle
        · rw [put_h]
        · rw [put_nid]
        · exact ActOk.put (s := { s with h := k'.h, nid := k'.nid }) hact o.dst hrel
    · cases hcal
  · cases hcal

/-! Regions -/

def AOps (P : Program) (n0 : Nat) (ro : Option Nat) (ops : Array Oper) (l : List Nat) (s : St) (K : St → Prop) : Prop :=
  ∀ X k0 k a (Q : Exit → Act → World → Prop), k0.nid = n0 → At X k0 k a s → (∀ k' a' s', K s' → At X k0 k' a' s' → Q .normal a' k'.w) →
    wpOpsIn (FW ro) 0 P ops Q l a k.w

theorem aops_nil {ops : Array Oper} {s : St} {K : St → Prop} (h : K s) : AOps P n0 ro ops [] s K :=
  fun X k0 k a Q hn hat hk => hk k a s h hat

def slotOf (ops : Array Oper) (j : Nat) : Option Tmp := (ops[j]?).bind (·.dst)

theorem yielded_eq {X : Nat → Prop} {k : Cx} {B : Nat} {a : Act} {env : Env} {n : Nat} (h : ActOk X k B a env n) {ops : Array Oper} {j : Nat} {t : Tmp} (hj : slotOf ops j = some t) {b : Bool} (hb : look env t = .bool b) :
    yielded ops a.tmps j = some b := by
  have hr := h.rel t
  rw [hb] at hr
  have hlt : t < a.tmps.size := by
    rcases Nat.lt_or_ge t a.tmps.size with h | h
    · exact h
    · rw [Array.getD_eq_getD_getElem?, Array.getElem?_eq_none h] at hr
      simp [undef] at hr; cases hr
  have hj' : (ops[j]?).bind (·.dst) = some t := hj
  simp only [yielded, hj', Option.bind_some]
  rw [Array.getD_eq_getD_getElem?, Array.getElem?_eq_getElem hlt] at hr
  rw [Array.getElem?_eq_getElem hlt]
  simp only [Option.getD_some] at hr
  generalize a.tmps[t] = v at hr
  cases hr; rfl

theorem yielded_off {X : Nat → Prop} {k : Cx} {B : Nat} {a : Act} {env : Env} {n : Nat} (h : ActOk X k B a env n) {ops : Array Oper} {j : Nat} {t : Tmp} (hj : slotOf ops j = some t) (hb : look env t = .tup []) :
    yielded ops a.tmps j = none := by
  have hr := h.rel t
  rw [hb] at hr
  have hj' : (ops[j]?).bind (·.dst) = some t := hj
  simp only [yielded, hj', Option.bind_some]
  rcases Nat.lt_or_ge t a.tmps.size with hlt | hge
  · rw [Array.getD_eq_getD_getElem?, Array.getElem?_eq_getElem hlt] at hr
    rw [Array.getElem?_eq_getElem hlt]
    simp only [Option.getD_some] at hr
    generalize a.tmps[t] = v at hr
    cases hr; rfl
  · rw [Array.getElem?_eq_none hge]

theorem aops_cons {ops : Array Oper} {i : Nat} {rest : List Nat} {o : Oper} {s : St} {K : St → Prop} (ho : ops[i]? = some o) (hg : o.guard = none)
    (h : OpOk P n0 ro o s fun s' => AOps P n0 ro ops rest s' K) : AOps P n0 ro ops (i :: rest) s K := by
  intro X k0 k a Q hn hat hk
  rw [wpOpsIn_cons]
  have hw : Region.wanted o (yielded ops a.tmps) = true := by simp [Region.wanted, hg]
  simp only [wpOpIn, ho, hw, if_true]
  exact h X k0 k a Q _ hn hat fun k' a' s' hs' hat' _ => hs' X k0 k' a' Q hn hat' hk

/-- The slot of a guard is known better behind the test. -/
theorem At.know {X : Nat → Prop} {k0 k : Cx} {a : Act} {s : St} (hat : At X k0 k a s) {t : Nat} {b : Bool} (hb : look s.env t = .bool b) : At X k0 k a { s with env := (t, .bool b) :: s.env } := by
  refine ⟨hat.h, hat.nid, hat.good, hat.le, ⟨hat.act.size, fun i => ?_, hat.act.marks⟩⟩
  simp only [look]
  by_cases hi : i = t
  · subst hi; rw [if_pos rfl, ← hb]; exact hat.act.rel i
  · rw [if_neg hi]; exact hat.act.rel i

theorem aops_guard {ops : Array Oper} {i j : Nat} {rest : List Nat} {o : Oper} {s : St} {K : St → Prop} {t : Tmp} {b want : Bool} (ho : ops[i]? = some o) (hg : o.guard = some (j, want)) (hj : slotOf ops j = some t)
    (hb : look s.env t = .bool b) (h1 : b = want → OpOk P n0 ro o { s with env := (t, .bool want) :: s.env } fun s' => AOps P n0 ro ops rest s' K)
    (h2 : b = !want → AOps P n0 ro ops rest (St.put { s with env := (t, .bool !want) :: s.env } o.dst (.tup [])) K) : AOps P n0 ro ops (i :: rest) s K := by
  intro X k0 k a Q hn hat hk
  rw [wpOpsIn_cons]
  have hy := yielded_eq hat.act hj hb
  simp only [wpOpIn, ho, Region.wanted, hg, hy]
  by_cases hbw : b = want
  · subst hbw
    simp only [BEq.rfl, if_true]
    exact h1 rfl X k0 k a Q _ hn (hat.know hb) fun k' a' s' hs' hat' _ => hs' X k0 k' a' Q hn hat' hk
  · have hbn : b = !want := by cases b <;> cases want <;> first | rfl | exact absurd rfl hbw
    have hne : (some b == some want) = false := by cases b <;> cases want <;> first | rfl | exact absurd rfl hbw
    rw [hne]
    simp only [Bool.false_eq_true, if_false]
    refine ⟨fun _ _ => trivial, ?_⟩
    have hat' := hat.know hb
    rw [hbn] at hat'
    refine h2 hbn X k0 k _ Q hn ⟨?_, ?_, hat'.good, hat'.le, hat'.act.put o.dst (.tup _ [] [] rfl (by simp))⟩ hk
    · rw [hat'.h, put_h]
    · rw [hat'.nid, put_nid]

/-- A guard of what has not run itself. -/
theorem aops_off {ops : Array Oper} {i j : Nat} {rest : List Nat} {o : Oper} {s : St} {K : St → Prop} {t : Tmp} {want : Bool} (ho : ops[i]? = some o) (hg : o.guard = some (j, want)) (hj : slotOf ops j = some t)
    (hb : look s.env t = .tup []) (h2 : AOps P n0 ro ops rest (St.put s o.dst (.tup [])) K) : AOps P n0 ro ops (i :: rest) s K := by
  intro X k0 k a Q hn hat hk
  rw [wpOpsIn_cons]
  have hy := yielded_off hat.act hj hb
  simp only [wpOpIn, ho, Region.wanted, hg, hy]
  have hne : ((none : Option Bool) == some want) = false := rfl
  rw [hne]
  simp only [Bool.false_eq_true, if_false]
  refine ⟨fun _ _ => trivial, ?_⟩
  refine h2 X k0 k _ Q hn ⟨?_, ?_, hat.good, hat.le, hat.act.put o.dst (.tup _ [] [] rfl (by simp))⟩ hk
  · rw [hat.h, put_h]
  · rw [hat.nid, put_nid]

theorem awp_region {id : Nat} {ops : Array Oper} {s : St} {Q : Ex → St → Prop} (h : AOps P n0 ro ops (List.range ops.size) s (Q .normal)) : AWp P n0 ro (.region id ops false) s Q :=
  fun X k0 k a hn hat => wpIn_region (h X k0 k a _ hn hat fun k' a' s' hs' hat' => ⟨.normal, k', s', rfl, rfl, hs', hat'⟩)

/-! Contracts out of bodies -/

/-- What a function hands back. -/
def resD (P : Program) (s : St) : List ResultVar → Option (List D)
  | [] => some []
  | .tmp t :: r =>
    match resD P s r with
    | some ds => some (look s.env t :: ds)
    | none => none
  | .cell a t :: r =>
    match loadAtD P s.h t (look s.env a), resD P s r with
    | some d, some ds => some (d :: ds)
    | _, _ => none

def tupD : List D → D
  | [d] => d
  | ds => .tup ds

def resV (tmps : Array Value) : ResultVar → Sem Value
  | .tmp t => pure (tmps.getD t undef)
  | .cell x t => asAddr (tmps.getD x undef) >>= loadVar t

theorem results_eq (fn : Func) (tmps : Array Value) : results fn tmps = (do
    let vs ← fn.results.mapM (resV tmps)
    pure (if h : vs.size = 1 then vs[0] else .tuple vs)) := by
  unfold results
  congr 2

theorem run_resD {X : Nat → Prop} {k : Cx} {B : Nat} {a : Act} {s : St} (hg : Good X k) (hh : k.h = s.h) (hact : ActOk X k B a s.env s.n) : ∀ (rs : List ResultVar) (ds : List D), resD P s rs = some ds →
    ∃ vs, (rs.mapM (resV a.tmps)).run P k.w = .ok vs k.w ∧ RelL (k.R X) k.nid vs ds
  | [], ds, h => by simp [resD] at h; subst h; exact ⟨[], by simp, rfl, by simp⟩
  | .tmp t :: r, ds, h => by
    simp only [resD] at h
    split at h
    · rename_i ds' hr
      cases h
      obtain ⟨vs, h1, h2⟩ := run_resD hg hh hact r ds' hr
      refine ⟨a.tmps.getD t undef :: vs, by simp only [List.mapM_cons, resV, Sem.run_bind, Sem.run_pure, Result.andThen_ok, h1], by simp [h2.1], fun i v d hv hd => ?_⟩
      cases i with
      | zero =>
        simp only [List.getElem?_cons_zero, Option.some.injEq] at hv hd; subst hv; subst hd
        exact hact.eval (.tmp t)
      | succ i => exact h2.2 i v d (by simpa using hv) (by simpa using hd)
    · cases h
  | .cell x t :: r, ds, h => by
    simp only [resD] at h
    split at h
    · rename_i d ds' hl hr
      cases h
      obtain ⟨vs, h1, h2⟩ := run_resD hg hh hact r ds' hr
      rw [← hh] at hl
      have hx : Rel (k.R X) k.nid (a.tmps.getD x undef) (look s.env x) := hact.eval (.tmp x)
      obtain ⟨u, hu, hru⟩ := run_loadAtD hg hx hl
      obtain ⟨ad, had⟩ : ∃ ad, a.tmps.getD x undef = .pointer (some ad) := by
        cases hq : a.tmps.getD x undef with
        | pointer p =>
          cases p with
          | some ad => exact ⟨ad, rfl⟩
          | none => simp [Instr.loadAt, Instr.sureAddr, hq] at hu
        | _ => simp [Instr.loadAt, Instr.sureAddr, hq] at hu
      rw [had] at hu
      have hu' : (loadVar t ad).run P k.w = .ok u k.w := by simpa [Instr.loadAt, Instr.sureAddr] using hu
      refine ⟨u :: vs, by simp only [List.mapM_cons, resV, Sem.run_bind, Sem.run_pure, Result.andThen_ok, h1, had, asAddr, hu'], by simp [h2.1], fun i v d' hv hd => ?_⟩
      cases i with
      | zero => simp at hv hd; subst hv; subst hd; exact hru
      | succ i => exact h2.2 i v d' (by simpa using hv) (by simpa using hd)
    · cases h

theorem mapM_array_run {α β : Type} (f : α → Sem β) (xs : Array α) (w : World) {ys : List β} (h : (xs.toList.mapM f).run P w = .ok ys w) : (xs.mapM f).run P w = .ok ys.toArray w := by
  rw [Array.mapM_eq_mapM_toList]
  simp [h]

theorem run_results {X : Nat → Prop} {k : Cx} {B : Nat} {a : Act} {s : St} {fn : Func} (hg : Good X k) (hh : k.h = s.h) (hact : ActOk X k B a s.env s.n) {ds : List D} (h : resD P s fn.results.toList = some ds) :
    ∃ v, (results fn a.tmps).run P k.w = .ok v k.w ∧ Rel (k.R X) k.nid v (tupD ds) := by
  obtain ⟨vs, h1, h2⟩ := run_resD (P := P) hg hh hact fn.results.toList ds h
  have hm := mapM_array_run _ fn.results k.w h1
  refine ⟨if h : vs.length = 1 then vs[0] else .tuple vs.toArray, ?_, ?_⟩
  · rw [results_eq, Sem.run_bind, hm]
    simp
  · split
    · rename_i hl
      obtain ⟨d, rfl⟩ : ∃ d, ds = [d] := by
        have hdl : ds.length = 1 := by rw [← h2.1]; exact hl
        exact List.length_eq_one_iff.1 hdl
      exact h2.2 0 _ _ (List.getElem?_eq_getElem (by omega)) rfl
    · rename_i hl
      have : tupD ds = .tup ds := by
        have hdl : ds.length ≠ 1 := by rw [← h2.1]; exact hl
        match ds, hdl with
        | [d], h => exact absurd rfl h
        | [], _ => rfl
        | _ :: _ :: _, _ => rfl
      rw [this]
      exact .tup _ _ _ h2.1 h2.2

/-- What a body must end in. -/
def endQ (P : Program) (fn : Func) (Q : D → H → Nat → Prop) : Ex → St → Prop
  | .normal, s | .ret, s => ∃ ds, resD P s fn.results.toList = some ds ∧ Q (tupD ds) s.h s.nid
  | _, _ => False

theorem leavesM (fn : Func) (tmps : Array Value) (R : Ending → World → Prop) : ∀ (ms : List Nat) (w : World), ms.Nodup → (∀ r ∈ ms, w.heap[r]? = some (.deferred (some []))) →
    (∀ w' : World, (∀ b, b ∉ ms → w'.heap[b]? = w.heap[b]?) → (∀ b ∈ ms, w'.heap[b]? = some (.deferred none)) → w'.os = w.os → w'.tape = w.tape → w'.output = w.output → w'.heap.size = w.heap.size →
      ∃ v, (results fn tmps).run P w' = .ok v w' ∧ R (.returned v) w') →
    LeavesInM (FW none) 0 P fn tmps R (ms.map markD) .returning w := by
  intro ms
  induction ms with
  | nil =>
    intro w _ _ h
    obtain ⟨v, h1, h2⟩ := h w (fun _ _ => rfl) (by simp) rfl rfl rfl rfl
    exact ⟨v, h1, h2⟩
  | cons r ms ih =>
    intro w hnd hm h
    rw [List.nodup_cons] at hnd
    have hr := hm r (by simp)
    have hlt : r < w.heap.size := by
      rcases Nat.lt_or_ge r w.heap.size with h | h
      · exact h
      · rw [Array.getElem?_eq_none h] at hr; cases hr
    refine ⟨by simp, .inl ⟨r, { w with heap := w.heap.setIfInBounds r (.deferred none) }, rfl, ?_, ih _ hnd.2 (fun q hq => ?_) fun w' h1 h2 h3 h4 h5 h6 => h w' (fun b hb => ?_) (fun b hb => ?_) h3 h4 h5 (by simpa using h6)⟩⟩
    · simp [Instr.takeDeferred, getObj, setObj, Sem.run, hr]
    · have hne : r ≠ q := fun e => hnd.1 (e ▸ hq)
      simp only [Array.getElem?_setIfInBounds_ne hne]
      exact hm q (by simp [hq])
    · have hb1 : b ∉ ms := fun e => hb (by simp [e])
      have hne : r ≠ b := fun e => hb (by simp [e])
      rw [h1 b hb1, Array.getElem?_setIfInBounds_ne hne]
    · rcases List.mem_cons.1 hb with rfl | hb
      · rw [h1 b hnd.1, Array.getElem?_setIfInBounds_self_of_lt hlt]
      · exact h2 b hb

/-- A context behind the taking of the (empty) lists of deferred calls. -/
theorem good_taken {X : Nat → Prop} {k0 k : Cx} {ms : List Nat} {w' : World} (hg : Good X k) (hle : Le k0 k) (hm : ∀ r ∈ ms, k0.w.heap.size ≤ r ∧ k.w.heap[r]? = some (.deferred (some [])))
    (h1 : ∀ b, b ∉ ms → w'.heap[b]? = k.w.heap[b]?) (h2 : ∀ b ∈ ms, w'.heap[b]? = some (.deferred none)) (hos : w'.os = k.w.os) (htape : w'.tape = k.w.tape) (hout : w'.output = k.w.output)
    (hsize : w'.heap.size = k.w.heap.size) : Good X { k with w := w' } ∧ Le k0 { k with w := w' } ∧ (∀ n, RLe n (k.R X) (Cx.R X { k with w := w' })) := by
  have hnm : ∀ r ∈ ms, ¬ k.Mut r := fun r hr => good_not_mut hg (fun c t f => by rw [(hm r hr).2]; simp) (fun c t => by rw [(hm r hr).2]; simp)
  have hrle : ∀ n, RLe n (k.R X) (Cx.R X { k with w := w' }) := fun n => {
    β := fun _ _ => rfl
    arr := fun b _ m' hm' => ⟨m', hm', Nat.le_refl _, fun _ => rfl⟩
    S := fun b ⟨a1, a2, a3⟩ => ⟨by show b < w'.heap.size; rw [hsize]; exact a1, a2, a3⟩
    heap := fun b o _ => by
      show w'.cell? _ = k.w.cell? _
      by_cases hb : b ∈ ms
      · simp [World.cell?, h2 b hb, (hm b hb).2]
      · exact cell_of_heap (h1 b hb) }
  have hblk : ∀ id b, k.own id = some b → w'.heap[b]? = k.w.heap[b]? := fun id b hb => h1 b fun e => hnm b e ⟨id, hb⟩
  refine ⟨⟨hg.key, hg.inj, fun i b hb => ⟨by show b < w'.heap.size; rw [hsize]; exact (hg.lt i b hb).1, (hg.lt i b hb).2⟩, fun b hb => by show b < w'.heap.size; rw [hsize]; exact hg.xlt b hb, fun id blk hid => ?_⟩, ?_, hrle⟩
  · have hok := hg.ok id blk hid
    cases blk with
    | box cs =>
      obtain ⟨vs, ty, a1, a2⟩ := hok
      exact ⟨vs, ty, by rw [hblk id _ (by rw [own_of_hget (k := k) hid]; rfl)]; exact a1, a2.1, fun i v d x y => (a2.2 i v d x y).mono (hrle _)⟩
    | arr ty sz es =>
      obtain ⟨a0, a1⟩ := hok
      refine ⟨a0, ?_⟩
      rcases a1 with a1 | ⟨b, cap, vs, b1, b2, b3, b4, b5⟩
      · exact .inl a1
      · exact .inr ⟨b, cap, vs, b1, by rw [hblk id b (by rw [own_of_hget (k := k) hid]; simp only [ownOf]; rw [show k.sv id = _ from b1]; rfl)]; exact b2, b3, b4, fun i e j d v x y z => (b5 i e j d v x y z).mono (hrle _)⟩
    | map kvs =>
      obtain ⟨es, c, es', a1, hp, hk, a2, a3⟩ := hok
      exact ⟨es, c, es', by rw [hblk id _ (by rw [own_of_hget (k := k) hid]; rfl)]; exact a1, hp, hk, ⟨a2.1, fun i v d x y => (a2.2 i v d x y).mono (hrle _)⟩, a3.1, fun i v d x y => (a3.2 i v d x y).mono (hrle _)⟩
  · exact ⟨hle.nid, hos.trans hle.os, htape.trans hle.tape, hout.trans hle.output, by show _ ≤ w'.heap.size; rw [hsize]; exact hle.size, hle.β, hle.arr,
      fun b hb hn => (h1 b fun e => absurd (hm b e).1 (by omega)).trans (hle.heap b hb hn), hle.mb⟩

/-- The slots of a call's arguments. -/
def argEnv : Nat → List D → Env
  | _, [] => []
  | i, d :: ds => (i, d) :: argEnv (i + 1) ds

theorem look_argEnv : ∀ (ds : List D) (i j : Nat), look (argEnv i ds) j = if i ≤ j then (match ds[j - i]? with | some d => d | none => .any) else .any
  | [], i, j => by simp [argEnv, look]
  | d :: ds, i, j => by
    simp only [argEnv, look, look_argEnv ds (i + 1) j]
    by_cases h : j = i
    · subst h; simp
    · rw [if_neg h]
      by_cases h2 : i ≤ j
      · rw [if_pos h2, if_pos (by omega)]
        rw [show j - i = (j - (i + 1)) + 1 by omega, List.getElem?_cons_succ]
      · rw [if_neg h2, if_neg (by omega)]

/-- **A contract out of a body.** -/
theorem acall_of_awp {f : FuncId} {fn : Func} {c : Code} {ds : List D} {h : H} {nid : Nat} {Q : D → H → Nat → Prop} (hf : P.funcs[f]? = some fn) (hb : fn.body = some c) (hcal : callable P f = true)
    (hw : AWp P nid none c { env := argEnv 0 ds, h := h, nid := nid, n := ds.length + (fn.ntmps - ds.length) } (endQ P fn Q)) : ACall P f ds h nid Q := by
  refine ⟨hcal, fun X k vs hh hn hg hr => calls_of_callsIn (n := 0) (callsIn_of_wp_marks hf hb trivial ?_ rfl)⟩
  have hat : At X k k { tmps := vs.toArray ++ Array.replicate (fn.ntmps - vs.toArray.size) undef, defers := [] } { env := argEnv 0 ds, h := h, nid := nid, n := ds.length + (fn.ntmps - ds.length) } := by
    refine ⟨hh, hn, hg, .refl k, ⟨by simp [hr.1], fun i => ?_, [], rfl, List.nodup_nil, by simp⟩⟩
    rw [look_argEnv, if_pos (Nat.zero_le _), Nat.sub_zero]
    cases hd : ds[i]? with
    | none => exact .any _ _
    | some d =>
      have hi := lt_of_getElem? hd
      have hv : i < vs.length := by rw [hr.1]; exact hi
      rw [Array.getD_eq_getD_getElem?, Array.getElem?_append_left (by simpa using hv)]
      rw [List.getElem?_toArray, List.getElem?_eq_getElem hv]
      exact hr.2 i _ d (List.getElem?_eq_getElem hv) hd
  refine wpIn_mono (hw X k k _ hn hat) ?_
  rintro e a w ⟨x, k', s, hx, rfl, hq, hat'⟩
  have key : (∃ ds, resD P s fn.results.toList = some ds ∧ Q (tupD ds) s.h s.nid) → LeavesInM (FW none) 0 P fn a.tmps
      (fun e w' => ∃ v k' r, e = Ending.returned v ∧ k'.w = w' ∧ Q r k'.h k'.nid ∧ Good X k' ∧ Le k k' ∧ Rel (k'.R X) k'.nid v r) a.defers .returning k'.w := by
    rintro ⟨rs, hrs, hq⟩
    obtain ⟨ms, hd, hnd, hms⟩ := hat'.act.marks
    rw [hd]
    refine leavesM fn a.tmps _ ms k'.w hnd (fun r hr => (hms r hr).2) fun w' h1 h2 hos htape hout hsize => ?_
    obtain ⟨g1, g2, g3⟩ := good_taken hat'.good hat'.le hms h1 h2 hos htape hout hsize
    have hact : ActOk X { k' with w := w' } 0 { a with defers := [] } s.env s.n := ⟨hat'.act.size, fun i => (hat'.act.rel i).mono (g3 _), [], rfl, List.nodup_nil, by simp⟩
    obtain ⟨v, hv1, hv2⟩ := run_results (P := P) (k := { k' with w := w' }) g1 hat'.h hact hrs
    exact ⟨v, hv1, v, { k' with w := w' }, tupD rs, rfl, rfl, by rw [show ({ k' with w := w' } : Cx).h = s.h from hat'.h, show ({ k' with w := w' } : Cx).nid = s.nid from hat'.nid]; exact hq, g1, g2, hv2⟩
  cases e with
  | normal => simp only [exOf, Option.some.injEq] at hx; subst hx; exact key hq
  | ret => simp only [exOf, Option.some.injEq] at hx; subst hx; exact key hq
  | exit id => simp only [exOf, Option.some.injEq] at hx; subst hx; exact hq.elim
  | _ => simp [exOf] at hx

end
end Go.Sx
