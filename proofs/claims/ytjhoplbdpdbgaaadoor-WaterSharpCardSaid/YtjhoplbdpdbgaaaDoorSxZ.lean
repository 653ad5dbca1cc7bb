/- Sx, part Z: literals of maps, whose entries come in whatever order. Own work. -/
import Derived.Test.YtjhoplbdpdbgaaaDoorSxY
set_option linter.unusedVariables false
set_option linter.unusedSimpArgs false
namespace Go.Sx

section
variable {P : Program} {n0 : Nat} {ro : Option Nat}

/-- A contract out of a body. -/
theorem acall_of_wc {f : FuncId} {fn : Func} {c : Code} {ds : List D} {h : H} {nid : Nat} {Q : D → H → Nat → Prop} {rs : List ResultVar} {m : Nat} (T : List (Nat × List Ann)) {O : Oracle} (hO : OkO P O) (hm : P.follows .mixedOrders = true) (hf : P.funcs[f]? = some fn) (hb : fn.body = some c) (hcal : callable P f = true)
    (hrs : fn.results.toList = rs) (hn : ds.length + (fn.ntmps - ds.length) = m) (ht : tabOk T c = true) (hw : wc P nid none T O c ⟨argEnv 0 ds, h, nid, m⟩ (endK P rs Q)) : ACall P f ds h nid Q :=
  acall_of_awp hf hb hcal (awp_mono (wc_sound hO hm _ _ _ ht (by rw [hn]; exact hw)) fun e s hq => endQ_of hrs hq)

theorem run_fieldPtr {t : TypeId} {f o : Nat} (h : fieldOff P t f = some o) (B p : Nat) (w : World) : (Instr.fieldAt t (.pointer (some ⟨B, p, none⟩)) f).run P w = .ok (.pointer (some ⟨B, p + o, none⟩)) w := by
  have hg : Good (fun _ => False) (⟨w, fun _ => B, fun _ => undef, [], 1⟩ : Cx) := ⟨fun _ _ h => by simp [hget] at h, fun _ _ _ h => by simp [Cx.own, hget, ownOf] at h, fun _ _ h => by simp [Cx.own, hget, ownOf] at h, fun _ h => h.elim, fun _ _ h => by simp [hget] at h⟩
  unfold fieldOff at h
  split at h
  · rename_i fd hf
    split at h
    · rename_i n hn
      split at h
      · cases h
      · rename_i hn0
        cases h
        obtain ⟨r, h1, h2⟩ := run_fieldAddr (P := P) hg hf hn hn0 (Rel.ptr (R := Cx.R (fun _ => False) ⟨w, fun _ => B, fun _ => undef, [], 1⟩) 1 0 p (by omega)) (d := .ptr 0 (p + fd.offset)) rfl
        cases h2
        exact h1
    · cases h
  · cases h

theorem pan_false {X : Nat → Prop} {k0 : Cx} {Q : Ex → St → Prop} {e : Exit} {a : Act} {w : World} {p : Prop} (he : exOf e = none) (h : Post X k0 Q e a w) : p := by
  obtain ⟨x, k, s, hx, _⟩ := h
  rw [he] at hx; cases hx

theorem yf_move {ops : Array Oper} {dst : Option Tmp} {x : Operand} {ty : TypeId} {pos : String} {after : Array Edge} {a : Act} {v : Value} (h : a.eval x = v) : YieldsFenced P ops ⟨dst, .move x, ty, pos, after, none⟩ v a :=
  ⟨.inl ⟨rfl, fun w => by subst h; rfl⟩, fun _ => rfl⟩

theorem yf_nilCheck {ops : Array Oper} {dst : Option Tmp} {x : Operand} {ty : TypeId} {pos : String} {after : Array Edge} {a : Act} {ad : Addr} (h : a.eval x = .pointer (some ad)) : YieldsFenced P ops ⟨dst, .nilCheck x, ty, pos, after, none⟩ (.pointer (some ad)) a :=
  ⟨.inl ⟨rfl, fun w => by simp [execOp, h]⟩, fun _ => rfl⟩

theorem yf_field {ops : Array Oper} {dst : Option Tmp} {t : TypeId} {f o : Nat} {x : Operand} {ty : TypeId} {pos : String} {after : Array Edge} {a : Act} {B p : Nat} (hf : fieldOff P t f = some o) (h : a.eval x = .pointer (some ⟨B, p, none⟩)) :
    YieldsFenced P ops ⟨dst, .fieldAddr t x f, ty, pos, after, none⟩ (.pointer (some ⟨B, p + o, none⟩)) a :=
  ⟨.inl ⟨rfl, fun w => by
    simp only [execOp, h]
    exact ok_bind_value _ _ _ _ _ (run_fieldPtr hf B p w)⟩, fun _ => rfl⟩

/-- The entries of a map of the function's own, in another order. -/
theorem at_perm {X : Nat → Prop} {k0 k : Cx} {a : Act} {env : Env} {h : H} {nid n b : Nat} {kvs kvs' : List (D × D)} (hp : List.Perm kvs kvs') (hk : keysOk (kvs'.map (·.1)) = true) (hat : At X k0 k a ⟨env, (b, .map kvs) :: h, nid, n⟩) :
    ∃ k', k'.w = k.w ∧ At X k0 k' a ⟨env, (b, .map kvs') :: h, nid, n⟩ := by
  have hh : k.h = (b, .map kvs) :: h := hat.h
  have hb : hget k.h b = some (.map kvs) := by rw [hh]; simp [hget]
  obtain ⟨es, clock, es', h1, h2, h3, h4, h5⟩ := hat.good.ok b _ hb
  have key : ∀ (l : List MapEntry) (ms ms' : List (D × D)), List.Perm ms ms' → RelL (k.R X) 0 (l.map (·.key)) (ms.map (·.1)) → RelL (k.R X) k.nid (l.map (·.val)) (ms.map (·.2)) →
      ∃ l', List.Perm l' l ∧ RelL (k.R X) 0 (l'.map (·.key)) (ms'.map (·.1)) ∧ RelL (k.R X) k.nid (l'.map (·.val)) (ms'.map (·.2)) := by
    intro l ms ms' hperm
    induction hperm generalizing l with
    | nil => intro r1 r2; exact ⟨l, .refl _, r1, r2⟩
    | cons x hp ih =>
      intro r1 r2
      cases l with
      | nil => simp at r1; exact absurd r1.1 (by simp)
      | cons e l =>
        obtain ⟨l', p1, p2, p3⟩ := ih l ⟨by simpa using r1.1, fun i v d q q' => r1.2 (i + 1) v d (by simpa using q) (by simpa using q')⟩ ⟨by simpa using r2.1, fun i v d q q' => r2.2 (i + 1) v d (by simpa using q) (by simpa using q')⟩
        refine ⟨e :: l', p1.cons e, ⟨by simp; simpa using p2.1, fun i v d q q' => ?_⟩, ⟨by simp; simpa using p3.1, fun i v d q q' => ?_⟩⟩
        · cases i with
          | zero => exact r1.2 0 v d (by simpa using q) (by simpa using q')
          | succ i => exact p2.2 i v d (by simpa using q) (by simpa using q')
        · cases i with
          | zero => exact r2.2 0 v d (by simpa using q) (by simpa using q')
          | succ i => exact p3.2 i v d (by simpa using q) (by simpa using q')
    | swap x y l0 =>
      intro r1 r2
      cases l with
      | nil => exact absurd r1.1 (by simp)
      | cons e l =>
        cases l with
        | nil => exact absurd r1.1 (by simp)
        | cons e2 l =>
          refine ⟨e2 :: e :: l, List.Perm.swap _ _ _, ⟨by simpa using r1.1, fun i v d q q' => ?_⟩, ⟨by simpa using r2.1, fun i v d q q' => ?_⟩⟩
          · match i with
            | 0 => exact r1.2 1 v d (by simpa using q) (by simpa using q')
            | 1 => exact r1.2 0 v d (by simpa using q) (by simpa using q')
            | i + 2 => exact r1.2 (i + 2) v d (by simpa using q) (by simpa using q')
          · match i with
            | 0 => exact r2.2 1 v d (by simpa using q) (by simpa using q')
            | 1 => exact r2.2 0 v d (by simpa using q) (by simpa using q')
            | i + 2 => exact r2.2 (i + 2) v d (by simpa using q) (by simpa using q')
    | trans _ _ ih1 ih2 =>
      intro r1 r2
      obtain ⟨l1, a1, a2, a3⟩ := ih1 l r1 r2
      obtain ⟨l2, b1, b2, b3⟩ := ih2 l1 a2 a3
      exact ⟨l2, b1.trans a1, b2, b3⟩
  obtain ⟨l', p1, p2, p3⟩ := key es' kvs kvs' hp h4 h5
  have hup := hat.good.upd (blk := .map kvs') (w' := k.w) (v' := k.sv b) hb rfl rfl rfl (Nat.le_refl _) (fun _ _ _ => rfl)
    (fun c hc => by
      rw [own_of_hget (blk := some (.map kvs')) (by simp [Cx.upd, hget_hset])] at hc
      rw [own_of_hget (blk := some (.map kvs)) hb]
      exact .inl hc) (fun m' hm' => by simp [lnOf] at hm')
    (fun hle => ⟨es, clock, l', h1, p1.trans h2, hk, p2.le0 hle, p3.le hle⟩)
  refine ⟨k.upd b (.map kvs') k.w (k.sv b), rfl, ?_, hat.nid, hup.1, hat.le.trans hup.2, hat.act.le hat.good hup.2⟩
  show hset k.h b (.map kvs') = _
  rw [hh]; simp [hset]

/-! Operations of a region, one by one, on states -/

theorem ptr_eval {X : Nat → Prop} {k0 k : Cx} {a : Act} {env : Env} {h : H} {nid n x b p : Nat} (hat : At X k0 k a ⟨env, h, nid, n⟩) (hl : look env x = .ptr b p) : a.eval (.tmp x) = .pointer (some ⟨k.β b, p, none⟩) ∧ b < k.nid := by
  have hr := hat.act.eval (.tmp x)
  rw [show evO env (.tmp x) = .ptr b p from hl] at hr
  generalize a.eval (.tmp x) = v at hr
  cases hr with
  | ptr _ _ _ h => exact ⟨rfl, h⟩

theorem at_put {X : Nat → Prop} {k0 k : Cx} {a : Act} {env : Env} {h : H} {nid n d : Nat} {v : Value} {x : D} (hat : At X k0 k a ⟨env, h, nid, n⟩) (hd : d < n) (hr : Rel (k.R X) k.nid v x) : At X k0 k (a.put (some d) v) ⟨(d, x) :: env, h, nid, n⟩ := by
  have := hat.act.put (s := ⟨env, h, nid, n⟩) (some d) hr
  simp only [St.put, if_pos hd] at this
  exact ⟨hat.h, hat.nid, hat.good, hat.le, this⟩

variable {ops : Array Oper} {X : Nat → Prop} {k0 : Cx} {Qe : Ex → St → Prop} {fuel : Nat} {listed : Array Bool} {k : Cx} {a : Act} {env : Env} {h : H} {nid n : Nat}

theorem take_move {i d x b p : Nat} {ty : TypeId} {pos : String} {after : Array Edge} (hat : At X k0 k a ⟨env, h, nid, n⟩) (hi : ops[i]? = some ⟨some d, .move (.tmp x), ty, pos, after, none⟩) (hd : d < n) (hl : look env x = .ptr b p)
    (hs : Region.noSelect ops = true) (hf : Region.free .any ops listed i = true) (hr : (Region.ready .any ops listed).contains i = true)
    (next : ∀ a', At X k0 k a' ⟨(d, .ptr b p) :: env, h, nid, n⟩ → wpAnyIn (FW none) 0 P .any ops (Post X k0 Qe) fuel (listed.setIfInBounds i true) a' k.w) : wpAnyIn (FW none) 0 P .any ops (Post X k0 Qe) (fuel + 1) listed a k.w := by
  obtain ⟨e1, e2⟩ := ptr_eval hat hl
  exact wpAnyIn_take rfl hi hs hf hr (fun c a w => pan_false rfl) (yf_move e1) (next _ (at_put hat hd (.ptr _ _ _ e2)))

theorem take_nilCheck {i d x b p : Nat} {ty : TypeId} {pos : String} {after : Array Edge} (hat : At X k0 k a ⟨env, h, nid, n⟩) (hi : ops[i]? = some ⟨some d, .nilCheck (.tmp x), ty, pos, after, none⟩) (hd : d < n) (hl : look env x = .ptr b p)
    (hs : Region.noSelect ops = true) (hf : Region.free .any ops listed i = true) (hr : (Region.ready .any ops listed).contains i = true)
    (next : ∀ a', At X k0 k a' ⟨(d, .ptr b p) :: env, h, nid, n⟩ → wpAnyIn (FW none) 0 P .any ops (Post X k0 Qe) fuel (listed.setIfInBounds i true) a' k.w) : wpAnyIn (FW none) 0 P .any ops (Post X k0 Qe) (fuel + 1) listed a k.w := by
  obtain ⟨e1, e2⟩ := ptr_eval hat hl
  exact wpAnyIn_take rfl hi hs hf hr (fun c a w => pan_false rfl) (yf_nilCheck e1) (next _ (at_put hat hd (.ptr _ _ _ e2)))

theorem take_field {i d x b p t f o : Nat} {ty : TypeId} {pos : String} {after : Array Edge} (hat : At X k0 k a ⟨env, h, nid, n⟩) (hi : ops[i]? = some ⟨some d, .fieldAddr t (.tmp x) f, ty, pos, after, none⟩) (hd : d < n) (hl : look env x = .ptr b p)
    (hfo : fieldOff P t f = some o) (hs : Region.noSelect ops = true) (hf : Region.free .any ops listed i = true) (hr : (Region.ready .any ops listed).contains i = true)
    (next : ∀ a', At X k0 k a' ⟨(d, .ptr b (p + o)) :: env, h, nid, n⟩ → wpAnyIn (FW none) 0 P .any ops (Post X k0 Qe) fuel (listed.setIfInBounds i true) a' k.w) : wpAnyIn (FW none) 0 P .any ops (Post X k0 Qe) (fuel + 1) listed a k.w := by
  obtain ⟨e1, e2⟩ := ptr_eval hat hl
  exact wpAnyIn_take rfl hi hs hf hr (fun c a w => pan_false rfl) (yf_field hfo e1) (next _ (at_put hat hd (.ptr _ _ _ e2)))

/-- The one operation that can come up. -/
theorem only_op {i : Nat} {o : Oper} {s' : St} (hn : k0.nid = n0) (hat : At X k0 k a ⟨env, h, nid, n⟩) (hr : Region.ready .any ops listed = [i]) (hi : ops[i]? = some o) (hg : o.guard = none)
    (hok : OpOk P n0 none o ⟨env, h, nid, n⟩ fun s2 => s2 = s')
    (next : ∀ k' a', At X k0 k' a' s' → wpAnyIn (FW none) 0 P .any ops (Post X k0 Qe) fuel (listed.setIfInBounds i true) a' k'.w) : wpAnyIn (FW none) 0 P .any ops (Post X k0 Qe) (fuel + 1) listed a k.w := by
  refine ⟨fun h0 => (by rw [hr] at h0; cases h0), fun j hj => ?_⟩
  rw [hr] at hj
  obtain rfl : j = i := by simpa using hj
  simp only [wpOpIn, hi, Region.wanted, hg, if_true]
  exact hok X k0 k a _ _ hn hat fun k' a' s2 hs hat' _ => next k' a' (by rw [← hs]; exact hat')

theorem findK_new {key : D} : ∀ (kvs : List (D × D)) (i : Nat), (kvs.all fun p => !keyEq key p.1) = true → findK key kvs i = none
  | [], _, _ => rfl
  | (k', v) :: r, i, h => by
    simp only [List.all_cons, Bool.and_eq_true, Bool.not_eq_true'] at h
    simp only [findK, h.1, Bool.false_eq_true, if_false]
    exact findK_new r (i + 1) h.2

/-- An insertion: its place, its slots. -/
structure Ins where
  t : TypeId
  m : Nat
  key : Value
  s : Nat
  ty : TypeId
  pos : String
  after : Array Edge

def Ins.oper (x : Ins) : Oper := ⟨none, .insert x.t (.tmp x.m) (.const x.key) (.tmp x.s), x.ty, x.pos, x.after, none⟩
def Ins.ent (env : Env) (x : Ins) : D × D := (vD x.key, look env x.s)

/-- All insertions that are left, in whatever order. 'f': the insertion at a place. -/
theorem ins_go {b : Nat} {kt et : TypeId} (hn : k0.nid = n0) (L : List Nat) (f : Nat → Ins) (base : List Nat → Array Bool) (subs : List (List Nat))
    (hops : ∀ i ∈ L, ops[i]? = some (f i).oper ∧ P.underlying (f i).t = some (.map kt et) ∧ keyFit P kt (vD (f i).key) = true ∧ look env (f i).m = .mp b)
    (fin : ∀ k a kvs, List.Perm kvs (L.map fun i => (f i).ent env) → At X k0 k a ⟨env, (b, .map kvs) :: h, nid, n⟩ → wpAnyIn (FW none) 0 P .any ops (Post X k0 Qe) fuel (base []) a k.w)
    (hready : (subs.all fun R => R.isEmpty || Region.ready .any ops (base R) == R) = true)
    (hnext : (subs.all fun R => (List.range R.length).all fun j => ((base R).setIfInBounds (R.getD j 0) true).toList == (base (R.eraseIdx j)).toList && subs.contains (R.eraseIdx j)) = true)
    (hkeys : (L.all fun i => L.all fun j => i == j || !keyEq (vD (f i).key) (vD (f j).key)) = true) (hdist : L.Nodup) :
    ∀ (m : Nat) (R D' : List Nat) (k : Cx) (a : Act), R.length = m → R ∈ subs → List.Perm (D' ++ R) L → At X k0 k a ⟨env, (b, .map (D'.map fun i => (f i).ent env)) :: h, nid, n⟩ →
      wpAnyIn (FW none) 0 P .any ops (Post X k0 Qe) (fuel + m) (base R) a k.w := by
  intro m
  induction m with
  | zero =>
    intro R D' k a hl hR hp hat
    obtain rfl := List.eq_nil_of_length_eq_zero hl
    rw [List.append_nil] at hp
    exact fin k a _ (hp.map _) hat
  | succ m ih =>
    intro R D' k a hl hR hp hat
    have hrd : Region.ready .any ops (base R) = R := by
      have := List.all_eq_true.1 hready R hR
      rw [Bool.or_eq_true] at this
      rcases this with h | h
      · have : R = [] := by simpa using h
        subst this; simp at hl
      · exact eq_of_beq h
    refine ⟨fun h0 => (by rw [hrd] at h0; subst h0; simp at hl), fun j hj => ?_⟩
    rw [hrd] at hj
    obtain ⟨l, r, rfl⟩ := List.append_of_mem hj
    have hnx := List.all_eq_true.1 (List.all_eq_true.1 hnext _ hR) l.length (List.mem_range.2 (by simp))
    rw [List.eraseIdx_append_of_length_le (by omega), Nat.sub_self, List.eraseIdx_cons_zero, Bool.and_eq_true] at hnx
    have hge : (l ++ j :: r).getD l.length 0 = j := by simp [List.getD]
    rw [hge] at hnx
    have hb1 : (base (l ++ j :: r)).setIfInBounds j true = base (l ++ r) := Array.ext' (eq_of_beq hnx.1)
    have hb2 : (l ++ r) ∈ subs := by simpa using hnx.2
    have hxL : j ∈ L := hp.mem_iff.1 (by simp)
    obtain ⟨h1, h2, h3, h4⟩ := hops j hxL
    rw [hb1]
    simp only [wpOpIn, h1, Ins.oper, Region.wanted, if_true]
    have hndp : (D' ++ (l ++ j :: r)).Nodup := hp.nodup_iff.2 hdist
    have hDk : ∀ y ∈ D', keyEq (vD (f j).key) (vD (f y).key) = false := fun y hy => by
      have := List.all_eq_true.1 (List.all_eq_true.1 hkeys j hxL) y (hp.mem_iff.1 (by simp [hy]))
      rw [Bool.or_eq_true] at this
      rcases this with h | h
      · have : j = y := eq_of_beq h
        subst this
        rw [List.nodup_append] at hndp
        exact absurd rfl (hndp.2.2 j hy j (by simp))
      · simpa using h
    have hop : opF P (.insert (f j).t (.tmp (f j).m) (.const (f j).key) (.tmp (f j).s)) (evO env) ((b, .map (D'.map fun i => (f i).ent env)) :: h) nid = some (.any, (b, .map ((D' ++ [j]).map fun i => (f i).ent env)) :: h, nid) := by
      show mapUpdD P _ nid (f j).t (look env (f j).m) (vD (f j).key) (look env (f j).s) = _
      rw [h4]
      have hfk : findK (vD (f j).key) (D'.map fun i => (f i).ent env) 0 = none := findK_new _ _ (List.all_eq_true.2 fun p hp2 => by
        obtain ⟨y, hy, rfl⟩ := List.mem_map.1 hp2
        simp [Ins.ent, hDk y hy])
      have hfit : ((D'.map fun i => (f i).ent env).all fun p => keyFit P kt p.1) = true := List.all_eq_true.2 fun p hp2 => by
        obtain ⟨y, hy, rfl⟩ := List.mem_map.1 hp2
        exact (hops y (hp.mem_iff.1 (by simp [hy]))).2.2.1
      simp only [mapUpdD, h2, hget, if_true, h3, hfit, Bool.and_self, hfk, hset, List.map_append, List.map_cons, List.map_nil]
      rfl
    have hok : OpOk P n0 none (f j).oper ⟨env, (b, .map (D'.map fun i => (f i).ent env)) :: h, nid, n⟩ fun s2 => s2 = ⟨env, (b, .map ((D' ++ [j]).map fun i => (f i).ent env)) :: h, nid, n⟩ := opOk_eff hop rfl
    refine hok X k0 k a _ _ hn hat fun k' a' s2 hs hat' _ => ih (l ++ r) (D' ++ [j]) k' a' (by simp at hl ⊢; omega) hb2 ?_ (by rw [← hs]; exact hat')
    refine List.Perm.trans ?_ hp
    rw [List.append_assoc]
    exact List.Perm.append_left _ (by simpa using (List.perm_middle (l₁ := l) (a := j) (l₂ := r)).symm)

end
end Go.Sx
