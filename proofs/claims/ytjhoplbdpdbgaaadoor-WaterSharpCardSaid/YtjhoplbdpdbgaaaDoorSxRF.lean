/- Sx: ranges over functions: the rule. Own work. -/
import Derived.Test.YtjhoplbdpdbgaaaDoorSxZ2
import Derived.RangeFuncWrites
set_option linter.unusedVariables false
set_option linter.unusedSimpArgs false
namespace Go.Sx

/-! A world in which one block that holds no cells has turned -/

structure RLe1 (R R' : Rx) : Prop where
  β : ∀ b, R'.β b = R.β b
  sv : ∀ b, R'.sv b = R.sv b
  ln : ∀ b, R'.ln b = R.ln b
  S : ∀ b, R.S b → R'.S b
  heap : ∀ b o v, R.S b → R.w.cell? ⟨b, o, none⟩ = some v → R'.w.cell? ⟨b, o, none⟩ = some v

theorem Rel.mono1 {R R' : Rx} {n : Nat} {v : Value} {d : D} (h : Rel R n v d) (hle : RLe1 R R') : Rel R' n v d := by
  induction h with
  | any => exact .any _ _
  | int => exact .int _ _ _
  | bool => exact .bool _ _
  | str => exact .str _ _
  | agg n vs ds h1 _ ih => exact .agg _ vs ds h1 ih
  | tup n vs ds h1 _ ih => exact .tup _ vs ds h1 ih
  | nils => exact .nils _
  | sln => exact .sln _
  | sle n a cap => exact .sle _ a cap
  | sl n b off cap es sz vs h1 h2 h3 h4 _ ih =>
    exact .sl _ b off cap es sz vs (h1.imp id (hle.S b)) h2 h3 (fun i e j d a c => hle.heap b _ _ (h1.resolve_left (by rintro rfl; simp at a)) (h4 i e j d a c)) ih
  | ref n b off cs o vs h1 h2 _ ih => exact .ref _ b off cs o vs (hle.S b h1) (fun j d a => hle.heap b _ _ h1 (h2 j d a)) ih
  | ptr n b off h1 => rw [← hle.β b]; exact .ptr _ b off h1
  | osl n b l v h1 h2 => exact .osl _ b l v h1 fun m' hm' => by rw [hle.ln] at hm'; rw [hle.sv]; exact h2 m' hm'
  | eptr n b l sz i off v h1 h2 => exact .eptr _ b l sz i off v h1 fun m' hm' => by rw [hle.ln] at hm'; rw [hle.sv]; exact h2 m' hm'
  | fn n f va vc da dc h1 h2 _ _ i1 i2 => exact .fn _ f va vc da dc h1 h2 i1 i2
  | nilp => exact .nilp _
  | nilf => exact .nilf _
  | nili => exact .nili _
  | nilm => exact .nilm _
  | ifc n t v d _ ih => exact .ifc _ t v d ih
  | mp n b h1 => rw [← hle.β b]; exact .mp _ b h1
  | bsl n b off l cap sz h1 h2 => rw [← hle.β b]; exact .bsl _ b off l cap sz h1 h2
  | raw => exact .raw _ _

def noMap : H → Bool
  | [] => true
  | (_, .map _) :: _ => false
  | _ :: r => noMap r

theorem noMap_get : ∀ {h : H}, noMap h = true → ∀ id kvs, hget h id ≠ some (.map kvs)
  | [], _, id, kvs => by simp [hget]
  | (i, .box cs) :: r, hn, id, kvs => by
    simp only [hget]; split
    · simp
    · exact noMap_get (by simpa [noMap] using hn) id kvs
  | (i, .arr t s es) :: r, hn, id, kvs => by
    simp only [hget]; split
    · simp
    · exact noMap_get (by simpa [noMap] using hn) id kvs
  | (i, .map k) :: r, hn, _, _ => by simp [noMap] at hn

theorem own_cells {X : Nat → Prop} {k : Cx} (hg : Good X k) (hm : noMap k.h = true) {id b : Nat} (h : k.own id = some b) : ∃ c t f, k.w.heap[b]? = some (.cells c t f) := by
  cases hq : hget k.h id with
  | none => simp [Cx.own, hq, ownOf] at h
  | some blk =>
    have hok := hg.ok id blk hq
    rw [Cx.own, hq] at h
    cases blk with
    | box cs =>
      simp [ownOf] at h; subst h
      obtain ⟨vs, ty, h1, _⟩ := hok
      exact ⟨_, _, _, h1⟩
    | arr ty sz es =>
      rcases hok.2 with ⟨h1, _⟩ | ⟨b', cap, vs, h1, h2, _⟩
      · simp [ownOf, h1, slBlk] at h
      · simp [ownOf, h1, slBlk] at h; subst h; exact ⟨_, _, _, h2⟩
    | map kvs => exact absurd hq (noMap_get hm id kvs)

theorem At.grown {X : Nat → Prop} {k0 k : Cx} {a : Act} {s : St} {W' : World} {row : Option Nat} {B : Nat} (hat : At X k0 k a s) (hgr : k.w.grownBy W' row)
    (hrow : ∀ r, row = some r → B ≤ r ∧ ∃ o : Obj, k.w.heap[r]? = some o ∧ o.isCells = false) (hB : k0.w.heap.size ≤ B) (hnm : noMap s.h = true) (hmk : ∀ r, markD r ∈ a.defers → r < B) :
    At X k0 { k with w := W' } a s := by
  have hg := hat.good
  have hnm' : noMap k.h = true := by rw [hat.h]; exact hnm
  have hblk : ∀ b, b < k.w.heap.size → (∀ o : Obj, k.w.heap[b]? = some o → o.isCells = true) → W'.heap[b]? = k.w.heap[b]? := fun b hb ho => hgr.block b hb fun e => by
    obtain ⟨_, o, h1, h2⟩ := hrow b e.symm
    rw [ho o h1] at h2; cases h2
  have hown : ∀ id b, k.own id = some b → W'.heap[b]? = k.w.heap[b]? := fun id b hb => by
    obtain ⟨c, t, f, hc⟩ := own_cells hg hnm' hb
    exact hblk b (hg.lt id b hb).1 fun o ho => by rw [hc] at ho; cases ho; rfl
  have hrle : RLe1 (k.R X) (Cx.R X { k with w := W' }) := {
    β := fun _ => rfl
    sv := fun _ => rfl
    ln := fun _ => rfl
    S := fun b ⟨h1, h2, h3⟩ => ⟨Nat.lt_of_lt_of_le h1 hgr.size, h2, h3⟩
    heap := fun b o v ⟨h1, _, _⟩ hv => by
      rw [← hv]
      refine cell_of_heap (hblk b h1 fun ob hob => ?_)
      have hv' : k.w.cell? ⟨b, o, none⟩ = some v := hv
      simp only [World.cell?, hob] at hv'
      cases ob <;> first | rfl | simp at hv' }
  refine ⟨hat.h, hat.nid, ⟨hg.key, hg.inj, fun i b hb => ⟨Nat.lt_of_lt_of_le (hg.lt i b hb).1 hgr.size, (hg.lt i b hb).2⟩, fun b hb => Nat.lt_of_lt_of_le (hg.xlt b hb) hgr.size, fun id blk hid => ?_⟩,
    ⟨hat.le.nid, hgr.os.trans hat.le.os, hgr.tape.trans hat.le.tape, hgr.output.trans hat.le.output, Nat.le_trans hat.le.size hgr.size, hat.le.β, hat.le.arr, fun b hb hn => ?_, hat.le.mb⟩,
    ⟨hat.act.size, fun i => (hat.act.rel i).mono1 hrle, ?_⟩⟩
  · have hok := hg.ok id blk hid
    cases blk with
    | box cs =>
      obtain ⟨vs, ty, a1, a2⟩ := hok
      exact ⟨vs, ty, by rw [show W'.heap[k.β id]? = _ from hown id _ (by rw [own_of_hget (k := k) hid]; rfl)]; exact a1, a2.1, fun i v d x y => (a2.2 i v d x y).mono1 hrle⟩
    | arr ty sz es =>
      obtain ⟨a0, a1⟩ := hok
      refine ⟨a0, ?_⟩
      rcases a1 with a1 | ⟨b, cap, vs, b1, b2, b3, b4, b5⟩
      · exact .inl a1
      · exact .inr ⟨b, cap, vs, b1, by rw [show W'.heap[b]? = _ from hown id b (by rw [own_of_hget (k := k) hid]; simp only [ownOf]; rw [show k.sv id = _ from b1]; rfl)]; exact b2, b3, b4, fun i e j d v x y z => (b5 i e j d v x y z).mono1 hrle⟩
    | map kvs => exact absurd hid (noMap_get hnm' id kvs)
  · refine (hgr.block b (Nat.lt_of_lt_of_le hb hat.le.size) fun e => ?_).trans (hat.le.heap b hb hn)
    have := (hrow b e.symm).1
    omega
  · obtain ⟨ms, h1, h2, h3⟩ := hat.act.marks
    refine ⟨ms, h1, h2, fun r hr => ⟨(h3 r hr).1, ?_⟩⟩
    have hlt : r < k.w.heap.size := by
      rcases Nat.lt_or_ge r k.w.heap.size with h | h
      · exact h
      · have := (h3 r hr).2; rw [Array.getElem?_eq_none h] at this; cases this
    refine (hgr.block r hlt fun e => ?_).trans (h3 r hr).2
    have h4 := (hrow r e.symm).1
    have := hmk r (by rw [h1]; exact List.mem_map_of_mem hr)
    omega

theorem wpIn_n {P : Program} {ro : Option Nat} {n m : Nat} {c : Code} {Q : Exit → Act → World → Prop} {a : Act} {w : World} (h : c.wpIn (FW ro) n P Q a w) : c.wpIn (FW ro) m P Q a w :=
  fun b k cs hro hb _ => h b k cs hro hb (fun d hd => by simp [FW, Fence.wide] at hd)

/-! Assignments of a round's parameters -/

def srcOf : Op → Option Operand
  | .move x => some x
  | .assign x => some x
  | _ => none

def movesOnly : List Oper → Bool
  | [] => true
  | o :: r => o.guard.isNone && (srcOf o.op).isSome && movesOnly r

def moveAct : List Oper → Act → Act
  | [], a => a
  | o :: r, a => moveAct r (match srcOf o.op with
    | some x => a.put o.dst (a.eval x)
    | none => a)

def moveSt : List Oper → St → St
  | [], s => s
  | o :: r, s => moveSt r (match srcOf o.op with
    | some x => s.put o.dst (evO s.env x)
    | none => s)

theorem moveSt_h : ∀ (l : List Oper) (s : St), (moveSt l s).h = s.h ∧ (moveSt l s).nid = s.nid ∧ (moveSt l s).n = s.n
  | [], s => ⟨rfl, rfl, rfl⟩
  | o :: r, s => by
    simp only [moveSt]
    obtain ⟨h1, h2, h3⟩ := moveSt_h r (match srcOf o.op with
      | some x => s.put o.dst (evO s.env x)
      | none => s)
    rw [h1, h2, h3]
    split
    · refine ⟨put_h _ _ _, put_nid _ _ _, ?_⟩
      cases o.dst with
      | none => rfl
      | some t => simp only [St.put]; split <;> rfl
    · exact ⟨rfl, rfl, rfl⟩

theorem moves_act {X : Nat → Prop} {k : Cx} {B : Nat} : ∀ (l : List Oper) (a : Act) (s : St), ActOk X k B a s.env s.n → ActOk X k B (moveAct l a) (moveSt l s).env (moveSt l s).n
  | [], _, _, h => h
  | o :: r, a, s, h => by
    simp only [moveAct, moveSt]
    cases hx : srcOf o.op with
    | none => exact moves_act r a s h
    | some x => exact moves_act r _ _ (ActOk.put h o.dst (h.eval x))

theorem moves_wp {P : Program} {ro : Option Nat} {n : Nat} {ops : Array Oper} {Q : Exit → Act → World → Prop} {W : World} : ∀ (l : List Oper) (i : Nat) (a : Act), (∀ j, l[j]? = ops[i + j]?) → movesOnly l = true →
    Q .normal (moveAct l a) W → wpOpsIn (FW ro) n P ops Q ((List.range l.length).map (i + ·)) a W
  | [], _, _, _, _, h => h
  | o :: rest, i, a, hl, hm, h => by
    have ho : ops[i]? = some o := by have := hl 0; simpa using this.symm
    have hrest : ∀ j, rest[j]? = ops[i + 1 + j]? := fun j => by have := hl (j + 1); simp at this; rw [this]; congr 1; omega
    have hmap : (List.range (o :: rest).length).map (i + ·) = i :: (List.range rest.length).map (i + 1 + ·) := by
      rw [List.length_cons, List.range_succ_eq_map, List.map_cons, List.map_map]
      simp only [Nat.add_zero, List.cons.injEq, true_and]
      apply List.map_congr_left
      intro a _
      simp only [Function.comp]; omega
    rw [hmap, wpOpsIn_cons]
    simp only [movesOnly, Bool.and_eq_true] at hm
    have hw : Region.wanted o (yielded ops a.tmps) = true := by
      have : o.guard = none := by simpa using hm.1.1
      simp [Region.wanted, this]
    simp only [wpOpIn, ho, hw, if_true]
    obtain ⟨x, hx⟩ := Option.isSome_iff_exists.1 hm.1.2
    refine ⟨fun _ _ => trivial, ?_⟩
    have hnd : ∀ c, o.op ≠ .defer c := fun c hc => by rw [hc] at hx; simp [srcOf] at hx
    rw [semAt_eq _ _ hnd]
    have hrun : (execOp a.eval o).run P W = .ok (.value (a.eval x)) W := by
      unfold execOp
      unfold srcOf at hx
      split at hx
      · rename_i h'; cases hx; rw [h']; rfl
      · rename_i h'; cases hx; rw [h']; rfl
      · cases hx
    rw [hrun]
    simp only [moveAct, hx] at h
    exact moves_wp rest (i + 1) _ hrest hm.2 h

/-! The parameters of a round -/

def parAct (ps : List Tmp) (vs : List Value) (t : Array Value) : Array Value := (ps.zip vs).foldl (fun t q => t.setIfInBounds q.1 q.2) t

def parEnv (n : Nat) : List Tmp → List D → Env → Env
  | p :: ps, d :: ds, e => parEnv n ps ds (if p < n then (p, d) :: e else e)
  | _, _, e => e

theorem par_act {X : Nat → Prop} {k : Cx} {B : Nat} : ∀ (ps : List Tmp) (vs : List Value) (ds : List D) (t : Array Value) (e : Env) (n : Nat), RelL (k.R X) k.nid vs ds → ActOk X k B { tmps := t, defers := [] } e n →
    ActOk X k B { tmps := parAct ps vs t, defers := [] } (parEnv n ps ds e) n
  | [], _, _, _, _, _, _, h => by simpa [parAct, parEnv] using h
  | p :: ps, [], [], _, _, _, _, h => by simpa [parAct, parEnv] using h
  | p :: ps, v :: vs, [], _, _, _, hr, _ => by simp [RelL] at hr
  | p :: ps, [], d :: ds, _, _, _, hr, _ => by simp [RelL] at hr
  | p :: ps, v :: vs, d :: ds, t, e, n, hr, h => by
    have h1 := ActOk.put (s := ⟨e, [], 0, n⟩) h (some p) (hr.2 0 v d rfl rfl)
    have h2 : ActOk X k B { tmps := t.setIfInBounds p v, defers := [] } (if p < n then (p, d) :: e else e) n := by
      simp only [St.put, Act.put] at h1
      split at h1
      · rename_i hlt; rw [if_pos hlt]; exact h1
      · rename_i hlt; rw [if_neg hlt]; exact h1
    have h3 := par_act ps vs ds _ _ n ⟨by simpa using hr.1, fun i v' d' a b => hr.2 (i + 1) v' d' (by simpa using a) (by simpa using b)⟩ h2
    simpa [parAct, parEnv] using h3

def codeOf : Ex → Code
  | .normal => .skip
  | .exit id => .exit id
  | .ret => .ret

section
variable {P : Program} {O : Oracle} {n0 : Nat}

/-- **A range over a function that reads no memory.** 'hh': what the heap holds behind so many rounds. -/
theorem awp_rangeFunc {α : Type} {g : Operand} {ps : Array Tmp} {id : Nat} {ops : Array Oper} {body : Code} {s : St} {Q : Ex → St → Prop} {gf : FuncId} {encs : α → Array Value} {ds : α → List D} {N : Nat} {Sd Sp : List α → Prop}
    (hm : P.follows .mixedOrders = true) (T : List (Nat × List Ann)) (ht : tabOk T body = true) (hO : OkO P O)
    (hg : evO s.env g = .fn (.func gf) [] []) (hcal : callable P gf = true) (hseq : ∀ w, SeqStopsK (FW none) 0 P gf #[] encs (fun _ _ => True) Sd Sp N w) (hps : ∀ x, (encs x).size = ps.size)
    (henc : ∀ (R : Rx) (n : Nat) x, RelL R n (encs x).toList (ds x)) (hmv : movesOnly ops.toList = true)
    (hh : List α → H) (m : Nat) (I : List α → Prop) (h0 : I []) (hw : Weak n0 s ⟨s.env, hh [], m, s.n⟩) (hnm : ∀ xs, noMap (hh xs) = true)
    (round : ∀ l pre x, I pre → pre.length < N → wc P m (some l) T O body (moveSt ops.toList ⟨parEnv s.n ps.toList (ds x) s.env, hh pre, m, s.n⟩) fun e s' =>
      match e with
      | .normal => I (pre ++ [x]) ∧ headW m ⟨s.env, s'.h, s'.nid, s.n⟩ s.env (hh (pre ++ [x])) m s.n
      | e => noMap s'.h = true ∧ (Sp (pre ++ [x]) → Q e ⟨s.env, s'.h, s'.nid, s.n⟩))
    (hdone : ∀ xs, Sd xs → I xs → Q .normal ⟨s.env, hh xs, m, s.n⟩) : AWp P n0 none (.rangeFunc g ps (.region id ops false) body) s Q := by
  intro X k0 k a hn hat
  obtain ⟨k1, hk1, hat1⟩ := hat.weak hn hw
  rw [← hk1]
  obtain ⟨ms, hd, hnd, hms⟩ := hat.act.marks
  have hB : k0.w.heap.size ≤ k1.w.heap.size := hat1.le.size
  have hmk : ∀ r, markD r ∈ a.defers → r < k1.w.heap.size := fun r hr => by
    rw [hd] at hr
    obtain ⟨q, hq, he⟩ := List.mem_map.1 hr
    have : q = r := by simpa [markD] using he
    subst this
    rcases Nat.lt_or_ge q k1.w.heap.size with h | h
    · exact h
    · have := (hms q hq).2; rw [← hk1, Array.getElem?_eq_none h] at this; cases this
  have hev : a.eval g = .func (.func gf) #[] #[] := by
    have hr := hat.act.eval g
    rw [hg] at hr
    generalize a.eval g = v at hr
    cases hr with
    | fn _ _ va vc _ _ h1 h2 h3 h4 =>
      have e1 : va = [] := by simpa using h1
      have e2 : vc = [] := by simpa using h2
      subst e1; subst e2; rfl
  have hmarkD : ∀ (D : Nat) (W : World) (k' : Cx) (s' : St), k1.w.heap.size ≤ D → k'.w = W → At X k0 k' a s' → W.heap[D]? = some (.deferred (some [])) →
      At X k0 k' { a with defers := { target := .collected D, args := #[] } :: a.defers } s' := fun D W k' s' hD hW hat' hdef => by
    refine ⟨hat'.h, hat'.nid, hat'.good, hat'.le, hat'.act.size, hat'.act.rel, ?_⟩
    obtain ⟨ms', hd', hnd', hms'⟩ := hat'.act.marks
    refine ⟨D :: ms', by show _ :: a.defers = _; rw [show a.defers = _ from hd']; rfl, List.nodup_cons.2 ⟨fun hD' => ?_, hnd'⟩, fun r hr => ?_⟩
    · have := hmk D (by rw [show a.defers = _ from hd']; exact List.mem_map_of_mem hD'); omega
    · rcases List.mem_cons.1 hr with rfl | hr
      · exact ⟨Nat.le_trans hB hD, by rw [hW]; exact hdef⟩
      · exact hms' r hr
  refine wpIn_n (n := 1) (wpIn_rangeFunc_ownG (w0 := k1.w) rfl (Nat.le_refl _) hev trivial (fun args w => run_callFunc hcal args w) (hseq k1.w) (fun _ _ => trivial) (fun _ _ _ _ _ _ _ _ => trivial) (RowKit.Below.refl _ _) hps
    (fun pre W => ∃ k, k.w = W ∧ I pre ∧ At X k0 k a ⟨s.env, hh pre, m, s.n⟩)
    (fun c pre W => ∃ k e h' nid', k.w = W ∧ e ≠ .normal ∧ c = codeOf e ∧ noMap h' = true ∧ (Sp pre → Q e ⟨s.env, h', nid', s.n⟩) ∧ At X k0 k a ⟨s.env, h', nid', s.n⟩)
    ?_ ?_ ⟨k1, rfl, h0, hat1⟩ (fun x => moveAct ops.toList { tmps := (ps.zip (encs x)).foldl (fun t (p, v) => t.setIfInBounds p v) a.tmps, defers := [] }) ?_ ?_ ?_ ?_)
  · rintro pre W W' row ⟨k, rfl, hi, ha⟩ hgr hrow
    exact ⟨{ k with w := W' }, rfl, hi, ha.grown hgr hrow hB (hnm pre) hmk⟩
  · rintro c pre W W' row ⟨k, e, h', nid', rfl, h1, h2, h3, h4, ha⟩ hgr hrow
    exact ⟨{ k with w := W' }, e, h', nid', rfl, h1, h2, h3, h4, ha.grown hgr hrow hB h3 hmk⟩
  · intro l x W K hK
    have hr : List.range ops.size = (List.range ops.toList.length).map (0 + ·) := by simp
    refine wpIn_region ?_
    rw [hr]
    exact moves_wp (Q := Exit.then K (fun _ _ _ => False)) ops.toList 0 _ (fun j => by simp) hmv hK
  · rintro l pre x W ⟨k, rfl, hi, ha⟩ hlen
    have hfold : (ps.zip (encs x)).foldl (fun t (p, v) => t.setIfInBounds p v) a.tmps = parAct ps.toList (encs x).toList a.tmps := by
      rw [parAct, ← Array.toList_zip, Array.foldl_toList]
    have hact0 : ActOk X k k.w.heap.size { tmps := a.tmps, defers := [] } s.env s.n := ⟨ha.act.size, ha.act.rel, [], rfl, List.nodup_nil, by simp⟩
    have hact1 := moves_act (s := ⟨parEnv s.n ps.toList (ds x) s.env, hh pre, m, s.n⟩) ops.toList _ (par_act ps.toList (encs x).toList (ds x) _ _ s.n (henc _ _ x) hact0)
    have hatb : At X k k (moveAct ops.toList { tmps := (ps.zip (encs x)).foldl (fun t (p, v) => t.setIfInBounds p v) a.tmps, defers := [] }) (moveSt ops.toList ⟨parEnv s.n ps.toList (ds x) s.env, hh pre, m, s.n⟩) := by
      rw [hfold]
      obtain ⟨e1, e2, e3⟩ := moveSt_h ops.toList ⟨parEnv s.n ps.toList (ds x) s.env, hh pre, m, s.n⟩
      exact ⟨ha.h.trans e1.symm, ha.nid.trans e2.symm, ha.good, .refl k, hact1⟩
    have hawp := wc_sound (n0 := m) (ro := some l) hO hm body _ _ ht (round l pre x hi hlen)
    have hkm : k.nid = m := ha.nid
    refine wpIn_mono (wpIn_n (hawp X k k _ hkm hatb)) ?_
    rintro e a' W' ⟨ex, k', s', hex, rfl, hq, hat'⟩
    have hkeep : KeepsFrom k1.w.heap.size k.w k'.w := ⟨hat'.le.size, fun j o _ hj ho => by
      rw [← hj]
      refine hat'.le.heap j (Array.getElem?_eq_some_iff.1 hj).1 fun ⟨id, hid⟩ => ?_
      obtain ⟨c, t, f, hc⟩ := own_cells ha.good (by rw [ha.h]; exact hnm pre) hid
      rw [hc] at hj; cases hj; cases ho⟩
    have hback : At X k0 k' a ⟨s.env, s'.h, s'.nid, s.n⟩ := ⟨hat'.h, hat'.nid, hat'.good, ha.le.trans hat'.le, ha.act.le ha.good hat'.le⟩
    cases e with
    | normal =>
      simp only [exOf, Option.some.injEq] at hex; subst hex
      obtain ⟨hi', hwk⟩ := hq
      obtain ⟨k2, hk2, hat2⟩ := At.weak hback hn (weak_of (n0 := n0) ⟨hwk.1, hw.nid, hwk.2.2.1, hwk.2.2.2⟩)
      exact ⟨hkeep, trivial, k2, hk2, hi', hat2⟩
    | ret =>
      simp only [exOf, Option.some.injEq] at hex; subst hex
      exact ⟨hkeep, k', .ret, s'.h, s'.nid, rfl, by simp, rfl, hq.1, hq.2, hback⟩
    | exit i =>
      simp only [exOf, Option.some.injEq] at hex; subst hex
      exact ⟨hkeep, k', .exit i, s'.h, s'.nid, rfl, by simp, rfl, hq.1, hq.2, hback⟩
    | _ => simp [exOf] at hex
  · rintro D xs W hD hs ⟨k, rfl, hi, ha⟩ hdef
    exact ⟨.normal, k, _, rfl, rfl, hdone xs hs hi, hmarkD D k.w k _ hD rfl ha hdef⟩
  · rintro D c pre W hD hs ⟨k, e, h', nid', rfl, hne, rfl, h3, h4, ha⟩ hdef
    have hfin := hmarkD D k.w k _ hD rfl ha hdef
    cases e with
    | normal => exact absurd rfl hne
    | ret => exact wpIn_ret ⟨.ret, k, _, rfl, rfl, h4 hs, hfin⟩
    | exit i => exact wpIn_exit ⟨.exit i, k, _, rfl, rfl, h4 hs, hfin⟩
end
end Go.Sx
