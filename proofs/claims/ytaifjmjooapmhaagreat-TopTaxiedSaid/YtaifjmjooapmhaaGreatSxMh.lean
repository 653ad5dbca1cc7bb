/- Own work: a calculus of contracts for the programs of this kit: parts SxZ14, SxZ15, SxZ16, SxZ17, SxZ18, SxZ19, SxZ20, SxZ21. -/
import Derived.Test.YtaifjmjooapmhaaGreatSxMg
import Derived.RangeFuncNested
set_option linter.unusedVariables false
set_option linter.unusedSimpArgs false
namespace Go.Sx

def Cx.putO (k : Cx) (l : Nat) (o : Loop) : Cx := { k with w := k.w.putObj l (.loop o) }
theorem putO_size (k : Cx) (l : Nat) (o : Loop) : (k.putO l o).w.heap.size = k.w.heap.size := by simp [Cx.putO]
theorem putO_heap (k : Cx) {l b : Nat} (o : Loop) (h : b ≠ l) : (k.putO l o).w.heap[b]? = k.w.heap[b]? := World.putObj_heap_other h
theorem putO_heap_l (k : Cx) {l : Nat} (o : Loop) (h : l < k.w.heap.size) : (k.putO l o).w.heap[l]? = some (.loop o) := World.putObj_heap_same h
theorem putO_rle {X : Nat → Prop} {k : Cx} {l : Nat} {r : Loop} (o : Loop) (hl : k.w.heap[l]? = some (.loop r)) (n : Nat) : RLe n (k.R X) ((k.putO l o).R X) where
 β := fun _ _ => rfl
 arr := fun _ _ m hm => ⟨m, hm, Nat.le_refl _, fun _ => rfl⟩
 S := fun b h => ⟨by rw [putO_size]; exact h.1, h.2.1, h.2.2⟩
 heap := fun b ob h => by
  show (k.putO l o).w.cell? _ = k.w.cell? _
  by_cases e : b = l
  ·subst e
   have hlt : b < k.w.heap.size := (Array.getElem?_eq_some_iff.1 hl).1
   simp [World.cell?, hl, putO_heap_l k o hlt]
  ·exact cell_of_heap (putO_heap k o e)
 map := fun b es c _ h => (putO_heap k o fun e => by
  have h' : k.w.heap[b]? = some (.map es c) := h
  rw [e, hl] at h'; cases h').trans h
theorem putO_good {X : Nat → Prop} {k : Cx} {l : Nat} {r : Loop} (o : Loop) (hl : k.w.heap[l]? = some (.loop r)) (hg : Good X k) : Good X (k.putO l o) := by
 have hr := putO_rle (X := X) o hl
 have hne : ∀ b (o' : Obj), k.w.heap[b]? = some o' → (∀ q, o' ≠ .loop q) → b ≠ l := fun b o' h1 h2 e => by rw [e, hl] at h1; cases h1; exact h2 _ rfl
 refine ⟨hg.key, hg.inj, fun i b hb => ⟨by rw [putO_size]; exact (hg.lt i b hb).1, (hg.lt i b hb).2⟩, fun b hb => by rw [putO_size]; exact hg.xlt b hb, fun id blk hid => ?_⟩
 have hok := hg.ok id blk hid
 cases blk with
 | box cs =>
  obtain ⟨vs, ty, a, b⟩ := hok
  exact ⟨vs, ty, (putO_heap k o (hne _ _ a fun q h => by cases h)).trans a, rell_mono b (hr _) (Nat.le_refl _)⟩
 | arr ty sz es =>
  obtain ⟨a0, a1⟩ := hok
  refine ⟨a0, ?_⟩
  rcases a1 with a1 | ⟨b, off, cap, vs, x1, x2, x3, x4, x5⟩
  ·exact .inl a1
  ·exact .inr ⟨b, off, cap, vs, x1, (putO_heap k o (hne _ _ x2 fun q h => by cases h)).trans x2, x3, x4, fun i e j d v p q r => (x5 i e j d v p q r).mono (hr _)⟩
 | map kvs =>
  obtain ⟨es, c, es', x1, x2, x3, x6, x4, x5⟩ := hok
  exact ⟨es, c, es', (putO_heap k o (hne _ _ x1 fun q h => by cases h)).trans x1, x2, x3, x6, rell_mono x4 (hr _) (Nat.le_refl _), rell_mono x5 (hr _) (Nat.le_refl _)⟩
theorem putO_at {X : Nat → Prop} {k ka : Cx} {a : Act} {s : St} {l : Nat} {r : Loop} (o : Loop) (hl0 : l < k.w.heap.size) (hl : ka.w.heap[l]? = some (.loop r)) (hat : At X k ka a s) : At X (k.putO l o) (ka.putO l o) a s := by
 have hle := hat.le
 refine ⟨hat.h, hat.nid, putO_good o hl hat.good, ⟨hle.nid, hle.os, hle.tape, hle.output, by rw [putO_size, putO_size]; exact hle.size, hle.β, hle.arr, fun b hb hm => ?_, fun b hb hm => hle.mb b (by rw [putO_size] at hb; exact hb) hm⟩,
  ⟨hat.act.size, fun i => (hat.act.rel i).mono (putO_rle o hl _), ?_⟩⟩
 ·by_cases e : b = l
  ·subst e
   rw [putO_heap_l k o hl0, putO_heap_l ka o (Nat.lt_of_lt_of_le hl0 hle.size)]
  ·rw [putO_heap k o e, putO_heap ka o e]
   exact hle.heap b (by rw [putO_size] at hb; exact hb) hm
 ·obtain ⟨ms, h1, h2, h3⟩ := hat.act.marks
  exact ⟨ms, h1, h2, fun r' hr' => ⟨by rw [putO_size]; exact (h3 r' hr').1, (putO_heap ka o fun e => by
   have := (h3 r' hr').2; rw [e, hl] at this; cases this).trans (h3 r' hr').2⟩⟩

section
variable {P : Program} {O : Oracle} {n0 : Nat}
theorem awp_rangeQ {α : Type} {g : Operand} {ps : Array Tmp} {asg body : Code} {s : St} {Q : Ex → St → Prop} {gf : FuncId} {caps : List D} {encs : α → Array Value} {ds : α → List D} {N : Nat} {Sd Sp : List α → Prop}
  (hm : P.follows .mixedOrders = true) (T : List (Nat × List Ann)) (hta : tabOk T asg = true) (ht : tabOk T body = true) (hO : OkO P O)
  (hg : evO s.env g = .fn (.func gf) [] caps) (hcl : D.ltL 0 caps = true) (hcal : callable P gf = true) (hseq : SeqP P gf caps encs Sd Sp N) (hps : ∀ x, (encs x).size = ps.size)
  (henc : ∀ (R : Rx) (n : Nat) x, RelL R n (encs x).toList (ds x))
  (hh : List α → H) (m : Nat) (I : List α → Prop) (h0 : I []) (hw : Weak n0 s ⟨s.env, hh [], m, s.n⟩) (hnm : ∀ xs, mapsIn (hh []) (hh xs) = true)
  (round : ∀ l pre x, I pre → pre.length < N → AWp P m (some l) asg ⟨parEnv s.n ps.toList (ds x) s.env, hh pre, m, s.n⟩ (thenQ (fun s1 => AWp P m (some l) body s1 fun e s' =>
   match e with
   | .normal => I (pre ++ [x]) ∧ headW m ⟨s.env, s'.h, s'.nid, s.n⟩ s.env (hh (pre ++ [x])) m s.n
   | e => mapsIn (hh []) s'.h = true ∧ (Sp (pre ++ [x]) → Q e ⟨s.env, s'.h, s'.nid, s.n⟩)) fun _ _ => False))
  (hdone : ∀ xs, Sd xs → I xs → Q .normal ⟨s.env, hh xs, m, s.n⟩) : AWp P n0 none (.rangeFunc g ps asg body) s Q := by
 intro X k0 k a hn hat
 obtain ⟨k1, hk1, hat1⟩ := hat.weak hn hw
 rw [← hk1]
 obtain ⟨ms, hd, hnd, hms⟩ := hat.act.marks
 have hB : k0.w.heap.size ≤ k1.w.heap.size := hat1.le.size
 have hmk : ∀ r, markD r ∈ a.defers → r < k1.w.heap.size := fun r hr => by
  rw [hd] at hr
  obtain ⟨q, hq, he⟩ := List.mem_map.1 hr
  have : q = r := by simpa [markD] using he
  subst this
  rcases Nat.lt_or_ge q k1.w.heap.size with h | h
  ·exact h
  ·have := (hms q hq).2; rw [← hk1, Array.getElem?_eq_none h] at this; cases this
 obtain ⟨vc, hev, hvc⟩ : ∃ vc : List Value, a.eval g = .func (.func gf) #[] vc.toArray ∧ RelL (k1.R X) k1.nid vc caps := by
  have hr := hat1.act.eval g
  rw [show evO s.env g = _ from hg] at hr
  generalize a.eval g = v at hr
  cases hr with
  | fn _ _ va vc _ _ h1 h2 h3 h4 =>
   have e1 : va = [] := by simpa using h1
   subst e1
   exact ⟨vc, rfl, h2, h4⟩
 have hS : ∀ b, (k1.R X).S b → b < k1.w.heap.size := fun b h => h.1
 have hvc0 : RelL (RXS (k1.R X).S k1.w) 0 vc caps := ⟨hvc.1, fun i v d x y => by
  have h1 := (hvc.2 i v d x y).roll (m := 0) (D.ltL_get hcl i d y)
  exact h1.mono { β := fun b hb => by omega, arr := fun b hb => by omega, S := fun b h => rs_S.2 ⟨h.1, h⟩, heap := fun _ _ _ => rfl, map := fun _ _ _ _ h => h }⟩
 have hnid1 : k1.nid = m := hat1.nid
 have hmaps : ∀ (k : Cx) (h' : H), mapsIn (hh []) h' = true → k.h = h' → Le k1 k → ∀ id kvs, hget k.h id = some (.map kvs) → k.β id < k1.w.heap.size := fun k h' hb he hf id kvs hid => by
  obtain ⟨kvs', h1⟩ := mapsIn_get hb (he ▸ hid)
  have h2 : hget k1.h id = some (.map kvs') := by rw [show k1.h = _ from hat1.h]; exact h1
  rw [hf.β id (hat1.good.key id _ h2)]
  exact (hat1.good.lt id _ (by rw [own_of_hget h2]; rfl)).1
 obtain ⟨D, hD⟩ : ∃ D, D = k1.w.heap.size := ⟨_, rfl⟩
 refine wpIn_n (n := 1) (wpIn_rangeFunc fun fn hfn => ?_)
 obtain ⟨rec, hrec⟩ : ∃ rec : LoopState → Option Code → Loop, rec = fun st pe => { state := st, pending := pe, fn, tmps := a.tmps, params := ps, assign := asg, body, defers := k1.w.heap.size } := ⟨_, rfl⟩
 obtain ⟨W1, hW1⟩ : ∃ W1, (k1.w.alloc (.deferred (some []))).alloc (.loop (rec .ready none)) = W1 := ⟨_, rfl⟩
 have hsz1 : W1.heap.size = D + 2 := by rw [← hW1, hD]; simp
 have hL1 : W1.heap[D + 1]? = some (.loop (rec .ready none)) := by
  rw [← hW1, hD]; have := World.alloc_heap_new (k1.w.alloc (.deferred (some []))) (.loop (rec .ready none)); rwa [World.size_alloc] at this
 have hK1 : W1.heap[D]? = some (.deferred (some [])) := by
  rw [← hW1, hD]; exact (alloc_heap _ _ _ (by simp)).trans (alloc_heap_new k1.w _)
 -- what is kept of the caller's memory
 have grow : ∀ (pre : List α) (k : Cx) (W' : World) (row : Option Nat), At X k0 k a ⟨s.env, hh pre, m, s.n⟩ → Le k1 k → k.w.grownBy W' row → (∀ r, row = some r → k1.w.heap.size ≤ r ∧ ∃ o : Obj, k.w.heap[r]? = some o ∧ o.isCells = false) →
   At X k0 { k with w := W' } a ⟨s.env, hh pre, m, s.n⟩ ∧ Le k1 { k with w := W' } := fun pre k W' row ha hf hgr hrow =>
  ⟨hat1.grownM rfl hf ha hgr hrow (mapsIn_nm (hnm pre)) (hmaps k _ (hnm pre) ha.h hf) hmk, le_grown hf hgr fun r h => (hrow r h).1⟩
 have growX : ∀ (h' : H) (nid' : Nat) (k : Cx) (W' : World) (row : Option Nat), mapsIn (hh []) h' = true → At X k0 k a ⟨s.env, h', nid', s.n⟩ → Le k1 k → k.w.grownBy W' row → (∀ r, row = some r → k1.w.heap.size ≤ r ∧ ∃ o : Obj, k.w.heap[r]? = some o ∧ o.isCells = false) →
   At X k0 { k with w := W' } a ⟨s.env, h', nid', s.n⟩ ∧ Le k1 { k with w := W' } := fun h' nid' k W' row hb ha hf hgr hrow =>
  ⟨hat1.grownM rfl hf ha hgr hrow (mapsIn_nm hb) (hmaps k _ hb ha.h hf) hmk, le_grown hf hgr fun r h => (hrow r h).1⟩
 have hne : ∀ {A B : World} {row : Option Nat} {b : Nat} {o : Obj}, A.grownBy B row → (∀ r, row = some r → ∃ o : Obj, A.heap[r]? = some o ∧ o.isWalk = true) → A.heap[b]? = some o → o.isWalk = false → B.heap[b]? = some o := fun hgr hr hb ho =>
  (hgr.block _ (Array.getElem?_eq_some_iff.1 hb).1 fun e => by
   obtain ⟨o', h1, h2⟩ := hr _ e.symm
   rw [hb] at h1; cases h1; rw [ho] at h2; cases h2).trans hb
 have hrowW : ∀ {A : World} {row : Option Nat}, (∀ r, row = some r → W1.heap.size ≤ r ∧ ∃ o : Obj, A.heap[r]? = some o ∧ o.isWalk = true) → ∀ r, row = some r → k1.w.heap.size ≤ r ∧ ∃ o : Obj, A.heap[r]? = some o ∧ o.isCells = false := fun hr r e => by
  obtain ⟨h1, o, h2, h3⟩ := hr r e
  exact ⟨by omega, o, h2, Obj.not_cells_of_walk h3⟩
 have hmarkD : ∀ (W : World) (k' : Cx) (s' : St), k'.w = W → At X k0 k' a s' → W.heap[D]? = some (.deferred (some [])) → At X k0 k' { a with defers := { target := .collected D, args := #[] } :: a.defers } s' := fun W k' s' hW hat' hdef => by
  refine ⟨hat'.h, hat'.nid, hat'.good, hat'.le, hat'.act.size, hat'.act.rel, ?_⟩
  obtain ⟨ms', hd', hnd', hms'⟩ := hat'.act.marks
  refine ⟨D :: ms', by show _ :: a.defers = _; rw [show a.defers = _ from hd']; rfl, List.nodup_cons.2 ⟨fun hD' => ?_, hnd'⟩, fun r hr => ?_⟩
  ·have := hmk D (by rw [show a.defers = _ from hd']; exact List.mem_map_of_mem hD'); omega
  ·rcases List.mem_cons.1 hr with rfl | hr
   ·exact ⟨by omega, by rw [hW]; exact hdef⟩
   ·exact hms' r hr
 refine ⟨D + 1, [{ target := .collected D, args := #[] }], W1, { target := .fn (.func gf) vc.toArray, args := #[.func (.yield (D + 1)) #[] #[]] }, W1, gf, #[.func (.yield (D + 1)) #[] #[]] ++ vc.toArray, W1, ?_, ?_, fun _ _ => trivial, ?_, fun h => by simp [FW, Fence.wide] at h, ?_⟩
 ·rw [← hW1, hrec, hD]; exact run_enterLoop_outer _ _ _ _ _
 ·simp only [resolve, hev]
  simp [go_sem]
 ·simp [invoke, go_sem, run_callFunc hcal]
 have hbel : RowKit.Below k1.w.heap.size k1.w W1 := by
  rw [← hW1]; exact ((RowKit.Below.refl _ k1.w).alloc (Nat.le_refl _) _).alloc (by simp) _
 have hstart : ∃ k, k.w = W1 ∧ I [] ∧ At X k0 k a ⟨s.env, hh [], m, s.n⟩ ∧ Le k1 k := by
  obtain ⟨a1, b1⟩ := grow [] k1 _ none hat1 (.refl k1) (World.grownBy_alloc k1.w (.deferred (some [])) none) fun r e => by cases e
  obtain ⟨a2, b2⟩ := grow [] _ _ none a1 b1 (World.grownBy_alloc (k1.w.alloc (.deferred (some []))) (.loop (rec .ready none)) none) fun r e => by cases e
  exact ⟨_, hW1, h0, a2, b2⟩
 refine (hseq (k1.R X).S k1.w vc hS hvc0 (D + 1)
  (fun pre W => (∃ k, k.w = W ∧ I pre ∧ At X k0 k a ⟨s.env, hh pre, m, s.n⟩ ∧ Le k1 k) ∧ W.heap[D + 1]? = some (.loop (rec .ready none)) ∧ W.heap[D]? = some (.deferred (some [])))
  (fun pre W => ∃ e, (∃ k h' nid', k.w = W ∧ e ≠ .normal ∧ mapsIn (hh []) h' = true ∧ (Sp pre → Q e ⟨s.env, h', nid', s.n⟩) ∧ At X k0 k a ⟨s.env, h', nid', s.n⟩ ∧ Le k1 k) ∧ W.heap[D + 1]? = some (.loop (rec .done (some (codeOf e)))) ∧ W.heap[D]? = some (.deferred (some [])))
  W1 hbel ?_ ?_ ?_ ⟨hstart, hL1, hK1⟩).mono ?_
 ·rintro pre A B row ⟨⟨k, rfl, hi, ha, hf⟩, h1, h2⟩ hgr hr
  obtain ⟨a1, b1⟩ := grow pre k B row ha hf hgr (hrowW hr)
  exact ⟨⟨_, rfl, hi, a1, b1⟩, hne hgr (fun r e => (hr r e).2) h1 rfl, hne hgr (fun r e => (hr r e).2) h2 rfl⟩
 ·rintro pre A B row ⟨e, ⟨k, h', nid', rfl, he, hb, hq, ha, hf⟩, h1, h2⟩ hgr hr
  obtain ⟨a1, b1⟩ := growX h' nid' k B row hb ha hf hgr (hrowW hr)
  exact ⟨e, ⟨_, h', nid', rfl, he, hb, hq, a1, b1⟩, hne hgr (fun r e => (hr r e).2) h1 rfl, hne hgr (fun r e => (hr r e).2) h2 rfl⟩
 ·-- one round
  rintro pre x W ⟨⟨k, rfl, hi, ha, hf⟩, hl, hdf⟩ hlen
  have hkm : k.nid = m := ha.nid
  have hDk : D + 1 < k.w.heap.size := (Array.getElem?_eq_some_iff.1 hl).1
  have hnoM : ∀ b, k1.w.heap.size ≤ b → ∀ (o : Obj), k.w.heap[b]? = some o → o.isCells = false → ¬ k.Mut b := fun b hbB o hb ho ⟨id, hid⟩ => by
   rcases own_kind ha.good hid with ⟨c, t, f, hc⟩ | ⟨kvs, hmp, rfl⟩
   ·rw [hc] at hb; cases hb; cases ho
   ·have := hmaps k _ (hnm pre) ha.h hf id kvs hmp; omega
  have hy := run_yield (P := P) (args := encs x) hl (by rw [hrec]; exact hps x)
  have hfold : ((rec .ready none).params.zip (encs x)).foldl (fun t (p, v) => t.setIfInBounds p v) (rec .ready none).tmps = parAct ps.toList (encs x).toList a.tmps := by
   rw [hrec, parAct, ← Array.toList_zip, Array.foldl_toList]
  rw [hfold, show (rec .ready none).fn = fn by rw [hrec], show (rec .ready none).assign = asg by rw [hrec], show (rec .ready none).body = body by rw [hrec]] at hy
  refine ⟨fn, _, asg, body, hy, roundIn_of_wpIn hfn ?_⟩
  have hact0 : ActOk X k k.w.heap.size { tmps := a.tmps, defers := [] } s.env s.n := ⟨ha.act.size, ha.act.rel, [], rfl, List.nodup_nil, by simp⟩
  have hact1 := par_act ps.toList (encs x).toList (ds x) _ _ s.n (henc _ _ x) hact0
  have hatb : At X k k { tmps := parAct ps.toList (encs x).toList a.tmps, defers := [] } ⟨parEnv s.n ps.toList (ds x) s.env, hh pre, m, s.n⟩ := ⟨ha.h, ha.nid, ha.good, .refl k, hact1⟩
  refine wpIn_mono (wpIn_n (round (D + 1) pre x hi hlen X k k _ hkm hatb)) ?_
  rintro e a1 W' ⟨ex, ka, s1, hex, rfl, hq, hata⟩
  have hnorm : ex = .normal := by cases ex <;> first | rfl | exact hq.elim
  subst hnorm
  have he : e = .normal := by cases e <;> simp [exOf] at hex <;> rfl
  subst he
  have hla : ka.w.heap[D + 1]? = some (.loop (rec .ready none)) := (hata.le.heap _ hDk (hnoM _ (by omega) _ hl rfl)).trans hl
  have hda : ka.w.heap[D]? = some (.deferred (some [])) := (hata.le.heap _ (by omega) (hnoM _ (by omega) _ hdf rfl)).trans hdf
  show ∃ w₂, _ ∧ _
  refine ⟨_, run_beginRound hla (by rw [hrec]), ?_⟩
  obtain ⟨rb, hrb⟩ : ∃ rb : Loop, rb = { rec .ready none with state := .busy } := ⟨_, rfl⟩
  rw [← hrb]
  have hatc : At X (k.putO (D + 1) rb) (ka.putO (D + 1) rb) a1 s1 := putO_at rb hDk hla hata
  -- the caller, with the record turned
  obtain ⟨hap, hfp⟩ := grow pre k (k.w.putObj (D + 1) (.loop rb)) (some (D + 1)) ha hf (grownBy_putObj' _ _ _) fun r h => by cases h; exact ⟨by omega, _, hl, rfl⟩
  refine wpIn_mono (wpIn_n (hq X (k.putO (D + 1) rb) (ka.putO (D + 1) rb) a1 hkm hatc)) ?_
  rintro e a3 W3 ⟨ex, k3, s3, hex3, rfl, hq3, hat3⟩
  have hkp0 : (k.putO (D + 1) rb).w.heap.size = k.w.heap.size := putO_size _ _ _
  have hl3 : k3.w.heap[D + 1]? = some (.loop rb) := (hat3.le.heap _ (by rw [hkp0]; exact hDk) (hnoM _ (by omega) _ hl rfl)).trans (putO_heap_l k rb hDk)
  have hd3 : k3.w.heap[D]? = some (.deferred (some [])) := (hat3.le.heap _ (by rw [hkp0]; omega) (hnoM _ (by omega) _ hdf rfl)).trans ((putO_heap k rb (by omega)).trans hdf)
  have hback : At X k0 k3 a ⟨s.env, s3.h, s3.nid, s.n⟩ := ⟨hat3.h, hat3.nid, hat3.good, hap.le.trans hat3.le, hap.act.le hap.good hat3.le⟩
  have hfol : Le k1 k3 := hfp.trans hat3.le
  have hD3 : D + 1 < k3.w.heap.size := (Array.getElem?_eq_some_iff.1 hl3).1
  have hend := fun jump => run_endRound (P := P) jump hl3
  have hrn : { rb with state := LoopState.ready, pending := none } = rec .ready none := by rw [hrb, hrec]
  have hrd : ∀ c, { rb with state := LoopState.done, pending := some c } = rec .done (some c) := fun c => by rw [hrb, hrec]
  have hkp : ∀ o, KpS (k1.R X).S k.w (k3.w.putObj (D + 1) (.loop o)) := fun o => ⟨by
   have := hat3.le.size; rw [hkp0] at this; simpa using this, fun b hb => by
   have hbD : b ≠ D + 1 := by have := hS b hb; omega
   have hbl : b < k.w.heap.size := Nat.lt_of_lt_of_le (hS b hb) hf.size
   have hnm : ¬ k.Mut b := fun hmu => hb.2.2 (hf.mb b (hS b hb) hmu)
   exact (World.putObj_heap_other hbD).trans ((hat3.le.heap b (by rw [hkp0]; exact hbl) hnm).trans (putO_heap k rb hbD))⟩
  have hother : ∀ o, (k3.w.putObj (D + 1) (.loop o)).heap[D]? = some (.deferred (some [])) := fun o => (World.putObj_heap_other (by omega)).trans hd3
  have hlast : ∀ o, (k3.w.putObj (D + 1) (.loop o)).heap[D + 1]? = some (.loop o) := fun o => World.putObj_heap_same hD3
  have hexit : ∀ (x' : Ex), x' ≠ .normal → mapsIn (hh []) s3.h = true ∧ (Sp (pre ++ [x]) → Q x' ⟨s.env, s3.h, s3.nid, s.n⟩) →
    (∃ k h' nid', k.w = k3.w.putObj (D + 1) (.loop (rec .done (some (codeOf x')))) ∧ x' ≠ .normal ∧ mapsIn (hh []) h' = true ∧ (Sp (pre ++ [x]) → Q x' ⟨s.env, h', nid', s.n⟩) ∧ At X k0 k a ⟨s.env, h', nid', s.n⟩ ∧ Le k1 k) := fun x' hx' hq' => by
   obtain ⟨a4, b4⟩ := growX s3.h s3.nid k3 (k3.w.putObj (D + 1) (.loop (rec .done (some (codeOf x'))))) (some (D + 1)) hq'.1 hback hfol (grownBy_putObj' _ _ _) fun r h => by cases h; exact ⟨by omega, _, hl3, rfl⟩
   exact ⟨_, s3.h, s3.nid, rfl, hx', hq'.1, hq'.2, a4, b4⟩
  cases ex with
  | normal =>
   have he : e = .normal := by cases e <;> simp [exOf] at hex3 <;> rfl
   subst he
   obtain ⟨hi', hwk⟩ := hq3
   obtain ⟨k4, hk4, hat4, hl4⟩ := At.weakG hback hn (weak_of (n0 := n0) ⟨hwk.1, hw.nid, hwk.2.2.1, hwk.2.2.2⟩)
   obtain ⟨a5, b5⟩ := grow (pre ++ [x]) k4 (k3.w.putObj (D + 1) (.loop (rec .ready none))) (some (D + 1)) hat4 (hl4 k1 hfol (Nat.le_of_eq hat1.nid)) (by rw [hk4]; exact grownBy_putObj' _ _ _) fun r h => by cases h; exact ⟨by omega, _, by rw [hk4]; exact hl3, rfl⟩
   have h1 := hend none
   simp only [Option.isNone_none, if_true] at h1
   rw [hrn] at h1
   exact ⟨_, _, h1, .inl ⟨rfl, ⟨⟨_, rfl, hi', a5, b5⟩, hlast _, hother _⟩, hkp _⟩⟩
  | ret =>
   have he : e = .ret := by cases e <;> simp [exOf] at hex3 <;> rfl
   subst he
   have h1 := hend (some .ret)
   simp only [Option.isNone_some, Bool.false_eq_true, if_false] at h1
   rw [hrd] at h1
   exact ⟨_, _, h1, .inr ⟨rfl, .ret, hexit .ret (by simp) hq3, hlast _, hother _⟩⟩
  | exit i =>
   have he : e = .exit i := by cases e <;> simp [exOf] at hex3 <;> rw [hex3]
   subst he
   have h1 := hend (some (.exit i))
   simp only [Option.isNone_some, Bool.false_eq_true, if_false] at h1
   rw [hrd] at h1
   exact ⟨_, _, h1, .inr ⟨rfl, .exit i, hexit (.exit i) (by simp) hq3, hlast _, hother _⟩⟩
 ·-- behind the iterator
  rintro e W2 ⟨⟨v, rfl⟩, ⟨xs, hxs, ⟨k, rfl, hi, ha, hf⟩, hl, hdf⟩ | ⟨pre, hpre, e, ⟨k, h', nid', rfl, he, hb, hq, ha, hf⟩, hl, hdf⟩⟩
  ·obtain ⟨a1, b1⟩ := grow xs k (k.w.putObj (D + 1) (.loop { rec .ready none with state := .exhausted })) (some (D + 1)) ha hf (grownBy_putObj' _ _ _) fun r h => by cases h; exact ⟨by omega, _, hl, rfl⟩
   refine ⟨none, _, (run_endLoop (P := P) hl (by rw [hrec]; simp)).trans (congrArg (fun p => Result.ok p _) (show (rec .ready none).pending = none by rw [hrec])), ?_⟩
   exact ⟨.normal, _, _, rfl, rfl, hdone xs hxs hi, hmarkD _ _ _ rfl a1 ((World.putObj_heap_other (by omega)).trans hdf)⟩
  ·obtain ⟨a1, b1⟩ := growX h' nid' k (k.w.putObj (D + 1) (.loop { rec .done (some (codeOf e)) with state := .exhausted })) (some (D + 1)) hb ha hf (grownBy_putObj' _ _ _) fun r h => by cases h; exact ⟨by omega, _, hl, rfl⟩
   refine ⟨some (codeOf e), _, (run_endLoop (P := P) hl (by rw [hrec]; simp)).trans (congrArg (fun p => Result.ok p _) (show (rec .done (some (codeOf e))).pending = some (codeOf e) by rw [hrec])), ?_⟩
   have hfin := hmarkD _ _ _ rfl a1 ((World.putObj_heap_other (by omega)).trans hdf)
   cases e with
   | normal => exact absurd rfl he
   | ret => exact wpIn_ret ⟨.ret, _, _, rfl, rfl, hq hpre, hfin⟩
   | exit i => exact wpIn_exit ⟨.exit i, _, _, rfl, rfl, hq hpre, hfin⟩
theorem rangeQ {α : Type} {g : Operand} {ps : Array Tmp} {asg body : Code} {env : Env} {h : H} {nid n : Nat} {Q : Ex → St → Prop} {u : Tag (Code.rangeFunc g ps asg body, Q)} {gf : FuncId} {caps : List D} {encs : α → Array Value} {ds : α → List D} {N : Nat} {Sd Sp : List α → Prop}
  (hO : OkO P O) (T : List (Nat × List Ann)) (hm : P.follows .mixedOrders = true) (hta : tabOk T asg = true) (ht : tabOk T body = true) (hseq : SeqP P gf caps encs Sd Sp N) (hcal : callable P gf = true)
  (hps : ∀ x, (encs x).size = ps.size) (henc : ∀ (R : Rx) (n : Nat) x, RelL R n (encs x).toList (ds x)) (hcl : D.ltL 0 caps = true)
  (E : Env) (hh : List α → H) (m : Nat) (I : List α → Prop) (h0 : I []) (hg : evO E g = .fn (.func gf) [] caps) (hnm : ∀ xs, mapsIn (hh []) (hh xs) = true) (hw : headW n0 ⟨env, h, nid, n⟩ E (hh []) m n)
  (round : ∀ l pre x, I pre → pre.length < N → wc P m (some l) T O asg ⟨parEnv n ps.toList (ds x) E, hh pre, m, n⟩
   (thenQ (fun s1 => wc P m (some l) T O body s1 (thenQ (fun s' => I (pre ++ [x]) ∧ headW m ⟨E, s'.h, s'.nid, n⟩ E (hh (pre ++ [x])) m n) fun e s' => mapsIn (hh []) s'.h = true ∧ (Sp (pre ++ [x]) → Q e ⟨E, s'.h, s'.nid, n⟩))) fun _ _ => False))
  (hdone : ∀ xs, Sd xs → I xs → Q .normal ⟨E, hh xs, m, n⟩) : LoopV P n0 none (.rangeFunc g ps asg body) ⟨env, h, nid, n⟩ Q u := by
 refine awp_weak (weak_of hw) (awp_rangeQ (s := ⟨E, hh [], m, n⟩) hm T hta ht hO hg hcl hcal hseq hps henc hh m I h0 ?_ hnm (fun l pre x hi hl => ?_) hdone)
 ·have hk := weak_of hw
  exact ⟨rfl, fun i => .inr ⟨rfl, .inl (Nat.le_refl _)⟩, fun _ _ h => h, hk.key, hk.nid, .inl (Nat.le_refl _)⟩
 ·refine awp_mono (wc_sound hO hm asg _ _ hta (round l pre x hi hl)) fun e s1 h1 => ?_
  cases e with
  | normal =>
   refine awp_mono (wc_sound hO hm body _ _ ht h1) fun e s' h' => ?_
   cases e <;> exact h'
  | _ => exact h1
end
end Go.Sx

/- Sx: loops whose bodies are taken statement by statement. Own work. -/
namespace Go.Sx
variable {P : Program} {O : Oracle} {n0 : Nat} {ro : Option Nat}
theorem awp_loopH {ι : Type} {c : Code} {s : St} {Q : Ex → St → Prop} (E : ι → Env) (V : ι → H) (nid : Nat) (I : ι → Prop) (μ : ι → Nat) (i0 : ι) (h0 : I i0) (hw : headW n0 s (E i0) (V i0) nid s.n)
  (round : ∀ i, I i → AWp P n0 ro c ⟨E i, V i, nid, s.n⟩ (thenQ (fun s' => ∃ j, I j ∧ μ j < μ i ∧ headW n0 s' (E j) (V j) nid s.n) Q)) : AWp P n0 ro (.loop c) s Q :=
 awp_loop (fun i => ⟨E i, V i, nid, s.n⟩) I μ i0 h0 (weak_of hw) fun i hi => awp_mono (round i hi) fun e s' h' => by
  cases e with
  | normal => obtain ⟨j, a, b, d⟩ := h'; exact ⟨j, a, b, weak_of d⟩
  | exit => exact h'
  | ret => exact h'
theorem awp_headW {c : Code} {s : St} {Q : Ex → St → Prop} (e : Env) (hh : H) (nid n : Nat) (hw : headW n0 s e hh nid n) (h : AWp P n0 ro c ⟨e, hh, nid, n⟩ Q) : AWp P n0 ro c s Q := awp_weak (weak_of hw) h
end Go.Sx

/- Sx: an own array gets another id. Own work. -/
namespace Go.Sx
variable {P : Program} {n0 : Nat}

def okM (j : Nat) : D → Bool
 | .ptr b _ => !(b == j)
 | .mp b => !(b == j)
 | .osl b _ => !(b == j)
 | .ifc _ d => okM j d
 | d => D.lt 0 d
def mvD (i j : Nat) : D → D
 | .osl b n => if b = i then .osl j n else .osl b n
 | .ptr b o => if b = i then .ptr j o else .ptr b o
 | .mp b => if b = i then .mp j else .mp b
 | .ifc t d => .ifc t (mvD i j d)
 | d => d
def okMB (j : Nat) : Blk → Bool
 | .box cs => cs.all (okM j)
 | .arr _ _ _ => true
 | .map kvs => kvs.all fun p => D.lt 0 p.2
def mvB (i j : Nat) : Blk → Blk
 | .box cs => .box (cs.map (mvD i j))
 | x => x
def mvH (i j : Nat) (h : H) : H := h.map fun p => (if p.1 = i then j else p.1, mvB i j p.2)
theorem mvH_get {i j : Nat} (hij : i ≠ j) : ∀ (h : H), hget h j = none → ∀ id, hget (mvH i j h) id = if id = j then (hget h i).map (mvB i j) else if id = i then none else (hget h id).map (mvB i j)
 | [], _, id => by simp [mvH, hget]
 | (a, b) :: r, hj, id => by
  have haj : ¬ j = a := fun e => by simp [hget, e] at hj
  have hr : hget r j = none := by simpa [hget, haj] using hj
  have ih := mvH_get hij r hr id
  simp only [mvH, List.map_cons, hget] at ih ⊢
  by_cases hai : a = i
  ·subst hai
   simp only [if_true]
   by_cases h1 : id = j
   ·subst h1; simp
   ·rw [if_neg h1, ih, if_neg h1, if_neg h1]
    by_cases h2 : id = a
    ·simp [h2]
    ·simp [h2]
  ·have hia : ¬ i = a := fun e => hai e.symm
   simp only [if_neg hai, if_neg hia]
   by_cases h2 : id = a
   ·subst h2
    have : ¬ id = j := fun e => haj e.symm
    simp [this, hai]
   ·rw [if_neg h2, ih]
    simp [h2]
def Cx.mv (k : Cx) (i j : Nat) : Cx := { k with sv := fun x => if x = j then k.sv i else k.sv x, β := fun x => if x = j then k.β i else k.β x, h := mvH i j k.h }
theorem ownOf_mv (k : Cx) (i j id : Nat) (hne : id ≠ j) (b : Option Blk) : ownOf (k.mv i j) id (b.map (mvB i j)) = ownOf k id b := by
 cases b with
 | none => rfl
 | some b => cases b <;> simp [mvB, ownOf, Cx.mv, hne]
theorem lnOf_mv (i j : Nat) (b : Option Blk) : lnOf (b.map (mvB i j)) = lnOf b := by
 cases b with
 | none => rfl
 | some b => cases b <;> simp [mvB, lnOf]
section
variable {k : Cx} {i j : Nat} {bi : Blk} (hij : i ≠ j) (hi : hget k.h i = some bi) (hj : hget k.h j = none)
include hij hi hj
theorem mv_own (id : Nat) : (k.mv i j).own id = if id = j then k.own i else if id = i then none else k.own id := by
 have hg := mvH_get hij k.h hj id
 by_cases h1 : id = j
 ·subst h1
  rw [if_pos rfl, Cx.own, show (k.mv i id).h = mvH i id k.h from rfl, hg, if_pos rfl, hi]
  cases bi <;> simp [mvB, ownOf, Cx.mv, Cx.own, hi]
 ·rw [if_neg h1]
  by_cases h2 : id = i
  ·rw [if_pos h2, Cx.own, show (k.mv i j).h = mvH i j k.h from rfl, hg, if_neg h1, if_pos h2]; rfl
  ·rw [if_neg h2, Cx.own, show (k.mv i j).h = mvH i j k.h from rfl, hg, if_neg h1, if_neg h2, ownOf_mv k i j id h1]; rfl
theorem mv_mut (b : Nat) : (k.mv i j).Mut b ↔ k.Mut b := by
 have hjn : k.own j = none := by simp [Cx.own, hj, ownOf]
 constructor
 ·rintro ⟨id, h⟩
  rw [mv_own hij hi hj] at h
  split at h
  ·exact ⟨i, h⟩
  ·split at h
   ·cases h
   ·exact ⟨id, h⟩
 ·rintro ⟨id, h⟩
  by_cases h2 : id = i
  ·subst h2; exact ⟨j, by rw [mv_own hij hi hj, if_pos rfl]; exact h⟩
  ·have h1 : id ≠ j := fun e => by rw [e, hjn] at h; cases h
   exact ⟨id, by rw [mv_own hij hi hj, if_neg h1, if_neg h2]; exact h⟩
theorem mv_rle (X : Nat → Prop) : RLe 0 (k.R X) ((k.mv i j).R X) where
 β := fun b hb => by omega
 arr := fun b hb => by omega
 S := fun b h => ⟨h.1, h.2.1, fun hm => h.2.2 ((mv_mut hij hi hj b).1 hm)⟩
 heap := fun _ _ _ => rfl
 map := fun _ _ _ _ h => h
theorem mv_rel {X : Nat → Prop} (hjn : j < k.nid) : ∀ {d : D} {v : Value}, Rel (k.R X) k.nid v d → okM j d = true → Rel ((k.mv i j).R X) k.nid v (mvD i j d) := by
 intro d
 have hg := mvH_get hij k.h hj
 have hdata : ∀ {v : Value} {d : D}, Rel (k.R X) k.nid v d → D.lt 0 d = true → Rel ((k.mv i j).R X) k.nid v d := fun h hl => ((h.roll hl).mono (mv_rle hij hi hj X)).weak (Nat.zero_le _)
 have hβ : ∀ b, b ≠ j → ((k.mv i j).R X).β b = (k.R X).β b := fun b hb => by show (if b = j then k.β i else k.β b) = _; rw [if_neg hb]; rfl
 have hβj : ((k.mv i j).R X).β j = (k.R X).β i := by show (if j = j then k.β i else k.β j) = _; rw [if_pos rfl]; rfl
 suffices H : ∀ {n : Nat} {v : Value} {d : D}, Rel (k.R X) n v d → n = k.nid → okM j d = true → Rel ((k.mv i j).R X) k.nid v (mvD i j d) from fun {v} h => H h rfl
 intro n v d h
 induction h with
 | ptr n b off h1 =>
  intro hn hok; subst hn
  have hb : b ≠ j := by simpa [okM] using hok
  simp only [mvD]
  split
  ·rename_i e; subst e; rw [← hβj]; exact .ptr _ _ _ hjn
  ·rw [← hβ b hb]; exact .ptr _ _ _ h1
 | mp n b h1 =>
  intro hn hok; subst hn
  have hb : b ≠ j := by simpa [okM] using hok
  simp only [mvD]
  split
  ·rename_i e; subst e; rw [← hβj]; exact .mp _ _ hjn
  ·rw [← hβ b hb]; exact .mp _ _ h1
 | osl n b l v h1 h2 =>
  intro hn hok; subst hn
  have hb : b ≠ j := by simpa [okM] using hok
  simp only [mvD]
  split
  ·rename_i e; subst e
   refine .osl _ _ _ _ hjn fun m hm => ?_
   have hm' : (k.R X).ln b = some m := by
    have : lnOf (hget (mvH b j k.h) j) = some m := hm
    rw [hg, if_pos rfl, lnOf_mv] at this; exact this
   obtain ⟨a, c⟩ := h2 m hm'
   refine ⟨a, fun e => ?_⟩
   show v = (if j = j then k.sv b else k.sv j)
   rw [if_pos rfl]; exact c e
  ·rename_i hbi
   refine .osl _ _ _ _ h1 fun m hm => ?_
   have hm' : (k.R X).ln b = some m := by
    have : lnOf (hget (mvH i j k.h) b) = some m := hm
    rw [hg, if_neg hb, if_neg hbi, lnOf_mv] at this; exact this
   obtain ⟨a, c⟩ := h2 m hm'
   refine ⟨a, fun e => ?_⟩
   show v = (if b = j then k.sv i else k.sv b)
   rw [if_neg hb]; exact c e
 | ifc n t v d h1 ih =>
  intro hn hok
  exact .ifc _ t v _ (ih hn hok)
 | any n v => intro hn hok; exact .any _ _
 | int n kk x => intro hn hok; exact .int _ _ _
 | bool n b => intro hn hok; exact .bool _ _
 | str n s => intro hn hok; exact .str _ _
 | nils n => intro hn hok; exact .nils _
 | sln n => intro hn hok; exact .sln _
 | sle n a c => intro hn hok; exact .sle _ _ _
 | nilp n => intro hn hok; exact .nilp _
 | nilf n => intro hn hok; exact .nilf _
 | nili n => intro hn hok; exact .nili _
 | nilm n => intro hn hok; exact .nilm _
 | raw n v => intro hn hok; exact .raw _ _
 | agg n vs ds a b _ => intro hn hok; subst hn; exact hdata (.agg _ _ _ a b) hok
 | tup n vs ds a b _ => intro hn hok; subst hn; exact hdata (.tup _ _ _ a b) hok
 | sl n b off cap es sz vs a1 a2 a3 a4 a5 a6 _ => intro hn hok; subst hn; exact hdata (.sl _ b off cap es sz vs a1 a2 a3 a4 a5 a6) hok
 | ref n b off cs o vs a1 a2 a3 a4 _ => intro hn hok; subst hn; exact hdata (.ref _ b off cs o vs a1 a2 a3 a4) hok
 | eptr n b l sz i off v a1 a2 => intro hn hok; subst hn; exact hdata (.eptr _ b l sz i off v a1 a2) hok
 | fn n f va vc da dc a1 a2 a3 a4 _ _ => intro hn hok; subst hn; exact hdata (.fn _ f va vc da dc a1 a2 a3 a4) hok
 | mpd n b kvs es es' c a1 a2 a3 a4 a5 a6 a7 a8 _ _ => intro hn hok; subst hn; exact hdata (.mpd _ b kvs es es' c a1 a2 a3 a4 a5 a6 a7 a8) hok
 | refm n b off kvs v a1 a2 a3 _ => intro hn hok; subst hn; exact hdata (.refm _ b off kvs v a1 a2 a3) hok
 | bsl n b off l cap sz a1 a2 => intro hn hok; subst hn; exact hdata (.bsl _ b off l cap sz a1 a2) hok
end
theorem okMB_get {j : Nat} : ∀ {h : H}, (h.all fun p => okMB j p.2) = true → ∀ {id : Nat} {b : Blk}, hget h id = some b → okMB j b = true
 | [], _, id, b, hb => by simp [hget] at hb
 | (a, c) :: r, hh, id, b, hb => by
  simp only [List.all_cons, Bool.and_eq_true] at hh
  simp only [hget] at hb
  split at hb
  ·cases hb; exact hh.1
  ·exact okMB_get hh.2 hb
theorem mv_good {X : Nat → Prop} {k : Cx} {i j : Nat} {bi : Blk} (hij : i ≠ j) (hi : hget k.h i = some bi) (hj : hget k.h j = none) (hjn : j < k.nid) (hok : (k.h.all fun p => okMB j p.2) = true) (hg : Good X k) : Good X (k.mv i j) := by
 have hget' := mvH_get hij k.h hj
 have hrel := fun {v d} => mv_rel (X := X) hij hi hj hjn (d := d) (v := v)
 have hr0 := mv_rle (X := X) hij hi hj
 refine ⟨fun id blk hq => ?_, fun a b c ha hb => ?_, fun a b ha => ?_, hg.xlt, fun id blk hq => ?_⟩
 ·have hq' : hget (mvH i j k.h) id = some blk := hq
  rw [hget'] at hq'
  show id < k.nid
  split at hq'
  ·omega
  ·split at hq'
   ·cases hq'
   ·cases e : hget k.h id with
    | none => rw [e] at hq'; cases hq'
    | some b0 => exact hg.key id b0 e
 ·rw [mv_own hij hi hj] at ha hb
  split at ha <;> split at hb
  ·omega
  ·split at hb
   ·cases hb
   ·have := hg.inj i b c ha hb; omega
  ·split at ha
   ·cases ha
   ·have := hg.inj i a c hb ha; omega
  ·split at ha
   ·cases ha
   ·split at hb
    ·cases hb
    ·exact hg.inj a b c ha hb
 ·rw [mv_own hij hi hj] at ha
  split at ha
  ·exact hg.lt i b ha
  ·split at ha
   ·cases ha
   ·exact hg.lt a b ha
 ·have hq' : hget (mvH i j k.h) id = some blk := hq
  rw [hget'] at hq'
  have main : ∀ (id0 : Nat) (b0 : Blk) (id1 : Nat), hget k.h id0 = some b0 → (k.mv i j).sv id1 = k.sv id0 → (k.mv i j).β id1 = k.β id0 → BlkOk X (k.mv i j) id1 (mvB i j b0) := fun id0 b0 id1 e hsv hβ => by
   have h0 := hg.ok id0 b0 e
   have hb := okMB_get hok e
   cases b0 with
   | box cs =>
    obtain ⟨vs, t, a, b⟩ := h0
    refine ⟨vs, t, by rw [hβ]; exact a, by rw [List.length_map]; exact b.1, fun p v d hv hd => ?_⟩
    rw [List.getElem?_map] at hd
    cases hc : cs[p]? with
    | none => rw [hc] at hd; cases hd
    | some c =>
     rw [hc] at hd
     simp only [Option.map_some, Option.some.injEq] at hd
     subst hd
     exact hrel (b.2 p v c hv hc) (List.all_eq_true.1 hb c (List.mem_of_getElem? hc))
   | arr t s es' =>
    obtain ⟨a0, a1⟩ := h0
    refine ⟨a0, ?_⟩
    rcases a1 with ⟨a1, a2⟩ | ⟨b, off, cap, vs, x1, x2, x3, x4, x5⟩
    ·exact .inl ⟨by rw [hsv]; exact a1, a2⟩
    ·exact .inr ⟨b, off, cap, vs, by rw [hsv]; exact x1, x2, x3, x4, fun p e q d v r s t => (x5 p e q d v r s t).mono hr0⟩
   | map kvs =>
    obtain ⟨es1, c, es', x1, x2, x3, x6, x4, x5⟩ := h0
    refine ⟨es1, c, es', by rw [hβ]; exact x1, x2, x3, x6, ⟨x4.1, fun p v d y z => (x4.2 p v d y z).mono hr0⟩, ⟨x5.1, fun p v d y z => ?_⟩⟩
    have hl : D.lt 0 d = true := by
     rw [List.getElem?_map] at z
     cases hc : kvs[p]? with
     | none => rw [hc] at z; cases z
     | some q =>
      rw [hc] at z
      simp only [Option.map_some, Option.some.injEq] at z
      subst z
      exact List.all_eq_true.1 hb q (List.mem_of_getElem? hc)
    exact (((x5.2 p v d y z).roll hl).mono hr0).weak (Nat.zero_le _)
  split at hq'
  ·rename_i e; subst e
   rw [hi] at hq'
   simp only [Option.map_some, Option.some.injEq] at hq'
   subst hq'
   exact main i bi id hi (by show (if id = id then k.sv i else k.sv id) = _; rw [if_pos rfl]) (by show (if id = id then k.β i else k.β id) = _; rw [if_pos rfl])
  ·rename_i h1
   split at hq'
   ·cases hq'
   ·cases e : hget k.h id with
    | none => rw [e] at hq'; cases hq'
    | some b0 =>
     rw [e] at hq'
     simp only [Option.map_some, Option.some.injEq] at hq'
     subst hq'
     exact main id b0 id e (by show (if id = j then k.sv i else k.sv id) = _; rw [if_neg h1]) (by show (if id = j then k.β i else k.β id) = _; rw [if_neg h1])
theorem Imp.move {env : Env} {h : H} {nid n : Nat} (i j : Nat) {bi : Blk} (hij : i ≠ j) (hi : hget h i = some bi) (hj : hget h j = none) (hjn : j < nid) (h0 : n0 ≤ j)
  (hok : (h.all fun p => okMB j p.2) = true) (hoe : (env.all fun p => okM j p.2) = true) : Imp n0 ⟨env, h, nid, n⟩ ⟨env.map fun p => (p.1, mvD i j p.2), mvH i j h, nid, n⟩ := fun X k0 k a hn hat => by
 have hh : k.h = h := hat.h
 have hnid : k.nid = nid := hat.nid
 subst hh; subst hnid
 have hle := hat.le
 refine ⟨k.mv i j, rfl, rfl, rfl, mv_good hij hi hj hjn hok hat.good, ⟨hle.nid, hle.os, hle.tape, hle.output, hle.size, fun id hid => by show (if id = j then k.β i else k.β id) = _; rw [if_neg (by omega)]; exact hle.β id hid, fun id hid m' hm => ?_, fun b hb hm => hle.heap b hb hm, fun b hb hm => hle.mb b hb ((mv_mut hij hi hj b).1 hm)⟩, hat.act.size, fun p => ?_, hat.act.marks⟩
 ·have hm' : lnOf (hget (mvH i j k.h) id) = some m' := hm
  rw [mvH_get hij k.h hj, if_neg (by omega)] at hm'
  split at hm'
  ·cases hm'
  ·rw [lnOf_mv] at hm'
   obtain ⟨m, a1, a2, a3⟩ := hle.arr id hid m' hm'
   exact ⟨m, a1, a2, fun e => by show (if id = j then k.sv i else k.sv id) = _; rw [if_neg (by omega)]; exact a3 e⟩
 ·show Rel _ _ _ (look (env.map fun p => (p.1, mvD i j p.2)) p)
  have hl : ∀ (env : Env), (env.all fun p => okM j p.2) = true → look (env.map fun p => (p.1, mvD i j p.2)) p = mvD i j (look env p) ∧ okM j (look env p) = true := by
   intro env
   induction env with
   | nil => intro _; exact ⟨rfl, rfl⟩
   | cons q r ih =>
    obtain ⟨x, d⟩ := q
    intro hq
    simp only [List.all_cons, Bool.and_eq_true] at hq
    simp only [List.map_cons, look]
    split
    ·exact ⟨rfl, hq.1⟩
    ·exact ih hq.2
  obtain ⟨e1, e2⟩ := hl env hoe
  rw [e1]
  exact mv_rel hij hi hj hjn (hat.act.rel p) e2
theorem imp_move {env e : Env} {h h' : H} {nid nid' n n' : Nat} (i j : Nat) {bi : Blk} (hij : i ≠ j) (hi : hget h i = some bi) (hj : hget h j = none) (hjn : j < nid) (h0 : n0 ≤ j)
  (hok : (h.all fun p => okMB j p.2) = true) (hoe : (env.all fun p => okM j p.2) = true) (hw : Imp n0 ⟨env.map fun p => (p.1, mvD i j p.2), mvH i j h, nid, n⟩ ⟨e, h', nid', n'⟩) : Imp n0 ⟨env, h, nid, n⟩ ⟨e, h', nid', n'⟩ := (Imp.move i j hij hi hj hjn h0 hok hoe).trans hw
theorem cells_mp (h : H) (b : Nat) : cellsE h (.mp b) = some [.mp b] := (rfl)
theorem cells_mpd (h : H) (k : List (D × D)) : cellsE h (.mpd k) = some [.mpd k] := (rfl)
theorem cells_nilm (h : H) : cellsE h .nilm = some [.nilm] := (rfl)
theorem cur_mp (h : H) (b : Nat) : curD h (.mp b) = true := (rfl)
theorem cur_mpd (h : H) (k : List (D × D)) : curD h (.mpd k) = true := (rfl)
theorem cur_nilm (h : H) : curD h .nilm = true := (rfl)
set_option linter.defProp false
def RM := And.intro @cells_mp <| And.intro @cells_mpd <| And.intro @cells_nilm <| And.intro @cur_mp <| And.intro @cur_mpd <| And.intro @cur_nilm <| And.intro @cur_ifc <| And.intro @cells_osl <| And.intro @cur_osl @curC_arr
end Go.Sx

/- Sx: maps from numbers to coded values. Own work. -/
namespace Go.Sx
variable {P : Program} {β : Type}
abbrev MpG (β : Type) := List (Int × β)
def gkv (vd : β → D) (m : MpG β) : List (D × D) := m.map fun p => (.int .i64 p.1, vd p.2)
section
variable {t kt et : TypeId} (hu : P.underlying t = some (.map kt et)) (hk : P.underlying kt = some (.int .i64))
include hk in
include hk in
include hu hk
end
end Go.Sx

/- Sx: ranges over iterators that range over iterators. Own work. -/
namespace Go.Sx

def KpX (S0 : Nat → Prop) (B B' : Nat) (W W' : World) : Prop := KpS S0 W W' ∧ KeepsFrom B W W' ∧ ∀ b, B ≤ b → b < B' → W'.heap[b]? = W.heap[b]?
def SeqX {α : Type} (P : Program) (gf : FuncId) (caps : List D) (encs : α → Array Value) (Sd Sp : List α → Prop) (N : Nat) : Prop :=
 ∀ (S0 : Nat → Prop) (w : World) (vc : List Value), (∀ b, S0 b → b < w.heap.size) → RelL (RXS S0 w) 0 vc caps →
 ∀ (l : Nat) (J0 : World → Prop) (J : Nat → List α → World → Prop) (Jx : List α → World → Prop), OwnFrom w.heap.size (fun (_ : Unit) W => J0 W) → (∀ B', OwnFrom w.heap.size (J B')) → OwnFrom w.heap.size Jx →
  (∀ W, J0 W → J W.heap.size [] W) →
  (∀ B' pre x W1, J B' pre W1 → pre.length < N → YieldAt (FW none) 0 P l (encs x) W1 fun e W' =>
   (e = .returned (.bool true) ∧ J B' (pre ++ [x]) W' ∧ KpX S0 w.heap.size B' W1 W') ∨ (e = .returned (.bool false) ∧ Jx (pre ++ [x]) W' ∧ KeepsFrom w.heap.size W1 W')) →
  J0 w → CallsIn (FW none) 0 P gf (#[.func (.yield l) #[] #[]] ++ vc.toArray) w fun e W' => (∃ v, e = .returned v) ∧ ((∃ xs B', Sd xs ∧ J B' xs W') ∨ (∃ pre, Sp pre ∧ Jx pre W'))
section
variable {P : Program} {O : Oracle} {n0 : Nat}
theorem awp_rangeX {α : Type} {g : Operand} {ps : Array Tmp} {asg body : Code} {s : St} {Q : Ex → St → Prop} {gf : FuncId} {caps : List D} {encs : α → Array Value} {ds : α → List D} {N : Nat} {Sd Sp : List α → Prop}
  (hm : P.follows .mixedOrders = true) (T : List (Nat × List Ann)) (hta : tabOk T asg = true) (ht : tabOk T body = true) (hO : OkO P O)
  (hg : evO s.env g = .fn (.func gf) [] caps) (hcl : D.ltL 0 caps = true) (hcal : callable P gf = true) (hseq : SeqX P gf caps encs Sd Sp N) (hps : ∀ x, (encs x).size = ps.size)
  (henc : ∀ (R : Rx) (n : Nat) x, RelL R n (encs x).toList (ds x))
  (hh : List α → H) (m : Nat) (I : List α → Prop) (h0 : I []) (hw : Weak n0 s ⟨s.env, hh [], m, s.n⟩) (hnm : ∀ xs, mapsIn (hh []) (hh xs) = true)
  (round : ∀ l pre x, I pre → pre.length < N → AWp P m (some l) asg ⟨parEnv s.n ps.toList (ds x) s.env, hh pre, m, s.n⟩ (thenQ (fun s1 => AWp P m (some l) body s1 fun e s' =>
   match e with
   | .normal => I (pre ++ [x]) ∧ headW m ⟨s.env, s'.h, s'.nid, s.n⟩ s.env (hh (pre ++ [x])) m s.n
   | e => mapsIn (hh []) s'.h = true ∧ (Sp (pre ++ [x]) → Q e ⟨s.env, s'.h, s'.nid, s.n⟩)) fun _ _ => False))
  (hdone : ∀ xs, Sd xs → I xs → Q .normal ⟨s.env, hh xs, m, s.n⟩) : AWp P n0 none (.rangeFunc g ps asg body) s Q := by
 intro X k0 k a hn hat
 obtain ⟨k1, hk1, hat1⟩ := hat.weak hn hw
 rw [← hk1]
 obtain ⟨ms, hd, hnd, hms⟩ := hat.act.marks
 have hB : k0.w.heap.size ≤ k1.w.heap.size := hat1.le.size
 have hmk : ∀ r, markD r ∈ a.defers → r < k1.w.heap.size := fun r hr => by
  rw [hd] at hr
  obtain ⟨q, hq, he⟩ := List.mem_map.1 hr
  have : q = r := by simpa [markD] using he
  subst this
  rcases Nat.lt_or_ge q k1.w.heap.size with h | h
  ·exact h
  ·have := (hms q hq).2; rw [← hk1, Array.getElem?_eq_none h] at this; cases this
 obtain ⟨vc, hev, hvc⟩ : ∃ vc : List Value, a.eval g = .func (.func gf) #[] vc.toArray ∧ RelL (k1.R X) k1.nid vc caps := by
  have hr := hat1.act.eval g
  rw [show evO s.env g = _ from hg] at hr
  generalize a.eval g = v at hr
  cases hr with
  | fn _ _ va vc _ _ h1 h2 h3 h4 =>
   have e1 : va = [] := by simpa using h1
   subst e1
   exact ⟨vc, rfl, h2, h4⟩
 have hS : ∀ b, (k1.R X).S b → b < k1.w.heap.size := fun b h => h.1
 have hvc0 : RelL (RXS (k1.R X).S k1.w) 0 vc caps := ⟨hvc.1, fun i v d x y => by
  have h1 := (hvc.2 i v d x y).roll (m := 0) (D.ltL_get hcl i d y)
  exact h1.mono { β := fun b hb => by omega, arr := fun b hb => by omega, S := fun b h => rs_S.2 ⟨h.1, h⟩, heap := fun _ _ _ => rfl, map := fun _ _ _ _ h => h }⟩
 have hnid1 : k1.nid = m := hat1.nid
 have hmaps : ∀ (k : Cx) (h' : H), mapsIn (hh []) h' = true → k.h = h' → Le k1 k → ∀ id kvs, hget k.h id = some (.map kvs) → k.β id < k1.w.heap.size := fun k h' hb he hf id kvs hid => by
  obtain ⟨kvs', h1⟩ := mapsIn_get hb (he ▸ hid)
  have h2 : hget k1.h id = some (.map kvs') := by rw [show k1.h = _ from hat1.h]; exact h1
  rw [hf.β id (hat1.good.key id _ h2)]
  exact (hat1.good.lt id _ (by rw [own_of_hget h2]; rfl)).1
 obtain ⟨D, hD⟩ : ∃ D, D = k1.w.heap.size := ⟨_, rfl⟩
 refine wpIn_n (n := 1) (wpIn_rangeFunc fun fn hfn => ?_)
 obtain ⟨rec, hrec⟩ : ∃ rec : LoopState → Option Code → Loop, rec = fun st pe => { state := st, pending := pe, fn, tmps := a.tmps, params := ps, assign := asg, body, defers := k1.w.heap.size } := ⟨_, rfl⟩
 obtain ⟨W1, hW1⟩ : ∃ W1, (k1.w.alloc (.deferred (some []))).alloc (.loop (rec .ready none)) = W1 := ⟨_, rfl⟩
 have hsz1 : W1.heap.size = D + 2 := by rw [← hW1, hD]; simp
 have hL1 : W1.heap[D + 1]? = some (.loop (rec .ready none)) := by
  rw [← hW1, hD]; have := World.alloc_heap_new (k1.w.alloc (.deferred (some []))) (.loop (rec .ready none)); rwa [World.size_alloc] at this
 have hK1 : W1.heap[D]? = some (.deferred (some [])) := by
  rw [← hW1, hD]; exact (alloc_heap _ _ _ (by simp)).trans (alloc_heap_new k1.w _)
 -- what is kept of the caller's memory
 have grow : ∀ (pre : List α) (k : Cx) (W' : World) (row : Option Nat), At X k0 k a ⟨s.env, hh pre, m, s.n⟩ → Le k1 k → k.w.grownBy W' row → (∀ r, row = some r → k1.w.heap.size ≤ r ∧ ∃ o : Obj, k.w.heap[r]? = some o ∧ o.isCells = false) →
   At X k0 { k with w := W' } a ⟨s.env, hh pre, m, s.n⟩ ∧ Le k1 { k with w := W' } := fun pre k W' row ha hf hgr hrow =>
  ⟨hat1.grownM rfl hf ha hgr hrow (mapsIn_nm (hnm pre)) (hmaps k _ (hnm pre) ha.h hf) hmk, le_grown hf hgr fun r h => (hrow r h).1⟩
 have growX : ∀ (h' : H) (nid' : Nat) (k : Cx) (W' : World) (row : Option Nat), mapsIn (hh []) h' = true → At X k0 k a ⟨s.env, h', nid', s.n⟩ → Le k1 k → k.w.grownBy W' row → (∀ r, row = some r → k1.w.heap.size ≤ r ∧ ∃ o : Obj, k.w.heap[r]? = some o ∧ o.isCells = false) →
   At X k0 { k with w := W' } a ⟨s.env, h', nid', s.n⟩ ∧ Le k1 { k with w := W' } := fun h' nid' k W' row hb ha hf hgr hrow =>
  ⟨hat1.grownM rfl hf ha hgr hrow (mapsIn_nm hb) (hmaps k _ hb ha.h hf) hmk, le_grown hf hgr fun r h => (hrow r h).1⟩
 have hne : ∀ {A B : World} {row : Option Nat} {b : Nat} {o : Obj}, A.grownBy B row → (∀ r, row = some r → W1.heap.size ≤ r ∧ ∃ o : Obj, A.heap[r]? = some o ∧ o.isCells = false) → b < D + 2 → A.heap[b]? = some o → B.heap[b]? = some o := fun hgr hr hb h =>
  (hgr.block _ (Array.getElem?_eq_some_iff.1 h).1 fun e => by
   have := (hr _ e.symm).1
   omega).trans h
 have hrowW : ∀ {A : World} {row : Option Nat}, (∀ r, row = some r → W1.heap.size ≤ r ∧ ∃ o : Obj, A.heap[r]? = some o ∧ o.isCells = false) → ∀ r, row = some r → k1.w.heap.size ≤ r ∧ ∃ o : Obj, A.heap[r]? = some o ∧ o.isCells = false := fun hr r e => by
  obtain ⟨h1, o, h2, h3⟩ := hr r e
  exact ⟨by omega, o, h2, h3⟩
 have hmarkD : ∀ (W : World) (k' : Cx) (s' : St), k'.w = W → At X k0 k' a s' → W.heap[D]? = some (.deferred (some [])) → At X k0 k' { a with defers := { target := .collected D, args := #[] } :: a.defers } s' := fun W k' s' hW hat' hdef => by
  refine ⟨hat'.h, hat'.nid, hat'.good, hat'.le, hat'.act.size, hat'.act.rel, ?_⟩
  obtain ⟨ms', hd', hnd', hms'⟩ := hat'.act.marks
  refine ⟨D :: ms', by show _ :: a.defers = _; rw [show a.defers = _ from hd']; rfl, List.nodup_cons.2 ⟨fun hD' => ?_, hnd'⟩, fun r hr => ?_⟩
  ·have := hmk D (by rw [show a.defers = _ from hd']; exact List.mem_map_of_mem hD'); omega
  ·rcases List.mem_cons.1 hr with rfl | hr
   ·exact ⟨by omega, by rw [hW]; exact hdef⟩
   ·exact hms' r hr
 refine ⟨D + 1, [{ target := .collected D, args := #[] }], W1, { target := .fn (.func gf) vc.toArray, args := #[.func (.yield (D + 1)) #[] #[]] }, W1, gf, #[.func (.yield (D + 1)) #[] #[]] ++ vc.toArray, W1, ?_, ?_, fun _ _ => trivial, ?_, fun h => by simp [FW, Fence.wide] at h, ?_⟩
 ·rw [← hW1, hrec, hD]; exact run_enterLoop_outer _ _ _ _ _
 ·simp only [resolve, hev]
  simp [go_sem]
 ·simp [invoke, go_sem, run_callFunc hcal]
 have hbel : RowKit.Below k1.w.heap.size k1.w W1 := by
  rw [← hW1]; exact ((RowKit.Below.refl _ k1.w).alloc (Nat.le_refl _) _).alloc (by simp) _
 have hmut1 : ∀ b, k1.Mut b → b < k1.w.heap.size := fun b ⟨id, h⟩ => (hat1.good.lt id b h).1
 have hstart : ∃ k, k.w = W1 ∧ At X k0 k a ⟨s.env, hh [], m, s.n⟩ ∧ Le k1 k ∧ ∀ b, k.Mut b → b < D + 2 := by
  obtain ⟨a1, b1⟩ := grow [] k1 _ none hat1 (.refl k1) (World.grownBy_alloc k1.w (.deferred (some [])) none) fun r e => by cases e
  obtain ⟨a2, b2⟩ := grow [] _ _ none a1 b1 (World.grownBy_alloc (k1.w.alloc (.deferred (some []))) (.loop (rec .ready none)) none) fun r e => by cases e
  exact ⟨_, hW1, a2, b2, fun b hb => by have := hmut1 b hb; omega⟩
 have hvc1 : RelL (RXS (k1.R X).S W1) 0 vc caps := ⟨hvc0.1, fun i v d x y => (hvc0.2 i v d x y).mono (rs_mono (fun b hb => hbel.block b (hS b hb)) hbel.size)⟩
 refine (hseq (k1.R X).S W1 vc (fun b hb => Nat.lt_of_lt_of_le (hS b hb) hbel.size) hvc1 (D + 1)
  (fun W => (∃ k, k.w = W ∧ At X k0 k a ⟨s.env, hh [], m, s.n⟩ ∧ Le k1 k ∧ ∀ b, k.Mut b → b < D + 2) ∧ W.heap[D + 1]? = some (.loop (rec .ready none)) ∧ W.heap[D]? = some (.deferred (some [])))
  (fun B' pre W => (∃ k, k.w = W ∧ I pre ∧ At X k0 k a ⟨s.env, hh pre, m, s.n⟩ ∧ Le k1 k ∧ (∀ b, D + 2 ≤ b → b < B' → ¬ k.Mut b) ∧ B' ≤ W.heap.size) ∧ W.heap[D + 1]? = some (.loop (rec .ready none)) ∧ W.heap[D]? = some (.deferred (some [])))
  (fun pre W => ∃ e, (∃ k h' nid', k.w = W ∧ e ≠ .normal ∧ mapsIn (hh []) h' = true ∧ (Sp pre → Q e ⟨s.env, h', nid', s.n⟩) ∧ At X k0 k a ⟨s.env, h', nid', s.n⟩ ∧ Le k1 k) ∧ W.heap[D + 1]? = some (.loop (rec .done (some (codeOf e)))) ∧ W.heap[D]? = some (.deferred (some [])))
  ?_ ?_ ?_ ?_ ?_ ⟨hstart, hL1, hK1⟩).mono ?_
 ·rintro _ A B row ⟨⟨k, rfl, ha, hf, hmu⟩, h1, h2⟩ hgr hr
  obtain ⟨a1, b1⟩ := grow [] k B row ha hf hgr (hrowW hr)
  exact ⟨⟨_, rfl, a1, b1, hmu⟩, hne hgr hr (by omega) h1, hne hgr hr (by omega) h2⟩
 ·rintro B' pre A B row ⟨⟨k, rfl, hi, ha, hf, hmu, hB'⟩, h1, h2⟩ hgr hr
  obtain ⟨a1, b1⟩ := grow pre k B row ha hf hgr (hrowW hr)
  exact ⟨⟨_, rfl, hi, a1, b1, hmu, Nat.le_trans hB' hgr.size⟩, hne hgr hr (by omega) h1, hne hgr hr (by omega) h2⟩
 ·rintro pre A B row ⟨e, ⟨k, h', nid', rfl, he, hb, hq, ha, hf⟩, h1, h2⟩ hgr hr
  obtain ⟨a1, b1⟩ := growX h' nid' k B row hb ha hf hgr (hrowW hr)
  exact ⟨e, ⟨_, h', nid', rfl, he, hb, hq, a1, b1⟩, hne hgr hr (by omega) h1, hne hgr hr (by omega) h2⟩
 ·rintro W ⟨⟨k, rfl, ha, hf, hmu⟩, h1, h2⟩
  exact ⟨⟨k, rfl, h0, ha, hf, fun b hb _ hm => by have := hmu b hm; omega, Nat.le_refl _⟩, h1, h2⟩
 ·-- one round
  rintro B' pre x W ⟨⟨k, rfl, hi, ha, hf, hmu, hB'⟩, hl, hdf⟩ hlen
  have hkm : k.nid = m := ha.nid
  have hDk : D + 1 < k.w.heap.size := (Array.getElem?_eq_some_iff.1 hl).1
  have hnoM : ∀ b, k1.w.heap.size ≤ b → ∀ (o : Obj), k.w.heap[b]? = some o → o.isCells = false → ¬ k.Mut b := fun b hbB o hb ho ⟨id, hid⟩ => by
   rcases own_kind ha.good hid with ⟨c, t, f, hc⟩ | ⟨kvs, hmp, rfl⟩
   ·rw [hc] at hb; cases hb; cases ho
   ·have := hmaps k _ (hnm pre) ha.h hf id kvs hmp; omega
  have hy := run_yield (P := P) (args := encs x) hl (by rw [hrec]; exact hps x)
  have hfold : ((rec .ready none).params.zip (encs x)).foldl (fun t (p, v) => t.setIfInBounds p v) (rec .ready none).tmps = parAct ps.toList (encs x).toList a.tmps := by
   rw [hrec, parAct, ← Array.toList_zip, Array.foldl_toList]
  rw [hfold, show (rec .ready none).fn = fn by rw [hrec], show (rec .ready none).assign = asg by rw [hrec], show (rec .ready none).body = body by rw [hrec]] at hy
  refine ⟨fn, _, asg, body, hy, roundIn_of_wpIn hfn ?_⟩
  have hact0 : ActOk X k k.w.heap.size { tmps := a.tmps, defers := [] } s.env s.n := ⟨ha.act.size, ha.act.rel, [], rfl, List.nodup_nil, by simp⟩
  have hact1 := par_act ps.toList (encs x).toList (ds x) _ _ s.n (henc _ _ x) hact0
  have hatb : At X k k { tmps := parAct ps.toList (encs x).toList a.tmps, defers := [] } ⟨parEnv s.n ps.toList (ds x) s.env, hh pre, m, s.n⟩ := ⟨ha.h, ha.nid, ha.good, .refl k, hact1⟩
  refine wpIn_mono (wpIn_n (round (D + 1) pre x hi hlen X k k _ hkm hatb)) ?_
  rintro e a1 W' ⟨ex, ka, s1, hex, rfl, hq, hata⟩
  have hnorm : ex = .normal := by cases ex <;> first | rfl | exact hq.elim
  subst hnorm
  have he : e = .normal := by cases e <;> simp [exOf] at hex <;> rfl
  subst he
  have hla : ka.w.heap[D + 1]? = some (.loop (rec .ready none)) := (hata.le.heap _ hDk (hnoM _ (by omega) _ hl rfl)).trans hl
  have hda : ka.w.heap[D]? = some (.deferred (some [])) := (hata.le.heap _ (by omega) (hnoM _ (by omega) _ hdf rfl)).trans hdf
  show ∃ w₂, _ ∧ _
  refine ⟨_, run_beginRound hla (by rw [hrec]), ?_⟩
  obtain ⟨rb, hrb⟩ : ∃ rb : Loop, rb = { rec .ready none with state := .busy } := ⟨_, rfl⟩
  rw [← hrb]
  have hatc : At X (k.putO (D + 1) rb) (ka.putO (D + 1) rb) a1 s1 := putO_at rb hDk hla hata
  -- the caller, with the record turned
  obtain ⟨hap, hfp⟩ := grow pre k (k.w.putObj (D + 1) (.loop rb)) (some (D + 1)) ha hf (grownBy_putObj' _ _ _) fun r h => by cases h; exact ⟨by omega, _, hl, rfl⟩
  refine wpIn_mono (wpIn_n (hq X (k.putO (D + 1) rb) (ka.putO (D + 1) rb) a1 hkm hatc)) ?_
  rintro e a3 W3 ⟨ex, k3, s3, hex3, rfl, hq3, hat3⟩
  have hkp0 : (k.putO (D + 1) rb).w.heap.size = k.w.heap.size := putO_size _ _ _
  have hl3 : k3.w.heap[D + 1]? = some (.loop rb) := (hat3.le.heap _ (by rw [hkp0]; exact hDk) (hnoM _ (by omega) _ hl rfl)).trans (putO_heap_l k rb hDk)
  have hd3 : k3.w.heap[D]? = some (.deferred (some [])) := (hat3.le.heap _ (by rw [hkp0]; omega) (hnoM _ (by omega) _ hdf rfl)).trans ((putO_heap k rb (by omega)).trans hdf)
  have hback : At X k0 k3 a ⟨s.env, s3.h, s3.nid, s.n⟩ := ⟨hat3.h, hat3.nid, hat3.good, hap.le.trans hat3.le, hap.act.le hap.good hat3.le⟩
  have hfol : Le k1 k3 := hfp.trans hat3.le
  have hD3 : D + 1 < k3.w.heap.size := (Array.getElem?_eq_some_iff.1 hl3).1
  have hend := fun jump => run_endRound (P := P) jump hl3
  have hrn : { rb with state := LoopState.ready, pending := none } = rec .ready none := by rw [hrb, hrec]
  have hrd : ∀ c, { rb with state := LoopState.done, pending := some c } = rec .done (some c) := fun c => by rw [hrb, hrec]
  have hkp : ∀ o, KpS (k1.R X).S k.w (k3.w.putObj (D + 1) (.loop o)) := fun o => ⟨by
   have := hat3.le.size; rw [hkp0] at this; simpa using this, fun b hb => by
   have hbD : b ≠ D + 1 := by have := hS b hb; omega
   have hbl : b < k.w.heap.size := Nat.lt_of_lt_of_le (hS b hb) hf.size
   have hnm : ¬ k.Mut b := fun hmu => hb.2.2 (hf.mb b (hS b hb) hmu)
   exact (World.putObj_heap_other hbD).trans ((hat3.le.heap b (by rw [hkp0]; exact hbl) hnm).trans (putO_heap k rb hbD))⟩
  have hkf : ∀ o, KeepsFrom W1.heap.size k.w (k3.w.putObj (D + 1) (.loop o)) := fun o => ⟨(hkp o).1, fun b ob hb h ho => by
   have hbl : b < k.w.heap.size := (Array.getElem?_eq_some_iff.1 h).1
   exact ((World.putObj_heap_other (by omega)).trans ((hat3.le.heap b (by rw [hkp0]; exact hbl) (hnoM b (by omega) ob h ho)).trans (putO_heap k rb (by omega)))).trans h⟩
  have hkx : ∀ o, KpX (k1.R X).S W1.heap.size B' k.w (k3.w.putObj (D + 1) (.loop o)) := fun o => ⟨hkp o, hkf o, fun b h1 h2 =>
   (World.putObj_heap_other (by omega)).trans ((hat3.le.heap b (by rw [hkp0]; omega) (hmu b (by omega) h2)).trans (putO_heap k rb (by omega)))⟩
  have hother : ∀ o, (k3.w.putObj (D + 1) (.loop o)).heap[D]? = some (.deferred (some [])) := fun o => (World.putObj_heap_other (by omega)).trans hd3
  have hlast : ∀ o, (k3.w.putObj (D + 1) (.loop o)).heap[D + 1]? = some (.loop o) := fun o => World.putObj_heap_same hD3
  have hexit : ∀ (x' : Ex), x' ≠ .normal → mapsIn (hh []) s3.h = true ∧ (Sp (pre ++ [x]) → Q x' ⟨s.env, s3.h, s3.nid, s.n⟩) →
    (∃ k h' nid', k.w = k3.w.putObj (D + 1) (.loop (rec .done (some (codeOf x')))) ∧ x' ≠ .normal ∧ mapsIn (hh []) h' = true ∧ (Sp (pre ++ [x]) → Q x' ⟨s.env, h', nid', s.n⟩) ∧ At X k0 k a ⟨s.env, h', nid', s.n⟩ ∧ Le k1 k) := fun x' hx' hq' => by
   obtain ⟨a4, b4⟩ := growX s3.h s3.nid k3 (k3.w.putObj (D + 1) (.loop (rec .done (some (codeOf x'))))) (some (D + 1)) hq'.1 hback hfol (grownBy_putObj' _ _ _) fun r h => by cases h; exact ⟨by omega, _, hl3, rfl⟩
   exact ⟨_, s3.h, s3.nid, rfl, hx', hq'.1, hq'.2, a4, b4⟩
  cases ex with
  | normal =>
   have he : e = .normal := by cases e <;> simp [exOf] at hex3 <;> rfl
   subst he
   obtain ⟨hi', hwk⟩ := hq3
   obtain ⟨k4, hk4, hat4, hl4⟩ := At.weakG hback hn (weak_of (n0 := n0) ⟨hwk.1, hw.nid, hwk.2.2.1, hwk.2.2.2⟩)
   obtain ⟨a5, b5⟩ := grow (pre ++ [x]) k4 (k3.w.putObj (D + 1) (.loop (rec .ready none))) (some (D + 1)) hat4 (hl4 k1 hfol (Nat.le_of_eq hat1.nid)) (by rw [hk4]; exact grownBy_putObj' _ _ _) fun r h => by cases h; exact ⟨by omega, _, by rw [hk4]; exact hl3, rfl⟩
   have h1 := hend none
   simp only [Option.isNone_none, if_true] at h1
   rw [hrn] at h1
   have hle4 := (hl4 (k.putO (D + 1) rb) hat3.le (Nat.le_of_eq hkm)).mb
   have hmu4 : ∀ b, D + 2 ≤ b → b < B' → ¬ k4.Mut b := fun b h1 h2 h3 => hmu b h1 h2 (hle4 b (by rw [hkp0]; omega) h3)
   exact ⟨_, _, h1, .inl ⟨rfl, ⟨⟨_, rfl, hi', a5, b5, hmu4, Nat.le_trans hB' (hkp (rec .ready none)).1⟩, hlast _, hother _⟩, hkx _⟩⟩
  | ret =>
   have he : e = .ret := by cases e <;> simp [exOf] at hex3 <;> rfl
   subst he
   have h1 := hend (some .ret)
   simp only [Option.isNone_some, Bool.false_eq_true, if_false] at h1
   rw [hrd] at h1
   exact ⟨_, _, h1, .inr ⟨rfl, ⟨.ret, hexit .ret (by simp) hq3, hlast _, hother _⟩, hkf _⟩⟩
  | exit i =>
   have he : e = .exit i := by cases e <;> simp [exOf] at hex3 <;> rw [hex3]
   subst he
   have h1 := hend (some (.exit i))
   simp only [Option.isNone_some, Bool.false_eq_true, if_false] at h1
   rw [hrd] at h1
   exact ⟨_, _, h1, .inr ⟨rfl, ⟨.exit i, hexit (.exit i) (by simp) hq3, hlast _, hother _⟩, hkf _⟩⟩
 ·-- behind the iterator
  rintro e W2 ⟨⟨v, rfl⟩, ⟨xs, B', hxs, ⟨k, rfl, hi, ha, hf, _, _⟩, hl, hdf⟩ | ⟨pre, hpre, e, ⟨k, h', nid', rfl, he, hb, hq, ha, hf⟩, hl, hdf⟩⟩
  ·obtain ⟨a1, b1⟩ := grow xs k (k.w.putObj (D + 1) (.loop { rec .ready none with state := .exhausted })) (some (D + 1)) ha hf (grownBy_putObj' _ _ _) fun r h => by cases h; exact ⟨by omega, _, hl, rfl⟩
   refine ⟨none, _, (run_endLoop (P := P) hl (by rw [hrec]; simp)).trans (congrArg (fun p => Result.ok p _) (show (rec .ready none).pending = none by rw [hrec])), ?_⟩
   exact ⟨.normal, _, _, rfl, rfl, hdone xs hxs hi, hmarkD _ _ _ rfl a1 ((World.putObj_heap_other (by omega)).trans hdf)⟩
  ·obtain ⟨a1, b1⟩ := growX h' nid' k (k.w.putObj (D + 1) (.loop { rec .done (some (codeOf e)) with state := .exhausted })) (some (D + 1)) hb ha hf (grownBy_putObj' _ _ _) fun r h => by cases h; exact ⟨by omega, _, hl, rfl⟩
   refine ⟨some (codeOf e), _, (run_endLoop (P := P) hl (by rw [hrec]; simp)).trans (congrArg (fun p => Result.ok p _) (show (rec .done (some (codeOf e))).pending = some (codeOf e) by rw [hrec])), ?_⟩
   have hfin := hmarkD _ _ _ rfl a1 ((World.putObj_heap_other (by omega)).trans hdf)
   cases e with
   | normal => exact absurd rfl he
   | ret => exact wpIn_ret ⟨.ret, _, _, rfl, rfl, hq hpre, hfin⟩
   | exit i => exact wpIn_exit ⟨.exit i, _, _, rfl, rfl, hq hpre, hfin⟩
theorem rangeX {α : Type} {g : Operand} {ps : Array Tmp} {asg body : Code} {env : Env} {h : H} {nid n : Nat} {Q : Ex → St → Prop} {u : Tag (Code.rangeFunc g ps asg body, Q)} {gf : FuncId} {caps : List D} {encs : α → Array Value} {ds : α → List D} {N : Nat} {Sd Sp : List α → Prop}
  (hO : OkO P O) (T : List (Nat × List Ann)) (hm : P.follows .mixedOrders = true) (hta : tabOk T asg = true) (ht : tabOk T body = true) (hseq : SeqX P gf caps encs Sd Sp N) (hcal : callable P gf = true)
  (hps : ∀ x, (encs x).size = ps.size) (henc : ∀ (R : Rx) (n : Nat) x, RelL R n (encs x).toList (ds x)) (hcl : D.ltL 0 caps = true)
  (E : Env) (hh : List α → H) (m : Nat) (I : List α → Prop) (h0 : I []) (hg : evO E g = .fn (.func gf) [] caps) (hnm : ∀ xs, mapsIn (hh []) (hh xs) = true) (hw : headW n0 ⟨env, h, nid, n⟩ E (hh []) m n)
  (round : ∀ l pre x, I pre → pre.length < N → wc P m (some l) T O asg ⟨parEnv n ps.toList (ds x) E, hh pre, m, n⟩
   (thenQ (fun s1 => wc P m (some l) T O body s1 (thenQ (fun s' => I (pre ++ [x]) ∧ headW m ⟨E, s'.h, s'.nid, n⟩ E (hh (pre ++ [x])) m n) fun e s' => mapsIn (hh []) s'.h = true ∧ (Sp (pre ++ [x]) → Q e ⟨E, s'.h, s'.nid, n⟩))) fun _ _ => False))
  (hdone : ∀ xs, Sd xs → I xs → Q .normal ⟨E, hh xs, m, n⟩) : LoopV P n0 none (.rangeFunc g ps asg body) ⟨env, h, nid, n⟩ Q u := by
 refine awp_weak (weak_of hw) (awp_rangeX (s := ⟨E, hh [], m, n⟩) hm T hta ht hO hg hcl hcal hseq hps henc hh m I h0 ?_ hnm (fun l pre x hi hl => ?_) hdone)
 ·have hk := weak_of hw
  exact ⟨rfl, fun i => .inr ⟨rfl, .inl (Nat.le_refl _)⟩, fun _ _ h => h, hk.key, hk.nid, .inl (Nat.le_refl _)⟩
 ·refine awp_mono (wc_sound hO hm asg _ _ hta (round l pre x hi hl)) fun e s1 h1 => ?_
  cases e with
  | normal =>
   refine awp_mono (wc_sound hO hm body _ _ ht h1) fun e s' h' => ?_
   cases e <;> exact h'
  | _ => exact h1
end

section
variable {F : Fence} {n : Nat} {P : Program} {ops : Array Oper} {Q : Exit → Act → World → Prop}
def appQ (Q : Exit → Act → World → Prop) (R : Act → World → Prop) : Exit → Act → World → Prop
 | .normal, a, w => R a w
 | e, a, w => Q e a w
theorem oper_app {o : Oper} {a : Act} {w : World} {R : Act → World → Prop} {K K' : Act → World → Prop} (h : ∀ a w, K a w → K' a w) (hh : o.wpIn F n P a w K (appQ Q R)) : o.wpIn F n P a w K' Q := by
 refine ⟨hh.1, ?_⟩
 have h2 := hh.2
 generalize (o.semAt F.round a.eval).run P w = r at *
 cases r with
 | ok x w' =>
  cases x <;> simp only [Oper.uponIn] at h2 ⊢ <;>
   first
    | exact h _ _ h2
    | exact ⟨h2.1, CallsIn.mono h2.2 (fun e w'' he => by cases e <;> first | exact h _ _ he | exact he)⟩
    | exact ⟨h2.1, RowsIn.mono h2.2 (fun _ _ he => h _ _ he)⟩
    | exact ⟨h2.1, RoundIn.mono h2.2 (fun e w'' he => by cases e <;> first | exact h _ _ he | exact he)⟩
 | halt x w' => cases x <;> simp only [Oper.uponIn] at h2 ⊢ <;> exact h2
theorem ops_app (l2 : List Nat) : ∀ (l1 : List Nat) (a : Act) (w : World), wpOpsIn F n P ops (appQ Q (wpOpsIn F n P ops Q l2)) l1 a w → wpOpsIn F n P ops Q (l1 ++ l2) a w
 | [], a, w, h => h
 | i :: r, a, w, h => by
  rw [List.cons_append, wpOpsIn_cons]
  rw [wpOpsIn_cons] at h
  unfold wpOpIn at *
  split
  ·rename_i ho
   rw [ho] at h
   exact ops_app l2 r a w h
  ·rename_i o ho
   rw [ho] at h
   simp only at h
   split
   ·rename_i hw
    rw [if_pos hw] at h
    exact oper_app (ops_app l2 r) h
   ·rename_i hw
    rw [if_neg hw] at h
    exact ⟨h.1, ops_app l2 r _ _ h.2⟩
end
section
variable {P : Program} {O : Oracle} {n0 : Nat} {ro : Option Nat} {ops : Array Oper}
theorem wcOps_pre (hO : OkO P O) : ∀ (l : List Oper) (i : Nat) (s : St) (K : St → Prop), (∀ j, j < l.length → l[j]? = ops[i + j]?) → wcOps P O ops l s K → AOps P n0 ro ops ((List.range l.length).map (i + ·)) s K
 | [], i, s, K, _, h => aops_nil h
 | o :: rest, i, s, K, hl, h => by
  have ho : ops[i]? = some o := by have := hl 0 (by simp); simpa using this.symm
  have hrest : ∀ j, j < rest.length → rest[j]? = ops[i + 1 + j]? := fun j hj => by have := hl (j + 1) (by simpa using hj); simp at this; rw [this]; congr 1; omega
  have hmap : (List.range (o :: rest).length).map (i + ·) = i :: (List.range rest.length).map (i + 1 + ·) := by
   rw [List.length_cons, List.range_succ_eq_map, List.map_cons, List.map_map]
   simp only [Nat.add_zero, List.cons.injEq, true_and]
   apply List.map_congr_left
   intro a _
   simp only [Function.comp]; omega
  rw [hmap]
  simp only [wcOps] at h
  split at h
  ·rename_i hg
   exact aops_cons ho hg (opOk_resK hO (s := s) h fun d h' nid' hk => wcOps_pre hO rest (i + 1) _ K hrest hk)
  ·rename_i j want hg
   split at h
   ·rename_i t hj
    split at h
    ·rename_i b hb
     refine aops_guard ho hg hj hb (fun e => ?_) (fun e => ?_)
     ·exact opOk_resK hO (s := { s with env := (t, .bool want) :: s.env }) (h.1 (by subst e; simp)) fun d h' nid' hk => wcOps_pre hO rest (i + 1) _ K hrest hk
     ·exact wcOps_pre hO rest (i + 1) _ K hrest (h.2 (by subst e; cases want <;> rfl))
    ·rename_i hb
     exact aops_off ho hg hj hb (wcOps_pre hO rest (i + 1) _ K hrest h)
    ·exact h.elim
   ·exact h.elim

theorem grown_of {S0 : Nat → Prop} {W : World} {k : Cx} {a : Act} {s : St} (hat : At (NS S0 W) (K0 W) k a s) : W.grownBy k.w none :=
 ⟨hat.le.os, hat.le.tape, hat.le.output, hat.le.size, fun b hb _ => hat.le.heap b hb (k0_mut W b)⟩
theorem keeps_grown {B : Nat} {W W' : World} (h : W.grownBy W' none) : KeepsFrom B W W' := KeepsFrom.of_grownBy h fun j e => by cases e
theorem kps_grown {S : Nat → Prop} {W W' : World} (hS : ∀ b, S b → b < W.heap.size) (h : W.grownBy W' none) : KpS S W W' := ⟨h.size, fun b hb => h.block b (hS b hb) fun e => by cases e⟩
theorem kps_trans {S : Nat → Prop} {A B C : World} (h : KpS S A B) (h' : KpS S B C) : KpS S A C := ⟨Nat.le_trans h.1 h'.1, fun b hb => (h'.2 b hb).trans (h.2 b hb)⟩
theorem atP_seen {S0 : Nat → Prop} {W : World} {k : Cx} {a : Act} {s : St} (hat : At (NS S0 W) (K0 W) k a s) (hh : s.h = []) (hn : s.nid = 0) (hd : a.defers = []) : AtP (k.R (NS S0 W)).S a s k.w := by
 refine ⟨hd, hh, hn, hat.act.size, fun i => ?_, fun b hb => hb.1⟩
 have := hat.act.rel i
 rw [show k.nid = 0 from hat.nid.trans hn] at this
 exact this.mono { β := fun b hb => by omega, arr := fun b hb => by omega, S := fun b h => rs_S.2 ⟨h.1, h⟩, heap := fun _ _ _ => rfl, map := fun _ _ _ _ h => h }
theorem rle1_own {T : Nat → Prop} {W W' : World} {row : Option Nat} (hT : ∀ b, T b → b < W.heap.size) (hgr : W.grownBy W' row) (hr : ∀ r, row = some r → ∃ o : Obj, W.heap[r]? = some o ∧ o.isCells = false) : RLe1 (RXS T W) (RXS T W') where
 β := fun _ => rfl
 sv := fun _ => rfl
 ln := fun _ => rfl
 S := fun b h => rs_S.2 ⟨Nat.lt_of_lt_of_le (rs_S.1 h).1 hgr.size, (rs_S.1 h).2⟩
 heap := fun b o v h hc => by
  have hb := (rs_S.1 h).1
  by_cases e : row = some b
  ·obtain ⟨o', h1, h2⟩ := hr b e
   have hc' : W.cell? ⟨b, o, none⟩ = some v := hc
   cases o' <;> simp [World.cell?, h1, Obj.isCells] at hc' h2
  ·exact (cell_of_heap (w := W) (w' := W') (a := ⟨b, o, none⟩) (hgr.block b hb fun h => e h.symm)).trans hc
theorem range_split {m n : Nat} (h : m < n) : List.range n = (List.range m).map (0 + ·) ++ m :: (List.range (n - (m + 1))).map (m + 1 + ·) := by
 obtain ⟨k, rfl⟩ : ∃ k, n = m + 1 + k := ⟨n - (m + 1), by omega⟩
 rw [List.range_add, List.range_succ, show m + 1 + k - (m + 1) = k by omega]
 simp
end
section
variable {P : Program} {O : Oracle} {α β : Type}
end
end Go.Sx

/- Sx: iterators that range over iterators; the function that takes what comes is known as data. Own work. -/
namespace Go.Sx
section
variable {P : Program}
def yieldF (env : Env) : Op → Option (Nat × List D)
 | .call c =>
  match c.callee with
  | .value x =>
   match evO env x with
   | .fn (.yield l) [] [] => some (l, c.args.toList.map (evO env))
   | _ => none
  | _ => none
 | _ => none
theorem yield_runF {S0 : Nat → Prop} {a : Act} {s : St} {W : World} {o : Oper} {l : Nat} {ds : List D} (hat : AtP S0 a s W) (h : yieldF s.env o.op = some (l, ds)) :
  ∃ vs, RelL (RXS S0 W) 0 vs ds ∧ (∀ c, o.op ≠ .defer c) ∧ (execOp a.eval o).run P W = (Instr.yield l vs.toArray).run P W := by
 unfold yieldF at h
 split at h
 ·rename_i c hop
  split at h
  ·rename_i x hx
   split at h
   ·rename_i l' hv
    cases h
    have hr := hat.at_.act.eval x
    rw [hv] at hr
    obtain ⟨callee, args, argTypes⟩ := c
    dsimp only at hx
    subst hx
    generalize hv' : a.eval x = v at hr
    cases hr with
    | fn _ _ va vc _ _ h1 h2 _ _ =>
    have e1 : va = [] := by simpa using h1
    have e2 : vc = [] := by simpa using h2
    subst e1; subst e2
    refine ⟨args.toList.map a.eval, RelL.map (fun x => hat.at_.act.eval x) _, fun c hc => (by rw [hop] at hc; cases hc), ?_⟩
    unfold execOp
    rw [hop]
    simp only [resolve, Sem.run_bind, hv', Deferred.ofValue, Sem.run_pure, Result.andThen_ok, invoke]
    congr 2
    apply Array.ext'
    simp
   ·cases h
  ·cases h
 ·cases h
end
section
variable {P : Program} {O : Oracle} {α β : Type}
theorem seqX_nestF {gf gf2 : FuncId} {fn : Func} {c0 c1 asg : Code} {bid b1 rid n1 m j t : Nat} {o : Oper} {g : Operand} {ps : Array Tmp} {ops : Array Oper} {cnd : Operand} {caps caps2 : List D} {encs : α → Array Value} {dsf : α → List D} {encs2 : β → Array Value} {ds2 : β → List D}
  {Sd Sp : List α → Prop} {N N2 : Nat} {Sd2 Sp2 : List β → Prop}
  (hf : P.funcs[gf]? = some fn) (hb : fn.body = some (.seq c0 (.seq c1 (.block bid (.rangeFunc g ps asg (.block b1 (.seq (.region rid ops false) (.cond cnd .ret .skip)))))))) (hres : fn.results = #[])
  (hn1 : n1 = 1 + caps.length + (fn.ntmps - (1 + caps.length)))
  (hO : OkO P O) (hm : P.follows .mixedOrders = true) (T : List (Nat × List Ann)) (hp0 : plainC T c0 = true) (ht0 : tabOk T c0 = true) (hp1 : plainC T c1 = true) (ht1 : tabOk T c1 = true) (hpa : plainC T asg = true) (hta : tabOk T asg = true)
  (henc : ∀ (R : Rx) (n : Nat) vs x, RelL R n vs (dsf x) → vs = (encs x).toList)
  (e1 : Nat → Env)
  (h01 : ∀ l, wc P 0 none T O c0 ⟨(0, .fn (.yield l) [] []) :: argEnv 1 caps, [], 0, n1⟩ fun e s => e = .normal ∧ wc P 0 none T O c1 s fun e s' => e = .normal ∧ headW 0 ⟨s'.env.map fun p => (p.1, view s'.h p.2), [], s'.nid, s'.n⟩ (e1 l) [] 0 n1)
  (hg : ∀ l, evO (e1 l) g = .fn (.func gf2) [] caps2) (hcl2 : D.ltL 0 caps2 = true) (hcal2 : callable P gf2 = true) (hseq2 : SeqP P gf2 caps2 encs2 Sd2 Sp2 N2) (hps2 : ∀ x, (encs2 x).size = ps.size)
  (henc2 : ∀ (R : Rx) (n : Nat) x, RelL R n (encs2 x).toList (ds2 x))
  (e2 : Nat → β → Env) (hnm2 : ∀ l x i, (look (e2 l x) i).nm = true)
  (hasg : ∀ l l' x, wc P 0 (some l') T O asg ⟨parEnv n1 ps.toList (ds2 x) (e1 l), [], 0, n1⟩ fun e s => e = .normal ∧ headW 0 ⟨s.env.map fun p => (p.1, view s.h p.2), [], s.nid, s.n⟩ (e2 l x) [] 0 n1)
  (sel : β → Option α) (e3 : Nat → β → α → Env) (ho : ops.toList[m]? = some o) (hgd : o.guard = some (j, true)) (hsl : slotOf ops j = some t)
  (hno : ∀ l x, sel x = none → wcOps P O ops ops.toList ⟨e2 l x, [], 0, n1⟩ fun s => evO s.env cnd = .bool false)
  (hyes : ∀ l x y, sel x = some y → wcOps P O ops (ops.toList.take m) ⟨e2 l x, [], 0, n1⟩ fun s => headW 0 ⟨s.env.map fun p => (p.1, view s.h p.2), [], s.nid, s.n⟩ (e3 l x y) [] 0 n1)
  (hgt : ∀ l x y, sel x = some y → look (e3 l x y) t = .bool true) (hyo : ∀ l x y, sel x = some y → yieldF (e3 l x y) o.op = some (l, dsf y))
  (hrest : ∀ l x y, sel x = some y → ∀ r, wcOps P O ops (ops.toList.drop (m + 1)) ((flS ⟨e3 l x y, [], 0, n1⟩).put o.dst (.bool r)) fun s => evO s.env cnd = .bool (!r))
  (hd : ∀ xs, Sd2 xs → Sd (xs.filterMap sel)) (hs : ∀ pre, Sp2 pre → Sp (pre.filterMap sel)) (hN : N2 ≤ N) :
  SeqX P gf caps encs Sd Sp N := by
 intro S0 w vc hS hrel l J0 J Jx hJ0 hJ hJx hfix hY h0
 refine callsIn_of_wp_marks hf hb trivial ?_ rfl
 have hlen : vc.length = caps.length := hrel.1
 have hat0 : AtP S0 { tmps := #[Value.func (.yield l) #[] #[]] ++ vc.toArray ++ Array.replicate (fn.ntmps - (#[Value.func (.yield l) #[] #[]] ++ vc.toArray : Array Value).size) undef, defers := [] }
   ⟨(0, .fn (.yield l) [] []) :: argEnv 1 caps, [], 0, n1⟩ w := by
  refine ⟨rfl, rfl, rfl, by simp [hlen, hn1, Nat.add_comm], fun i => ?_, hS⟩
  cases i with
  | zero =>
   have : (#[Value.func (.yield l) #[] #[]] ++ vc.toArray ++ Array.replicate (fn.ntmps - (#[Value.func (.yield l) #[] #[]] ++ vc.toArray : Array Value).size) undef).getD 0 undef = .func (.yield l) #[] #[] := by
    simp [Array.getD_eq_getD_getElem?, Array.getElem?_append]
   simp only [look, if_true]
   rw [this]
   exact .fn _ _ [] [] [] [] rfl rfl (fun i v d h _ => by simp at h) (fun i v d h _ => by simp at h)
  | succ j =>
   simp only [look, Nat.add_eq_zero_iff, Nat.succ_ne_self, and_false, if_false, reduceCtorEq]
   rw [look_argEnv, if_pos (by omega), show j + 1 - 1 = j by omega]
   cases hc : caps[j]? with
   | none => exact .any _ _
   | some d =>
    have hj : j < vc.length := by rw [hlen]; exact (List.getElem?_eq_some_iff.1 hc).1
    have hv : (#[Value.func (.yield l) #[] #[]] ++ vc.toArray ++ Array.replicate (fn.ntmps - (#[Value.func (.yield l) #[] #[]] ++ vc.toArray : Array Value).size) undef).getD (j + 1) undef = vc[j] := by
     simp [Array.getD_eq_getD_getElem?, Array.getElem?_append, hj]
    rw [hv]
    exact hrel.2 j _ d (by simp [hj]) hc
 have hd0 := hat0.defers
 have hat0' := hat0.at_
 generalize ({ tmps := #[Value.func (.yield l) #[] #[]] ++ vc.toArray ++ Array.replicate (fn.ntmps - (#[Value.func (.yield l) #[] #[]] ++ vc.toArray : Array Value).size) undef, defers := [] } : Act) = a0 at hd0 hat0' ⊢
 clear hat0
 refine wpIn_seq (wpIn_mono (wd_sound (n0 := 0) (ro := none) hO hm c0 _ _ hp0 ht0 (h01 l) (NS S0 w) (K0 w) (K0 w) a0 rfl hat0') ?_)
 rintro e a w' ⟨x, ka, sa, hx, rfl, ⟨rfl, h1⟩, hata, hka⟩
 have he : e = .normal := by cases e <;> simp [exOf] at hx <;> rfl
 subst he
 refine wpIn_seq (wpIn_mono (wd_sound (n0 := 0) (ro := none) hO hm c1 _ _ hp1 ht1 h1 (NS S0 w) (K0 w) ka a rfl hata) ?_)
 rintro e a2 w' ⟨x, kb, sb, hx, rfl, ⟨rfl, hw2⟩, hatb, hkb⟩
 have he : e = .normal := by cases e <;> simp [exOf] at hx <;> rfl
 subst he
 have hd2 : a2.defers = [] := hkb.1.trans (hka.1.trans hd0)
 obtain ⟨k3, hk3, hat3⟩ := imp_view hw2 (NS S0 w) (K0 w) kb a2 rfl hatb
 rw [← hk3]
 clear hatb hk3 hkb hka hata hat0' h1 hw2
 have hgr := grown_of hat3
 have hnoro : ∀ {A : World} (r : Nat), (none : Option Nat) = some r → w.heap.size ≤ r ∧ ∃ o : Obj, A.heap[r]? = some o ∧ o.isCells = false := fun r e => by cases e
 have hJ2 := hfix _ (hJ0 () w k3.w none h0 hgr hnoro)
 have hP := atP_seen hat3 rfl rfl hd2
 have hsub : ∀ b, (k3.R (NS S0 w)).S b → S0 b ∨ w.heap.size ≤ b := by
  rintro b ⟨_, h2, _⟩
  by_cases hb : S0 b
  ·exact .inl hb
  ·refine .inr (Nat.not_lt.1 fun h => h2 ⟨h, hb⟩)
 obtain ⟨vc2, hev, hvc2⟩ : ∃ vc2 : List Value, a2.eval g = .func (.func gf2) #[] vc2.toArray ∧ RelL (RXS (k3.R (NS S0 w)).S k3.w) 0 vc2 caps2 := by
  have hr := hP.at_.act.eval g
  rw [show evO _ g = _ from hg l] at hr
  generalize a2.eval g = v at hr
  cases hr with
  | fn _ _ va vc _ _ h1 h2 h3 h4 =>
   have e1 : va = [] := by simpa using h1
   subst e1
   exact ⟨vc, rfl, h2, h4⟩
 generalize hS1 : (k3.R (NS S0 w)).S = S1 at *
 generalize hW2 : k3.w = W2 at *
 clear hat3 hS1 hW2
 have hsz2 : w.heap.size ≤ W2.heap.size := hgr.size
 have hleave : ∀ (D : Nat) (W : World), W2.heap.size ≤ D → ((∃ xs B', Sd xs ∧ J B' xs W) ∨ (∃ pre, Sp pre ∧ Jx pre W)) → W.heap[D]? = some (.deferred (some [])) →
   LeavesInM (FW none) 0 P fn a2.tmps (fun e W' => (∃ v, e = .returned v) ∧ ((∃ xs B', Sd xs ∧ J B' xs W') ∨ (∃ pre, Sp pre ∧ Jx pre W'))) ({ target := .collected D, args := #[] } :: a2.defers) .returning W := fun D W hD hq hdef => by
  refine ⟨by simp, .inl ⟨D, _, rfl, run_takeDeferred hdef, ?_⟩⟩
  rw [hd2]
  refine ⟨.tuple #[], by rw [results_eq, hres]; simp, ⟨_, rfl⟩, ?_⟩
  have hrow : ∀ r, some D = some r → w.heap.size ≤ r ∧ ∃ o : Obj, W.heap[r]? = some o ∧ o.isCells = false := fun r e => by cases e; exact ⟨by omega, _, hdef, rfl⟩
  rcases hq with ⟨xs, B', h1, h2⟩ | ⟨pre, h1, h2⟩
  ·exact .inl ⟨xs, B', h1, hJ B' xs W _ (some D) h2 (grownBy_putObj' W D _) hrow⟩
  ·exact .inr ⟨pre, h1, hJx pre W _ (some D) h2 (grownBy_putObj' W D _) hrow⟩
 refine wpIn_block (wpIn_mono (Q := fun e a W => (e = .normal ∨ e = .ret) ∧ LeavesInM (FW none) 0 P fn a.tmps (fun e W' => (∃ v, e = .returned v) ∧ ((∃ xs B', Sd xs ∧ J B' xs W') ∨ (∃ pre, Sp pre ∧ Jx pre W'))) a.defers .returning W) (wpIn_n (n := 1)
  (wpIn_rangeFunc_ownH (F := FW none) rfl (Nat.le_refl _) hev trivial (fun args w => run_callFunc hcal2 args w) (hseq2 S1 W2 vc2 hP.lt hvc2) kps_trans
   (fun W l o o' hl ho _ _ => ⟨by simp, fun b hb => (grownBy_putObj' W l o').block b (by have := hP.lt b hb; have := (Array.getElem?_eq_some_iff.1 ho).1; omega) fun e => by have := hP.lt b hb; cases e; omega⟩)
   (RowKit.Below.refl _ _) hps2 (fun pre W => J W2.heap.size (pre.filterMap sel) W ∧ KpS S1 W2 W) (fun c pre W => c = .ret ∧ Jx (pre.filterMap sel) W) ?_ ?_ ⟨hJ2, ⟨Nat.le_refl _, fun _ _ => rfl⟩⟩
   (fun x a' W => ∃ T, AtP T a' ⟨e2 l x, [], 0, n1⟩ W) ?_ ?_ ?_ ?_ ?_)) ?_)
 ·rintro pre A B row ⟨h1, h2⟩ hgr' hr
  refine ⟨hJ _ _ A B row h1 hgr' fun r e => ⟨by have := (hr r e).1; omega, (hr r e).2⟩, kps_trans h2 ⟨hgr'.size, fun b hb => hgr'.block b (Nat.lt_of_lt_of_le (hP.lt b hb) h2.1) fun e => ?_⟩⟩
  have := (hr b e.symm).1
  have := hP.lt b hb
  omega
 ·rintro c pre A B row ⟨h1, h2⟩ hgr' hr
  exact ⟨h1, hJx _ A B row h2 hgr' fun r e => ⟨by have := (hr r e).1; omega, (hr r e).2⟩⟩
 ·rintro x a' _ A B row ⟨T', hT⟩ hgr' hr
  exact ⟨T', hT.defers, hT.h, hT.nid, hT.size, fun i => (hT.rel i).mono1 (rle1_own hT.lt hgr' fun r e => (hr r e).2) (hnm2 l x i), fun b hb => Nat.lt_of_lt_of_le (hT.lt b hb) hgr'.size⟩
 ·-- the variables of a round
  rintro l' pre x W K ⟨hj, hkp⟩ hK
  have hSW : ∀ b, S1 b → b < W.heap.size := fun b hb => Nat.lt_of_lt_of_le (hP.lt b hb) hkp.1
  have hPW : AtP S1 a2 ⟨e1 l, [], 0, n1⟩ W := ⟨hP.defers, rfl, rfl, hP.size, fun i => (hP.rel i).mono (rs_mono hkp.2 hkp.1), hSW⟩
  have hfold : (ps.zip (encs2 x)).foldl (fun t (p, v) => t.setIfInBounds p v) a2.tmps = parAct ps.toList (encs2 x).toList a2.tmps := by
   rw [parAct, ← Array.toList_zip, Array.foldl_toList]
  rw [hfold]
  have hact0 : ActOk (NS S1 W) (K0 W) W.heap.size { tmps := a2.tmps, defers := [] } (e1 l) n1 := ⟨hPW.at_.act.size, hPW.at_.act.rel, [], rfl, List.nodup_nil, by simp⟩
  have hact1 := par_act ps.toList (encs2 x).toList (ds2 x) _ _ n1 (henc2 _ _ x) hact0
  have hatb : At (NS S1 W) (K0 W) (K0 W) { tmps := parAct ps.toList (encs2 x).toList a2.tmps, defers := [] } ⟨parEnv n1 ps.toList (ds2 x) (e1 l), [], 0, n1⟩ := ⟨rfl, rfl, good_KS S1 W, .refl _, hact1⟩
  refine wpIn_mono (wpIn_n (wd_sound (n0 := 0) (ro := some l') hO hm asg _ _ hpa hta (hasg l l' x) (NS S1 W) (K0 W) (K0 W) _ rfl hatb)) ?_
  rintro e a3 w3 ⟨ex, k4, s4, hx, rfl, ⟨rfl, hw⟩, hat4, hk4⟩
  have he : e = .normal := by cases e <;> simp [exOf] at hx <;> rfl
  subst he
  obtain ⟨k5, hk5, hat5⟩ := imp_view hw (NS S1 W) (K0 W) k4 a3 rfl hat4
  rw [← hk5]
  have hg5 := grown_of hat5
  exact hK a3 _ (keeps_grown hg5) (kps_grown hSW hg5) ⟨hJ _ _ W _ none hj hg5 hnoro, kps_trans hkp (kps_grown hSW hg5)⟩ ⟨_, atP_seen hat5 rfl rfl hk4.1⟩
 ·-- the body of a round
  rintro l' pre x a' W hl ⟨r0, hr0⟩ ⟨hj, hkp⟩ ⟨T', hT⟩ hpl
  have hSW : ∀ b, S1 b → b < W.heap.size := fun b hb => Nat.lt_of_lt_of_le (hP.lt b hb) hkp.1
  refine wpIn_n (n := 0) (wpIn_block (wpIn_seq (wpIn_region ?_)))
  have fin1 : ∀ (X : Nat → Prop) (k0 k : Cx) (a3 : Act) (s3 : St), At X k0 k a3 s3 → evO s3.env cnd = .bool false → ownPostG W2.heap.size (KpS S1) (fun pre W => J W2.heap.size (pre.filterMap sel) W ∧ KpS S1 W2 W) (fun c pre W => c = .ret ∧ Jx (pre.filterMap sel) W) (pre ++ [x]) W .normal a3 k.w →
    (Code.cond cnd .ret .skip).wpIn (FW (some l')) 0 P (Exit.inBlock b1 (ownPostG W2.heap.size (KpS S1) (fun pre W => J W2.heap.size (pre.filterMap sel) W ∧ KpS S1 W2 W) (fun c pre W => c = .ret ∧ Jx (pre.filterMap sel) W) (pre ++ [x]) W)) a3 k.w := fun X k0 k a3 s3 hat hc h => wpIn_cond (t := false) (eval_bool hat.act hc) (wpIn_skip h)
  have fin2 : ∀ (X : Nat → Prop) (k0 k : Cx) (a3 : Act) (s3 : St), At X k0 k a3 s3 → evO s3.env cnd = .bool true → ownPostG W2.heap.size (KpS S1) (fun pre W => J W2.heap.size (pre.filterMap sel) W ∧ KpS S1 W2 W) (fun c pre W => c = .ret ∧ Jx (pre.filterMap sel) W) (pre ++ [x]) W .ret a3 k.w →
    (Code.cond cnd .ret .skip).wpIn (FW (some l')) 0 P (Exit.inBlock b1 (ownPostG W2.heap.size (KpS S1) (fun pre W => J W2.heap.size (pre.filterMap sel) W ∧ KpS S1 W2 W) (fun c pre W => c = .ret ∧ Jx (pre.filterMap sel) W) (pre ++ [x]) W)) a3 k.w := fun X k0 k a3 s3 hat hc h => wpIn_cond (t := true) (eval_bool hat.act hc) (wpIn_ret h)
  cases hsx : sel x with
  | none =>
   have hA := wcOps_pre (n0 := 0) (ro := some l') hO ops.toList 0 ⟨e2 l x, [], 0, n1⟩ _ (fun j _ => by simp) (hno l x hsx)
   have hr : (List.range ops.toList.length).map (0 + ·) = List.range ops.size := by simp
   rw [hr] at hA
   refine hA (NS T' W) (K0 W) (K0 W) a' _ rfl hT.at_ fun k4 a4 s4 hc hat4 hk4 => ?_
   have hg4 := grown_of hat4
   refine fin1 _ _ _ _ _ hat4 hc ⟨keeps_grown hg4, kps_grown hSW hg4, ?_, kps_trans hkp (kps_grown hSW hg4)⟩
   rw [List.filterMap_append]
   simp only [List.filterMap_cons, hsx, List.filterMap_nil, List.append_nil]
   exact hJ _ _ W _ none hj hg4 hnoro
  | some y =>
   have hfm : (pre ++ [x]).filterMap sel = pre.filterMap sel ++ [y] := by
    rw [List.filterMap_append]; simp [hsx]
   have hms : m < ops.size := by
    have := (List.getElem?_eq_some_iff.1 ho).1
    simpa using this
   have htl : (ops.toList.take m).length = m := by simp; omega
   have hdl : (ops.toList.drop (m + 1)).length = ops.size - (m + 1) := by simp
   rw [range_split hms]
   have hA := wcOps_pre (n0 := 0) (ro := some l') hO (ops.toList.take m) 0 ⟨e2 l x, [], 0, n1⟩ _ (fun j hj => by rw [List.getElem?_take_of_lt (by omega)]; simp) (hyes l x y hsx)
   rw [htl] at hA
   refine ops_app _ _ _ _ (hA (NS T' W) (K0 W) (K0 W) a' _ rfl hT.at_ fun k4 a4 s4 hw4 hat4 hk4 => ?_)
   obtain ⟨k5, hk5, hat5⟩ := imp_view hw4 (NS T' W) (K0 W) k4 a4 rfl hat4
   rw [← hk5]
   have hg5 := grown_of hat5
   have hP5 := atP_seen hat5 rfl rfl (hk4.1.trans hT.defers)
   have hj5 := hJ _ _ W _ none hj hg5 hnoro
   have ho' : ops[m]? = some o := by rw [← ho]; simp
   have hyd : yielded ops a4.tmps j = some true := yielded_eq hP5.at_.act hsl (hgt l x y hsx)
   have hwn : Region.wanted o (yielded ops a4.tmps) = true := by simp [Region.wanted, hgd, hyd]
   show wpOpsIn _ _ _ _ _ (m :: _) _ _
   rw [wpOpsIn_cons]
   simp only [wpOpIn, ho', hwn, if_true]
   refine ⟨fun _ _ => trivial, ?_⟩
   obtain ⟨vs, r1, r2, r3⟩ := yield_runF (P := P) hP5 (hyo l x y hsx)
   rw [semAt_eq _ _ r2, r3, henc _ _ vs y r1, Array.toArray_toList]
   obtain ⟨fn', tmps, assign, body, h4, h5⟩ := hY W2.heap.size (pre.filterMap sel) y k5.w hj5 (by have := List.length_filterMap_le sel pre; omega)
   rw [h4]
   have hfl : ∀ (r : Bool) (W' : World), AtP (fun _ => False) (a4.put o.dst (.bool r)) ((flS ⟨e3 l x y, [], 0, n1⟩).put o.dst (.bool r)) W' := fun r W' =>
    AtP.put (S0 := fun _ => False) (s := flS ⟨e3 l x y, [], 0, n1⟩) ⟨hP5.defers, rfl, rfl, hP5.size, fun i => by
     simp only [flS, look_fl]
     split
     ·rename_i hf; exact (hP5.rel i).flat1 hf
     ·exact .any _ _, fun b hb => hb.elim⟩ o.dst (.bool _ _)
   have hrst : ∀ (r : Bool) (W' : World) (Q : Exit → Act → World → Prop), (∀ k a s, evO s.env cnd = .bool (!r) → At (NS (fun _ => False) W') (K0 W') k a s → W'.grownBy k.w none → Q .normal a k.w) →
     wpOpsIn (FW (some l')) 0 P ops Q ((List.range (ops.size - (m + 1))).map (m + 1 + ·)) (a4.put o.dst (.bool r)) W' := fun r W' Q hq => by
    have hA2 := wcOps_pre (n0 := 0) (ro := some l') hO (ops.toList.drop (m + 1)) (m + 1) _ _ (fun j _ => by rw [List.getElem?_drop]; simp) (hrest l x y hsx r)
    rw [hdl] at hA2
    exact hA2 (NS (fun _ => False) W') (K0 W') (K0 W') _ _ (by rfl) (hfl r W').at_ fun k6 a6 s6 hc hat6 _ => hq k6 a6 s6 hc hat6 (grown_of hat6)
   refine ⟨by simp [FW, Fence.wide], RoundIn.mono (F := FW none) h5 ?_⟩
   rintro e W' (⟨rfl, hj', hk⟩ | ⟨rfl, hjx, hkf⟩)
   ·have hkS : KpS S1 k5.w W' := ⟨hk.1.1, fun b hb => by
     rcases hsub b hb with h | h
     ·exact hk.1.2 b h
     ·exact hk.2.2 b h (hP.lt b hb)⟩
    have hkF : KeepsFrom W2.heap.size k5.w W' := ⟨hk.1.1, fun b ob hb h1 h2 => hk.2.1.same b ob (by omega) h1 h2⟩
    refine hrst true W' _ fun k6 a6 s6 hc hat6 hg6 => fin1 _ _ _ _ _ hat6 hc ?_
    have hS' : ∀ b, S1 b → b < W'.heap.size := fun b hb => Nat.lt_of_lt_of_le (hSW b hb) (Nat.le_trans hg5.size hk.1.1)
    have hkk : KpS S1 W k6.w := kps_trans (kps_trans (kps_grown hSW hg5) hkS) (kps_grown hS' hg6)
    refine ⟨((keeps_grown hg5).trans hkF).trans (keeps_grown hg6), hkk, ?_, kps_trans hkp hkk⟩
    rw [hfm]
    exact hJ _ _ W' _ none hj' hg6 hnoro
   ·have hkF : KeepsFrom W2.heap.size k5.w W' := ⟨hkf.size, fun b ob hb h1 h2 => hkf.same b ob (by omega) h1 h2⟩
    refine hrst false W' _ fun k6 a6 s6 hc hat6 hg6 => fin2 _ _ _ _ _ hat6 hc ?_
    refine ⟨((keeps_grown hg5).trans hkF).trans (keeps_grown hg6), rfl, ?_⟩
    rw [hfm]
    exact hJx _ W' _ none hjx hg6 hnoro
 ·rintro D xs W hD hs2 ⟨hj, _⟩ hdef
  exact ⟨.inl rfl, hleave D W hD (.inl ⟨_, _, hd xs hs2, hj⟩) hdef⟩
 ·rintro D c pre W hD hsp ⟨rfl, hj⟩ hdef
  exact wpIn_ret ⟨.inr rfl, hleave D W hD (.inr ⟨_, hs pre hsp, hj⟩) hdef⟩
 ·rintro e a W ⟨rfl | rfl, h⟩
  ·exact h
  ·exact h
end
end Go.Sx

/- Sx: slices with three indices, of a whole list. Own work. -/
namespace Go.Sx
variable {P : Program} {n0 : Nat} {ro : Option Nat}
theorem run_bound_len {n y : Nat} {w : World} {c : BoundsCode} (h : n ≤ y) : (Instr.sliceBound (.int .i64 (n : Int)) y c).run P w = .ok n w := by
 simp only [Instr.sliceBound, asIntOf, Sem.run_bind, Sem.run_pure, Result.andThen_ok]
 rw [if_pos ⟨by omega, by omega⟩]; rfl
theorem run_bounds3 {n cap : Nat} {w : World} (h : n ≤ cap) : (Instr.sliceBounds true n cap none (some (.int .i64 (n : Int))) (some (.int .i64 (n : Int)))).run P w = .ok (0, n, n) w := by
 unfold Instr.sliceBounds
 simp [Sem.run_bind, run_bound_len h, run_bound_len (Nat.le_refl n)]
theorem run_slice3 {t e : TypeId} {sz : Nat} {v : Value} {es : List (List D)} {R : Rx} {n : Nat} {w : World} (hu : P.underlying t = some (.slice e)) (hsz : sizeT P e = some sz) (hx : Rel R n v (.sl es)) :
  ∃ r, (Instr.sliceAt t v none (some (.int .i64 (es.length : Int))) (some (.int .i64 (es.length : Int)))).run P w = .ok r w ∧ Rel R n r (.sl es) := by
 cases hx with
 | sln =>
  refine ⟨.slice none 0 0, ?_, .sln _⟩
  simp only [Instr.sliceAt, Instr.slice, Sem.run_bind, run_underlying hu, Result.andThen_ok]
  have := run_bounds3 (P := P) (w := w) (n := 0) (cap := 0) (Nat.le_refl _)
  simp only [List.length_nil] at this ⊢
  rw [this]
  simp [run_sizeT hsz]
 | sle _ a cap =>
  refine ⟨.slice (some a) 0 0, ?_, .sle _ _ _⟩
  simp only [Instr.sliceAt, Instr.slice, Sem.run_bind, run_underlying hu, Result.andThen_ok]
  have := run_bounds3 (P := P) (w := w) (n := 0) (cap := cap) (Nat.zero_le _)
  simp only [List.length_nil] at this ⊢
  rw [this]
  simp [run_sizeT hsz]
 | sl _ b off cap _ sz' vs hS hcap hsz' hcell hrel hnm =>
  refine ⟨.slice (some ⟨b, off, none⟩) es.length es.length, ?_, .sl _ b off _ es sz' vs hS (Nat.le_refl _) hsz' hcell hrel hnm⟩
  simp only [Instr.sliceAt, Instr.slice, Sem.run_bind, run_underlying hu, Result.andThen_ok, run_bounds3 hcap, run_sizeT hsz, Sem.run_pure]
  by_cases h0 : es.length = 0
  ·simp [h0]
  ·rw [if_neg h0, Option.map_some, Nat.zero_mul, add_none]
   simp
theorem opOk_slice3 {o : Oper} {t e : TypeId} {sz : Nat} {x hi mx : Operand} {s : St} {K : St → Prop} {es : List (List D)} (ho : o.op = .slice t x none (some hi) (some mx)) (hu : P.underlying t = some (.slice e)) (hsz : sizeT P e = some sz)
  (hx : evO s.env x = .sl es) (hh : evO s.env hi = .int .i64 (es.length : Int)) (hm : evO s.env mx = .int .i64 (es.length : Int)) (hK : K (s.put o.dst (.sl es))) : OpOk P n0 ro o s K := by
 intro X k0 k a Q Kc hn hat hk
 have r1 := hat.act.eval x
 have r2 := hat.act.eval hi
 have r3 := hat.act.eval mx
 rw [hx] at r1
 rw [hh] at r2
 rw [hm] at r3
 have e2 : a.eval hi = .int .i64 (es.length : Int) := by generalize a.eval hi = v at r2; cases r2; rfl
 have e3 : a.eval mx = .int .i64 (es.length : Int) := by generalize a.eval mx = v at r3; cases r3; rfl
 obtain ⟨r, h1, h2⟩ := run_slice3 (P := P) (w := k.w) hu hsz r1
 refine ⟨fun _ _ => trivial, ?_⟩
 have hex : (execOp a.eval o).run P k.w = .ok (.value r) k.w := by
  unfold execOp
  rw [ho]
  simp only [Option.map_none, Option.map_some, e2, e3]
  exact ok_bind_value _ _ _ _ _ h1
 rw [semAt_eq _ _ (by rw [ho]; simp), hex]
 refine hk k _ _ hK ⟨?_, ?_, hat.good, hat.le, hat.act.put o.dst h2⟩ (.refl k) (kept1_put _ _ _)
 ·rw [put_h]; exact hat.h
 ·rw [put_nid]; exact hat.nid
theorem aops_app {ops : Array Oper} {l1 l2 : List Nat} {s : St} {K : St → Prop} (h : AOps P n0 ro ops l1 s fun s' => AOps P n0 ro ops l2 s' K) : AOps P n0 ro ops (l1 ++ l2) s K := fun X k0 k a Q hn hat hk =>
 ops_app _ _ _ _ (h X k0 k a _ hn hat fun k' a' s' h' hat' hkept => h' X k0 k' a' Q hn hat' fun k2 a2 s2 q1 q2 q3 => hk k2 a2 s2 q1 q2 (hkept.trans q3))
theorem aops_cut {O : Oracle} (hO : OkO P O) {ops : Array Oper} {m : Nat} {o : Oper} {s : St} {K : St → Prop} (ho : ops.toList[m]? = some o) (hg : o.guard = none)
  (h : wcOps P O ops (ops.toList.take m) s fun s1 => OpOk P n0 ro o s1 fun s2 => wcOps P O ops (ops.toList.drop (m + 1)) s2 K) : AOps P n0 ro ops (List.range ops.size) s K := by
 have hms : m < ops.size := by
  have := (List.getElem?_eq_some_iff.1 ho).1
  simpa using this
 have htl : (ops.toList.take m).length = m := by simp; omega
 have hdl : (ops.toList.drop (m + 1)).length = ops.size - (m + 1) := by simp
 rw [range_split hms]
 refine aops_app ?_
 have hA := wcOps_pre (n0 := n0) (ro := ro) hO (ops.toList.take m) 0 s _ (fun j hj => by rw [List.getElem?_take_of_lt (by omega)]; simp) h
 rw [htl] at hA
 intro X k0 k a Q hn hat hk
 refine hA X k0 k a Q hn hat fun k' a' s' h' hat' hkept => ?_
 refine hk k' a' s' ?_ hat' hkept
 have ho' : ops[m]? = some o := by rw [← ho]; simp
 refine aops_cons ho' hg ?_
 intro X k0 k a Q Kc hn hat hk
 refine h' X k0 k a Q Kc hn hat fun k2 a2 s2 q1 q2 q3 q4 => hk k2 a2 s2 ?_ q2 q3 q4
 have hA2 := wcOps_pre (n0 := n0) (ro := ro) hO (ops.toList.drop (m + 1)) (m + 1) s2 K (fun j _ => by rw [List.getElem?_drop]; simp) q1
 rw [hdl] at hA2
 exact hA2
end Go.Sx

/- Sx: regions with a forgetting step in between; statements behind which a family of states is kept. Own work. -/
namespace Go.Sx
variable {P : Program} {n0 : Nat} {ro : Option Nat}
end Go.Sx
