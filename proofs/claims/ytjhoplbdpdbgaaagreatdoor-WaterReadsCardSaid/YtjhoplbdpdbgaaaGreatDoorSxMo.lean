/- Own work: a calculus of contracts for the programs of this kit: parts SxZ41, SxZ42, SxZ43, SxZ44, SxZ45. -/
import Derived.Test.YtjhoplbdpdbgaaaGreatDoorSxMn
import Derived.Laws.RangeString
import Derived.Test.YtjhoplbdpdbgaaaGreatDoorSxMd
set_option linter.unusedVariables false
set_option linter.unusedSimpArgs false
namespace Go.Sx
variable {P : Program} {O : Oracle} {w0 : World} {n0 : Nat}

def Cx.setIt (k : Cx) (N : Nat) (str : ByteArray) (pos : Nat) : Cx := { k with w := { k.w with heap := k.w.heap.setIfInBounds N (.stringIter str pos) } }
theorem cell_it {w : World} {N : Nat} {str : ByteArray} {pos : Nat} (h : w.heap[N]? = some (.stringIter str pos)) (o : Nat) : w.cell? ⟨N, o, none⟩ = none := by
 unfold World.cell?
 rw [h]
theorem it_get {k : Cx} {N : Nat} {str : ByteArray} {pos : Nat} (pos' : Nat) (h : k.w.heap[N]? = some (.stringIter str pos)) : (k.setIt N str pos').w.heap[N]? = some (.stringIter str pos') := by
 have hlt : N < k.w.heap.size := by
  rcases Nat.lt_or_ge N k.w.heap.size with h' | h'
  ·exact h'
  ·rw [Array.getElem?_eq_none h'] at h; cases h
 exact Array.getElem?_setIfInBounds_self_of_lt hlt
theorem it_ne {k : Cx} {N b : Nat} {str : ByteArray} {pos : Nat} (h : b ≠ N) : (k.setIt N str pos).w.heap[b]? = k.w.heap[b]? := Array.getElem?_setIfInBounds_ne (Ne.symm h)
theorem At.iter {X : Nat → Prop} {k0 k : Cx} {a : Act} {e : Env} {nid n N pos : Nat} {str : ByteArray} (pos' : Nat) (hat : At X k0 k a ⟨e, [], nid, n⟩) (hd : a.defers = []) (hN : k0.w.heap.size ≤ N) (hi : k.w.heap[N]? = some (.stringIter str pos)) :
  At X k0 (k.setIt N str pos') a ⟨e, [], nid, n⟩ := by
 have hh : k.h = [] := hat.h
 have hown : ∀ i x, (k.setIt N str pos').own i = some x → False := fun i x h => by simp [Cx.own, Cx.setIt, hh, hget, ownOf] at h
 have hmut : ∀ x, ¬ (k.setIt N str pos').Mut x := fun x ⟨i, h⟩ => hown i x h
 have hle := hat.le
 have hi2 := it_get pos' hi
 have hrle : RLe k.nid (k.R X) ((k.setIt N str pos').R X) := {
  β := fun _ _ => rfl
  arr := fun _ _ m' hm => ⟨m', hm, Nat.le_refl _, fun _ => rfl⟩
  S := fun b ⟨h1, h2, h3⟩ => ⟨by simpa [Cx.setIt] using h1, h2, hmut b⟩
  heap := fun b o _ => by
   by_cases hb : b = N
   ·subst hb
    show (k.setIt b str pos').w.cell? _ = k.w.cell? _
    rw [cell_it hi2, cell_it hi]
   ·exact cell_of_heap (it_ne hb)
  map := fun b es c _ h => by
   by_cases hb : b = N
   ·subst hb
    have h : k.w.heap[b]? = _ := h
    rw [hi] at h; cases h
   ·show (k.setIt N str pos').w.heap[b]? = _
    rw [it_ne hb]; exact h }
 exact {
  h := hat.h
  nid := hat.nid
  good := {
   key := fun id blk h => by simp [Cx.setIt, hh, hget] at h
   inj := fun i j b h => (hown i b h).elim
   lt := fun i b h => (hown i b h).elim
   xlt := fun b hb => by have := hat.good.xlt b hb; simpa [Cx.setIt] using this
   ok := fun id blk h => by simp [Cx.setIt, hh, hget] at h }
  le := {
   nid := hle.nid
   os := hle.os
   tape := hle.tape
   output := hle.output
   size := by simpa [Cx.setIt] using hle.size
   β := hle.β
   arr := hle.arr
   heap := fun b hb hm => by rw [it_ne (by omega)]; exact hle.heap b hb hm
   mb := fun b _ hm => (hmut b hm).elim }
  act := ⟨hat.act.size, fun i => (hat.act.rel i).mono hrle, [], hd, List.nodup_nil, by simp⟩ }
theorem AtT.self {X : Nat → Prop} {k0 k : Cx} {a : Act} {s : St} (h : AtT (true, []) X k0 k a s) : AtT (true, []) X k k a s := by
 obtain ⟨ds, h1, h2, h3⟩ := h
 have hds := h2 rfl
 subst hds
 exact ⟨[], h1, fun _ => rfl, h3.h, h3.nid, h3.good, .refl k, h3.act.size, h3.act.rel, [], rfl, List.nodup_nil, by simp⟩
theorem AtT.back {X : Nat → Prop} {k0 k k' : Cx} {a : Act} {s : St} (h : AtT (true, []) X k k' a s) (hle : Le k0 k) : AtT (true, []) X k0 k' a s := by
 obtain ⟨ds, h1, h2, h3⟩ := h
 have hds := h2 rfl
 subst hds
 exact ⟨[], h1, fun _ => rfl, h3.h, h3.nid, h3.good, hle.trans h3.le, h3.act.size, h3.act.rel, [], rfl, List.nodup_nil, by simp⟩
theorem AtT.plain {X : Nat → Prop} {k0 k : Cx} {a : Act} {s : St} (h : AtT (true, []) X k0 k a s) : At X k0 k a s ∧ a.defers = [] := by
 obtain ⟨ds, h1, h2, h3⟩ := h
 have hds := h2 rfl
 subst hds
 have hd : a.defers = [] := h1
 have e : ({ a with defers := [] } : Act) = a := by cases a; simp only at hd; subst hd; rfl
 rw [e] at h3
 exact ⟨h3, hd⟩
theorem At.exact {X : Nat → Prop} {k0 k : Cx} {a : Act} {s : St} (h : At X k0 k a s) (hd : a.defers = []) : AtT (true, []) X k0 k a s := by
 refine ⟨[], hd, fun _ => rfl, ?_⟩
 have e : ({ a with defers := [] } : Act) = a := by cases a; simp only at hd; subst hd; rfl
 rw [e]; exact h
def itP (N : Nat) : Value := .pointer (some ⟨N, 0, none⟩)
theorem strLoop {X : Nat → Prop} {k0 k : Cx} {a : Act} {e : Env} {n N i3 t t12 : Nat} {str : ByteArray} {nx ex : Oper} {cb : Code} {Q : ExP → St → Prop} (I : Nat → Prop) (hnx : nx.op = .next (.tmp t) true) (hnxg : nx.guard = none) (hnxd : nx.dst = some t12) (hex : ∃ y, ex.op = .extract y 0 ∧ y = .tmp t12) (hexg : ex.guard = none)
  (hn : k0.nid = 0) (hfr : Fr w0 k0) (hat : AtT (true, []) X k0 k a ⟨(t, .raw (itP N)) :: e, [], 0, n⟩) (hN : k0.w.heap.size ≤ N) (hi : k.w.heap[N]? = some (.stringIter str 0)) (h0 : I 0)
  (h12 : t12 < n)
  (round : ∀ pos, I pos → (hp : pos < str.size) → ∃ c wd, Utf8.decode str pos = (c, wd) ∧ 0 < wd ∧ AWG P w0 0 (true, []) cb (St.put ⟨(t12, .tup [.bool true, .int .i64 (pos : Int), .int .i32 (c : Int)]) :: (t, .raw (itP N)) :: e, [], 0, n⟩ ex.dst (.bool true))
   (thenP (fun s' => I (pos + wd) ∧ Imp 0 s' ⟨(t, .raw (itP N)) :: e, [], 0, n⟩) Q))
  (last : ∀ pos, I pos → ¬ pos < str.size → AWG P w0 0 (true, []) cb (St.put ⟨(t12, .tup [.bool false]) :: (t, .raw (itP N)) :: e, [], 0, n⟩ ex.dst (.bool false)) (thenP (fun _ => False) Q)) :
  (Code.loop (.seq (.region i3 #[nx, ex] false) cb)).wpIn (FW none) 0 P (PostT (true, []) X k0 Q) a k.w := by
 refine wpIn_loopP (fun pos a w => I pos ∧ ∃ k, k.w = w ∧ AtT (true, []) X k0 k a ⟨(t, .raw (itP N)) :: e, [], 0, n⟩ ∧ k.w.heap[N]? = some (.stringIter str pos)) (fun pos => str.size - pos) 0 ⟨h0, k, rfl, hat, hi⟩ ?_
 clear hat hi k a h0
 rintro pos a w ⟨hI, k, rfl, hat, hi⟩
 obtain ⟨hat, hd⟩ := hat.plain
 have hlt : N < k.w.heap.size := by
  rcases Nat.lt_or_ge N k.w.heap.size with h' | h'
  ·exact h'
  ·rw [Array.getElem?_eq_none h'] at hi; cases hi
 have hev : a.eval (.tmp t) = itP N := by
  have := hat.act.rel t
  simp only [look, if_true] at this
  show a.tmps.getD t undef = _
  generalize a.tmps.getD t undef = v at this
  cases this; rfl
 -- the next rune
 have key : ∀ (v : Value) (d : D) (pos' : Nat) (b : Bool) (ds : List D) (Q' : ExP → St → Prop), (nx.semAt none a.eval).run P k.w = .ok (.value v) (k.setIt N str pos').w → d = .tup (.bool b :: ds) → (∀ R m, Rel R m v d) →
   AWG P w0 0 (true, []) cb (St.put ⟨(t12, d) :: (t, .raw (itP N)) :: e, [], 0, n⟩ ex.dst (.bool b)) Q' →
   (Code.seq (.region i3 #[nx, ex] false) cb).wpIn (FW none) 0 P (fun e' a' w' => PostT (true, []) X (k.setIt N str pos') Q' e' a' w') a k.w := by
  intro v d pos' b ds Q' hrun hd1 hrv hw
  have hat1 := hat.iter pos' hd hN hi
  have hputE : (a.put (some t12) v).defers = [] := by rw [put_defers]; exact hd
  have hact := ActOk.put (s := ⟨(t, .raw (itP N)) :: e, [], 0, n⟩) hat1.act (some t12) (hrv _ _)
  simp only [St.put] at hact
  rw [if_pos h12] at hact
  have hat2 : At X k0 (k.setIt N str pos') (a.put (some t12) v) ⟨(t12, d) :: (t, .raw (itP N)) :: e, [], 0, n⟩ := ⟨hat1.h, hat1.nid, hat1.good, hat1.le, hact⟩
  have hfr2 : Fr w0 (k.setIt N str pos') := hfr.le hat1.le
  have hkn : (k.setIt N str pos').nid = 0 := hat1.nid
  refine wpIn_seq (wpIn_region ?_)
  show wpOpsIn (FW none) 0 P #[nx, ex] _ [0, 1] a k.w
  rw [wpOpsIn_cons]
  have hw1 : Region.wanted nx (yielded #[nx, ex] a.tmps) = true := by simp [Region.wanted, hnxg]
  simp only [wpOpIn, show (#[nx, ex] : Array Oper)[0]? = some nx from rfl, hw1, if_true]
  refine ⟨fun _ _ => trivial, ?_⟩
  rw [show (FW none).round = none from rfl, hrun]
  show wpOpsIn (FW none) 0 P #[nx, ex] _ [1] (a.put nx.dst v) (k.setIt N str pos').w
  rw [hnxd, wpOpsIn_cons]
  have hw2 : Region.wanted ex (yielded #[nx, ex] (a.put (some t12) v).tmps) = true := by simp [Region.wanted, hexg]
  simp only [wpOpIn, show (#[nx, ex] : Array Oper)[1]? = some ex from rfl, hw2, if_true]
  have hop : OpOk P 0 none ex ⟨(t12, d) :: (t, .raw (itP N)) :: e, [], 0, n⟩ fun s' => s' = St.put ⟨(t12, d) :: (t, .raw (itP N)) :: e, [], 0, n⟩ ex.dst (.bool b) := by
   obtain ⟨y, hy1, rfl⟩ := hex
   exact opOk_read (d := .bool b) (by rw [hy1, hd1]; simp [opR, opQ, evO, look]) rfl
  have hat3 : At X (k.setIt N str pos') (k.setIt N str pos') (a.put (some t12) v) ⟨(t12, d) :: (t, .raw (itP N)) :: e, [], 0, n⟩ := (hat2.exact hputE).self.plain.1
  refine hop X (k.setIt N str pos') (k.setIt N str pos') (a.put (some t12) v) _ _ hkn hat3 fun k4 a4 s4 hs4 hat4 hle4 hk4 => ?_
  subst hs4
  have hd4 : a4.defers = [] := by rw [hk4.1]; exact hputE
  exact hw X (k.setIt N str pos') k4 a4 hkn hfr2 (hat4.exact hd4)
 by_cases hp : pos < str.size
 ·obtain ⟨c, wd, hdec, hwd, hw⟩ := round pos hI hp
  have hrun : (nx.semAt none a.eval).run P k.w = .ok (.value (.tuple #[.bool true, .int .i64 pos, .int .i32 c])) (k.setIt N str (pos + wd)).w := by
   rw [Oper.semAt_none]
   unfold execOp
   rw [hnx]
   refine ok_bind_value _ _ _ _ _ ?_
   rw [hev]
   simp only [Instr.next, itP, getObj, setObj, Sem.run_bind, Sem.run, hi, Result.andThen, hp, if_true, hdec]
   simp [goInt, Sem.run, hi, Cx.setIt, hlt]
  refine wpIn_mono (key _ _ (pos + wd) true [.int .i64 pos, .int .i32 c] _ hrun rfl (fun R m => .tup _ [.bool true, .int .i64 pos, .int .i32 c] _ rfl fun i v d h1 h2 => ?_) hw) ?_
  ·match i with
   | 0 => simp at h1 h2; subst h1 h2; exact .bool _ _
   | 1 => simp at h1 h2; subst h1 h2; exact .int _ _ _
   | 2 => simp at h1 h2; subst h1 h2; exact .int _ _ _
   | i + 3 => simp at h1
  ·rintro e' a' w' ⟨x, k5, s5, hx, rfl, hq, hat5⟩
   have hi5 : k5.w.heap[N]? = some (.stringIter str (pos + wd)) := by
    obtain ⟨h5, _⟩ := hat5.plain
    rw [h5.le.heap N (by simpa [Cx.setIt] using hlt) (fun ⟨i, hm⟩ => by
     have hh : k.h = [] := hat.h
     simp [Cx.own, Cx.setIt, hh, hget, ownOf] at hm)]
    exact it_get _ hi
   have hat6 := hat5.back (hat.iter (pos + wd) hd hN hi).le
   cases e' with
   | normal =>
    simp only [exP, exOf, Option.map_some, Option.some.injEq] at hx; subst hx
    obtain ⟨hI', him⟩ := hq
    have hm5 : AtT (true, []) X (k.setIt N str (pos + wd)) k5 a' s5 := hat5
    obtain ⟨k6, e6, hat7⟩ := hm5.imp (show (k.setIt N str (pos + wd)).nid = 0 from hat.nid) him
    exact ⟨pos + wd, ⟨hI', k6, e6, hat7.back (hat.iter (pos + wd) hd hN hi).le, by rw [e6]; exact hi5⟩, by omega⟩
   | exit id => simp only [exP, exOf, Option.map_some, Option.some.injEq] at hx; subst hx; exact ⟨_, k5, s5, rfl, rfl, hq, hat6⟩
   | ret => simp only [exP, exOf, Option.map_some, Option.some.injEq] at hx; subst hx; exact ⟨_, k5, s5, rfl, rfl, hq, hat6⟩
   | panic ch => simp only [exP, Option.some.injEq] at hx; subst hx; exact ⟨_, k5, s5, rfl, rfl, hq, hat6⟩
   | _ => simp [exP, exOf] at hx
 ·have hw := last pos hI hp
  have hrun : (nx.semAt none a.eval).run P k.w = .ok (.value (.tuple #[.bool false])) (k.setIt N str pos).w := by
   have e1 : (k.setIt N str pos).w = k.w := by
    have : k.w.heap.setIfInBounds N (.stringIter str pos) = k.w.heap := by
     apply Array.ext_getElem?
     intro j
     by_cases hj : j = N
     ·subst hj; rw [Array.getElem?_setIfInBounds_self_of_lt hlt, hi]
     ·rw [Array.getElem?_setIfInBounds_ne (Ne.symm hj)]
    simp only [Cx.setIt, this]
   rw [e1, Oper.semAt_none]
   unfold execOp
   rw [hnx]
   refine ok_bind_value _ _ _ _ _ ?_
   rw [hev]
   simp [Instr.next, itP, getObj, Sem.run, hi, hp]
  refine wpIn_mono (key _ _ pos false [] _ hrun rfl (fun R m => .tup _ [.bool false] _ rfl fun i v d h1 h2 => ?_) hw) ?_
  ·match i with
   | 0 => simp at h1 h2; subst h1 h2; exact .bool _ _
   | i + 1 => simp at h1
  ·rintro e' a' w' ⟨x, k5, s5, hx, rfl, hq, hat5⟩
   have hat6 := hat5.back (hat.iter pos hd hN hi).le
   cases e' with
   | normal => simp only [exP, exOf, Option.map_some, Option.some.injEq] at hx; subst hx; exact hq.elim
   | exit id => simp only [exP, exOf, Option.map_some, Option.some.injEq] at hx; subst hx; exact ⟨_, k5, s5, rfl, rfl, hq, hat6⟩
   | ret => simp only [exP, exOf, Option.map_some, Option.some.injEq] at hx; subst hx; exact ⟨_, k5, s5, rfl, rfl, hq, hat6⟩
   | panic ch => simp only [exP, Option.some.injEq] at hx; subst hx; exact ⟨_, k5, s5, rfl, rfl, hq, hat6⟩
   | _ => simp [exP, exOf] at hx
theorem awg_strRange {e : Env} {n i2 b0 i3 t t10 t12 ty : Nat} {str : ByteArray} {om rg nx ex : Oper} {cb : Code} {Q : ExP → St → Prop} (I : Nat → Prop) (hom : OpOk P 0 none om ⟨e, [], 0, n⟩ fun s' => s' = ⟨(t10, .str str) :: e, [], 0, n⟩) (homg : om.guard = none)
  (hrg : rg.op = .range ty (.tmp t10)) (hrgg : rg.guard = none) (hrgd : rg.dst = some t) (hu : P.underlying ty = some .string) (ht : t < n)
  (hnx : nx.op = .next (.tmp t) true) (hnxg : nx.guard = none) (hnxd : nx.dst = some t12) (hex : ∃ y, ex.op = .extract y 0 ∧ y = .tmp t12) (hexg : ex.guard = none) (h0 : I 0) (h12 : t12 < n)
  (round : ∀ N pos, I pos → (hp : pos < str.size) → ∃ c wd, Utf8.decode str pos = (c, wd) ∧ 0 < wd ∧ AWG P w0 0 (true, []) cb (St.put ⟨(t12, .tup [.bool true, .int .i64 (pos : Int), .int .i32 (c : Int)]) :: (t, .raw (itP N)) :: (t10, .str str) :: e, [], 0, n⟩ ex.dst (.bool true))
   (thenP (fun s' => I (pos + wd) ∧ Imp 0 s' ⟨(t, .raw (itP N)) :: (t10, .str str) :: e, [], 0, n⟩) (blockP b0 Q)))
  (last : ∀ N pos, I pos → ¬ pos < str.size → AWG P w0 0 (true, []) cb (St.put ⟨(t12, .tup [.bool false]) :: (t, .raw (itP N)) :: (t10, .str str) :: e, [], 0, n⟩ ex.dst (.bool false)) (thenP (fun _ => False) (blockP b0 Q))) :
  AWG P w0 0 (true, []) (.seq (.region i2 #[om, rg] false) (.block b0 (.loop (.seq (.region i3 #[nx, ex] false) cb)))) ⟨e, [], 0, n⟩ Q := by
 intro X k0 k a hn hfr hatT
 obtain ⟨hat, hd⟩ := hatT.plain
 refine wpIn_seq (wpIn_region ?_)
 show wpOpsIn (FW none) 0 P #[om, rg] _ [0, 1] a k.w
 rw [wpOpsIn_cons]
 have hw1 : Region.wanted om (yielded #[om, rg] a.tmps) = true := by simp [Region.wanted, homg]
 simp only [wpOpIn, show (#[om, rg] : Array Oper)[0]? = some om from rfl, hw1, if_true]
 refine hom X k0 k a _ _ hn hat fun k1 a1 s1 hs1 hat1 hle1 hk1 => ?_
 subst hs1
 have hd1 : a1.defers = [] := by rw [hk1.1]; exact hd
 rw [wpOpsIn_cons]
 have hw2 : Region.wanted rg (yielded #[om, rg] a1.tmps) = true := by simp [Region.wanted, hrgg]
 simp only [wpOpIn, show (#[om, rg] : Array Oper)[1]? = some rg from rfl, hw2, if_true]
 refine ⟨fun _ _ => trivial, ?_⟩
 have hev : a1.eval (.tmp t10) = .string str := by
  have := hat1.act.rel t10
  simp only [look, if_true] at this
  show a1.tmps.getD t10 undef = _
  generalize a1.tmps.getD t10 undef = v at this
  cases this; rfl
 have hrun : (rg.semAt none a1.eval).run P k1.w = .ok (.value (itP k1.w.heap.size)) (k1.w.iter str 0) := by
  rw [Oper.semAt_none]
  unfold execOp
  rw [hrg]
  refine ok_bind_value _ _ _ _ _ ?_
  rw [hev]
  exact run_range_string k1.w ty str hu
 rw [show (FW none).round = none from rfl, hrun]
 have hle2 : Le k1 { k1 with w := k1.w.iter str 0 } := le_world rfl rfl rfl (by show k1.w.heap.size ≤ (k1.w.alloc _).heap.size; rw [alloc_size]; exact Nat.le_succ _) fun b hb => alloc_heap _ _ _ hb
 have hact := ActOk.put (s := ⟨(t10, .str str) :: e, [], 0, n⟩) (hat1.act.le hat1.good hle2) (some t) (.raw _ (itP k1.w.heap.size))
 simp only [St.put] at hact
 rw [if_pos ht] at hact
 have hat2 : At X k0 { k1 with w := k1.w.iter str 0 } (a1.put (some t) (itP k1.w.heap.size)) ⟨(t, .raw (itP k1.w.heap.size)) :: (t10, .str str) :: e, [], 0, n⟩ :=
  ⟨hat1.h, hat1.nid, hat1.good.world hle2 fun b hb => alloc_heap _ _ _ hb, hat1.le.trans hle2, hact⟩
 have hd2 : (a1.put (some t) (itP k1.w.heap.size)).defers = [] := by rw [put_defers]; exact hd1
 simp only [Oper.uponIn]
 rw [hrgd]
 refine wpIn_block (wpIn_mono (strLoop (cb := cb) (i3 := i3) (Q := blockP b0 Q) I hnx hnxg hnxd hex hexg hn hfr (hat2.exact hd2) hat1.le.size (World.iter_heap _ _ _) h0 h12 (round _) (last _)) ?_)
 rintro e' a' w ⟨x, k5, s5, hx, h2, h3, h4⟩
 subst h2
 cases e' with
 | exit i =>
  simp only [exP, exOf, Option.map_some, Option.some.injEq] at hx
  subst hx
  simp only [Exit.inBlock]
  by_cases hi : i = b0
  ·rw [if_pos hi]
   simp only [blockP, if_pos hi] at h3
   exact ⟨_, k5, s5, rfl, rfl, h3, h4⟩
  ·rw [if_neg hi]
   simp only [blockP, if_neg hi] at h3
   exact ⟨_, k5, s5, rfl, rfl, h3, h4⟩
 | _ => simp only [exP, exOf, Option.map_some, Option.map_none, Option.some.injEq, reduceCtorEq] at hx <;> subst hx <;> exact ⟨_, k5, s5, rfl, rfl, h3, h4⟩
theorem pcallg_of_pieces' {f : FuncId} {fn : Func} {c : Code} {ds : List D} {h : H} {nid : Nat} {rs : List ResultVar} {m : Nat} {Q : D → H → Nat → Prop} {R : List PanicEntry → H → Nat → Prop} (hf : P.funcs[f]? = some fn) (hb : fn.body = some c) (hcal : callable P f = true)
  (hrs : fn.results.toList = rs) (hn : ds.length + (fn.ntmps - ds.length) = m) (hw : AWG P w0 nid (true, []) c ⟨argEnv 0 ds, h, nid, m⟩ (endKP P rs Q R)) : PCallG P w0 f ds h nid Q R := by
 refine ⟨hcal, fun X k vs hfr hh hn' hg hr => calls_of_callsIn (n := 0) (callsIn_of_wp_marks hf hb trivial ?_ rfl)⟩
 subst hh hn'
 have hent := at_entry (X := X) (fn := fn) hg hr
 rw [hn] at hent
 refine wpIn_mono (hw X k k _ rfl hfr (hent.exact rfl)) ?_
 rintro e a w ⟨x, k', s, hx, rfl, hq, hat'⟩
 obtain ⟨hat', _⟩ := hat'.plain
 subst hrs
 cases e with
 | normal => simp only [exP, exOf, Option.map_some, Option.some.injEq] at hx; subst hx; obtain ⟨rs, hrs, hq⟩ := optK_inv (show optK _ _ from hq); exact leaves_ret hat' hrs hq
 | ret => simp only [exP, exOf, Option.map_some, Option.some.injEq] at hx; subst hx; obtain ⟨rs, hrs, hq⟩ := optK_inv (show optK _ _ from hq); exact leaves_ret hat' hrs hq
 | exit id => simp only [exP, exOf, Option.map_some, Option.some.injEq] at hx; subst hx; exact hq.elim
 | panic ch => simp only [exP, Option.some.injEq] at hx; subst hx; exact leaves_panic hat' hq
 | _ => simp [exP, exOf] at hx
end Go.Sx

/- Sx: guarded calls cut out of a region; deferred closures that capture two boxes. Own work. -/
namespace Go.Sx
variable {P : Program} {O : Oracle} {w0 : World} {n0 n : Nat}

theorem aopsg_callV {T : Tl} {ops : Array Oper} {i : Nat} {rest : List Nat} {o : Oper} {c : Call} {s : St} {Q : ExP → St → Prop} {f : FuncId} {ds : List D} (hoi : ops[i]? = some o) (hg : o.guard = none ∨ ∃ j t want, o.guard = some (j, want) ∧ slotOf ops j = some t ∧ look s.env t = .bool want) (ho : o.op = .call c) (hcal : calleeD s.env c = some (f, ds))
  (h : PCallG P w0 f ds s.h s.nid (fun r h' nid' => AOpsG P w0 n0 T ops rest (St.put { s with h := h', nid := nid' } o.dst r) Q) fun ch h' nid' => Q (.panic ch) { s with h := h', nid := nid' }) : AOpsG P w0 n0 T ops (i :: rest) s Q := by
 intro X k0 k a hn hfr hat
 obtain ⟨tl, h1, hz, hat⟩ := hat
 rw [wpOpsIn_cons]
 have hw : Region.wanted o (yielded ops a.tmps) = true := by
  rcases hg with hg | ⟨j, t, want, hg, hj, hb⟩
  ·simp [Region.wanted, hg]
  ·have hy := yielded_eq hat.act hj hb
   simp only [Region.wanted, hg, hy]; simp
 simp only [wpOpIn, hoi, hw, if_true]
 refine ⟨fun _ _ => trivial, ?_⟩
 rw [semAt_eq _ _ (by rw [ho]; simp)]
 have hev : ∀ x, Rel (k.R X) k.nid (a.eval x) (evO s.env x) := fun x => by
  have := hat.act.eval x
  cases x <;> exact this
 unfold calleeD at hcal
 split at hcal
 ·rename_i x hx
  split at hcal
  ·rename_i f' first cap hf
   cases hcal
   have hr := hev x
   rw [hf] at hr
   obtain ⟨callee, args, argTypes⟩ := c
   dsimp only at hx
   subst hx
   generalize hv : a.eval x = v at hr
   cases hr with
   | fn _ _ va vc _ _ h1' h2 h3 h4 =>
    have hrun : (execOp a.eval o).run P k.w = .ok (.enter f (va ++ args.toList.map a.eval ++ vc).toArray) k.w := by
     unfold execOp
     rw [ho]
     simp only [resolve, Sem.run_bind, hv, Deferred.ofValue, Sem.run_pure, Result.andThen_ok, invoke]
     rw [run_callFunc h.1]
     congr 2
     apply Array.ext'
     simp
    rw [hrun]
    refine ⟨by simp [FW, Fence.wide], callsIn_of_calls ?_⟩
    have hl : RelL (k.R X) k.nid (va ++ args.toList.map a.eval ++ vc) (first ++ args.toList.map (evO s.env) ++ cap) :=
     (RelL.append ⟨h1', h3⟩ (RelL.map (fun x => hev x) _)).append ⟨h2, h4⟩
    refine (h.2 X k _ (hfr.le hat.le) hat.h hat.nid hat.good hl).mono ?_
    rintro e w' ⟨k', rfl, hg', hle, ⟨v', r, rfl, hK, hrel⟩ | ⟨ch, rfl, hK⟩⟩
    ·have hact := hat.act.le hat.good hle
     refine hK X k0 k' _ hn hfr ⟨tl, by rw [put_defers]; exact h1, hz, ?_⟩
     refine ⟨?_, ?_, hg', hat.le.trans hle, ?_⟩
     ·rw [put_h]
     ·rw [put_nid]
     ·have := ActOk.put (s := { s with h := k'.h, nid := k'.nid }) hact o.dst hrel
      have e : ({ a.put o.dst v' with defers := tl } : Act) = ({ a with defers := tl } : Act).put o.dst v' := by cases o.dst <;> rfl
      rw [e]
      exact this
    ·exact ⟨_, k', _, rfl, rfl, hK, tl, h1, hz, rfl, rfl, hg', hat.le.trans hle, hat.act.le hat.good hle⟩
  ·cases hcal
 ·cases hcal
theorem rel_strv1 {R : Rx} {n : Nat} {v : Value} {b : ByteArray} (h : Rel R n v (.agg [.str b])) (u : TypeId) : ∀ R' n', Rel R' n' (.iface u v) (.ifc u (.agg [.str b])) := by
 cases h with
 | agg _ vs _ h1 h2 =>
  obtain ⟨a, rfl⟩ : ∃ a, vs = [a] := List.length_eq_one_iff.1 h1
  have h3 := h2 0 a (.str b) rfl rfl
  cases h3
  intro R' n'
  exact .ifc _ _ _ _ (.agg _ [.string b] [.str b] rfl fun i v e h1 h2 => by
   match i with
   | 0 => simp at h1 h2; subst h1 h2; exact .str _ _
   | i + 1 => simp at h1)
theorem clos_call2 {X : Nat → Prop} {k : Cx} {g : FuncId} {fn : Func} {id : Nat} {o : Oper} {c2 : Code} {t4 n : Nat} {tys : Array TypeId} (hf : P.funcs[g]? = some fn) (hb : fn.body = some (.seq (.region id #[o] false) c2))
  (ho : o.op = .call ⟨.builtin .recover, #[], tys⟩) (hg : o.guard = none) (hdst : o.dst = some t4) (hres : fn.results = #[]) (hnt : t4 < fn.ntmps) {v0 v1 v4 : Value} {d0 d1 d4 : D} (hgood : Good X k) (hfr : Fr w0 k) (hr0 : Rel (k.R X) k.nid v0 d0) (hr1 : Rel (k.R X) k.nid v1 d1) (hr4 : Rel (k.R X) k.nid v4 d4)
  {u u' : FrameMode} (hrec : RecIn u u' v4) {K : H → Nat → Prop} (hw : AWG P w0 k.nid (true, []) c2 { env := [(t4, d4), (0, d0), (1, d1)], h := k.h, nid := k.nid, n := 2 + (fn.ntmps - 2) } fun x s' => (x = .ex .normal ∨ x = .ex .ret) ∧ K s'.h s'.nid) :
  CallsDIn (FW none) n P g #[v0, v1] u k.w fun e u2 w' => e = .returned (.tuple #[]) ∧ u2 = u' ∧ ∃ k', k'.w = w' ∧ Good X k' ∧ Le k k' ∧ K k'.h k'.nid := by
 refine callsDIn_of_wpS hf hb fun c₀ cs hu => wpS_seq (wpS_region ?_)
 have hat := at_entry (X := X) (k := k) (vs := [v0, v1]) (ds := [d0, d1]) (fn := fn) hgood ⟨rfl, fun i v d h1 h2 => by
  match i with
  | 0 => simp at h1 h2; subst h1 h2; exact hr0
  | 1 => simp at h1 h2; subst h1 h2; exact hr1
  | i + 2 => simp at h1⟩
 have ha : ({ tmps := #[v0, v1] ++ Array.replicate (fn.ntmps - (#[v0, v1] : Array Value).size) undef, defers := [] } : Act) = { tmps := [v0, v1].toArray ++ Array.replicate (fn.ntmps - [v0, v1].toArray.size) undef, defers := [] } := rfl
 rw [ha]
 generalize hA : ({ tmps := [v0, v1].toArray ++ Array.replicate (fn.ntmps - [v0, v1].toArray.size) undef, defers := [] } : Act) = a at hat
 have hd : a.defers = [] := by rw [← hA]
 clear hA ha
 have hrun : (execOp a.eval o).run P k.w = .ok .recover k.w := by
  unfold execOp
  rw [ho]
  simp [resolve, invoke, go_sem]
 have hw1 : Region.wanted o (yielded #[o] a.tmps) = true := by simp [Region.wanted, hg]
 have hlt : t4 < 2 + (fn.ntmps - 2) := by omega
 have key : ∀ cs', cs' = { c₀ with mode := u' } :: cs → c2.wpS P (bodyPostS P fn c₀ cs fun e u2 w' => e = .returned (.tuple #[]) ∧ u2 = u' ∧ ∃ k', k'.w = w' ∧ Good X k' ∧ Le k k' ∧ K k'.h k'.nid) (a.put o.dst v4) cs' k.w := fun cs' hcs => by
  refine wpS_of_wp ?_
  have hat1 : AtT (true, []) X k k (a.put o.dst v4) { env := [(t4, d4), (0, d0), (1, d1)], h := k.h, nid := k.nid, n := 2 + (fn.ntmps - 2) } := by
   refine ⟨[], by rw [put_defers]; exact hd, fun _ => rfl, rfl, rfl, hgood, .refl k, ?_⟩
   have := ActOk.put hat.act (some t4) hr4
   rw [hdst]
   simp only [St.put] at this
   rw [if_pos (show t4 < [d0, d1].length + (fn.ntmps - [d0, d1].length) from hlt)] at this
   have e : ({ a.put (some t4) v4 with defers := [] } : Act) = a.put (some t4) v4 := by
    cases a; simp only at hd; subst hd; rfl
   rw [e]
   exact this
  refine (wpIn_wide (n := 0)).1 (wpIn_mono (hw X k k _ rfl hfr hat1) ?_)
  rintro e a' w' ⟨x, k', s, hx, rfl, ⟨hxx, hK⟩, ds, h1, h2, hat'⟩
  have hds := h2 rfl
  subst hds
  have hd' : a'.defers = [] := h1
  have fin : a'.defers = [] ∧ ∃ u2, cs' = { c₀ with mode := u2 } :: cs ∧ ∃ v, (results fn a'.tmps).run P k'.w = .ok v k'.w ∧ (Ending.returned v = .returned (.tuple #[]) ∧ u2 = u' ∧ ∃ k2, k2.w = k'.w ∧ Good X k2 ∧ Le k k2 ∧ K k2.h k2.nid) :=
   ⟨hd', u', hcs, _, results_none hres _ _ _, rfl, rfl, k', rfl, hat'.good, hat'.le, by rw [hat'.h, hat'.nid]; exact hK⟩
  cases e with
  | normal => exact fin
  | ret => exact fin
  | exit id => simp only [exP, exOf, Option.map_some, Option.some.injEq] at hx; subst hx; rcases hxx with h | h <;> cases h
  | panic ch => simp only [exP, Option.some.injEq] at hx; subst hx; rcases hxx with h | h <;> cases h
  | _ => simp [exP, exOf] at hx
 have hrec1 := hrec c₀ cs hu
 show wpOpsS P #[o] _ [0] a (c₀ :: cs) k.w
 simp only [wpOpsS, show (#[o] : Array Oper)[0]? = some o from rfl, hw1, if_true, hrun]
 cases hq : recoverD (c₀ :: cs) with
 | some p =>
  obtain ⟨v', cs'⟩ := p
  rw [hq] at hrec1
  obtain ⟨rfl, rfl⟩ := hrec1
  exact key _ rfl
 | none =>
  rw [hq] at hrec1
  obtain ⟨rfl, rfl⟩ := hrec1
  exact key _ (by subst hu; rfl)

def DefQ2 (P : Program) (w0 : World) (fn : Func) (Q : D → H → Nat → Prop) (c2 : Code) (t4 m b1 b : Nat) : ExP → St → Prop
 | .ex .normal, s | .ex .ret, s => (∃ ds, resD P s fn.results.toList = some ds ∧ Q (tupD ds) s.h s.nid) ∧ (b1 < s.nid ∧ b < s.nid) ∧
   AWG P w0 s.nid (true, []) c2 { env := [(t4, .nili), (0, .ptr b1 0), (1, .ptr b 0)], h := s.h, nid := s.nid, n := m } fun x s' => (x = .ex .normal ∨ x = .ex .ret) ∧ s'.h = s.h ∧ s'.nid = s.nid
 | .ex (.exit _), _ => False
 | .panic ch, s => (b1 < s.nid ∧ b < s.nid) ∧ ∃ (v : Value) (d : D) (K : H → Nat → Prop), ch = [{ v := v, recovered := false }] ∧ (∀ R n, Rel R n v d) ∧
   (AWG P w0 s.nid (true, []) c2 { env := [(t4, d), (0, .ptr b1 0), (1, .ptr b 0)], h := s.h, nid := s.nid, n := m } fun x s' => (x = .ex .normal ∨ x = .ex .ret) ∧ K s'.h s'.nid) ∧
   ∀ h nid, K h nid → ∃ ds, resD P { s with h := h, nid := nid } fn.results.toList = some ds ∧ Q (tupD ds) h nid
theorem bwg_defer2 {fn : Func} {Q : D → H → Nat → Prop} {id : Nat} {o1 o2 : Oper} {rest : Code} {s : St} {g : FuncId} {gn : Func} {t5 t6 t41 t4 b1 b : Nat} {gid : Nat} {go : Oper} {c2 : Code} {tys gtys : Array TypeId}
  (h1 : o1.op = .makeFunc (.func g) #[] #[.tmp t5, .tmp t6]) (h1g : o1.guard = none) (h1d : o1.dst = some t41) (h2 : o2.op = .defer ⟨.value (.tmp t41), #[], tys⟩) (h2g : o2.guard = none) (h2d : o2.dst = none)
  (h5 : look s.env t5 = .ptr b1 0) (h6 : look s.env t6 = .ptr b 0) (hn : t41 < s.n) (hgf : P.funcs[g]? = some gn) (hgb : gn.body = some (.seq (.region gid #[go] false) c2)) (hgo : go.op = .call ⟨.builtin .recover, #[], gtys⟩) (hgg : go.guard = none) (hgd : go.dst = some t4) (hgr : gn.results = #[]) (hgt : t4 < gn.ntmps)
  (hcal : callable P g = true)
  (hrest : ∀ d, AWG P w0 s.nid (true, [d]) rest ⟨(t41, .fn (.func g) [] [.ptr b1 0, .ptr b 0]) :: s.env, s.h, s.nid, s.n⟩ (DefQ2 P w0 fn Q c2 t4 (2 + (gn.ntmps - 2)) b1 b)) : BWg P w0 fn n0 Q (.seq (.region id #[o1, o2] false) rest) s := by
 intro X k0 k a hnid hfr hat
 obtain ⟨ds, hd1, hd2, hat⟩ := hat
 have hds := hd2 rfl
 subst hds
 have hd : a.defers = [] := hd1
 have e0 : ({ a with defers := [] } : Act) = a := by cases a; simp only at hd; subst hd; rfl
 rw [e0] at hat
 clear e0 hd1 hd2
 have hr6 : Rel (k.R X) k.nid (a.eval (.tmp t6)) (.ptr b 0) := by have := hat.act.eval (.tmp t6); rwa [show evO s.env (.tmp t6) = look s.env t6 from rfl, h6] at this
 generalize hv6 : a.eval (.tmp t6) = v6 at hr6
 have hr5 : Rel (k.R X) k.nid (a.eval (.tmp t5)) (.ptr b1 0) := by have := hat.act.eval (.tmp t5); rwa [show evO s.env (.tmp t5) = look s.env t5 from rfl, h5] at this
 generalize hv5 : a.eval (.tmp t5) = v5 at hr5
 have hblt : b < k.nid := by cases hr6; assumption
 have hle0 := hat.le
 have hng : k.nid = s.nid := hat.nid
 -- the two operations
 obtain ⟨d, hdt, hda⟩ : ∃ d : Deferred, d.target = .fn (.func g) #[v5, v6] ∧ d.args = #[] := ⟨⟨.fn (.func g) #[v5, v6], #[]⟩, rfl, rfl⟩
 have hdd : d = ⟨.fn (.func g) #[v5, v6], #[]⟩ := by cases d; simp only at hdt hda; subst hdt hda; rfl
 have key : rest.wpIn (FW none) 0 P (bodyPostM (FW none) 0 P fn (ResP X k0 Q NoP)) { a.put (some t41) (.func (.func g) #[] #[v5, v6]) with defers := [d] } k.w := by
  have hat1 : AtT (true, [d]) X k k { a.put (some t41) (.func (.func g) #[] #[v5, v6]) with defers := [d] } ⟨(t41, .fn (.func g) [] [.ptr b1 0, .ptr b 0]) :: s.env, s.h, s.nid, s.n⟩ := by
   have hfn : Rel (k.R X) k.nid (.func (.func g) #[] #[v5, v6]) (.fn (.func g) [] [.ptr b1 0, .ptr b 0]) := .fn _ _ [] [v5, v6] [] [.ptr b1 0, .ptr b 0] rfl rfl (by simp) (fun i v d a b => by
    match i with
    | 0 => simp at a b; subst a b; exact hr5
    | 1 => simp at a b; subst a b; exact hr6
    | i + 2 => simp at a)
   have hput := ActOk.put (s := s) hat.act (some t41) hfn
   simp only [St.put] at hput
   rw [if_pos hn] at hput
   exact ⟨[], rfl, fun _ => rfl, hat.h, hat.nid, hat.good, .refl k, hput.size, hput.rel, [], rfl, List.nodup_nil, by simp⟩
  refine wpIn_mono (hrest d X k k _ hng (hfr.le hle0) hat1) ?_
  rintro e a' w ⟨x, k', s', hx, rfl, hq, ds, hd1, hd2, hat'⟩
  have hds := hd2 rfl
  subst hds
  have hdf : a'.defers = [d] := hd1
  clear hd1 hd2
  have hr6' := hr6.le hat'.le
  have hr5' := hr5.le hat'.le
  -- behind the closure
  have fin : ∀ k'', Good X k'' → Le k' k'' → (∃ ds, resD P { s' with h := k''.h, nid := k''.nid } fn.results.toList = some ds ∧ Q (tupD ds) k''.h k''.nid) → LeavesInM (FW none) 0 P fn a'.tmps (ResP X k0 Q NoP) [] .returning k''.w := fun k'' hg hle ⟨rs, hrs, hQ⟩ => by
   have hat2 : At X k0 k'' { a' with defers := [] } { s' with h := k''.h, nid := k''.nid } := ⟨rfl, rfl, hg, hle0.trans (hat'.le.trans hle), (hat'.act.le hat'.good hle).size, (hat'.act.le hat'.good hle).rel, [], rfl, List.nodup_nil, by simp⟩
   exact leaves_ret hat2 hrs hQ
  have door : ∀ (u u' : FrameMode) (v4 : Value) (d4 : D) (K : H → Nat → Prop), u ≠ .run → settle u' = .returning → RecIn u u' v4 → Rel (k'.R X) k'.nid v4 d4 →
    (AWG P w0 s'.nid (true, []) c2 { env := [(t4, d4), (0, .ptr b1 0), (1, .ptr b 0)], h := s'.h, nid := s'.nid, n := 2 + (gn.ntmps - 2) } fun x s2 => (x = .ex .normal ∨ x = .ex .ret) ∧ K s2.h s2.nid) →
    (∀ h nid, K h nid → ∃ ds, resD P { s' with h := h, nid := nid } fn.results.toList = some ds ∧ Q (tupD ds) h nid) → LeavesInM (FW none) 0 P fn a'.tmps (ResP X k0 Q NoP) a'.defers u k'.w := fun u u' v4 d4 K hu hset hrec hr4 hw hK => by
   rw [hdf, hdd]
   refine ⟨hu, .inr ⟨by simp [FW, Fence.wide], .func g, #[v5, v6], g, #[v5, v6], rfl, ?_, fun _ _ => trivial, ?_⟩⟩
   ·simp only [invoke]
    rw [run_callFunc hcal]
    rfl
   ·rw [← hat'.h, ← hat'.nid] at hw
    have hc := clos_call2 (n := 0 - 1) hgf hgb hgo hgg hgd hgr hgt hat'.good (hfr.le (hle0.trans hat'.le)) hr5' hr6' hr4 hrec hw
    refine hc.mono ?_
    rintro e u2 w' ⟨rfl, rfl, k'', rfl, hg, hle, hk⟩
    show LeavesInM (FW none) 0 P fn a'.tmps (ResP X k0 Q NoP) [] (settle u2) k''.w
    rw [hset]
    exact fin k'' hg hle (hK _ _ hk)
  have ret : ((∃ ds, resD P s' fn.results.toList = some ds ∧ Q (tupD ds) s'.h s'.nid) ∧ (b1 < s'.nid ∧ b < s'.nid) ∧
   AWG P w0 s'.nid (true, []) c2 { env := [(t4, .nili), (0, .ptr b1 0), (1, .ptr b 0)], h := s'.h, nid := s'.nid, n := 2 + (gn.ntmps - 2) } fun x s2 => (x = .ex .normal ∨ x = .ex .ret) ∧ s2.h = s'.h ∧ s2.nid = s'.nid) → LeavesInM (FW none) 0 P fn a'.tmps (ResP X k0 Q NoP) a'.defers .returning k'.w := fun ⟨⟨rs, hrs, hQ⟩, _, hw⟩ =>
   door .returning .returning .nilIface .nili (fun h nid => h = s'.h ∧ nid = s'.nid) (by simp) rfl recIn_ret (.nili _) hw fun h nid ⟨h1, h2⟩ => by subst h1 h2; exact ⟨rs, hrs, hQ⟩
  cases e with
  | normal => simp only [exP, exOf, Option.map_some, Option.some.injEq] at hx; subst hx; exact ret hq
  | ret => simp only [exP, exOf, Option.map_some, Option.some.injEq] at hx; subst hx; exact ret hq
  | exit id => simp only [exP, exOf, Option.map_some, Option.some.injEq] at hx; subst hx; exact hq.elim
  | panic ch =>
   simp only [exP, Option.some.injEq] at hx; subst hx
   obtain ⟨_, v, d4, K, rfl, hrv, hw, hK⟩ := hq
   exact door _ _ v d4 K (by simp) (by simp [settle]) (recIn_panic v []) (hrv _ _) hw hK
  | _ => simp [exP, exOf] at hx
 refine wpIn_seq (wpIn_region ?_)
 show wpOpsIn (FW none) 0 P #[o1, o2] _ [0, 1] a k.w
 rw [wpOpsIn_cons]
 have hw1 : Region.wanted o1 (yielded #[o1, o2] a.tmps) = true := by simp [Region.wanted, h1g]
 simp only [wpOpIn, show (#[o1, o2] : Array Oper)[0]? = some o1 from rfl, hw1, if_true]
 refine ⟨fun _ _ => trivial, ?_⟩
 rw [semAt_eq _ _ (by rw [h1]; simp)]
 have hrun1 : (execOp a.eval o1).run P k.w = .ok (.value (.func (.func g) #[] #[v5, v6])) k.w := by
  unfold execOp
  rw [h1]
  simp only [Instr.makeFunc, List.map_toArray, List.map_cons, List.map_nil, hv5, hv6]
  rfl
 rw [hrun1]
 show wpOpsIn (FW none) 0 P #[o1, o2] _ [1] (a.put o1.dst (.func (.func g) #[] #[v5, v6])) k.w
 rw [wpOpsIn_cons]
 have hw2 : Region.wanted o2 (yielded #[o1, o2] (a.put o1.dst (.func (.func g) #[] #[v5, v6])).tmps) = true := by simp [Region.wanted, h2g]
 simp only [wpOpIn, show (#[o1, o2] : Array Oper)[1]? = some o2 from rfl, hw2, if_true]
 refine ⟨fun _ _ => trivial, ?_⟩
 have hrun2 : (o2.semAt none (a.put o1.dst (.func (.func g) #[] #[v5, v6])).eval).run P k.w = .ok (.defer ⟨.fn (.func g) #[v5, v6], #[]⟩) k.w := by
  rw [Oper.semAt_none]
  unfold execOp
  rw [h2]
  have hv : (a.put o1.dst (.func (.func g) #[] #[v5, v6])).eval (.tmp t41) = .func (.func g) #[] #[v5, v6] := by
   rw [h1d]
   simp only [Act.put, Act.eval]
   have hlt : t41 < a.tmps.size := by rw [hat.act.size]; exact hn
   rw [Array.getD_eq_getD_getElem?, Array.getElem?_setIfInBounds_self_of_lt hlt]
   rfl
  simp only [resolve, Sem.run_bind, hv, Deferred.ofValue, Sem.run_pure, Result.andThen_ok, List.map_toArray, List.map_nil]
  rfl
 rw [show (FW none).round = none from rfl, hrun2]
 show rest.wpIn (FW none) 0 P _ _ k.w
 rw [h2d, h1d, ← hdd]
 have e1 : ({ (a.put (some t41) (.func (.func g) #[] #[v5, v6])) with defers := d :: (a.put (some t41) (.func (.func g) #[] #[v5, v6])).defers } : Act).put none undef = { a.put (some t41) (.func (.func g) #[] #[v5, v6]) with defers := [d] } := by
  rw [put_defers, hd]; rfl
 rw [e1]
 exact key
end Go.Sx

/- Sx: walking through a region, operation by operation. Own work. -/
namespace Go.Sx
variable {P : Program} {O : Oracle} {w0 : World} {n0 : Nat}

def RFr (ops : Array Oper) (i : Nat) : List Nat := (List.range (ops.size - i)).map (i + ·)
theorem ra_cons {ops : Array Oper} {i : Nat} (h : i < ops.size) : RFr ops i = i :: RFr ops (i + 1) := by
 unfold RFr
 rw [show ops.size - i = (ops.size - (i + 1)) + 1 by omega, List.range_succ_eq_map, List.map_cons, List.map_map]
 simp only [Nat.add_zero, List.cons.injEq, true_and]
 apply List.map_congr_left
 intro a _
 simp only [Function.comp]; omega
theorem ra_app {ops : Array Oper} : ∀ (k i : Nat), i + k ≤ ops.size → RFr ops i = (List.range k).map (i + ·) ++ RFr ops (i + k)
 | 0, i, _ => by simp
 | k + 1, i, h => by
  rw [ra_cons (by omega), ra_app k (i + 1) (by omega), List.range_succ_eq_map, List.map_cons, List.map_map, List.cons_append, show i + 1 + k = i + (k + 1) by omega]
  simp only [Nat.add_zero, List.cons.injEq, true_and]
  congr 1
  apply List.map_congr_left
  intro a _
  simp only [Function.comp]; omega
theorem awg_from {TT : Tl} {id : Nat} {ops : Array Oper} {s : St} {Q : ExP → St → Prop} (h : AOpsG P w0 n0 TT ops (RFr ops 0) s Q) : AWG P w0 n0 TT (.region id ops false) s Q :=
 awg_regionT (by
  have e : RFr ops 0 = List.range ops.size := by
   unfold RFr
   rw [Nat.sub_zero]
   conv => rhs; rw [← List.map_id (List.range ops.size)]
   apply List.map_congr_left
   intro a _
   simp
  rwa [e] at h)
theorem ra_data (hO : OkO P O) (k : Nat) {TT : Tl} {ops : Array Oper} {i : Nat} {s : St} {Q : ExP → St → Prop} (hk : i + k ≤ ops.size)
  (h : phK P O ops false false ((ops.toList.drop i).take k) s [] [] fun s' _ _ => AOpsG P w0 n0 TT ops (RFr ops (i + k)) s' Q) : AOpsG P w0 n0 TT ops (RFr ops i) s Q := by
 rw [ra_app k i hk]
 refine aopsg_app ?_
 have hl : ((ops.toList.drop i).take k).length = k := by simp; omega
 have := aops_dataP (n0 := n0) (ro := none) hO ((ops.toList.drop i).take k) i s _ (fun j hj => by rw [List.getElem?_take_of_lt (by omega), List.getElem?_drop]; simp) h
 rwa [hl] at this
theorem ra_end {TT : Tl} {ops : Array Oper} {i : Nat} {s : St} {Q : ExP → St → Prop} (hi : ops.size = i) (h : Q (.ex .normal) s) : AOpsG P w0 n0 TT ops (RFr ops i) s Q := by
 subst hi
 unfold RFr
 rw [Nat.sub_self]
 exact aopsg_nil h
theorem ra_op {TT : Tl} {ops : Array Oper} {i : Nat} {o : Oper} {s : St} {Q : ExP → St → Prop} (ho : ops[i]? = some o) (hg : o.guard = none) (h : OpOk P n0 none o s fun s' => AOpsG P w0 n0 TT ops (RFr ops (i + 1)) s' Q) : AOpsG P w0 n0 TT ops (RFr ops i) s Q := by
 have hi : i < ops.size := lt_of_arr ho
 rw [ra_cons hi]
 exact aopsg_app (l1 := [i]) (aops_cons ho hg (h.mono fun s' hs => aops_nil hs))
theorem ra_call {TT : Tl} {ops : Array Oper} {i : Nat} {o : Oper} {c : Call} {s : St} {Q : ExP → St → Prop} {f : FuncId} {ds : List D} (ho : ops[i]? = some o) (hg : o.guard = none ∨ ∃ j t want, o.guard = some (j, want) ∧ slotOf ops j = some t ∧ look s.env t = .bool want) (hop : o.op = .call c) (hcal : calleeD s.env c = some (f, ds))
  (h : PCallG P w0 f ds s.h s.nid (fun r h' nid' => AOpsG P w0 n0 TT ops (RFr ops (i + 1)) (St.put { s with h := h', nid := nid' } o.dst r) Q) fun ch h' nid' => Q (.panic ch) { s with h := h', nid := nid' }) : AOpsG P w0 n0 TT ops (RFr ops i) s Q := by
 have hi : i < ops.size := lt_of_arr ho
 rw [ra_cons hi]
 exact aopsg_callV ho hg hop hcal h
theorem ra_callG {TT : Tl} {ops : Array Oper} {i j t : Nat} {want : Bool} {o : Oper} {c : Call} {s : St} {Q : ExP → St → Prop} {f : FuncId} {ds : List D} (ho : ops[i]? = some o) (hop : o.op = .call c) (hcal : calleeD s.env c = some (f, ds)) (hg : o.guard = some (j, want)) (hj : slotOf ops j = some t) (hb : look s.env t = .bool want)
  (h : PCallG P w0 f ds s.h s.nid (fun r h' nid' => AOpsG P w0 n0 TT ops (RFr ops (i + 1)) (St.put { s with h := h', nid := nid' } o.dst r) Q) fun ch h' nid' => Q (.panic ch) { s with h := h', nid := nid' }) : AOpsG P w0 n0 TT ops (RFr ops i) s Q :=
 ra_call ho (.inr ⟨j, t, want, hg, hj, hb⟩) hop hcal h
theorem ra_panic {TT : Tl} {ops : Array Oper} {i : Nat} {o : Oper} {x : Operand} {s : St} {Q : ExP → St → Prop} {t : TypeId} {d : D} (ho : ops[i]? = some o) (hg : o.guard = none) (hop : o.op = .panic x) (hx : evO s.env x = .ifc t d)
  (h : ∀ v, (∃ R n, Rel R n v d) → Q (.panic [{ v := .iface t v, recovered := false }]) s) : AOpsG P w0 n0 TT ops (RFr ops i) s Q := by
 have hi : i < ops.size := lt_of_arr ho
 rw [ra_cons hi]
 exact aopsg_panic ho hg hop hx h
theorem run_nenil {t : TypeId} {x : Operand} {v : Value} {w : World} (hu : ∃ ms, P.underlying t = some (.interface ms)) {R : Rx} {n : Nat} {d : D} (hv : Rel R n v d) {b : Bool} (hd : d = .nili ∧ b = false ∨ (∃ u e, d = .ifc u e) ∧ b = true) :
  ((do eqGuard .neq t x (.const .nilIface) v .nilIface; binOp .neq t v .nilIface) : Sem Value).run P w = .ok (.bool b) w := by
 have h1 := run_eqI (P := P) (d := 9999) (w := w) hu
 rcases hd with ⟨rfl, rfl⟩ | ⟨⟨u, e, rfl⟩, rfl⟩
 ·cases hv
  have e1 : eqGuard .neq t x (.const .nilIface) .nilIface .nilIface = pure () := by simp [eqGuard]
  have e2 : binOp .neq t .nilIface .nilIface = (do pure (.bool (!(← Op.equal t .nilIface .nilIface)))) := rfl
  have h2 : (Op.equal t .nilIface .nilIface).run P w = .ok true w := h1.1
  rw [e1, e2]
  simp only [Sem.run_bind, Sem.run_pure, Result.andThen_ok, h2, Bool.not_true]
 ·cases hv with
  | ifc _ _ v' _ _ =>
   have e1 : eqGuard .neq t x (.const .nilIface) (.iface u v') .nilIface = pure () := by simp [eqGuard]
   have e2 : binOp .neq t (.iface u v') .nilIface = (do pure (.bool (!(← Op.equal t (.iface u v') .nilIface)))) := rfl
   have h2 : (Op.equal t (.iface u v') .nilIface).run P w = .ok false w := h1.2 _ _
   rw [e1, e2]
   simp only [Sem.run_bind, Sem.run_pure, Result.andThen_ok, h2, Bool.not_false]
theorem opOk_nenil {o : Oper} {t yt : TypeId} {x : Operand} {s : St} {K : St → Prop} (ho : o.op = .binOp .neq t x (.const .nilIface) yt) (hu : ∃ ms, P.underlying t = some (.interface ms)) {b : Bool} (hx : evO s.env x = .nili ∧ b = false ∨ (∃ u e, evO s.env x = .ifc u e) ∧ b = true)
  (hK : K (s.put o.dst (.bool b))) : OpOk P n0 none o s K := by
 intro X k0 k a Q Kc hn hat hk
 have r1 := hat.act.eval x
 have h1 := run_nenil (P := P) (x := x) (w := k.w) hu r1 hx
 refine ⟨fun _ _ => trivial, ?_⟩
 have hex : (execOp a.eval o).run P k.w = .ok (.value (.bool b)) k.w := by
  unfold execOp
  rw [ho]
  exact ok_bind_value _ _ _ _ _ h1
 rw [semAt_eq _ _ (by rw [ho]; simp), hex]
 refine hk k _ _ hK ⟨?_, ?_, hat.good, hat.le, hat.act.put o.dst (.bool _ _)⟩ (.refl k) (kept1_put _ _ _)
 ·rw [put_h]; exact hat.h
 ·rw [put_nid]; exact hat.nid
end Go.Sx

/- Sx: nil slices named, as steps of a state. Own work. -/
namespace Go.Sx
variable {n0 : Nat}
theorem imp_nil {env : Env} {h : H} {nid n : Nat} (t : Nat) (ty : TypeId) (sz : Nat) (hl : look env t = .nils) : Imp n0 ⟨env, h, nid, n⟩ ⟨eset env t (.osl nid 0), (nid, .arr ty sz []) :: h, nid + 1, n⟩ := fun _ _ _ _ _ hat => at_nil t ty sz hl hat
theorem imp_nilB {env : Env} {h : H} {nid n : Nat} (b j : Nat) (cs : List D) (ty : TypeId) (sz : Nat) (hb : hget h b = some (.box cs)) (hl : cs[j]? = some .nils) : Imp n0 ⟨env, h, nid, n⟩ ⟨env, hset ((nid, .arr ty sz []) :: h) b (.box (cs.set j (.osl nid 0))), nid + 1, n⟩ := fun _ _ _ _ _ hat => at_nilB b j cs ty sz hb hl hat
end Go.Sx

/- Sx: a slice that is made, kept as a box. Own work. -/
namespace Go.Sx
variable {P : Program} {n0 : Nat}
theorem opOk_makeBox {o : Oper} {t e : TypeId} {x y : Operand} {s : St} {K : St → Prop} {kx ky : IntKind} {n sz : Nat} {zs cs : List D} (ho : o.op = .makeSlice t x y) (hu : P.underlying t = some (.slice e)) (hsz : sizeT P e = some sz) (hz : zeroD P e = some zs) (hzl : zs.length = sz)
  (hby : (P.bytesOf e : Int) * (n : Int) ≤ 281474976710656) (h63 : (n : Int) ≤ 9223372036854775807) (hx : evO s.env x = .int kx n) (hy : evO s.env y = .int ky n) (hcl : cs.length = n * sz) (hcs : ∀ i, i < n * sz → cs[i]? = zs[i % sz]?)
  (hK : K (St.put ⟨s.env, (s.nid, .box cs) :: s.h, s.nid + 1, s.n⟩ o.dst (.bsl s.nid 0 n sz))) : OpOk P n0 none o s K := by
 intro X k0 k a Q Kc hn hat hk
 have r1 := hat.act.eval x
 have r2 := hat.act.eval y
 rw [hx] at r1
 rw [hy] at r2
 generalize hvx : a.eval x = vx at r1
 generalize hvy : a.eval y = vy at r2
 cases r1; cases r2
 obtain ⟨i, hi⟩ : ∃ i, P.info? e = some i := by
  cases hq : P.info? e with
  | none => simp [sizeT, hq] at hsz
  | some i => exact ⟨i, rfl⟩
 have his : i.size = sz := by simpa [sizeT, hi] using hsz
 have hib : P.bytesOf e = i.bytes := by simp [Program.bytesOf, hi]
 obtain ⟨z, hzz, rfl⟩ : ∃ z, i.zero = some z ∧ zs = z.cells.toList.map vD := by
  unfold zeroD at hz
  rw [hi] at hz
  dsimp only at hz
  split at hz
  ·rename_i z hq; cases hz; exact ⟨z, hq, rfl⟩
  ·cases hz
 have hzs : z.cells.size = sz := by simpa using hzl
 have hr := run_make (P := P) k.w t e i z hu hi hzz kx ky n n (by omega) (by omega) (by rw [← hib]; exact hby) h63
 rw [his] at hr
 simp only [Int.toNat_natCast] at hr
 have hvl : (madeCells z.cells (n * sz)).toList.length = n * sz := by rw [Array.length_toList]; exact size_madeCells _ _
 have hrel : RelL (k.R X) k.nid (madeCells z.cells (n * sz)).toList cs := ⟨by rw [hvl, hcl], fun q v d hv hd => by
  have hq := lt_of_getElem? hv
  rw [hvl] at hq
  rw [hcs q hq] at hd
  have hv : (madeCells z.cells (n * sz))[q]? = some v := by rw [← Array.getElem?_toList]; exact hv
  simp only [madeCells, Array.getElem?_map, hzs] at hv
  rw [Array.getElem?_range] at hv
  simp only [hq, if_true, Option.map_some, Option.some.injEq] at hv
  have hj := lt_of_getElem? hd
  rw [List.length_map, Array.length_toList] at hj
  rw [List.getElem?_map, Array.getElem?_toList, Array.getElem?_eq_getElem (by omega)] at hd
  simp only [Option.map_some, Option.some.injEq] at hd
  rw [getElem!_pos z.cells (q % sz) (by omega)] at hv
  subst hv; subst hd
  exact .vD _ _ _⟩
 have hle := newBox_le (X := X) hat.good (madeCells z.cells (n * sz)).toList e cs
 have hgood := newBox_good hat.good (madeCells z.cells (n * sz)).toList e cs hrel
 refine ⟨fun _ _ => trivial, ?_⟩
 have hex : (execOp a.eval o).run P k.w = .ok (.value (.slice (some ⟨k.w.heap.size, 0, none⟩) n n)) (k.newBox (madeCells z.cells (n * sz)).toList e cs).w := by
  unfold execOp
  rw [ho]
  refine ok_bind_value _ _ _ _ _ ?_
  rw [hvx, hvy, hr]
  simp [Cx.newBox]
 rw [semAt_eq _ _ (by rw [ho]; simp), hex]
 have hkn : k.nid = s.nid := hat.nid
 have hkh : k.h = s.h := hat.h
 have hrv : Rel ((k.newBox (madeCells z.cells (n * sz)).toList e cs).R X) (k.newBox (madeCells z.cells (n * sz)).toList e cs).nid (.slice (some ⟨k.w.heap.size, 0, none⟩) n n) (.bsl s.nid 0 n sz) := by
  have := Rel.bsl (R := (k.newBox (madeCells z.cells (n * sz)).toList e cs).R X) (k.nid + 1) k.nid 0 n n sz (by omega) (Nat.le_refl _)
  simp only [Cx.R, Cx.newBox, if_true] at this ⊢
  rw [← hkn]
  exact this
 have hact := ActOk.put (s := ⟨s.env, (s.nid, .box cs) :: s.h, s.nid + 1, s.n⟩) (hat.act.le hat.good hle) o.dst hrv
 refine hk (k.newBox (madeCells z.cells (n * sz)).toList e cs) _ _ hK ⟨?_, ?_, hgood, hat.le.trans hle, hact⟩ hle (kept1_put _ _ _)
 ·rw [put_h]; simp only [Cx.newBox, hkn, hkh]
 ·rw [put_nid]; simp only [Cx.newBox, hkn]
end Go.Sx
