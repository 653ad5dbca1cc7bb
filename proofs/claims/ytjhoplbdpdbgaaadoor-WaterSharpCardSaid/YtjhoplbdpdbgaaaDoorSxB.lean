/- Sx, part B: how a context evolves: new boxes, stores, arrays, appends, weakening. Own work. -/
import Derived.Test.YtjhoplbdpdbgaaaDoorSxA
import Derived.Laws.Entries
set_option linter.unusedVariables false
set_option linter.unusedSimpArgs false
namespace Go.Sx

theorem own_of_hget {k : Cx} {id : Nat} {blk : Option Blk} (h : hget k.h id = blk) : k.own id = ownOf k id blk := by simp [Cx.own, h]

theorem own_none_of_ge {X : Nat → Prop} {k : Cx} (hg : Good X k) {id : Nat} (h : k.nid ≤ id) : hget k.h id = none := by
  cases hq : hget k.h id with
  | none => rfl
  | some blk => exact absurd (hg.key id blk hq) (by omega)

def Cx.newBox (k : Cx) (vs : List Value) (ty : TypeId) (cs : List D) : Cx :=
  { w := k.w.alloc (.cells vs.toArray ty), β := fun i => if i = k.nid then k.w.heap.size else k.β i, sv := k.sv, h := (k.nid, .box cs) :: k.h, nid := k.nid + 1 }

theorem alloc_heap (w : World) (o : Obj) (b : Nat) (h : b < w.heap.size) : (w.alloc o).heap[b]? = w.heap[b]? := by
  show (w.heap.push o)[b]? = _
  rw [Array.getElem?_push, if_neg (by omega)]

theorem alloc_heap_new (w : World) (o : Obj) : (w.alloc o).heap[w.heap.size]? = some o := by
  show (w.heap.push o)[w.heap.size]? = _
  rw [Array.getElem?_push, if_pos rfl]

theorem alloc_size (w : World) (o : Obj) : (w.alloc o).heap.size = w.heap.size + 1 := by
  show (w.heap.push o).size = _
  simp

theorem newBox_le {X : Nat → Prop} {k : Cx} (hg : Good X k) (vs : List Value) (ty : TypeId) (cs : List D) : Le k (k.newBox vs ty cs) where
  nid := Nat.le_succ _
  os := rfl
  tape := rfl
  output := rfl
  size := by simp only [Cx.newBox, alloc_size]; omega
  β := fun id hid => by simp only [Cx.newBox]; rw [if_neg (by omega)]
  arr := fun id hid m' hm' => by
    simp only [Cx.newBox, hget] at hm'
    rw [if_neg (by omega)] at hm'
    exact ⟨m', hm', Nat.le_refl _, fun _ => rfl⟩
  heap := fun b hb _ => alloc_heap _ _ _ hb
  mb := fun b hb ⟨id, hid⟩ => by
    refine ⟨id, ?_⟩
    simp only [Cx.own, Cx.newBox, hget] at hid
    by_cases h : id = k.nid
    · subst h; simp [ownOf] at hid; omega
    · rw [if_neg h] at hid
      cases hq : hget k.h id with
      | none => simp [hq, ownOf] at hid
      | some blk => cases blk <;> simp_all [ownOf, Cx.own]

theorem newBox_own {k : Cx} {vs : List Value} {ty : TypeId} {cs : List D} (id : Nat) :
    (k.newBox vs ty cs).own id = if id = k.nid then some k.w.heap.size else k.own id := by
  simp only [Cx.own, Cx.newBox, hget]
  by_cases h : id = k.nid
  · simp [h, ownOf]
  · simp only [if_neg h]
    cases hq : hget k.h id with
    | none => simp [ownOf]
    | some blk => cases blk <;> simp [ownOf, h]

theorem newBox_good {X : Nat → Prop} {k : Cx} (hg : Good X k) (vs : List Value) (ty : TypeId) (cs : List D) (hr : RelL (k.R X) k.nid vs cs) : Good X (k.newBox vs ty cs) where
  key := fun id blk h => by
    simp only [Cx.newBox, hget] at h ⊢
    by_cases hi : id = k.nid
    · omega
    · rw [if_neg hi] at h; have := hg.key id blk h; omega
  inj := fun i j b hi hj => by
    rw [newBox_own] at hi hj
    by_cases h1 : i = k.nid <;> by_cases h2 : j = k.nid
    · omega
    · rw [if_pos h1] at hi; rw [if_neg h2] at hj
      have := (hg.lt j b hj).1; simp at hi; omega
    · rw [if_neg h1] at hi; rw [if_pos h2] at hj
      have := (hg.lt i b hi).1; simp at hj; omega
    · rw [if_neg h1] at hi; rw [if_neg h2] at hj; exact hg.inj i j b hi hj
  lt := fun i b hb => by
    rw [newBox_own] at hb
    have hs : (k.newBox vs ty cs).w.heap.size = k.w.heap.size + 1 := alloc_size _ _
    by_cases h1 : i = k.nid
    · rw [if_pos h1] at hb; simp at hb; subst hb
      exact ⟨by omega, fun hx => absurd (hg.xlt _ hx) (by omega)⟩
    · rw [if_neg h1] at hb; have := hg.lt i b hb; exact ⟨by omega, this.2⟩
  xlt := fun b hb => by have hs : (k.newBox vs ty cs).w.heap.size = k.w.heap.size + 1 := alloc_size _ _; have := hg.xlt b hb; omega
  ok := fun id blk h => by
    have hle := newBox_le hg vs ty cs
    by_cases hi : id = k.nid
    · simp only [Cx.newBox, hget, if_pos hi] at h
      obtain rfl := Option.some.inj h
      refine ⟨vs, ty, ?_, hr.le hle⟩
      simp only [Cx.newBox, if_pos hi]
      exact alloc_heap_new _ _
    · simp only [Cx.newBox, hget, if_neg hi] at h
      exact (hg.ok id blk h).le hle (by simp [Cx.newBox, hi]) rfl fun b hb => alloc_heap _ _ _ (hg.lt id b (by rw [Cx.own, h]; exact hb)).1

/-- A new array of the function's own. -/
def Cx.newArr (k : Cx) (vs : List Value) (ty : TypeId) (sz : Nat) (es : List (List D)) (cap : Nat) : Cx :=
  { w := k.w.alloc (.cells vs.toArray ty), β := k.β, sv := fun i => if i = k.nid then .slice (some ⟨k.w.heap.size, 0, none⟩) es.length cap else k.sv i, h := (k.nid, .arr ty sz es) :: k.h, nid := k.nid + 1 }

theorem newArr_le {X : Nat → Prop} {k : Cx} (hg : Good X k) (vs : List Value) (ty : TypeId) (sz : Nat) (es : List (List D)) (cap : Nat) : Le k (k.newArr vs ty sz es cap) where
  nid := Nat.le_succ _
  os := rfl
  tape := rfl
  output := rfl
  size := by simp only [Cx.newArr, alloc_size]; omega
  β := fun id hid => rfl
  arr := fun id hid m' hm' => by
    simp only [Cx.newArr, hget] at hm'
    rw [if_neg (by omega)] at hm'
    exact ⟨m', hm', Nat.le_refl _, fun _ => by simp only [Cx.newArr]; rw [if_neg (by omega)]⟩
  heap := fun b hb _ => alloc_heap _ _ _ hb
  mb := fun b hb ⟨id, hid⟩ => by
    refine ⟨id, ?_⟩
    simp only [Cx.own, Cx.newArr, hget] at hid
    by_cases h : id = k.nid
    · subst h; simp [ownOf, slBlk] at hid; omega
    · rw [if_neg h] at hid
      cases hq : hget k.h id with
      | none => simp [hq, ownOf] at hid
      | some blk => cases blk <;> simp_all [ownOf, Cx.own]

theorem newArr_own {k : Cx} {vs : List Value} {ty : TypeId} {sz : Nat} {es : List (List D)} {cap : Nat} (id : Nat) :
    (k.newArr vs ty sz es cap).own id = if id = k.nid then some k.w.heap.size else k.own id := by
  simp only [Cx.own, Cx.newArr, hget]
  by_cases h : id = k.nid
  · simp [h, ownOf, slBlk]
  · simp only [if_neg h]
    cases hq : hget k.h id with
    | none => simp [ownOf]
    | some blk => cases blk <;> simp [ownOf, h]

theorem newArr_good {X : Nat → Prop} {k : Cx} (hg : Good X k) (vs : List Value) (ty : TypeId) (sz : Nat) (es : List (List D)) (cap : Nat)
    (he : ∀ e ∈ es, e.length = sz) (hlen : vs.length = cap * sz) (hcap : es.length ≤ cap)
    (hr : ∀ (i : Nat) e (j : Nat) d v, es[i]? = some e → e[j]? = some d → vs[i * sz + j]? = some v → Rel (k.R X) 0 v d) : Good X (k.newArr vs ty sz es cap) where
  key := fun id blk h => by
    simp only [Cx.newArr, hget] at h ⊢
    by_cases hi : id = k.nid
    · omega
    · rw [if_neg hi] at h; have := hg.key id blk h; omega
  inj := fun i j b hi hj => by
    rw [newArr_own] at hi hj
    by_cases h1 : i = k.nid <;> by_cases h2 : j = k.nid
    · omega
    · rw [if_pos h1] at hi; rw [if_neg h2] at hj
      have := (hg.lt j b hj).1; simp at hi; omega
    · rw [if_neg h1] at hi; rw [if_pos h2] at hj
      have := (hg.lt i b hi).1; simp at hj; omega
    · rw [if_neg h1] at hi; rw [if_neg h2] at hj; exact hg.inj i j b hi hj
  lt := fun i b hb => by
    rw [newArr_own] at hb
    have hs : (k.newArr vs ty sz es cap).w.heap.size = k.w.heap.size + 1 := alloc_size _ _
    by_cases h1 : i = k.nid
    · rw [if_pos h1] at hb; simp at hb; subst hb
      exact ⟨by omega, fun hx => absurd (hg.xlt _ hx) (by omega)⟩
    · rw [if_neg h1] at hb; have := hg.lt i b hb; exact ⟨by omega, this.2⟩
  xlt := fun b hb => by have hs : (k.newArr vs ty sz es cap).w.heap.size = k.w.heap.size + 1 := alloc_size _ _; have := hg.xlt b hb; omega
  ok := fun id blk h => by
    have hle := newArr_le hg vs ty sz es cap
    by_cases hi : id = k.nid
    · simp only [Cx.newArr, hget, if_pos hi] at h
      obtain rfl := Option.some.inj h
      refine ⟨he, .inr ⟨k.w.heap.size, cap, vs, by simp [Cx.newArr, hi], alloc_heap_new _ _, hlen, hcap, fun i e j d v a b c => (hr i e j d v a b c).le0 hle⟩⟩
    · simp only [Cx.newArr, hget, if_neg hi] at h
      exact (hg.ok id blk h).le hle rfl (by simp [Cx.newArr, hi]) fun b hb => alloc_heap _ _ _ (hg.lt id b (by rw [Cx.own, h]; exact hb)).1

/-- A new map of the function's own. -/
def Cx.newMap (k : Cx) : Cx :=
  { w := k.w.alloc (.map #[] 0), β := fun i => if i = k.nid then k.w.heap.size else k.β i, sv := k.sv, h := (k.nid, .map []) :: k.h, nid := k.nid + 1 }

theorem newMap_le {X : Nat → Prop} {k : Cx} (hg : Good X k) : Le k k.newMap where
  nid := Nat.le_succ _
  os := rfl
  tape := rfl
  output := rfl
  size := by simp only [Cx.newMap, alloc_size]; omega
  β := fun id hid => by simp only [Cx.newMap]; rw [if_neg (by omega)]
  arr := fun id hid m' hm' => by
    simp only [Cx.newMap, hget] at hm'
    rw [if_neg (by omega)] at hm'
    exact ⟨m', hm', Nat.le_refl _, fun _ => rfl⟩
  heap := fun b hb _ => alloc_heap _ _ _ hb
  mb := fun b hb ⟨id, hid⟩ => by
    refine ⟨id, ?_⟩
    simp only [Cx.own, Cx.newMap, hget] at hid
    by_cases h : id = k.nid
    · subst h; simp [ownOf] at hid; omega
    · rw [if_neg h] at hid
      cases hq : hget k.h id with
      | none => simp [hq, ownOf] at hid
      | some blk => cases blk <;> simp_all [ownOf, Cx.own]

theorem newMap_own {k : Cx} (id : Nat) : k.newMap.own id = if id = k.nid then some k.w.heap.size else k.own id := by
  simp only [Cx.own, Cx.newMap, hget]
  by_cases h : id = k.nid
  · simp [h, ownOf]
  · simp only [if_neg h]
    cases hq : hget k.h id with
    | none => simp [ownOf]
    | some blk => cases blk <;> simp [ownOf, h]

theorem newMap_good {X : Nat → Prop} {k : Cx} (hg : Good X k) : Good X k.newMap where
  key := fun id blk h => by
    simp only [Cx.newMap, hget] at h ⊢
    by_cases hi : id = k.nid
    · omega
    · rw [if_neg hi] at h; have := hg.key id blk h; omega
  inj := fun i j b hi hj => by
    rw [newMap_own] at hi hj
    by_cases h1 : i = k.nid <;> by_cases h2 : j = k.nid
    · omega
    · rw [if_pos h1] at hi; rw [if_neg h2] at hj
      have := (hg.lt j b hj).1; simp at hi; omega
    · rw [if_neg h1] at hi; rw [if_pos h2] at hj
      have := (hg.lt i b hi).1; simp at hj; omega
    · rw [if_neg h1] at hi; rw [if_neg h2] at hj; exact hg.inj i j b hi hj
  lt := fun i b hb => by
    rw [newMap_own] at hb
    have hs : k.newMap.w.heap.size = k.w.heap.size + 1 := alloc_size _ _
    by_cases h1 : i = k.nid
    · rw [if_pos h1] at hb; simp at hb; subst hb
      exact ⟨by omega, fun hx => absurd (hg.xlt _ hx) (by omega)⟩
    · rw [if_neg h1] at hb; have := hg.lt i b hb; exact ⟨by omega, this.2⟩
  xlt := fun b hb => by have hs : k.newMap.w.heap.size = k.w.heap.size + 1 := alloc_size _ _; have := hg.xlt b hb; omega
  ok := fun id blk h => by
    have hle := newMap_le hg
    by_cases hi : id = k.nid
    · simp only [Cx.newMap, hget, if_pos hi] at h
      obtain rfl := Option.some.inj h
      refine ⟨[], 0, [], ?_, .refl _, rfl, ⟨rfl, by simp⟩, ⟨rfl, by simp⟩⟩
      simp only [Cx.newMap, if_pos hi]
      exact alloc_heap_new _ _
    · simp only [Cx.newMap, hget, if_neg hi] at h
      exact (hg.ok id blk h).le hle (by simp [Cx.newMap, hi]) rfl fun b hb => alloc_heap _ _ _ (hg.lt id b (by rw [Cx.own, h]; exact hb)).1

/-- A nil slice becomes an (unallocated) array of the function's own. -/
def Cx.nilArr (k : Cx) (ty : TypeId) (sz : Nat) : Cx :=
  { w := k.w, β := k.β, sv := fun i => if i = k.nid then .slice none 0 0 else k.sv i, h := (k.nid, .arr ty sz []) :: k.h, nid := k.nid + 1 }

theorem nilArr_own {k : Cx} {ty : TypeId} {sz : Nat} (id : Nat) : (k.nilArr ty sz).own id = if id = k.nid then none else k.own id := by
  simp only [Cx.own, Cx.nilArr, hget]
  by_cases h : id = k.nid
  · simp [h, ownOf, slBlk]
  · simp only [if_neg h]
    cases hq : hget k.h id with
    | none => simp [ownOf]
    | some blk => cases blk <;> simp [ownOf, h]

theorem nilArr_le {X : Nat → Prop} {k : Cx} (hg : Good X k) (ty : TypeId) (sz : Nat) : Le k (k.nilArr ty sz) where
  nid := Nat.le_succ _
  os := rfl
  tape := rfl
  output := rfl
  size := Nat.le_refl _
  β := fun id hid => rfl
  arr := fun id hid m' hm' => by
    simp only [Cx.nilArr, hget] at hm'
    rw [if_neg (by omega)] at hm'
    exact ⟨m', hm', Nat.le_refl _, fun _ => by simp only [Cx.nilArr]; rw [if_neg (by omega)]⟩
  heap := fun b hb _ => rfl
  mb := fun b hb ⟨id, hid⟩ => by
    rw [nilArr_own] at hid
    by_cases h : id = k.nid
    · simp [h] at hid
    · rw [if_neg h] at hid; exact ⟨id, hid⟩

theorem nilArr_good {X : Nat → Prop} {k : Cx} (hg : Good X k) (ty : TypeId) (sz : Nat) : Good X (k.nilArr ty sz) where
  key := fun id blk h => by
    simp only [Cx.nilArr, hget] at h ⊢
    by_cases hi : id = k.nid
    · omega
    · rw [if_neg hi] at h; have := hg.key id blk h; omega
  inj := fun i j b hi hj => by
    rw [nilArr_own] at hi hj
    by_cases h1 : i = k.nid <;> by_cases h2 : j = k.nid <;> simp [h1, h2] at hi hj
    exact hg.inj i j b hi hj
  lt := fun i b hb => by
    rw [nilArr_own] at hb
    by_cases h1 : i = k.nid <;> simp [h1] at hb
    exact hg.lt i b hb
  xlt := hg.xlt
  ok := fun id blk h => by
    have hle := nilArr_le hg ty sz
    by_cases hi : id = k.nid
    · simp only [Cx.nilArr, hget, if_pos hi] at h
      obtain rfl := Option.some.inj h
      exact ⟨by simp, .inl ⟨by simp [Cx.nilArr, hi], rfl⟩⟩
    · simp only [Cx.nilArr, hget, if_neg hi] at h
      exact (hg.ok id blk h).le hle rfl (by simp [Cx.nilArr, hi]) fun b hb => rfl

/-- One block of the function's own changes its contents (and perhaps its slice value), where it lies. -/
def Cx.upd (k : Cx) (id : Nat) (blk : Blk) (w' : World) (v' : Value) : Cx :=
  { w := w', β := k.β, sv := fun i => if i = id then v' else k.sv i, h := hset k.h id blk, nid := k.nid }

theorem Good.upd {X : Nat → Prop} {k : Cx} {id : Nat} {blk blk0 : Blk} {w' : World} {v' : Value} (hg : Good X k) (h0 : hget k.h id = some blk0)
    (hos : w'.os = k.w.os) (htape : w'.tape = k.w.tape) (hout : w'.output = k.w.output) (hsize : k.w.heap.size ≤ w'.heap.size)
    (hheap : ∀ b, b < k.w.heap.size → k.own id ≠ some b → w'.heap[b]? = k.w.heap[b]?)
    (hown : ∀ b, (k.upd id blk w' v').own id = some b → (k.own id = some b) ∨ (k.w.heap.size ≤ b ∧ b < w'.heap.size))
    (harr : ∀ m', lnOf (some blk) = some m' → ∃ m, lnOf (some blk0) = some m ∧ m ≤ m' ∧ (m = m' → v' = k.sv id))
    (hok : Le k (k.upd id blk w' v') → BlkOk X (k.upd id blk w' v') id blk) :
    Good X (k.upd id blk w' v') ∧ Le k (k.upd id blk w' v') := by
  have hid := hg.key id blk0 h0
  have hownj : ∀ j, j ≠ id → (k.upd id blk w' v').own j = k.own j := fun j hj => by
    simp only [Cx.own, Cx.upd, hget_hset, if_neg hj]
    cases hq : hget k.h j with
    | none => rfl
    | some b => cases b <;> simp [ownOf, hj]
  have hle : Le k (k.upd id blk w' v') := {
    nid := Nat.le_refl _
    os := hos
    tape := htape
    output := hout
    size := hsize
    β := fun _ _ => rfl
    arr := fun j hj m' hm' => by
      simp only [Cx.upd, hget_hset] at hm'
      by_cases h : j = id
      · subst h
        rw [if_pos rfl] at hm'
        obtain ⟨m, a, b, c⟩ := harr m' hm'
        exact ⟨m, by rw [h0]; exact a, b, fun e => by simp only [Cx.upd, if_true]; exact c e⟩
      · rw [if_neg h] at hm'
        exact ⟨m', hm', Nat.le_refl _, fun _ => by simp only [Cx.upd, if_neg h]⟩
    heap := fun b hb hn => hheap b hb fun e => hn ⟨id, e⟩
    mb := fun b hb ⟨j, hj⟩ => by
      by_cases h : j = id
      · subst h
        rcases hown b hj with h | h
        · exact ⟨j, h⟩
        · omega
      · exact ⟨j, by rw [← hownj j h]; exact hj⟩ }
  refine ⟨{
    key := fun j b h => by
      simp only [Cx.upd, hget_hset] at h ⊢
      by_cases hj : j = id
      · omega
      · rw [if_neg hj] at h; exact hg.key j b h
    inj := fun i j b hi hj => by
      by_cases h1 : i = id <;> by_cases h2 : j = id
      · omega
      · subst h1; rw [hownj j h2] at hj
        rcases hown b hi with h | h
        · exact hg.inj i j b h hj
        · have := (hg.lt j b hj).1; omega
      · subst h2; rw [hownj i h1] at hi
        rcases hown b hj with h | h
        · exact hg.inj i j b hi h
        · have := (hg.lt i b hi).1; omega
      · rw [hownj i h1] at hi; rw [hownj j h2] at hj; exact hg.inj i j b hi hj
    lt := fun i b hb => by
      have hs : (k.upd id blk w' v').w.heap.size = w'.heap.size := rfl
      by_cases h1 : i = id
      · subst h1
        rcases hown b hb with h | h
        · have := hg.lt i b h; exact ⟨by omega, this.2⟩
        · exact ⟨by omega, fun hx => absurd (hg.xlt b hx) (by omega)⟩
      · rw [hownj i h1] at hb; have := hg.lt i b hb; exact ⟨by omega, this.2⟩
    xlt := fun b hb => Nat.lt_of_lt_of_le (hg.xlt b hb) hsize
    ok := fun j b h => by
      simp only [Cx.upd, hget_hset] at h
      by_cases hj : j = id
      · rw [if_pos hj] at h
        obtain rfl := Option.some.inj h
        subst hj
        exact hok hle
      · rw [if_neg hj] at h
        refine (hg.ok j b h).le hle rfl (by simp [Cx.upd, hj]) fun c hc => ?_
        have hcj : k.own j = some c := by rw [Cx.own, h]; exact hc
        exact hheap c (hg.lt j c hcj).1 fun e => hj (hg.inj j id c hcj e) }, hle⟩

/-- Dropping blocks, and rolling the next id back. -/
theorem Good.drop {X : Nat → Prop} {k : Cx} {h' : H} {nid' : Nat} (hg : Good X k) (hsub : ∀ id blk, hget h' id = some blk → hget k.h id = some blk)
    (hkey : ∀ id blk, hget h' id = some blk → id < nid')
    (hroll : nid' < k.nid → ∀ id blk, hget h' id = some blk → blkLt nid' blk = true) :
    Good X { k with h := h', nid := nid' } := by
  have hown : ∀ i b, Cx.own { k with h := h', nid := nid' } i = some b → k.own i = some b := fun i b hb => by
    simp only [Cx.own] at hb ⊢
    cases hq : hget h' i with
    | none => rw [hq] at hb; simp [ownOf] at hb
    | some blk => rw [hq] at hb; rw [hsub i blk hq]; cases blk <;> simpa [ownOf] using hb
  have hrle : ∀ n, RLe n (k.R X) (Cx.R X { k with h := h', nid := nid' }) := fun n => {
    β := fun _ _ => rfl
    arr := fun b _ m' hm' => by
      have hm : lnOf (hget h' b) = some m' := hm'
      cases hq : hget h' b with
      | none => rw [hq] at hm; simp [lnOf] at hm
      | some blk => exact ⟨m', by show lnOf (hget k.h b) = _; rw [hsub b blk hq, ← hq]; exact hm, Nat.le_refl _, fun _ => rfl⟩
    S := fun b ⟨h1, h2, h3⟩ => ⟨h1, h2, fun ⟨i, hi⟩ => h3 ⟨i, hown i b hi⟩⟩
    heap := fun _ _ _ => rfl }
  have hrel : ∀ v d, Rel (k.R X) k.nid v d → (nid' < k.nid → d.lt nid' = true) → Rel (Cx.R X { k with h := h', nid := nid' }) nid' v d := fun v d hr hl => by
    have h1 := hr.mono (hrle k.nid)
    by_cases hc : k.nid ≤ nid'
    · exact h1.weak hc
    · exact h1.roll (hl (by omega))
  refine ⟨hkey, fun i j b hi hj => hg.inj i j b (hown i b hi) (hown j b hj), fun i b hb => hg.lt i b (hown i b hb), hg.xlt, fun id blk hq => ?_⟩
  have h0 := hg.ok id blk (hsub id blk hq)
  have hr := fun hc => hroll hc id blk hq
  cases blk with
  | box cs =>
    obtain ⟨vs, ty, h1, h2⟩ := h0
    exact ⟨vs, ty, h1, h2.1, fun i v d a b => hrel v d (h2.2 i v d a b) fun hc => D.ltL_get (hr hc) i d b⟩
  | arr ty sz es =>
    obtain ⟨h1, h2⟩ := h0
    refine ⟨h1, ?_⟩
    rcases h2 with h2 | ⟨b, cap, vs, a1, a2, a3, a4, a5⟩
    · exact .inl h2
    · exact .inr ⟨b, cap, vs, a1, a2, a3, a4, fun i e j d v x y z => (a5 i e j d v x y z).mono (hrle 0)⟩
  | map kvs =>
    obtain ⟨es, c, es', h1, hp, hk, h2, h3⟩ := h0
    exact ⟨es, c, es', h1, hp, hk, ⟨h2.1, fun i v d a b => (h2.2 i v d a b).mono (hrle 0)⟩, h3.1, fun i v d a b => hrel v d (h3.2 i v d a b) fun hc => D.ltL_get (hr hc) i d b⟩

theorem Rel.drop {X : Nat → Prop} {k : Cx} {h' : H} {nid' : Nat} (hsub : ∀ id blk, hget h' id = some blk → hget k.h id = some blk) {v : Value} {d : D}
    (hr : Rel (k.R X) k.nid v d) (hl : k.nid ≤ nid' ∨ d.lt nid' = true) : Rel (Cx.R X { k with h := h', nid := nid' }) nid' v d := by
  have hown : ∀ i b, Cx.own { k with h := h', nid := nid' } i = some b → k.own i = some b := fun i b hb => by
    simp only [Cx.own] at hb ⊢
    cases hq : hget h' i with
    | none => rw [hq] at hb; simp [ownOf] at hb
    | some blk => rw [hq] at hb; rw [hsub i blk hq]; cases blk <;> simpa [ownOf] using hb
  have hrle : ∀ n, RLe n (k.R X) (Cx.R X { k with h := h', nid := nid' }) := fun n => {
    β := fun _ _ => rfl
    arr := fun b _ m' hm' => by
      have hm : lnOf (hget h' b) = some m' := hm'
      cases hq : hget h' b with
      | none => rw [hq] at hm; simp [lnOf] at hm
      | some blk => exact ⟨m', by show lnOf (hget k.h b) = _; rw [hsub b blk hq, ← hq]; exact hm, Nat.le_refl _, fun _ => rfl⟩
    S := fun b ⟨h1, h2, h3⟩ => ⟨h1, h2, fun ⟨i, hi⟩ => h3 ⟨i, hown i b hi⟩⟩
    heap := fun _ _ _ => rfl }
  have h1 := hr.mono (hrle k.nid)
  rcases hl with hc | hl
  · exact h1.weak hc
  · exact h1.roll hl

theorem Le.drop {k0 k : Cx} {h' : H} {nid' : Nat} (hle : Le k0 k) (hn : k0.nid ≤ nid') (hsub : ∀ id blk, hget h' id = some blk → hget k.h id = some blk) :
    Le k0 { k with h := h', nid := nid' } := by
  have hown : ∀ i b, Cx.own { k with h := h', nid := nid' } i = some b → k.own i = some b := fun i b hb => by
    simp only [Cx.own] at hb ⊢
    cases hq : hget h' i with
    | none => rw [hq] at hb; simp [ownOf] at hb
    | some blk => rw [hq] at hb; rw [hsub i blk hq]; cases blk <;> simpa [ownOf] using hb
  exact ⟨hn, hle.os, hle.tape, hle.output, hle.size, hle.β, fun id hid m' hm' => by
    have hm : lnOf (hget h' id) = some m' := hm'
    cases hq : hget h' id with
    | none => rw [hq] at hm; simp [lnOf] at hm
    | some blk => exact hle.arr id hid m' (by rw [hsub id blk hq, ← hq]; exact hm), hle.heap, fun b hb ⟨i, hi⟩ => hle.mb b hb ⟨i, hown i b hi⟩⟩

end Go.Sx
