/- Own work: a calculus of contracts for the programs of this kit: parts SxZ14, SxZ15, SxZ16, SxZ17, SxZ18, SxZ19, SxZ20, SxZ21. -/
import Derived.Test.YtljkgnicmlhipaaGreatSxMg
import Derived.RangeFuncNested
set_option linter.unusedVariables false
set_option linter.unusedSimpArgs false
namespace Go.Sx

def Cx.putO (k : Cx) (l : Nat) (o : Loop) : Cx := { k with w := k.w.putObj l (.loop o) }
theorem putO_size (k : Cx) (l : Nat) (o : Loop) : (k.putO l o).w.heap.size = k.w.heap.size := by simp [Cx.putO]
theorem putO_heap (k : Cx) {l b : Nat} (o : Loop) (h : b ≠ l) : (k.putO l o).w.heap[b]? = k.w.heap[b]? := World.putObj_heap_other h
theorem putO_heap_l (k : Cx) {l : Nat} (o : Loop) (h : l < k.w.heap.size) : (k.putO l o).w.heap[l]? = some (.loop o) := World.putObj_heap_same h
theorem putO_rle {X : Nat → Prop} {k : Cx} {l : Nat} {r : Loop} (o : Loop) (hl : k.w.heap[l]? = some (.loop r)) (n : Nat) : RLe n (k.R X) ((k.putO l o).R X) where
 β := fun _ _ => rfl
 arr := fun _ _ m hm => ⟨m, hm, Nat.le_refl _, fun _ => rfl⟩
 S := fun b h => ⟨by rw [putO_size]; exact h.1, h.2.1, h.2.2⟩
 heap := fun b ob h => by
  show (k.putO l o).w.cell? _ = k.w.cell? _
  by_cases e : b = l
  ·subst e
   have hlt : b < k.w.heap.size := (Array.getElem?_eq_some_iff.1 hl).1
   simp [World.cell?, hl, putO_heap_l k o hlt]
  ·exact cell_of_heap (putO_heap k o e)
 map := fun b es c _ h => (putO_heap k o fun e => by
  have h' : k.w.heap[b]? = some (.map es c) := h
  rw [e, hl] at h'; cases h').trans h
theorem putO_good {X : Nat → Prop} {k : Cx} {l : Nat} {r : Loop} (o : Loop) (hl : k.w.heap[l]? = some (.loop r)) (hg : Good X k) : Good X (k.putO l o) := by
 have hr := putO_rle (X := X) o hl
 have hne : ∀ b (o' : Obj), k.w.heap[b]? = some o' → (∀ q, o' ≠ .loop q) → b ≠ l := fun b o' h1 h2 e => by rw [e, hl] at h1; cases h1; exact h2 _ rfl
 refine ⟨hg.key, hg.inj, fun i b hb => ⟨by rw [putO_size]; exact (hg.lt i b hb).1, (hg.lt i b hb).2⟩, fun b hb => by rw [putO_size]; exact hg.xlt b hb, fun id blk hid => ?_⟩
 have hok := hg.ok id blk hid
 cases blk with
 | box cs =>
  obtain ⟨vs, ty, a, b⟩ := hok
  exact ⟨vs, ty, (putO_heap k o (hne _ _ a fun q h => by cases h)).trans a, rell_mono b (hr _) (Nat.le_refl _)⟩
 | arr ty sz es =>
  obtain ⟨a0, a1⟩ := hok
  refine ⟨a0, ?_⟩
  rcases a1 with a1 | ⟨b, off, cap, vs, x1, x2, x3, x4, x5⟩
  ·exact .inl a1
  ·exact .inr ⟨b, off, cap, vs, x1, (putO_heap k o (hne _ _ x2 fun q h => by cases h)).trans x2, x3, x4, fun i e j d v p q r => (x5 i e j d v p q r).mono (hr _)⟩
 | map kvs =>
  obtain ⟨es, c, es', x1, x2, x3, x6, x4, x5⟩ := hok
  exact ⟨es, c, es', (putO_heap k o (hne _ _ x1 fun q h => by cases h)).trans x1, x2, x3, x6, rell_mono x4 (hr _) (Nat.le_refl _), rell_mono x5 (hr _) (Nat.le_refl _)⟩
theorem putO_at {X : Nat → Prop} {k ka : Cx} {a : Act} {s : St} {l : Nat} {r : Loop} (o : Loop) (hl0 : l < k.w.heap.size) (hl : ka.w.heap[l]? = some (.loop r)) (hat : At X k ka a s) : At X (k.putO l o) (ka.putO l o) a s := by
 have hle := hat.le
 refine ⟨hat.h, hat.nid, putO_good o hl hat.good, ⟨hle.nid, hle.os, hle.tape, hle.output, by rw [putO_size, putO_size]; exact hle.size, hle.β, hle.arr, fun b hb hm => ?_, fun b hb hm => hle.mb b (by rw [putO_size] at hb; exact hb) hm⟩,
  ⟨hat.act.size, fun i => (hat.act.rel i).mono (putO_rle o hl _), ?_⟩⟩
 ·by_cases e : b = l
  ·subst e
   rw [putO_heap_l k o hl0, putO_heap_l ka o (Nat.lt_of_lt_of_le hl0 hle.size)]
  ·rw [putO_heap k o e, putO_heap ka o e]
   exact hle.heap b (by rw [putO_size] at hb; exact hb) hm
 ·obtain ⟨ms, h1, h2, h3⟩ := hat.act.marks
  exact ⟨ms, h1, h2, fun r' hr' => ⟨by rw [putO_size]; exact (h3 r' hr').1, (putO_heap ka o fun e => by
   have := (h3 r' hr').2; rw [e, hl] at this; cases this).trans (h3 r' hr').2⟩⟩

section
variable {P : Program} {O : Oracle} {n0 : Nat}
end
end Go.Sx

/- Sx: loops whose bodies are taken statement by statement. Own work. -/
namespace Go.Sx
variable {P : Program} {O : Oracle} {n0 : Nat} {ro : Option Nat}
theorem awp_loopH {ι : Type} {c : Code} {s : St} {Q : Ex → St → Prop} (E : ι → Env) (V : ι → H) (nid : Nat) (I : ι → Prop) (μ : ι → Nat) (i0 : ι) (h0 : I i0) (hw : headW n0 s (E i0) (V i0) nid s.n)
  (round : ∀ i, I i → AWp P n0 ro c ⟨E i, V i, nid, s.n⟩ (thenQ (fun s' => ∃ j, I j ∧ μ j < μ i ∧ headW n0 s' (E j) (V j) nid s.n) Q)) : AWp P n0 ro (.loop c) s Q :=
 awp_loop (fun i => ⟨E i, V i, nid, s.n⟩) I μ i0 h0 (weak_of hw) fun i hi => awp_mono (round i hi) fun e s' h' => by
  cases e with
  | normal => obtain ⟨j, a, b, d⟩ := h'; exact ⟨j, a, b, weak_of d⟩
  | exit => exact h'
  | ret => exact h'
theorem awp_headW {c : Code} {s : St} {Q : Ex → St → Prop} (e : Env) (hh : H) (nid n : Nat) (hw : headW n0 s e hh nid n) (h : AWp P n0 ro c ⟨e, hh, nid, n⟩ Q) : AWp P n0 ro c s Q := awp_weak (weak_of hw) h
end Go.Sx

/- Sx: an own array gets another id. Own work. -/
namespace Go.Sx
variable {P : Program} {n0 : Nat}

def okM (j : Nat) : D → Bool
 | .ptr b _ => !(b == j)
 | .mp b => !(b == j)
 | .osl b _ => !(b == j)
 | .ifc _ d => okM j d
 | d => D.lt 0 d
def mvD (i j : Nat) : D → D
 | .osl b n => if b = i then .osl j n else .osl b n
 | .ptr b o => if b = i then .ptr j o else .ptr b o
 | .mp b => if b = i then .mp j else .mp b
 | .ifc t d => .ifc t (mvD i j d)
 | d => d
def okMB (j : Nat) : Blk → Bool
 | .box cs => cs.all (okM j)
 | .arr _ _ _ => true
 | .map kvs => kvs.all fun p => D.lt 0 p.2
def mvB (i j : Nat) : Blk → Blk
 | .box cs => .box (cs.map (mvD i j))
 | x => x
def mvH (i j : Nat) (h : H) : H := h.map fun p => (if p.1 = i then j else p.1, mvB i j p.2)
theorem mvH_get {i j : Nat} (hij : i ≠ j) : ∀ (h : H), hget h j = none → ∀ id, hget (mvH i j h) id = if id = j then (hget h i).map (mvB i j) else if id = i then none else (hget h id).map (mvB i j)
 | [], _, id => by simp [mvH, hget]
 | (a, b) :: r, hj, id => by
  have haj : ¬ j = a := fun e => by simp [hget, e] at hj
  have hr : hget r j = none := by simpa [hget, haj] using hj
  have ih := mvH_get hij r hr id
  simp only [mvH, List.map_cons, hget] at ih ⊢
  by_cases hai : a = i
  ·subst hai
   simp only [if_true]
   by_cases h1 : id = j
   ·subst h1; simp
   ·rw [if_neg h1, ih, if_neg h1, if_neg h1]
    by_cases h2 : id = a
    ·simp [h2]
    ·simp [h2]
  ·have hia : ¬ i = a := fun e => hai e.symm
   simp only [if_neg hai, if_neg hia]
   by_cases h2 : id = a
   ·subst h2
    have : ¬ id = j := fun e => haj e.symm
    simp [this, hai]
   ·rw [if_neg h2, ih]
    simp [h2]
def Cx.mv (k : Cx) (i j : Nat) : Cx := { k with sv := fun x => if x = j then k.sv i else k.sv x, β := fun x => if x = j then k.β i else k.β x, h := mvH i j k.h }
theorem ownOf_mv (k : Cx) (i j id : Nat) (hne : id ≠ j) (b : Option Blk) : ownOf (k.mv i j) id (b.map (mvB i j)) = ownOf k id b := by
 cases b with
 | none => rfl
 | some b => cases b <;> simp [mvB, ownOf, Cx.mv, hne]
theorem lnOf_mv (i j : Nat) (b : Option Blk) : lnOf (b.map (mvB i j)) = lnOf b := by
 cases b with
 | none => rfl
 | some b => cases b <;> simp [mvB, lnOf]
section
variable {k : Cx} {i j : Nat} {bi : Blk} (hij : i ≠ j) (hi : hget k.h i = some bi) (hj : hget k.h j = none)
include hij hi hj
theorem mv_own (id : Nat) : (k.mv i j).own id = if id = j then k.own i else if id = i then none else k.own id := by
 have hg := mvH_get hij k.h hj id
 by_cases h1 : id = j
 ·subst h1
  rw [if_pos rfl, Cx.own, show (k.mv i id).h = mvH i id k.h from rfl, hg, if_pos rfl, hi]
  cases bi <;> simp [mvB, ownOf, Cx.mv, Cx.own, hi]
 ·rw [if_neg h1]
  by_cases h2 : id = i
  ·rw [if_pos h2, Cx.own, show (k.mv i j).h = mvH i j k.h from rfl, hg, if_neg h1, if_pos h2]; rfl
  ·rw [if_neg h2, Cx.own, show (k.mv i j).h = mvH i j k.h from rfl, hg, if_neg h1, if_neg h2, ownOf_mv k i j id h1]; rfl
theorem mv_mut (b : Nat) : (k.mv i j).Mut b ↔ k.Mut b := by
 have hjn : k.own j = none := by simp [Cx.own, hj, ownOf]
 constructor
 ·rintro ⟨id, h⟩
  rw [mv_own hij hi hj] at h
  split at h
  ·exact ⟨i, h⟩
  ·split at h
   ·cases h
   ·exact ⟨id, h⟩
 ·rintro ⟨id, h⟩
  by_cases h2 : id = i
  ·subst h2; exact ⟨j, by rw [mv_own hij hi hj, if_pos rfl]; exact h⟩
  ·have h1 : id ≠ j := fun e => by rw [e, hjn] at h; cases h
   exact ⟨id, by rw [mv_own hij hi hj, if_neg h1, if_neg h2]; exact h⟩
theorem mv_rle (X : Nat → Prop) : RLe 0 (k.R X) ((k.mv i j).R X) where
 β := fun b hb => by omega
 arr := fun b hb => by omega
 S := fun b h => ⟨h.1, h.2.1, fun hm => h.2.2 ((mv_mut hij hi hj b).1 hm)⟩
 heap := fun _ _ _ => rfl
 map := fun _ _ _ _ h => h
theorem mv_rel {X : Nat → Prop} (hjn : j < k.nid) : ∀ {d : D} {v : Value}, Rel (k.R X) k.nid v d → okM j d = true → Rel ((k.mv i j).R X) k.nid v (mvD i j d) := by
 intro d
 have hg := mvH_get hij k.h hj
 have hdata : ∀ {v : Value} {d : D}, Rel (k.R X) k.nid v d → D.lt 0 d = true → Rel ((k.mv i j).R X) k.nid v d := fun h hl => ((h.roll hl).mono (mv_rle hij hi hj X)).weak (Nat.zero_le _)
 have hβ : ∀ b, b ≠ j → ((k.mv i j).R X).β b = (k.R X).β b := fun b hb => by show (if b = j then k.β i else k.β b) = _; rw [if_neg hb]; rfl
 have hβj : ((k.mv i j).R X).β j = (k.R X).β i := by show (if j = j then k.β i else k.β j) = _; rw [if_pos rfl]; rfl
 suffices H : ∀ {n : Nat} {v : Value} {d : D}, Rel (k.R X) n v d → n = k.nid → okM j d = true → Rel ((k.mv i j).R X) k.nid v (mvD i j d) from fun {v} h => H h rfl
 intro n v d h
 induction h with
 | ptr n b off h1 =>
  intro hn hok; subst hn
  have hb : b ≠ j := by simpa [okM] using hok
  simp only [mvD]
  split
  ·rename_i e; subst e; rw [← hβj]; exact .ptr _ _ _ hjn
  ·rw [← hβ b hb]; exact .ptr _ _ _ h1
 | mp n b h1 =>
  intro hn hok; subst hn
  have hb : b ≠ j := by simpa [okM] using hok
  simp only [mvD]
  split
  ·rename_i e; subst e; rw [← hβj]; exact .mp _ _ hjn
  ·rw [← hβ b hb]; exact .mp _ _ h1
 | osl n b l v h1 h2 =>
  intro hn hok; subst hn
  have hb : b ≠ j := by simpa [okM] using hok
  simp only [mvD]
  split
  ·rename_i e; subst e
   refine .osl _ _ _ _ hjn fun m hm => ?_
   have hm' : (k.R X).ln b = some m := by
    have : lnOf (hget (mvH b j k.h) j) = some m := hm
    rw [hg, if_pos rfl, lnOf_mv] at this; exact this
   obtain ⟨a, c⟩ := h2 m hm'
   refine ⟨a, fun e => ?_⟩
   show v = (if j = j then k.sv b else k.sv j)
   rw [if_pos rfl]; exact c e
  ·rename_i hbi
   refine .osl _ _ _ _ h1 fun m hm => ?_
   have hm' : (k.R X).ln b = some m := by
    have : lnOf (hget (mvH i j k.h) b) = some m := hm
    rw [hg, if_neg hb, if_neg hbi, lnOf_mv] at this; exact this
   obtain ⟨a, c⟩ := h2 m hm'
   refine ⟨a, fun e => ?_⟩
   show v = (if b = j then k.sv i else k.sv b)
   rw [if_neg hb]; exact c e
 | ifc n t v d h1 ih =>
  intro hn hok
  exact .ifc _ t v _ (ih hn hok)
 | any n v => intro hn hok; exact .any _ _
 | int n kk x => intro hn hok; exact .int _ _ _
 | bool n b => intro hn hok; exact .bool _ _
 | str n s => intro hn hok; exact .str _ _
 | nils n => intro hn hok; exact .nils _
 | sln n => intro hn hok; exact .sln _
 | sle n a c => intro hn hok; exact .sle _ _ _
 | nilp n => intro hn hok; exact .nilp _
 | nilf n => intro hn hok; exact .nilf _
 | nili n => intro hn hok; exact .nili _
 | nilm n => intro hn hok; exact .nilm _
 | raw n v => intro hn hok; exact .raw _ _
 | agg n vs ds a b _ => intro hn hok; subst hn; exact hdata (.agg _ _ _ a b) hok
 | tup n vs ds a b _ => intro hn hok; subst hn; exact hdata (.tup _ _ _ a b) hok
 | sl n b off cap es sz vs a1 a2 a3 a4 a5 a6 _ => intro hn hok; subst hn; exact hdata (.sl _ b off cap es sz vs a1 a2 a3 a4 a5 a6) hok
 | ref n b off cs o vs a1 a2 a3 a4 _ => intro hn hok; subst hn; exact hdata (.ref _ b off cs o vs a1 a2 a3 a4) hok
 | eptr n b l sz i off v a1 a2 => intro hn hok; subst hn; exact hdata (.eptr _ b l sz i off v a1 a2) hok
 | fn n f va vc da dc a1 a2 a3 a4 _ _ => intro hn hok; subst hn; exact hdata (.fn _ f va vc da dc a1 a2 a3 a4) hok
 | mpd n b kvs es es' c a1 a2 a3 a4 a5 a6 a7 a8 _ _ => intro hn hok; subst hn; exact hdata (.mpd _ b kvs es es' c a1 a2 a3 a4 a5 a6 a7 a8) hok
 | refm n b off kvs v a1 a2 a3 _ => intro hn hok; subst hn; exact hdata (.refm _ b off kvs v a1 a2 a3) hok
 | bsl n b off l cap sz a1 a2 => intro hn hok; subst hn; exact hdata (.bsl _ b off l cap sz a1 a2) hok
end
theorem okMB_get {j : Nat} : ∀ {h : H}, (h.all fun p => okMB j p.2) = true → ∀ {id : Nat} {b : Blk}, hget h id = some b → okMB j b = true
 | [], _, id, b, hb => by simp [hget] at hb
 | (a, c) :: r, hh, id, b, hb => by
  simp only [List.all_cons, Bool.and_eq_true] at hh
  simp only [hget] at hb
  split at hb
  ·cases hb; exact hh.1
  ·exact okMB_get hh.2 hb
theorem mv_good {X : Nat → Prop} {k : Cx} {i j : Nat} {bi : Blk} (hij : i ≠ j) (hi : hget k.h i = some bi) (hj : hget k.h j = none) (hjn : j < k.nid) (hok : (k.h.all fun p => okMB j p.2) = true) (hg : Good X k) : Good X (k.mv i j) := by
 have hget' := mvH_get hij k.h hj
 have hrel := fun {v d} => mv_rel (X := X) hij hi hj hjn (d := d) (v := v)
 have hr0 := mv_rle (X := X) hij hi hj
 refine ⟨fun id blk hq => ?_, fun a b c ha hb => ?_, fun a b ha => ?_, hg.xlt, fun id blk hq => ?_⟩
 ·have hq' : hget (mvH i j k.h) id = some blk := hq
  rw [hget'] at hq'
  show id < k.nid
  split at hq'
  ·omega
  ·split at hq'
   ·cases hq'
   ·cases e : hget k.h id with
    | none => rw [e] at hq'; cases hq'
    | some b0 => exact hg.key id b0 e
 ·rw [mv_own hij hi hj] at ha hb
  split at ha <;> split at hb
  ·omega
  ·split at hb
   ·cases hb
   ·have := hg.inj i b c ha hb; omega
  ·split at ha
   ·cases ha
   ·have := hg.inj i a c hb ha; omega
  ·split at ha
   ·cases ha
   ·split at hb
    ·cases hb
    ·exact hg.inj a b c ha hb
 ·rw [mv_own hij hi hj] at ha
  split at ha
  ·exact hg.lt i b ha
  ·split at ha
   ·cases ha
   ·exact hg.lt a b ha
 ·have hq' : hget (mvH i j k.h) id = some blk := hq
  rw [hget'] at hq'
  have main : ∀ (id0 : Nat) (b0 : Blk) (id1 : Nat), hget k.h id0 = some b0 → (k.mv i j).sv id1 = k.sv id0 → (k.mv i j).β id1 = k.β id0 → BlkOk X (k.mv i j) id1 (mvB i j b0) := fun id0 b0 id1 e hsv hβ => by
   have h0 := hg.ok id0 b0 e
   have hb := okMB_get hok e
   cases b0 with
   | box cs =>
    obtain ⟨vs, t, a, b⟩ := h0
    refine ⟨vs, t, by rw [hβ]; exact a, by rw [List.length_map]; exact b.1, fun p v d hv hd => ?_⟩
    rw [List.getElem?_map] at hd
    cases hc : cs[p]? with
    | none => rw [hc] at hd; cases hd
    | some c =>
     rw [hc] at hd
     simp only [Option.map_some, Option.some.injEq] at hd
     subst hd
     exact hrel (b.2 p v c hv hc) (List.all_eq_true.1 hb c (List.mem_of_getElem? hc))
   | arr t s es' =>
    obtain ⟨a0, a1⟩ := h0
    refine ⟨a0, ?_⟩
    rcases a1 with ⟨a1, a2⟩ | ⟨b, off, cap, vs, x1, x2, x3, x4, x5⟩
    ·exact .inl ⟨by rw [hsv]; exact a1, a2⟩
    ·exact .inr ⟨b, off, cap, vs, by rw [hsv]; exact x1, x2, x3, x4, fun p e q d v r s t => (x5 p e q d v r s t).mono hr0⟩
   | map kvs =>
    obtain ⟨es1, c, es', x1, x2, x3, x6, x4, x5⟩ := h0
    refine ⟨es1, c, es', by rw [hβ]; exact x1, x2, x3, x6, ⟨x4.1, fun p v d y z => (x4.2 p v d y z).mono hr0⟩, ⟨x5.1, fun p v d y z => ?_⟩⟩
    have hl : D.lt 0 d = true := by
     rw [List.getElem?_map] at z
     cases hc : kvs[p]? with
     | none => rw [hc] at z; cases z
     | some q =>
      rw [hc] at z
      simp only [Option.map_some, Option.some.injEq] at z
      subst z
      exact List.all_eq_true.1 hb q (List.mem_of_getElem? hc)
    exact (((x5.2 p v d y z).roll hl).mono hr0).weak (Nat.zero_le _)
  split at hq'
  ·rename_i e; subst e
   rw [hi] at hq'
   simp only [Option.map_some, Option.some.injEq] at hq'
   subst hq'
   exact main i bi id hi (by show (if id = id then k.sv i else k.sv id) = _; rw [if_pos rfl]) (by show (if id = id then k.β i else k.β id) = _; rw [if_pos rfl])
  ·rename_i h1
   split at hq'
   ·cases hq'
   ·cases e : hget k.h id with
    | none => rw [e] at hq'; cases hq'
    | some b0 =>
     rw [e] at hq'
     simp only [Option.map_some, Option.some.injEq] at hq'
     subst hq'
     exact main id b0 id e (by show (if id = j then k.sv i else k.sv id) = _; rw [if_neg h1]) (by show (if id = j then k.β i else k.β id) = _; rw [if_neg h1])
theorem Imp.move {env : Env} {h : H} {nid n : Nat} (i j : Nat) {bi : Blk} (hij : i ≠ j) (hi : hget h i = some bi) (hj : hget h j = none) (hjn : j < nid) (h0 : n0 ≤ j)
  (hok : (h.all fun p => okMB j p.2) = true) (hoe : (env.all fun p => okM j p.2) = true) : Imp n0 ⟨env, h, nid, n⟩ ⟨env.map fun p => (p.1, mvD i j p.2), mvH i j h, nid, n⟩ := fun X k0 k a hn hat => by
 have hh : k.h = h := hat.h
 have hnid : k.nid = nid := hat.nid
 subst hh; subst hnid
 have hle := hat.le
 refine ⟨k.mv i j, rfl, rfl, rfl, mv_good hij hi hj hjn hok hat.good, ⟨hle.nid, hle.os, hle.tape, hle.output, hle.size, fun id hid => by show (if id = j then k.β i else k.β id) = _; rw [if_neg (by omega)]; exact hle.β id hid, fun id hid m' hm => ?_, fun b hb hm => hle.heap b hb hm, fun b hb hm => hle.mb b hb ((mv_mut hij hi hj b).1 hm)⟩, hat.act.size, fun p => ?_, hat.act.marks⟩
 ·have hm' : lnOf (hget (mvH i j k.h) id) = some m' := hm
  rw [mvH_get hij k.h hj, if_neg (by omega)] at hm'
  split at hm'
  ·cases hm'
  ·rw [lnOf_mv] at hm'
   obtain ⟨m, a1, a2, a3⟩ := hle.arr id hid m' hm'
   exact ⟨m, a1, a2, fun e => by show (if id = j then k.sv i else k.sv id) = _; rw [if_neg (by omega)]; exact a3 e⟩
 ·show Rel _ _ _ (look (env.map fun p => (p.1, mvD i j p.2)) p)
  have hl : ∀ (env : Env), (env.all fun p => okM j p.2) = true → look (env.map fun p => (p.1, mvD i j p.2)) p = mvD i j (look env p) ∧ okM j (look env p) = true := by
   intro env
   induction env with
   | nil => intro _; exact ⟨rfl, rfl⟩
   | cons q r ih =>
    obtain ⟨x, d⟩ := q
    intro hq
    simp only [List.all_cons, Bool.and_eq_true] at hq
    simp only [List.map_cons, look]
    split
    ·exact ⟨rfl, hq.1⟩
    ·exact ih hq.2
  obtain ⟨e1, e2⟩ := hl env hoe
  rw [e1]
  exact mv_rel hij hi hj hjn (hat.act.rel p) e2
theorem imp_move {env e : Env} {h h' : H} {nid nid' n n' : Nat} (i j : Nat) {bi : Blk} (hij : i ≠ j) (hi : hget h i = some bi) (hj : hget h j = none) (hjn : j < nid) (h0 : n0 ≤ j)
  (hok : (h.all fun p => okMB j p.2) = true) (hoe : (env.all fun p => okM j p.2) = true) (hw : Imp n0 ⟨env.map fun p => (p.1, mvD i j p.2), mvH i j h, nid, n⟩ ⟨e, h', nid', n'⟩) : Imp n0 ⟨env, h, nid, n⟩ ⟨e, h', nid', n'⟩ := (Imp.move i j hij hi hj hjn h0 hok hoe).trans hw
theorem cells_mp (h : H) (b : Nat) : cellsE h (.mp b) = some [.mp b] := (rfl)
theorem cells_mpd (h : H) (k : List (D × D)) : cellsE h (.mpd k) = some [.mpd k] := (rfl)
theorem cells_nilm (h : H) : cellsE h .nilm = some [.nilm] := (rfl)
theorem cur_mp (h : H) (b : Nat) : curD h (.mp b) = true := (rfl)
theorem cur_mpd (h : H) (k : List (D × D)) : curD h (.mpd k) = true := (rfl)
theorem cur_nilm (h : H) : curD h .nilm = true := (rfl)
set_option linter.defProp false
def RM := And.intro @cells_mp <| And.intro @cells_mpd <| And.intro @cells_nilm <| And.intro @cur_mp <| And.intro @cur_mpd <| And.intro @cur_nilm <| And.intro @cur_ifc <| And.intro @cells_osl <| And.intro @cur_osl @curC_arr
end Go.Sx

/- Sx: maps from numbers to coded values. Own work. -/
namespace Go.Sx
variable {P : Program} {β : Type}
abbrev MpG (β : Type) := List (Int × β)
def gget : MpG β → Int → Option β
 | [], _ => none
 | (a, v) :: r, k => if k = a then some v else gget r k
def gput : MpG β → Int → β → MpG β
 | [], k, v => [(k, v)]
 | (a, w) :: r, k, v => if k = a then (k, v) :: r else (a, w) :: gput r k v
theorem gget_put : ∀ (m : MpG β) (k : Int) (v : β) (j : Int), gget (gput m k v) j = if j = k then some v else gget m j
 | [], k, v, j => by simp [gput, gget]
 | (a, w) :: r, k, v, j => by
  simp only [gput]
  by_cases h : k = a
  ·subst h
   simp only [if_true, gget]
   split <;> simp_all
  ·simp only [if_neg h, gget, gget_put r k v j]
   by_cases h2 : j = a
   ·subst h2
    have : ¬ j = k := fun e => h e.symm
    simp [this]
   ·simp [h2]
def gkv (vd : β → D) (m : MpG β) : List (D × D) := m.map fun p => (.int .i64 p.1, vd p.2)
theorem gkv_find (vd : β → D) (k : Int) : ∀ (m : MpG β) (i : Nat), (findK (.int .i64 k) (gkv vd m) i = none ∧ gget m k = none ∧ ∀ v : β, gkv vd m ++ [(.int .i64 k, vd v)] = gkv vd (gput m k v)) ∨
  ∃ j v0, findK (.int .i64 k) (gkv vd m) i = some (i + j, vd v0) ∧ gget m k = some v0 ∧ ∀ v : β, (gkv vd m).set j (.int .i64 k, vd v) = gkv vd (gput m k v)
 | [], i => .inl ⟨rfl, rfl, fun v => rfl⟩
 | (a, w) :: r, i => by
  by_cases h : k = a
  ·subst h
   refine .inr ⟨0, w, ?_, by simp [gget], fun v => by simp [gkv, gput]⟩
   simp [gkv, findK, keyEq]
  ·rcases gkv_find vd k r (i + 1) with ⟨h1, h2, h3⟩ | ⟨j, v0, h1, h2, h3⟩
   ·refine .inl ⟨?_, by simp [gget, h, h2], fun v => ?_⟩
    ·simp only [gkv, List.map_cons, findK]
     rw [if_neg (by simp [keyEq, h])]
     exact h1
    ·simp only [gput, if_neg h]
     have := h3 v
     simp only [gkv, List.map_cons, List.cons_append] at this ⊢
     rw [this]
   ·refine .inr ⟨j + 1, v0, ?_, by simp [gget, h, h2], fun v => ?_⟩
    ·simp only [gkv, List.map_cons, findK]
     rw [if_neg (by simp [keyEq, h])]
     have := h1
     simp only [gkv] at this
     rw [this, show i + 1 + j = i + (j + 1) by omega]
    ·simp only [gput, if_neg h]
     have := h3 v
     simp only [gkv, List.map_cons, List.set_cons_succ] at this ⊢
     rw [this]
section
variable {t kt et : TypeId} (hu : P.underlying t = some (.map kt et)) (hk : P.underlying kt = some (.int .i64))
include hk in
theorem g_fit (k : Int) : keyFit P kt (.int .i64 k) = true := by simp [keyFit, hk]
include hk in
theorem g_fits (vd : β → D) (m : MpG β) : ((gkv vd m).all fun p => keyFit P kt p.1) = true := by
 simp [gkv, g_fit hk]
def valG (vd : β → D) (z : D) (o : Option β) : D := match o with | some v => vd v | none => z
include hu hk
theorem gm_look {h : H} {b : Nat} {vd : β → D} {m : MpG β} {z : D} (hz : zeroV P et = some z) (hb : hget h b = some (.map (gkv vd m))) (k : Int) : lookupD P h t (.mp b) (.int .i64 k) true = some (.tup [valG vd z (gget m k), .bool (gget m k).isSome]) := by
 simp only [lookupD, hu, hb, g_fit hk, g_fits hk, Bool.and_self, if_true]
 rcases gkv_find vd k m 0 with ⟨h1, h2, _⟩ | ⟨j, v0, h1, h2, _⟩
 ·rw [h1, h2]; simp [lookR, hz, valG]
 ·rw [h1, h2]; simp [lookR, valG]
theorem gm_get {h : H} {b : Nat} {vd : β → D} {m : MpG β} {z : D} (hz : zeroV P et = some z) (hb : hget h b = some (.map (gkv vd m))) (k : Int) : lookupD P h t (.mp b) (.int .i64 k) false = some (valG vd z (gget m k)) := by
 simp only [lookupD, hu, hb, g_fit hk, g_fits hk, Bool.and_self, if_true]
 rcases gkv_find vd k m 0 with ⟨h1, h2, _⟩ | ⟨j, v0, h1, h2, _⟩
 ·rw [h1, h2]; simp [lookR, hz, valG]
 ·rw [h1, h2]; simp [lookR, valG]
theorem gd_look (h : H) {vd : β → D} (m : MpG β) {z : D} (hz : zeroV P et = some z) (k : Int) : lookupD P h t (.mpd (gkv vd m)) (.int .i64 k) true = some (.tup [valG vd z (gget m k), .bool (gget m k).isSome]) := by
 simp only [lookupD, hu, g_fit hk, g_fits hk, Bool.and_self, if_true]
 rcases gkv_find vd k m 0 with ⟨h1, h2, _⟩ | ⟨j, v0, h1, h2, _⟩
 ·rw [h1, h2]; simp [lookR, hz, valG]
 ·rw [h1, h2]; simp [lookR, valG]
theorem gd_get (h : H) {vd : β → D} (m : MpG β) {z : D} (hz : zeroV P et = some z) (k : Int) : lookupD P h t (.mpd (gkv vd m)) (.int .i64 k) false = some (valG vd z (gget m k)) := by
 simp only [lookupD, hu, g_fit hk, g_fits hk, Bool.and_self, if_true]
 rcases gkv_find vd k m 0 with ⟨h1, h2, _⟩ | ⟨j, v0, h1, h2, _⟩
 ·rw [h1, h2]; simp [lookR, hz, valG]
 ·rw [h1, h2]; simp [lookR, valG]
theorem gm_put {h : H} {b : Nat} {vd : β → D} {m : MpG β} (hb : hget h b = some (.map (gkv vd m))) (nid : Nat) (k : Int) {v : D} (x : β) (hx : v = vd x) (hn : v.nm = true) :
  mapUpdD P h nid t (.mp b) (.int .i64 k) v = some (.any, hset h b (.map (gkv vd (gput m k x))), nid) := by
 subst hx
 simp only [mapUpdD, hu, hb, g_fit hk, g_fits hk, hn, Bool.and_self, if_true]
 rcases gkv_find vd k m 0 with ⟨h1, _, h3⟩ | ⟨j, v0, h1, _, h3⟩
 ·rw [h1]
  simp only [h3 x]
 ·rw [h1]
  simp only [Nat.zero_add, h3 x]
end
theorem gkv_lt {vd : β → D} (hv : ∀ k x, D.lt k (vd x) = true) (k : Nat) : ∀ m : MpG β, D.ltL k ((gkv vd m).map (·.2)) = true
 | [] => rfl
 | p :: m => by
  have := gkv_lt hv k m
  simp only [gkv, List.map_cons, D.ltL, hv, Bool.true_and] at this ⊢
  exact this
end Go.Sx

/- Sx: ranges over iterators that range over iterators. Own work. -/
namespace Go.Sx

def KpX (S0 : Nat → Prop) (B B' : Nat) (W W' : World) : Prop := KpS S0 W W' ∧ KeepsFrom B W W' ∧ ∀ b, B ≤ b → b < B' → W'.heap[b]? = W.heap[b]?
def SeqX {α : Type} (P : Program) (gf : FuncId) (caps : List D) (encs : α → Array Value) (Sd Sp : List α → Prop) (N : Nat) : Prop :=
 ∀ (S0 : Nat → Prop) (w : World) (vc : List Value), (∀ b, S0 b → b < w.heap.size) → RelL (RXS S0 w) 0 vc caps →
 ∀ (l : Nat) (J0 : World → Prop) (J : Nat → List α → World → Prop) (Jx : List α → World → Prop), OwnFrom w.heap.size (fun (_ : Unit) W => J0 W) → (∀ B', OwnFrom w.heap.size (J B')) → OwnFrom w.heap.size Jx →
  (∀ W, J0 W → J W.heap.size [] W) →
  (∀ B' pre x W1, J B' pre W1 → pre.length < N → YieldAt (FW none) 0 P l (encs x) W1 fun e W' =>
   (e = .returned (.bool true) ∧ J B' (pre ++ [x]) W' ∧ KpX S0 w.heap.size B' W1 W') ∨ (e = .returned (.bool false) ∧ Jx (pre ++ [x]) W' ∧ KeepsFrom w.heap.size W1 W')) →
  J0 w → CallsIn (FW none) 0 P gf (#[.func (.yield l) #[] #[]] ++ vc.toArray) w fun e W' => (∃ v, e = .returned v) ∧ ((∃ xs B', Sd xs ∧ J B' xs W') ∨ (∃ pre, Sp pre ∧ Jx pre W'))
theorem own_abides {β : Type} {B : Nat} {J : β → World → Prop} (h : OwnFrom B J) : AbidesFrom B J := fun s W W' row hs hg hr => h s W W' row hs hg fun r e => by
 obtain ⟨h1, o, h2, h3⟩ := hr r e
 exact ⟨h1, o, h2, Obj.not_cells_of_walk h3⟩
theorem SeqP.toX {α : Type} {P : Program} {gf : FuncId} {caps : List D} {encs : α → Array Value} {Sd Sp : List α → Prop} {N : Nat} (h : SeqP P gf caps encs Sd Sp N) : SeqX P gf caps encs Sd Sp N := by
 intro S0 w vc hS hrel l J0 J Jx _ hJ hJx hfix hY h0
 refine (h S0 w vc hS hrel l (J w.heap.size) Jx w (RowKit.Below.refl _ _) (own_abides (hJ _)) (own_abides hJx) (fun pre x W1 h1 h2 => ?_) (hfix _ h0)).mono ?_
 ·obtain ⟨fn, tmps, assign, body, h5, h6⟩ := hY _ pre x W1 h1 h2
  refine ⟨fn, tmps, assign, body, h5, h6.mono ?_⟩
  rintro e W' (⟨a, b, c⟩ | ⟨a, b, _⟩)
  ·exact .inl ⟨a, b, c.1⟩
  ·exact .inr ⟨a, b⟩
 ·rintro e W' ⟨hv, ⟨xs, a, b⟩ | h⟩
  ·exact ⟨hv, .inl ⟨xs, _, a, b⟩⟩
  ·exact ⟨hv, .inr h⟩

section
variable {P : Program} {O : Oracle} {n0 : Nat}
theorem awp_rangeX {α : Type} {g : Operand} {ps : Array Tmp} {asg body : Code} {s : St} {Q : Ex → St → Prop} {gf : FuncId} {caps : List D} {encs : α → Array Value} {ds : α → List D} {N : Nat} {Sd Sp : List α → Prop}
  (hm : P.follows .mixedOrders = true) (T : List (Nat × List Ann)) (hta : tabOk T asg = true) (ht : tabOk T body = true) (hO : OkO P O)
  (hg : evO s.env g = .fn (.func gf) [] caps) (hcl : D.ltL 0 caps = true) (hcal : callable P gf = true) (hseq : SeqX P gf caps encs Sd Sp N) (hps : ∀ x, (encs x).size = ps.size)
  (henc : ∀ (R : Rx) (n : Nat) x, RelL R n (encs x).toList (ds x))
  (hh : List α → H) (m : Nat) (I : List α → Prop) (h0 : I []) (hw : Weak n0 s ⟨s.env, hh [], m, s.n⟩) (hnm : ∀ xs, mapsIn (hh []) (hh xs) = true)
  (round : ∀ l pre x, I pre → pre.length < N → AWp P m (some l) asg ⟨parEnv s.n ps.toList (ds x) s.env, hh pre, m, s.n⟩ (thenQ (fun s1 => AWp P m (some l) body s1 fun e s' =>
   match e with
   | .normal => I (pre ++ [x]) ∧ headW m ⟨s.env, s'.h, s'.nid, s.n⟩ s.env (hh (pre ++ [x])) m s.n
   | e => mapsIn (hh []) s'.h = true ∧ (Sp (pre ++ [x]) → Q e ⟨s.env, s'.h, s'.nid, s.n⟩)) fun _ _ => False))
  (hdone : ∀ xs, Sd xs → I xs → Q .normal ⟨s.env, hh xs, m, s.n⟩) : AWp P n0 none (.rangeFunc g ps asg body) s Q := by
 intro X k0 k a hn hat
 obtain ⟨k1, hk1, hat1⟩ := hat.weak hn hw
 rw [← hk1]
 obtain ⟨ms, hd, hnd, hms⟩ := hat.act.marks
 have hB : k0.w.heap.size ≤ k1.w.heap.size := hat1.le.size
 have hmk : ∀ r, markD r ∈ a.defers → r < k1.w.heap.size := fun r hr => by
  rw [hd] at hr
  obtain ⟨q, hq, he⟩ := List.mem_map.1 hr
  have : q = r := by simpa [markD] using he
  subst this
  rcases Nat.lt_or_ge q k1.w.heap.size with h | h
  ·exact h
  ·have := (hms q hq).2; rw [← hk1, Array.getElem?_eq_none h] at this; cases this
 obtain ⟨vc, hev, hvc⟩ : ∃ vc : List Value, a.eval g = .func (.func gf) #[] vc.toArray ∧ RelL (k1.R X) k1.nid vc caps := by
  have hr := hat1.act.eval g
  rw [show evO s.env g = _ from hg] at hr
  generalize a.eval g = v at hr
  cases hr with
  | fn _ _ va vc _ _ h1 h2 h3 h4 =>
   have e1 : va = [] := by simpa using h1
   subst e1
   exact ⟨vc, rfl, h2, h4⟩
 have hS : ∀ b, (k1.R X).S b → b < k1.w.heap.size := fun b h => h.1
 have hvc0 : RelL (RXS (k1.R X).S k1.w) 0 vc caps := ⟨hvc.1, fun i v d x y => by
  have h1 := (hvc.2 i v d x y).roll (m := 0) (D.ltL_get hcl i d y)
  exact h1.mono { β := fun b hb => by omega, arr := fun b hb => by omega, S := fun b h => rs_S.2 ⟨h.1, h⟩, heap := fun _ _ _ => rfl, map := fun _ _ _ _ h => h }⟩
 have hnid1 : k1.nid = m := hat1.nid
 have hmaps : ∀ (k : Cx) (h' : H), mapsIn (hh []) h' = true → k.h = h' → Le k1 k → ∀ id kvs, hget k.h id = some (.map kvs) → k.β id < k1.w.heap.size := fun k h' hb he hf id kvs hid => by
  obtain ⟨kvs', h1⟩ := mapsIn_get hb (he ▸ hid)
  have h2 : hget k1.h id = some (.map kvs') := by rw [show k1.h = _ from hat1.h]; exact h1
  rw [hf.β id (hat1.good.key id _ h2)]
  exact (hat1.good.lt id _ (by rw [own_of_hget h2]; rfl)).1
 obtain ⟨D, hD⟩ : ∃ D, D = k1.w.heap.size := ⟨_, rfl⟩
 refine wpIn_n (n := 1) (wpIn_rangeFunc fun fn hfn => ?_)
 obtain ⟨rec, hrec⟩ : ∃ rec : LoopState → Option Code → Loop, rec = fun st pe => { state := st, pending := pe, fn, tmps := a.tmps, params := ps, assign := asg, body, defers := k1.w.heap.size } := ⟨_, rfl⟩
 obtain ⟨W1, hW1⟩ : ∃ W1, (k1.w.alloc (.deferred (some []))).alloc (.loop (rec .ready none)) = W1 := ⟨_, rfl⟩
 have hsz1 : W1.heap.size = D + 2 := by rw [← hW1, hD]; simp
 have hL1 : W1.heap[D + 1]? = some (.loop (rec .ready none)) := by
  rw [← hW1, hD]; have := World.alloc_heap_new (k1.w.alloc (.deferred (some []))) (.loop (rec .ready none)); rwa [World.size_alloc] at this
 have hK1 : W1.heap[D]? = some (.deferred (some [])) := by
  rw [← hW1, hD]; exact (alloc_heap _ _ _ (by simp)).trans (alloc_heap_new k1.w _)
 -- what is kept of the caller's memory
 have grow : ∀ (pre : List α) (k : Cx) (W' : World) (row : Option Nat), At X k0 k a ⟨s.env, hh pre, m, s.n⟩ → Le k1 k → k.w.grownBy W' row → (∀ r, row = some r → k1.w.heap.size ≤ r ∧ ∃ o : Obj, k.w.heap[r]? = some o ∧ o.isCells = false) →
   At X k0 { k with w := W' } a ⟨s.env, hh pre, m, s.n⟩ ∧ Le k1 { k with w := W' } := fun pre k W' row ha hf hgr hrow =>
  ⟨hat1.grownM rfl hf ha hgr hrow (mapsIn_nm (hnm pre)) (hmaps k _ (hnm pre) ha.h hf) hmk, le_grown hf hgr fun r h => (hrow r h).1⟩
 have growX : ∀ (h' : H) (nid' : Nat) (k : Cx) (W' : World) (row : Option Nat), mapsIn (hh []) h' = true → At X k0 k a ⟨s.env, h', nid', s.n⟩ → Le k1 k → k.w.grownBy W' row → (∀ r, row = some r → k1.w.heap.size ≤ r ∧ ∃ o : Obj, k.w.heap[r]? = some o ∧ o.isCells = false) →
   At X k0 { k with w := W' } a ⟨s.env, h', nid', s.n⟩ ∧ Le k1 { k with w := W' } := fun h' nid' k W' row hb ha hf hgr hrow =>
  ⟨hat1.grownM rfl hf ha hgr hrow (mapsIn_nm hb) (hmaps k _ hb ha.h hf) hmk, le_grown hf hgr fun r h => (hrow r h).1⟩
 have hne : ∀ {A B : World} {row : Option Nat} {b : Nat} {o : Obj}, A.grownBy B row → (∀ r, row = some r → W1.heap.size ≤ r ∧ ∃ o : Obj, A.heap[r]? = some o ∧ o.isCells = false) → b < D + 2 → A.heap[b]? = some o → B.heap[b]? = some o := fun hgr hr hb h =>
  (hgr.block _ (Array.getElem?_eq_some_iff.1 h).1 fun e => by
   have := (hr _ e.symm).1
   omega).trans h
 have hrowW : ∀ {A : World} {row : Option Nat}, (∀ r, row = some r → W1.heap.size ≤ r ∧ ∃ o : Obj, A.heap[r]? = some o ∧ o.isCells = false) → ∀ r, row = some r → k1.w.heap.size ≤ r ∧ ∃ o : Obj, A.heap[r]? = some o ∧ o.isCells = false := fun hr r e => by
  obtain ⟨h1, o, h2, h3⟩ := hr r e
  exact ⟨by omega, o, h2, h3⟩
 have hmarkD : ∀ (W : World) (k' : Cx) (s' : St), k'.w = W → At X k0 k' a s' → W.heap[D]? = some (.deferred (some [])) → At X k0 k' { a with defers := { target := .collected D, args := #[] } :: a.defers } s' := fun W k' s' hW hat' hdef => by
  refine ⟨hat'.h, hat'.nid, hat'.good, hat'.le, hat'.act.size, hat'.act.rel, ?_⟩
  obtain ⟨ms', hd', hnd', hms'⟩ := hat'.act.marks
  refine ⟨D :: ms', by show _ :: a.defers = _; rw [show a.defers = _ from hd']; rfl, List.nodup_cons.2 ⟨fun hD' => ?_, hnd'⟩, fun r hr => ?_⟩
  ·have := hmk D (by rw [show a.defers = _ from hd']; exact List.mem_map_of_mem hD'); omega
  ·rcases List.mem_cons.1 hr with rfl | hr
   ·exact ⟨by omega, by rw [hW]; exact hdef⟩
   ·exact hms' r hr
 refine ⟨D + 1, [{ target := .collected D, args := #[] }], W1, { target := .fn (.func gf) vc.toArray, args := #[.func (.yield (D + 1)) #[] #[]] }, W1, gf, #[.func (.yield (D + 1)) #[] #[]] ++ vc.toArray, W1, ?_, ?_, fun _ _ => trivial, ?_, fun h => by simp [FW, Fence.wide] at h, ?_⟩
 ·rw [← hW1, hrec, hD]; exact run_enterLoop_outer _ _ _ _ _
 ·simp only [resolve, hev]
  simp [go_sem]
 ·simp [invoke, go_sem, run_callFunc hcal]
 have hbel : RowKit.Below k1.w.heap.size k1.w W1 := by
  rw [← hW1]; exact ((RowKit.Below.refl _ k1.w).alloc (Nat.le_refl _) _).alloc (by simp) _
 have hmut1 : ∀ b, k1.Mut b → b < k1.w.heap.size := fun b ⟨id, h⟩ => (hat1.good.lt id b h).1
 have hstart : ∃ k, k.w = W1 ∧ At X k0 k a ⟨s.env, hh [], m, s.n⟩ ∧ Le k1 k ∧ ∀ b, k.Mut b → b < D + 2 := by
  obtain ⟨a1, b1⟩ := grow [] k1 _ none hat1 (.refl k1) (World.grownBy_alloc k1.w (.deferred (some [])) none) fun r e => by cases e
  obtain ⟨a2, b2⟩ := grow [] _ _ none a1 b1 (World.grownBy_alloc (k1.w.alloc (.deferred (some []))) (.loop (rec .ready none)) none) fun r e => by cases e
  exact ⟨_, hW1, a2, b2, fun b hb => by have := hmut1 b hb; omega⟩
 have hvc1 : RelL (RXS (k1.R X).S W1) 0 vc caps := ⟨hvc0.1, fun i v d x y => (hvc0.2 i v d x y).mono (rs_mono (fun b hb => hbel.block b (hS b hb)) hbel.size)⟩
 refine (hseq (k1.R X).S W1 vc (fun b hb => Nat.lt_of_lt_of_le (hS b hb) hbel.size) hvc1 (D + 1)
  (fun W => (∃ k, k.w = W ∧ At X k0 k a ⟨s.env, hh [], m, s.n⟩ ∧ Le k1 k ∧ ∀ b, k.Mut b → b < D + 2) ∧ W.heap[D + 1]? = some (.loop (rec .ready none)) ∧ W.heap[D]? = some (.deferred (some [])))
  (fun B' pre W => (∃ k, k.w = W ∧ I pre ∧ At X k0 k a ⟨s.env, hh pre, m, s.n⟩ ∧ Le k1 k ∧ (∀ b, D + 2 ≤ b → b < B' → ¬ k.Mut b) ∧ B' ≤ W.heap.size) ∧ W.heap[D + 1]? = some (.loop (rec .ready none)) ∧ W.heap[D]? = some (.deferred (some [])))
  (fun pre W => ∃ e, (∃ k h' nid', k.w = W ∧ e ≠ .normal ∧ mapsIn (hh []) h' = true ∧ (Sp pre → Q e ⟨s.env, h', nid', s.n⟩) ∧ At X k0 k a ⟨s.env, h', nid', s.n⟩ ∧ Le k1 k) ∧ W.heap[D + 1]? = some (.loop (rec .done (some (codeOf e)))) ∧ W.heap[D]? = some (.deferred (some [])))
  ?_ ?_ ?_ ?_ ?_ ⟨hstart, hL1, hK1⟩).mono ?_
 ·rintro _ A B row ⟨⟨k, rfl, ha, hf, hmu⟩, h1, h2⟩ hgr hr
  obtain ⟨a1, b1⟩ := grow [] k B row ha hf hgr (hrowW hr)
  exact ⟨⟨_, rfl, a1, b1, hmu⟩, hne hgr hr (by omega) h1, hne hgr hr (by omega) h2⟩
 ·rintro B' pre A B row ⟨⟨k, rfl, hi, ha, hf, hmu, hB'⟩, h1, h2⟩ hgr hr
  obtain ⟨a1, b1⟩ := grow pre k B row ha hf hgr (hrowW hr)
  exact ⟨⟨_, rfl, hi, a1, b1, hmu, Nat.le_trans hB' hgr.size⟩, hne hgr hr (by omega) h1, hne hgr hr (by omega) h2⟩
 ·rintro pre A B row ⟨e, ⟨k, h', nid', rfl, he, hb, hq, ha, hf⟩, h1, h2⟩ hgr hr
  obtain ⟨a1, b1⟩ := growX h' nid' k B row hb ha hf hgr (hrowW hr)
  exact ⟨e, ⟨_, h', nid', rfl, he, hb, hq, a1, b1⟩, hne hgr hr (by omega) h1, hne hgr hr (by omega) h2⟩
 ·rintro W ⟨⟨k, rfl, ha, hf, hmu⟩, h1, h2⟩
  exact ⟨⟨k, rfl, h0, ha, hf, fun b hb _ hm => by have := hmu b hm; omega, Nat.le_refl _⟩, h1, h2⟩
 ·-- one round
  rintro B' pre x W ⟨⟨k, rfl, hi, ha, hf, hmu, hB'⟩, hl, hdf⟩ hlen
  have hkm : k.nid = m := ha.nid
  have hDk : D + 1 < k.w.heap.size := (Array.getElem?_eq_some_iff.1 hl).1
  have hnoM : ∀ b, k1.w.heap.size ≤ b → ∀ (o : Obj), k.w.heap[b]? = some o → o.isCells = false → ¬ k.Mut b := fun b hbB o hb ho ⟨id, hid⟩ => by
   rcases own_kind ha.good hid with ⟨c, t, f, hc⟩ | ⟨kvs, hmp, rfl⟩
   ·rw [hc] at hb; cases hb; cases ho
   ·have := hmaps k _ (hnm pre) ha.h hf id kvs hmp; omega
  have hy := run_yield (P := P) (args := encs x) hl (by rw [hrec]; exact hps x)
  have hfold : ((rec .ready none).params.zip (encs x)).foldl (fun t (p, v) => t.setIfInBounds p v) (rec .ready none).tmps = parAct ps.toList (encs x).toList a.tmps := by
   rw [hrec, parAct, ← Array.toList_zip, Array.foldl_toList]
  rw [hfold, show (rec .ready none).fn = fn by rw [hrec], show (rec .ready none).assign = asg by rw [hrec], show (rec .ready none).body = body by rw [hrec]] at hy
  refine ⟨fn, _, asg, body, hy, roundIn_of_wpIn hfn ?_⟩
  have hact0 : ActOk X k k.w.heap.size { tmps := a.tmps, defers := [] } s.env s.n := ⟨ha.act.size, ha.act.rel, [], rfl, List.nodup_nil, by simp⟩
  have hact1 := par_act ps.toList (encs x).toList (ds x) _ _ s.n (henc _ _ x) hact0
  have hatb : At X k k { tmps := parAct ps.toList (encs x).toList a.tmps, defers := [] } ⟨parEnv s.n ps.toList (ds x) s.env, hh pre, m, s.n⟩ := ⟨ha.h, ha.nid, ha.good, .refl k, hact1⟩
  refine wpIn_mono (wpIn_n (round (D + 1) pre x hi hlen X k k _ hkm hatb)) ?_
  rintro e a1 W' ⟨ex, ka, s1, hex, rfl, hq, hata⟩
  have hnorm : ex = .normal := by cases ex <;> first | rfl | exact hq.elim
  subst hnorm
  have he : e = .normal := by cases e <;> simp [exOf] at hex <;> rfl
  subst he
  have hla : ka.w.heap[D + 1]? = some (.loop (rec .ready none)) := (hata.le.heap _ hDk (hnoM _ (by omega) _ hl rfl)).trans hl
  have hda : ka.w.heap[D]? = some (.deferred (some [])) := (hata.le.heap _ (by omega) (hnoM _ (by omega) _ hdf rfl)).trans hdf
  show ∃ w₂, _ ∧ _
  refine ⟨_, run_beginRound hla (by rw [hrec]), ?_⟩
  obtain ⟨rb, hrb⟩ : ∃ rb : Loop, rb = { rec .ready none with state := .busy } := ⟨_, rfl⟩
  rw [← hrb]
  have hatc : At X (k.putO (D + 1) rb) (ka.putO (D + 1) rb) a1 s1 := putO_at rb hDk hla hata
  -- the caller, with the record turned
  obtain ⟨hap, hfp⟩ := grow pre k (k.w.putObj (D + 1) (.loop rb)) (some (D + 1)) ha hf (grownBy_putObj' _ _ _) fun r h => by cases h; exact ⟨by omega, _, hl, rfl⟩
  refine wpIn_mono (wpIn_n (hq X (k.putO (D + 1) rb) (ka.putO (D + 1) rb) a1 hkm hatc)) ?_
  rintro e a3 W3 ⟨ex, k3, s3, hex3, rfl, hq3, hat3⟩
  have hkp0 : (k.putO (D + 1) rb).w.heap.size = k.w.heap.size := putO_size _ _ _
  have hl3 : k3.w.heap[D + 1]? = some (.loop rb) := (hat3.le.heap _ (by rw [hkp0]; exact hDk) (hnoM _ (by omega) _ hl rfl)).trans (putO_heap_l k rb hDk)
  have hd3 : k3.w.heap[D]? = some (.deferred (some [])) := (hat3.le.heap _ (by rw [hkp0]; omega) (hnoM _ (by omega) _ hdf rfl)).trans ((putO_heap k rb (by omega)).trans hdf)
  have hback : At X k0 k3 a ⟨s.env, s3.h, s3.nid, s.n⟩ := ⟨hat3.h, hat3.nid, hat3.good, hap.le.trans hat3.le, hap.act.le hap.good hat3.le⟩
  have hfol : Le k1 k3 := hfp.trans hat3.le
  have hD3 : D + 1 < k3.w.heap.size := (Array.getElem?_eq_some_iff.1 hl3).1
  have hend := fun jump => run_endRound (P := P) jump hl3
  have hrn : { rb with state := LoopState.ready, pending := none } = rec .ready none := by rw [hrb, hrec]
  have hrd : ∀ c, { rb with state := LoopState.done, pending := some c } = rec .done (some c) := fun c => by rw [hrb, hrec]
  have hkp : ∀ o, KpS (k1.R X).S k.w (k3.w.putObj (D + 1) (.loop o)) := fun o => ⟨by
   have := hat3.le.size; rw [hkp0] at this; simpa using this, fun b hb => by
   have hbD : b ≠ D + 1 := by have := hS b hb; omega
   have hbl : b < k.w.heap.size := Nat.lt_of_lt_of_le (hS b hb) hf.size
   have hnm : ¬ k.Mut b := fun hmu => hb.2.2 (hf.mb b (hS b hb) hmu)
   exact (World.putObj_heap_other hbD).trans ((hat3.le.heap b (by rw [hkp0]; exact hbl) hnm).trans (putO_heap k rb hbD))⟩
  have hkf : ∀ o, KeepsFrom W1.heap.size k.w (k3.w.putObj (D + 1) (.loop o)) := fun o => ⟨(hkp o).1, fun b ob hb h ho => by
   have hbl : b < k.w.heap.size := (Array.getElem?_eq_some_iff.1 h).1
   exact ((World.putObj_heap_other (by omega)).trans ((hat3.le.heap b (by rw [hkp0]; exact hbl) (hnoM b (by omega) ob h ho)).trans (putO_heap k rb (by omega)))).trans h⟩
  have hkx : ∀ o, KpX (k1.R X).S W1.heap.size B' k.w (k3.w.putObj (D + 1) (.loop o)) := fun o => ⟨hkp o, hkf o, fun b h1 h2 =>
   (World.putObj_heap_other (by omega)).trans ((hat3.le.heap b (by rw [hkp0]; omega) (hmu b (by omega) h2)).trans (putO_heap k rb (by omega)))⟩
  have hother : ∀ o, (k3.w.putObj (D + 1) (.loop o)).heap[D]? = some (.deferred (some [])) := fun o => (World.putObj_heap_other (by omega)).trans hd3
  have hlast : ∀ o, (k3.w.putObj (D + 1) (.loop o)).heap[D + 1]? = some (.loop o) := fun o => World.putObj_heap_same hD3
  have hexit : ∀ (x' : Ex), x' ≠ .normal → mapsIn (hh []) s3.h = true ∧ (Sp (pre ++ [x]) → Q x' ⟨s.env, s3.h, s3.nid, s.n⟩) →
    (∃ k h' nid', k.w = k3.w.putObj (D + 1) (.loop (rec .done (some (codeOf x')))) ∧ x' ≠ .normal ∧ mapsIn (hh []) h' = true ∧ (Sp (pre ++ [x]) → Q x' ⟨s.env, h', nid', s.n⟩) ∧ At X k0 k a ⟨s.env, h', nid', s.n⟩ ∧ Le k1 k) := fun x' hx' hq' => by
   obtain ⟨a4, b4⟩ := growX s3.h s3.nid k3 (k3.w.putObj (D + 1) (.loop (rec .done (some (codeOf x'))))) (some (D + 1)) hq'.1 hback hfol (grownBy_putObj' _ _ _) fun r h => by cases h; exact ⟨by omega, _, hl3, rfl⟩
   exact ⟨_, s3.h, s3.nid, rfl, hx', hq'.1, hq'.2, a4, b4⟩
  cases ex with
  | normal =>
   have he : e = .normal := by cases e <;> simp [exOf] at hex3 <;> rfl
   subst he
   obtain ⟨hi', hwk⟩ := hq3
   obtain ⟨k4, hk4, hat4, hl4⟩ := At.weakG hback hn (weak_of (n0 := n0) ⟨hwk.1, hw.nid, hwk.2.2.1, hwk.2.2.2⟩)
   obtain ⟨a5, b5⟩ := grow (pre ++ [x]) k4 (k3.w.putObj (D + 1) (.loop (rec .ready none))) (some (D + 1)) hat4 (hl4 k1 hfol (Nat.le_of_eq hat1.nid)) (by rw [hk4]; exact grownBy_putObj' _ _ _) fun r h => by cases h; exact ⟨by omega, _, by rw [hk4]; exact hl3, rfl⟩
   have h1 := hend none
   simp only [Option.isNone_none, if_true] at h1
   rw [hrn] at h1
   have hle4 := (hl4 (k.putO (D + 1) rb) hat3.le (Nat.le_of_eq hkm)).mb
   have hmu4 : ∀ b, D + 2 ≤ b → b < B' → ¬ k4.Mut b := fun b h1 h2 h3 => hmu b h1 h2 (hle4 b (by rw [hkp0]; omega) h3)
   exact ⟨_, _, h1, .inl ⟨rfl, ⟨⟨_, rfl, hi', a5, b5, hmu4, Nat.le_trans hB' (hkp (rec .ready none)).1⟩, hlast _, hother _⟩, hkx _⟩⟩
  | ret =>
   have he : e = .ret := by cases e <;> simp [exOf] at hex3 <;> rfl
   subst he
   have h1 := hend (some .ret)
   simp only [Option.isNone_some, Bool.false_eq_true, if_false] at h1
   rw [hrd] at h1
   exact ⟨_, _, h1, .inr ⟨rfl, ⟨.ret, hexit .ret (by simp) hq3, hlast _, hother _⟩, hkf _⟩⟩
  | exit i =>
   have he : e = .exit i := by cases e <;> simp [exOf] at hex3 <;> rw [hex3]
   subst he
   have h1 := hend (some (.exit i))
   simp only [Option.isNone_some, Bool.false_eq_true, if_false] at h1
   rw [hrd] at h1
   exact ⟨_, _, h1, .inr ⟨rfl, ⟨.exit i, hexit (.exit i) (by simp) hq3, hlast _, hother _⟩, hkf _⟩⟩
 ·-- behind the iterator
  rintro e W2 ⟨⟨v, rfl⟩, ⟨xs, B', hxs, ⟨k, rfl, hi, ha, hf, _, _⟩, hl, hdf⟩ | ⟨pre, hpre, e, ⟨k, h', nid', rfl, he, hb, hq, ha, hf⟩, hl, hdf⟩⟩
  ·obtain ⟨a1, b1⟩ := grow xs k (k.w.putObj (D + 1) (.loop { rec .ready none with state := .exhausted })) (some (D + 1)) ha hf (grownBy_putObj' _ _ _) fun r h => by cases h; exact ⟨by omega, _, hl, rfl⟩
   refine ⟨none, _, (run_endLoop (P := P) hl (by rw [hrec]; simp)).trans (congrArg (fun p => Result.ok p _) (show (rec .ready none).pending = none by rw [hrec])), ?_⟩
   exact ⟨.normal, _, _, rfl, rfl, hdone xs hxs hi, hmarkD _ _ _ rfl a1 ((World.putObj_heap_other (by omega)).trans hdf)⟩
  ·obtain ⟨a1, b1⟩ := growX h' nid' k (k.w.putObj (D + 1) (.loop { rec .done (some (codeOf e)) with state := .exhausted })) (some (D + 1)) hb ha hf (grownBy_putObj' _ _ _) fun r h => by cases h; exact ⟨by omega, _, hl, rfl⟩
   refine ⟨some (codeOf e), _, (run_endLoop (P := P) hl (by rw [hrec]; simp)).trans (congrArg (fun p => Result.ok p _) (show (rec .done (some (codeOf e))).pending = some (codeOf e) by rw [hrec])), ?_⟩
   have hfin := hmarkD _ _ _ rfl a1 ((World.putObj_heap_other (by omega)).trans hdf)
   cases e with
   | normal => exact absurd rfl he
   | ret => exact wpIn_ret ⟨.ret, _, _, rfl, rfl, hq hpre, hfin⟩
   | exit i => exact wpIn_exit ⟨.exit i, _, _, rfl, rfl, hq hpre, hfin⟩
theorem rangeX {α : Type} {g : Operand} {ps : Array Tmp} {asg body : Code} {env : Env} {h : H} {nid n : Nat} {Q : Ex → St → Prop} {u : Tag (Code.rangeFunc g ps asg body, Q)} {gf : FuncId} {caps : List D} {encs : α → Array Value} {ds : α → List D} {N : Nat} {Sd Sp : List α → Prop}
  (hO : OkO P O) (T : List (Nat × List Ann)) (hm : P.follows .mixedOrders = true) (hta : tabOk T asg = true) (ht : tabOk T body = true) (hseq : SeqX P gf caps encs Sd Sp N) (hcal : callable P gf = true)
  (hps : ∀ x, (encs x).size = ps.size) (henc : ∀ (R : Rx) (n : Nat) x, RelL R n (encs x).toList (ds x)) (hcl : D.ltL 0 caps = true)
  (E : Env) (hh : List α → H) (m : Nat) (I : List α → Prop) (h0 : I []) (hg : evO E g = .fn (.func gf) [] caps) (hnm : ∀ xs, mapsIn (hh []) (hh xs) = true) (hw : headW n0 ⟨env, h, nid, n⟩ E (hh []) m n)
  (round : ∀ l pre x, I pre → pre.length < N → wc P m (some l) T O asg ⟨parEnv n ps.toList (ds x) E, hh pre, m, n⟩
   (thenQ (fun s1 => wc P m (some l) T O body s1 (thenQ (fun s' => I (pre ++ [x]) ∧ headW m ⟨E, s'.h, s'.nid, n⟩ E (hh (pre ++ [x])) m n) fun e s' => mapsIn (hh []) s'.h = true ∧ (Sp (pre ++ [x]) → Q e ⟨E, s'.h, s'.nid, n⟩))) fun _ _ => False))
  (hdone : ∀ xs, Sd xs → I xs → Q .normal ⟨E, hh xs, m, n⟩) : LoopV P n0 none (.rangeFunc g ps asg body) ⟨env, h, nid, n⟩ Q u := by
 refine awp_weak (weak_of hw) (awp_rangeX (s := ⟨E, hh [], m, n⟩) hm T hta ht hO hg hcl hcal hseq hps henc hh m I h0 ?_ hnm (fun l pre x hi hl => ?_) hdone)
 ·have hk := weak_of hw
  exact ⟨rfl, fun i => .inr ⟨rfl, .inl (Nat.le_refl _)⟩, fun _ _ h => h, hk.key, hk.nid, .inl (Nat.le_refl _)⟩
 ·refine awp_mono (wc_sound hO hm asg _ _ hta (round l pre x hi hl)) fun e s1 h1 => ?_
  cases e with
  | normal =>
   refine awp_mono (wc_sound hO hm body _ _ ht h1) fun e s' h' => ?_
   cases e <;> exact h'
  | _ => exact h1
end

section
variable {F : Fence} {n : Nat} {P : Program} {ops : Array Oper} {Q : Exit → Act → World → Prop}
def appQ (Q : Exit → Act → World → Prop) (R : Act → World → Prop) : Exit → Act → World → Prop
 | .normal, a, w => R a w
 | e, a, w => Q e a w
theorem oper_app {o : Oper} {a : Act} {w : World} {R : Act → World → Prop} {K K' : Act → World → Prop} (h : ∀ a w, K a w → K' a w) (hh : o.wpIn F n P a w K (appQ Q R)) : o.wpIn F n P a w K' Q := by
 refine ⟨hh.1, ?_⟩
 have h2 := hh.2
 generalize (o.semAt F.round a.eval).run P w = r at *
 cases r with
 | ok x w' =>
  cases x <;> simp only [Oper.uponIn] at h2 ⊢ <;>
   first
    | exact h _ _ h2
    | exact ⟨h2.1, CallsIn.mono h2.2 (fun e w'' he => by cases e <;> first | exact h _ _ he | exact he)⟩
    | exact ⟨h2.1, RowsIn.mono h2.2 (fun _ _ he => h _ _ he)⟩
    | exact ⟨h2.1, RoundIn.mono h2.2 (fun e w'' he => by cases e <;> first | exact h _ _ he | exact he)⟩
 | halt x w' => cases x <;> simp only [Oper.uponIn] at h2 ⊢ <;> exact h2
theorem ops_app (l2 : List Nat) : ∀ (l1 : List Nat) (a : Act) (w : World), wpOpsIn F n P ops (appQ Q (wpOpsIn F n P ops Q l2)) l1 a w → wpOpsIn F n P ops Q (l1 ++ l2) a w
 | [], a, w, h => h
 | i :: r, a, w, h => by
  rw [List.cons_append, wpOpsIn_cons]
  rw [wpOpsIn_cons] at h
  unfold wpOpIn at *
  split
  ·rename_i ho
   rw [ho] at h
   exact ops_app l2 r a w h
  ·rename_i o ho
   rw [ho] at h
   simp only at h
   split
   ·rename_i hw
    rw [if_pos hw] at h
    exact oper_app (ops_app l2 r) h
   ·rename_i hw
    rw [if_neg hw] at h
    exact ⟨h.1, ops_app l2 r _ _ h.2⟩
end
section
variable {P : Program} {O : Oracle} {n0 : Nat} {ro : Option Nat} {ops : Array Oper}
theorem wcOps_pre (hO : OkO P O) : ∀ (l : List Oper) (i : Nat) (s : St) (K : St → Prop), (∀ j, j < l.length → l[j]? = ops[i + j]?) → wcOps P O ops l s K → AOps P n0 ro ops ((List.range l.length).map (i + ·)) s K
 | [], i, s, K, _, h => aops_nil h
 | o :: rest, i, s, K, hl, h => by
  have ho : ops[i]? = some o := by have := hl 0 (by simp); simpa using this.symm
  have hrest : ∀ j, j < rest.length → rest[j]? = ops[i + 1 + j]? := fun j hj => by have := hl (j + 1) (by simpa using hj); simp at this; rw [this]; congr 1; omega
  have hmap : (List.range (o :: rest).length).map (i + ·) = i :: (List.range rest.length).map (i + 1 + ·) := by
   rw [List.length_cons, List.range_succ_eq_map, List.map_cons, List.map_map]
   simp only [Nat.add_zero, List.cons.injEq, true_and]
   apply List.map_congr_left
   intro a _
   simp only [Function.comp]; omega
  rw [hmap]
  simp only [wcOps] at h
  split at h
  ·rename_i hg
   exact aops_cons ho hg (opOk_resK hO (s := s) h fun d h' nid' hk => wcOps_pre hO rest (i + 1) _ K hrest hk)
  ·rename_i j want hg
   split at h
   ·rename_i t hj
    split at h
    ·rename_i b hb
     refine aops_guard ho hg hj hb (fun e => ?_) (fun e => ?_)
     ·exact opOk_resK hO (s := { s with env := (t, .bool want) :: s.env }) (h.1 (by subst e; simp)) fun d h' nid' hk => wcOps_pre hO rest (i + 1) _ K hrest hk
     ·exact wcOps_pre hO rest (i + 1) _ K hrest (h.2 (by subst e; cases want <;> rfl))
    ·rename_i hb
     exact aops_off ho hg hj hb (wcOps_pre hO rest (i + 1) _ K hrest h)
    ·exact h.elim
   ·exact h.elim

theorem range_split {m n : Nat} (h : m < n) : List.range n = (List.range m).map (0 + ·) ++ m :: (List.range (n - (m + 1))).map (m + 1 + ·) := by
 obtain ⟨k, rfl⟩ : ∃ k, n = m + 1 + k := ⟨n - (m + 1), by omega⟩
 rw [List.range_add, List.range_succ, show m + 1 + k - (m + 1) = k by omega]
 simp
end
section
variable {P : Program} {O : Oracle} {α β : Type}
end
end Go.Sx

/- Sx: iterators that range over iterators; the function that takes what comes is known as data. Own work. -/
namespace Go.Sx
section
variable {P : Program}
end
section
variable {P : Program} {O : Oracle} {α β : Type}
end
end Go.Sx

/- Sx: slices with three indices, of a whole list. Own work. -/
namespace Go.Sx
variable {P : Program} {n0 : Nat} {ro : Option Nat}
theorem aops_app {ops : Array Oper} {l1 l2 : List Nat} {s : St} {K : St → Prop} (h : AOps P n0 ro ops l1 s fun s' => AOps P n0 ro ops l2 s' K) : AOps P n0 ro ops (l1 ++ l2) s K := fun X k0 k a Q hn hat hk =>
 ops_app _ _ _ _ (h X k0 k a _ hn hat fun k' a' s' h' hat' hkept => h' X k0 k' a' Q hn hat' fun k2 a2 s2 q1 q2 q3 => hk k2 a2 s2 q1 q2 (hkept.trans q3))
theorem aops_cut {O : Oracle} (hO : OkO P O) {ops : Array Oper} {m : Nat} {o : Oper} {s : St} {K : St → Prop} (ho : ops.toList[m]? = some o) (hg : o.guard = none)
  (h : wcOps P O ops (ops.toList.take m) s fun s1 => OpOk P n0 ro o s1 fun s2 => wcOps P O ops (ops.toList.drop (m + 1)) s2 K) : AOps P n0 ro ops (List.range ops.size) s K := by
 have hms : m < ops.size := by
  have := (List.getElem?_eq_some_iff.1 ho).1
  simpa using this
 have htl : (ops.toList.take m).length = m := by simp; omega
 have hdl : (ops.toList.drop (m + 1)).length = ops.size - (m + 1) := by simp
 rw [range_split hms]
 refine aops_app ?_
 have hA := wcOps_pre (n0 := n0) (ro := ro) hO (ops.toList.take m) 0 s _ (fun j hj => by rw [List.getElem?_take_of_lt (by omega)]; simp) h
 rw [htl] at hA
 intro X k0 k a Q hn hat hk
 refine hA X k0 k a Q hn hat fun k' a' s' h' hat' hkept => ?_
 refine hk k' a' s' ?_ hat' hkept
 have ho' : ops[m]? = some o := by rw [← ho]; simp
 refine aops_cons ho' hg ?_
 intro X k0 k a Q Kc hn hat hk
 refine h' X k0 k a Q Kc hn hat fun k2 a2 s2 q1 q2 q3 q4 => hk k2 a2 s2 ?_ q2 q3 q4
 have hA2 := wcOps_pre (n0 := n0) (ro := ro) hO (ops.toList.drop (m + 1)) (m + 1) s2 K (fun j _ => by rw [List.getElem?_drop]; simp) q1
 rw [hdl] at hA2
 exact hA2
end Go.Sx

/- Sx: regions with a forgetting step in between; statements behind which a family of states is kept. Own work. -/
namespace Go.Sx
variable {P : Program} {n0 : Nat} {ro : Option Nat}
end Go.Sx
