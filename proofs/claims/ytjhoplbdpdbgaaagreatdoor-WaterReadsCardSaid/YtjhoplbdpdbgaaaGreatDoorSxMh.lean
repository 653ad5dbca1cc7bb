/- Own work: a calculus of contracts for the programs of this kit: parts SxZ14, SxZ15, SxZ16, SxZ17, SxZ18, SxZ19, SxZ20, SxZ21. -/
import Derived.Test.YtjhoplbdpdbgaaaGreatDoorSxMg
import Derived.RangeFuncNested
set_option linter.unusedVariables false
set_option linter.unusedSimpArgs false
namespace Go.Sx

section
variable {P : Program} {O : Oracle} {n0 : Nat}
end
end Go.Sx

/- Sx: loops whose bodies are taken statement by statement. Own work. -/
namespace Go.Sx
variable {P : Program} {O : Oracle} {n0 : Nat} {ro : Option Nat}
theorem awp_loopH {ι : Type} {c : Code} {s : St} {Q : Ex → St → Prop} (E : ι → Env) (V : ι → H) (nid : Nat) (I : ι → Prop) (μ : ι → Nat) (i0 : ι) (h0 : I i0) (hw : headW n0 s (E i0) (V i0) nid s.n)
  (round : ∀ i, I i → AWp P n0 ro c ⟨E i, V i, nid, s.n⟩ (thenQ (fun s' => ∃ j, I j ∧ μ j < μ i ∧ headW n0 s' (E j) (V j) nid s.n) Q)) : AWp P n0 ro (.loop c) s Q :=
 awp_loop (fun i => ⟨E i, V i, nid, s.n⟩) I μ i0 h0 (weak_of hw) fun i hi => awp_mono (round i hi) fun e s' h' => by
  cases e with
  | normal => obtain ⟨j, a, b, d⟩ := h'; exact ⟨j, a, b, weak_of d⟩
  | exit => exact h'
  | ret => exact h'
end Go.Sx

/- Sx: an own array gets another id. Own work. -/
namespace Go.Sx
variable {P : Program} {n0 : Nat}

def okM (j : Nat) : D → Bool
 | .ptr b _ => !(b == j)
 | .mp b => !(b == j)
 | .osl b _ => !(b == j)
 | .ifc _ d => okM j d
 | d => D.lt 0 d
def mvD (i j : Nat) : D → D
 | .osl b n => if b = i then .osl j n else .osl b n
 | .ptr b o => if b = i then .ptr j o else .ptr b o
 | .mp b => if b = i then .mp j else .mp b
 | .ifc t d => .ifc t (mvD i j d)
 | d => d
def okMB (j : Nat) : Blk → Bool
 | .box cs => cs.all (okM j)
 | .arr _ _ _ => true
 | .map kvs => kvs.all fun p => D.lt 0 p.2
def mvB (i j : Nat) : Blk → Blk
 | .box cs => .box (cs.map (mvD i j))
 | x => x
def mvH (i j : Nat) (h : H) : H := h.map fun p => (if p.1 = i then j else p.1, mvB i j p.2)
theorem mvH_get {i j : Nat} (hij : i ≠ j) : ∀ (h : H), hget h j = none → ∀ id, hget (mvH i j h) id = if id = j then (hget h i).map (mvB i j) else if id = i then none else (hget h id).map (mvB i j)
 | [], _, id => by simp [mvH, hget]
 | (a, b) :: r, hj, id => by
  have haj : ¬ j = a := fun e => by simp [hget, e] at hj
  have hr : hget r j = none := by simpa [hget, haj] using hj
  have ih := mvH_get hij r hr id
  simp only [mvH, List.map_cons, hget] at ih ⊢
  by_cases hai : a = i
  ·subst hai
   simp only [if_true]
   by_cases h1 : id = j
   ·subst h1; simp
   ·rw [if_neg h1, ih, if_neg h1, if_neg h1]
    by_cases h2 : id = a
    ·simp [h2]
    ·simp [h2]
  ·have hia : ¬ i = a := fun e => hai e.symm
   simp only [if_neg hai, if_neg hia]
   by_cases h2 : id = a
   ·subst h2
    have : ¬ id = j := fun e => haj e.symm
    simp [this, hai]
   ·rw [if_neg h2, ih]
    simp [h2]
def Cx.mv (k : Cx) (i j : Nat) : Cx := { k with sv := fun x => if x = j then k.sv i else k.sv x, β := fun x => if x = j then k.β i else k.β x, h := mvH i j k.h }
theorem ownOf_mv (k : Cx) (i j id : Nat) (hne : id ≠ j) (b : Option Blk) : ownOf (k.mv i j) id (b.map (mvB i j)) = ownOf k id b := by
 cases b with
 | none => rfl
 | some b => cases b <;> simp [mvB, ownOf, Cx.mv, hne]
theorem lnOf_mv (i j : Nat) (b : Option Blk) : lnOf (b.map (mvB i j)) = lnOf b := by
 cases b with
 | none => rfl
 | some b => cases b <;> simp [mvB, lnOf]
section
variable {k : Cx} {i j : Nat} {bi : Blk} (hij : i ≠ j) (hi : hget k.h i = some bi) (hj : hget k.h j = none)
include hij hi hj
theorem mv_own (id : Nat) : (k.mv i j).own id = if id = j then k.own i else if id = i then none else k.own id := by
 have hg := mvH_get hij k.h hj id
 by_cases h1 : id = j
 ·subst h1
  rw [if_pos rfl, Cx.own, show (k.mv i id).h = mvH i id k.h from rfl, hg, if_pos rfl, hi]
  cases bi <;> simp [mvB, ownOf, Cx.mv, Cx.own, hi]
 ·rw [if_neg h1]
  by_cases h2 : id = i
  ·rw [if_pos h2, Cx.own, show (k.mv i j).h = mvH i j k.h from rfl, hg, if_neg h1, if_pos h2]; rfl
  ·rw [if_neg h2, Cx.own, show (k.mv i j).h = mvH i j k.h from rfl, hg, if_neg h1, if_neg h2, ownOf_mv k i j id h1]; rfl
theorem mv_mut (b : Nat) : (k.mv i j).Mut b ↔ k.Mut b := by
 have hjn : k.own j = none := by simp [Cx.own, hj, ownOf]
 constructor
 ·rintro ⟨id, h⟩
  rw [mv_own hij hi hj] at h
  split at h
  ·exact ⟨i, h⟩
  ·split at h
   ·cases h
   ·exact ⟨id, h⟩
 ·rintro ⟨id, h⟩
  by_cases h2 : id = i
  ·subst h2; exact ⟨j, by rw [mv_own hij hi hj, if_pos rfl]; exact h⟩
  ·have h1 : id ≠ j := fun e => by rw [e, hjn] at h; cases h
   exact ⟨id, by rw [mv_own hij hi hj, if_neg h1, if_neg h2]; exact h⟩
theorem mv_rle (X : Nat → Prop) : RLe 0 (k.R X) ((k.mv i j).R X) where
 β := fun b hb => by omega
 arr := fun b hb => by omega
 S := fun b h => ⟨h.1, h.2.1, fun hm => h.2.2 ((mv_mut hij hi hj b).1 hm)⟩
 heap := fun _ _ _ => rfl
 map := fun _ _ _ _ h => h
theorem mv_rel {X : Nat → Prop} (hjn : j < k.nid) : ∀ {d : D} {v : Value}, Rel (k.R X) k.nid v d → okM j d = true → Rel ((k.mv i j).R X) k.nid v (mvD i j d) := by
 intro d
 have hg := mvH_get hij k.h hj
 have hdata : ∀ {v : Value} {d : D}, Rel (k.R X) k.nid v d → D.lt 0 d = true → Rel ((k.mv i j).R X) k.nid v d := fun h hl => ((h.roll hl).mono (mv_rle hij hi hj X)).weak (Nat.zero_le _)
 have hβ : ∀ b, b ≠ j → ((k.mv i j).R X).β b = (k.R X).β b := fun b hb => by show (if b = j then k.β i else k.β b) = _; rw [if_neg hb]; rfl
 have hβj : ((k.mv i j).R X).β j = (k.R X).β i := by show (if j = j then k.β i else k.β j) = _; rw [if_pos rfl]; rfl
 suffices H : ∀ {n : Nat} {v : Value} {d : D}, Rel (k.R X) n v d → n = k.nid → okM j d = true → Rel ((k.mv i j).R X) k.nid v (mvD i j d) from fun {v} h => H h rfl
 intro n v d h
 induction h with
 | ptr n b off h1 =>
  intro hn hok; subst hn
  have hb : b ≠ j := by simpa [okM] using hok
  simp only [mvD]
  split
  ·rename_i e; subst e; rw [← hβj]; exact .ptr _ _ _ hjn
  ·rw [← hβ b hb]; exact .ptr _ _ _ h1
 | mp n b h1 =>
  intro hn hok; subst hn
  have hb : b ≠ j := by simpa [okM] using hok
  simp only [mvD]
  split
  ·rename_i e; subst e; rw [← hβj]; exact .mp _ _ hjn
  ·rw [← hβ b hb]; exact .mp _ _ h1
 | osl n b l v h1 h2 =>
  intro hn hok; subst hn
  have hb : b ≠ j := by simpa [okM] using hok
  simp only [mvD]
  split
  ·rename_i e; subst e
   refine .osl _ _ _ _ hjn fun m hm => ?_
   have hm' : (k.R X).ln b = some m := by
    have : lnOf (hget (mvH b j k.h) j) = some m := hm
    rw [hg, if_pos rfl, lnOf_mv] at this; exact this
   obtain ⟨a, c⟩ := h2 m hm'
   refine ⟨a, fun e => ?_⟩
   show v = (if j = j then k.sv b else k.sv j)
   rw [if_pos rfl]; exact c e
  ·rename_i hbi
   refine .osl _ _ _ _ h1 fun m hm => ?_
   have hm' : (k.R X).ln b = some m := by
    have : lnOf (hget (mvH i j k.h) b) = some m := hm
    rw [hg, if_neg hb, if_neg hbi, lnOf_mv] at this; exact this
   obtain ⟨a, c⟩ := h2 m hm'
   refine ⟨a, fun e => ?_⟩
   show v = (if b = j then k.sv i else k.sv b)
   rw [if_neg hb]; exact c e
 | ifc n t v d h1 ih =>
  intro hn hok
  exact .ifc _ t v _ (ih hn hok)
 | any n v => intro hn hok; exact .any _ _
 | int n kk x => intro hn hok; exact .int _ _ _
 | bool n b => intro hn hok; exact .bool _ _
 | str n s => intro hn hok; exact .str _ _
 | nils n => intro hn hok; exact .nils _
 | sln n => intro hn hok; exact .sln _
 | sle n a c => intro hn hok; exact .sle _ _ _
 | nilp n => intro hn hok; exact .nilp _
 | nilf n => intro hn hok; exact .nilf _
 | nili n => intro hn hok; exact .nili _
 | nilm n => intro hn hok; exact .nilm _
 | raw n v => intro hn hok; exact .raw _ _
 | agg n vs ds a b _ => intro hn hok; subst hn; exact hdata (.agg _ _ _ a b) hok
 | tup n vs ds a b _ => intro hn hok; subst hn; exact hdata (.tup _ _ _ a b) hok
 | sl n b off cap es sz vs a1 a2 a3 a4 a5 a6 _ => intro hn hok; subst hn; exact hdata (.sl _ b off cap es sz vs a1 a2 a3 a4 a5 a6) hok
 | ref n b off cs o vs a1 a2 a3 a4 _ => intro hn hok; subst hn; exact hdata (.ref _ b off cs o vs a1 a2 a3 a4) hok
 | eptr n b l sz i off v a1 a2 => intro hn hok; subst hn; exact hdata (.eptr _ b l sz i off v a1 a2) hok
 | fn n f va vc da dc a1 a2 a3 a4 _ _ => intro hn hok; subst hn; exact hdata (.fn _ f va vc da dc a1 a2 a3 a4) hok
 | mpd n b kvs es es' c a1 a2 a3 a4 a5 a6 a7 a8 _ _ => intro hn hok; subst hn; exact hdata (.mpd _ b kvs es es' c a1 a2 a3 a4 a5 a6 a7 a8) hok
 | refm n b off kvs v a1 a2 a3 _ => intro hn hok; subst hn; exact hdata (.refm _ b off kvs v a1 a2 a3) hok
 | bsl n b off l cap sz a1 a2 => intro hn hok; subst hn; exact hdata (.bsl _ b off l cap sz a1 a2) hok
end
theorem okMB_get {j : Nat} : ∀ {h : H}, (h.all fun p => okMB j p.2) = true → ∀ {id : Nat} {b : Blk}, hget h id = some b → okMB j b = true
 | [], _, id, b, hb => by simp [hget] at hb
 | (a, c) :: r, hh, id, b, hb => by
  simp only [List.all_cons, Bool.and_eq_true] at hh
  simp only [hget] at hb
  split at hb
  ·cases hb; exact hh.1
  ·exact okMB_get hh.2 hb
theorem mv_good {X : Nat → Prop} {k : Cx} {i j : Nat} {bi : Blk} (hij : i ≠ j) (hi : hget k.h i = some bi) (hj : hget k.h j = none) (hjn : j < k.nid) (hok : (k.h.all fun p => okMB j p.2) = true) (hg : Good X k) : Good X (k.mv i j) := by
 have hget' := mvH_get hij k.h hj
 have hrel := fun {v d} => mv_rel (X := X) hij hi hj hjn (d := d) (v := v)
 have hr0 := mv_rle (X := X) hij hi hj
 refine ⟨fun id blk hq => ?_, fun a b c ha hb => ?_, fun a b ha => ?_, hg.xlt, fun id blk hq => ?_⟩
 ·have hq' : hget (mvH i j k.h) id = some blk := hq
  rw [hget'] at hq'
  show id < k.nid
  split at hq'
  ·omega
  ·split at hq'
   ·cases hq'
   ·cases e : hget k.h id with
    | none => rw [e] at hq'; cases hq'
    | some b0 => exact hg.key id b0 e
 ·rw [mv_own hij hi hj] at ha hb
  split at ha <;> split at hb
  ·omega
  ·split at hb
   ·cases hb
   ·have := hg.inj i b c ha hb; omega
  ·split at ha
   ·cases ha
   ·have := hg.inj i a c hb ha; omega
  ·split at ha
   ·cases ha
   ·split at hb
    ·cases hb
    ·exact hg.inj a b c ha hb
 ·rw [mv_own hij hi hj] at ha
  split at ha
  ·exact hg.lt i b ha
  ·split at ha
   ·cases ha
   ·exact hg.lt a b ha
 ·have hq' : hget (mvH i j k.h) id = some blk := hq
  rw [hget'] at hq'
  have main : ∀ (id0 : Nat) (b0 : Blk) (id1 : Nat), hget k.h id0 = some b0 → (k.mv i j).sv id1 = k.sv id0 → (k.mv i j).β id1 = k.β id0 → BlkOk X (k.mv i j) id1 (mvB i j b0) := fun id0 b0 id1 e hsv hβ => by
   have h0 := hg.ok id0 b0 e
   have hb := okMB_get hok e
   cases b0 with
   | box cs =>
    obtain ⟨vs, t, a, b⟩ := h0
    refine ⟨vs, t, by rw [hβ]; exact a, by rw [List.length_map]; exact b.1, fun p v d hv hd => ?_⟩
    rw [List.getElem?_map] at hd
    cases hc : cs[p]? with
    | none => rw [hc] at hd; cases hd
    | some c =>
     rw [hc] at hd
     simp only [Option.map_some, Option.some.injEq] at hd
     subst hd
     exact hrel (b.2 p v c hv hc) (List.all_eq_true.1 hb c (List.mem_of_getElem? hc))
   | arr t s es' =>
    obtain ⟨a0, a1⟩ := h0
    refine ⟨a0, ?_⟩
    rcases a1 with ⟨a1, a2⟩ | ⟨b, off, cap, vs, x1, x2, x3, x4, x5⟩
    ·exact .inl ⟨by rw [hsv]; exact a1, a2⟩
    ·exact .inr ⟨b, off, cap, vs, by rw [hsv]; exact x1, x2, x3, x4, fun p e q d v r s t => (x5 p e q d v r s t).mono hr0⟩
   | map kvs =>
    obtain ⟨es1, c, es', x1, x2, x3, x6, x4, x5⟩ := h0
    refine ⟨es1, c, es', by rw [hβ]; exact x1, x2, x3, x6, ⟨x4.1, fun p v d y z => (x4.2 p v d y z).mono hr0⟩, ⟨x5.1, fun p v d y z => ?_⟩⟩
    have hl : D.lt 0 d = true := by
     rw [List.getElem?_map] at z
     cases hc : kvs[p]? with
     | none => rw [hc] at z; cases z
     | some q =>
      rw [hc] at z
      simp only [Option.map_some, Option.some.injEq] at z
      subst z
      exact List.all_eq_true.1 hb q (List.mem_of_getElem? hc)
    exact (((x5.2 p v d y z).roll hl).mono hr0).weak (Nat.zero_le _)
  split at hq'
  ·rename_i e; subst e
   rw [hi] at hq'
   simp only [Option.map_some, Option.some.injEq] at hq'
   subst hq'
   exact main i bi id hi (by show (if id = id then k.sv i else k.sv id) = _; rw [if_pos rfl]) (by show (if id = id then k.β i else k.β id) = _; rw [if_pos rfl])
  ·rename_i h1
   split at hq'
   ·cases hq'
   ·cases e : hget k.h id with
    | none => rw [e] at hq'; cases hq'
    | some b0 =>
     rw [e] at hq'
     simp only [Option.map_some, Option.some.injEq] at hq'
     subst hq'
     exact main id b0 id e (by show (if id = j then k.sv i else k.sv id) = _; rw [if_neg h1]) (by show (if id = j then k.β i else k.β id) = _; rw [if_neg h1])
theorem Imp.move {env : Env} {h : H} {nid n : Nat} (i j : Nat) {bi : Blk} (hij : i ≠ j) (hi : hget h i = some bi) (hj : hget h j = none) (hjn : j < nid) (h0 : n0 ≤ j)
  (hok : (h.all fun p => okMB j p.2) = true) (hoe : (env.all fun p => okM j p.2) = true) : Imp n0 ⟨env, h, nid, n⟩ ⟨env.map fun p => (p.1, mvD i j p.2), mvH i j h, nid, n⟩ := fun X k0 k a hn hat => by
 have hh : k.h = h := hat.h
 have hnid : k.nid = nid := hat.nid
 subst hh; subst hnid
 have hle := hat.le
 refine ⟨k.mv i j, rfl, rfl, rfl, mv_good hij hi hj hjn hok hat.good, ⟨hle.nid, hle.os, hle.tape, hle.output, hle.size, fun id hid => by show (if id = j then k.β i else k.β id) = _; rw [if_neg (by omega)]; exact hle.β id hid, fun id hid m' hm => ?_, fun b hb hm => hle.heap b hb hm, fun b hb hm => hle.mb b hb ((mv_mut hij hi hj b).1 hm)⟩, hat.act.size, fun p => ?_, hat.act.marks⟩
 ·have hm' : lnOf (hget (mvH i j k.h) id) = some m' := hm
  rw [mvH_get hij k.h hj, if_neg (by omega)] at hm'
  split at hm'
  ·cases hm'
  ·rw [lnOf_mv] at hm'
   obtain ⟨m, a1, a2, a3⟩ := hle.arr id hid m' hm'
   exact ⟨m, a1, a2, fun e => by show (if id = j then k.sv i else k.sv id) = _; rw [if_neg (by omega)]; exact a3 e⟩
 ·show Rel _ _ _ (look (env.map fun p => (p.1, mvD i j p.2)) p)
  have hl : ∀ (env : Env), (env.all fun p => okM j p.2) = true → look (env.map fun p => (p.1, mvD i j p.2)) p = mvD i j (look env p) ∧ okM j (look env p) = true := by
   intro env
   induction env with
   | nil => intro _; exact ⟨rfl, rfl⟩
   | cons q r ih =>
    obtain ⟨x, d⟩ := q
    intro hq
    simp only [List.all_cons, Bool.and_eq_true] at hq
    simp only [List.map_cons, look]
    split
    ·exact ⟨rfl, hq.1⟩
    ·exact ih hq.2
  obtain ⟨e1, e2⟩ := hl env hoe
  rw [e1]
  exact mv_rel hij hi hj hjn (hat.act.rel p) e2
theorem cells_mp (h : H) (b : Nat) : cellsE h (.mp b) = some [.mp b] := (rfl)
theorem cells_mpd (h : H) (k : List (D × D)) : cellsE h (.mpd k) = some [.mpd k] := (rfl)
theorem cells_nilm (h : H) : cellsE h .nilm = some [.nilm] := (rfl)
theorem cur_mp (h : H) (b : Nat) : curD h (.mp b) = true := (rfl)
theorem cur_mpd (h : H) (k : List (D × D)) : curD h (.mpd k) = true := (rfl)
theorem cur_nilm (h : H) : curD h .nilm = true := (rfl)
set_option linter.defProp false
def RM := And.intro @cells_mp <| And.intro @cells_mpd <| And.intro @cells_nilm <| And.intro @cur_mp <| And.intro @cur_mpd <| And.intro @cur_nilm <| And.intro @cur_ifc <| And.intro @cells_osl <| And.intro @cur_osl @curC_arr
end Go.Sx

/- Sx: maps from numbers to coded values. Own work. -/
namespace Go.Sx
variable {P : Program} {β : Type}
abbrev MpG (β : Type) := List (Int × β)
def gkv (vd : β → D) (m : MpG β) : List (D × D) := m.map fun p => (.int .i64 p.1, vd p.2)
section
variable {t kt et : TypeId} (hu : P.underlying t = some (.map kt et)) (hk : P.underlying kt = some (.int .i64))
include hk in
include hk in
include hu hk
end
end Go.Sx

/- Sx: ranges over iterators that range over iterators. Own work. -/
namespace Go.Sx

section
variable {P : Program} {O : Oracle} {n0 : Nat}
end

section
variable {F : Fence} {n : Nat} {P : Program} {ops : Array Oper} {Q : Exit → Act → World → Prop}
def appQ (Q : Exit → Act → World → Prop) (R : Act → World → Prop) : Exit → Act → World → Prop
 | .normal, a, w => R a w
 | e, a, w => Q e a w
theorem oper_app {o : Oper} {a : Act} {w : World} {R : Act → World → Prop} {K K' : Act → World → Prop} (h : ∀ a w, K a w → K' a w) (hh : o.wpIn F n P a w K (appQ Q R)) : o.wpIn F n P a w K' Q := by
 refine ⟨hh.1, ?_⟩
 have h2 := hh.2
 generalize (o.semAt F.round a.eval).run P w = r at *
 cases r with
 | ok x w' =>
  cases x <;> simp only [Oper.uponIn] at h2 ⊢ <;>
   first
    | exact h _ _ h2
    | exact ⟨h2.1, CallsIn.mono h2.2 (fun e w'' he => by cases e <;> first | exact h _ _ he | exact he)⟩
    | exact ⟨h2.1, RowsIn.mono h2.2 (fun _ _ he => h _ _ he)⟩
    | exact ⟨h2.1, RoundIn.mono h2.2 (fun e w'' he => by cases e <;> first | exact h _ _ he | exact he)⟩
 | halt x w' => cases x <;> simp only [Oper.uponIn] at h2 ⊢ <;> exact h2
theorem ops_app (l2 : List Nat) : ∀ (l1 : List Nat) (a : Act) (w : World), wpOpsIn F n P ops (appQ Q (wpOpsIn F n P ops Q l2)) l1 a w → wpOpsIn F n P ops Q (l1 ++ l2) a w
 | [], a, w, h => h
 | i :: r, a, w, h => by
  rw [List.cons_append, wpOpsIn_cons]
  rw [wpOpsIn_cons] at h
  unfold wpOpIn at *
  split
  ·rename_i ho
   rw [ho] at h
   exact ops_app l2 r a w h
  ·rename_i o ho
   rw [ho] at h
   simp only at h
   split
   ·rename_i hw
    rw [if_pos hw] at h
    exact oper_app (ops_app l2 r) h
   ·rename_i hw
    rw [if_neg hw] at h
    exact ⟨h.1, ops_app l2 r _ _ h.2⟩
end
section
variable {P : Program} {O : Oracle} {n0 : Nat} {ro : Option Nat} {ops : Array Oper}
theorem range_split {m n : Nat} (h : m < n) : List.range n = (List.range m).map (0 + ·) ++ m :: (List.range (n - (m + 1))).map (m + 1 + ·) := by
 obtain ⟨k, rfl⟩ : ∃ k, n = m + 1 + k := ⟨n - (m + 1), by omega⟩
 rw [List.range_add, List.range_succ, show m + 1 + k - (m + 1) = k by omega]
 simp
end
section
variable {P : Program} {O : Oracle} {α β : Type}
end
end Go.Sx

/- Sx: iterators that range over iterators; the function that takes what comes is known as data. Own work. -/
namespace Go.Sx
section
variable {P : Program}
end
section
variable {P : Program} {O : Oracle} {α β : Type}
end
end Go.Sx

/- Sx: slices with three indices, of a whole list. Own work. -/
namespace Go.Sx
variable {P : Program} {n0 : Nat} {ro : Option Nat}
theorem aops_app {ops : Array Oper} {l1 l2 : List Nat} {s : St} {K : St → Prop} (h : AOps P n0 ro ops l1 s fun s' => AOps P n0 ro ops l2 s' K) : AOps P n0 ro ops (l1 ++ l2) s K := fun X k0 k a Q hn hat hk =>
 ops_app _ _ _ _ (h X k0 k a _ hn hat fun k' a' s' h' hat' hkept => h' X k0 k' a' Q hn hat' fun k2 a2 s2 q1 q2 q3 => hk k2 a2 s2 q1 q2 (hkept.trans q3))
end Go.Sx

/- Sx: regions with a forgetting step in between; statements behind which a family of states is kept. Own work. -/
namespace Go.Sx
variable {P : Program} {n0 : Nat} {ro : Option Nat}
end Go.Sx
