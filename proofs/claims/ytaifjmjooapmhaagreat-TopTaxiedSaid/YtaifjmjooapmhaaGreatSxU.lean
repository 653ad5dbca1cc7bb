/- Sx, part U: conditions out of code, regions that draw their order among it. Own work. -/
import Derived.Test.YtaifjmjooapmhaaGreatSxMb
set_option linter.unusedVariables false
set_option linter.unusedSimpArgs false
namespace Go.Sx

abbrev Oracle := FuncId → List D → Option D
def OkO (P : Program) (O : Oracle) : Prop := ∀ f ds r, O f ds = some r → Pure P f ds r
def oNone : Oracle := fun _ _ => none
theorem oNone_ok {P : Program} : OkO P oNone := fun _ _ _ h => by cases h

def okR (r : D) (ds : List D) : Bool := r.flat || ((D.ltL 0 ds && r.lt 0) || (D.frL ds && r.fr))

def callY (P : Program) (dr : Bool) (f : FuncId) (ds : List D) (h : H) (nid : Nat) (K : D → H → Nat → Prop) : Prop :=
 if dr then ∃ r, QC P f ds h r ∧ K r h nid else ACall P f ds h nid K
def callX (P : Program) (O : Oracle) (dr : Bool) (f : FuncId) (ds : List D) (h : H) (nid : Nat) (K : D → H → Nat → Prop) : Prop :=
 match O f (viewL h ds) with
 | some r => if okR r ds then K r h nid else callY P dr f ds h nid K
 | none => callY P dr f ds h nid K

mutual
theorem view_old (h : H) : ∀ {d : D}, d.lt 0 = true → view h d = d
 | .any, _ => rfl
 | .int _ _, _ => rfl
 | .bool _, _ => rfl
 | .str _, _ => rfl
 | .agg cs, hl => by simp only [view, viewL_old h (show D.ltL 0 cs = true from hl)]
 | .tup cs, hl => by simp only [view, viewL_old h (show D.ltL 0 cs = true from hl)]
 | .nils, _ => rfl
 | .sl _, _ => rfl
 | .ref _ _, _ => rfl
 | .ptr _ _, hl => by simp [D.lt] at hl
 | .osl _ _, hl => by simp [D.lt] at hl
 | .eptr _ _ _ _ _, hl => by simp [D.lt] at hl
 | .fn f a c, hl => by
  have hl' : D.ltL 0 a = true ∧ D.ltL 0 c = true := by simpa [D.lt] using hl
  simp only [view, viewL_old h hl'.1, viewL_old h hl'.2]
 | .nilp, _ => rfl
 | .nilf, _ => rfl
 | .nili, _ => rfl
 | .nilm, _ => rfl
 | .ifc t d, hl => by simp only [view, view_old h (show d.lt 0 = true from hl)]
 | .mp _, hl => by simp [D.lt] at hl
 | .bsl _ _ _ _, hl => by simp [D.lt] at hl
 | .raw _, _ => rfl
theorem viewL_old (h : H) : ∀ {ds : List D}, D.ltL 0 ds = true → viewL h ds = ds
 | [], _ => rfl
 | d :: ds, hl => by
  have hl' : d.lt 0 = true ∧ D.ltL 0 ds = true := by simpa [D.ltL] using hl
  simp only [viewL, view_old h hl'.1, viewL_old h hl'.2]
end

theorem callX_sound {P : Program} {O : Oracle} (hO : OkO P O) {dr : Bool} {f : FuncId} {ds : List D} {h : H} {nid : Nat} {K : D → H → Nat → Prop} (hx : callX P O dr f ds h nid K) : callY P dr f ds h nid K := by
 unfold callX at hx
 split at hx
 ·rename_i r hr
  split at hx
  ·rename_i hok
   have hp := hO _ _ _ hr
   simp only [okR, Bool.or_eq_true, Bool.and_eq_true] at hok
   unfold callY
   rcases hok with hok | ⟨h1, h2⟩ | ⟨h1, h2⟩
   ·cases dr with
    | true => exact ⟨r, .inl ⟨hok, hp⟩, hx⟩
    | false => exact call_borrow hp rfl hok hx
   ·rw [viewL_old h h1] at hp
    cases dr with
    | true => exact ⟨r, .inr (.inl ⟨h1, h2, hp⟩), hx⟩
    | false => exact call_pure hp rfl h1 h2 hx
   ·rw [viewL_free h h1] at hp
    cases dr with
    | true => exact ⟨r, .inr (.inr ⟨h1, h2, hp⟩), hx⟩
    | false => exact call_free hp rfl h1 h2 hx
  ·exact hx
 ·exact hx

def sliceK (P : Program) (dr : Bool) (t : TypeId) (x : D) (lo hi : Option D) (h : H) (nid : Nat) (K : D → H → Nat → Prop) : Prop :=
 match x with
 | .osl b n => if dr then False else optK (sliceO P h nid t b n lo hi) fun v => K v.1 v.2.1 v.2.2
 | x => optK (sliceD P t x lo hi) fun v => K v h nid

def resK (P : Program) (O : Oracle) (dr fl : Bool) (op : Op) (env : Env) (h : H) (nid : Nat) (K : D → H → Nat → Prop) : Prop :=
 match op with
 | .alloc t => if fl then optK (zeroD P t) fun _ => K .any h nid else optK (allocD P h nid t) fun v => K v.1 v.2.1 v.2.2
 | .buildSlice t n parts =>
  if dr then optK (litD P h t n (parts.toList.map fun q => (q.1, evO env q.2))) fun v => K v h nid
  else optK (litFD P h nid t n (parts.toList.map fun q => (q.1, evO env q.2))) fun v => K v.1 v.2.1 v.2.2
 | .box _ x => optK (boxD h nid (evO env x)) fun v => K v.1 v.2.1 v.2.2
 | .store t x y => optK (storeD P h nid t (evO env x) (evO env y)) fun v => K v.1 v.2.1 v.2.2
 | .makeMap _ _ => optK (opF P op (evO env) h nid) fun v => K v.1 v.2.1 v.2.2
 | .mapUpdate t x y z => optK (mapUpdD P h nid t (evO env x) (evO env y) (evO env z)) fun v => K v.1 v.2.1 v.2.2
 | .insert t x y z => optK (mapUpdD P h nid t (evO env x) (evO env y) (evO env z)) fun v => K v.1 v.2.1 v.2.2
 | .convert _ _ _ => optK (quietD P op (evO env) h) fun v => K v h nid
 | .call c =>
  match c.callee with
  | .builtin .append => optK (opF P op (evO env) h nid) fun v => K v.1 v.2.1 v.2.2
  | .builtin _ => optK (opR P op (evO env) h) fun v => K v h nid
  | .invoke _ _ => if dr then False else optK (calleeM P env c) fun v => callX P O false v.1 v.2 h nid K
  | _ =>
   optK (calleeD env c) fun v => callX P O dr v.1 v.2 h nid K
 | .slice t x lo hi none => sliceK P dr t (evO env x) (lo.map (evO env)) (hi.map (evO env)) h nid K
 | .makeSlice t l c => if dr then False else optK (makeD P h nid t (evO env l) (evO env c)) fun v => K v.1 v.2.1 v.2.2
 | op => optK (opR P op (evO env) h) fun v => K v h nid

theorem optK_inv {α : Type} {o : Option α} {K : α → Prop} (h : optK o K) : ∃ d, o = some d ∧ K d := by
 cases o with
 | none => exact h.elim
 | some d => exact ⟨d, rfl, h⟩

section
variable {P : Program} {O : Oracle} {n0 : Nat} {ro : Option Nat} {T : List (Nat × List (Nat × Bool × Bool × List (Nat × Nat)))}

theorem allocD_eq {t : TypeId} {ρ : Operand → D} {h : H} {nid : Nat} : opF P (.alloc t) ρ h nid = allocD P h nid t := rfl
theorem boxD_eq {t : TypeId} {x : Operand} {ρ : Operand → D} {h : H} {nid : Nat} : opF P (.box t x) ρ h nid = boxD h nid (ρ x) := rfl
theorem storeD_eq {t : TypeId} {x y : Operand} {ρ : Operand → D} {h : H} {nid : Nat} : opF P (.store t x y) ρ h nid = storeD P h nid t (ρ x) (ρ y) := rfl

theorem opOk_resK (hO : OkO P O) {o : Oper} {s : St} {K : D → H → Nat → Prop} {Q : St → Prop} (h : resK P O false false o.op s.env s.h s.nid K) (hq : ∀ d h' nid', K d h' nid' → Q (St.put ⟨s.env, h', nid', s.n⟩ o.dst d)) : OpOk P n0 ro o s Q := by
 cases hop : o.op with
 | alloc t =>
  rw [hop] at h
  obtain ⟨⟨d, h', nid'⟩, h1, h2⟩ := optK_inv (show optK _ _ from h)
  exact opOk_eff (by rw [hop, allocD_eq]; exact h1) (hq _ _ _ h2)
 | buildSlice t n parts =>
  rw [hop] at h
  obtain ⟨⟨d, h', nid'⟩, h1, h2⟩ := optK_inv (show optK _ _ from h)
  exact opOk_litF hop h1 (hq _ _ _ h2)
 | box t x =>
  rw [hop] at h
  obtain ⟨⟨d, h', nid'⟩, h1, h2⟩ := optK_inv (show optK _ _ from h)
  exact opOk_eff (by rw [hop, boxD_eq]; exact h1) (hq _ _ _ h2)
 | store t x y =>
  rw [hop] at h
  obtain ⟨⟨d, h', nid'⟩, h1, h2⟩ := optK_inv (show optK _ _ from h)
  exact opOk_eff (by rw [hop, storeD_eq]; exact h1) (hq _ _ _ h2)
 | makeMap t r =>
  rw [hop] at h
  obtain ⟨⟨d, h', nid'⟩, h1, h2⟩ := optK_inv (show optK _ _ from h)
  exact opOk_eff (by rw [hop]; exact h1) (hq _ _ _ h2)
 | mapUpdate t x y z =>
  rw [hop] at h
  obtain ⟨⟨d, h', nid'⟩, h1, h2⟩ := optK_inv (show optK _ _ from h)
  exact opOk_eff (by rw [hop]; exact h1) (hq _ _ _ h2)
 | insert t x y z =>
  rw [hop] at h
  obtain ⟨⟨d, h', nid'⟩, h1, h2⟩ := optK_inv (show optK _ _ from h)
  exact opOk_eff (by rw [hop]; exact h1) (hq _ _ _ h2)
 | convert t u x =>
  rw [hop] at h
  obtain ⟨d, h1, h2⟩ := optK_inv (show optK _ _ from h)
  exact opOk_quiet (by rw [hop]; exact h1) (hq _ _ _ h2)
 | call c =>
  rw [hop] at h
  simp only [resK] at h
  split at h
  ·obtain ⟨⟨d, h', nid'⟩, h1, h2⟩ := optK_inv h
   exact opOk_eff (by rw [hop]; exact h1) (hq _ _ _ h2)
  ·obtain ⟨d, h1, h2⟩ := optK_inv h
   exact opOk_read (by rw [hop]; exact h1) (hq _ _ _ h2)
  ·obtain ⟨⟨f, ds⟩, h1, h2⟩ := optK_inv (by simpa using h)
   replace h2 := callX_sound hO h2
   simp only [callY, Bool.false_eq_true, if_false] at h2
   exact opOk_callM hop h1 (h2.mono fun _ _ _ => hq _ _ _)
  ·obtain ⟨⟨f, ds⟩, h1, h2⟩ := optK_inv h
   replace h2 := callX_sound hO h2
   simp only [callY, Bool.false_eq_true, if_false] at h2
   exact opOk_call hop h1 (h2.mono fun _ _ _ => hq _ _ _)
 | slice t x lo hi mx =>
  rw [hop] at h
  cases mx with
  | some m =>
   simp only [resK] at h
   obtain ⟨d, h1, h2⟩ := optK_inv h
   exact opOk_read (by rw [hop]; exact h1) (hq _ _ _ h2)
  | none =>
   simp only [resK, sliceK] at h
   split at h
   ·rename_i b n hx
    obtain ⟨⟨d, h', nid'⟩, h1, h2⟩ := optK_inv (by simpa using h)
    exact opOk_eff (by rw [hop]; simp only [opF, hx]; exact h1) (hq _ _ _ h2)
   ·obtain ⟨d, h1, h2⟩ := optK_inv h
    exact opOk_read (by rw [hop]; exact h1) (hq _ _ _ h2)
 | makeSlice t l c =>
  rw [hop] at h
  simp only [resK, Bool.false_eq_true, if_false] at h
  obtain ⟨⟨d, h', nid'⟩, h1, h2⟩ := optK_inv h
  exact opOk_eff (by rw [hop]; exact h1) (hq _ _ _ h2)
 | _ =>
  rw [hop] at h
  simp only [resK] at h
  obtain ⟨d, h1, h2⟩ := optK_inv h
  exact opOk_read (by rw [hop]; exact h1) (hq _ _ _ h2)

theorem ostep_resK (hO : OkO P O) {fl : Bool} {o : Oper} {s : St} {K : D → H → Nat → Prop} (h : resK P O true fl o.op s.env s.h s.nid K) : ∃ d h' nid', OStep P fl o s d h' nid' ∧ K d h' nid' := by
 cases hop : o.op with
 | alloc t =>
  rw [hop] at h
  simp only [resK] at h
  cases fl with
  | true =>
   obtain ⟨zs, h1, h2⟩ := optK_inv (by simpa using h)
   refine ⟨.any, s.h, s.nid, ?_, h2⟩
   unfold OStep; rw [hop]
   exact ⟨by simp [zeroA, h1], rfl, rfl, rfl⟩
  | false =>
   obtain ⟨⟨d, h', nid'⟩, h1, h2⟩ := optK_inv (by simpa using h)
   refine ⟨d, h', nid', ?_, h2⟩
   unfold OStep; rw [hop]
   exact h1
 | buildSlice t n parts =>
  rw [hop] at h
  simp only [resK, if_true] at h
  obtain ⟨d, h1, h2⟩ := optK_inv h
  refine ⟨d, s.h, s.nid, ?_, h2⟩
  unfold OStep; rw [hop]
  exact ⟨h1, rfl, rfl⟩
 | box t x =>
  rw [hop] at h
  obtain ⟨⟨d, h', nid'⟩, h1, h2⟩ := optK_inv (show optK _ _ from h)
  refine ⟨d, h', nid', ?_, h2⟩
  unfold OStep; rw [hop]
  exact h1
 | store t x y =>
  rw [hop] at h
  obtain ⟨⟨d, h', nid'⟩, h1, h2⟩ := optK_inv (show optK _ _ from h)
  refine ⟨d, h', nid', ?_, h2⟩
  unfold OStep; rw [hop]
  exact h1
 | makeMap t r =>
  rw [hop] at h
  obtain ⟨⟨d, h', nid'⟩, h1, h2⟩ := optK_inv (show optK _ _ from h)
  refine ⟨d, h', nid', ?_, h2⟩
  unfold OStep; rw [hop]
  exact h1
 | mapUpdate t x y z =>
  rw [hop] at h
  obtain ⟨⟨d, h', nid'⟩, h1, h2⟩ := optK_inv (show optK _ _ from h)
  refine ⟨d, h', nid', ?_, h2⟩
  unfold OStep; rw [hop]
  exact h1
 | insert t x y z =>
  rw [hop] at h
  obtain ⟨⟨d, h', nid'⟩, h1, h2⟩ := optK_inv (show optK _ _ from h)
  refine ⟨d, h', nid', ?_, h2⟩
  unfold OStep; rw [hop]
  exact h1
 | convert t u x =>
  rw [hop] at h
  obtain ⟨d, h1, h2⟩ := optK_inv (show optK _ _ from h)
  refine ⟨d, s.h, s.nid, ?_, h2⟩
  unfold OStep; rw [hop]
  exact ⟨h1, rfl, rfl⟩
 | call c =>
  rw [hop] at h
  simp only [resK] at h
  split at h
  ·rename_i hc
   obtain ⟨⟨d, h', nid'⟩, h1, h2⟩ := optK_inv h
   refine ⟨d, h', nid', ?_, h2⟩
   unfold OStep; rw [hop]
   have hk : dkind fl (.call c) = .eff := by simp only [dkind, hc]
   rw [hk]
   exact h1
  ·rename_i b hb hc
   obtain ⟨d, h1, h2⟩ := optK_inv h
   refine ⟨d, s.h, s.nid, ?_, h2⟩
   unfold OStep; rw [hop]
   have hk : dkind fl (.call c) = .quiet := by
    simp only [dkind, hc]
   rw [hk]
   exact ⟨h1, rfl, rfl⟩
  ·simp at h
  ·rename_i hc1 hc2 hc3
   obtain ⟨⟨f, ds⟩, h1, h2⟩ := optK_inv h
   replace h2 := callX_sound hO h2
   simp only [callY, if_true] at h2
   obtain ⟨r, h3, h4⟩ := h2
   refine ⟨r, s.h, s.nid, ?_, h4⟩
   unfold OStep; rw [hop]
   have hk : dkind fl (.call c) = .call := by
    simp only [dkind]
   rw [hk]
   refine ⟨?_, rfl, rfl⟩
   simp only [callQC, h1]
   exact h3
 | slice t x lo hi mx =>
  rw [hop] at h
  have hd : ∃ d, opR P (.slice t x lo hi mx) (evO s.env) s.h = some d ∧ K d s.h s.nid := by
   cases mx with
   | some m =>
    simp only [resK] at h
    exact optK_inv h
   | none =>
    simp only [resK, sliceK] at h
    split at h
    ·simp at h
    ·exact optK_inv h
  obtain ⟨d, h1, h2⟩ := hd
  refine ⟨d, s.h, s.nid, ?_, h2⟩
  unfold OStep; rw [hop]
  exact ⟨h1, rfl, rfl⟩
 | makeSlice t l c =>
  rw [hop] at h
  simp [resK] at h
 | _ =>
  rw [hop] at h
  simp only [resK] at h
  obtain ⟨d, h1, h2⟩ := optK_inv h
  refine ⟨d, s.h, s.nid, ?_, h2⟩
  unfold OStep; rw [hop]
  exact ⟨h1, rfl, rfl⟩



def phK (P : Program) (O : Oracle) (ops : Array Oper) (fl tr : Bool) : List Oper → St → List Row → List H → (St → List Row → List H → Prop) → Prop
 | [], s, rows, hs, K => K s rows hs
 | o :: rest, s, rows, hs, K =>
  match o.guard with
  | none => resK P O true fl o.op s.env s.h s.nid fun d h' nid' => F (St.put ⟨s.env, h', nid', s.n⟩ o.dst d) fun s' =>
    phK P O ops fl tr rest s' (if tr then ⟨o, s.env, s.h, true, d⟩ :: rows else rows) (if tr then s'.h :: hs else hs) K
  | some (j, w) =>
   match slotOf ops j with
   | some t =>
    match look s.env t with
    | .bool bb =>
     BR (bb == w)
      (resK P O true fl o.op ((t, .bool w) :: s.env) s.h s.nid fun d h' nid' => F (St.put ⟨(t, .bool w) :: s.env, h', nid', s.n⟩ o.dst d) fun s' =>
       phK P O ops fl tr rest s' (if tr then ⟨o, (t, .bool w) :: s.env, s.h, true, d⟩ :: rows else rows) (if tr then s'.h :: hs else hs) K)
      (F (St.put ⟨(t, .bool !w) :: s.env, s.h, s.nid, s.n⟩ o.dst (.tup [])) fun s' =>
       phK P O ops fl tr rest s' (if tr then ⟨o, (t, .bool !w) :: s.env, s.h, false, .tup []⟩ :: rows else rows) (if tr then s'.h :: hs else hs) K)
    | .tup [] => F (St.put ⟨s.env, s.h, s.nid, s.n⟩ o.dst (.tup [])) fun s' =>
       phK P O ops fl tr rest s' (if tr then ⟨o, s.env, s.h, false, .tup []⟩ :: rows else rows) (if tr then s'.h :: hs else hs) K
    | _ => False
   | none => False

def rowsR (row : Nat → Row) (n : Nat) : List Row := ((List.range n).map row).reverse
def hsR (st : Nat → St) (n : Nat) : List H := ((List.range n).map fun p => (st (p + 1)).h).reverse

theorem phK_sound (hO : OkO P O) {ops : Array Oper} {fl tr : Bool} : ∀ (l : List Oper) (b : Nat) (s : St) (rows : List Row) (hs : List H) (K : St → List Row → List H → Prop), (∀ j, j < l.length → l[j]? = ops[b + j]?) → phK P O ops fl tr l s rows hs K →
  ∃ st row, st 0 = s ∧ TRun P fl ops b l.length st row ∧ K (st l.length) (if tr then rowsR row l.length ++ rows else rows) (if tr then hsR st l.length ++ hs else hs)
 | [], b, s, rows, hs, K, _, h => ⟨fun _ => s, fun _ => ⟨default, [], [], true, .any⟩, rfl, ⟨fun p hp => by simp at hp⟩, by cases tr <;> simpa [rowsR, hsR, phK] using h⟩
 | o :: rest, b, s, rows, hs, K, hl, h => by
  have ho : ops[b]? = some o := by have := hl 0 (by simp); simpa using this.symm
  have hl' : ∀ j, j < rest.length → rest[j]? = ops[b + 1 + j]? := fun j hj => by
   have := hl (j + 1) (by simp; omega)
   rw [show b + 1 + j = b + (j + 1) by omega, ← this]; simp
  have key : ∀ (r0 : Row) (s1 : St), RowOk P fl ops o s r0 s1 → phK P O ops fl tr rest s1 (if tr then r0 :: rows else rows) (if tr then s1.h :: hs else hs) K →
    ∃ st row, st 0 = s ∧ TRun P fl ops b (o :: rest).length st row ∧ K (st (o :: rest).length) (if tr then rowsR row (o :: rest).length ++ rows else rows) (if tr then hsR st (o :: rest).length ++ hs else hs) := by
   intro r0 s1 hr0 hk
   obtain ⟨st, row, h0, hT, hK⟩ := phK_sound hO rest (b + 1) s1 _ _ K hl' hk
   refine ⟨fun | 0 => s | p + 1 => st p, fun | 0 => r0 | p + 1 => row p, rfl, ⟨fun p hp o' ho' => ?_⟩, ?_⟩
   ·cases p with
    | zero =>
     rw [Nat.add_zero, ho] at ho'; cases ho'
     show RowOk P fl ops o s r0 (st 0)
     rw [h0]; exact hr0
    | succ p =>
     exact hT.step p (by simpa using hp) o' (by rw [← ho']; congr 1; omega)
   ·have e1 : rowsR (fun | 0 => r0 | p + 1 => row p) (rest.length + 1) = rowsR row rest.length ++ [r0] := by
     simp only [rowsR, List.range_succ_eq_map, List.map_cons, List.map_map, List.reverse_cons]
     rfl
    have e2 : hsR (fun | 0 => s | p + 1 => st p) (rest.length + 1) = hsR st rest.length ++ [s1.h] := by
     simp only [hsR, List.range_succ_eq_map, List.map_cons, List.map_map, List.reverse_cons, h0]
     rfl
    simp only [List.length_cons, e1, e2]
    cases tr with
    | false => simpa using hK
    | true => simpa using hK
  simp only [phK] at h
  split at h
  ·rename_i hg
   obtain ⟨d, h', nid', hs1, hk⟩ := ostep_resK hO (s := s) h
   refine key ⟨o, s.env, s.h, true, d⟩ (St.put ⟨s.env, h', nid', s.n⟩ o.dst d) ⟨rfl, fun _ => rfl, rfl, by rw [hg], ?_, ?_⟩ hk
   ·simp only [if_true, put_h, put_nid]; exact hs1
   ·simp only [put_h, put_nid]
  ·rename_i j w hg
   split at h
   ·rename_i t hj
    split at h
    ·rename_i bb hb
     have hlk : ∀ (v : Bool), bb = v → ∀ x, look ((t, D.bool v) :: s.env) x = look s.env x := fun v hv x => by
      simp only [look]
      split
      ·rename_i e; subst e; rw [hb, hv]
      ·rfl
     by_cases hbw : bb = w
     ·have h := h.1 (by rw [hbw]; simp)
      obtain ⟨d, h', nid', hs1, hk⟩ := ostep_resK hO (s := { s with env := (t, .bool w) :: s.env }) h
      refine key ⟨o, (t, .bool w) :: s.env, s.h, true, d⟩ (St.put ⟨(t, .bool w) :: s.env, h', nid', s.n⟩ o.dst d) ⟨rfl, hlk w hbw, rfl, by rw [hg]; exact ⟨t, hj, .inl ⟨bb, hb, by rw [hbw]; simp⟩⟩, ?_, ?_⟩ hk
      ·simp only [if_true, put_h, put_nid]; exact hs1
      ·simp only [put_h, put_nid]
     ·have hbn : bb = !w := by cases bb <;> cases w <;> first | rfl | exact absurd rfl hbw
      have hk := h.2 (by rw [hbn]; cases w <;> rfl)
      refine key ⟨o, (t, .bool !w) :: s.env, s.h, false, .tup []⟩ (St.put ⟨(t, .bool !w) :: s.env, s.h, s.nid, s.n⟩ o.dst (.tup [])) ⟨rfl, hlk (!w) hbn, rfl, by rw [hg]; exact ⟨t, hj, .inl ⟨bb, hb, by rw [hbn]; cases w <;> rfl⟩⟩, ?_, ?_⟩ hk
      ·simp [put_h, put_nid]
      ·simp only [put_h, put_nid]
    ·rename_i hb
     refine key ⟨o, s.env, s.h, false, .tup []⟩ (St.put ⟨s.env, s.h, s.nid, s.n⟩ o.dst (.tup [])) ⟨rfl, fun _ => rfl, rfl, by rw [hg]; exact ⟨t, hj, .inr ⟨hb, rfl⟩⟩, ?_, ?_⟩ h
     ·simp [put_h, put_nid]
     ·simp only [put_h, put_nid]
    ·exact h.elim
   ·exact h.elim

def reK (P : Program) (fl : Bool) (rows : List Row) (hs : List H) : List (Nat × Nat) → Prop → Prop
 | [], p => p
 | (x, y) :: r, p =>
  match rows[x]?, hs[y]? with
  | some row, some h => (row.run = true → ReOk P fl row h) ∧ reK P fl rows hs r p
  | _, _ => False

theorem reK_sound {fl : Bool} {rows : List Row} {hs : List H} {p : Prop} : ∀ (re : List (Nat × Nat)), reK P fl rows hs re p → p ∧ ∀ x y, (x, y) ∈ re → ∃ row h, rows[x]? = some row ∧ hs[y]? = some h ∧ (row.run = true → ReOk P fl row h)
 | [], h => ⟨h, by simp⟩
 | (x, y) :: r, h => by
  simp only [reK] at h
  split at h
  ·rename_i row h' h1 h2
   obtain ⟨a, c⟩ := reK_sound r h.2
   refine ⟨a, fun x' y' hm => ?_⟩
   rcases List.mem_cons.1 hm with e | e
   ·cases e; exact ⟨row, h', h1, h2, h.1⟩
   ·exact c x' y' e
  ·exact h.elim

abbrev Ann := Nat × Bool × Bool × List (Nat × Nat)

def anyK (P : Program) (O : Oracle) (ops : Array Oper) : List Ann → List Oper → St → (St → Prop) → Prop
 | [], _, s, K => K s
 | (len, fl, tr, re) :: as, l, s, K =>
  phK P O ops fl tr (l.take len) s [] (if tr then [s.h] else []) fun s' rows hs => reK P fl rows hs re (adoptK P fl (l.take len) s' fun s2 => anyK P O ops as (l.drop len) s2 K)

def annGo (ops : Array Oper) (ms : List Nat) : Nat → List Ann → Bool
 | b, [] => Nat.ble ops.size b
 | b, (len, fl, tr, re) :: as => phOk ops ms b len fl (re.map fun q => (len - 1 - q.1, len - q.2)) && (tr || re.isEmpty) && (re.all fun q => Nat.blt q.1 len && Nat.ble q.2 len) && annGo ops ms (b + len) as

def annOk (ops : Array Oper) (as : List Ann) : Bool := backOk ops && annGo ops (masks ops) 0 as

theorem adoptK_mono {fl : Bool} {K K' : St → Prop} (hk : ∀ s, K s → K' s) : ∀ (l : List Oper) (s : St), adoptK P fl l s K → adoptK P fl l s K'
 | [], s, h => hk s h
 | o :: r, s, h => by
  simp only [adoptK] at h ⊢
  split
  ·rename_i hf
   rw [if_pos hf] at h
   split at h
   ·exact adoptK_mono hk r _ h
   ·exact h.elim
  ·rename_i hf
   rw [if_neg hf] at h
   exact adoptK_mono hk r _ h

theorem anyK_sound (hO : OkO P O) {ops : Array Oper} (hb : Back ops) {K : St → Prop} : ∀ (as : List Ann) (b : Nat) (l : List Oper) (s : St), l = ops.toList.drop b → annGo ops (masks ops) b as = true → anyK P O ops as l s K → AAny P n0 ro ops b s K
 | [], b, l, s, _, ha, h => aany_nil (Nat.le_of_ble_eq_true ha) h
 | (len, fl, tr, re) :: as, b, l, s, hl, ha, h => by
  simp only [annGo, Bool.and_eq_true] at ha
  obtain ⟨⟨⟨h1, h2⟩, h3⟩, h4⟩ := ha
  have hph := phF_of h1
  simp only [anyK] at h
  have hlen : (l.take len).length = len := by have := hph.size; simp [hl]; omega
  obtain ⟨st, row, e0, hT, hK⟩ := phK_sound hO (l.take len) b s [] _ _ (fun j hj => by
   rw [hlen] at hj
   rw [hl, List.getElem?_take, if_pos hj, List.getElem?_drop]; simp) h
  rw [hlen] at hT hK
  obtain ⟨hA, hre⟩ := reK_sound re hK
  subst e0
  refine aany_phase hT hph hb (fun p y hm hp hy hrun => ?_) (adoptK_mono (fun s2 hs2 => anyK_sound hO hb as (b + len) (l.drop len) s2 (by rw [hl, List.drop_drop]) h4 hs2) _ _ (by rw [← hl]; exact hA))
  obtain ⟨⟨x, z⟩, hxz, he⟩ := List.mem_map.1 hm
  simp only [Prod.mk.injEq] at he
  have hlt := List.all_eq_true.1 h3 _ hxz
  simp only [Bool.and_eq_true] at hlt
  have hx : x < len := Nat.le_of_ble_eq_true hlt.1
  have hz : z ≤ len := Nat.le_of_ble_eq_true hlt.2
  obtain ⟨r', h', a1, a2, a3⟩ := hre x z hxz
  have htr : tr = true := by
   rcases Bool.or_eq_true _ _ ▸ h2 with h | h
   ·exact h
   ·cases re with
    | nil => cases hxz
    | cons q r => simp at h
  subst htr
  simp only [if_true, List.append_nil] at a1 a2
  have e1 : (rowsR row len)[x]? = some (row (len - 1 - x)) := by
   simp only [rowsR]
   rw [List.getElem?_reverse (by simpa using hx)]
   simp [show len - 1 - x < len by omega]
  have e2 : (hsR st len ++ [(st 0).h])[z]? = some (st (len - z)).h := by
   rcases Nat.lt_or_ge z len with h | h
   ·rw [List.getElem?_append_left (by simpa [hsR] using h)]
    simp only [hsR]
    rw [List.getElem?_reverse (by simpa using h)]
    simp [show len - 1 - z < len by omega, show len - 1 - z + 1 = len - z by omega]
   ·rw [List.getElem?_append_right (by simpa [hsR] using h)]
    have : z = len := by omega
    subst this
    simp [hsR]
  rw [e1] at a1; cases a1
  rw [e2] at a2; cases a2
  obtain ⟨rfl, rfl⟩ := he
  exact a3 hrun

theorem awp_draw (hO : OkO P O) {id : Nat} {ops : Array Oper} {as : List Ann} {s : St} {Q : Ex → St → Prop} (hm : P.follows .mixedOrders = true) (ha : annOk ops as = true) (h : anyK P O ops as ops.toList s (Q .normal)) :
  AWp P n0 ro (.region id ops true) s Q := by
 simp only [annOk, Bool.and_eq_true] at ha
 have hA : AAny P n0 ro ops 0 s (Q .normal) := anyK_sound hO (back_of ha.1) as 0 ops.toList s (by simp) ha.2 h
 intro X k0 k a hn hat
 refine wpIn_region_any hm ?_
 have hle : Le k { k with w := { k.w with drawn := k.w.drawn + 1 } } := le_world rfl rfl rfl (Nat.le_refl _) fun _ _ => rfl
 have hat' : At X k0 { k with w := { k.w with drawn := k.w.drawn + 1 } } a s := ⟨hat.h, hat.nid, hat.good.world hle fun _ _ => rfl, hat.le.trans hle, hat.act.le hat.good hle⟩
 refine hA X k0 { k with w := { k.w with drawn := k.w.drawn + 1 } } a (Post X k0 Q) hn hat' (fun k' a' s' hs' hat2 _ => ⟨.normal, k', s', rfl, rfl, hs', hat2⟩) _ _ (by simp) (fun i hi => ?_) (by omega)
 simp [Ran, Array.getD_eq_getD_getElem?, hi]

end
end Go.Sx
