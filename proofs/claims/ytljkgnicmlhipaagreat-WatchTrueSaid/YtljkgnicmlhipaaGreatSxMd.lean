/- Own work: a calculus of contracts for the programs of this kit: parts SxX, SxY, SxZ. -/
import Derived.Test.YtljkgnicmlhipaaGreatSxMc
set_option linter.unusedVariables false
set_option linter.unusedSimpArgs false
namespace Go.Sx


theorem beq_ne {a b : Nat} (h : a ≠ b) : Nat.beq a b = false := by
 cases hb : Nat.beq a b with
 | false => rfl
 | true => exact absurd (Nat.eq_of_beq_eq_true hb) h
def eset : Env → Nat → D → Env
 | [], t, d => [(t, d)]
 | (i, x) :: r, t, d => bif Nat.beq t i then (i, d) :: r else (i, x) :: eset r t d

theorem look_eset (e : Env) (t : Nat) (d : D) (j : Nat) : look (eset e t d) j = if j = t then d else look e j := by
 induction e with
 | nil => simp [eset, look]
 | cons p r ih =>
  obtain ⟨i, x⟩ := p
  simp only [eset]
  by_cases hi : t = i
  ·subst hi
   simp only [show Nat.beq t t = true by simp, cond_true, look]
   by_cases hj : j = t <;> simp [hj]
  ·simp only [beq_ne hi, cond_false, look, ih]
   by_cases hj : j = i
   ·subst hj; simp [Ne.symm hi]
   ·simp [hj]




abbrev CallE := FuncId → List D → H → Nat → Option (D × H × Nat)
abbrev CallQ := FuncId → List D → H → Option D

section
variable {P : Program} {n0 : Nat} {ro : Option Nat} {call : CallE} {qcall : CallQ}




theorem At.ext {X : Nat → Prop} {k0 k : Cx} {a : Act} {e e' : Env} {h : H} {nid n : Nat} (he : ∀ i, look e' i = look e i) (hat : At X k0 k a ⟨e, h, nid, n⟩) : At X k0 k a ⟨e', h, nid, n⟩ :=
 ⟨hat.h, hat.nid, hat.good, hat.le, hat.act.size, fun i => by rw [he]; exact hat.act.rel i, hat.act.marks⟩


mutual
def D.data : D → Bool
 | .ptr _ _ | .eptr _ _ _ _ _ | .mp _ | .bsl _ _ _ _ | .any | .raw _ | .fn _ _ _ => false
 | .agg cs => D.dataL cs
 | .tup cs => D.dataL cs
 | .ifc _ d => D.data d
 | _ => true
def D.dataL : List D → Bool
 | [] => true
 | d :: ds => D.data d && D.dataL ds
end


end
end Go.Sx

/- Sx, part Y: nil slices that will be appended to; more rules for data. Own work. -/
namespace Go.Sx

section
variable {P : Program} {n0 : Nat} {ro : Option Nat}

theorem rel_nil {X : Nat → Prop} {k : Cx} (hg : Good X k) (ty : TypeId) (sz : Nat) : Rel ((k.nilArr ty sz).R X) (k.nid + 1) (.slice none 0 0) (.osl k.nid 0) :=
 .osl _ _ _ _ (by omega) fun m hm => by
  have hm' : lnOf (hget ((k.nid, .arr ty sz []) :: k.h) k.nid) = some m := hm
  simp [hget, lnOf] at hm'
  subst hm'
  exact ⟨Nat.le_refl _, fun _ => by simp [Cx.R, Cx.nilArr]⟩

theorem at_nil {X : Nat → Prop} {k0 k : Cx} {a : Act} {env : Env} {h : H} {nid n : Nat} (t : Nat) (ty : TypeId) (sz : Nat) (hl : look env t = .nils) (hat : At X k0 k a ⟨env, h, nid, n⟩) :
  ∃ k', k'.w = k.w ∧ At X k0 k' a ⟨eset env t (.osl nid 0), (nid, .arr ty sz []) :: h, nid + 1, n⟩ := by
 have hle := nilArr_le hat.good ty sz
 have hk : k.nid = nid := hat.nid
 refine ⟨k.nilArr ty sz, rfl, ?_, ?_, nilArr_good hat.good ty sz, hat.le.trans hle, ⟨hat.act.size, fun i => ?_, ?_⟩⟩
 ·show (k.nid, Blk.arr ty sz []) :: k.h = _
  rw [hk]; congr 1; exact hat.h
 ·show k.nid + 1 = _
  rw [hk]
 ·rw [look_eset]
  by_cases hi : i = t
  ·rw [if_pos hi, hi]
   have hr := hat.act.rel t
   rw [hl] at hr
   generalize a.tmps.getD t undef = v at hr
   cases hr
   have := rel_nil hat.good ty sz
   rw [hk] at this
   show Rel _ (k.nid + 1) _ _
   rw [hk]; exact this
  ·rw [if_neg hi]; exact (hat.act.rel i).le hle
 ·exact (hat.act.le hat.good hle).marks

theorem awp_nil {c : Code} {env : Env} {h : H} {nid n : Nat} {Q : Ex → St → Prop} (t : Nat) (ty : TypeId) (sz : Nat) (hl : look env t = .nils)
  (hw : AWp P n0 ro c ⟨eset env t (.osl nid 0), (nid, .arr ty sz []) :: h, nid + 1, n⟩ Q) : AWp P n0 ro c ⟨env, h, nid, n⟩ Q := by
 intro X k0 k a hn hat
 obtain ⟨k', h1, h2⟩ := at_nil t ty sz hl hat
 rw [← h1]
 exact hw X k0 k' a hn h2

theorem loopNil {c : Code} {env : Env} {h : H} {nid n : Nat} {Q : Ex → St → Prop} {u : Tag (c, Q)} (t : Nat) (ty : TypeId) (sz : Nat) (hl : look env t = .nils)
  (hw : LoopV P n0 ro c ⟨eset env t (.osl nid 0), (nid, .arr ty sz []) :: h, nid + 1, n⟩ Q u) : LoopV P n0 ro c ⟨env, h, nid, n⟩ Q u :=
 awp_nil t ty sz hl hw

theorem at_nilB {X : Nat → Prop} {k0 k : Cx} {a : Act} {env : Env} {h : H} {nid n : Nat} (b j : Nat) (cs : List D) (ty : TypeId) (sz : Nat) (hb : hget h b = some (.box cs)) (hl : cs[j]? = some .nils) (hat : At X k0 k a ⟨env, h, nid, n⟩) :
  ∃ k', k'.w = k.w ∧ At X k0 k' a ⟨env, hset ((nid, .arr ty sz []) :: h) b (.box (cs.set j (.osl nid 0))), nid + 1, n⟩ := by
 have hle := nilArr_le hat.good ty sz
 have hg1 := nilArr_good hat.good ty sz
 have hk : k.nid = nid := hat.nid
 have hh : k.h = h := hat.h
 subst hh; subst hk
 have hbn : b < k.nid := hat.good.key b _ hb
 have hb1 : hget (k.nilArr ty sz).h b = some (.box cs) := by simp only [Cx.nilArr, hget]; rw [if_neg (by omega)]; exact hb
 obtain ⟨vs, ty', a1, a2⟩ := hat.good.ok b _ hb
 have hup := hg1.upd (blk := .box (cs.set j (.osl k.nid 0))) (w' := k.w) (v' := (k.nilArr ty sz).sv b) hb1 rfl rfl rfl (Nat.le_refl _) (fun _ _ _ => rfl)
  (fun c hc => by
   rw [own_of_hget (blk := some (.box (cs.set j (.osl k.nid 0)))) (by simp [Cx.upd, hget_hset])] at hc
   rw [own_of_hget (blk := some (.box cs)) hb1]
   exact .inl hc) (fun m' hm' => by simp [lnOf] at hm')
  (fun hle2 => by
   refine ⟨vs, ty', a1, ?_⟩
   have h3 := (a2.le hle).le hle2
   refine ⟨by rw [List.length_set]; exact h3.1, fun i v d hv hd => ?_⟩
   rw [List.getElem?_set] at hd
   by_cases hij : j = i
   ·subst hij
    rw [if_pos rfl, if_pos (lt_of_getElem? hl)] at hd
    cases hd
    have hr := a2.2 j v .nils hv hl
    cases hr
    exact (rel_nil hat.good ty sz).le hle2
   ·rw [if_neg hij] at hd
    exact h3.2 i v d hv hd)
 refine ⟨(k.nilArr ty sz).upd b (.box (cs.set j (.osl k.nid 0))) k.w ((k.nilArr ty sz).sv b), rfl, rfl, rfl, hup.1, (hat.le.trans hle).trans hup.2, ?_⟩
 exact (hat.act.le hat.good hle).le hg1 hup.2

theorem loopNilB {c : Code} {env : Env} {h : H} {nid n : Nat} {Q : Ex → St → Prop} {u : Tag (c, Q)} (b j : Nat) (cs : List D) (ty : TypeId) (sz : Nat) (hb : hget h b = some (.box cs)) (hl : cs[j]? = some .nils)
  (hw : LoopV P n0 ro c ⟨env, hset ((nid, .arr ty sz []) :: h) b (.box (cs.set j (.osl nid 0))), nid + 1, n⟩ Q u) : LoopV P n0 ro c ⟨env, h, nid, n⟩ Q u := by
 intro X k0 k a hn hat
 obtain ⟨k', h1, h2⟩ := at_nilB b j cs ty sz hb hl hat
 rw [← h1]
 exact hw X k0 k' a hn h2

theorem oNone_eq (f : FuncId) (ds : List D) : oNone f ds = none := (rfl)
def mkO : List (FuncId × (List D → Option D)) → Oracle
 | [], _, _ => none
 | (i, g) :: r, f, ds => if f = i then g ds else mkO r f ds
theorem mkO_nil (f : FuncId) (ds : List D) : mkO [] f ds = none := (rfl)
theorem mkO_cons (i : FuncId) (g : List D → Option D) (r : List (FuncId × (List D → Option D))) (f : FuncId) (ds : List D) : mkO ((i, g) :: r) f ds = if f = i then g ds else mkO r f ds := (rfl)
theorem mkO_ok_nil : OkO P (mkO []) := fun _ _ _ h => by cases h
theorem mkO_ok {i : FuncId} {g : List D → Option D} {r : List (FuncId × (List D → Option D))} (hg : ∀ ds d, g ds = some d → Pure P i ds d) (hr : OkO P (mkO r)) : OkO P (mkO ((i, g) :: r)) := fun f ds d h => by
 simp only [mkO] at h
 split at h
 ·rename_i he; subst he; exact hg ds d h
 ·exact hr f ds d h
theorem flat_int (k : IntKind) (n : Int) : D.flat (.int k n) = true := (rfl)
theorem flat_bool (b : Bool) : D.flat (.bool b) = true := (rfl)
theorem flat_str (b : ByteArray) : D.flat (.str b) = true := (rfl)
theorem flat_agg (cs : List D) : D.flat (.agg cs) = D.flatL cs := (rfl)
theorem flat_tup (cs : List D) : D.flat (.tup cs) = D.flatL cs := (rfl)
theorem flatL_nil : D.flatL [] = true := (rfl)
theorem flatL_cons (d : D) (ds : List D) : D.flatL (d :: ds) = (D.flat d && D.flatL ds) := (rfl)
def viewB (o : Nat) : Option Blk → D
 | some (.box cs) => if D.ltL 0 cs then .ref cs o else .any
 | _ => .any
theorem view_ptr (h : H) (b o : Nat) : view h (.ptr b o) = viewB o (hget h b) := by
 simp only [view, viewB]; cases hget h b with
 | none => rfl
 | some x => cases x <;> rfl
theorem viewB_box (o : Nat) (cs : List D) (hl : D.ltL 0 cs = true) : viewB o (some (.box cs)) = .ref cs o := by simp [viewB, hl]
def viewA (n : Nat) : Option Blk → D
 | some (.arr _ _ es) => if n = es.length then .sl es else .any
 | _ => .any
theorem view_osl (h : H) (b n : Nat) : view h (.osl b n) = viewA n (hget h b) := by
 simp only [view, viewA]; cases hget h b with
 | none => rfl
 | some x => cases x <;> rfl
theorem viewA_arr (n : Nat) (t : TypeId) (sz : Nat) (es : List (List D)) (hn : n = es.length) : viewA n (some (.arr t sz es)) = .sl es := by simp [viewA, hn]
theorem view_fn (h : H) (f : Fn) (a c : List D) : view h (.fn f a c) = .fn f (viewL h a) (viewL h c) := (rfl)
theorem ltL_nil (m : Nat) : D.ltL m [] = true := (rfl)
theorem ltL_cons (m : Nat) (d : D) (ds : List D) : D.ltL m (d :: ds) = (D.lt m d && D.ltL m ds) := (rfl)
theorem lt_int (m : Nat) (k : IntKind) (n : Int) : D.lt m (.int k n) = true := (rfl)
theorem lt_bool (m : Nat) (b : Bool) : D.lt m (.bool b) = true := (rfl)
theorem lt_str (m : Nat) (b : ByteArray) : D.lt m (.str b) = true := (rfl)
theorem lt_sl (m : Nat) (es : List (List D)) : D.lt m (.sl es) = true := (rfl)
theorem lt_nils (m : Nat) : D.lt m .nils = true := (rfl)
theorem lt_agg (m : Nat) (cs : List D) : D.lt m (.agg cs) = D.ltL m cs := (rfl)
theorem lt_tup (m : Nat) (cs : List D) : D.lt m (.tup cs) = D.ltL m cs := (rfl)
theorem lt_ref (m : Nat) (cs : List D) (o : Nat) : D.lt m (.ref cs o) = true := (rfl)
theorem len_str {t : TypeId} (hu : P.underlying t = some .string) (h : H) (b : ByteArray) : lenOpD P h t (.str b) = some (.int .i64 b.size) := by simp [lenOpD, hu]
theorem eset_nil (t : Nat) (d : D) : eset [] t d = [(t, d)] := (rfl)
theorem eset_cons (i : Nat) (x : D) (r : Env) (t : Nat) (d : D) : eset ((i, x) :: r) t d = if t = i then (i, d) :: r else (i, x) :: eset r t d := by
 simp only [eset]
 by_cases h : t = i
 ·subst h; simp
 ·rw [beq_ne h, if_neg h]; rfl
theorem a_quo' {k : IntKind} {x y : Int} (h : y ≠ 0) : arith .quo k x y = some (.int k (k.wrap (x.tdiv y))) := by simp [arith, h]
theorem a_rem' {k : IntKind} {x y : Int} (h : y ≠ 0) : arith .rem k x y = some (.int k (x.tmod y)) := by simp [arith, h]
theorem litOp_of (h : H) (nid : Nat) (t : TypeId) (len : Nat) (parts : List (Nat × D)) {e : TypeId} {sz : Nat} {es : List (List D)} (hl : litSl P h t len parts = some (e, sz, es)) (hp : es.all (D.ltL 0) = true) :
  litOpD P h nid t len parts = some (.osl nid len, (nid, .arr e sz es) :: h, nid + 1) := by
 simp only [litOpD, hl, hp, if_true]

theorem lit_one {t e : TypeId} (hu : P.underlying t = some (.slice e)) (hs : sizeT P e = some 1) {z : D} (hz : zeroD P e = some [z]) (h : H) (nid : Nat) (d : D) (hd : cellsE h d = some [d]) (hl : D.lt 0 d = true) :
  litOpD P h nid t 1 [(0, d)] = some (.osl nid 1, (nid, .arr e 1 [[d]]) :: h, nid + 1) := by
 refine litOp_of h nid t 1 _ ?_ (by simp [D.ltL, hl])
 simp [litSl, hu, hs, hz, fillD, hd, repL, putL, chunk]

theorem lit_int {t e : TypeId} (hu : P.underlying t = some (.slice e)) (hs : sizeT P e = some 1) {z : D} (hz : zeroD P e = some [z]) (h : H) (nid : Nat) (k : IntKind) (n : Int) :
  litOpD P h nid t 1 [(0, .int k n)] = some (.osl nid 1, (nid, .arr e 1 [[.int k n]]) :: h, nid + 1) := lit_one hu hs hz h nid _ rfl rfl

theorem app_osl {t e : TypeId} (hu : P.underlying t = some (.slice e)) {sz : Nat} (hs : sizeT P e = some sz) {zs : List D} (hz : zeroD P e = some zs) (hzl : zs.length = sz) (h0 : 0 < sz) {by_ : Nat} (hby : P.bytesOf e = by_) (h : H) (nid b n b2 n2 : Nat) {es xs : List (List D)} {ty2 : TypeId} {sz2 : Nat}
  (hb : hget h b = some (.arr e sz es)) (hn : n = es.length) (hb2 : hget h b2 = some (.arr ty2 sz2 xs)) (hn2 : n2 = xs.length) (hok : okSrc sz xs = true) (hc : (es.length + xs.length) * by_ ≤ 140737488355328) (hc2 : es.length + xs.length ≤ 140737488355328) :
  appE P h nid t t (.osl b n) (.osl b2 n2) = some (.osl b (es.length + xs.length), hset h b (.arr e sz (es ++ xs)), nid) := by
 subst hn; subst hn2; subst hby
 simp [appE, hu, srcD, hb2, hs, hz, hzl, h0, hok, hb, hc, hc2]

end
end Go.Sx

/- Sx, part Z: literals of maps, whose entries come in whatever order. Own work. -/
namespace Go.Sx

section
variable {P : Program} {n0 : Nat} {ro : Option Nat}

theorem acall_of_wc {f : FuncId} {fn : Func} {c : Code} {ds : List D} {h : H} {nid : Nat} {Q : D → H → Nat → Prop} {rs : List ResultVar} {m : Nat} (T : List (Nat × List Ann)) {O : Oracle} (hO : OkO P O) (hm : P.follows .mixedOrders = true) (hf : P.funcs[f]? = some fn) (hb : fn.body = some c) (hcal : callable P f = true)
  (hrs : fn.results.toList = rs) (hn : ds.length + (fn.ntmps - ds.length) = m) (ht : tabOk T c = true) (hw : wc P nid none T O c ⟨argEnv 0 ds, h, nid, m⟩ (endK P rs Q)) : ACall P f ds h nid Q :=
 acall_of_awp hf hb hcal (awp_mono (wc_sound hO hm _ _ _ ht (by rw [hn]; exact hw)) fun e s hq => endQ_of hrs hq)


variable {ops : Array Oper} {X : Nat → Prop} {k0 : Cx} {Qe : Ex → St → Prop} {fuel : Nat} {listed : Array Bool} {k : Cx} {a : Act} {env : Env} {h : H} {nid n : Nat}

structure Ins where
 t : TypeId
 m : Nat
 key : Value
 s : Nat
 ty : TypeId
 pos : String
 after : Array Edge

end
end Go.Sx
