/- Own work: a calculus of contracts for the programs of this kit: parts SxZ3, SxZ4, SxZ5, SxZ6, SxZ7, SxAu. -/
import Derived.Test.YtaifjmjooapmhaaGreatSxMe
set_option linter.unusedVariables false
set_option linter.unusedSimpArgs false
namespace Go.Sx
variable {P : Program}
theorem app_sl {t e : TypeId} (hu : P.underlying t = some (.slice e)) {sz : Nat} (hs : sizeT P e = some sz) {zs : List D} (hz : zeroD P e = some zs) (hzl : zs.length = sz) (h0 : 0 < sz) {by_ : Nat} (hby : P.bytesOf e = by_) (h : H) (nid b n : Nat) {es xs : List (List D)}
  (hb : hget h b = some (.arr e sz es)) (hn : n = es.length) (hok : okSrc sz xs = true) (hc : (es.length + xs.length) * by_ ≤ 140737488355328) (hc2 : es.length + xs.length ≤ 140737488355328) :
  appE P h nid t t (.osl b n) (.sl xs) = some (.osl b (es.length + xs.length), hset h b (.arr e sz (es ++ xs)), nid) := by
 subst hn; subst hby
 simp [appE, hu, srcD, hs, hz, hzl, h0, hok, hb, hc, hc2]
theorem litD_one {t e : TypeId} (hu : P.underlying t = some (.slice e)) (hs : sizeT P e = some 1) {z : D} (hz : zeroD P e = some [z]) (h : H) (d : D) (hd : cellsE h d = some [d]) (hl : D.lt 0 d = true) :
  litD P h t 1 [(0, d)] = some (.sl [[d]]) := by
 have : litSl P h t 1 [(0, d)] = some (e, 1, [[d]]) := by simp [litSl, hu, hs, hz, fillD, hd, repL, putL, chunk]
 simp [litD, this, D.ltL, hl]
def curC (n : Nat) : Option Blk → Bool
 | some (.arr _ _ es) => Nat.beq n es.length
 | _ => false
theorem cur_osl (h : H) (b n : Nat) : curD h (.osl b n) = curC n (hget h b) := (rfl)
theorem curC_arr (n : Nat) (t : TypeId) (sz : Nat) (es : List (List D)) : curC n (some (.arr t sz es)) = decide (n = es.length) := by
 show Nat.beq n es.length = _
 rw [Bool.eq_iff_iff, decide_eq_true_eq]
 rw [Nat.beq_eq]
theorem pe_cons (n p : Nat) (ps : List Tmp) (d : D) (ds : List D) (e : Env) : parEnv n (p :: ps) (d :: ds) e = parEnv n ps ds (if p < n then (p, d) :: e else e) := (rfl)
theorem pe_nil (n : Nat) (ds : List D) (e : Env) : parEnv n [] ds e = e := (rfl)
theorem ex_tup (i : Nat) (ds : List D) : extractD i (.tup ds) = ds[i]? := (rfl)

variable {O : Oracle} {n0 : Nat}
end Go.Sx

/- Sx: loops whose heads may know less, name nil slices, or take own arrays as data. Own work. -/
namespace Go.Sx
variable {P : Program} {O : Oracle} {n0 : Nat} {ro : Option Nat}

def Imp (n0 : Nat) (s s' : St) : Prop := ∀ X k0 k a, k0.nid = n0 → At X k0 k a s → ∃ k', k'.w = k.w ∧ At X k0 k' a s'

theorem Imp.weak {s s' : St} (h : Weak n0 s s') : Imp n0 s s' := fun _ _ _ _ hn hat => hat.weak hn h
theorem Imp.trans {a b c : St} (h : Imp n0 a b) (h' : Imp n0 b c) : Imp n0 a c := fun X k0 k x hn hat => by
 obtain ⟨k1, e1, h1⟩ := h X k0 k x hn hat
 obtain ⟨k2, e2, h2⟩ := h' X k0 k1 x hn h1
 exact ⟨k2, e2.trans e1, h2⟩

theorem Imp.frz {env : Env} {h : H} {nid n : Nat} (b : Nat) : Imp n0 ⟨env, h, nid, n⟩ ⟨env.map fun p => (p.1, frzD h (herase h b) p.2), herase h b, nid, n⟩ := fun X k0 k a hn hat => by
 have hh : k.h = h := hat.h
 have hnid : k.nid = nid := hat.nid
 subst hh; subst hnid
 have hsub : ∀ id blk, hget (herase k.h b) id = some blk → hget k.h id = some blk := fun id blk hb => by
  rw [herase_get] at hb
  split at hb
  ·cases hb
  ·exact hb
 refine ⟨{ k with h := herase k.h b, nid := k.nid }, rfl, rfl, rfl, hat.good.drop hsub (fun id blk hb => hat.good.key id blk (hsub id blk hb)) (fun hlt => absurd hlt (Nat.lt_irrefl _)), Le.drop hat.le hat.le.nid hsub, hat.act.size, fun i => ?_, hat.act.marks⟩
 have hl : look (env.map fun p => (p.1, frzD k.h (herase k.h b) p.2)) i = frzD k.h (herase k.h b) (look env i) := by
  clear hat hsub
  induction env with
  | nil => rfl
  | cons p e ih =>
   obtain ⟨j, d⟩ := p
   simp only [List.map_cons, look]
   split
   ·rfl
   ·exact ih
 show Rel _ _ _ (look (env.map fun p => (p.1, frzD k.h (herase k.h b) p.2)) i)
 rw [hl]
 exact frz_rel hat.good hsub (hat.act.rel i)

theorem awp_imp {c : Code} {s s' : St} {Q : Ex → St → Prop} (hi : Imp n0 s s') (h : AWp P n0 ro c s' Q) : AWp P n0 ro c s Q := fun X k0 k a hn hat => by
 obtain ⟨k', h1, h2⟩ := hi X k0 k a hn hat
 rw [← h1]
 exact h X k0 k' a hn h2

theorem awp_loopI {ι : Type} {c : Code} {s : St} {Q : Ex → St → Prop} (σ : ι → St) (I : ι → Prop) (μ : ι → Nat) (i0 : ι) (h0 : I i0) (hw : Imp n0 s (σ i0))
  (round : ∀ i, I i → AWp P n0 ro c (σ i) (thenQ (fun s' => ∃ j, I j ∧ μ j < μ i ∧ Imp n0 s' (σ j)) Q)) : AWp P n0 ro (.loop c) s Q := by
 intro X k0 k a hn hat
 obtain ⟨k', hk', hat'⟩ := hw X k0 k a hn hat
 rw [← hk']
 refine wpIn_loopI (fun i a w => I i ∧ ∃ k, k.w = w ∧ At X k0 k a (σ i)) μ i0 ⟨h0, k', rfl, hat'⟩ ?_
 rintro i a w ⟨hi, k, rfl, hat⟩
 refine wpIn_mono (round i hi X k0 k a hn hat) ?_
 rintro e a' w' ⟨x, k1, s1, hx, rfl, hq, hat1⟩
 cases e with
 | normal =>
  simp only [exOf, Option.some.injEq] at hx; subst hx
  obtain ⟨j, hj, hlt, him⟩ := hq
  obtain ⟨k2, e2, hat2⟩ := him X k0 k1 a' hn hat1
  exact ⟨j, ⟨hj, k2, e2, hat2⟩, hlt⟩
 | exit id => simp only [exOf, Option.some.injEq] at hx; subst hx; exact ⟨_, k1, s1, rfl, rfl, hq, hat1⟩
 | ret => simp only [exOf, Option.some.injEq] at hx; subst hx; exact ⟨_, k1, s1, rfl, rfl, hq, hat1⟩
 | _ => simp [exOf] at hx

theorem imp_head {s : St} {e : Env} {h : H} {nid n : Nat} (hw : headW n0 s e h nid n) : Imp n0 s ⟨e, h, nid, n⟩ := .weak (weak_of hw)
theorem imp_frz {env e : Env} {h h' : H} {nid nid' n n' : Nat} (b : Nat) (hw : headW n0 ⟨env.map fun p => (p.1, frzD h (herase h b) p.2), herase h b, nid, n⟩ e h' nid' n') : Imp n0 ⟨env, h, nid, n⟩ ⟨e, h', nid', n'⟩ :=
 (Imp.frz b).trans (.weak (weak_of hw))

theorem loopW {ι : Type} {c : Code} {s : St} {Q : Ex → St → Prop} {u : Tag (Code.loop c, Q)} (hO : OkO P O) (T : List (Nat × List Ann)) (E : ι → Env) (V : ι → H) (nid : Nat) (I : ι → Prop) (μ : ι → Nat) (i0 : ι) (hm : P.follows .mixedOrders = true) (ht : tabOk T c = true)
  (h0 : I i0) (hw : Imp n0 s ⟨E i0, V i0, nid, s.n⟩)
  (round : ∀ i, I i → wc P n0 ro T O c ⟨E i, V i, nid, s.n⟩ (thenQ (fun s' => ∃ j, I j ∧ μ j < μ i ∧ Imp n0 s' ⟨E j, V j, nid, s.n⟩) Q)) : LoopV P n0 ro (.loop c) s Q u :=
 awp_loopI (fun i => ⟨E i, V i, nid, s.n⟩) I μ i0 h0 hw fun i hi => wc_sound hO hm c _ _ ht (round i hi)
end Go.Sx

/- Sx: append to nil slices, and of whatever source. Own work. -/
namespace Go.Sx
variable {P : Program}
theorem app_nils {t e : TypeId} (hu : P.underlying t = some (.slice e)) {sz : Nat} (hs : sizeT P e = some sz) {zs : List D} (hz : zeroD P e = some zs) (hzl : zs.length = sz) (h0 : 0 < sz) {by_ : Nat} (hby : P.bytesOf e = by_) (h : H) (nid : Nat) {x : D} {xs : List (List D)}
  (hx : srcD h x = some xs) (hok : okSrc sz xs = true) (hc : xs.length * by_ ≤ 140737488355328) (hc2 : xs.length ≤ 140737488355328) :
  appE P h nid t t .nils x = some (.osl nid xs.length, (nid, .arr e sz xs) :: h, nid + 1) := by
 subst hby
 simp [appE, hu, hx, hs, hz, hzl, h0, hok, hc, hc2]
theorem hget_nil (k : Nat) : hget [] k = none := (rfl)
theorem er_nil (k : Nat) : herase [] k = [] := (rfl)
theorem er_same (i : Nat) (b : Blk) (r : H) : herase ((i, b) :: r) i = herase r i := by simp [herase]
theorem er_ne (i k : Nat) (b : Blk) (r : H) (h : k ≠ i) : herase ((i, b) :: r) k = (i, b) :: herase r k := by simp [herase, h]
theorem fzH_nil (h : H) : frzH h [] = h := (rfl)
theorem fzH_osl (h : H) (b n : Nat) (r : List D) : frzH h (.osl b n :: r) = herase (frzH h r) b := (rfl)
theorem fzH_int (h : H) (k : IntKind) (x : Int) (r : List D) : frzH h (.int k x :: r) = frzH h r := (rfl)
theorem fzH_bool (h : H) (x : Bool) (r : List D) : frzH h (.bool x :: r) = frzH h r := (rfl)
theorem fzH_sl (h : H) (es : List (List D)) (r : List D) : frzH h (.sl es :: r) = frzH h r := (rfl)
theorem fzH_nils (h : H) (r : List D) : frzH h (.nils :: r) = frzH h r := (rfl)
theorem fzH_agg (h : H) (es : List D) (r : List D) : frzH h (.agg es :: r) = frzH h r := (rfl)
def fzC (b n : Nat) : Option Blk → Option Blk → D
 | some _, _ => .osl b n
 | none, some (.arr _ _ es) => if n = es.length then .sl es else .osl b n
 | none, _ => .osl b n
theorem fz_osl (h h' : H) (b n : Nat) : frzD h h' (.osl b n) = fzC b n (hget h' b) (hget h b) := by
 simp only [frzD, fzC]
 cases hget h' b with
 | some _ => rfl
 | none =>
  cases hget h b with
  | none => rfl
  | some x => cases x <;> rfl
theorem fzC_some (b n : Nat) (x : Blk) (y : Option Blk) : fzC b n (some x) y = .osl b n := (rfl)
theorem fzC_arr (b n : Nat) (t : TypeId) (sz : Nat) (es : List (List D)) : fzC b n none (some (.arr t sz es)) = if n = es.length then .sl es else .osl b n := (rfl)
theorem fz_int (h h' : H) (k : IntKind) (x : Int) : frzD h h' (.int k x) = .int k x := (rfl)
theorem fz_bool (h h' : H) (x : Bool) : frzD h h' (.bool x) = .bool x := (rfl)
theorem fz_sl (h h' : H) (es : List (List D)) : frzD h h' (.sl es) = .sl es := (rfl)
theorem fz_nils (h h' : H) : frzD h h' .nils = .nils := (rfl)
theorem fz_agg (h h' : H) (es : List D) : frzD h h' (.agg es) = .agg es := (rfl)
def fzP (b o : Nat) : Option Blk → Option Blk → D
 | some _, _ => .ptr b o
 | none, some (.box cs) =>
  match cs, o with
  | [.mpd kvs], 0 => .refm kvs
  | cs, o => if D.ltL 0 cs then .ref cs o else .ptr b o
 | none, _ => .ptr b o
theorem fz_ptr (h h' : H) (b o : Nat) : frzD h h' (.ptr b o) = fzP b o (hget h' b) (hget h b) := by
 simp only [frzD, fzP]
 cases hget h' b with
 | some x => rfl
 | none => cases hget h b with
  | none => rfl
  | some y => cases y <;> rfl
theorem fzP_some (b o : Nat) (x : Blk) (y : Option Blk) : fzP b o (some x) y = .ptr b o := (rfl)
theorem fzP_mpd (b : Nat) (kvs : List (D × D)) : fzP b 0 none (some (.box [.mpd kvs])) = .refm kvs := (rfl)
theorem fzP_none (b o : Nat) : fzP b o none none = .ptr b o := (rfl)
def fzM (b : Nat) : Option Blk → Option Blk → D
 | some _, _ => .mp b
 | none, some (.map kvs) => if D.ltL 0 (kvs.map (·.2)) then .mpd kvs else .mp b
 | none, _ => .mp b
theorem fz_mp (h h' : H) (b : Nat) : frzD h h' (.mp b) = fzM b (hget h' b) (hget h b) := by
 simp only [frzD, fzM]
 cases hget h' b with
 | some x => rfl
 | none => cases hget h b with
  | none => rfl
  | some y => cases y <;> rfl
theorem fzM_some (b : Nat) (x : Blk) (y : Option Blk) : fzM b (some x) y = .mp b := (rfl)
theorem fzM_map (b : Nat) (kvs : List (D × D)) : fzM b none (some (.map kvs)) = if D.ltL 0 (kvs.map (·.2)) then .mpd kvs else .mp b := (rfl)
theorem fz_mpd (h h' : H) (k : List (D × D)) : frzD h h' (.mpd k) = .mpd k := (rfl)
theorem fz_refm (h h' : H) (k : List (D × D)) : frzD h h' (.refm k) = .refm k := (rfl)
theorem fz_fn (h h' : H) (f : Fn) (a c : List D) : frzD h h' (.fn f a c) = .fn f a c := (rfl)
theorem fz_str (h h' : H) (b : ByteArray) : frzD h h' (.str b) = .str b := (rfl)
theorem fz_ifc (h h' : H) (t : TypeId) (d : D) : frzD h h' (.ifc t d) = .ifc t d := (rfl)
theorem fz_tup (h h' : H) (l : List D) : frzD h h' (.tup l) = .tup l := (rfl)
theorem fz_ref (h h' : H) (es : List D) (o : Nat) : frzD h h' (.ref es o) = .ref es o := (rfl)
end Go.Sx

/- Sx: coded lists, oracles out of decoders. Own work. -/
namespace Go.Sx
variable {P : Program}

structure En (α : Type) where
 d : α → List D
 dec : List D → Option α
 h1 : ∀ a, dec (d a) = some a
 h2 : ∀ c a, dec c = some a → c = d a
 sz : Nat
 hsz : ∀ a, (d a).length = sz

variable {α : Type}
def En.decL (E : En α) : List (List D) → Option (List α)
 | [] => some []
 | c :: r => match E.dec c with
  | some a => match E.decL r with
   | some l => some (a :: l)
   | none => none
  | none => none
def En.sl (E : En α) : D → Option (List α)
 | .sl es => E.decL es
 | .nils => some []
 | _ => none
variable {E : En α}
theorem En.decL_map : ∀ l : List α, E.decL (l.map E.d) = some l
 | [] => rfl
 | a :: l => by simp only [List.map_cons, En.decL, E.h1, En.decL_map l]
theorem En.decL_inv : ∀ {es : List (List D)} {l : List α}, E.decL es = some l → es = l.map E.d
 | [], l, h => by simp [En.decL] at h; subst h; rfl
 | c :: r, l, h => by
  simp only [En.decL] at h
  split at h
  ·rename_i a ha
   split at h
   ·rename_i l' hl
    cases h
    rw [List.map_cons, ← E.h2 _ _ ha, ← En.decL_inv hl]
   ·cases h
  ·cases h
theorem En.sl_map (l : List α) : E.sl (.sl (l.map E.d)) = some l := En.decL_map l
theorem En.inv {x : D} {l : List α} (h : E.sl x = some l) : x = .sl (l.map E.d) ∨ (x = .nils ∧ l = []) := by
 unfold En.sl at h
 split at h
 ·exact .inl (by rw [En.decL_inv h])
 ·cases h; exact .inr ⟨rfl, rfl⟩
 ·cases h
theorem En.view {x : D} {l : List α} (h : E.sl x = some l) (hp : H) : Sx.view hp x = x := by
 rcases En.inv h with rfl | ⟨rfl, rfl⟩ <;> rfl
theorem En.lt {x : D} {l : List α} (h : E.sl x = some l) (m : Nat) : D.lt m x = true := by
 rcases En.inv h with rfl | ⟨rfl, rfl⟩ <;> rfl
theorem En.len {t e : TypeId} (hu : P.underlying t = some (.slice e)) {x : D} {l : List α} (h : E.sl x = some l) (hp : H) : lenOpD P hp t x = some (.int .i64 l.length) := by
 rcases En.inv h with rfl | ⟨rfl, rfl⟩
 ·rw [len_sl hu]; simp
 ·rw [len_nils hu]; rfl
theorem En.ix {t e : TypeId} (hu : P.underlying t = some (.slice e)) (hs : sizeT P e = some E.sz) {x : D} {l : List α} (h : E.sl x = some l) {i : Nat} {a : α} (ha : l[i]? = some a) (hp : H) (k : IntKind) :
  indexAddrD P hp t x (.int k (i : Int)) = some (.ref (E.d a) 0) := by
 rcases En.inv h with rfl | ⟨rfl, rfl⟩
 ·exact ix_sl hu hs (by simp [ha]) (E.hsz a) hp k
 ·simp at ha
theorem En.src {x : D} {l : List α} (h : E.sl x = some l) (hp : H) : srcD hp x = some (l.map E.d) := by
 rcases En.inv h with rfl | ⟨rfl, rfl⟩ <;> rfl

def orc {β : Type} (dec : List D → Option β) (ok : β → Bool) (k : β → D) (ds : List D) : Option D :=
 match dec ds with
 | some a => if ok a then some (k a) else none
 | none => none
theorem orc_ok {β : Type} {f : FuncId} {dec : List D → Option β} {ok : β → Bool} {k : β → D} (h : ∀ ds a, dec ds = some a → ok a = true → Pure P f ds (k a)) (ds : List D) (r : D) (hr : orc dec ok k ds = some r) : Pure P f ds r := by
 unfold orc at hr
 split at hr
 ·rename_i a ha
  split at hr
  ·rename_i hok; cases hr; exact h _ _ ha hok
  ·cases hr
 ·cases hr
theorem orc_eq {β : Type} {dec : List D → Option β} {ok : β → Bool} {k : β → D} {ds : List D} {a : β} (h : dec ds = some a) (hok : ok a = true) : orc dec ok k ds = some (k a) := by
 simp [orc, h, hok]

def enI : En Int where
 d x := [.int .i64 x]
 dec | [.int .i64 x] => some x | _ => none
 h1 _ := rfl
 h2 c a h := by
  split at h
  ·cases h; rfl
  ·cases h
 sz := 1
 hsz _ := rfl
def enB : En Bool where
 d x := [.bool x]
 dec | [.bool x] => some x | _ => none
 h1 _ := rfl
 h2 c a h := by
  split at h
  ·cases h; rfl
  ·cases h
 sz := 1
 hsz _ := rfl
def enS : En (Int × Int) where
 d x := [.int .i64 x.1, .int .i64 x.2]
 dec | [.int .i64 x, .int .i64 y] => some (x, y) | _ => none
 h1 _ := rfl
 h2 c a h := by
  split at h
  ·cases h; rfl
  ·cases h
 sz := 2
 hsz _ := rfl
end Go.Sx

/- Sx: splitting of conditions. Own work. -/
namespace Go.Sx
theorem beq_dec (x y : Int) : (x == y) = decide (x = y) := (rfl)
variable {P : Program}
theorem slice_arr {t e : TypeId} {n sz : Nat} (hu : P.underlying t = some (.array n e)) (hs : sizeT P e = some sz) (h0 : 0 < n) (b o : Nat) : sliceD P t (.ptr b o) none none = some (.bsl b o n sz) := by
 simp [sliceD, hu, hs, boundD, h0]
theorem ix_arr {t e : TypeId} {n sz : Nat} (hu : P.underlying t = some (.array n e)) (hs : sizeT P e = some sz) {i : Nat} (hi : i < n) (cs : List D) (k : IntKind) : indexD P t (.agg cs) (.int k (i : Int)) = partD P e cs (i * sz) := by
 simp only [indexD, hu, hs]
 rw [if_pos (by omega)]
 simp
def viewC (o l sz : Nat) : Option Blk → D
 | some (.box cs) => if D.ltL 0 cs && Nat.ble (o + l * sz) cs.length then .sl (chunk sz l (cs.drop o)) else .any
 | _ => .any
theorem view_bsl (h : H) (b o l sz : Nat) : view h (.bsl b o l sz) = viewC o l sz (hget h b) := by
 simp only [view, viewC]
 cases hget h b with
 | none => rfl
 | some x => cases x <;> rfl
theorem lt_fn (m : Nat) (f : Fn) (a c : List D) : D.lt m (.fn f a c) = (D.ltL m a && D.ltL m c) := (rfl)
theorem ad_fieldAddr (d : Option Tmp) (t : TypeId) (x : Operand) (f : Nat) (ty : TypeId) (pos : String) (after : Array Edge) (g : Option (Nat × Bool)) (r : List Oper) (s : St) (K : St → Prop) : adoptK P true (⟨d, .fieldAddr t x f, ty, pos, after, g⟩ :: r) s K = adoptK P true r s K := adopt_skip _ _ _ _ rfl
theorem ad_load (d : Option Tmp) (t : TypeId) (x : Operand) (ty : TypeId) (pos : String) (after : Array Edge) (g : Option (Nat × Bool)) (r : List Oper) (s : St) (K : St → Prop) : adoptK P true (⟨d, .load t x, ty, pos, after, g⟩ :: r) s K = adoptK P true r s K := adopt_skip _ _ _ _ rfl
theorem ad_call (d : Option Tmp) (v : Operand) (x : Array Operand) (t : Array TypeId) (ty : TypeId) (pos : String) (after : Array Edge) (g : Option (Nat × Bool)) (r : List Oper) (s : St) (K : St → Prop) : adoptK P true (⟨d, .call ⟨.value v, x, t⟩, ty, pos, after, g⟩ :: r) s K = adoptK P true r s K := adopt_skip _ _ _ _ rfl
theorem ad_move (d : Option Tmp) (x : Operand) (ty : TypeId) (pos : String) (after : Array Edge) (g : Option (Nat × Bool)) (r : List Oper) (s : St) (K : St → Prop) : adoptK P true (⟨d, .move x, ty, pos, after, g⟩ :: r) s K = adoptK P true r s K := adopt_skip _ _ _ _ rfl
theorem ad_assign (d : Option Tmp) (x : Operand) (ty : TypeId) (pos : String) (after : Array Edge) (g : Option (Nat × Bool)) (r : List Oper) (s : St) (K : St → Prop) : adoptK P true (⟨d, .assign x, ty, pos, after, g⟩ :: r) s K = adoptK P true r s K := adopt_skip _ _ _ _ rfl
theorem ad_field (d : Option Tmp) (t : TypeId) (x : Operand) (f : Nat) (ty : TypeId) (pos : String) (after : Array Edge) (g : Option (Nat × Bool)) (r : List Oper) (s : St) (K : St → Prop) : adoptK P true (⟨d, .field t x f, ty, pos, after, g⟩ :: r) s K = adoptK P true r s K := adopt_skip _ _ _ _ rfl
theorem ad_binOp (d : Option Tmp) (o : BinOp) (t u : TypeId) (x y : Operand) (ty : TypeId) (pos : String) (after : Array Edge) (g : Option (Nat × Bool)) (r : List Oper) (s : St) (K : St → Prop) : adoptK P true (⟨d, .binOp o t x y u, ty, pos, after, g⟩ :: r) s K = adoptK P true r s K := adopt_skip _ _ _ _ rfl
theorem ad_extract (d : Option Tmp) (x : Operand) (i : Nat) (ty : TypeId) (pos : String) (after : Array Edge) (g : Option (Nat × Bool)) (r : List Oper) (s : St) (K : St → Prop) : adoptK P true (⟨d, .extract x i, ty, pos, after, g⟩ :: r) s K = adoptK P true r s K := adopt_skip _ _ _ _ rfl
theorem ad_indexAddr (d : Option Tmp) (t : TypeId) (x i : Operand) (ty : TypeId) (pos : String) (after : Array Edge) (g : Option (Nat × Bool)) (r : List Oper) (s : St) (K : St → Prop) : adoptK P true (⟨d, .indexAddr t x i, ty, pos, after, g⟩ :: r) s K = adoptK P true r s K := adopt_skip _ _ _ _ rfl
theorem ad_index (d : Option Tmp) (t : TypeId) (x i : Operand) (ty : TypeId) (pos : String) (after : Array Edge) (g : Option (Nat × Bool)) (r : List Oper) (s : St) (K : St → Prop) : adoptK P true (⟨d, .index t x i, ty, pos, after, g⟩ :: r) s K = adoptK P true r s K := adopt_skip _ _ _ _ rfl
theorem ad_build (d : Option Tmp) (t : TypeId) (p : Array (Nat × Operand)) (ty : TypeId) (pos : String) (after : Array Edge) (g : Option (Nat × Bool)) (r : List Oper) (s : St) (K : St → Prop) : adoptK P true (⟨d, .build t p, ty, pos, after, g⟩ :: r) s K = adoptK P true r s K := adopt_skip _ _ _ _ rfl
theorem ad_nilCheck (d : Option Tmp) (x : Operand) (ty : TypeId) (pos : String) (after : Array Edge) (g : Option (Nat × Bool)) (r : List Oper) (s : St) (K : St → Prop) : adoptK P true (⟨d, .nilCheck x, ty, pos, after, g⟩ :: r) s K = adoptK P true r s K := adopt_skip _ _ _ _ rfl
theorem ad_pick (d : Option Tmp) (c x y : Operand) (ty : TypeId) (pos : String) (after : Array Edge) (g : Option (Nat × Bool)) (r : List Oper) (s : St) (K : St → Prop) : adoptK P true (⟨d, .pick c x y, ty, pos, after, g⟩ :: r) s K = adoptK P true r s K := adopt_skip _ _ _ _ rfl
theorem ad_unOp (d : Option Tmp) (o : UnOp) (t : TypeId) (x : Operand) (ty : TypeId) (pos : String) (after : Array Edge) (g : Option (Nat × Bool)) (r : List Oper) (s : St) (K : St → Prop) : adoptK P true (⟨d, .unOp o t x, ty, pos, after, g⟩ :: r) s K = adoptK P true r s K := adopt_skip _ _ _ _ rfl
theorem ad_convert (d : Option Tmp) (t u : TypeId) (x : Operand) (ty : TypeId) (pos : String) (after : Array Edge) (g : Option (Nat × Bool)) (r : List Oper) (s : St) (K : St → Prop) : adoptK P true (⟨d, .convert t u x, ty, pos, after, g⟩ :: r) s K = adoptK P true r s K := adopt_skip _ _ _ _ rfl
theorem ad_makeFunc (d : Option Tmp) (f : Fn) (x y : Array Operand) (ty : TypeId) (pos : String) (after : Array Edge) (g : Option (Nat × Bool)) (r : List Oper) (s : St) (K : St → Prop) : adoptK P true (⟨d, .makeFunc f x y, ty, pos, after, g⟩ :: r) s K = adoptK P true r s K := adopt_skip _ _ _ _ rfl
theorem ad_iface (d : Option Tmp) (t : TypeId) (x : Operand) (ty : TypeId) (pos : String) (after : Array Edge) (g : Option (Nat × Bool)) (r : List Oper) (s : St) (K : St → Prop) : adoptK P true (⟨d, .makeInterface t x, ty, pos, after, g⟩ :: r) s K = adoptK P true r s K := adopt_skip _ _ _ _ rfl
theorem ad_lookup (d : Option Tmp) (t : TypeId) (x y : Operand) (ok : Bool) (ty : TypeId) (pos : String) (after : Array Edge) (g : Option (Nat × Bool)) (r : List Oper) (s : St) (K : St → Prop) : adoptK P true (⟨d, .lookup t x y ok, ty, pos, after, g⟩ :: r) s K = adoptK P true r s K := adopt_skip _ _ _ _ rfl
theorem loopN {O : Oracle} {n0 : Nat} {ro : Option Nat} {ι : Type} {c : Code} {s : St} {Q : Ex → St → Prop} {u : Tag (Code.loop c, Q)} (hO : OkO P O) (T : List (Nat × List Ann)) (E : ι → Env) (V : ι → H) (nid : ι → Nat) (I : ι → Prop) (μ : ι → Nat) (i0 : ι) (hm : P.follows .mixedOrders = true) (ht : tabOk T c = true)
  (h0 : I i0) (hw : Imp n0 s ⟨E i0, V i0, nid i0, s.n⟩)
  (round : ∀ i, I i → wc P n0 ro T O c ⟨E i, V i, nid i, s.n⟩ (thenQ (fun s' => ∃ j, I j ∧ μ j < μ i ∧ Imp n0 s' ⟨E j, V j, nid j, s.n⟩) Q)) : LoopV P n0 ro (.loop c) s Q u :=
 awp_loopI (fun i => ⟨E i, V i, nid i, s.n⟩) I μ i0 h0 hw fun i hi => wc_sound hO hm c _ _ ht (round i hi)
end Go.Sx

/- Sx: the rules in bundles. Own work. -/
namespace Go.Sx
set_option maxRecDepth 10000
set_option linter.defProp false
def RD := And.intro @r_makeSlice <| And.intro @r_invoke <| And.intro @r_slice3 <| And.intro @wc_skip (And.intro @wc_label (And.intro @wc_exit (And.intro @wc_ret (And.intro @wc_seq (And.intro @wc_block (And.intro @wc_scope (And.intro @wc_region (And.intro @wc_draw (And.intro @wc_cond (And.intro @wc_loop (And.intro @wc_rangeFunc (And.intro @condZ_true (And.intro @condZ_false (And.intro @condZ_bool (And.intro @BR_true (And.intro @BR_false (And.intro @thenQ_normal (And.intro @thenQ_exit (And.intro @thenQ_ret (And.intro @blockQ_normal (And.intro @blockQ_exit_same (And.intro @blockQ_exit_ne (And.intro @blockQ_ret (And.intro @wcOps_nil (And.intro @wcOps_cons (And.intro @wcOps_guard (And.intro @guardZ_true (And.intro @guardZ_false (And.intro @guardZ_true' (And.intro @guardZ_false' (And.intro @guardZ_bool_true (And.intro @guardZ_bool_false (And.intro @guardZ_off (And.intro @slotZ_some (And.intro @Zo_some (And.intro @drawZ_some (And.intro @drawZ_none (And.intro @anyK_nil (And.intro @anyK_consF (And.intro @anyK_consR (And.intro @anyK_consA (And.intro @phK_nil (And.intro @phK_cons (And.intro @phK_guard (And.intro @phK_consT (And.intro @phK_guardT (And.intro @reK_nil (And.intro @reK_cons (And.intro @adopt_nil (And.intro @adopt_alloc (And.intro @endK_normal (And.intro @endK_ret (And.intro @r_move (And.intro @r_assign (And.intro @r_pick (And.intro @r_nilCheck (And.intro @r_binOp (And.intro @r_neg (And.intro @r_not (And.intro @r_convert (And.intro @r_makeMap (And.intro @r_mapUpdate (And.intro @r_insert (And.intro @r_lookup (And.intro @r_extract (And.intro @r_makeFunc (And.intro @r_iface (And.intro @r_fieldAddr (And.intro @r_field (And.intro @r_index (And.intro @r_indexAddr (And.intro @r_load (And.intro @r_slice (And.intro @r_build (And.intro @r_len (And.intro @r_max (And.intro @r_min (And.intro @r_append (And.intro @r_alloc (And.intro @r_float (And.intro @r_box (And.intro @r_store (And.intro @r_lit (And.intro @r_litD (And.intro @r_call (And.intro @r_callv (And.intro @calleeZ_fn (And.intro @callZ_none (And.intro @rev_off (And.intro @rev_fieldAddr (And.intro @rev_load (And.intro @rev_indexAddr (And.intro @rev_build (And.intro @rev_litD (And.intro @rev_slice (And.intro @rev_nilCheck (And.intro @rev_len (And.intro @rev_convert (And.intro @rev_lookup (And.intro @rev_max (And.intro @rev_min (@rev_call))))))))))))))))))))))))))))))))))))))))))))))))))))))))))))))))))))))))))))))))))))))))))))))))))))))
def RN := And.intro @sz_sl <| And.intro @sz_str <| And.intro @sz_ptr <| And.intro @sz_osl <| And.intro @fr_any <| And.intro @fr_int <| And.intro @fr_bool <| And.intro @fr_str <| And.intro @fr_nils <| And.intro @fr_sl <| And.intro @fr_ref <| And.intro @fr_nilp <| And.intro @fr_nilf <| And.intro @fr_nili <| And.intro @fr_nilm <| And.intro @fr_mpd <| And.intro @fr_refm <| And.intro @fr_ptr <| And.intro @fr_osl <| And.intro @fr_mp <| And.intro @nm_any <| And.intro @nm_int <| And.intro @nm_bool <| And.intro @nm_str <| And.intro @nm_nils <| And.intro @nm_sl <| And.intro @nm_ref <| And.intro @nm_nilp <| And.intro @nm_nilf <| And.intro @nm_nili <| And.intro @nm_nilm <| And.intro @nm_ptr <| And.intro @nm_osl <| And.intro @nm_mp <| And.intro @nm_mpd <| And.intro @nm_refm <| And.intro @fr_agg <| And.intro @fr_tup <| And.intro @fr_fn <| And.intro @fr_ifc <| And.intro @frL_nil <| And.intro @frL_cons <| And.intro @nm_agg <| And.intro @nm_tup <| And.intro @nm_fn <| And.intro @nm_ifc <| And.intro @nmL_nil <| And.intro @nmL_cons <| And.intro @flat_mpd <| And.intro @flat_refm <| And.intro @lt_mpd <| And.intro @lt_refm <| And.intro @view_mpd <| And.intro @view_refm <| And.intro @io_mpd <| And.intro @io_refm <| True.intro
def RU := And.intro RN <| And.intro @Z_eq (And.intro @Zo_ite (And.intro @annOf_cons (And.intro @annOf_nil (And.intro @callZ_some (And.intro @mkO_cons (And.intro @mkO_nil (And.intro @flat_int (And.intro @flat_bool (And.intro @flat_str (And.intro @flat_agg (And.intro @flat_tup (And.intro @flatL_nil (And.intro @flatL_cons (And.intro @oNone_eq (And.intro @litF_eq (And.intro @selF_true (And.intro @selF_false (And.intro @po_nil (And.intro @po_cons (And.intro @io_int (And.intro @io_bool (And.intro @io_str (And.intro @io_agg (And.intro @io_nils (And.intro @io_sl (And.intro @io_ref (And.intro @io_ptr (And.intro @io_fn (And.intro @io_nilp (And.intro @io_nilf (And.intro @io_nili (And.intro @io_ifc (And.intro @io_mp (And.intro @slotOf_zero (And.intro @slotOf_succ (And.intro @look_same (And.intro @look_ne (And.intro @put_some (And.intro @put_none (And.intro @evO_tmp (And.intro @evO_const (And.intro @evO_func (And.intro @vD_int (And.intro @vD_bool (And.intro @vD_string (And.intro @vD_nils (And.intro @vD_nilp (And.intro @hget_same (And.intro @hget_ne (And.intro @hset_same (And.intro @hset_ne (And.intro @bin_int (And.intro @bin_str (And.intro @a_add (And.intro @a_sub (And.intro @a_mul (And.intro @a_eql (And.intro @a_neq (And.intro @a_lss (And.intro @a_leq (And.intro @a_gtr (And.intro @a_geq (And.intro @pick_true (And.intro @pick_false (And.intro @not_bool (And.intro @neg_int (And.intro @at_ptr (And.intro @at_ref (And.intro @boxL_box (And.intro @load_ptr (And.intro @load_ref (And.intro @box_of (And.intro @boxB_some (And.intro @cells_agg (And.intro @cells_int (And.intro @cells_bool (And.intro @cells_str (And.intro @cells_sl (And.intro @cells_nils (And.intro @cells_nilp (And.intro @cells_nilf (And.intro @cells_nili (And.intro @cells_ptr (And.intro @cells_ref (And.intro @cells_fn (And.intro @cells_ifc (And.intro @stB_box (And.intro @stC_some (And.intro @cur_int (And.intro @cur_bool (And.intro @cur_str (And.intro @cur_sl (And.intro @cur_nils (And.intro @cur_nilp (And.intro @cur_nilf (And.intro @cur_nili (And.intro @cur_ptr (And.intro @cur_ref (And.intro @cur_fn (And.intro @cur_ifc (And.intro @fill_nil (And.intro @fill_cons (And.intro @fillB_some (And.intro @res_tmp (And.intro @res_nil (And.intro @res_cell (And.intro @resB_some (And.intro @tup_one (And.intro @tup_two (And.intro @view_int (And.intro @view_bool (And.intro @view_str (And.intro @view_sl (And.intro @view_nils (And.intro @view_ref (And.intro @view_ptr (And.intro @view_osl (And.intro @view_fn (And.intro @viewB_box (And.intro @viewA_arr (And.intro @ltL_nil (And.intro @ltL_cons (And.intro @lt_int (And.intro @lt_bool (And.intro @lt_str (And.intro @lt_sl (And.intro @lt_nils (And.intro @lt_agg (And.intro @lt_tup (And.intro @lt_ref (And.intro @view_agg (And.intro @view_tup (And.intro @viewL_nil (And.intro @viewL_cons (And.intro @max_int (And.intro @min_int (And.intro @putL_zero (And.intro @putL_nil (@putL_succ)))))))))))))))))))))))))))))))))))))))))))))))))))))))))))))))))))))))))))))))))))))))))))))))))))))))))))))))))))))))))))))))))))))))))))
def RZ := And.intro @fzP_some <| And.intro @fzP_mpd <| And.intro @fzP_none <| And.intro @fz_mp <| And.intro @fzM_some <| And.intro @fzM_map <| And.intro @fz_mpd <| And.intro @fz_refm <| And.intro @fz_fn <| And.intro @fz_str <| And.intro @fz_ifc <| And.intro @fz_tup <| And.intro @view_bsl (And.intro @lt_fn <| And.intro @hget_nil (And.intro @er_nil (And.intro @er_same (And.intro @er_ne (And.intro @fzH_nil (And.intro @fzH_osl (And.intro @fzH_int (And.intro @fzH_bool (And.intro @fzH_sl (And.intro @fzH_nils (And.intro @fzH_agg (And.intro @fz_osl (And.intro @fzC_some (And.intro @fzC_arr (And.intro @fz_int (And.intro @fz_bool (And.intro @fz_sl (And.intro @fz_nils (And.intro @fz_agg (And.intro @fz_ptr (@fz_ref)))))))))))))))))))))
def RA := And.intro @ad_fieldAddr (And.intro @ad_load (And.intro @ad_call (And.intro @ad_move (And.intro @ad_assign (And.intro @ad_field (And.intro @ad_binOp (And.intro @ad_extract (And.intro @ad_indexAddr (And.intro @ad_index (And.intro @ad_build (And.intro @ad_nilCheck (And.intro @ad_pick (And.intro @ad_unOp (And.intro @ad_convert (And.intro @ad_makeFunc (And.intro @ad_iface (@ad_lookup)))))))))))))))))
def RS := And.intro @Bool.true_or (And.intro @Bool.or_true (And.intro @List.length_cons.{0} (And.intro @List.length_nil.{0} (And.intro @List.map_cons.{0,0} (And.intro @List.map_nil.{0,0} (And.intro @List.getElem?_cons_zero.{0} (And.intro @List.getElem?_cons_succ.{0} (And.intro @List.drop_zero.{0} (And.intro @List.drop_succ_cons.{0} (And.intro @List.take_succ_cons.{0} (And.intro @List.take_zero.{0} (And.intro @List.all_cons.{0} (And.intro @List.all_nil.{0} (And.intro @Option.map_some.{0,0} (And.intro @Option.map_none.{0,0} (And.intro @Bool.and_self (And.intro @Bool.and_true (And.intro @true_and (And.intro @and_true (And.intro @and_self (And.intro @Nat.zero_add (And.intro @Nat.add_zero (And.intro @ne_eq.{1} (And.intro @not_false_eq_true (And.intro @Bool.not_true (And.intro @Bool.not_false (@Nat.le_refl)))))))))))))))))))))))))))
def RE := And.intro RD RA
def RV := And.intro RU (And.intro RZ RS)
end Go.Sx
