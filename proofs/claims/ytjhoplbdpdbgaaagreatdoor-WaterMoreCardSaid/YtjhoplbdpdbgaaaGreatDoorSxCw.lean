/- Own work: a calculus of contracts for the programs of this kit: parts SxC17z, SxZ8, SxC50z, SxZ9, SxC51z, SxC52z, SxC53z, SxC54z, SxC55z, SxC56z, SxC57z, SxC58z. -/
import Derived.Test.YtjhoplbdpdbgaaaGreatDoorSxC9z
import Derived.Test.YtjhoplbdpdbgaaaGreatDoorSxMf
import Derived.Test.YtjhoplbdpdbgaaaGreatDoorSxC49z
set_option linter.unusedVariables false
set_option linter.unusedSimpArgs false
namespace Go.Sx
open Go.Proofs
set_option maxRecDepth 10000
theorem neq_span (a b c d : Int) : binD Tryz.prog .neq 70 (.agg [.int .i64 a, .int .i64 b]) (.agg [.int .i64 c, .int .i64 d]) = some (.bool (!((a == c) && ((b == d) && true)))) := by kernel_rfl

theorem sameSpans_t (x y : D) (l m : List (Int × Int)) (hx : enS.sl x = some l) (hy : enS.sl y = some m) (hl : l.length ≤ 9223372036854775807) (hm : m.length ≤ 9223372036854775807) :
    Pure Tryz.prog 36 [x, y] (.bool (l == m)) := by
  have lx := fun hp => En.len (P := Tryz.prog) Fz.und_22 hx hp
  have ly := fun hp => En.len (P := Tryz.prog) Fz.und_22 hy hp
  have vx := En.lt hx
  have vy := En.lt hy
  refine pure_of_wc (rs := [.tmp 4]) (m := 26) [(6, [(9, false, false, [])])] o9_ok (by kernel_rfl) Tryz.func36 rfl (by kernel_rfl) rfl rfl (by kernel_rfl) ?_
  by_cases hlm : l.length = m.length
  rotate_left
  · have hb : ((l.length : Int) != (m.length : Int)) = true := by simp; omega
    simp only [FS, ↓RE, okR, argEnv, Nat.reduceAdd, Nat.reduceSub, Nat.reduceLT, Nat.reduceLeDiff, Nat.reduceEqDiff, reduceIte, lx, ly, hb]
    have : (l == m) = false := by
      rw [beq_eq_false_iff_ne]
      rintro rfl; exact hlm rfl
    rw [this]
  have hb : ((l.length : Int) != (m.length : Int)) = false := by simp; omega
  simp only [FS, ↓RE, okR, argEnv, Nat.reduceAdd, Nat.reduceSub, Nat.reduceLT, Nat.reduceLeDiff, Nat.reduceEqDiff, reduceIte, lx, ly, hb]
  refine loopV (ι := Nat) o9_ok [(6, [(9, false, false, [])])] (fun i => [(0, x), (1, y), (5, .int .i64 (i : Int))]) (fun i => []) 0
    (fun i => i ≤ l.length ∧ (l == m) = (l.drop i == m.drop i)) (fun i => l.length - i) 0 (by kernel_rfl) (by kernel_rfl) ⟨Nat.zero_le _, rfl⟩ ?_ ?_
  · simp [headW, heapW, envW, blkLt, D.ltL, D.lt, look, hget, vx, vy]
  rintro i ⟨hil, hi⟩
  rcases Nat.lt_or_ge i l.length with hlt | hge
  rotate_left
  · have hc : ((i : Int) < (l.length : Int)) = False := by simp; omega
    simp only [FS, ↓RE, okR, argEnv, Nat.reduceAdd, Nat.reduceSub, Nat.reduceLT, Nat.reduceLeDiff, Nat.reduceEqDiff, reduceIte, lx, hc, decide_false]
    rw [List.drop_of_length_le (by omega), List.drop_of_length_le (by omega)] at hi
    rw [hi]; rfl
  have hc : ((i : Int) < (l.length : Int)) = True := by simp [hlt]
  obtain ⟨a, ha⟩ : ∃ a, l[i]? = some a := ⟨l[i], by simp [hlt]⟩
  obtain ⟨b, hb⟩ : ∃ b, m[i]? = some b := ⟨m[i]'(by omega), by rw [List.getElem?_eq_getElem]⟩
  have hix := fun hp => En.ix (P := Tryz.prog) Fz.und_22 Fz.size_70 hx ha hp .i64
  have hiy := fun hp => En.ix (P := Tryz.prog) Fz.und_22 Fz.size_70 hy hb hp .i64
  have hw := wrap_i64 (z := (i : Int) + 1) (by omega) (by omega)
  rw [drop_at ha, drop_at hb, List.cons_beq_cons] at hi
  obtain ⟨a1, a2⟩ := a
  obtain ⟨b1, b2⟩ := b
  simp only [enS] at hix hiy
  by_cases hab : a1 = b1 ∧ a2 = b2
  · obtain ⟨rfl, rfl⟩ := hab
    have hn : (!((a1 == a1) && (a2 == a2))) = false := by simp
    simp only [FS, ↓RE, okR, argEnv, Nat.reduceAdd, Nat.reduceSub, Nat.reduceLT, Nat.reduceLeDiff, Nat.reduceEqDiff, reduceIte, lx, hc, decide_true, hix, hiy, neq_span, hn, hw]
    rw [beq_self_eq_true, Bool.true_and] at hi
    exact ⟨i + 1, ⟨by omega, hi⟩, by omega, by simp [headW, heapW, envW, blkLt, D.ltL, D.lt, look, hget, vx, vy]⟩
  · have hn : (!((a1 == b1) && (a2 == b2))) = true := by
      simp only [Bool.not_eq_true', Bool.and_eq_false_iff, beq_eq_false_iff_ne]
      by_cases h1 : a1 = b1
      · exact .inr fun h2 => hab ⟨h1, h2⟩
      · exact .inl h1
    simp only [FS, ↓RE, okR, argEnv, Nat.reduceAdd, Nat.reduceSub, Nat.reduceLT, Nat.reduceLeDiff, Nat.reduceEqDiff, reduceIte, lx, hc, decide_true, hix, hiy, neq_span, hn]
    have : ((a1, a2) == (b1, b2)) = false := by simpa using hab
    rw [this, Bool.false_and] at hi
    rw [hi]

def dec2S : List D → Option (List (Int × Int) × List (Int × Int))
  | [x, y] => match enS.sl x, enS.sl y with
    | some l, some m => some (l, m)
    | _, _ => none
  | _ => none
theorem dec2S_eq {x y : D} {l m : List (Int × Int)} (hx : enS.sl x = some l) (hy : enS.sl y = some m) : dec2S [x, y] = some (l, m) := by simp [dec2S, hx, hy]
def gSS : List D → Option D := orc dec2S (fun p => decide (p.1.length ≤ 9223372036854775807 ∧ p.2.length ≤ 9223372036854775807)) fun p => .bool (p.1 == p.2)
theorem gSS_ok : ∀ ds r, gSS ds = some r → Pure Tryz.prog 36 ds r := orc_ok fun ds p hd hk => by
  have hk := of_decide_eq_true hk
  unfold dec2S at hd
  split at hd
  · split at hd
    · cases hd; exact sameSpans_t _ _ _ _ ‹_› ‹_› hk.1 hk.2
    · cases hd
  · cases hd
theorem gSS_eq {x y : D} {l m : List (Int × Int)} (hx : enS.sl x = some l) (hy : enS.sl y = some m) (hl : l.length ≤ 9223372036854775807) (hm : m.length ≤ 9223372036854775807) : gSS [x, y] = some (.bool (l == m)) :=
  orc_eq (dec2S_eq hx hy) (by simp [hl, hm])

end Go.Sx

namespace Go.Sx


variable {P : Program}
/-! Own arrays of records: length, element, field, reading and writing. -/
theorem own_len {t e : TypeId} (hu : P.underlying t = some (.slice e)) {h : H} {b n : Nat} {ty : TypeId} {sz : Nat} {es : List (List D)} (hb : hget h b = some (.arr ty sz es)) (hn : es.length = n) : lenOpD P h t (.osl b n) = some (.int .i64 n) := by
  subst hn
  simp [lenOpD, hu, lenD, hb]
theorem own_ix {t e : TypeId} (hu : P.underlying t = some (.slice e)) {h : H} {b n : Nat} {ty : TypeId} {sz : Nat} (hs : sizeT P e = some sz) {es : List (List D)} (hb : hget h b = some (.arr ty sz es)) (hn : es.length = n) {i : Nat} (hi : i < n) (k : IntKind) :
    indexAddrD P h t (.osl b n) (.int k (i : Int)) = some (.eptr b n sz i 0) := by
  subst hn
  simp [indexAddrD, hu, hb, hs, hi]
theorem own_at {h : H} {b n : Nat} {ty : TypeId} {sz : Nat} {es : List (List D)} (hb : hget h b = some (.arr ty sz es)) (hn : es.length = n) {i : Nat} (hi : i < n) (o p : Nat) :
    atOff h o (.eptr b n sz i p) = some (.eptr b n sz i (p + o)) := by
  subst hn
  simp [atOff, hb, hi]
theorem own_load {t : TypeId} {h : H} {b n : Nat} {ty : TypeId} {sz : Nat} {es : List (List D)} (hb : hget h b = some (.arr ty sz es)) (hn : es.length = n) {i : Nat} {c : List D} (hc : es[i]? = some c) (o : Nat) :
    loadAtD P h t (.eptr b n sz i o) = loadD P t c o := by
  subst hn
  simp [loadAtD, hb, hc]
theorem own_store {t : TypeId} {h : H} {b n : Nat} {ty : TypeId} {sz : Nat} {es : List (List D)} (hb : hget h b = some (.arr ty sz es)) (hn : es.length = n) {i : Nat} {c : List D} (hc : es[i]? = some c) (o nid : Nat) {k : Nat} (hs : sizeT P t = some k) {x : D} {ds : List D}
    (hx : cellsE h x = some ds) (hl : ds.length = k) (hok : o + k ≤ sz) (hcur : ds.all (curD h) = true) (hlt : D.ltL 0 ds = true) :
    storeD P h nid t (.eptr b n sz i o) x = some (.any, hset h b (.arr ty sz (es.set i (putL c o ds))), nid) := by
  subst hn
  have hcur' : ∀ x ∈ ds, curD h x = true := List.all_eq_true.1 hcur
  simp [storeD, hx, hs, hb, hl, hok, hlt, hc]
  exact hcur'
end Go.Sx

namespace Go.Sx
open Go.Proofs
set_option maxRecDepth 10000

/-- One minute more, of the windows. -/
def stepW (p : Nat → Bool) (out : List (Int × Int)) (t : Nat) : List (Int × Int) :=
  if p t then (match out.getLast? with
    | some l => if l.2 = (t : Int) - 1 then out.set (out.length - 1) (l.1, (t : Int)) else out ++ [((t : Int), (t : Int))]
    | none => out ++ [((t : Int), (t : Int))]) else out
def foldW (p : Nat → Bool) (l : List Nat) : List (Int × Int) := l.foldl (stepW p) []
theorem foldW_snoc (p : Nat → Bool) (l : List Nat) (t : Nat) : foldW p (l ++ [t]) = stepW p (foldW p l) t := by simp [foldW]
theorem stepW_len (p : Nat → Bool) (out : List (Int × Int)) (t : Nat) : (stepW p out t).length ≤ out.length + 1 := by
  unfold stepW
  split
  · split
    · split <;> simp
    · simp
  · omega
theorem foldl_len (p : Nat → Bool) : ∀ (l : List Nat) (out : List (Int × Int)), (l.foldl (stepW p) out).length ≤ out.length + l.length
  | [], out => by simp
  | t :: l, out => by
    have h1 := stepW_len p out t
    have h2 := foldl_len p l (stepW p out t)
    simp only [List.foldl_cons, List.length_cons]
    omega
theorem foldW_len (p : Nat → Bool) (l : List Nat) : (foldW p l).length ≤ l.length := by
  have := foldl_len p l []
  simpa [foldW] using this
abbrev spL (l : List (Int × Int)) : List (List D) := l.map enS.d
theorem spL_len (l : List (Int × Int)) : (spL l).length = l.length := by simp [spL]
def valsF (xs : List (Fin 1441)) : List Nat := xs.map fun x => x.val
theorem valsF_snoc (xs : List (Fin 1441)) (x : Fin 1441) : valsF (xs ++ [x]) = valsF xs ++ [x.val] := by simp [valsF]
theorem valsF_len (xs : List (Fin 1441)) : (valsF xs).length = xs.length := by simp [valsF]
theorem valsF_all : valsF (List.finRange 1441) = List.range 1441 := by
  have : (List.range 1441) = (List.finRange 1441).map Fin.val := by
    apply List.ext_getElem
    · rw [List.length_range, List.length_map, List.length_finRange]
    · intro i h1 h2
      simp
  rw [this]
  rfl

theorem windows_t (f : FuncId) (fst caps : List D) (p : Nat → Bool) (hfl : ∀ m, D.ltL m fst = true) (hcl : ∀ m, D.ltL m caps = true)
    (hva : ∀ h i, viewL h (fst ++ [D.int .i64 i] ++ caps) = fst ++ [D.int .i64 i] ++ caps)
    (hq : ∀ t : Nat, t ≤ 1440 → Pure Tryz.prog f (fst ++ [.int .i64 (t : Int)] ++ caps) (.bool (p t))) :
    Pure Tryz.prog 90 [.fn (.func f) fst caps] (.sl (spL (foldW p (List.range 1441)))) := by
  refine pure_of_wc (rs := [.tmp 2]) (m := 39) [] oNone_ok (by kernel_rfl) Tryz.func90 rfl (by kernel_rfl) rfl rfl (by kernel_rfl) ?_
  simp only [FS, ↓RE, okR, argEnv, Nat.reduceAdd, Nat.reduceSub, Nat.reduceLT, Nat.reduceLeDiff, Nat.reduceEqDiff, reduceIte]
  refine loopNilB 1 0 [.nils] 70 2 rfl rfl ?_
  refine rangeV (α := Fin 1441) oNone_ok [] (by kernel_rfl) (by kernel_rfl) (fun w => minutes_seq w) (by kernel_rfl) (fun _ => rfl) (fun R n x => relL_int R n .i64 _) rfl
    [(1, .ptr 0 0), (3, .ptr 1 0)]
    (fun xs => [(2, .arr 70 2 (spL (foldW p (valsF xs)))), (1, .box [.osl 2 (foldW p (valsF xs)).length]), (0, .box [.fn (.func f) fst caps])]) 3 (fun _ => True) trivial rfl (fun _ => rfl) ?_ ?_ ?_
  · simp [headW, heapW, envW, blkLt, D.ltL, D.lt, look, hget, hset, hfl, hcl, foldW, valsF, spL]
  · intro l pre x _ hlen
    have hx := x.isLt
    have hq1 := hq x.val (by omega)
    have hsn : foldW p (valsF (pre ++ [x])) = stepW p (foldW p (valsF pre)) x.val := by rw [valsF_snoc, foldW_snoc]
    have hol : (foldW p (valsF pre)).length ≤ 1440 := by
      have := foldW_len p (valsF pre)
      rw [valsF_len] at this
      omega
    rw [hsn]
    generalize foldW p (valsF pre) = out at hol ⊢
    simp only [FS, ↓RE, okR, argEnv, Nat.reduceAdd, Nat.reduceSub, Nat.reduceLT, Nat.reduceLeDiff, Nat.reduceEqDiff, reduceIte, ms_nil, ms_assign, pe_cons, pe_nil, Array.toList, minD]
    refine call_of_pure (by rw [hva]; exact hq1) rfl ?_
    cases q : p x.val
    · simp only [FS, ↓RE, okR, argEnv, Nat.reduceAdd, Nat.reduceSub, Nat.reduceLT, Nat.reduceLeDiff, Nat.reduceEqDiff, reduceIte]
      simp [headW, heapW, envW, blkLt, D.ltL, D.lt, look, hget, hfl, hcl, stepW, q]
    have hd := fun h nid => lit_agg (P := Tryz.prog) Fz.und_22 Fz.size_70 Fz.zero_70 rfl (by omega) (by omega) h nid [.int .i64 (x.val : Int), .int .i64 (x.val : Int)] rfl rfl
    have ha := fun h (hb : hget h 2 = some (.arr 70 2 (spL out))) (hb2 : hget h 3 = some (.arr 70 2 [[.int .i64 (x.val : Int), .int .i64 (x.val : Int)]])) => app_osl (P := Tryz.prog) Fz.und_22 Fz.size_70 Fz.zero_70 rfl (by omega) Fz.bytes_70_22 h 4 2 out.length 3 1 (es := spL out) (xs := [[.int .i64 (x.val : Int), .int .i64 (x.val : Int)]]) (ty2 := 70) (sz2 := 2) hb (spL_len out).symm hb2 rfl rfl (by simp [spL_len]; omega) (by simp [spL_len]; omega)
    have hlo := fun h (hb : hget h 2 = some (.arr 70 2 (spL out))) => own_len (P := Tryz.prog) Fz.und_22 hb (spL_len out)
    rcases List.eq_nil_or_concat out with ho | ⟨i0, ⟨lo, hi⟩, ho⟩
    · have hl0 : out.length = 0 := by rw [ho]; rfl
      have hc0 : ((0 : Int) < (out.length : Int)) = False := by simp [hl0]
      have hst : stepW p out x.val = out ++ [((x.val : Int), (x.val : Int))] := by subst ho; simp [stepW, q]
      simp only [FS, ↓RE, okR, argEnv, Nat.reduceAdd, Nat.reduceSub, Nat.reduceLT, Nat.reduceLeDiff, Nat.reduceEqDiff, reduceIte, hlo, hc0, decide_false, hd, ha, cells_osl, cur_osl, curC_arr, spL_len, List.length_append, List.length_singleton, decide_true]
      simp [headW, heapW, envW, blkLt, D.ltL, D.lt, look, hget, hset, hfl, hcl, hst, spL, enS, hl0]
    · have hL : out.length = i0.length + 1 := by rw [ho]; simp
      have hc0 : ((0 : Int) < (out.length : Int)) = True := by simp; omega
      have hg : out.getLast? = some (lo, hi) := by rw [ho]; simp
      have he : (spL out)[i0.length]? = some [.int .i64 lo, .int .i64 hi] := by rw [ho]; simp [spL, enS]
      have w1 := wrap_i64 (z := (out.length : Int) - 1) (by omega) (by omega)
      have w2 := wrap_i64 (z := (x.val : Int) - 1) (by omega) (by omega)
      have hi1 : ((out.length : Int) - 1) = (i0.length : Int) := by omega
      have hix := fun h (hb : hget h 2 = some (.arr 70 2 (spL out))) => own_ix (P := Tryz.prog) Fz.und_22 Fz.size_70 hb (spL_len out) (i := i0.length) (by omega) .i64
      rw [← hi1] at hix
      have hat := fun h (hb : hget h 2 = some (.arr 70 2 (spL out))) => own_at hb (spL_len out) (i := i0.length) (by omega) 1 0
      have hld := fun h (hb : hget h 2 = some (.arr 70 2 (spL out))) => own_load (P := Tryz.prog) (t := 3) hb (spL_len out) he 1
      have hst := fun h (hb : hget h 2 = some (.arr 70 2 (spL out))) nid y => own_store (P := Tryz.prog) (t := 3) hb (spL_len out) he 1 nid Fz.size_3 (x := .int .i64 y) (ds := [.int .i64 y]) rfl rfl (by omega) rfl rfl
      by_cases q2 : hi = (x.val : Int) - 1
      · have hsw : stepW p out x.val = out.set (out.length - 1) (lo, (x.val : Int)) := by simp [stepW, q, hg, q2]
        have q3 : (hi == (x.val : Int) - 1) = true := by simp [q2]
        simp only [FS, ↓RE, okR, argEnv, Nat.reduceAdd, Nat.reduceSub, Nat.reduceLT, Nat.reduceLeDiff, Nat.reduceEqDiff, reduceIte, hlo, hc0, decide_true, w1, w2, hix, hat, hld, hst, q3]
        simp [headW, heapW, envW, blkLt, D.ltL, D.lt, look, hget, hset, hfl, hcl, hsw, spL, enS, hL, List.map_set]
      · have hsw : stepW p out x.val = out ++ [((x.val : Int), (x.val : Int))] := by simp [stepW, q, hg, q2]
        have q3 : (hi == (x.val : Int) - 1) = false := by simp [q2]
        simp only [FS, ↓RE, okR, argEnv, Nat.reduceAdd, Nat.reduceSub, Nat.reduceLT, Nat.reduceLeDiff, Nat.reduceEqDiff, reduceIte, hlo, hc0, decide_true, w1, w2, hix, hat, hld, hst, q3, hd, ha, cells_osl, cur_osl, curC_arr, spL_len, List.length_append, List.length_singleton]
        simp [headW, heapW, envW, blkLt, D.ltL, D.lt, look, hget, hset, hfl, hcl, hsw, spL, enS, hL]
  · intro xs hxs _
    subst hxs
    rw [valsF_all]
    simp only [FS, ↓RE, okR, argEnv, Nat.reduceAdd, Nat.reduceSub, Nat.reduceLT, Nat.reduceLeDiff, Nat.reduceEqDiff, reduceIte]
    simp [viewA, spL]
end Go.Sx

namespace Go.Sx
variable {P : Program} {O : Oracle} {n0 : Nat} {ro : Option Nat} {T : List (Nat × List Ann)}
/-! A body taken piece by piece, so that one may stop between two statements. -/
theorem pure_of_pieces {f : FuncId} {fn : Func} {c : Code} {ds : List D} {r : D} {rs : List ResultVar} {m : Nat} (T : List (Nat × List Ann)) (hO : OkO P O) (hm : P.follows .mixedOrders = true) (hf : P.funcs[f]? = some fn) (hb : fn.body = some c) (hcal : callable P f = true)
    (hrs : fn.results.toList = rs) (hn : ds.length + (fn.ntmps - ds.length) = m) (ht : tabOk T c = true) (h : AWp P 0 none c ⟨argEnv 0 ds, [], 0, m⟩ (endK P rs fun d h _ => view h d = r)) : Pure P f ds r :=
  pure_of_awp hf hb hcal (awp_mono (by rw [hn]; exact h) fun e s hq => endQ_of hrs hq)
theorem awp_peel (hO : OkO P O) (hm : P.follows .mixedOrders = true) {x y : Code} {s : St} {Q : Ex → St → Prop} (ht : tabOk T x = true) (h : wc P n0 ro T O x s (thenQ (fun s' => AWp P n0 ro y s' Q) Q)) : AWp P n0 ro (.seq x y) s Q :=
  awp_seq (wc_sound hO hm x s _ ht h)
theorem awp_rest (hO : OkO P O) (hm : P.follows .mixedOrders = true) {x : Code} {s : St} {Q : Ex → St → Prop} (ht : tabOk T x = true) (h : wc P n0 ro T O x s Q) : AWp P n0 ro x s Q :=
  wc_sound hO hm x s _ ht h
/-- All that is own becomes data. -/
theorem Imp.view {env : Env} {h : H} {nid n : Nat} : Imp n0 ⟨env, h, nid, n⟩ ⟨env.map fun p => (p.1, Sx.view h p.2), [], nid, n⟩ := fun X k0 k a hn hat => by
  have hh : k.h = h := hat.h
  have hnid : k.nid = nid := hat.nid
  subst hh; subst hnid
  have hsub : ∀ id blk, hget ([] : H) id = some blk → hget k.h id = some blk := fun id blk hb => by simp [hget] at hb
  refine ⟨{ k with h := [], nid := k.nid }, rfl, rfl, rfl, hat.good.drop hsub (fun id blk hb => hat.good.key id blk (hsub id blk hb)) (fun hlt => absurd hlt (Nat.lt_irrefl _)), Le.drop hat.le hat.le.nid hsub, hat.act.size, fun i => ?_, hat.act.marks⟩
  have hl : look (env.map fun p => (p.1, Sx.view k.h p.2)) i = Sx.view k.h (look env i) := by
    clear hat hsub
    induction env with
    | nil => simp [look, Sx.view]
    | cons p e ih =>
      obtain ⟨j, d⟩ := p
      simp only [List.map_cons, look]
      split
      · rfl
      · exact ih
  show Rel _ _ _ (look (env.map fun p => (p.1, Sx.view k.h p.2)) i)
  rw [hl]
  have := (hat.act.rel i).view hat.good
  exact this.weak (Nat.zero_le _)
theorem imp_view {env e : Env} {h h' : H} {nid nid' n n' : Nat} (hw : headW n0 ⟨env.map fun p => (p.1, Sx.view h p.2), [], nid, n⟩ e h' nid' n') : Imp n0 ⟨env, h, nid, n⟩ ⟨e, h', nid', n'⟩ :=
  Imp.view.trans (.weak (weak_of hw))
end Go.Sx

namespace Go.Sx
open Go.Proofs
set_option maxRecDepth 10000

theorem win1_t (l : Lk) (hg : enGl.sl l.gd = some l.s.glares) : Pure Tryz.prog 89 [.int .i64 l.t, .ref (l.s.c l.gd) 0, .ref l.p.c 0, .ref l.n.c 0] (.agg l.c) := by
  have vg := fun hp => En.view hg hp
  have lg := En.lt hg
  have cg := fun hp => En.cur hg hp
  refine pure_of_wc (rs := [.cell 5 118]) (m := 11) [] oNone_ok (by kernel_rfl) Tryz.func89 rfl (by kernel_rfl) rfl rfl (by kernel_rfl) ?_
  simp only [FS, ↓RE, okR, argEnv, Nat.reduceAdd, Nat.reduceSub, Nat.reduceLT, Nat.reduceLeDiff, Nat.reduceEqDiff, reduceIte, vg, lg]
  all_goals simp [lg, D.lt, cg]
theorem win2_t (l : Lk) (h : LkOk l) : Pure Tryz.prog 91 [.int .i64 l.t, .ref [.fn (.func 89) [] [.ref (l.s.c l.gd) 0, .ref l.p.c 0, .ref l.n.c 0]] 0] (.bool (surelyB l)) := by
  have vg := fun hp => En.view h.se.gd hp
  have lg := En.lt h.se.gd
  refine pure_of_wc (rs := [.tmp 3]) (m := 8) [] oNone_ok (by kernel_rfl) Tryz.func91 rfl (by kernel_rfl) rfl rfl (by kernel_rfl) ?_
  simp only [FS, ↓RE, okR, argEnv, Nat.reduceAdd, Nat.reduceSub, Nat.reduceLT, Nat.reduceLeDiff, Nat.reduceEqDiff, reduceIte, vg, lg]
  refine call_of_pure' (win1_t l h.se.gd) (by simp [D.ltL, D.lt, lg]) (by simp [D.ltL, D.lt, lg]) ?_
  simp only [FS, ↓RE, okR, argEnv, Nat.reduceAdd, Nat.reduceSub, Nat.reduceLT, Nat.reduceLeDiff, Nat.reduceEqDiff, reduceIte, vg, lg]
  refine call_of_pure (surely_t l h) rfl ?_
  simp only [FS, ↓RE, okR, argEnv, Nat.reduceAdd, Nat.reduceSub, Nat.reduceLT, Nat.reduceLeDiff, Nat.reduceEqDiff, reduceIte, vg, lg]
theorem win3_t (l : Lk) (h : LkOk l) (hso : soundW l.s.w = true) : Pure Tryz.prog 92 [.int .i64 l.t, .ref [.fn (.func 89) [] [.ref (l.s.c l.gd) 0, .ref l.p.c 0, .ref l.n.c 0]] 0] (.bool (possB l)) := by
  have vg := fun hp => En.view h.se.gd hp
  have lg := En.lt h.se.gd
  refine pure_of_wc (rs := [.tmp 3]) (m := 8) [] oNone_ok (by kernel_rfl) Tryz.func92 rfl (by kernel_rfl) rfl rfl (by kernel_rfl) ?_
  simp only [FS, ↓RE, okR, argEnv, Nat.reduceAdd, Nat.reduceSub, Nat.reduceLT, Nat.reduceLeDiff, Nat.reduceEqDiff, reduceIte, vg, lg]
  refine call_of_pure' (win1_t l h.se.gd) (by simp [D.ltL, D.lt, lg]) (by simp [D.ltL, D.lt, lg]) ?_
  simp only [FS, ↓RE, okR, argEnv, Nat.reduceAdd, Nat.reduceSub, Nat.reduceLT, Nat.reduceLeDiff, Nat.reduceEqDiff, reduceIte, vg, lg]
  refine call_of_pure (possibly_t l h hso) rfl ?_
  simp only [FS, ↓RE, okR, argEnv, Nat.reduceAdd, Nat.reduceSub, Nat.reduceLT, Nat.reduceLeDiff, Nat.reduceEqDiff, reduceIte, vg, lg]

def wsure (s : Se) (gd : D) (n : Nd) (p : Sp) : List (Int × Int) := foldW (fun t => surelyB (lkT s gd n p t)) (List.range 1441)
def wmay (s : Se) (gd : D) (n : Nd) (p : Sp) : List (Int × Int) := foldW (fun t => possB (lkT s gd n p t)) (List.range 1441)
def WinD (s : Se) (gd : D) (p : Sp) (n : Nd) : D := if askE ⟨s, gd, p, n, 0⟩ = 0 then .tup [.sl (spL (wsure s gd n p)), .sl (spL (wmay s gd n p)), .int .i64 0] else .tup [.nils, .nils, .int .i64 (askE ⟨s, gd, p, n, 0⟩)]
theorem Windows_t (s : Se) (gd : D) (h : SeL s gd) (p : Sp) (n : Nd) : Pure Tryz.prog 34 [.agg (s.c gd), .agg p.c, .agg n.c] (WinD s gd p n) := by
  have vg := fun hp => En.view h.gd hp
  have lg := En.lt h.gd
  have cg := fun hp => En.cur h.gd hp
  have hA := asked_t ⟨s, gd, p, n, 0⟩ h
  refine pure_of_pieces (rs := [.tmp 6, .tmp 7, .tmp 8]) (m := 26) [] oNone_ok (by kernel_rfl) Tryz.func34 rfl (by kernel_rfl) rfl rfl (by kernel_rfl) ?_
  refine awp_peel (T := []) oNone_ok (by kernel_rfl) (by kernel_rfl) ?_
  simp only [FS, ↓RE, okR, argEnv, Nat.reduceAdd, Nat.reduceSub, Nat.reduceLT, Nat.reduceLeDiff, Nat.reduceEqDiff, reduceIte, vg, lg, cg]
  refine awp_peel (T := []) oNone_ok (by kernel_rfl) (by kernel_rfl) ?_
  simp only [FS, ↓RE, okR, argEnv, Nat.reduceAdd, Nat.reduceSub, Nat.reduceLT, Nat.reduceLeDiff, Nat.reduceEqDiff, reduceIte, vg, lg, cg]
  refine awp_peel (T := []) oNone_ok (by kernel_rfl) (by kernel_rfl) ?_
  simp only [FS, ↓RE, okR, argEnv, Nat.reduceAdd, Nat.reduceSub, Nat.reduceLT, Nat.reduceLeDiff, Nat.reduceEqDiff, reduceIte, vg, lg, cg]
  refine call_of_pure hA rfl ?_
  by_cases h0 : askE ⟨s, gd, p, n, 0⟩ = 0
  rotate_left
  · have h1 : ((askE ⟨s, gd, p, n, 0⟩) != 0) = true := by simpa using h0
    simp only [FS, ↓RE, okR, argEnv, Nat.reduceAdd, Nat.reduceSub, Nat.reduceLT, Nat.reduceLeDiff, Nat.reduceEqDiff, reduceIte, vg, lg, cg, h1]
    simp [WinD, h0]
  have h1 : ((askE ⟨s, gd, p, n, 0⟩) != 0) = false := by simpa using h0
  obtain ⟨hok, hso⟩ := lk_ok h h0
  have hlk : ∀ t : Nat, t ≤ 1440 → LkOk (lkT s gd n p t) := fun t ht => ⟨hok.se, hok.s, hok.p, hok.n, by simp only; omega⟩
  simp only [FS, ↓RE, okR, argEnv, Nat.reduceAdd, Nat.reduceSub, Nat.reduceLT, Nat.reduceLeDiff, Nat.reduceEqDiff, reduceIte, vg, lg, cg, h1]
  refine awp_imp (imp_view (e := [(3, .ref (s.c gd) 0), (4, .ref p.c 0), (5, .ref n.c 0)]) (h' := []) (nid' := 0) (n' := 26) (by simp [headW, heapW, envW, blkLt, D.ltL, D.lt, look, hget, view, lg, vg])) ?_
  refine awp_peel (T := []) oNone_ok (by kernel_rfl) (by kernel_rfl) ?_
  simp only [FS, ↓RE, okR, argEnv, Nat.reduceAdd, Nat.reduceSub, Nat.reduceLT, Nat.reduceLeDiff, Nat.reduceEqDiff, reduceIte, vg, lg, cg]
  refine awp_imp (imp_view (e := [(11, .ref [.fn (.func 89) [] [.ref (s.c gd) 0, .ref p.c 0, .ref n.c 0]] 0)]) (h' := []) (nid' := 0) (n' := 26) (by simp [headW, heapW, envW, blkLt, D.ltL, D.lt, look, hget, view, viewL, lg, vg])) ?_
  refine awp_rest (T := []) oNone_ok (by kernel_rfl) (by kernel_rfl) ?_
  simp only [FS, ↓RE, okR, argEnv, Nat.reduceAdd, Nat.reduceSub, Nat.reduceLT, Nat.reduceLeDiff, Nat.reduceEqDiff, reduceIte, vg, lg, cg]
  refine call_of_pure' (windows_t 91 [] [.ref [.fn (.func 89) [] [.ref (s.c gd) 0, .ref p.c 0, .ref n.c 0]] 0] (fun t => surelyB (lkT s gd n p t)) (fun _ => rfl) (fun m => by simp [D.ltL, D.lt, lg]) (fun _ _ => rfl) fun t ht => win2_t (lkT s gd n p t) (hlk t ht)) (by simp [D.ltL, D.lt, lg]) (by simp [D.lt]) ?_
  simp only [FS, ↓RE, okR, argEnv, Nat.reduceAdd, Nat.reduceSub, Nat.reduceLT, Nat.reduceLeDiff, Nat.reduceEqDiff, reduceIte, vg, lg, cg]
  refine call_of_pure' (windows_t 92 [] [.ref [.fn (.func 89) [] [.ref (s.c gd) 0, .ref p.c 0, .ref n.c 0]] 0] (fun t => possB (lkT s gd n p t)) (fun _ => rfl) (fun m => by simp [D.ltL, D.lt, lg]) (fun _ _ => rfl) fun t ht => win3_t (lkT s gd n p t) (hlk t ht) hso) (by simp [D.ltL, D.lt, lg]) (by simp [D.lt]) ?_
  simp only [FS, ↓RE, okR, argEnv, Nat.reduceAdd, Nat.reduceSub, Nat.reduceLT, Nat.reduceLeDiff, Nat.reduceEqDiff, reduceIte, vg, lg, cg]
  simp [WinD, h0, wsure, wmay]
end Go.Sx

namespace Go.Sx
open Go.Proofs
set_option maxRecDepth 10000

def lastW (p : Nat → Bool) (t : Nat) : Option (Int × Int) → Prop
  | some l => l.2 < (t : Int) ∧ (l.2 = (t : Int) - 1 ↔ 0 < t ∧ p (t - 1) = true)
  | none => ¬(0 < t ∧ p (t - 1) = true)
theorem foldW_last (p : Nat → Bool) : ∀ t, lastW p t (foldW p (List.range t)).getLast?
  | 0 => by simp [foldW, lastW]
  | t + 1 => by
    have ih := foldW_last p t
    rw [List.range_succ, foldW_snoc]
    generalize foldW p (List.range t) = out at ih ⊢
    cases q : p t
    · have h1 : stepW p out t = out := by simp [stepW, q]
      rw [h1]
      cases hg : out.getLast? with
      | none => simp [lastW, q]
      | some l =>
        rw [hg] at ih
        simp only [lastW] at ih ⊢
        simp only [Nat.add_sub_cancel, q]
        exact ⟨by omega, ⟨fun h => by omega, fun h => by cases h.2⟩⟩
    · have h1 : ∃ lo, (stepW p out t).getLast? = some (lo, (t : Int)) := by
        cases hg : out.getLast? with
        | none => exact ⟨t, by simp [stepW, q, hg]⟩
        | some l =>
          by_cases hl : l.2 = (t : Int) - 1
          · refine ⟨l.1, ?_⟩
            have hne : out ≠ [] := fun h => by rw [h] at hg; cases hg
            have hpos : 0 < out.length := List.length_pos_iff.2 hne
            simp [stepW, q, hg, hl, List.getLast?_eq_getElem?]
            rw [List.getElem?_set_self (by omega)]
          · exact ⟨t, by simp [stepW, q, hg, hl]⟩
      obtain ⟨lo, h1⟩ := h1
      rw [h1]
      simp only [lastW, Nat.add_sub_cancel, q]
      exact ⟨by omega, ⟨fun _ => ⟨by omega, trivial⟩, fun _ => by omega⟩⟩

def atB (bl : List Bool) (t : Nat) : Bool := bl.getD t false
theorem spans_t (bl : List Bool) (hl : bl.length ≤ 10000) : Pure Tryz.prog 93 [.sl (bL bl)] (.sl (spL (foldW (atB bl) (List.range bl.length)))) := by
  have hbl := fun hp => En.len (P := Tryz.prog) Fz.und_63 (En.sl_map (E := enB) bl) hp
  have hbl : ∀ hp, lenOpD Tryz.prog hp 63 (.sl (bL bl)) = some (.int .i64 bl.length) := hbl
  refine pure_of_wc (rs := [.tmp 2]) (m := 39) [] oNone_ok (by kernel_rfl) Tryz.func93 rfl (by kernel_rfl) rfl rfl (by kernel_rfl) ?_
  simp only [FS, ↓RE, okR, argEnv, Nat.reduceAdd, Nat.reduceSub, Nat.reduceLT, Nat.reduceLeDiff, Nat.reduceEqDiff, reduceIte]
  refine loopNil 3 70 2 rfl ?_
  refine loopV (ι := Nat) oNone_ok [] (fun i => [(0, .sl (bL bl)), (3, .osl 0 (foldW (atB bl) (List.range i)).length), (4, .int .i64 (i : Int))])
    (fun i => [(0, .arr 70 2 (spL (foldW (atB bl) (List.range i))))]) 1 (fun i => i ≤ bl.length) (fun i => bl.length - i) 0 (by kernel_rfl) (by kernel_rfl) (Nat.zero_le _) ?_ ?_
  · simp [headW, heapW, envW, blkLt, D.ltL, D.lt, look, hget, eset_nil, eset_cons, foldW, spL]
  intro i hi
  rcases Nat.lt_or_ge i bl.length with hlt | hge
  rotate_left
  · have : i = bl.length := by omega
    subst this
    simp only [FS, ↓RE, okR, argEnv, Nat.reduceAdd, Nat.reduceSub, Nat.reduceLT, Nat.reduceLeDiff, Nat.reduceEqDiff, reduceIte, hbl, Int.lt_irrefl, decide_false]
    simp [viewA, spL]
  have hc : ((i : Int) < (bl.length : Int)) = True := by simp [hlt]
  have hw := wrap_i64 (z := (i : Int) + 1) (by omega) (by omega)
  have hsn : foldW (atB bl) (List.range (i + 1)) = stepW (atB bl) (foldW (atB bl) (List.range i)) i := by rw [List.range_succ, foldW_snoc]
  have hlast := foldW_last (atB bl) i
  have hol : (foldW (atB bl) (List.range i)).length ≤ 10000 := by
    have := foldW_len (atB bl) (List.range i)
    rw [List.length_range] at this
    omega
  generalize foldW (atB bl) (List.range i) = out at hol hlast hsn ⊢
  obtain ⟨b, hb⟩ : ∃ b, bl[i]? = some b := ⟨bl[i], by simp [hlt]⟩
  have hix : ∀ hp, indexAddrD Tryz.prog hp 63 (.sl (bL bl)) (.int .i64 (i : Int)) = some (.ref [.bool b] 0) := fun hp => En.ix (P := Tryz.prog) Fz.und_63 Fz.size_4 (En.sl_map (E := enB) bl) hb hp .i64
  have hpi : atB bl i = b := by simp [atB, hb]
  cases b
  · have hst : stepW (atB bl) out i = out := by simp [stepW, hpi]
    simp only [FS, ↓RE, okR, argEnv, Nat.reduceAdd, Nat.reduceSub, Nat.reduceLT, Nat.reduceLeDiff, Nat.reduceEqDiff, reduceIte, hbl, hc, decide_true, hix, hw]
    exact ⟨i + 1, by omega, by omega, by simp [headW, heapW, envW, blkLt, D.ltL, D.lt, look, hget, hsn, hst]⟩
  have hd := fun h nid => lit_agg (P := Tryz.prog) Fz.und_22 Fz.size_70 Fz.zero_70 rfl (by omega) (by omega) h nid [.int .i64 (i : Int), .int .i64 (i : Int)] rfl rfl
  have ha := fun h nid (hb : hget h 0 = some (.arr 70 2 (spL out))) (hb2 : hget h 1 = some (.arr 70 2 [[.int .i64 (i : Int), .int .i64 (i : Int)]])) => app_osl (P := Tryz.prog) Fz.und_22 Fz.size_70 Fz.zero_70 rfl (by omega) Fz.bytes_70_22 h nid 0 out.length 1 1 (es := spL out) (xs := [[.int .i64 (i : Int), .int .i64 (i : Int)]]) (ty2 := 70) (sz2 := 2) hb (spL_len out).symm hb2 rfl rfl (by simp [spL_len]; omega) (by simp [spL_len]; omega)
  have hlo := fun h (hb : hget h 0 = some (.arr 70 2 (spL out))) => own_len (P := Tryz.prog) Fz.und_22 hb (spL_len out)
  by_cases q : 0 < i ∧ atB bl (i - 1) = true
  · obtain ⟨q0, q1⟩ := q
    obtain ⟨lo, hg⟩ : ∃ lo, out.getLast? = some (lo, (i : Int) - 1) := by
      cases hg : out.getLast? with
      | none => rw [hg] at hlast; exact absurd ⟨q0, q1⟩ hlast
      | some l =>
        rw [hg] at hlast
        exact ⟨l.1, by rw [← hlast.2.2 ⟨q0, q1⟩]⟩
    have hne : out ≠ [] := fun h => by rw [h] at hg; cases hg
    have hpos : 0 < out.length := List.length_pos_iff.2 hne
    have he0 : out[out.length - 1]? = some (lo, (i : Int) - 1) := by rw [← List.getLast?_eq_getElem?]; exact hg
    have he : (spL out)[out.length - 1]? = some [.int .i64 lo, .int .i64 ((i : Int) - 1)] := by simp [spL, enS, he0]
    have w1 := wrap_i64 (z := (out.length : Int) - 1) (by omega) (by omega)
    have w2 := wrap_i64 (z := (i : Int) - 1) (by omega) (by omega)
    have hb1 : bl[i - 1]? = some true := by
      have : i - 1 < bl.length := by omega
      simp only [atB, List.getD, List.getElem?_eq_getElem this, Option.getD_some] at q1
      rw [List.getElem?_eq_getElem this, q1]
    have hix1 : ∀ hp, indexAddrD Tryz.prog hp 63 (.sl (bL bl)) (.int .i64 ((i : Int) - 1)) = some (.ref [.bool true] 0) := fun hp => by
      have := En.ix (P := Tryz.prog) Fz.und_63 Fz.size_4 (En.sl_map (E := enB) bl) hb1 hp .i64
      rw [show ((i - 1 : Nat) : Int) = (i : Int) - 1 by omega] at this
      exact this
    have hi1 : ((out.length : Int) - 1) = ((out.length - 1 : Nat) : Int) := by omega
    have hix2 := fun h (hb : hget h 0 = some (.arr 70 2 (spL out))) => own_ix (P := Tryz.prog) Fz.und_22 Fz.size_70 hb (spL_len out) (i := out.length - 1) (by omega) .i64
    rw [← hi1] at hix2
    have hat := fun h (hb : hget h 0 = some (.arr 70 2 (spL out))) => own_at hb (spL_len out) (i := out.length - 1) (by omega) 1 0
    have hst := fun h (hb : hget h 0 = some (.arr 70 2 (spL out))) nid y => own_store (P := Tryz.prog) (t := 3) hb (spL_len out) he 1 nid Fz.size_3 (x := .int .i64 y) (ds := [.int .i64 y]) rfl rfl (by omega) rfl rfl
    have hsw : stepW (atB bl) out i = out.set (out.length - 1) (lo, (i : Int)) := by simp [stepW, hpi, hg]
    have hc0 : ((0 : Int) < (i : Int)) = True := by simp; omega
    simp only [FS, ↓RE, okR, argEnv, Nat.reduceAdd, Nat.reduceSub, Nat.reduceLT, Nat.reduceLeDiff, Nat.reduceEqDiff, reduceIte, hbl, hc, decide_true, hix, hw, hc0, hix1, hlo, w1, w2, hix2, hat, hst]
    exact ⟨i + 1, by omega, by omega, by simp [headW, heapW, envW, blkLt, D.ltL, D.lt, look, hget, hset, hsn, hsw, spL, enS, List.map_set]⟩
  have hsw : stepW (atB bl) out i = out ++ [((i : Int), (i : Int))] := by
    cases hg : out.getLast? with
    | none => simp [stepW, hpi, hg]
    | some l =>
      rw [hg] at hlast
      have : ¬ l.2 = (i : Int) - 1 := fun h => q (hlast.2.1 h)
      simp [stepW, hpi, hg, this]
  rcases Nat.eq_zero_or_pos i with h0 | h0
  · have hc0 : ((0 : Int) < (i : Int)) = False := by simp; omega
    simp only [FS, ↓RE, okR, argEnv, Nat.reduceAdd, Nat.reduceSub, Nat.reduceLT, Nat.reduceLeDiff, Nat.reduceEqDiff, reduceIte, hbl, hc, decide_true, decide_false, hix, hw, hc0, hd, ha]
    exact ⟨i + 1, by omega, by omega, by simp [headW, heapW, envW, blkLt, D.ltL, D.lt, look, hget, hset, hsn, hsw, spL, enS]⟩
  · have hc0 : ((0 : Int) < (i : Int)) = True := by simp; omega
    have w2 := wrap_i64 (z := (i : Int) - 1) (by omega) (by omega)
    have hb1 : bl[i - 1]? = some false := by
      have h1 : i - 1 < bl.length := by omega
      rw [List.getElem?_eq_getElem h1]
      cases q2 : bl[i - 1]
      · rfl
      · exact absurd ⟨h0, by simp [atB, List.getD, List.getElem?_eq_getElem h1, q2]⟩ q
    have hix1 : ∀ hp, indexAddrD Tryz.prog hp 63 (.sl (bL bl)) (.int .i64 ((i : Int) - 1)) = some (.ref [.bool false] 0) := fun hp => by
      have := En.ix (P := Tryz.prog) Fz.und_63 Fz.size_4 (En.sl_map (E := enB) bl) hb1 hp .i64
      rw [show ((i - 1 : Nat) : Int) = (i : Int) - 1 by omega] at this
      exact this
    simp only [FS, ↓RE, okR, argEnv, Nat.reduceAdd, Nat.reduceSub, Nat.reduceLT, Nat.reduceLeDiff, Nat.reduceEqDiff, reduceIte, hbl, hc, decide_true, decide_false, hix, hw, hc0, w2, hix1, hd, ha]
    exact ⟨i + 1, by omega, by omega, by simp [headW, heapW, envW, blkLt, D.ltL, D.lt, look, hget, hset, hsn, hsw, spL, enS]⟩
end Go.Sx

namespace Go.Sx
open Go.Proofs
set_option maxRecDepth 10000

def bAll (p : Nat → Bool) (n : Nat) : List Bool := (List.range n).map p
theorem bAll_len (p : Nat → Bool) (n : Nat) : (bAll p n).length = n := by simp [bAll]
theorem bAll_succ (p : Nat → Bool) (n : Nat) : bAll p (n + 1) = bAll p n ++ [p n] := by simp [bAll, List.range_succ]
theorem bL_len (l : List Bool) : (bL l).length = l.length := by simp [bL]
theorem foldl_congr' (p q : Nat → Bool) : ∀ (l : List Nat) (out : List (Int × Int)), (∀ t ∈ l, p t = q t) → l.foldl (stepW p) out = l.foldl (stepW q) out
  | [], _, _ => rfl
  | t :: l, out, h => by
    have h1 : stepW p out t = stepW q out t := by simp [stepW, h t (by simp)]
    simp only [List.foldl_cons, h1]
    exact foldl_congr' p q l _ fun t ht => h t (by simp [ht])
theorem foldW_all (p : Nat → Bool) (n : Nat) : foldW (atB (bAll p n)) (List.range n) = foldW p (List.range n) := by
  refine foldl_congr' _ _ _ _ fun t ht => ?_
  have : t < n := by simpa using ht
  simp [atB, bAll, this]

theorem rWindows_t (s : Se) (gd : D) (h : SeL s gd) (hs : okSe s = true) (p : Sp) (hp : okSp s p = true) (n : Nd) (hn : okNd n = true) (hso : soundW s.w = true) :
    Pure Tryz.prog 35 [.agg (s.c gd), .agg p.c, .agg n.c] (.tup [.sl (spL (wsure s gd n p)), .sl (spL (wmay s gd n p))]) := by
  have vg := fun hp => En.view h.gd hp
  have lg := En.lt h.gd
  have cg := fun hp => En.cur h.gd hp
  refine pure_of_pieces (rs := [.tmp 6, .tmp 7]) (m := 36) [(5, [(16, false, true, [(5, 8), (4, 8), (3, 8)]), (3, false, false, [])])] o48_ok (by kernel_rfl) Tryz.func35 rfl (by kernel_rfl) rfl rfl (by kernel_rfl) ?_
  refine awp_peel (T := [(5, [(16, false, true, [(5, 8), (4, 8), (3, 8)]), (3, false, false, [])])]) o48_ok (by kernel_rfl) (by kernel_rfl) ?_
  simp only [FS, ↓RE, okR, argEnv, Nat.reduceAdd, Nat.reduceSub, Nat.reduceLT, Nat.reduceLeDiff, Nat.reduceEqDiff, reduceIte, vg, lg, cg]
  refine awp_peel (T := [(5, [(16, false, true, [(5, 8), (4, 8), (3, 8)]), (3, false, false, [])])]) o48_ok (by kernel_rfl) (by kernel_rfl) ?_
  simp only [FS, ↓RE, okR, argEnv, Nat.reduceAdd, Nat.reduceSub, Nat.reduceLT, Nat.reduceLeDiff, Nat.reduceEqDiff, reduceIte, vg, lg, cg]
  refine awp_peel (T := [(5, [(16, false, true, [(5, 8), (4, 8), (3, 8)]), (3, false, false, [])])]) o48_ok (by kernel_rfl) (by kernel_rfl) ?_
  simp only [FS, ↓RE, okR, argEnv, Nat.reduceAdd, Nat.reduceSub, Nat.reduceLT, Nat.reduceLeDiff, Nat.reduceEqDiff, reduceIte, vg, lg, cg]
  refine loopNil 8 4 1 rfl (loopNil 9 4 1 rfl ?_)
  refine loopV (ι := Nat) o48_ok [(5, [(16, false, true, [(5, 8), (4, 8), (3, 8)]), (3, false, false, [])])] (fun i => [(3, .ptr 0 0), (4, .ptr 1 0), (5, .ptr 2 0), (8, .osl 3 i), (9, .osl 4 i), (10, .int .i64 (i : Int))])
    (fun i => [(4, .arr 4 1 (bL (bAll (fun t => possB (lkT s gd n p t)) i))), (3, .arr 4 1 (bL (bAll (fun t => surelyB (lkT s gd n p t)) i))), (2, .box n.c), (1, .box p.c), (0, .box (s.c gd))]) 5 (fun i => i ≤ 1441) (fun i => 1441 - i) 0 (by kernel_rfl) (by kernel_rfl) (Nat.zero_le _) ?_ ?_
  · simp [headW, heapW, envW, blkLt, D.ltL, D.lt, look, hget, lg, eset_nil, eset_cons, bL, bAll]
  intro i hi
  have hl1 : ∀ q : Nat → Bool, (bL (bAll q i)).length = i := fun q => by rw [bL_len, bAll_len]
  rcases Nat.lt_or_ge i 1441 with hlt | hge
  rotate_left
  · have : i = 1441 := by omega
    subst this
    have hc : ((1441 : Int) ≤ 1440) = False := by simp
    simp only [FS, ↓RE, okR, argEnv, Nat.reduceAdd, Nat.reduceSub, Nat.reduceLT, Nat.reduceLeDiff, Nat.reduceEqDiff, reduceIte, Int.cast_ofNat_Int, hc, decide_false, hl1, vg, lg, cg]
    have hv := fun q => hl1 q
    refine awp_imp (imp_view (e := [(8, .sl (bL (bAll (fun t => surelyB (lkT s gd n p t)) 1441))), (9, .sl (bL (bAll (fun t => possB (lkT s gd n p t)) 1441)))]) (h' := []) (nid' := 0) (n' := 36) (by simp [headW, heapW, envW, blkLt, D.ltL, D.lt, look, hget, view, viewL, hl1])) ?_
    refine awp_rest (T := [(5, [(16, false, true, [(5, 8), (4, 8), (3, 8)]), (3, false, false, [])])]) o48_ok (by kernel_rfl) (by kernel_rfl) ?_
    have hsp := fun q : Nat → Bool => spans_t (bAll q 1441) (by rw [bAll_len]; omega)
    simp only [bAll_len, foldW_all] at hsp
    simp only [FS, ↓RE, okR, argEnv, Nat.reduceAdd, Nat.reduceSub, Nat.reduceLT, Nat.reduceLeDiff, Nat.reduceEqDiff, reduceIte]
    refine call_of_pure' (hsp _) (by simp [D.ltL, D.lt]) (by simp [D.lt]) ?_
    simp only [FS, ↓RE, okR, argEnv, Nat.reduceAdd, Nat.reduceSub, Nat.reduceLT, Nat.reduceLeDiff, Nat.reduceEqDiff, reduceIte]
    refine call_of_pure' (hsp _) (by simp [D.ltL, D.lt]) (by simp [D.lt]) ?_
    simp only [FS, ↓RE, okR, argEnv, Nat.reduceAdd, Nat.reduceSub, Nat.reduceLT, Nat.reduceLeDiff, Nat.reduceEqDiff, reduceIte]
    rfl
  have hc : ((i : Int) ≤ 1440) = True := by simp; omega
  have hwi := wrap_i64 (z := (i : Int) + 1) (by omega) (by omega)
  have hlk : LkOk (lkT s gd n p i) := ⟨h, hs, hp, hn, by simp only; omega⟩
  have g1 := gRs_eq hlk
  have g2 := gRp_eq hlk hso
  have hnn := neg_one_lt (s := surelyB (lkT s gd n p i)) (o := offL (lkT s gd n p i)) surely_off
  have ha1 := fun h nid x (hb : hget h 3 = some (.arr 4 1 (bL (bAll (fun t => surelyB (lkT s gd n p t)) i)))) => app_sl (P := Tryz.prog) (h := h) (nid := nid) Fz.und_63 Fz.size_4 Fz.zero_4 rfl (by omega) Fz.bytes_4_63 (b := 3) (n := i) (xs := [[.bool x]]) hb (hl1 _).symm rfl (by rw [hl1]; simp; omega) (by rw [hl1]; simp; omega)
  have ha2 := fun h nid x (hb : hget h 4 = some (.arr 4 1 (bL (bAll (fun t => possB (lkT s gd n p t)) i)))) => app_sl (P := Tryz.prog) (h := h) (nid := nid) Fz.und_63 Fz.size_4 Fz.zero_4 rfl (by omega) Fz.bytes_4_63 (b := 4) (n := i) (xs := [[.bool x]]) hb (hl1 _).symm rfl (by rw [hl1]; simp; omega) (by rw [hl1]; simp; omega)
  have hlt2 := fun h x => litD_bool Fz.und_63 Fz.size_4 Fz.zero_4 h x
  simp only [Se.c, Se.cr, Wx.c, gaC] at g1 g2
  simp only [FS, ↓RE, okR, argEnv, Nat.reduceAdd, Nat.reduceSub, Nat.reduceLT, Nat.reduceLeDiff, Nat.reduceEqDiff, reduceIte, hc, decide_true, hwi, vg, lg, cg, g1, g2, ha1, ha2, hlt2, hl1, cur_osl, curC_arr, hnn]
  exact ⟨i + 1, by omega, by omega, by simp [headW, heapW, envW, blkLt, D.ltL, D.lt, look, hget, hset, lg, bAll_succ, bL]⟩
end Go.Sx

namespace Go.Sx
open Go.Proofs
set_option maxRecDepth 10000

abbrev o54 : List (FuncId × (List D → Option D)) := (36, gSS) :: o48
theorem o54_ok : OkO Tryz.prog (mkO o54) :=
  mkO_ok (orc_ok fun ds q hd hk => by
    obtain ⟨x, y, rfl, hx, hy⟩ : ∃ x y, ds = [x, y] ∧ enS.sl x = some q.1 ∧ enS.sl y = some q.2 := by
      unfold dec2S at hd
      split at hd
      · split at hd
        · cases hd; exact ⟨_, _, rfl, ‹_›, ‹_›⟩
        · cases hd
      · cases hd
    simp only [decide_eq_true_eq] at hk
    exact sameSpans_t x y q.1 q.2 hx hy hk.1 hk.2) o48_ok
theorem gSS_self (l : List (Int × Int)) (h : l.length ≤ 10000) : gSS [.sl (spL l), .sl (spL l)] = some (.bool true) := by
  have := orc_eq (ok := fun p : List (Int × Int) × List (Int × Int) => decide (p.1.length ≤ 9223372036854775807 ∧ p.2.length ≤ 9223372036854775807)) (k := fun p => .bool (p.1 == p.2)) (dec2S_eq (En.sl_map (E := enS) l) (En.sl_map (E := enS) l)) (by simp only [decide_eq_true_eq]; omega)
  rw [beq_self_eq_true] at this
  exact this
theorem wsure_len (s : Se) (gd : D) (n : Nd) (p : Sp) : (wsure s gd n p).length ≤ 10000 := by
  have := foldW_len (fun t => surelyB (lkT s gd n p t)) (List.range 1441)
  rw [List.length_range] at this
  simp only [wsure]; omega
theorem wmay_len (s : Se) (gd : D) (n : Nd) (p : Sp) : (wmay s gd n p).length ≤ 10000 := by
  have := foldW_len (fun t => possB (lkT s gd n p t)) (List.range 1441)
  rw [List.length_range] at this
  simp only [wmay]; omega

theorem win_bad {s : Se} {gd : D} {p : Sp} {n : Nd} (h : okSe s = false ∨ okSp s p = false ∨ okNd n = false) : WinD s gd p n = .tup [.nils, .nils, .int .i64 2] := by
  have : askE ⟨s, gd, p, n, 0⟩ = 2 := by rcases h with h | h | h <;> simp [askE, h]
  simp [WinD, this]
theorem win_none {s : Se} {gd : D} {p : Sp} {n : Nd} (hs : okSe s = true) (hp : okSp s p = true) (hn : okNd n = true) (hso : soundW s.w = false) : WinD s gd p n = .tup [.nils, .nils, .int .i64 5] := by
  have : askE ⟨s, gd, p, n, 0⟩ = 5 := by simp [askE, hs, hp, hn, hso, bIn]
  simp [WinD, this]
theorem win_ok {s : Se} {gd : D} {p : Sp} {n : Nd} (hs : okSe s = true) (hp : okSp s p = true) (hn : okNd n = true) (hso : soundW s.w = true) : WinD s gd p n = .tup [.sl (spL (wsure s gd n p)), .sl (spL (wmay s gd n p)), .int .i64 0] := by
  have : askE ⟨s, gd, p, n, 0⟩ = 0 := by simp [askE, hs, hp, hn, hso, bIn]
  simp [WinD, this]

set_option maxHeartbeats 4000000 in
theorem waterWindows_at (s : Se) (gd : D) (h : SeL s gd) (p : Sp) (n : Nd) : Pure Tryz.prog 7 [.agg (s.c gd), .agg p.c, .agg n.c] (.bool true) := by
  have vg := fun hp => En.view h.gd hp
  have lg := En.lt h.gd
  have cg := fun hp => En.cur h.gd hp
  have hdl := fun hp => En.len (P := Tryz.prog) Fz.und_22 (En.sl_map (E := enS) s.depths) hp
  have h0 := gTn_eq h
  have h1 := gSe_eq h
  have h3 := gNd_eq n
  simp only [Se.c, Se.cr, Wx.c, gaC] at h0 h1
  have hW := Windows_t s gd h p n
  have hnl := fun hp : H => len_nils (P := Tryz.prog) Fz.und_22 hp
  have w0 : IntKind.i64.wrap (0 + 0) = 0 := wrap_i64 (by omega) (by omega)
  refine pure_of_wc (rs := [.tmp 6]) (m := 125) [] o54_ok (by kernel_rfl) Tryz.func7 rfl (by kernel_rfl) rfl rfl (by kernel_rfl) ?_
  cases t0 : tinyB s
  · simp only [FS, ↓RE, okR, argEnv, Nat.reduceAdd, Nat.reduceSub, Nat.reduceLT, Nat.reduceLeDiff, Nat.reduceEqDiff, reduceIte, vg, lg, cg, h0, t0, gTrue_eq]
  cases hs : okSe s
  · rw [win_bad (.inl hs)] at hW
    simp only [FS, ↓RE, okR, argEnv, Nat.reduceAdd, Nat.reduceSub, Nat.reduceLT, Nat.reduceLeDiff, Nat.reduceEqDiff, reduceIte, vg, lg, cg, h0, t0, gTrue_eq, h1, hs]
    refine call_of_pure' hW (by simp [D.ltL, D.lt, lg]) (by simp [D.ltL, D.lt]) ?_
    simp only [FS, ↓RE, okR, argEnv, Nat.reduceAdd, Nat.reduceSub, Nat.reduceLT, Nat.reduceLeDiff, Nat.reduceEqDiff, reduceIte, vg, lg, cg, gTrue_eq, h1, hs, ex_tup, hnl, w0, Int.reduceBEq, Int.reduceBNe, beq_self_eq_true, bne_self_eq_false]
  have hb := wx_b (okSe_wx hs)
  have w1 := wrap_i64 (z := s.w.east.most - s.w.east.least) (by omega) (by omega)
  have w2 := wrap_i64 (z := s.w.north.most - s.w.north.least) (by omega) (by omega)
  by_cases t1 : (30 : Int) < (s.depths.length : Int)
  · simp only [FS, ↓RE, okR, argEnv, Nat.reduceAdd, Nat.reduceSub, Nat.reduceLT, Nat.reduceLeDiff, Nat.reduceEqDiff, reduceIte, vg, lg, cg, h0, t0, gTrue_eq, h1, hs, hdl, t1, decide_true]
  by_cases t2 : 4 < s.w.east.most - s.w.east.least
  · simp only [FS, ↓RE, okR, argEnv, Nat.reduceAdd, Nat.reduceSub, Nat.reduceLT, Nat.reduceLeDiff, Nat.reduceEqDiff, reduceIte, vg, lg, cg, h0, t0, gTrue_eq, h1, hs, hdl, t1, w1, t2, decide_true, decide_false]
  by_cases t3 : 4 < s.w.north.most - s.w.north.least
  · simp only [FS, ↓RE, okR, argEnv, Nat.reduceAdd, Nat.reduceSub, Nat.reduceLT, Nat.reduceLeDiff, Nat.reduceEqDiff, reduceIte, vg, lg, cg, h0, t0, gTrue_eq, h1, hs, hdl, t1, w1, t2, w2, t3, decide_true, decide_false]
  have h2 := gSp_eq h hs p
  simp only [Se.c, Se.cr, Wx.c, gaC] at h2
  simp only [FS, ↓RE, okR, argEnv, Nat.reduceAdd, Nat.reduceSub, Nat.reduceLT, Nat.reduceLeDiff, Nat.reduceEqDiff, reduceIte, vg, lg, cg, h0, t0, gTrue_eq, h1, hs, hdl, t1, w1, t2, w2, t3, decide_true, decide_false]
  cases hp : okSp s p
  · rw [win_bad (.inr (.inl hp))] at hW
    refine call_of_pure' hW (by simp [D.ltL, D.lt, lg]) (by simp [D.ltL, D.lt]) ?_
    simp only [FS, ↓RE, okR, argEnv, Nat.reduceAdd, Nat.reduceSub, Nat.reduceLT, Nat.reduceLeDiff, Nat.reduceEqDiff, reduceIte, vg, lg, cg, gTrue_eq, h1, hs, h2, hp, ex_tup, hnl, w0, Int.reduceBEq, Int.reduceBNe, beq_self_eq_true, bne_self_eq_false]
  cases hn : okNd n
  · rw [win_bad (.inr (.inr hn))] at hW
    refine call_of_pure' hW (by simp [D.ltL, D.lt, lg]) (by simp [D.ltL, D.lt]) ?_
    simp only [FS, ↓RE, okR, argEnv, Nat.reduceAdd, Nat.reduceSub, Nat.reduceLT, Nat.reduceLeDiff, Nat.reduceEqDiff, reduceIte, vg, lg, cg, gTrue_eq, h1, hs, h2, hp, h3, hn, ex_tup, hnl, w0, Int.reduceBEq, Int.reduceBNe, beq_self_eq_true, bne_self_eq_false]
  have hsw : orc decWx okWx (fun w => .bool (soundW w)) [.agg (s.w.c [])] = some (.bool (soundW s.w)) := orc_eq (decWx_eq s.w) (okSe_wx hs)
  simp only [Wx.c, gaC] at hsw
  cases hso : soundW s.w
  · rw [win_none hs hp hn hso] at hW
    refine call_of_pure' hW (by simp [D.ltL, D.lt, lg]) (by simp [D.ltL, D.lt]) ?_
    simp only [FS, ↓RE, okR, argEnv, Nat.reduceAdd, Nat.reduceSub, Nat.reduceLT, Nat.reduceLeDiff, Nat.reduceEqDiff, reduceIte, vg, lg, cg, gTrue_eq, h1, hs, h2, hp, h3, hn, hsw, hso, ex_tup, hnl, w0, Int.reduceBEq, Int.reduceBNe, beq_self_eq_true, bne_self_eq_false]
  rw [win_ok hs hp hn hso] at hW
  refine call_of_pure' hW (by simp [D.ltL, D.lt, lg]) (by simp [D.ltL, D.lt]) ?_
  simp only [FS, ↓RE, okR, argEnv, Nat.reduceAdd, Nat.reduceSub, Nat.reduceLT, Nat.reduceLeDiff, Nat.reduceEqDiff, reduceIte, vg, lg, cg, gTrue_eq, h1, hs, h2, hp, h3, hn, hsw, hso, ex_tup]
  refine call_of_pure' (rWindows_t s gd h hs p hp n hn hso) (by simp [D.ltL, D.lt, lg]) (by simp [D.ltL, D.lt]) ?_
  simp only [FS, ↓RE, okR, argEnv, Nat.reduceAdd, Nat.reduceSub, Nat.reduceLT, Nat.reduceLeDiff, Nat.reduceEqDiff, reduceIte, vg, lg, cg, gTrue_eq, ex_tup, gSS_self _ (wsure_len s gd n p), gSS_self _ (wmay_len s gd n p), beq_self_eq_true]

theorem waterWindows_pure : ∀ Ds, TyL Tryz.prog Tryz.f7.params.toList Ds → Pure Tryz.prog 7 Ds (.bool true) := by
  intro Ds h
  rw [Tryz.params7] at h
  match Ds, h with
  | [_, _, _], ⟨⟨n, _, hg, he⟩, ⟨n2, _, hf, he2⟩, ⟨n3, _, hu, he3⟩, _⟩ =>
    rw [Tryz.underlying33] at he
    rw [Tryz.underlying46] at he2
    rw [Tryz.underlying36] at he3
    dsimp only at he he2 he3
    obtain ⟨s, rfl, hl⟩ := tySe hg
    obtain ⟨p, rfl⟩ := tySp hf
    obtain ⟨nd, rfl⟩ := tyNd hu
    subst he
    subst he2
    subst he3
    exact waterWindows_at s _ hl p nd
end Go.Sx

namespace Go.Sx
open Go.Proofs
set_option maxRecDepth 10000

def lenS (l : List (Int × Int)) : Int := (l.map fun a => a.2 - a.1 + 1).sum
theorem rlength_t (l : List (Int × Int)) (hl : l.length ≤ 1441) (hb : ∀ a ∈ l, 0 ≤ a.1 ∧ a.1 ≤ a.2 ∧ a.2 ≤ 1440) : Pure Tryz.prog 39 [.sl (spL l)] (.int .i64 (lenS l)) := by
  have hln := fun hp => En.len (P := Tryz.prog) Fz.und_22 (En.sl_map (E := enS) l) hp
  refine pure_of_wc (rs := [.tmp 2]) (m := 26) [(5, [(15, false, false, [])])] oNone_ok (by kernel_rfl) Tryz.func39 rfl (by kernel_rfl) rfl rfl (by kernel_rfl) ?_
  simp only [FS, ↓RE, okR, argEnv, Nat.reduceAdd, Nat.reduceSub, Nat.reduceLT, Nat.reduceLeDiff, Nat.reduceEqDiff, reduceIte]
  refine loopV (ι := Nat) oNone_ok [(5, [(15, false, false, [])])] (fun i => [(0, .sl (spL l)), (3, .int .i64 (lenS (l.take i))), (4, .int .i64 (i : Int))])
    (fun i => []) 0 (fun i => i ≤ l.length ∧ 0 ≤ lenS (l.take i) ∧ lenS (l.take i) ≤ 1441 * i) (fun i => l.length - i) 0 (by kernel_rfl) (by kernel_rfl) ⟨Nat.zero_le _, by simp [lenS], by simp [lenS]⟩ ?_ ?_
  · simp [headW, heapW, envW, blkLt, D.ltL, D.lt, look, hget, lenS]
  rintro i ⟨hi, h1, h2⟩
  rcases Nat.lt_or_ge i l.length with hlt | hge
  rotate_left
  · have hc : ((i : Int) < (l.length : Int)) = False := by simp; omega
    simp only [FS, ↓RE, okR, argEnv, Nat.reduceAdd, Nat.reduceSub, Nat.reduceLT, Nat.reduceLeDiff, Nat.reduceEqDiff, reduceIte, hln, hc, decide_false]
    rw [List.take_of_length_le hge]
  have hc : ((i : Int) < (l.length : Int)) = True := by simp [hlt]
  obtain ⟨⟨a, b⟩, ha⟩ : ∃ a, l[i]? = some a := ⟨l[i], by simp [hlt]⟩
  have hab := hb _ (List.mem_of_getElem? ha)
  dsimp only at hab
  have hix : ∀ hp, indexAddrD Tryz.prog hp 22 (.sl (spL l)) (.int .i64 (i : Int)) = some (.ref [.int .i64 a, .int .i64 b] 0) := fun hp => En.ix (P := Tryz.prog) Fz.und_22 Fz.size_70 (En.sl_map (E := enS) l) ha hp .i64
  have hw := wrap_i64 (z := (i : Int) + 1) (by omega) (by omega)
  have w1 := wrap_i64 (z := lenS (l.take i) + b) (by omega) (by omega)
  have w2 := wrap_i64 (z := lenS (l.take i) + b - a) (by omega) (by omega)
  have w3 := wrap_i64 (z := lenS (l.take i) + b - a + 1) (by omega) (by omega)
  have hts : lenS (l.take (i + 1)) = lenS (l.take i) + b - a + 1 := by
    rw [List.take_add_one, ha]
    simp [lenS]
    omega
  simp only [FS, ↓RE, okR, argEnv, Nat.reduceAdd, Nat.reduceSub, Nat.reduceLT, Nat.reduceLeDiff, Nat.reduceEqDiff, reduceIte, hln, hc, decide_true, hix, w1, w2, w3, hw]
  exact ⟨i + 1, ⟨by omega, by omega, by omega⟩, by omega, by simp [headW, heapW, envW, blkLt, D.ltL, D.lt, look, hget, hts]⟩

def apartP (l : List (Int × Int)) : Prop := ∀ (i : Nat) (a : Int × Int), l[i]? = some a → (0 ≤ a.1 ∧ a.1 ≤ a.2 ∧ a.2 ≤ 1440) ∧ ∀ b, 0 < i → l[i - 1]? = some b → b.2 + 1 < a.1
theorem apart_t (l : List (Int × Int)) (hl : l.length ≤ 10000) (hb : apartP l) : Pure Tryz.prog 37 [.sl (spL l)] (.bool true) := by
  have hln := fun hp => En.len (P := Tryz.prog) Fz.und_22 (En.sl_map (E := enS) l) hp
  refine pure_of_wc (rs := [.tmp 2]) (m := 35) [(4, [(25, false, false, [])])] o20_ok (by kernel_rfl) Tryz.func37 rfl (by kernel_rfl) rfl rfl (by kernel_rfl) ?_
  simp only [FS, ↓RE, okR, argEnv, Nat.reduceAdd, Nat.reduceSub, Nat.reduceLT, Nat.reduceLeDiff, Nat.reduceEqDiff, reduceIte]
  refine loopV (ι := Nat) o20_ok [(4, [(25, false, false, [])])] (fun i => [(0, .sl (spL l)), (3, .int .i64 (i : Int))])
    (fun i => []) 0 (fun i => i ≤ l.length) (fun i => l.length - i) 0 (by kernel_rfl) (by kernel_rfl) (Nat.zero_le _) ?_ ?_
  · simp [headW, heapW, envW, blkLt, D.ltL, D.lt, look, hget]
  intro i hi
  rcases Nat.lt_or_ge i l.length with hlt | hge
  rotate_left
  · have hc : ((i : Int) < (l.length : Int)) = False := by simp; omega
    simp only [FS, ↓RE, okR, argEnv, Nat.reduceAdd, Nat.reduceSub, Nat.reduceLT, Nat.reduceLeDiff, Nat.reduceEqDiff, reduceIte, hln, hc, decide_false]
  have hc : ((i : Int) < (l.length : Int)) = True := by simp [hlt]
  obtain ⟨⟨a, b⟩, ha⟩ : ∃ a, l[i]? = some a := ⟨l[i], by simp [hlt]⟩
  obtain ⟨hab, hpr⟩ := hb i _ ha
  dsimp only at hab hpr
  have hix : ∀ hp, indexAddrD Tryz.prog hp 22 (.sl (spL l)) (.int .i64 (i : Int)) = some (.ref [.int .i64 a, .int .i64 b] 0) := fun hp => En.ix (P := Tryz.prog) Fz.und_22 Fz.size_70 (En.sl_map (E := enS) l) ha hp .i64
  have hw := wrap_i64 (z := (i : Int) + 1) (by omega) (by omega)
  have hti : okTimes (a, b) = true := by simp only [okTimes, bSpan, Bool.and_eq_true, decide_eq_true_eq]; omega
  rcases Nat.eq_zero_or_pos i with h0 | h0
  · have hc0 : ((0 : Int) < (i : Int)) = False := by simp; omega
    simp only [FS, ↓RE, okR, argEnv, Nat.reduceAdd, Nat.reduceSub, Nat.reduceLT, Nat.reduceLeDiff, Nat.reduceEqDiff, reduceIte, hln, hc, decide_true, decide_false, hix, gTi_eq, hti, hc0, hw]
    exact ⟨i + 1, by omega, by omega, by simp [headW, heapW, envW, blkLt, D.ltL, D.lt, look, hget]⟩
  obtain ⟨⟨a1, b1⟩, ha1⟩ : ∃ a, l[i - 1]? = some a := ⟨l[i - 1]'(by omega), by rw [List.getElem?_eq_getElem]⟩
  have hab1 := (hb (i - 1) _ ha1).1
  dsimp only at hab1
  have hlt1 := hpr _ h0 ha1
  dsimp only at hlt1
  have hix1 : ∀ hp, indexAddrD Tryz.prog hp 22 (.sl (spL l)) (.int .i64 ((i : Int) - 1)) = some (.ref [.int .i64 a1, .int .i64 b1] 0) := fun hp => by
    have := En.ix (P := Tryz.prog) Fz.und_22 Fz.size_70 (En.sl_map (E := enS) l) ha1 hp .i64
    rw [show ((i - 1 : Nat) : Int) = (i : Int) - 1 by omega] at this
    exact this
  have hc0 : ((0 : Int) < (i : Int)) = True := by simp; omega
  have w1 := wrap_i64 (z := (i : Int) - 1) (by omega) (by omega)
  have w2 := wrap_i64 (z := b1 + 1) (by omega) (by omega)
  have hc1 : (a ≤ b1 + 1) = False := by simp; omega
  simp only [FS, ↓RE, okR, argEnv, Nat.reduceAdd, Nat.reduceSub, Nat.reduceLT, Nat.reduceLeDiff, Nat.reduceEqDiff, reduceIte, hln, hc, decide_true, decide_false, hix, gTi_eq, hti, hc0, hw, w1, hix1, w2, hc1]
  exact ⟨i + 1, by omega, by omega, by simp [headW, heapW, envW, blkLt, D.ltL, D.lt, look, hget]⟩
end Go.Sx

namespace Go.Sx
open Go.Proofs
set_option maxRecDepth 10000

theorem apart_nil : apartP [] := fun i a h => by simp at h
theorem apart_snoc {l : List (Int × Int)} {a : Int × Int} (h : apartP l) (ha : 0 ≤ a.1 ∧ a.1 ≤ a.2 ∧ a.2 ≤ 1440) (hl : ∀ b, l.getLast? = some b → b.2 + 1 < a.1) : apartP (l ++ [a]) := by
  intro i x hx
  rcases Nat.lt_or_ge i l.length with hi | hi
  · rw [List.getElem?_append_left hi] at hx
    obtain ⟨h1, h2⟩ := h i x hx
    refine ⟨h1, fun b h0 hb => ?_⟩
    rw [List.getElem?_append_left (by omega)] at hb
    exact h2 b h0 hb
  · rw [List.getElem?_append_right hi] at hx
    have hi2 : i = l.length := by
      cases hq : i - l.length with
      | zero => omega
      | succ m => rw [hq] at hx; simp at hx
    subst hi2
    simp only [Nat.sub_self, List.getElem?_cons_zero, Option.some.injEq] at hx
    subst hx
    refine ⟨ha, fun b h0 hb => hl b ?_⟩
    rw [List.getElem?_append_left (by omega)] at hb
    rw [List.getLast?_eq_getElem?]; exact hb
theorem apart_front {l : List (Int × Int)} {a : Int × Int} (h : apartP (l ++ [a])) : apartP l ∧ (0 ≤ a.1 ∧ a.1 ≤ a.2 ∧ a.2 ≤ 1440) ∧ ∀ b, l.getLast? = some b → b.2 + 1 < a.1 := by
  refine ⟨fun i x hx => ?_, ?_⟩
  · have hi : i < l.length := (List.getElem?_eq_some_iff.1 hx).1
    obtain ⟨h1, h2⟩ := h i x (by rw [List.getElem?_append_left hi]; exact hx)
    exact ⟨h1, fun b h0 hb => h2 b h0 (by rw [List.getElem?_append_left (by omega)]; exact hb)⟩
  · obtain ⟨h1, h2⟩ := h l.length a (by simp)
    refine ⟨h1, fun b hb => h2 b ?_ ?_⟩
    · cases l with
      | nil => simp at hb
      | cons => simp
    · rw [List.getLast?_eq_getElem?] at hb
      have : l.length - 1 < l.length := (List.getElem?_eq_some_iff.1 hb).1
      rw [List.getElem?_append_left this]; exact hb
theorem lenS_snoc (l : List (Int × Int)) (a : Int × Int) : lenS (l ++ [a]) = lenS l + (a.2 - a.1 + 1) := by simp [lenS]
def inS (l : List (Int × Int)) (t : Int) : Bool := l.any fun a => decide (a.1 ≤ t) && decide (t ≤ a.2)
theorem inS_snoc (l : List (Int × Int)) (a : Int × Int) (t : Int) : inS (l ++ [a]) t = (inS l t || (decide (a.1 ≤ t) && decide (t ≤ a.2))) := by simp [inS]

/-- What the windows are: apart, as long as there are minutes, and made of those minutes. -/
theorem foldW_inv (p : Nat → Bool) : ∀ n : Nat, n ≤ 1441 → apartP (foldW p (List.range n)) ∧ lenS (foldW p (List.range n)) = cntB p n ∧ (∀ t : Nat, inS (foldW p (List.range n)) (t : Int) = (decide (t < n) && p t))
  | 0, _ => ⟨apart_nil, rfl, fun t => by simp [foldW, inS]⟩
  | n + 1, hn => by
    obtain ⟨ih1, ih2, ih3⟩ := foldW_inv p n (by omega)
    have hlast := foldW_last p n
    rw [List.range_succ, foldW_snoc]
    generalize foldW p (List.range n) = out at ih1 ih2 ih3 hlast ⊢
    cases q : p n
    · have h1 : stepW p out n = out := by simp [stepW, q]
      rw [h1]
      refine ⟨ih1, by rw [ih2]; simp [cntB, q], fun t => ?_⟩
      rw [ih3]
      by_cases ht : t = n
      · subst ht; simp [q]
      · have : decide (t < n + 1) = decide (t < n) := by
          by_cases h : t < n
          · simp [h]; omega
          · simp [h]; omega
        rw [this]
    by_cases hx : ∃ lo, out.getLast? = some (lo, (n : Int) - 1)
    · obtain ⟨lo, hg⟩ := hx
      rcases List.eq_nil_or_concat out with ho | ⟨i0, ⟨a, b⟩, ho⟩
      · subst ho; simp at hg
      rw [List.concat_eq_append] at ho
      subst ho
      simp only [List.getLast?_append, List.getLast?_singleton, Option.some_or, Option.some.injEq, Prod.mk.injEq] at hg
      obtain ⟨rfl, rfl⟩ := hg
      have h1 : stepW p (i0 ++ [(a, (n : Int) - 1)]) n = i0 ++ [(a, (n : Int))] := by
        simp [stepW, q, List.set_append]
      rw [h1]
      obtain ⟨f1, f2, f3⟩ := apart_front ih1
      dsimp only at f2 f3
      refine ⟨apart_snoc f1 (by dsimp only; omega) f3, ?_, fun t => ?_⟩
      · rw [lenS_snoc] at ih2 ⊢
        simp only [cntB, q, if_true]
        dsimp only at ih2 ⊢
        omega
      · have := ih3 t
        rw [inS_snoc] at this ⊢
        dsimp only at this ⊢
        by_cases ht : t = n
        · subst ht
          have e1 : decide (a ≤ (t : Int)) = true := by simp only [decide_eq_true_eq]; omega
          simp [e1, q]
        · have e1 : decide ((t : Int) ≤ (n : Int)) = decide ((t : Int) ≤ (n : Int) - 1) := by rw [decide_eq_decide]; omega
          have e2 : decide (t < n + 1) = decide (t < n) := by rw [decide_eq_decide]; omega
          rw [e1, e2]
          exact this
    · have h1 : stepW p out n = out ++ [((n : Int), (n : Int))] := by
        cases hg : out.getLast? with
        | none => simp [stepW, q, hg]
        | some l =>
          have : ¬ l.2 = (n : Int) - 1 := fun h => hx ⟨l.1, by rw [hg, ← h]⟩
          simp [stepW, q, hg, this]
      rw [h1]
      refine ⟨apart_snoc ih1 (by dsimp only; omega) fun b hb => ?_, ?_, fun t => ?_⟩
      · rw [hb] at hlast
        have h2 := hlast.1
        have : ¬ b.2 = (n : Int) - 1 := fun h => hx ⟨b.1, by rw [hb, ← h]⟩
        dsimp only
        omega
      · rw [lenS_snoc, ih2]
        simp only [cntB, q, if_true]
        omega
      · rw [inS_snoc, ih3]
        dsimp only
        by_cases ht : t = n
        · subst ht
          simp [q]
        · have e1 : (decide ((n : Int) ≤ (t : Int)) && decide ((t : Int) ≤ (n : Int))) = false := by
            simp only [Bool.and_eq_false_iff, decide_eq_false_iff_not]; omega
          have e2 : decide (t < n + 1) = decide (t < n) := by rw [decide_eq_decide]; omega
          rw [e1, e2, Bool.or_false]
end Go.Sx

namespace Go.Sx
open Go.Proofs
set_option maxRecDepth 10000

theorem sum_len {l : List (Int × Int)} (h : ∀ a ∈ l, 0 ≤ a.1 ∧ a.1 ≤ a.2 ∧ a.2 ≤ 1440) : (l.length : Int) ≤ lenS l := by
  induction l with
  | nil => simp [lenS]
  | cons a l ih =>
    have h1 := ih fun x hx => h x (by simp [hx])
    have h2 := h a (by simp)
    simp only [lenS, List.map_cons, List.sum_cons, List.length_cons] at h1 ⊢
    omega
theorem apart_all {l : List (Int × Int)} (h : apartP l) : ∀ a ∈ l, 0 ≤ a.1 ∧ a.1 ≤ a.2 ∧ a.2 ≤ 1440 := fun a ha => by
  obtain ⟨i, hi⟩ := List.getElem?_of_mem ha
  exact (h i a hi).1
theorem wsure_inv (s : Se) (gd : D) (n : Nd) (p : Sp) : apartP (wsure s gd n p) ∧ lenS (wsure s gd n p) = cntS s gd n p ∧ (∀ t : Nat, inS (wsure s gd n p) (t : Int) = (decide (t < 1441) && surelyB (lkT s gd n p t))) :=
  foldW_inv (fun t => surelyB (lkT s gd n p t)) 1441 (by omega)
theorem wmay_inv (s : Se) (gd : D) (n : Nd) (p : Sp) : apartP (wmay s gd n p) ∧ (∀ t : Nat, inS (wmay s gd n p) (t : Int) = (decide (t < 1441) && possB (lkT s gd n p t))) :=
  have h := foldW_inv (fun t => possB (lkT s gd n p t)) 1441 (by omega)
  ⟨h.1, h.2.2⟩
theorem wsure_nil {s : Se} {gd : D} {n : Nd} {p : Sp} (h : cntS s gd n p = 0) : wsure s gd n p = [] := by
  have h1 := wsure_inv s gd n p
  have h2 := sum_len (apart_all h1.1)
  rw [h1.2.1, h] at h2
  exact List.eq_nil_of_length_eq_zero (by omega)
/-- The first greatest of some counts. -/
theorem bestG_spec (f : Sp → Int) : ∀ (ps : List Sp) (i : Nat) (b m : Int), let r := bestG f ps i (b, m)
    m ≤ r.2 ∧ (∀ (k : Nat) (p : Sp), ps[k]? = some p → f p ≤ r.2) ∧ ((r = (b, m) ∧ ∀ (k : Nat) (p : Sp), ps[k]? = some p → f p ≤ m) ∨ ∃ (k : Nat) (p : Sp), ps[k]? = some p ∧ r = (((i + k : Nat) : Int), f p) ∧ m < f p ∧ ∀ (j : Nat) (q : Sp), j < k → ps[j]? = some q → f q < f p)
  | [], i, b, m => by simp [bestG]
  | p :: ps, i, b, m => by
    intro r
    have hr : r = bestG f (p :: ps) i (b, m) := rfl
    simp only [bestG] at hr
    by_cases h : m < f p
    · rw [if_pos h] at hr
      obtain ⟨h1, h2, h3⟩ := bestG_spec f ps (i + 1) (i : Int) (f p)
      rw [← hr] at h1 h2 h3
      refine ⟨by omega, fun k q hk => ?_, .inr ?_⟩
      · cases k with
        | zero => simp at hk; subst hk; exact h1
        | succ k => exact h2 k q (by simpa using hk)
      · rcases h3 with ⟨h3, h4⟩ | ⟨k, q, hk, h3, h4, h5⟩
        · exact ⟨0, p, rfl, by rw [h3]; simp, h, fun j q hj => by omega⟩
        · refine ⟨k + 1, q, by simpa using hk, by rw [h3]; congr 1; omega, by omega, fun j x hj hx => ?_⟩
          cases j with
          | zero => simp at hx; subst hx; exact h4
          | succ j => exact h5 j x (by omega) (by simpa using hx)
    · rw [if_neg h] at hr
      obtain ⟨h1, h2, h3⟩ := bestG_spec f ps (i + 1) b m
      rw [← hr] at h1 h2 h3
      refine ⟨h1, fun k q hk => ?_, ?_⟩
      · cases k with
        | zero => simp at hk; subst hk; omega
        | succ k => exact h2 k q (by simpa using hk)
      · rcases h3 with ⟨h3, h4⟩ | ⟨k, q, hk, h3, h4, h5⟩
        · refine .inl ⟨h3, fun k q hk => ?_⟩
          cases k with
          | zero => simp at hk; subst hk; omega
          | succ k => exact h4 k q (by simpa using hk)
        · refine .inr ⟨k + 1, q, by simpa using hk, by rw [h3]; congr 1; omega, h4, fun j x hj hx => ?_⟩
          cases j with
          | zero => simp at hx; subst hx; omega
          | succ j => exact h5 j x (by omega) (by simpa using hx)
end Go.Sx

namespace Go.Sx
open Go.Proofs
set_option maxRecDepth 10000

set_option maxHeartbeats 4000000 in
theorem waterMost_at (s : Se) (gd : D) (h : SeL s gd) (ps : List Sp) (hl : ps.length ≤ 9223372036854775807) (n : Nd) (w : Int) : Pure Tryz.prog 9 [.agg (s.c gd), .sl (ps.map enSp.d), .agg n.c, .int .i64 w] (.bool true) := by
  have vg := fun hp => En.view h.gd hp
  have lg := En.lt h.gd
  have cg := fun hp => En.cur h.gd hp
  have hpl := fun hp => En.len (P := Tryz.prog) Fz.und_34 (En.sl_map (E := enSp) ps) hp
  have hdl := fun hp => En.len (P := Tryz.prog) Fz.und_22 (En.sl_map (E := enS) s.depths) hp
  have h0 := gTn_eq h
  have h1 := gSe_eq h
  have h3 := gNd_eq n
  simp only [Se.c, Se.cr, Wx.c, gaC] at h0 h1
  refine pure_of_wc (rs := [.tmp 8]) (m := 188) [(6, [(7, false, false, [])]), (9, [(14, false, false, [])]), (16, [(14, false, false, [])])] o54_ok (by kernel_rfl) Tryz.func9 rfl (by kernel_rfl) rfl rfl (by kernel_rfl) ?_
  simp only [List.append_eq, List.cons_append, List.nil_append]
  cases t0 : tinyB s
  · simp only [FS, ↓RE, okR, argEnv, Nat.reduceAdd, Nat.reduceSub, Nat.reduceLT, Nat.reduceLeDiff, Nat.reduceEqDiff, reduceIte, vg, lg, cg, h0, t0, gTrue_eq]
  cases hs : okSe s
  · simp only [FS, ↓RE, okR, argEnv, Nat.reduceAdd, Nat.reduceSub, Nat.reduceLT, Nat.reduceLeDiff, Nat.reduceEqDiff, reduceIte, vg, lg, cg, h0, t0, gTrue_eq, h1, hs]
  have hb := wx_b (okSe_wx hs)
  have w1 := wrap_i64 (z := s.w.east.most - s.w.east.least) (by omega) (by omega)
  have w2 := wrap_i64 (z := s.w.north.most - s.w.north.least) (by omega) (by omega)
  by_cases t1 : (60 : Int) < (s.depths.length : Int)
  · simp only [FS, ↓RE, okR, argEnv, Nat.reduceAdd, Nat.reduceSub, Nat.reduceLT, Nat.reduceLeDiff, Nat.reduceEqDiff, reduceIte, vg, lg, cg, h0, t0, gTrue_eq, h1, hs, hdl, t1, decide_true]
  by_cases t2 : 10 < s.w.east.most - s.w.east.least
  · simp only [FS, ↓RE, okR, argEnv, Nat.reduceAdd, Nat.reduceSub, Nat.reduceLT, Nat.reduceLeDiff, Nat.reduceEqDiff, reduceIte, vg, lg, cg, h0, t0, gTrue_eq, h1, hs, hdl, t1, w1, t2, decide_true, decide_false]
  by_cases t3 : 10 < s.w.north.most - s.w.north.least
  · simp only [FS, ↓RE, okR, argEnv, Nat.reduceAdd, Nat.reduceSub, Nat.reduceLT, Nat.reduceLeDiff, Nat.reduceEqDiff, reduceIte, vg, lg, cg, h0, t0, gTrue_eq, h1, hs, hdl, t1, w1, t2, w2, t3, decide_true, decide_false]
  have hsw : orc decWx okWx (fun w => .bool (soundW w)) [.agg (s.w.c [])] = some (.bool (soundW s.w)) := orc_eq (decWx_eq s.w) (okSe_wx hs)
  simp only [Wx.c, gaC] at hsw
  cases hso : soundW s.w
  · simp only [FS, ↓RE, okR, argEnv, Nat.reduceAdd, Nat.reduceSub, Nat.reduceLT, Nat.reduceLeDiff, Nat.reduceEqDiff, reduceIte, vg, lg, cg, h0, t0, gTrue_eq, h1, hs, hdl, t1, w1, t2, w2, t3, decide_true, decide_false, hsw, hso]
  by_cases t4 : (4 : Int) < (ps.length : Int)
  · simp only [FS, ↓RE, okR, argEnv, Nat.reduceAdd, Nat.reduceSub, Nat.reduceLT, Nat.reduceLeDiff, Nat.reduceEqDiff, reduceIte, vg, lg, cg, h0, t0, gTrue_eq, h1, hs, hdl, t1, w1, t2, w2, t3, decide_true, decide_false, hsw, hso, hpl, t4]
  cases hn : okNd n
  · simp only [FS, ↓RE, okR, argEnv, Nat.reduceAdd, Nat.reduceSub, Nat.reduceLT, Nat.reduceLeDiff, Nat.reduceEqDiff, reduceIte, vg, lg, cg, h0, t0, gTrue_eq, h1, hs, hdl, t1, w1, t2, w2, t3, decide_true, decide_false, hsw, hso, hpl, t4, h3, hn]
  by_cases t5 : w < 0
  · simp only [FS, ↓RE, okR, argEnv, Nat.reduceAdd, Nat.reduceSub, Nat.reduceLT, Nat.reduceLeDiff, Nat.reduceEqDiff, reduceIte, vg, lg, cg, h0, t0, gTrue_eq, h1, hs, hdl, t1, w1, t2, w2, t3, decide_true, decide_false, hsw, hso, hpl, t4, h3, hn, t5]
  by_cases t6 : (ps.length : Int) ≤ w
  · simp only [FS, ↓RE, okR, argEnv, Nat.reduceAdd, Nat.reduceSub, Nat.reduceLT, Nat.reduceLeDiff, Nat.reduceEqDiff, reduceIte, vg, lg, cg, h0, t0, gTrue_eq, h1, hs, hdl, t1, w1, t2, w2, t3, decide_true, decide_false, hsw, hso, hpl, t4, h3, hn, t5, t6]
  simp only [FS, ↓RE, okR, argEnv, Nat.reduceAdd, Nat.reduceSub, Nat.reduceLT, Nat.reduceLeDiff, Nat.reduceEqDiff, reduceIte, vg, lg, cg, h0, t0, gTrue_eq, h1, hs, hdl, t1, w1, t2, w2, t3, decide_true, decide_false, hsw, hso, hpl, t4, h3, hn, t5, t6]
  refine loopV (ι := Nat) o54_ok [(6, [(7, false, false, [])]), (9, [(14, false, false, [])]), (16, [(14, false, false, [])])] (fun k => [(1, .sl (ps.map enSp.d)), (3, .int .i64 w), (4, .ptr 0 0), (6, .ptr 1 0), (9, .int .i64 (k : Int))])
    (fun k => [(1, .box n.c), (0, .box (s.c gd))]) 2 (fun k => k ≤ ps.length ∧ (ps.take k).all (okSp s) = true) (fun k => ps.length - k) 0 (by kernel_rfl) (by kernel_rfl) ⟨Nat.zero_le _, rfl⟩ ?_ ?_
  · simp [headW, heapW, envW, blkLt, D.ltL, D.lt, look, hget, lg]
  rintro k ⟨hk, hok⟩
  rcases Nat.lt_or_ge k ps.length with hkl | hkg
  · have hc : ((k : Int) < (ps.length : Int)) = True := by simp [hkl]
    obtain ⟨p, hp⟩ : ∃ p, ps[k]? = some p := ⟨ps[k], by simp [hkl]⟩
    have hix : ∀ hh, indexAddrD Tryz.prog hh 34 (.sl (ps.map enSp.d)) (.int .i64 (k : Int)) = some (.ref [.int .i64 p.x, .int .i64 p.y, .int .i64 p.way, .int .i64 p.cells] 0) := fun hh => En.ix (P := Tryz.prog) Fz.und_34 Fz.size_46 (En.sl_map (E := enSp) ps) hp hh .i64
    have h2 := gSp_eq h hs p
    simp only [Se.c, Se.cr, Wx.c, gaC] at h2
    have hwk := wrap_i64 (z := (k : Int) + 1) (by omega) (by omega)
    cases q : okSp s p
    · simp only [FS, ↓RE, okR, argEnv, Nat.reduceAdd, Nat.reduceSub, Nat.reduceLT, Nat.reduceLeDiff, Nat.reduceEqDiff, reduceIte, hpl, hc, decide_true, hix, vg, lg, cg, h2, q, gTrue_eq]
    · simp only [FS, ↓RE, okR, argEnv, Nat.reduceAdd, Nat.reduceSub, Nat.reduceLT, Nat.reduceLeDiff, Nat.reduceEqDiff, reduceIte, hpl, hc, decide_true, hix, vg, lg, cg, h2, q, hwk]
      exact ⟨k + 1, ⟨by omega, all_take hp hok q⟩, by omega, by simp [headW, heapW, envW, blkLt, D.ltL, D.lt, look, hget, lg]⟩
  have : k = ps.length := by omega
  subst this
  rw [List.take_length] at hok
  have hps : ∀ p ∈ ps, okSp s p = true := List.all_eq_true.1 hok
  obtain ⟨wn, rfl⟩ : ∃ wn : Nat, w = (wn : Int) := ⟨w.toNat, by omega⟩
  obtain ⟨p, hp⟩ : ∃ p, ps[wn]? = some p := ⟨ps[wn]'(by omega), by rw [List.getElem?_eq_getElem]⟩
  have hpo := hps p (List.mem_of_getElem? hp)
  have hix : ∀ hh, indexAddrD Tryz.prog hh 34 (.sl (ps.map enSp.d)) (.int .i64 (wn : Int)) = some (.ref [.int .i64 p.x, .int .i64 p.y, .int .i64 p.way, .int .i64 p.cells] 0) := fun hh => En.ix (P := Tryz.prog) Fz.und_34 Fz.size_46 (En.sl_map (E := enSp) ps) hp hh .i64
  have hB := Best_t s gd h n ps hl
  have hBA : BestA s gd ps n = if (bestG (cntS s gd n) ps 0 (0, 0)).2 = 0 then (0, 0, 7) else ((bestG (cntS s gd n) ps 0 (0, 0)).1, (bestG (cntS s gd n) ps 0 (0, 0)).2, 0) := by
    have : ¬ (20 < (ps.length : Int)) := by omega
    simp [BestA, this, hs, hn, hok, hso]
  have hW := fun q hq => (by have := Windows_t s gd h q n; rw [win_ok hs hq hn hso] at this; exact this : Pure Tryz.prog 34 [.agg (s.c gd), .agg q.c, .agg n.c] (.tup [.sl (spL (wsure s gd n q)), .sl (spL (wmay s gd n q)), .int .i64 0]))
  have hAp := fun q => apart_t (wsure s gd n q) (wsure_len s gd n q) (wsure_inv s gd n q).1
  have hLn := fun q => rlength_t (wsure s gd n q) (by have := foldW_len (fun t => surelyB (lkT s gd n q t)) (List.range 1441); rw [List.length_range] at this; exact this) (apart_all (wsure_inv s gd n q).1)
  have hLe : ∀ q, lenS (wsure s gd n q) = cntS s gd n q := fun q => (wsure_inv s gd n q).2.1
  have hsl := fun (q : Sp) hp => En.len (P := Tryz.prog) Fz.und_22 (En.sl_map (E := enS) (wsure s gd n q)) hp
  obtain ⟨b1, b2, b3⟩ := bestG_spec (cntS s gd n) ps 0 0 0
  simp only [hLe] at hLn
  by_cases hz : (bestG (cntS s gd n) ps 0 (0, 0)).2 = 0
  · rw [if_pos hz] at hBA
    rw [hBA] at hB
    have hnil : wsure s gd n p = [] := wsure_nil (by have := b2 wn p hp; have := (cntS_b s gd n p).1; omega)
    simp only [FS, ↓RE, okR, argEnv, Nat.reduceAdd, Nat.reduceSub, Nat.reduceLT, Nat.reduceLeDiff, Nat.reduceEqDiff, reduceIte, hpl, Int.lt_irrefl, decide_false, vg, lg, cg]
    refine call_of_pure' hB (by simp [D.ltL, D.lt, lg]) (by simp [D.ltL, D.lt]) ?_
    simp only [FS, ↓RE, okR, argEnv, Nat.reduceAdd, Nat.reduceSub, Nat.reduceLT, Nat.reduceLeDiff, Nat.reduceEqDiff, reduceIte, ex_tup, hix, vg, lg, cg]
    refine call_of_pure' (hW p hpo) (by simp [D.ltL, D.lt, lg]) (by simp [D.ltL, D.lt]) ?_
    simp only [FS, ↓RE, okR, argEnv, Nat.reduceAdd, Nat.reduceSub, Nat.reduceLT, Nat.reduceLeDiff, Nat.reduceEqDiff, reduceIte, ex_tup, vg, lg, cg, bne_self_eq_false]
    refine call_of_pure' (hAp p) (by simp [D.ltL, D.lt, lg]) (by simp [D.ltL, D.lt]) ?_
    simp only [FS, ↓RE, okR, argEnv, Nat.reduceAdd, Nat.reduceSub, Nat.reduceLT, Nat.reduceLeDiff, Nat.reduceEqDiff, reduceIte, ex_tup, vg, lg, cg, bne_self_eq_false, hsl, hnil, List.length_nil, Int.cast_ofNat_Int, beq_self_eq_true, gTrue_eq, Int.reduceBEq, Int.reduceBNe]
  rw [if_neg hz] at hBA
  rw [hBA] at hB
  rcases b3 with ⟨b3, _⟩ | ⟨k, q, hk, b3, b4, b5⟩
  · rw [b3] at hz; exact absurd rfl hz
  have hkl : k < ps.length := (List.getElem?_eq_some_iff.1 hk).1
  have hqo := hps q (List.mem_of_getElem? hk)
  rw [b3] at hB
  simp only [Nat.zero_add] at hB
  have hixk : ∀ hh, indexAddrD Tryz.prog hh 34 (.sl (ps.map enSp.d)) (.int .i64 (k : Int)) = some (.ref [.int .i64 q.x, .int .i64 q.y, .int .i64 q.way, .int .i64 q.cells] 0) := fun hh => En.ix (P := Tryz.prog) Fz.und_34 Fz.size_46 (En.sl_map (E := enSp) ps) hk hh .i64
  have c1 : ((k : Int) < 0) = False := by simp
  have c2 : ((ps.length : Int) ≤ (k : Int)) = False := by simp; omega
  have c3 : (cntS s gd n p ≤ cntS s gd n q) = True := by
    have := b2 wn p hp
    rw [b3] at this
    simpa using this
  simp only [FS, ↓RE, okR, argEnv, Nat.reduceAdd, Nat.reduceSub, Nat.reduceLT, Nat.reduceLeDiff, Nat.reduceEqDiff, reduceIte, hpl, Int.lt_irrefl, decide_false, vg, lg, cg]
  refine call_of_pure' hB (by simp [D.ltL, D.lt, lg]) (by simp [D.ltL, D.lt]) ?_
  simp only [FS, ↓RE, okR, argEnv, Nat.reduceAdd, Nat.reduceSub, Nat.reduceLT, Nat.reduceLeDiff, Nat.reduceEqDiff, reduceIte, ex_tup, hix, vg, lg, cg]
  refine call_of_pure' (hW p hpo) (by simp [D.ltL, D.lt, lg]) (by simp [D.ltL, D.lt]) ?_
  simp only [FS, ↓RE, okR, argEnv, Nat.reduceAdd, Nat.reduceSub, Nat.reduceLT, Nat.reduceLeDiff, Nat.reduceEqDiff, reduceIte, ex_tup, vg, lg, cg, bne_self_eq_false]
  refine call_of_pure' (hAp p) (by simp [D.ltL, D.lt, lg]) (by simp [D.ltL, D.lt]) ?_
  simp only [FS, ↓RE, okR, argEnv, Nat.reduceAdd, Nat.reduceSub, Nat.reduceLT, Nat.reduceLeDiff, Nat.reduceEqDiff, reduceIte, ex_tup, vg, lg, cg, bne_self_eq_false, c1, c2, decide_false, hpl, hixk]
  refine call_of_pure' (hW q hqo) (by simp [D.ltL, D.lt, lg]) (by simp [D.ltL, D.lt]) ?_
  simp only [FS, ↓RE, okR, argEnv, Nat.reduceAdd, Nat.reduceSub, Nat.reduceLT, Nat.reduceLeDiff, Nat.reduceEqDiff, reduceIte, ex_tup, vg, lg, cg, beq_self_eq_true]
  refine call_of_pure' (hAp q) (by simp [D.ltL, D.lt, lg]) (by simp [D.ltL, D.lt]) ?_
  simp only [FS, ↓RE, okR, argEnv, Nat.reduceAdd, Nat.reduceSub, Nat.reduceLT, Nat.reduceLeDiff, Nat.reduceEqDiff, reduceIte, ex_tup, vg, lg, cg, beq_self_eq_true]
  refine call_of_pure' (hLn q) (by simp [D.ltL, D.lt, lg]) (by simp [D.ltL, D.lt]) ?_
  simp only [FS, ↓RE, okR, argEnv, Nat.reduceAdd, Nat.reduceSub, Nat.reduceLT, Nat.reduceLeDiff, Nat.reduceEqDiff, reduceIte, ex_tup, vg, lg, cg, beq_self_eq_true]
  refine call_of_pure' (hLn p) (by simp [D.ltL, D.lt, lg]) (by simp [D.ltL, D.lt]) ?_
  by_cases hwk : k ≤ wn
  · have c4 : ((k : Int) ≤ (wn : Int)) = True := by simp; omega
    simp only [FS, ↓RE, okR, argEnv, Nat.reduceAdd, Nat.reduceSub, Nat.reduceLT, Nat.reduceLeDiff, Nat.reduceEqDiff, reduceIte, vg, lg, cg, c3, c4, decide_true, gTrue_eq]
  · have c4 : ((k : Int) ≤ (wn : Int)) = False := by simp; omega
    have c5 : (cntS s gd n p < cntS s gd n q) = True := by
      have := b5 wn p (by omega) hp
      simpa using this
    simp only [FS, ↓RE, okR, argEnv, Nat.reduceAdd, Nat.reduceSub, Nat.reduceLT, Nat.reduceLeDiff, Nat.reduceEqDiff, reduceIte, vg, lg, cg, c3, c4, decide_true, decide_false]
    refine call_of_pure' (hLn p) (by simp [D.ltL, D.lt, lg]) (by simp [D.ltL, D.lt]) ?_
    simp only [FS, ↓RE, okR, argEnv, Nat.reduceAdd, Nat.reduceSub, Nat.reduceLT, Nat.reduceLeDiff, Nat.reduceEqDiff, reduceIte, vg, lg, cg, c5, decide_true, gTrue_eq]

theorem waterMost_pure : ∀ Ds, TyL Tryz.prog Tryz.f9.params.toList Ds → Pure Tryz.prog 9 Ds (.bool true) := by
  intro Ds h
  rw [Tryz.params9] at h
  match Ds, h with
  | [_, _, _, _], ⟨⟨n, _, hg, he⟩, ⟨n2, _, hf, he2⟩, ⟨n3, _, hu, he3⟩, ⟨n4, _, h4, he4⟩, _⟩ =>
    rw [Tryz.underlying33] at he
    rw [Fz.und_34] at he2
    rw [Tryz.underlying36] at he3
    rw [Fz.und_3] at he4
    dsimp only at he he2 he3 he4
    obtain ⟨s, rfl, hl⟩ := tySe hg
    obtain ⟨ps, rfl, hl2⟩ := tyEn (E := enSp) Fz.und_34 (by decide +kernel) (fun m c h => tySp h) hf
    obtain ⟨nd, rfl⟩ := tyNd hu
    obtain ⟨w, rfl, _⟩ := tyInt Fz.und_3 h4
    cases he2
    subst he
    subst he3
    cases he4
    exact waterMost_at s _ hl ps hl2 nd w
end Go.Sx
