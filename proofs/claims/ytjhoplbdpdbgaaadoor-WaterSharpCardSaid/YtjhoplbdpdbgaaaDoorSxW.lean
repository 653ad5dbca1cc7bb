/- Sx, part W: rules by which data are computed. Own work. -/
import Derived.Test.YtjhoplbdpdbgaaaDoorSxV
set_option linter.unusedVariables false
set_option linter.unusedSimpArgs false
namespace Go.Sx

section
variable {P : Program}

theorem wrap_i64 {z : Int} (h1 : -9223372036854775808 ≤ z) (h2 : z ≤ 9223372036854775807) : IntKind.i64.wrap z = z := by
  simp only [IntKind.wrap, IntKind.signed, IntKind.bits, Bool.true_and]
  split <;> rename_i h <;> simp at h <;> omega

theorem bin_int (op : BinOp) (t : TypeId) (k : IntKind) (x y : Int) : binD P op t (.int k x) (.int k y) = arith op k x y := by simp [binD]
theorem bin_str (op : BinOp) (t : TypeId) (x y : ByteArray) : binD P op t (.str x) (.str y) = strOp op x y := (rfl)
theorem a_add (k : IntKind) (x y : Int) : arith .add k x y = some (.int k (k.wrap (x + y))) := (rfl)
theorem a_sub (k : IntKind) (x y : Int) : arith .sub k x y = some (.int k (k.wrap (x - y))) := (rfl)
theorem a_mul (k : IntKind) (x y : Int) : arith .mul k x y = some (.int k (k.wrap (x * y))) := (rfl)
theorem a_quo (k : IntKind) (x y : Int) : arith .quo k x y = if y = 0 then none else some (.int k (k.wrap (x.tdiv y))) := (rfl)
theorem a_rem (k : IntKind) (x y : Int) : arith .rem k x y = if y = 0 then none else some (.int k (x.tmod y)) := (rfl)
theorem a_eql (k : IntKind) (x y : Int) : arith .eql k x y = some (.bool (x == y)) := (rfl)
theorem a_neq (k : IntKind) (x y : Int) : arith .neq k x y = some (.bool (x != y)) := (rfl)
theorem a_lss (k : IntKind) (x y : Int) : arith .lss k x y = some (.bool (decide (x < y))) := (rfl)
theorem a_leq (k : IntKind) (x y : Int) : arith .leq k x y = some (.bool (decide (x ≤ y))) := (rfl)
theorem a_gtr (k : IntKind) (x y : Int) : arith .gtr k x y = some (.bool (decide (y < x))) := (rfl)
theorem a_geq (k : IntKind) (x y : Int) : arith .geq k x y = some (.bool (decide (y ≤ x))) := (rfl)

theorem pick_true (a b : D) : pickD (.bool true) a b = some a := (rfl)
theorem pick_false (a b : D) : pickD (.bool false) a b = some b := (rfl)
theorem not_bool (b : Bool) : notD (.bool b) = some (.bool (!b)) := (rfl)
theorem neg_int (k : IntKind) (n : Int) : negD (.int k n) = some (.int k (k.wrap (0 - n))) := (rfl)

theorem fa_of {t : TypeId} {f o : Nat} (hf : fieldOff P t f = some o) (h : H) (x : D) : fieldAddrD P h t f x = atOff h o x := by simp [fieldAddrD, hf]
theorem at_ptr (h : H) (o b p : Nat) : atOff h o (.ptr b p) = some (.ptr b (p + o)) := (rfl)
theorem at_ref (h : H) (o p : Nat) (cs : List D) : atOff h o (.ref cs p) = some (.ref cs (p + o)) := (rfl)

def boxL (P : Program) (t : TypeId) (o : Nat) : Option Blk → Option D
  | some (.box cs) => loadD P t cs o
  | _ => none
theorem boxL_box (t : TypeId) (o : Nat) (cs : List D) : boxL P t o (some (.box cs)) = loadD P t cs o := (rfl)
theorem load_ptr (h : H) (t : TypeId) (b o : Nat) : loadAtD P h t (.ptr b o) = boxL P t o (hget h b) := by
  simp only [loadAtD, boxL]
  cases hget h b with
  | none => rfl
  | some x => cases x <;> rfl
theorem load_ref (h : H) (t : TypeId) (cs : List D) (o : Nat) : loadAtD P h t (.ref cs o) = loadD P t cs o := (rfl)
theorem loadD_one {t : TypeId} {n : Nat} (ha : isAggT P t = some false) (hs : sizeT P t = some n) (cs : List D) (o : Nat) : loadD P t cs o = cs[o]? := by simp [loadD, ha, hs]
theorem loadD_agg {t : TypeId} {n : Nat} (ha : isAggT P t = some true) (hs : sizeT P t = some n) (cs : List D) (o : Nat) : loadD P t cs o = if o + n ≤ cs.length then some (.agg ((cs.drop o).take n)) else none := by simp [loadD, ha, hs]
theorem partD_one {t : TypeId} {n : Nat} (ha : isAggT P t = some false) (hs : sizeT P t = some n) (cs : List D) (o : Nat) : partD P t cs o = cs[o]? := by simp [partD, ha, hs]
theorem partD_agg {t : TypeId} {n : Nat} (ha : isAggT P t = some true) (hs : sizeT P t = some n) (cs : List D) (o : Nat) : partD P t cs o = some (.agg ((cs.drop o).take n)) := by simp [partD, ha, hs]
theorem field_of {t : TypeId} {f : Nat} {ty : TypeId} {o : Nat} (hf : fieldTy P t f = some (ty, o)) (cs : List D) : fieldD P t f (.agg cs) = partD P ty cs o := by simp [fieldD, hf]

theorem alloc_of {t : TypeId} {zs : List D} (hz : zeroD P t = some zs) (h : H) (nid : Nat) : allocD P h nid t = some (.ptr nid 0, (nid, .box zs) :: h, nid + 1) := by simp [allocD, hz]
def boxB (nid : Nat) (h : H) (o : Option (List D)) : Option (D × H × Nat) :=
  match o with
  | some cs => some (.ptr nid 0, (nid, .box cs) :: h, nid + 1)
  | none => none
theorem boxB_some (nid : Nat) (h : H) (cs : List D) : boxB nid h (some cs) = some (.ptr nid 0, (nid, .box cs) :: h, nid + 1) := (rfl)
theorem box_of (h : H) (nid : Nat) (x : D) : boxD h nid x = boxB nid h (cellsE h x) := by
  simp only [boxD, boxB]; cases cellsE h x <;> rfl
theorem cells_agg (h : H) (cs : List D) : cellsE h (.agg cs) = some cs := (rfl)
theorem cells_int (h : H) (k : IntKind) (n : Int) : cellsE h (.int k n) = some [.int k n] := (rfl)
theorem cells_bool (h : H) (b : Bool) : cellsE h (.bool b) = some [.bool b] := (rfl)
theorem cells_str (h : H) (b : ByteArray) : cellsE h (.str b) = some [.str b] := (rfl)
theorem cells_sl (h : H) (es : List (List D)) : cellsE h (.sl es) = some [.sl es] := (rfl)
theorem cells_nils (h : H) : cellsE h .nils = some [.nils] := (rfl)
theorem cells_nilp (h : H) : cellsE h .nilp = some [.nilp] := (rfl)
theorem cells_nilf (h : H) : cellsE h .nilf = some [.nilf] := (rfl)
theorem cells_nili (h : H) : cellsE h .nili = some [.nili] := (rfl)
theorem cells_ptr (h : H) (b o : Nat) : cellsE h (.ptr b o) = some [.ptr b o] := (rfl)
theorem cells_ref (h : H) (cs : List D) (o : Nat) : cellsE h (.ref cs o) = some [.ref cs o] := (rfl)
theorem cells_fn (h : H) (f : Fn) (a c : List D) : cellsE h (.fn f a c) = some [.fn f a c] := (rfl)
theorem cells_ifc (h : H) (t : TypeId) (d : D) : cellsE h (.ifc t d) = some [.ifc t d] := (rfl)
theorem cells_osl (h : H) (b n : Nat) : cellsE h (.osl b n) = if curD h (.osl b n) then some [.osl b n] else none := (rfl)

def stB (h : H) (nid b o n : Nat) (ds : List D) : Option Blk → Option (D × H × Nat)
  | some (.box cs) => if ds.length = n ∧ o + n ≤ cs.length ∧ ds.all (curD h) then some (.any, hset h b (.box (putL cs o ds)), nid) else none
  | _ => none
theorem stB_box (h : H) (nid b o n : Nat) (ds cs : List D) : stB h nid b o n ds (some (.box cs)) = if ds.length = n ∧ o + n ≤ cs.length ∧ ds.all (curD h) then some (.any, hset h b (.box (putL cs o ds)), nid) else none := (rfl)
def stC (P : Program) (h : H) (nid b o n : Nat) : Option (List D) → Option (D × H × Nat)
  | some ds => stB h nid b o n ds (hget h b)
  | none => none
theorem stC_some (h : H) (nid b o n : Nat) (ds : List D) : stC P h nid b o n (some ds) = stB h nid b o n ds (hget h b) := (rfl)
theorem store_ptr {t : TypeId} {n : Nat} (hs : sizeT P t = some n) (h : H) (nid b o : Nat) (x : D) : storeD P h nid t (.ptr b o) x = stC P h nid b o n (cellsE h x) := by
  simp only [storeD, hs]
  cases cellsE h x with
  | none => rfl
  | some ds =>
    simp only [stC, stB]
    cases hget h b with
    | none => rfl
    | some q => cases q <;> rfl
theorem cur_int (h : H) (k : IntKind) (n : Int) : curD h (.int k n) = true := (rfl)
theorem cur_bool (h : H) (b : Bool) : curD h (.bool b) = true := (rfl)
theorem cur_str (h : H) (b : ByteArray) : curD h (.str b) = true := (rfl)
theorem cur_sl (h : H) (es : List (List D)) : curD h (.sl es) = true := (rfl)
theorem cur_nils (h : H) : curD h .nils = true := (rfl)
theorem cur_nilp (h : H) : curD h .nilp = true := (rfl)
theorem cur_nilf (h : H) : curD h .nilf = true := (rfl)
theorem cur_nili (h : H) : curD h .nili = true := (rfl)
theorem cur_ptr (h : H) (b o : Nat) : curD h (.ptr b o) = true := (rfl)
theorem cur_ref (h : H) (cs : List D) (o : Nat) : curD h (.ref cs o) = true := (rfl)
theorem cur_fn (h : H) (f : Fn) (a c : List D) : curD h (.fn f a c) = true := (rfl)
theorem cur_ifc (h : H) (t : TypeId) (d : D) : curD h (.ifc t d) = true := (rfl)

theorem len_sl {t e : TypeId} (hu : P.underlying t = some (.slice e)) (h : H) (es : List (List D)) : lenOpD P h t (.sl es) = some (.int .i64 es.length) := by simp [lenOpD, hu, lenD]
theorem len_nils {t e : TypeId} (hu : P.underlying t = some (.slice e)) (h : H) : lenOpD P h t .nils = some (.int .i64 0) := by simp [lenOpD, hu, lenD]
theorem len_osl {t e : TypeId} (hu : P.underlying t = some (.slice e)) (h : H) (b n : Nat) : lenOpD P h t (.osl b n) = lenD h (.osl b n) := by simp [lenOpD, hu]

/-- An element of a slice of data. -/
theorem ix_sl {t e : TypeId} {n : Nat} (hu : P.underlying t = some (.slice e)) (hs : sizeT P e = some n) {es : List (List D)} {i : Nat} {c : List D} (hc : es[i]? = some c) (hl : c.length = n) (h : H) (k : IntKind) :
    indexAddrD P h t (.sl es) (.int k (i : Int)) = some (.ref c 0) := by
  simp [indexAddrD, hu, hs, hc, hl]

theorem cv_int {s d : TypeId} {ks kd : IntKind} (hs : P.underlying s = some (.int ks)) (hd : P.underlying d = some (.int kd)) (h : H) (k : IntKind) (n : Int) : cvD P h s d (.int k n) = some (.int kd (kd.wrap n)) := by
  simp [cvD, cutD, convD, strD, hs, hd]

def fillB (pl : Option (Nat × Nat)) (K : List (Nat × D)) (place : Nat → Option (Nat × Nat)) (h : H) (cells : List D) : Option (List D) → Option (List D)
  | some ds => match pl with
    | some (off, size) => if ds.length = size ∧ off + ds.length ≤ cells.length then fillD place h (putL cells off ds) K else none
    | none => none
  | none => none
theorem build_of {t : TypeId} {zs : List D} {pl : List (Nat × Nat)} (hz : zeroD P t = some zs) (hp : placesT P t = some pl) (h : H) (parts : List (Nat × D)) :
    buildD P h t parts = (fillD (fun i => pl[i]?) h zs parts).map .agg := by simp [buildD, hz, hp]
theorem fill_nil (place : Nat → Option (Nat × Nat)) (h : H) (cs : List D) : fillD place h cs [] = some cs := (rfl)
theorem fill_cons (place : Nat → Option (Nat × Nat)) (h : H) (cs : List D) (i : Nat) (d : D) (r : List (Nat × D)) : fillD place h cs ((i, d) :: r) = fillB (place i) r place h cs (cellsE h d) := by
  simp only [fillD, fillB]
  cases cellsE h d with
  | none => cases place i <;> rfl
  | some ds => cases place i <;> rfl
theorem fillB_some (off size : Nat) (K : List (Nat × D)) (place : Nat → Option (Nat × Nat)) (h : H) (cs ds : List D) :
    fillB (some (off, size)) K place h cs (some ds) = if ds.length = size ∧ off + ds.length ≤ cs.length then fillD place h (putL cs off ds) K else none := (rfl)

theorem res_tmp (s : St) (t : Tmp) (r : List ResultVar) : resD P s (.tmp t :: r) = (resD P s r).map (look s.env t :: ·) := by
  simp only [resD]; cases resD P s r <;> rfl
theorem res_nil (s : St) : resD P s [] = some [] := (rfl)
def resB (o : Option D) (r : Option (List D)) : Option (List D) :=
  match o, r with
  | some d, some ds => some (d :: ds)
  | _, _ => none
theorem res_cell (env : Env) (h : H) (nid n : Nat) (a t : Nat) (r : List ResultVar) : resD P ⟨env, h, nid, n⟩ (.cell a t :: r) = resB (loadAtD P h t (look env a)) (resD P ⟨env, h, nid, n⟩ r) := by
  simp only [resD, resB]
  cases loadAtD P h t (look env a) <;> cases resD P ⟨env, h, nid, n⟩ r <;> rfl
theorem resB_some (d : D) (ds : List D) : resB (some d) (some ds) = some (d :: ds) := (rfl)
theorem tup_one (d : D) : tupD [d] = d := (rfl)
theorem tup_two (d e : D) (r : List D) : tupD (d :: e :: r) = .tup (d :: e :: r) := (rfl)
theorem view_int (h : H) (k : IntKind) (n : Int) : view h (.int k n) = .int k n := (rfl)
theorem view_bool (h : H) (b : Bool) : view h (.bool b) = .bool b := (rfl)
theorem view_str (h : H) (b : ByteArray) : view h (.str b) = .str b := (rfl)
theorem view_sl (h : H) (es : List (List D)) : view h (.sl es) = .sl es := (rfl)
theorem view_nils (h : H) : view h .nils = .nils := (rfl)
theorem view_ref (h : H) (cs : List D) (o : Nat) : view h (.ref cs o) = .ref cs o := (rfl)
theorem view_agg (h : H) (cs : List D) : view h (.agg cs) = .agg (viewL h cs) := (rfl)
theorem view_tup (h : H) (cs : List D) : view h (.tup cs) = .tup (viewL h cs) := (rfl)
theorem viewL_nil (h : H) : viewL h [] = [] := (rfl)
theorem viewL_cons (h : H) (d : D) (ds : List D) : viewL h (d :: ds) = view h d :: viewL h ds := (rfl)
theorem max_int (k : IntKind) (a b : Int) : maxOpD [.int k a, .int k b] = some (.int k (max a b)) := by
  simp only [maxOpD, maxL]
  congr 2
  rw [Int.max_def]
  split <;> split <;> omega
theorem min_int (k : IntKind) (a b : Int) : minOpD [.int k a, .int k b] = some (.int k (min a b)) := by
  simp only [minOpD, minL]
  congr 2
  rw [Int.min_def]
  split <;> split <;> omega
theorem putL_zero (d : D) (r : List D) (e : D) (es : List D) : putL (d :: r) 0 (e :: es) = e :: putL r 0 es := by simp [putL]
theorem putL_nil (r : List D) (o : Nat) : putL r o [] = r := by simp [putL]
theorem putL_succ (d : D) (r : List D) (o : Nat) (es : List D) : putL (d :: r) (o + 1) es = d :: putL r o es := by simp [putL, Nat.add_right_comm]


/-! What is seen to again -/
variable {fl : Bool} (d : Option Tmp) (ty : TypeId) (pos : String) (after : Array Edge) (g : Option (Nat × Bool)) (env : Env) (h h' : H) (v : D)
theorem rev_off (o : Oper) : ReV P fl ⟨o, env, h, false, v⟩ h' = True := by simp [ReV]
theorem rev_quiet (op : Op) (hk : dkind fl op = .quiet) : ReV P fl ⟨⟨d, op, ty, pos, after, g⟩, env, h, true, v⟩ h' = (quietD P op (evO env) h' = some v) := by
  simp only [ReV, ReOk, hk, true_implies]
theorem rev_fieldAddr (t : TypeId) (x : Operand) (f : Nat) : ReV P fl ⟨⟨d, .fieldAddr t x f, ty, pos, after, g⟩, env, h, true, v⟩ h' = (fieldAddrD P h' t f (evO env x) = some v) := rev_quiet _ _ _ _ _ _ _ _ _ _ rfl
theorem rev_load (t : TypeId) (x : Operand) : ReV P fl ⟨⟨d, .load t x, ty, pos, after, g⟩, env, h, true, v⟩ h' = (loadAtD P h' t (evO env x) = some v) := rev_quiet _ _ _ _ _ _ _ _ _ _ rfl
theorem rev_indexAddr (t : TypeId) (x i : Operand) : ReV P fl ⟨⟨d, .indexAddr t x i, ty, pos, after, g⟩, env, h, true, v⟩ h' = (indexAddrD P h' t (evO env x) (evO env i) = some v) := rev_quiet _ _ _ _ _ _ _ _ _ _ rfl
theorem rev_convert (t u : TypeId) (x : Operand) : ReV P fl ⟨⟨d, .convert t u x, ty, pos, after, g⟩, env, h, true, v⟩ h' = (cvD P h' t u (evO env x) = some v) := rev_quiet _ _ _ _ _ _ _ _ _ _ rfl
theorem rev_lookup (t : TypeId) (x y : Operand) (ok : Bool) : ReV P fl ⟨⟨d, .lookup t x y ok, ty, pos, after, g⟩, env, h, true, v⟩ h' = (lookupD P h' t (evO env x) (evO env y) ok = some v) := rev_quiet _ _ _ _ _ _ _ _ _ _ rfl
theorem rev_build (t : TypeId) (p : List (Nat × Operand)) : ReV P fl ⟨⟨d, .build t p.toArray, ty, pos, after, g⟩, env, h, true, v⟩ h' = (buildD P h' t (p.map fun q => (q.1, evO env q.2)) = some v) := rev_quiet _ _ _ _ _ _ _ _ _ _ rfl
theorem rev_litD (t : TypeId) (m : Nat) (p : List (Nat × Operand)) : ReV P fl ⟨⟨d, .buildSlice t m p.toArray, ty, pos, after, g⟩, env, h, true, v⟩ h' = (litD P h' t m (p.map fun q => (q.1, evO env q.2)) = some v) := rev_quiet _ _ _ _ _ _ _ _ _ _ rfl
theorem rev_slice (t : TypeId) (x : Operand) (lo hi : Option Operand) : ReV P fl ⟨⟨d, .slice t x lo hi none, ty, pos, after, g⟩, env, h, true, v⟩ h' = (sliceD P t (evO env x) (lo.map (evO env)) (hi.map (evO env)) = some v) := rev_quiet _ _ _ _ _ _ _ _ _ _ rfl
theorem rev_nilCheck (x : Operand) : ReV P fl ⟨⟨d, .nilCheck x, ty, pos, after, g⟩, env, h, true, v⟩ h' = (nilCheckD (evO env x) = some v) := rev_quiet _ _ _ _ _ _ _ _ _ _ rfl
theorem rev_len (x : Operand) (t : TypeId) : ReV P fl ⟨⟨d, .call ⟨.builtin .len, #[x], #[t]⟩, ty, pos, after, g⟩, env, h, true, v⟩ h' = (lenOpD P h' t (evO env x) = some v) := rev_quiet _ _ _ _ _ _ _ _ _ _ rfl
theorem rev_max (x : List Operand) (t : Array TypeId) : ReV P fl ⟨⟨d, .call ⟨.builtin .max, x.toArray, t⟩, ty, pos, after, g⟩, env, h, true, v⟩ h' = (maxOpD (x.map (evO env)) = some v) := by
  rw [rev_quiet _ _ _ _ _ _ _ _ _ _ rfl]
  congr 1
  cases x <;> simp only [quietD, opR, opQ, callQ, maxOpD, List.map_nil, List.map_cons]
  split <;> simp_all
theorem rev_min (x : List Operand) (t : Array TypeId) : ReV P fl ⟨⟨d, .call ⟨.builtin .min, x.toArray, t⟩, ty, pos, after, g⟩, env, h, true, v⟩ h' = (minOpD (x.map (evO env)) = some v) := by
  rw [rev_quiet _ _ _ _ _ _ _ _ _ _ rfl]
  congr 1
  cases x <;> simp only [quietD, opR, opQ, callQ, minOpD, List.map_nil, List.map_cons]
  split <;> simp_all
theorem rev_call (f : FuncId) (x : List Operand) (t : Array TypeId) : ReV P fl ⟨⟨d, .call ⟨.value (.func f), x.toArray, t⟩, ty, pos, after, g⟩, env, h, true, v⟩ h' = (viewL h' (x.map (evO env)) = viewL h (x.map (evO env))) := by
  simp [ReV, ReOk, dkind, calleeD, evO]

end
end Go.Sx
