/- Own work: contracts of functions, used in the proof of a law. -/
import Derived.Test.YtljkgnicmlhipaaSxW57w
set_option linter.unusedVariables false
set_option linter.unusedSimpArgs false
namespace Go.Sx
open Go.Proofs
set_option maxRecDepth 10000

/-! Lists that are found -/
def decF : List D → Option (List Int × Int)
  | [.sl es, .int .i64 b] => match enI.decL es with
    | some l => some (l, b)
    | none => none
  | _ => none
def enF : En (List Int × Int) where
  d x := [.sl (intL x.1), .int .i64 x.2]
  dec := decF
  h1 x := by simp only [decF, intL, En.decL_map]
  h2 c a h := by
    unfold decF at h
    split at h
    · split at h
      · rename_i l hl
        cases h
        rw [En.decL_inv hl]; rfl
      · cases h
    · cases h
  sz := 2
  hsz _ := rfl
def fnd (x : It) : List Int × Int := (x.1, x.2.2)
def fdL (q : List It) : List (List D) := (q.map fnd).map enF.d
theorem fdL_len (q : List It) : (fdL q).length = q.length := by simp [fdL]
theorem fdL_ok (q : List It) : okSrc 2 (fdL q) = true := by
  unfold okSrc fdL
  rw [List.all_eq_true]
  intro e he
  obtain ⟨x, _, rfl⟩ := List.mem_map.1 he
  rfl
theorem fd_ix {q : List It} {i : Nat} {x : It} (hx : q[i]? = some x) (h : H) : indexAddrD Try.prog h 117 (.sl (fdL q)) (.int .i64 (i : Int)) = some (.ref [.sl (intL x.1), .int .i64 x.2.2] 0) :=
  En.ix (P := Try.prog) Fz.und_117 Fz.size_116 (E := enF) (a := fnd x) (En.sl_map (E := enF) (q.map fnd)) (by rw [List.getElem?_map, hx]; rfl) h .i64
theorem fd_app {h : H} {b n b2 n2 : Nat} {l r : List It} (hb : hget h b = some (.arr 116 2 (fdL l))) (hn : l.length = n) (hb2 : hget h b2 = some (.arr 116 2 (fdL r))) (hn2 : r.length = n2) (nid : Nat) (hc : l.length + r.length ≤ 1000000000) :
    appE Try.prog h nid 117 117 (.osl b n) (.osl b2 n2) = some (.osl b (n + n2), hset h b (.arr 116 2 (fdL (l ++ r))), nid) := by
  rw [app_osl Fz.und_117 Fz.size_116 Fz.zero_116 rfl (by omega) Fz.bytes_116_117 h nid b n b2 n2 hb (by rw [fdL_len, hn]) hb2 (by rw [fdL_len, hn2]) (fdL_ok r) (by rw [fdL_len, fdL_len]; omega) (by rw [fdL_len, fdL_len]; omega), fdL_len, fdL_len, hn, hn2]
  simp [fdL]
theorem fd_lit (h : H) (nid : Nat) (p : List Int) (n b : Int) : litOpD Try.prog h nid 117 1 [(0, .agg [.sl (intL p), .int .i64 b])] = some (.osl nid 1, (nid, .arr 116 2 (fdL [(p, (n, b))])) :: h, nid + 1) := by kernel_rfl
theorem fd_litD (h : H) (p : List Int) (n b : Int) : litD Try.prog h 117 1 [(0, .agg [.sl (intL p), .int .i64 b])] = some (.sl (fdL [(p, (n, b))])) := by kernel_rfl
theorem int_nils (l : List Int) (h : H) (nid : Nat) (hc : l.length ≤ 1000000) : appE Try.prog h nid 29 29 .nils (.sl (intL l)) = some (.osl nid l.length, (nid, .arr 3 1 (intL l)) :: h, nid + 1) := by
  rw [app_nils Fz.und_29 Fz.size_3 Fz.zero_3 rfl (by omega) Fz.bytes_3_29 h nid (x := .sl (intL l)) (xs := intL l) rfl (intL_ok l) (by rw [intL_len]; omega) (by rw [intL_len]; omega), intL_len]
theorem shl_n {a i : Nat} (ha : a ≤ 1000000) (hi : i ≤ 20) : arith .shl .i64 (a : Int) (i : Int) = some (.int .i64 ((a * 2 ^ i : Nat) : Int)) := by
  have h1 : ¬ ((i : Int) < 0) := by omega
  have h2 : min ((i : Int).toNat) IntKind.i64.bits = i := by
    have : IntKind.i64.bits = 64 := rfl
    rw [this]; omega
  have h3 : 2 ^ i ≤ 2 ^ 20 := Nat.pow_le_pow_right (by omega) hi
  have h4 : a * 2 ^ i ≤ 1000000 * 2 ^ 20 := Nat.mul_le_mul ha h3
  simp only [arith, if_neg h1, h2]
  have h5 : (a : Int) * 2 ^ i = ((a * 2 ^ i : Nat) : Int) := by simp
  rw [h5]
  generalize (a * 2 ^ i : Nat) = q at *
  rw [wrap_i64 (by omega) (by omega)]
/-! Spots that were seen, as truth values -/
def snP (W : Int) (seen : List Pr) (x : Int) : Bool := decide ((x / W, x % W) ∈ seen)
theorem snP_at {W n b : Int} (hb : 0 ≤ b ∧ b < W) (seen : List Pr) : snP W seen (n * W + b) = decide ((n, b) ∈ seen) := by
  have h1 : (n * W + b) / W = n := by
    rw [Int.add_comm, Int.add_mul_ediv_right _ _ (by omega), Int.ediv_eq_zero_of_lt hb.1 hb.2]; omega
  have h2 : (n * W + b) % W = b := by
    rw [Int.add_comm, Int.add_mul_emod_self_right]; exact Int.emod_eq_of_lt hb.1 hb.2
  unfold snP
  rw [h1, h2]
theorem sn_add {N W n b : Nat} (seen : List Pr) (hb : b < W) : (boolsF (N * W) (snP W seen)).set (n * W + b) true = boolsF (N * W) (snP W (seen ++ [((n : Int), (b : Int))])) := by
  rw [boolsF_set]
  refine boolsF_congr fun c h0 h1 => ?_
  have hW : (0 : Int) < (W : Int) := by omega
  by_cases e : c = ((n * W + b : Nat) : Int)
  · rw [if_pos e, e]
    have e2 : ((n * W + b : Nat) : Int) = (n : Int) * (W : Int) + (b : Int) := by simp
    rw [e2, snP_at ⟨by omega, by omega⟩]; simp
  · rw [if_neg e]
    unfold snP
    have hne : ¬ ((c / (W : Int), c % (W : Int)) = ((n : Int), (b : Int))) := fun h => by
      simp only [Prod.mk.injEq] at h
      have := Int.emod_add_mul_ediv c W
      rw [h.1, h.2] at this
      apply e
      rw [← this, Int.mul_comm]
      simp; omega
    rw [Bool.eq_iff_iff]
    simp only [decide_eq_true_eq, List.mem_append, List.mem_singleton]
    exact ⟨fun h => .inl h, fun h => h.resolve_right hne⟩
theorem sn_start {N W : Nat} : List.replicate (N * W) false = boolsF (N * W) (snP W []) := by
  refine boolsF_ext (by simp) fun i hi => ?_
  simp [hi, snP]
/-! The search, by layers -/
theorem cellsF_succ (n : Nat) (p : Int → Bool) : cellsF (n + 1) p = cellsF n p ++ if p (n : Int) = true then [(n : Int)] else [] := by
  unfold cellsF
  rw [List.range_succ, List.filter_append, List.map_append]
  congr 1
  by_cases h : p (n : Int) = true
  · simp [h]
  · simp [h]
def sucTo (s : SkyW) (l : List Int) (y : Pr) (k : Nat) : List Pr := (cellsF k fun t => freeB s.sh t && decide (distI s.w t y.1 = 1)).map fun t => (t, (withN l y.2.toNat t : Int))
theorem sucTo_all {s : SkyW} (hs : SkyOk s) (l : List Int) {y : Pr} (hy : InS s y.1) : sucTo s l y s.sh.length = sucP s l y := by
  unfold sucTo sucP
  rw [nb_cells hs hy]
theorem sucTo_succ (s : SkyW) (l : List Int) (y : Pr) (k : Nat) : sucTo s l y (k + 1) = sucTo s l y k ++ if (freeB s.sh (k : Int) && decide (distI s.w (k : Int) y.1 = 1)) = true then [((k : Int), (withN l y.2.toNat (k : Int) : Int))] else [] := by
  unfold sucTo
  rw [cellsF_succ, List.map_append]
  congr 1
  split <;> rfl
theorem addI_rest (p : List Int) (rest : List It) : ∀ (l : List Pr) (seen : List Pr) (next : List It), l.foldl (addI p) (seen, rest ++ next) = ((l.foldl (addI p) (seen, next)).1, rest ++ (l.foldl (addI p) (seen, next)).2)
  | [], seen, next => rfl
  | z :: l, seen, next => by
    rw [List.foldl_cons, List.foldl_cons]
    by_cases hz : z ∈ seen
    · rw [show addI p (seen, rest ++ next) z = (seen, rest ++ next) by simp [addI, hz], show addI p (seen, next) z = (seen, next) by simp [addI, hz]]
      exact addI_rest p rest l seen next
    · rw [show addI p (seen, rest ++ next) z = (seen ++ [z], rest ++ (next ++ [(p ++ [z.1], z)])) by simp [addI, hz], show addI p (seen, next) z = (seen ++ [z], next ++ [(p ++ [z.1], z)]) by simp [addI, hz]]
      exact addI_rest p rest l _ _
def ItOk (N K : Nat) (seen : List Pr) (x : It) : Prop := InP N K x.2 ∧ (∃ r, x.1 = r ++ [x.2.1]) ∧ x.1.length ≤ seen.length
theorem add_its {N K : Nat} (p : List Int) : ∀ (l : List Pr) {seen : List Pr} {q : List It}, (∀ x ∈ q, ItOk N K seen x) → p.length ≤ seen.length → (∀ z ∈ l, InP N K z) → ∀ x ∈ (l.foldl (addI p) (seen, q)).2, ItOk N K (l.foldl (addI p) (seen, q)).1 x
  | [], _, _, h, _, _ => h
  | z :: l, seen, q, h, hp, hl => by
    rw [List.foldl_cons]
    by_cases hz : z ∈ seen
    · rw [show addI p (seen, q) z = (seen, q) by simp [addI, hz]]
      exact add_its p l h hp fun u hu => hl u (by simp [hu])
    · rw [show addI p (seen, q) z = (seen ++ [z], q ++ [(p ++ [z.1], z)]) by simp [addI, hz]]
      refine add_its p l (fun x hx => ?_) (by simp; omega) fun u hu => hl u (by simp [hu])
      rcases List.mem_append.1 hx with hx | hx
      · obtain ⟨a, b, c⟩ := h x hx
        exact ⟨a, b, by simp; omega⟩
      · simp at hx; subst hx
        exact ⟨hl z (by simp), ⟨p, rfl⟩, by simp; omega⟩
structure LyI (s : SkyW) (frm : Int) (l : List Int) (n : Nat) (q : List It) (seen : List Pr) : Prop where
  eq : searchO s frm l = bfsF (sucP s l) (allI l) n (seen, q)
  f : s.sh.length * 2 ^ l.length + q.length < n + seen.length
  le : n ≤ 40000
  sn : SeenOk s.sh.length (2 ^ l.length) seen
  it : ∀ x ∈ q, ItOk s.sh.length (2 ^ l.length) seen x
section
variable {s : SkyW} {frm : Int} {l : List Int}
theorem ly_start (hs : SkyOk s) (hf : freeB s.sh frm = true) (hl : l.length ≤ 8) : LyI s frm l SFUEL [([frm], begP l frm)] [begP l frm] := by
  have hb := beg_in (s := s) (l := l) hf
  have hN := hs.le
  have h8 := pow_lt8 hl
  have : s.sh.length * 2 ^ l.length ≤ 144 * 256 := Nat.mul_le_mul (by omega) h8
  exact ⟨rfl, by simp only [SFUEL, List.length_cons, List.length_nil]; omega, by decide, ⟨by simp, fun y hy => by simp at hy; subst hy; exact hb⟩, fun x hx => by simp at hx; subst hx; exact ⟨hb, ⟨[], rfl⟩, by simp⟩⟩
theorem LyI.pos {n : Nat} {q : List It} {seen : List Pr} (h : LyI s frm l n q seen) : q.length < n := by
  have := h.sn.len
  have := h.f
  omega
theorem LyI.hit {n : Nat} {q : List It} {seen : List Pr} {x : It} (h : LyI s frm l n (x :: q) seen) (hx : x.2.2 = allI l) : searchO s frm l = some x.1 := by
  obtain ⟨n', rfl⟩ : ∃ n', n = n' + 1 := ⟨n - 1, by have := h.pos; omega⟩
  rw [h.eq]
  simp only [bfsF]
  rw [if_pos hx]
theorem LyI.fin {n : Nat} {seen : List Pr} (h : LyI s frm l n [] seen) : searchO s frm l = none := by
  obtain ⟨n', rfl⟩ : ∃ n', n = n' + 1 := ⟨n - 1, by have := h.pos; omega⟩
  rw [h.eq]
  simp only [bfsF]
theorem LyI.step (hs : SkyOk s) {n : Nat} {rest next : List It} {seen : List Pr} {x : It} (h : LyI s frm l n (x :: rest ++ next) seen) (hx : x.2.2 ≠ allI l) :
    LyI s frm l (n - 1) (rest ++ ((sucP s l x.2).foldl (addI x.1) (seen, next)).2) ((sucP s l x.2).foldl (addI x.1) (seen, next)).1 := by
  obtain ⟨n', rfl⟩ : ∃ n', n = n' + 1 := ⟨n - 1, by have := h.pos; omega⟩
  have he := h.eq
  rw [List.cons_append] at he
  simp only [bfsF] at he
  rw [if_neg hx] at he
  have hr := addI_rest x.1 rest (sucP s l x.2) seen next
  have hi := h.it x (by simp)
  have hin := fun z hz => sucP_in hs (l := l) (y := x.2) hi.1 z hz
  obtain ⟨k, h1, h2⟩ := add_len x.1 (sucP s l x.2) seen (rest ++ next)
  rw [hr] at h1 h2
  refine ⟨by rw [he, hr]; rfl, ?_, by have := h.le; omega, seen_add x.1 _ h.sn hin, ?_⟩
  · have := h.f
    simp only [List.cons_append, List.length_cons] at this
    simp only at h1 h2
    rw [h1, h2]
    omega
  · have := add_its x.1 (sucP s l x.2) (seen := seen) (q := rest ++ next) (fun u hu => h.it u (by simp at hu ⊢; rcases hu with hu | hu <;> simp [hu])) hi.2.2 hin
    rw [hr] at this
    exact this
theorem LyI.seen_len (hs : SkyOk s) (hl : l.length ≤ 8) {n : Nat} {q : List It} {seen : List Pr} (h : LyI s frm l n q seen) : seen.length ≤ 36864 ∧ q.length ≤ 80000 := by
  have := h.sn.len
  have hN := hs.le
  have h8 := pow_lt8 hl
  have : s.sh.length * 2 ^ l.length ≤ 144 * 256 := Nat.mul_le_mul (by omega) h8
  have := h.f
  have := h.le
  omega
theorem add_next_len (p : List Int) : ∀ (l : List Pr) (seen : List Pr) (q : List It), (l.foldl (addI p) (seen, q)).2.length ≤ q.length + l.length := fun l seen q => by
  obtain ⟨k, h1, h2⟩ := add_len p l seen q
  have : ∀ (l : List Pr) (seen : List Pr) (q : List It), (l.foldl (addI p) (seen, q)).2.length ≤ q.length + l.length := by
    intro l
    induction l with
    | nil => intro seen q; simp
    | cons z l ih =>
      intro seen q
      rw [List.foldl_cons]
      by_cases hz : z ∈ seen
      · rw [show addI p (seen, q) z = (seen, q) by simp [addI, hz]]
        have := ih seen q
        simp only [List.length_cons]; omega
      · rw [show addI p (seen, q) z = (seen ++ [z], q ++ [(p ++ [z.1], z)]) by simp [addI, hz]]
        have := ih (seen ++ [z]) (q ++ [(p ++ [z.1], z)])
        simp only [List.length_cons, List.length_append, List.length_nil] at this ⊢; omega
  exact this l seen q
end
end Go.Sx
