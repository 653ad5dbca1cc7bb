/- Own work: contracts of functions, used in the proof of a law. -/
import Derived.Test.YtljkgnicmlhipaaGreatSxW50v
set_option linter.unusedVariables false
set_option linter.unusedSimpArgs false
namespace Go.Sx
open Go.Proofs
set_option maxRecDepth 10000

theorem boolL_get {l : List Bool} {i : Nat} {x : Bool} (h : l[i]? = some x) : (boolL l)[i]? = some [.bool x] := by simp [boolL, h, enB]
theorem oB_len {h : H} {b n : Nat} {l : List Bool} (hb : hget h b = some (.arr 4 1 (boolL l))) (hn : l.length = n) : lenOpD Tryz.prog h 22 (.osl b n) = some (.int .i64 n) :=
 own_len Fz.und_22 hb (by rw [boolL_len, hn])
theorem oB_ix {h : H} {b n : Nat} {l : List Bool} (hb : hget h b = some (.arr 4 1 (boolL l))) (hn : l.length = n) {i : Nat} (hi : i < n) : indexAddrD Tryz.prog h 22 (.osl b n) (.int .i64 (i : Int)) = some (.eptr b n 1 i 0) :=
 own_ix Fz.und_22 Fz.size_4 hb (by rw [boolL_len, hn]) hi .i64
theorem oB_load {h : H} {b n : Nat} {l : List Bool} (hb : hget h b = some (.arr 4 1 (boolL l))) (hn : l.length = n) {i : Nat} {x : Bool} (hx : l[i]? = some x) : loadAtD Tryz.prog h 4 (.eptr b n 1 i 0) = some (.bool x) := by
 rw [own_load hb (by rw [boolL_len, hn]) (boolL_get hx) 0]
 exact loadD_one Fz.agg_4 Fz.size_4 _ _ |>.trans rfl
theorem oB_store {h : H} {b n : Nat} {l : List Bool} (hb : hget h b = some (.arr 4 1 (boolL l))) (hn : l.length = n) {i : Nat} (hi : i < n) (nid : Nat) (y : Bool) :
  storeD Tryz.prog h nid 4 (.eptr b n 1 i 0) (.bool y) = some (.any, hset h b (.arr 4 1 (boolL (l.set i y))), nid) := by
 obtain ⟨x, hx⟩ : ∃ x, l[i]? = some x := ⟨l[i]'(by omega), by simp [hn, hi]⟩
 rw [own_store (ds := [.bool y]) hb (by rw [boolL_len, hn]) (boolL_get hx) 0 nid Fz.size_4 rfl rfl (by omega) rfl rfl]
 simp [boolL, List.map_set, enB, putL]
theorem make_b (h : H) (nid n : Nat) (hn : n ≤ 1000000) : makeD Tryz.prog h nid 22 (.int .i64 (n : Int)) (.int .i64 (n : Int)) = some (.osl nid n, (nid, .arr 4 1 (boolL (List.replicate n false))) :: h, nid + 1) := by
 have h1 : n ≤ 1125899906842624 := by omega
 have hb : Tryz.prog.bytesOf 4 = 1 := by kernel_rfl
 have h2 : n ≤ 140737488355328 := by omega
 simp [makeD, Fz.und_22, Fz.size_4, Fz.zero_4, hb, h1, h2, boolL, enB]
 omega
theorem boolsF_set {N : Nat} (p : Int → Bool) {i : Nat} (v : Bool) : (boolsF N p).set i v = boolsF N fun c => if c = (i : Int) then v else p c := by
 refine boolsF_ext (by rw [List.length_set, boolsF_len]) fun j hj => ?_
 rw [List.getElem?_set]
 by_cases e : i = j
 ·subst e
  simp [boolsF_len, hj]
 ·rw [if_neg e, boolsF_get p hj, if_neg (by omega)]

def anyTo (s : SkyW) (p : Int → Bool) (i : Int) (k : Nat) : Bool := (List.range k).any fun j : Nat => p (j : Int) && (freeB s.sh i && decide (distI s.w i (j : Int) ≤ 1))
theorem anyTo_succ (s : SkyW) (p : Int → Bool) (i : Int) (k : Nat) : anyTo s p i (k + 1) = (anyTo s p i k || (p (k : Int) && (freeB s.sh i && decide (distI s.w i (k : Int) ≤ 1)))) := by
 simp [anyTo, List.range_succ, List.any_append]
theorem anyTo_all (s : SkyW) (p : Int → Bool) (i : Int) : anyTo s p i s.sh.length = arF s p i := by
 rw [Bool.eq_iff_iff, arF_iff]
 simp only [anyTo, List.any_eq_true, List.mem_range, Bool.and_eq_true, decide_eq_true_eq]
 constructor
 ·rintro ⟨j, hj, h1, h2, h3⟩
  exact ⟨h2, (j : Int), ⟨by omega, by omega⟩, h1, h3⟩
 ·rintro ⟨h2, k, hk, h1, h3⟩
  have e : ((k.toNat : Nat) : Int) = k := by have := hk.1; omega
  exact ⟨k.toNat, by have := hk.2; omega, by rw [e]; exact h1, h2, by rw [e]; exact h3⟩
end Go.Sx
