/- Own work: contracts of functions, used in the proof of a law. -/
import Derived.Test.YtljkgnicmlhipaaGreatSxW50v
set_option linter.unusedVariables false
set_option linter.unusedSimpArgs false
namespace Go.Sx
open Go.Proofs
set_option maxRecDepth 10000

theorem boolL_get {l : List Bool} {i : Nat} {x : Bool} (h : l[i]? = some x) : (boolL l)[i]? = some [.bool x] := by simp [boolL, h, enB]
theorem oB_ix {h : H} {b n : Nat} {l : List Bool} (hb : hget h b = some (.arr 4 1 (boolL l))) (hn : l.length = n) {i : Nat} (hi : i < n) : indexAddrD Tryz.prog h 22 (.osl b n) (.int .i64 (i : Int)) = some (.eptr b n 1 i 0) :=
 own_ix Fz.und_22 Fz.size_4 hb (by rw [boolL_len, hn]) hi .i64
theorem oB_store {h : H} {b n : Nat} {l : List Bool} (hb : hget h b = some (.arr 4 1 (boolL l))) (hn : l.length = n) {i : Nat} (hi : i < n) (nid : Nat) (y : Bool) :
  storeD Tryz.prog h nid 4 (.eptr b n 1 i 0) (.bool y) = some (.any, hset h b (.arr 4 1 (boolL (l.set i y))), nid) := by
 obtain ⟨x, hx⟩ : ∃ x, l[i]? = some x := ⟨l[i]'(by omega), by simp [hn, hi]⟩
 rw [own_store (ds := [.bool y]) hb (by rw [boolL_len, hn]) (boolL_get hx) 0 nid Fz.size_4 rfl rfl (by omega) rfl rfl]
 simp [boolL, List.map_set, enB, putL]
theorem make_b (h : H) (nid n : Nat) (hn : n ≤ 1000000) : makeD Tryz.prog h nid 22 (.int .i64 (n : Int)) (.int .i64 (n : Int)) = some (.osl nid n, (nid, .arr 4 1 (boolL (List.replicate n false))) :: h, nid + 1) := by
 have h1 : n ≤ 1125899906842624 := by omega
 have hb : Tryz.prog.bytesOf 4 = 1 := by kernel_rfl
 have h2 : n ≤ 140737488355328 := by omega
 simp [makeD, Fz.und_22, Fz.size_4, Fz.zero_4, hb, h1, h2, boolL, enB]
 omega
theorem boolsF_set {N : Nat} (p : Int → Bool) {i : Nat} (v : Bool) : (boolsF N p).set i v = boolsF N fun c => if c = (i : Int) then v else p c := by
 refine boolsF_ext (by rw [List.length_set, boolsF_len]) fun j hj => ?_
 rw [List.getElem?_set]
 by_cases e : i = j
 ·subst e
  simp [boolsF_len, hj]
 ·rw [if_neg e, boolsF_get p hj, if_neg (by omega)]

end Go.Sx
