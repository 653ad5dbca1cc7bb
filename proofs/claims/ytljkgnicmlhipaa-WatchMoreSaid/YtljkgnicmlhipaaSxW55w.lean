/- Own work: contracts of functions, used in the proof of a law. -/
import Derived.Test.YtljkgnicmlhipaaSxW54w
set_option linter.unusedVariables false
set_option linter.unusedSimpArgs false
namespace Go.Sx
open Go.Proofs
set_option maxRecDepth 10000

theorem ms_ok (l : List MsgW) : okSrc 4 (l.map enMs.d) = true := by
 unfold okSrc
 rw [List.all_eq_true]
 intro e he
 obtain ⟨x, _, rfl⟩ := List.mem_map.1 he
 rfl
theorem ms_nils (l : List MsgW) (h : H) (nid : Nat) (hc : l.length ≤ 1000) : appE Try.prog h nid 45 45 .nils (.sl (l.map enMs.d)) = some (.osl nid l.length, (nid, .arr 47 4 (l.map enMs.d)) :: h, nid + 1) := by
 rw [app_nils Fz.und_45 Fz.size_47 Fz.zero_47 rfl (by omega) Fz.bytes_47_45 h nid (x := .sl (l.map enMs.d)) (xs := l.map enMs.d) rfl (ms_ok l) (by rw [List.length_map]; omega) (by rw [List.length_map]; omega), List.length_map]
theorem ms_app {h : H} {b n : Nat} {l r : List MsgW} (hb : hget h b = some (.arr 47 4 (l.map enMs.d))) (hn : l.length = n) (nid : Nat) (hc : l.length + r.length ≤ 1000) : appE Try.prog h nid 45 45 (.osl b n) (.sl (r.map enMs.d)) = some (.osl b (n + r.length), hset h b (.arr 47 4 ((l ++ r).map enMs.d)), nid) := by
 rw [app_sl Fz.und_45 Fz.size_47 Fz.zero_47 rfl (by omega) Fz.bytes_47_45 h nid b n hb (by rw [List.length_map, hn]) (ms_ok r) (by rw [List.length_map, List.length_map]; omega) (by rw [List.length_map, List.length_map]; omega), List.length_map, List.length_map, hn, List.map_append]
theorem ms_litD (h : H) (m : MsgW) : litD Try.prog h 45 1 [(0, .agg [.int .i64 m.t, .int .i64 m.c, .bool m.d, .int .i64 m.came])] = some (.sl ([m].map enMs.d)) := by kernel_rfl
theorem same_self (l : List Int) (h : BL l) : Pure Try.prog 19 [.sl (intL l), .sl (intL l)] (.bool true) := by
 have h2 := r_Same_t l l h h
 rw [sameB_eq, decide_eq_true rfl] at h2
 exact h2
inductive WhA : D → Prop
 | none : WhA (.tup [.nils, .nils, .int .i64 5])
 | some (a b : List Int) : a.length ≤ 1000 → b.length ≤ 1000 → WhA (.tup [.sl (intL a), .sl (intL b), .int .i64 0])
end Go.Sx
