/- Own work: contracts of functions, used in the proof of a law. -/
import Derived.Test.YthljonnokmkagaaSxEn
set_option linter.unusedVariables false
set_option linter.unusedSimpArgs false
namespace Go.Sx
open Go.Proofs
set_option maxRecDepth 10000

/-! Oracles of ways over water -/
noncomputable def gTaxi : List D → Option D := orcF (fun p : LandM × Int × Int => LandL p.1) (fun p => [.agg p.1.c, .int .i64 p.2.1, .int .i64 p.2.2]) (fun p => TaxiD p.1 p.2.1 p.2.2)
theorem gTaxi_eq {l : LandM} (hl : LandL l) (frm to : Int) : gTaxi [.agg l.c, .int .i64 frm, .int .i64 to] = some (TaxiD l frm to) :=
  orcF_eq (ok := fun p : LandM × Int × Int => LandL p.1) (dsf := fun p => [.agg p.1.c, .int .i64 p.2.1, .int .i64 p.2.2]) (rf := fun p => TaxiD p.1 p.2.1 p.2.2) (l, frm, to) hl fun b hb => by
    simp only [List.cons.injEq, D.agg.injEq, D.int.injEq, true_and, and_true] at hb
    rw [LandM.c_inj hb.1, hb.2.1, hb.2.2]
noncomputable def gTaxis : List D → Option D := orcF (fun p : LandM × List Int × Int × Int => LandOk p.1 ∧ p.2.1.length ≤ 1000) (fun p => [.agg p.1.c, .sl (intL p.2.1), .int .i64 p.2.2.1, .int .i64 p.2.2.2]) (fun p => .bool (tB p.1 p.2.1 p.2.2.1 p.2.2.2))
noncomputable abbrev nK : List (FuncId × (List D → Option D)) := (58, gTaxi) :: (62, gTaxis) :: nI
theorem nK_ok : OkO Try.prog (mkO nK) := mkO_ok (orcF_ok fun p h => run_Taxi_t p.1 h p.2.1 p.2.2) <| mkO_ok (orcF_ok fun p h => ref3_Taxis_t p.1 h.1 p.2.1 h.2 p.2.2.1 p.2.2.2) <| nI_ok
theorem TaxiD_none {l : LandM} (hb : landB l = true) {frm to : Int} (hf : cellI l frm) (ht : cellI l to) (hm : mget (costsT l to) frm = none) : TaxiD l frm to = .tup [.nils, .int .i64 5] := by
  rw [TaxiD, cellB_of hb hf, cellB_of hb ht, hm]; rfl
theorem TaxiD_some {l : LandM} (hb : landB l = true) {frm to : Int} (hf : cellI l frm) (ht : cellI l to) {v : Cst} (hm : mget (costsT l to) frm = some v) : TaxiD l frm to = .tup [.sl (intL (taxiA l frm to)), .int .i64 0] := by
  rw [TaxiD, cellB_of hb hf, cellB_of hb ht, hm]; rfl
theorem TaxiD_bad {l : LandM} {frm to : Int} (h : (cellB l frm && cellB l to) = false) : TaxiD l frm to = .tup [.nils, .int .i64 2] := by
  rw [TaxiD, h]; simp

/-! RunTaxis -/
end Go.Sx
