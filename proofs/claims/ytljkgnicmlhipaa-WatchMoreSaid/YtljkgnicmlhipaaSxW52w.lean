/- Own work: contracts of functions, used in the proof of a law. -/
import Derived.Test.YtljkgnicmlhipaaSxW51w
set_option linter.unusedVariables false
set_option linter.unusedSimpArgs false
namespace Go.Sx
open Go.Proofs
set_option maxRecDepth 10000

noncomputable def gSII (ok : SkyW → Int → Int → Prop) (rf : SkyW → Int → Int → D) : List D → Option D := orcF (fun p : SkyW × Int × Int => ok p.1 p.2.1 p.2.2) (fun p => [.agg p.1.c, .int .i64 p.2.1, .int .i64 p.2.2]) (fun p => rf p.1 p.2.1 p.2.2)
theorem gSII_eq {ok : SkyW → Int → Int → Prop} {rf : SkyW → Int → Int → D} {s : SkyW} {a b : Int} (h : ok s a b) : gSII ok rf [.agg s.c, .int .i64 a, .int .i64 b] = some (rf s a b) :=
 orcF_eq (ok := fun p : SkyW × Int × Int => ok p.1 p.2.1 p.2.2) (dsf := fun p => [.agg p.1.c, .int .i64 p.2.1, .int .i64 p.2.2]) (rf := fun p => rf p.1 p.2.1 p.2.2) (s, a, b) h fun q hq => by
  simp only [List.cons.injEq, D.agg.injEq, D.int.injEq, and_true, true_and] at hq
  rw [SkyW.c_inj hq.1, hq.2.1, hq.2.2]
def okS (s : SkyW) (_ _ : Int) : Prop := BL s.sh
end Go.Sx
