/- Sx: contracts on data of functions that defer a closure that recovers. Own work. -/
import Derived.Test.YtljkgnicmlhipaaGreatSxZ33
set_option linter.unusedVariables false
set_option linter.unusedSimpArgs false
namespace Go.Sx
variable {P : Program} {O : Oracle} {n0 : Nat}
theorem pure_of_bwp {f : FuncId} {fn : Func} {c : Code} {ds : List D} {r : D} {m : Nat} (hf : P.funcs[f]? = some fn) (hb : fn.body = some c) (hcal : callable P f = true) (hn : ds.length + (fn.ntmps - ds.length) = m)
  (hw : BWp P fn 0 (fun r' _ _ => r' = r) c ⟨argEnv 0 ds, [], 0, m⟩) : Pure P f ds r := acall_of_bwp hf hb hcal (by rw [hn]; exact hw)
theorem pcall_free {f : FuncId} {ds : List D} {A : Prop} {R : List PanicEntry → Prop} {h : H} {nid : Nat} (hp : PCall P f ds [] 0 (fun r _ _ => r = .tup [] ∧ A) fun ch _ _ => R ch) (hl : D.ltL 0 ds = true) :
  PCall P f ds h nid (fun r' h' nid' => (r' = .tup [] ∧ h' = h ∧ nid' = nid) ∧ A) fun ch h' nid' => R ch ∧ h' = h ∧ nid' = nid :=
 pcall_borrow (by rw [← viewL_eq, viewL_old h hl]; exact hp)
end Go.Sx
