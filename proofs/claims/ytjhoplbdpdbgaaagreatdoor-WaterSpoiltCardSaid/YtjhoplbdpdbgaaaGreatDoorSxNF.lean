/- Own work: a calculus of contracts for the programs of this kit: parts SxN24z, SxN25z. -/
import Derived.Test.YtjhoplbdpdbgaaaGreatDoorSxNE
import Derived.Test.YtjhoplbdpdbgaaaGreatDoorSxN20z
import Derived.Test.YtjhoplbdpdbgaaaGreatDoorSxMe
import Derived.Test.YtjhoplbdpdbgaaaGreatDoorRows
import Derived.Shelf.Vars
import Derived.Lib.LaidTab
import Derived.Stop.LaidErr
import Derived.LaidLaws
import Derived.MakeChecks
import Derived.SizedLaws
import Derived.Handed
import Derived.KernelRfl
set_option linter.unusedVariables false
set_option linter.unusedSimpArgs false
namespace Go.Sx
open Go.Proofs Go.Lib
set_option maxRecDepth 10000
variable {w0 : World}

theorem pure_weak {P : Program} {f : FuncId} {ds ds' : List D} {r : D} (hp : Pure P f ds' r) (hw : ∀ R n vs, RelL R n vs ds → RelL R n vs ds') : Pure P f ds r := ⟨hp.1, fun X k vs hh hn hg hr => hp.2 X k vs hh hn hg (hw _ _ _ hr)⟩
theorem same_zero : Pure Tryz.prog 45 [.agg (wx0.c []), .agg (wcL [])] (.bool true) := by
 have h := SameWeather_t wx0 wx0 ⟨by decide, by decide, by decide, by decide, by decide⟩ ⟨by decide, by decide, by decide, by decide, by decide⟩
 rw [(sameWx_iff _ _).2 rfl] at h
 refine pure_weak h fun R n vs hr => ⟨hr.1, fun i v d h1 h2 => ?_⟩
 match i with
 | 0 => exact hr.2 0 v d h1 h2
 | 1 =>
  simp at h2; subst h2
  rw [← wx0_c]
  exact rel_aggN (hr.2 1 v _ h1 rfl)
 | i + 2 => simp at h2
end Go.Sx

namespace Go.Sx
open Go Go.Proofs Go.Proofs.YtjhoplbdpdbgaaaGreatDoor Go.Lib Go.RowKit Go.ChangeShapes
set_option maxRecDepth 10000
set_option linter.unusedVariables false

theorem laid_if {P : Program} {n nm : String} {d : DataW Unit} {r : List (String × DataW Unit)} {W : World} {g : Nat} {ti : TypeId} {ms : Array (String × TypeId)}
  (h : laidMet P ((n, .iface nm d) :: r) W) (hg : P.globalNamed n = some g) (ht : (P.globals[g]?).map (·.type) = some ti) (hi : P.underlying ti = some (.interface ms)) : ∃ v, W.cell? ⟨g, 0, none⟩ = some v ∧ IfV v := by
 obtain ⟨ps, ⟨g0, t0, cs0, f0, p0, q0, hg0, ht0, hv0, hd0, _, e0⟩, _, hrows⟩ := h
 obtain rfl := Option.some.inj (hg.symm.trans hg0)
 obtain rfl := Option.some.inj (ht.symm.trans ht0)
 obtain ⟨f1, u, v, hcs, _, _⟩ := iface_of_trod hi hd0
 obtain ⟨l0⟩ := cs0
 have hcs : l0 = [.iface u v] := hcs
 subst hcs
 exact ⟨.iface u v, by simpa using World.var?_cell hg0 hv0 0, .inr ⟨u, v, rfl⟩⟩
theorem tabsT_of {W : World} (hL : laidMetH Tryz.prog Rows.waterFilesRow.laid W) (hS : W.ShapedOpen Tryz.prog) : TabsT W := by
 rw [Go.MakeChecks.laidMetH_plain _ _ _ (by kernel_rfl)] at hL
 have h3 := hL.tail.tail
 have h5 := h3.tail.tail
 have h6 := h5.tail
 have hp : TabIs Tryz.prog W (Rows.waterFilesRow.laid[2]'(by decide)).1 .u64 pow10Tab := tabIs_of_head (g := 0) (t := 208) (e := 197) (n := 20) (by kernel_rfl) (by kernel_rfl) Tryz.underlying208 (by kernel_rfl) (by kernel_rfl) (by kernel_rfl) h3
 exact {
  p := Eq.mp (congrArg (fun nm => TabIs Tryz.prog W nm .u64 pow10Tab) (by kernel_rfl)) hp
  m := cell_of_shapedOpen_int (t := 3) (zero := #[.int .i64 0]) (k := .i64) hS (by decide +kernel) (by kernel_rfl) rfl (by kernel_rfl) (by kernel_rfl) Fz.und_3
  s := laid_if (g := 4) (ti := 193) h6 (by kernel_rfl) (by kernel_rfl) Tryz.underlying193
  r := laid_if (g := 5) (ti := 193) h5 (by kernel_rfl) (by kernel_rfl) Tryz.underlying193 }
theorem law_callsG {P : Program} {H : Type} {enc : TypeId × Value → H} {w : World} {base : Nat} {spare : Nat → Bool} {held : Bool} (hdis : disjAll P = true) {f : FuncId} {ts : List TypeId} {args : Array Value} {ds : List (DataW H)} {ps : List MemPlace} {b0 : Nat} (hp : ∀ Ds, TyL P ts Ds → PCallG P w f Ds [] 0 (fun r _ _ => r = .bool true) NoP)
  (hA : DataW.TrodAll enc P w base spare held ts args.toList ds ps) (hv : ∀ (j : Nat) t v, ts[j]? = some t → args[j]? = some v → Value.okWide P w .any b0 t v) (hu : ∀ t ∈ ts, (P.underlying t).isSome = true) :
  Calls P f args w fun e w' => e = .returned (.bool true) ∧ Below w.heap.size w w' := by
 have hnm : ∀ b, ¬ Cx.Mut (⟨w, fun _ => 0, fun _ => undef, [], 0⟩ : Cx) b := fun b ⟨i, h⟩ => by simp [Cx.own, hget, ownOf] at h
 have hg : Good (fun _ => False) (⟨w, fun _ => 0, fun _ => undef, [], 0⟩ : Cx) := ⟨fun _ _ h => by simp [hget] at h, fun _ _ _ h => by simp [Cx.own, hget, ownOf] at h, fun _ _ h => by simp [Cx.own, hget, ownOf] at h, fun _ h => h.elim, fun _ _ h => by simp [hget] at h⟩
 obtain ⟨Ds, h1, h2⟩ := args_rel (R := Cx.R (fun _ => False) ⟨w, fun _ => 0, fun _ => undef, [], 0⟩) hdis rfl (fun b hb => ⟨hb, id, hnm b⟩) ts args.toList ds ps hA (fun j t v a b => hv j t v a (by simpa using b)) hu
 have := (hp Ds h2).2 (fun _ => False) ⟨w, fun _ => 0, fun _ => undef, [], 0⟩ args.toList (Fr.self (⟨w, fun _ => 0, fun _ => undef, [], 0⟩ : Cx) rfl) rfl rfl hg h1
 rw [Array.toArray_toList] at this
 refine this.mono ?_
 rintro e w' ⟨k', rfl, _, hle, ⟨v, r, rfl, rfl, hr⟩ | ⟨_, _, h⟩⟩
 ·cases hr
  exact ⟨rfl, hle.os, hle.tape, hle.output, hle.size, fun k hk => hle.heap k hk (hnm k)⟩
 ·exact h.elim
theorem change_and_shaped {H : Type} {enc : TypeId × Value → H} {a : Assume} {C : Checked} {os : Os} {f : FuncId} {fn : Func} {s : ChangeSpec} {conds : List PathCond} {apart fresh handsOn again : Bool} {X : World → Array Value → Prop}
  (hX : ∀ (w w' : World) (args : Array Value), w.heap = w'.heap → X w args → X w' args)
  (own : ownKnob C.prog.godebug = none) (started : os.Started) (noInit : C.prog.inits.idxOf? f = none) (hfn : C.prog.funcs[f]? = some fn)
  (witness : ∃ (w : World) (tape : Tape) (i : Input), w.os = os ∧ (w.forCall tape i).Shaped C.prog ∧ i.vars = [] ∧ Input.okWide C.prog (w.forCall tape i) .any w.heap.size f i ∧
   ((s.pre enc C.prog fn conds apart (w.forCall tape i).memory i.args ∧ X (w.forCall tape i).memory i.args) ∧ sizedMet enc C.prog fn (OpenSpec.ofChange s) apart (w.forCall tape i).memory i.args) ∧ a.holds C.prog (lone (Frame.enter C.prog f i.args .normal) [] (w.forCall tape i)))
  (contract : ∀ (W : World) (base : Nat) (args : Array Value) (ds gs : List (DataW H)) (before : List MemPlace),
   (∀ (j : Nat) t v, fn.params[j]? = some t → args[j]? = some v → Value.okWide C.prog W .any base t v) →
   DataW.Whole enc C.prog fn.params.toList s.vars apart W args.toList ds gs before → X W args → W.ShapedOpen C.prog →
   Calls C.prog f args W fun e W' => ∃ v, e = .returned v ∧ s.post enc C.prog fn apart fresh handsOn again W args v W') :
  ReturnsInHanded a C os f .any (fun w args => (s.pre enc C.prog fn conds apart w args ∧ X w args) ∧ sizedMet enc C.prog fn (OpenSpec.ofChange s) apart w args) (s.post enc C.prog fn apart fresh handsOn again) := by
 refine returnsInHanded_of_calls own started noInit witness ?_
 intro w tape i _ hsh _ hok hpre _
 obtain ⟨_, _, _, fn', hfn', _, _, _, _, hval⟩ := hok
 obtain rfl : fn' = fn := Option.some.inj (hfn'.symm.trans hfn)
 obtain ⟨⟨⟨ds, gs, before, hw, _⟩, hx⟩, _⟩ := hpre
 refine (contract (w.forCall tape i) w.heap.size i.args ds gs before hval (DataW.Whole.of_heap (w' := w.forCall tape i) (by rfl) hw) (hX _ _ _ (by rfl) hx) hsh).mono fun e W' ⟨v, he, hp⟩ => ?_
 subst he
 exact ChangeSpec.post_blind hp

end Go.Sx
