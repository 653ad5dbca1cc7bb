/- Own work: contracts of functions, used in the proof of a law. -/
import Derived.Test.YtljkgnicmlhipaaGreatSxW78v
import Derived.Test.YtljkgnicmlhipaaGreatSxW76v
set_option linter.unusedVariables false
set_option linter.unusedSimpArgs false
namespace Go.Sx
open Go.Proofs
set_option maxRecDepth 10000

theorem tyPlace {n : Nat} {ds : List D} (h : TyD Tryz.prog n 44 ds) : ∃ p : PlW, ds = enP.d p := by
 obtain ⟨hl, m, hf⟩ := tySt Tryz.underlying44 (by decide +kernel) h
 obtain ⟨a, b, rfl⟩ := list2 (hl.trans (by kernel_rfl))
 obtain ⟨x, hx, _⟩ := tyInt Fz.und_3 (hf 0 _ rfl)
 obtain ⟨z, hz⟩ := tyBool Fz.und_4 (hf 1 _ rfl)
 cases hx; cases hz
 exact ⟨(x, z), rfl⟩
theorem tyPlaces {n : Nat} {ds : List D} (h : TyD Tryz.prog n 45 ds) : ∃ l : List PlW, ds = [.sl (plL l)] ∧ BL l := by
 obtain ⟨l, h1, h2, _⟩ := tyEn (E := enP) (fun _ => True) Fz.und_45 (by decide +kernel) (fun _ _ h => by obtain ⟨x, hx⟩ := tyPlace h; exact ⟨x, hx, trivial⟩) h
 exact ⟨l, h1, h2⟩
noncomputable def gAgR : List D → Option D := orcF (fun p : WatchW × List MsgW × List PlW => WatchL p.1 ∧ BL p.2.1 ∧ BL p.2.2) (fun p => [.agg p.1.c, msD p.2.1, .sl (plL p.2.2)]) (fun p => agreesR p.1 p.2.1 p.2.2)
theorem gAgR_eq {w : WatchW} {l : List MsgW} {x : List PlW} (h : WatchL w ∧ BL l ∧ BL x) : gAgR [.agg w.c, msD l, .sl (plL x)] = some (agreesR w l x) :=
 orcF_eq (ok := fun p : WatchW × List MsgW × List PlW => WatchL p.1 ∧ BL p.2.1 ∧ BL p.2.2) (dsf := fun p => [.agg p.1.c, msD p.2.1, .sl (plL p.2.2)]) (rf := fun p => agreesR p.1 p.2.1 p.2.2) (w, l, x) h fun q hq => by
  simp only [List.cons.injEq, D.agg.injEq, and_true] at hq
  rw [WatchW.c_inj hq.1, En.map_inj (E := enMs) hq.2.1, enP_inj hq.2.2]
theorem mail_ok {w : WatchW} {l : List MsgW} (h : mailB w l = true) : ∀ m ∈ l, freeB w.s.sh m.c = true ∧ w.min ≤ m.t ∧ m.t ≤ m.came ∧ m.came ≤ 1440 := fun m hm => by
 simp only [mailB, Bool.not_eq_true', List.any_eq_false] at h
 have := h m hm
 simp only [mBad, Bool.or_eq_true, Bool.not_eq_true', decide_eq_true_eq, not_or, Bool.not_eq_false] at this
 exact ⟨this.1, by omega, by omega, by omega⟩
noncomputable abbrev e83 : List (FuncId × (List D → Option D)) :=
 (15, gShort) :: (8, cstO [] (.bool true)) :: (17, gAgR) :: (13, gAg) :: (18, gMail) :: e5
theorem e83_ok : OkO Tryz.prog (mkO e83) :=
 mkO_ok (orcF_ok fun w h => short_t w h) <| mkO_ok (cstO_ok known_t) <| mkO_ok (orcF_ok fun p h => Agrees_t h.1 h.2.1 h.2.2) <| mkO_ok (orcF_ok fun p h => r_Agrees_t h) <| mkO_ok (orcF_ok fun p h => r_Mail_t p.1 h.1 p.2 h.2) e5_ok
end Go.Sx
