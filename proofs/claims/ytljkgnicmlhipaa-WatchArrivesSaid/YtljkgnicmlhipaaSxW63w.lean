/- Own work: contracts of functions, used in the proof of a law. -/
import Derived.Test.YtljkgnicmlhipaaSxW62w
set_option linter.unusedVariables false
set_option linter.unusedSimpArgs false
namespace Go.Sx
open Go.Proofs
set_option maxRecDepth 10000

theorem Rw.ge {A : Int → Int → Int → Int} {K : Nat} (hge : ∀ s t m, 0 ≤ A s t m → m ≤ A s t m) {s m : Int} {p : List Int} {e a : Int} (h : Rw A K s m p e a) : m ≤ a := by
  induction h with
  | one s m => exact Int.le_refl _
  | cons s m t p e a _ _ _ g3 _ ih => have := hge s t m g3; omega
theorem arrive_len {w : WatchW} {c m : Int} {p : List Int} (h : arriveR w c m = some p) : p.length ≤ w.n.r.length := by
  unfold arriveR at h
  obtain ⟨q, _, hq, hf, _⟩ := fsome_ex h
  obtain ⟨s, _, hs, hf2, _⟩ := fsome_ex hf
  unfold arrF at hf2
  split at hf2
  · have := routeR_len _ _ _ _ hf2; omega
  · cases hf2
noncomputable def gWII (ok : WatchW → Int → Int → Prop) (rf : WatchW → Int → Int → D) : List D → Option D := orcF (fun p : WatchW × Int × Int => ok p.1 p.2.1 p.2.2) (fun p => [.agg p.1.c, .int .i64 p.2.1, .int .i64 p.2.2]) (fun p => rf p.1 p.2.1 p.2.2)
theorem gWII_eq {ok : WatchW → Int → Int → Prop} {rf : WatchW → Int → Int → D} {w : WatchW} {a b : Int} (h : ok w a b) : gWII ok rf [.agg w.c, .int .i64 a, .int .i64 b] = some (rf w a b) :=
  orcF_eq (ok := fun p : WatchW × Int × Int => ok p.1 p.2.1 p.2.2) (dsf := fun p => [.agg p.1.c, .int .i64 p.2.1, .int .i64 p.2.2]) (rf := fun p => rf p.1 p.2.1 p.2.2) (w, a, b) h fun q hq => by
    simp only [List.cons.injEq, D.agg.injEq, D.int.injEq, and_true, true_and] at hq
    rw [WatchW.c_inj hq.1, hq.2.1, hq.2.2]
def okW2 (w : WatchW) (_ _ : Int) : Prop := WatchL w
structure ArrOk (w : WatchW) (c m : Int) (p : List Int) : Prop where
  wo : WatchOk w
  c : InS w.s c
  m : 0 ≤ m ∧ m ≤ 1440
  p : BL p
noncomputable def gRArr : List D → Option D := orcF (fun p : WatchW × List Int × Int × Int => ArrOk p.1 p.2.2.1 p.2.2.2 p.2.1) (fun p => [.agg p.1.c, .sl (intL p.2.1), .int .i64 p.2.2.1, .int .i64 p.2.2.2]) (fun p => .int .i64 (rArrI p.1 p.2.1 p.2.2.1 p.2.2.2))
theorem gRArr_eq {w : WatchW} {c m : Int} {p : List Int} (h : ArrOk w c m p) : gRArr [.agg w.c, .sl (intL p), .int .i64 c, .int .i64 m] = some (.int .i64 (rArrI w p c m)) :=
  orcF_eq (ok := fun p : WatchW × List Int × Int × Int => ArrOk p.1 p.2.2.1 p.2.2.2 p.2.1) (dsf := fun p => [.agg p.1.c, .sl (intL p.2.1), .int .i64 p.2.2.1, .int .i64 p.2.2.2]) (rf := fun p => .int .i64 (rArrI p.1 p.2.1 p.2.2.1 p.2.2.2)) (w, p, c, m) h fun q hq => by
    simp only [List.cons.injEq, D.agg.injEq, D.int.injEq, D.sl.injEq, and_true, true_and] at hq
    rw [WatchW.c_inj hq.1, intL_inj hq.2.1, hq.2.2.1, hq.2.2.2]
theorem arr_cases {w : WatchW} {c m : Int} (h1 : watchB w = true) (h2 : freeB w.s.sh c = true) (h3 : rI m 0 1440 = true) :
    (ArrR w c m = .tup [.int .i64 0, .nils, .int .i64 5] ∧ arrivesI w c m < 0 ∧ ∀ p, rArrI w p c m < 0) ∨
    ∃ p, ArrR w c m = .tup [.int .i64 (arrivesI w c m), .sl (intL p), .int .i64 0] ∧ 0 ≤ arrivesI w c m ∧ m ≤ arrivesI w c m ∧ arriveR w c m = some p ∧ p.length ≤ 8 ∧ rArrI w p c m = arrivesI w c m ∧
      ∀ p', 0 ≤ rArrI w p' c m → arrivesI w c m ≤ rArrI w p' c m ∧ (rArrI w p' c m = arrivesI w c m → lessB p' p = false) := by
  have hw := watch_ok h1
  have hm := rI_le h3
  unfold ArrR
  rw [if_pos (by rw [h1, h2, h3]; rfl)]
  by_cases h0 : arrivesI w c m < 0
  · left
    rw [if_pos h0]
    refine ⟨rfl, h0, fun p => ?_⟩
    rcases arrives_spec hw hm (c := c) with ⟨_, hn⟩ | ⟨h, _⟩
    · refine Classical.byContradiction fun hc => ?_
      exact hn _ _ ((route_arr (w := w) (c := c) hm.1 (p := p)).1 (by omega))
    · omega
  · right
    obtain ⟨p, g1, g2, g3⟩ := arrive_spec hw hm (c := c) (by omega)
    rw [if_neg h0, g1]
    refine ⟨p, rfl, by omega, ?_, rfl, ?_, ((route_arr hm.1).2 _ g2).1, fun p' hp' => ?_⟩
    · obtain ⟨s, _, _, hr⟩ := g2
      exact hr.ge (along_ge hw)
    · have := arrive_len g1
      have := hw.n.rn
      omega
    · have hR := (route_arr hm.1).1 hp'
      refine ⟨?_, fun e => g3 p' (by rw [← e]; exact hR)⟩
      rcases arrives_spec hw hm (c := c) with ⟨e, _⟩ | ⟨_, _, _, hl⟩
      · omega
      · exact hl _ _ hR
end Go.Sx
