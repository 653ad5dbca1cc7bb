/- Own work: contracts of functions, used in the proof of a law. -/
import Derived.Test.YtljkgnicmlhipaaGreatSxWnv
import Derived.Test.YtljkgnicmlhipaaGreatSxWmv
import Derived.Test.YtljkgnicmlhipaaGreatSxMe
set_option linter.unusedVariables false
set_option linter.unusedSimpArgs false
namespace Go.Sx
open Go.Proofs
set_option maxRecDepth 10000

theorem tyEn {α : Type} {E : En α} {n : Nat} {t e : TypeId} {ds : List D} (ok : α → Prop) (hu : (Tryz.prog).underlying t = some (.slice e)) (hz : (Tryz.prog).cellsOf e ≠ 0) (he : ∀ m c, TyD Tryz.prog m e c → ∃ a, c = E.d a ∧ ok a) (h : TyD Tryz.prog n t ds) : ∃ l : List α, ds = [.sl (l.map E.d)] ∧ l.length ≤ 9223372036854775807 ∧ ∀ a ∈ l, ok a := by
 obtain ⟨es, m, hs, hle, hc⟩ := tySl hu hz h
 have hex : ∀ (es : List (List D)), (∀ c ∈ es, ∃ a, c = E.d a ∧ ok a) → ∃ l : List α, es = l.map E.d ∧ ∀ a ∈ l, ok a := by
  intro es
  induction es with
  | nil => intro _; exact ⟨[], rfl, fun a h => by cases h⟩
  | cons c es ih =>
   intro hc
   obtain ⟨a, rfl, ha⟩ := hc c (by simp)
   obtain ⟨l, rfl, hl⟩ := ih fun c h => hc c (by simp [h])
   refine ⟨a :: l, rfl, fun b hb => ?_⟩
   rcases List.mem_cons.1 hb with rfl | hb
   ·exact ha
   ·exact hl b hb
 obtain ⟨l, rfl, hl⟩ := hex es fun c hcm => he m c (hc c hcm).2
 have : maxLen ≤ 9223372036854775807 := by decide
 simp at hle
 exact ⟨l, hs, Nat.le_trans hle this, hl⟩
theorem tyInts {n : Nat} {ds : List D} (h : TyD Tryz.prog n 29 ds) : ∃ l : List Int, ds = [inD l] ∧ BL l := by
 obtain ⟨l, h1, h2, _⟩ := tyEn (E := enI) (fun _ => True) Fz.und_29 (by decide +kernel) (fun _ _ h => by obtain ⟨x, hx, _⟩ := tyInt Fz.und_3 h; exact ⟨x, hx, trivial⟩) h
 exact ⟨l, h1, h2⟩
theorem tyBools {n : Nat} {ds : List D} (h : TyD Tryz.prog n 22 ds) : ∃ l : List Bool, ds = [shD l] ∧ BL l := by
 obtain ⟨l, h1, h2, _⟩ := tyEn (E := enB) (fun _ => True) Fz.und_22 (by decide +kernel) (fun _ _ h => by obtain ⟨x, hx⟩ := tyBool Fz.und_4 h; exact ⟨x, hx, trivial⟩) h
 exact ⟨l, h1, h2⟩
theorem tySpan {n : Nat} {ds : List D} (h : TyD Tryz.prog n 99 ds) : ∃ r : Int × Int, ds = enS.d r := by
 obtain ⟨hl, m, hf⟩ := tySt Tryz.underlying99 (by decide +kernel) h
 obtain ⟨a, b, rfl⟩ := list2 (hl.trans (by kernel_rfl))
 obtain ⟨x, hx, _⟩ := tyInt Fz.und_3 (hf 0 _ rfl)
 obtain ⟨y, hy, _⟩ := tyInt Fz.und_3 (hf 1 _ rfl)
 cases hx; cases hy
 exact ⟨(x, y), rfl⟩
theorem tySpans {n : Nat} {ds : List D} (h : TyD Tryz.prog n 80 ds) : ∃ l : List (Int × Int), ds = [spD l] ∧ BL l := by
 obtain ⟨l, h1, h2, _⟩ := tyEn (E := enS) (fun _ => True) Fz.und_80 (by decide +kernel) (fun _ _ h => by obtain ⟨x, hx⟩ := tySpan h; exact ⟨x, hx, trivial⟩) h
 exact ⟨l, h1, h2⟩
theorem tyRelay {n : Nat} {ds : List D} (h : TyD Tryz.prog n 82 ds) : ∃ r : RelayW, ds = enRl.d r ∧ BL r.l := by
 obtain ⟨hl, m, hf⟩ := tySt Tryz.underlying82 (by decide +kernel) h
 obtain ⟨a, b, c, rfl⟩ : ∃ a b c, ds = [a, b, c] := by
  match ds, hl.trans (by kernel_rfl : _ = 3) with
  | [a, b, c], _ => exact ⟨a, b, c, rfl⟩
 obtain ⟨x, hx, _⟩ := tyInt Fz.und_3 (hf 0 _ rfl)
 obtain ⟨y, hy, _⟩ := tyInt Fz.und_3 (hf 1 _ rfl)
 obtain ⟨z, hz, hb⟩ := tySpans (hf 2 _ rfl)
 cases hx; cases hy; cases hz
 exact ⟨⟨x, y, z⟩, rfl, hb⟩
theorem tyLink {n : Nat} {ds : List D} (h : TyD Tryz.prog n 84 ds) : ∃ r : LinkW, ds = enLk.d r ∧ BL r.l := by
 obtain ⟨hl, m, hf⟩ := tySt Tryz.underlying84 (by decide +kernel) h
 obtain ⟨a, b, c, d, rfl⟩ := list4 (hl.trans (by kernel_rfl))
 obtain ⟨x, hx, _⟩ := tyInt Fz.und_3 (hf 0 _ rfl)
 obtain ⟨y, hy, _⟩ := tyInt Fz.und_3 (hf 1 _ rfl)
 obtain ⟨u, hu, _⟩ := tyInt Fz.und_3 (hf 2 _ rfl)
 obtain ⟨z, hz, hb⟩ := tySpans (hf 3 _ rfl)
 cases hx; cases hy; cases hu; cases hz
 exact ⟨⟨x, y, u, z⟩, rfl, hb⟩
theorem tyMsg {n : Nat} {ds : List D} (h : TyD Tryz.prog n 61 ds) : ∃ r : MsgW, ds = enMs.d r := by
 obtain ⟨hl, m, hf⟩ := tySt Tryz.underlying61 (by decide +kernel) h
 obtain ⟨a, b, c, d, rfl⟩ := list4 (hl.trans (by kernel_rfl))
 obtain ⟨x, hx, _⟩ := tyInt Fz.und_3 (hf 0 _ rfl)
 obtain ⟨y, hy, _⟩ := tyInt Fz.und_3 (hf 1 _ rfl)
 obtain ⟨z, hz⟩ := tyBool Fz.und_4 (hf 2 _ rfl)
 obtain ⟨u, hu, _⟩ := tyInt Fz.und_3 (hf 3 _ rfl)
 cases hx; cases hy; cases hu; cases hz
 exact ⟨⟨x, y, z, u⟩, rfl⟩
theorem tyMsgs {n : Nat} {ds : List D} (h : TyD Tryz.prog n 32 ds) : ∃ l : List MsgW, ds = [msD l] ∧ BL l := by
 obtain ⟨l, h1, h2, _⟩ := tyEn (E := enMs) (fun _ => True) Fz.und_32 (by decide +kernel) (fun _ _ h => by obtain ⟨x, hx⟩ := tyMsg h; exact ⟨x, hx, trivial⟩) h
 exact ⟨l, h1, h2⟩
theorem tySky {n : Nat} {ds : List D} (h : TyD Tryz.prog n 24 ds) : ∃ r : SkyW, ds = r.c ∧ BL r.sh := by
 obtain ⟨hl, m, hf⟩ := tySt Tryz.underlying24 (by decide +kernel) h
 obtain ⟨a, b, c, rfl⟩ : ∃ a b c, ds = [a, b, c] := by
  match ds, hl.trans (by kernel_rfl : _ = 3) with
  | [a, b, c], _ => exact ⟨a, b, c, rfl⟩
 obtain ⟨x, hx, _⟩ := tyInt Fz.und_3 (hf 0 _ rfl)
 obtain ⟨y, hy, _⟩ := tyInt Fz.und_3 (hf 1 _ rfl)
 obtain ⟨z, hz, hb⟩ := tyBools (hf 2 _ rfl)
 cases hx; cases hy; cases hz
 exact ⟨⟨x, y, z⟩, rfl, hb⟩
theorem tyNet {n : Nat} {ds : List D} (h : TyD Tryz.prog n 28 ds) : ∃ r : NetW, ds = r.c ∧ NetL r := by
 obtain ⟨hl, m, hf⟩ := tySt Tryz.underlying28 (by decide +kernel) h
 obtain ⟨a, b, rfl⟩ := list2 (hl.trans (by kernel_rfl))
 obtain ⟨x, hx, bx, ox⟩ := tyEn (E := enRl) (fun r => BL r.l) Fz.und_25 (by decide +kernel) (fun _ _ h => tyRelay h) (hf 0 _ rfl)
 obtain ⟨y, hy, bY, oy⟩ := tyEn (E := enLk) (fun r => BL r.l) Fz.und_26 (by decide +kernel) (fun _ _ h => tyLink h) (hf 1 _ rfl)
 cases hx; cases hy
 exact ⟨⟨x, y⟩, rfl, ⟨bx, bY, ox, oy⟩⟩
theorem tyWatch {n : Nat} {ds : List D} (h : TyD Tryz.prog n 31 ds) : ∃ w : WatchW, ds = w.c ∧ WatchL w := by
 obtain ⟨hl, m, hf⟩ := tySt Tryz.underlying31 (by decide +kernel) h
 obtain ⟨a0, a1, a2, a3, a4, a5, a6, a7, a8, a9, rfl⟩ : ∃ a0 a1 a2 a3 a4 a5 a6 a7 a8 a9, ds = [a0, a1, a2, a3, a4, a5, a6, a7, a8, a9] := by
  match ds, hl.trans (by kernel_rfl : _ = 10) with
  | [a0, a1, a2, a3, a4, a5, a6, a7, a8, a9], _ => exact ⟨a0, a1, a2, a3, a4, a5, a6, a7, a8, a9, rfl⟩
 obtain ⟨s, hs, ls⟩ := tySky (hf 0 _ rfl)
 obtain ⟨t, ht, lt⟩ := tyNet (hf 1 _ rfl)
 obtain ⟨x2, h2, _⟩ := tyInt Fz.und_3 (hf 2 _ rfl)
 obtain ⟨x3, h3, _⟩ := tyInt Fz.und_3 (hf 3 _ rfl)
 obtain ⟨x4, h4, _⟩ := tyInt Fz.und_3 (hf 4 _ rfl)
 obtain ⟨x5, h5, _⟩ := tyInt Fz.und_3 (hf 5 _ rfl)
 obtain ⟨x6, h6, l6⟩ := tyInts (hf 6 _ rfl)
 cases hs; cases ht; cases h2; cases h3; cases h4; cases h5; cases h6
 exact ⟨⟨s, t, x2, x3, x4, x5, x6⟩, rfl, ⟨ls, lt, l6⟩⟩

noncomputable def gWLN (ok : WatchW → List MsgW → Int → Prop) (rf : WatchW → List MsgW → Int → D) : List D → Option D := orcF (fun p : WatchW × List MsgW × Int => ok p.1 p.2.1 p.2.2) (fun p => [.agg p.1.c, msD p.2.1, .int .i64 p.2.2]) (fun p => rf p.1 p.2.1 p.2.2)
theorem gWLN_eq {ok : WatchW → List MsgW → Int → Prop} {rf : WatchW → List MsgW → Int → D} {w : WatchW} {l : List MsgW} {now : Int} (h : ok w l now) : gWLN ok rf [.agg w.c, msD l, .int .i64 now] = some (rf w l now) :=
 orcF_eq (ok := fun p : WatchW × List MsgW × Int => ok p.1 p.2.1 p.2.2) (dsf := fun p => [.agg p.1.c, msD p.2.1, .int .i64 p.2.2]) (rf := fun p => rf p.1 p.2.1 p.2.2) (w, l, now) h fun q hq => by
  simp only [List.cons.injEq, D.agg.injEq, D.int.injEq, and_true, true_and] at hq
  rw [WatchW.c_inj hq.1, En.map_inj (E := enMs) hq.2.1, hq.2.2]
def okL (w : WatchW) (l : List MsgW) (_ : Int) : Prop := WatchL w ∧ BL l
end Go.Sx
