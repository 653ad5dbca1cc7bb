/- Own work: contracts of functions, used in the proof of a law. -/
import Derived.Test.YtljkgnicmlhipaaSxW66w
set_option linter.unusedVariables false
set_option linter.unusedSimpArgs false
namespace Go.Sx
set_option maxRecDepth 10000

theorem aF_mono {s : SkyW} (hs : SkyOk s) {p q : Int → Bool} (h : ∀ c, p c = true → q c = true) (c : Int) (hc : aF s p c = true) : aF s q c = true := by
 rw [aF_iff hs] at hc ⊢
 rcases hc with hc | ⟨h1, k, h2, h3, h4⟩
 ·exact .inl (h c hc)
 ·exact .inr ⟨h1, k, h2, h k h3, h4⟩
theorem pl_mono {w w' : WatchW} (hs : SkyOk w.s) (e1 : w'.s = w.s) (e2 : w'.cell = w.cell) (e3 : w'.min = w.min) (e4 : w'.endu = w.endu) {kn kn' : List MsgW} {now : Int}
  (hsd : ∀ t c d, saidB kn' t c d = true → saidB kn t c d = true) {B : Int} (hsl : ∀ t c, w.min ≤ t → t ≤ B → silentB w kn now t c = true → silentB w' kn' now t c = true) : ∀ (n : Nat) (_ : w.min + n ≤ B) (c : Int),
  ((plF w' kn' now n).1 c = true → (plF w kn now n).1 c = true) ∧ ((plF w' kn' now n).2 c = true → (plF w kn now n).2 c = true)
 | 0, _, c => by
  simp only [plF, e2, e3, Bool.and_eq_true]
  exact ⟨fun h => ⟨h.1, hsd _ _ _ h.2⟩, fun h => h⟩
 | n + 1, hB, c => by
  have ih := pl_mono hs e1 e2 e3 e4 hsd hsl n (by omega)
  simp only [plF, e1, e3, e4, Bool.and_eq_true, Bool.or_eq_true, Bool.not_eq_true']
  refine ⟨fun ⟨⟨⟨h1, h2⟩, h3⟩, h4⟩ => ⟨⟨⟨h1, aF_mono hs (fun c => (ih c).1) c h2⟩, hsd _ _ _ h3⟩, ?_⟩, fun ⟨h1, h2⟩ => ⟨h1.imp (ih c).1 (ih c).2, hsd _ _ _ h2⟩⟩
  cases q : silentB w kn now (w.min + ((n : Int) + 1)) c
  ·rfl
  ·rw [hsl _ _ (by omega) (by omega) q] at h4; cases h4
theorem known_app (l : List MsgW) (m : MsgW) (now : Int) : knownL (l ++ [m]) now = knownL l now ++ if knB now m = true then [m] else [] := by
 unfold knownL
 rw [List.filter_append]
 congr 1
 by_cases h : knB now m = true
 ·simp [h]
 ·simp [h]
theorem more_mono {w : WatchW} (hs : SkyOk w.s) {l : List MsgW} {m : MsgW} {now : Int} (hm : sendsB w m.t = false) (n : Nat) (c : Int) :
  ((plF w (knownL (l ++ [m]) now) now n).1 c = true → (plF w (knownL l now) now n).1 c = true) ∧ ((plF w (knownL (l ++ [m]) now) now n).2 c = true → (plF w (knownL l now) now n).2 c = true) := by
 rw [known_app]
 split
 ·refine pl_mono (w := w) (w' := w) hs rfl rfl rfl rfl (B := w.min + n) (fun t c d h => ?_) (fun t c _ _ h => ?_) n (Int.le_refl _) c
  ·simp only [saidB, List.any_append, Bool.not_eq_true', Bool.or_eq_false_iff] at h ⊢
   exact h.1
  ·simp only [silentB, List.any_append, List.any_cons, List.any_nil, Bool.or_false] at h ⊢
   simp only [Bool.and_eq_true, Bool.not_eq_true', Bool.or_eq_false_iff, Bool.not_eq_false'] at h ⊢
   refine ⟨⟨h.1.1, h.1.2, ?_⟩, h.2⟩
   simp only [seenB, Bool.and_eq_false_iff, decide_eq_false_iff_not]
   left
   rintro rfl
   rw [hm] at h; simp at h
 ·rw [List.append_nil]; exact ⟨id, id⟩
def setR (w : WatchW) (rl : List RelayW) : WatchW := { w with n := { w.n with r := rl } }
theorem setR_b {w : WatchW} (h : watchB w = true) {rl : List RelayW} (hl : rl.length = w.n.r.length) (hr : ∀ r ∈ rl, relayB w.s.sh.length r = true) : watchB (setR w rl) = true := by
 simp only [watchB, netB, Bool.and_eq_true] at h ⊢
 simp only [setR, hl]
 exact ⟨h.1, ⟨List.all_eq_true.2 hr, h.2.1.2⟩, h.2.2⟩
theorem relay_of {w : WatchW} (h : watchB w = true) : ∀ r ∈ w.n.r, relayB w.s.sh.length r = true := by
 simp only [watchB, netB, Bool.and_eq_true] at h
 exact List.all_eq_true.1 h.2.1.1
theorem arrives_more {w : WatchW} (hw : WatchOk w) {rl : List RelayW} (hw' : WatchOk (setR w rl)) (hl : rl.length = w.n.r.length) {c m : Int} (hm : 0 ≤ m ∧ m ≤ 1440) (hh : ∀ i, hAt w.s w.n.r c m i = true → hAt w.s rl c m i = true)
  (h0 : 0 ≤ arrivesI w c m) : 0 ≤ arrivesI (setR w rl) c m ∧ arrivesI (setR w rl) c m ≤ arrivesI w c m := by
 rcases arrives_spec hw hm (c := c) with ⟨e, _⟩ | ⟨_, _, ⟨p, s, h1, h2, h3⟩, _⟩
 ·omega
 have hr : RouteP (setR w rl) c m p (arrivesI w c m) := by
  refine ⟨s, by simp only [setR]; omega, hh s h2, ?_⟩
  simp only [setR, hl]
  exact h3
 rcases arrives_spec hw' hm (c := c) with ⟨_, e⟩ | ⟨g1, _, _, g2⟩
 ·exact absurd hr (e _ _)
 ·exact ⟨g1, g2 _ _ hr⟩
theorem wide_mono {w : WatchW} (hw : WatchOk w) {rl : List RelayW} (hw' : WatchOk (setR w rl)) (hl : rl.length = w.n.r.length) (hh : ∀ c m i, hAt w.s w.n.r c m i = true → hAt w.s rl c m i = true) {now : Int} (hn : now ≤ 1440) (n : Nat) (hnn : w.min + n ≤ 1440) (c : Int) :
  ((plF (setR w rl) [] now n).1 c = true → (plF w [] now n).1 c = true) ∧ ((plF (setR w rl) [] now n).2 c = true → (plF w [] now n).2 c = true) := by
 have hmi := hw.m
 refine pl_mono (w := w) (w' := setR w rl) hw.s rfl rfl rfl rfl (B := 1440) (fun _ _ _ h => h) (fun t c h1 h2 h => ?_) n hnn c
 have hs : sendsB (setR w rl) t = sendsB w t := rfl
 simp only [silentB, hs, Bool.and_eq_true, decide_eq_true_eq] at h ⊢
 have := arrives_more hw hw' hl ⟨by omega, h2⟩ (hh c t) h.2.1
 exact ⟨h.1, by omega, by omega⟩
theorem deaf_arrives {w : WatchW} {rl : List RelayW} (hw : WatchOk (setR w rl)) (hd : ∀ r ∈ rl, r.l = []) {c m : Int} (hm : 0 ≤ m ∧ m ≤ 1440) : arrivesI (setR w rl) c m = -1 := by
 rcases arrives_spec hw hm (c := c) with ⟨e, _⟩ | ⟨_, _, ⟨p, s, h1, h2, _⟩, _⟩
 ·exact e
 ·simp only [setR, hAt] at h2
  cases q : rl[s]? with
  | none => rw [q] at h2; cases h2
  | some r =>
   rw [q] at h2
   simp only [hearsB, hasB, hd r (List.mem_of_getElem? q), List.any_nil, Bool.and_false] at h2
   cases h2
theorem deaf_pl {w : WatchW} (hc : freeB w.s.sh w.cell = true) {rl : List RelayW} (hw : WatchOk (setR w rl)) (hd : ∀ r ∈ rl, r.l = []) (now : Int) : ∀ n : Nat, w.min + n ≤ 1440 →
  (∀ c, (plF (setR w rl) [] now n).1 c = (!(decide (w.endu < (n : Int))) && itF w.s (oneF w.cell) n c)) ∧ ∀ c, (plF (setR w rl) [] now n).2 c = (decide (n ≠ 0) && itF w.s (oneF w.cell) (min (n - 1) w.endu.toNat) c)
 | 0, _ => by
  have hu := hw.u
  have hu : 1 ≤ w.endu := hu.1
  have e : decide (w.endu < ((0 : Nat) : Int)) = false := by simp; omega
  refine ⟨fun c => ?_, fun c => ?_⟩
  ·rw [e]
   simp [plF, setR, saidB, itF, oneF]
   rfl
  ·simp [plF]
 | n + 1, hB => by
  have hmi : 0 ≤ w.min := hw.m.1
  have hu : 1 ≤ w.endu := hw.u.1
  obtain ⟨ih1, ih2⟩ := deaf_pl hc hw hd now n (by omega)
  have hsil : ∀ c, silentB (setR w rl) [] now (w.min + ((n : Int) + 1)) c = false := fun c => by
   have := deaf_arrives hw hd (c := c) (m := w.min + ((n : Int) + 1)) ⟨by omega, by omega⟩
   simp only [silentB, this]
   simp
  have hsd : ∀ t c d, saidB [] t c d = true := fun _ _ _ => rfl
  have e2 : ((n + 1 : Nat) : Int) = (n : Int) + 1 := by omega
  refine ⟨fun c => ?_, fun c => ?_⟩
  ·have hsil := hsil c
   simp only [plF, hsd, Bool.and_true]
   rw [show (setR w rl).min = w.min from rfl, hsil, show (setR w rl).endu = w.endu from rfl, show (setR w rl).s = w.s from rfl, e2]
   by_cases q : w.endu < (n : Int) + 1
   ·simp [q]
   ·have e3 : (plF (setR w rl) [] now n).1 = itF w.s (oneF w.cell) n := funext fun c => by
     rw [ih1, decide_eq_false (by omega)]; simp
    rw [e3]
    simp only [Bool.not_false, Bool.and_true]
    rfl
  ·simp only [plF, hsd, Bool.and_true]
   rw [ih1, ih2]
   rw [decide_eq_true (by omega : n + 1 ≠ 0), Bool.true_and, Nat.add_sub_cancel]
   by_cases q : w.endu < (n : Int)
   ·rw [decide_eq_true q]
    have e4 : min (n - 1) w.endu.toNat = min n w.endu.toNat := by omega
    have e5 : n ≠ 0 := by omega
    rw [e4]; simp [e5]
   ·rw [decide_eq_false q]
    have e4 : min n w.endu.toNat = n := by omega
    rw [e4]
    have e6 : min (n - 1) w.endu.toNat = n - 1 := by omega
    rw [e6]
    cases h : itF w.s (oneF w.cell) (n - 1) c
    ·simp
    ·rw [itF_mono w.s (oneF w.cell) (by omega : n - 1 ≤ n) c h]; simp
end Go.Sx
