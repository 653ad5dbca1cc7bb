/- Own work: contracts of functions, used in the proof of a law. -/
import Derived.Test.YtjhoplbdpdbgaaaGreatDoorSxC24z
set_option linter.unusedVariables false
set_option linter.unusedSimpArgs false
namespace Go.Sx
open Go.Proofs
set_option maxRecDepth 10000

/-! Decoding of seas, of strips and of looks -/
def decGa : List D → Option (Ga × List D)
  | .int .i64 a :: .int .i64 b :: .int .i64 c :: .sl r :: rest => match decRds r with
    | some rs => some (⟨a, b, c, rs⟩, rest)
    | none => none
  | _ => none
theorem decGa_eq (g : Ga) (r : List D) : decGa (gaC g r) = some (g, r) := by simp [decGa, decRds_map]
theorem decGa_inv {cs r : List D} {g : Ga} (h : decGa cs = some (g, r)) : cs = gaC g r := by
  unfold decGa at h
  split at h
  · split at h
    · rename_i h1
      cases h
      simp only [gaC]; rw [decRds_inv h1]
    · cases h
  · cases h
def decWxR (cs : List D) : Option (Wx × List D) :=
  match decGa cs with
  | some (a, r1) => match decGa r1 with
    | some (b, r2) => match decGa r2 with
      | some (c, r3) => match decGa r3 with
        | some (d, r4) => match decGa r4 with
          | some (e, r5) => some (⟨a, b, c, d, e⟩, r5)
          | none => none
        | none => none
      | none => none
    | none => none
  | none => none
theorem decWxR_eq (w : Wx) (r : List D) : decWxR (w.c r) = some (w, r) := by
  obtain ⟨a, b, c, d, e⟩ := w
  simp only [decWxR, Wx.c, decGa_eq]
theorem decWxR_inv {cs r : List D} {w : Wx} (h : decWxR cs = some (w, r)) : cs = w.c r := by
  unfold decWxR at h
  split at h
  · rename_i h1
    split at h
    · rename_i h2
      split at h
      · rename_i h3
        split at h
        · rename_i h4
          split at h
          · rename_i h5
            cases h
            rw [decGa_inv h1, decGa_inv h2, decGa_inv h3, decGa_inv h4, decGa_inv h5]
          · cases h
        · cases h
      · cases h
    · cases h
  · cases h
def decSeR : List D → Option (Se × D × List D)
  | .int .i64 w :: .int .i64 d :: .sl de :: r => match enS.decL de, decWxR r with
    | some depths, some (wx, .sl bo :: gd :: r2) => match enBt.decL bo, enGl.sl gd with
      | some boats, some glares => some (⟨w, d, depths, wx, boats, glares⟩, gd, r2)
      | _, _ => none
    | _, _ => none
  | _ => none
theorem decSeR_eq {s : Se} {gd : D} (h : enGl.sl gd = some s.glares) (r : List D) : decSeR (s.cr gd r) = some (s, gd, r) := by
  simp only [decSeR, En.decL_map, decWxR_eq, h]
theorem decSeR_inv {cs r : List D} {s : Se} {gd : D} (h : decSeR cs = some (s, gd, r)) : cs = s.cr gd r ∧ enGl.sl gd = some s.glares := by
  unfold decSeR at h
  split at h
  · split at h
    · rename_i h1 h2
      split at h
      · rename_i h3 h4
        cases h
        refine ⟨?_, h4⟩
        simp only [Se.cr]
        rw [En.decL_inv h1, decWxR_inv h2, En.decL_inv h3]
      · cases h
    · cases h
  · cases h
def seLen (s : Se) : Bool := wxLen s.w && (decide (s.depths.length ≤ 9223372036854775807) && (decide (s.boats.length ≤ 9223372036854775807) && decide (s.glares.length ≤ 9223372036854775807)))
theorem seLen_iff {s : Se} {gd : D} (hg : enGl.sl gd = some s.glares) : seLen s = true ↔ SeL s gd := by
  simp only [seLen, Bool.and_eq_true, decide_eq_true_eq, wxLen_iff]
  exact ⟨fun ⟨a, b, c, d⟩ => ⟨a, b, c, d, hg⟩, fun ⟨a, b, c, d, _⟩ => ⟨a, b, c, d⟩⟩
def decSe : List D → Option (Se × D)
  | [.agg cs] => match decSeR cs with
    | some (s, gd, []) => some (s, gd)
    | _ => none
  | _ => none
theorem decSe_eq {s : Se} {gd : D} (h : enGl.sl gd = some s.glares) : decSe [.agg (s.c gd)] = some (s, gd) := by
  simp only [decSe, decSeR_eq h]
theorem decSe_inv {ds : List D} {s : Se} {gd : D} (h : decSe ds = some (s, gd)) : ds = [.agg (s.c gd)] ∧ enGl.sl gd = some s.glares := by
  unfold decSe at h
  split at h
  · split at h
    · rename_i h1
      cases h
      obtain ⟨a, b⟩ := decSeR_inv h1
      exact ⟨by rw [a], b⟩
    · cases h
  · cases h
def gSe : List D → Option D := orc decSe (fun p => seLen p.1) fun p => .bool (okSe p.1)
theorem gSe_eq {s : Se} {gd : D} (h : SeL s gd) : gSe [.agg (s.c gd)] = some (.bool (okSe s)) := orc_eq (decSe_eq h.gd) ((seLen_iff h.gd).2 h)
def decSeSp : List D → Option (Se × D × Sp)
  | [.agg cs, .agg [.int .i64 x, .int .i64 y, .int .i64 w, .int .i64 c]] => match decSe [.agg cs] with
    | some (s, gd) => some (s, gd, ⟨x, y, w, c⟩)
    | none => none
  | _ => none
theorem decSeSp_eq {s : Se} {gd : D} (h : enGl.sl gd = some s.glares) (p : Sp) : decSeSp [.agg (s.c gd), .agg p.c] = some (s, gd, p) := by
  have := decSe_eq h
  simp only [decSeSp, this]
theorem decSeSp_inv {ds : List D} {s : Se} {gd : D} {p : Sp} (h : decSeSp ds = some (s, gd, p)) : ds = [.agg (s.c gd), .agg p.c] ∧ enGl.sl gd = some s.glares := by
  unfold decSeSp at h
  split at h
  · split at h
    · rename_i h1
      cases h
      obtain ⟨a, b⟩ := decSe_inv h1
      exact ⟨by simp only [List.cons.injEq, and_true] at a; rw [a], b⟩
    · cases h
  · cases h
def gSp : List D → Option D := orc decSeSp (fun q => bIn q.1.wide 1 12 && bIn q.1.deep 1 12) fun q => .bool (okSp q.1 q.2.2)
theorem okSe_sz {s : Se} (h : okSe s = true) : (1 ≤ s.wide ∧ s.wide ≤ 12) ∧ (1 ≤ s.deep ∧ s.deep ≤ 12) ∧ (s.depths.length : Int) = s.wide * s.deep := by
  simp only [okSe, okSz, Bool.and_eq_true, bIn, decide_eq_true_eq, beq_iff_eq] at h
  exact ⟨h.1.1, h.1.2.1, h.1.2.2⟩
theorem gSp_eq {s : Se} {gd : D} (h : SeL s gd) (hs : okSe s = true) (p : Sp) : gSp [.agg (s.c gd), .agg p.c] = some (.bool (okSp s p)) :=
  orc_eq (decSeSp_eq h.gd p) (by
    obtain ⟨h1, h2, _⟩ := okSe_sz hs
    simp [bIn]; omega)
abbrev o25 : List (FuncId × (List D → Option D)) := (59, gSe) :: (14, gSe) :: (63, gSp) :: (18, gSp) :: o21
theorem gSp_okp {f : FuncId} (h : ∀ (s : Se) (p : Sp) (gd : D), (∀ m, D.lt m gd = true) → (∀ h, view h gd = gd) → (1 ≤ s.wide ∧ s.wide ≤ 12) → (1 ≤ s.deep ∧ s.deep ≤ 12) → Pure Tryz.prog f [.agg (s.c gd), .agg p.c] (.bool (okSp s p))) (ds : List D) (r : D) (hr : gSp ds = some r) : Pure Tryz.prog f ds r :=
  orc_ok (fun ds q hd hk => by
    obtain ⟨s, gd, p⟩ := q
    obtain ⟨rfl, hg⟩ := decSeSp_inv hd
    simp only [Bool.and_eq_true, bIn, decide_eq_true_eq] at hk
    exact h s p gd (En.lt hg) (fun hp => En.view hg hp) hk.1 hk.2) ds r hr
theorem o25_ok : OkO Tryz.prog (mkO o25) :=
  mkO_ok (orc_ok fun ds q hd hk => by obtain ⟨s, gd⟩ := q; obtain ⟨rfl, hg⟩ := decSe_inv hd; exact sea_t s gd ((seLen_iff hg).1 hk)) <|
  mkO_ok (orc_ok fun ds q hd hk => by obtain ⟨s, gd⟩ := q; obtain ⟨rfl, hg⟩ := decSe_inv hd; exact rsea_t s gd ((seLen_iff hg).1 hk)) <|
  mkO_ok (gSp_okp strip_t) <| mkO_ok (gSp_okp rstrip_t) o21_ok

/-! All gauges have a course -/
def runG (g : Ga) : Bool := !(clashG g).2.2
def soundW (w : Wx) : Bool := runG w.tide && (runG w.east && (runG w.north && (runG w.wave && runG w.swell)))
structure Lk where
  s : Se
  gd : D
  p : Sp
  n : Nd
  t : Int
abbrev Lk.c (l : Lk) : List D := l.s.cr l.gd [.int .i64 l.p.x, .int .i64 l.p.y, .int .i64 l.p.way, .int .i64 l.p.cells, .int .i64 l.n.draught, .int .i64 l.n.run, .int .i64 l.n.cross, .int .i64 l.n.tail, .int .i64 l.n.calm, .int .i64 l.n.wave, .int .i64 l.n.swell, .int .i64 l.t]
structure WxOk (w : Wx) : Prop where
  tide : gaOk w.tide = true
  east : gaOk w.east = true
  north : gaOk w.north = true
  wave : gaOk w.wave = true
  swell : gaOk w.swell = true
theorem okWx_gaOk {w : Wx} (h : okWx w = true) : WxOk w := by
  simp only [okWx, okB2, Bool.and_eq_true] at h
  exact ⟨h.1.1, h.2.1.1, h.2.2.1.1, h.2.2.2.1.1, h.2.2.2.2.1⟩
end Go.Sx
