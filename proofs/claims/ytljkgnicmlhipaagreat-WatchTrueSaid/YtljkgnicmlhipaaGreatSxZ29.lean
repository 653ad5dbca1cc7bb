/- Sx: calls that hand out slices of the caller's own. Own work. -/
import Derived.Test.YtljkgnicmlhipaaGreatSxMi
set_option linter.unusedVariables false
set_option linter.unusedSimpArgs false
namespace Go.Sx
open Go.RowKit (Below)
variable {P : Program} {X : Nat → Prop} {n0 : Nat} {ro : Option Nat}
def Cx.takeArr (k : Cx) (w' : World) (v : Value) (ty : TypeId) (sz : Nat) (es : List (List D)) : Cx :=
 { w := w', β := k.β, sv := fun i => if i = k.nid then v else k.sv i, h := (k.nid, .arr ty sz es) :: k.h, nid := k.nid + 1 }
section
variable {k : Cx} {w' : World} {v : Value} {ty : TypeId} {sz : Nat} {es : List (List D)}
theorem takeArr_own (id : Nat) : (k.takeArr w' v ty sz es).own id = if id = k.nid then slBlk v else k.own id := by
 simp only [Cx.own, Cx.takeArr, hget]
 by_cases h : id = k.nid
 ·simp [h, ownOf]
 ·simp only [if_neg h]
  cases hq : hget k.h id with
  | none => simp [ownOf]
  | some blk => cases blk <;> simp [ownOf, h]
theorem takeArr_le (hb : Below k.w.heap.size k.w w') (hc : ∀ b, slBlk v = some b → k.w.heap.size ≤ b) : Le k (k.takeArr w' v ty sz es) where
 nid := Nat.le_succ _
 os := hb.os
 tape := hb.tape
 output := hb.output
 size := hb.size
 β := fun id hid => rfl
 arr := fun id hid m' hm' => by
  simp only [Cx.takeArr, hget] at hm' ⊢
  rw [if_neg (by omega)] at hm'
  rw [if_neg (by omega)]
  exact ⟨m', hm', Nat.le_refl _, fun _ => rfl⟩
 heap := fun b hb' _ => hb.block b hb'
 mb := fun b hb' ⟨id, hid⟩ => by
  rw [takeArr_own] at hid
  by_cases h : id = k.nid
  ·rw [if_pos h] at hid; have := hc b hid; omega
  ·rw [if_neg h] at hid; exact ⟨id, hid⟩
theorem takeArr_good (hg : Good X k) (hb : Below k.w.heap.size k.w w') (hc : ∀ b, slBlk v = some b → k.w.heap.size ≤ b ∧ b < w'.heap.size)
  (hok : Le k (k.takeArr w' v ty sz es) → BlkOk X (k.takeArr w' v ty sz es) k.nid (.arr ty sz es)) : Good X (k.takeArr w' v ty sz es) where
 key := fun id blk h => by
  simp only [Cx.takeArr, hget] at h ⊢
  by_cases hi : id = k.nid
  ·omega
  ·rw [if_neg hi] at h; have := hg.key id blk h; omega
 inj := fun i j b hi hj => by
  rw [takeArr_own] at hi hj
  by_cases h1 : i = k.nid <;> by_cases h2 : j = k.nid
  ·omega
  ·rw [if_pos h1] at hi; rw [if_neg h2] at hj
   have := (hg.lt j b hj).1; have := hc b hi; omega
  ·rw [if_neg h1] at hi; rw [if_pos h2] at hj
   have := (hg.lt i b hi).1; have := hc b hj; omega
  ·rw [if_neg h1] at hi; rw [if_neg h2] at hj; exact hg.inj i j b hi hj
 lt := fun i b hb' => by
  rw [takeArr_own] at hb'
  have hs := hb.size
  by_cases h1 : i = k.nid
  ·rw [if_pos h1] at hb'
   have := hc b hb'
   exact ⟨this.2, fun hx => absurd (hg.xlt _ hx) (by omega)⟩
  ·rw [if_neg h1] at hb'; have := hg.lt i b hb'; exact ⟨Nat.lt_of_lt_of_le this.1 hs, this.2⟩
 xlt := fun b hb' => Nat.lt_of_lt_of_le (hg.xlt b hb') hb.size
 ok := fun id blk h => by
  have hle := takeArr_le (ty := ty) (sz := sz) (es := es) hb fun b h => (hc b h).1
  by_cases hi : id = k.nid
  ·simp only [Cx.takeArr, hget, if_pos hi] at h
   obtain rfl := Option.some.inj h
   subst hi
   exact hok hle
  ·simp only [Cx.takeArr, hget, if_neg hi] at h
   exact (hg.ok id blk h).le hle rfl (by simp [Cx.takeArr, hi]) fun b hb' => hb.block _ (hg.lt id b (by rw [Cx.own, h]; exact hb')).1
theorem rel_takenA : Rel ((k.takeArr w' v ty sz es).R X) (k.nid + 1) v (.osl k.nid es.length) := by
 refine Rel.osl (R := (k.takeArr w' v ty sz es).R X) (k.nid + 1) k.nid es.length v (Nat.lt_succ_self _) fun m hm => ?_
 simp only [Cx.R, Cx.takeArr, hget, if_true, lnOf] at hm ⊢
 simp at hm
 exact ⟨by omega, fun _ => by first | rfl | trivial⟩
end
def PureA (P : Program) (f : FuncId) (ds : List D) (ty : TypeId) (sz : Nat) (es : List (List D)) : Prop := ACall P f ds [] 0 fun r h' _ => ∃ i, r = .osl i es.length ∧ hget h' i = some (.arr ty sz es)
theorem acall_borrowA {f : FuncId} {ds : List D} {ty : TypeId} {sz : Nat} {es : List (List D)} {h : H} {nid : Nat} (hp : PureA P f (ds.map (view h)) ty sz es) (hv : ∀ e ∈ es, ∀ d ∈ e, d.flat = true) :
  ACall P f ds h nid fun r' h' nid' => r' = .osl nid es.length ∧ h' = (nid, .arr ty sz es) :: h ∧ nid' = nid + 1 := by
 refine ⟨hp.1, fun X k vs hh hn hg hrel => ?_⟩
 subst hh; subst hn
 refine (hp.2 X k.sub vs rfl rfl (good_sub hg.xlt) ⟨by simp [hrel.1], fun i v d a b => ?_⟩).mono ?_
 ·rw [List.getElem?_map] at b
  cases hd : ds[i]? with
  | none => simp [hd] at b
  | some d' => simp [hd] at b; subst b; exact (hrel.2 i v d' a hd).view hg
 ·rintro e w' ⟨v, kc, r', rfl, rfl, ⟨i, rfl, hi⟩, hgc, hlec, hrc⟩
  have hB : Below k.w.heap.size k.w kc.w := ⟨hlec.os, hlec.tape, hlec.output, hlec.size, fun b hb => hlec.heap b hb (sub_mut k b)⟩
  cases hrc with
  | osl _ _ _ _ hlt hln =>
   have hvs : v = kc.sv i := (hln es.length (by simp only [Cx.R]; rw [hi]; rfl)).2 rfl
   obtain ⟨hsz, hcs⟩ := hgc.ok i _ hi
   have hown : kc.own i = slBlk v := by rw [Cx.own, hi, hvs]; rfl
   have hge : ∀ b, slBlk v = some b → k.w.heap.size ≤ b ∧ b < kc.w.heap.size := fun b hb => by
    rw [← hown] at hb
    exact ⟨Nat.le_of_not_lt fun hlt => sub_mut k _ (hlec.mb _ hlt ⟨i, hb⟩), (hgc.lt i _ hb).1⟩
   refine ⟨_, k.takeArr kc.w v ty sz es, .osl k.nid es.length, rfl, rfl, ⟨rfl, rfl, rfl⟩, takeArr_good hg hB hge fun _ => ?_, takeArr_le hB fun b h => (hge b h).1, rel_takenA⟩
   refine ⟨hsz, ?_⟩
   rcases hcs with ⟨h1, h2⟩ | ⟨b, off, cap, vs', h1, h2, h3, h4, h5⟩
   ·left
    exact ⟨by simp [Cx.takeArr, hvs, h1], h2⟩
   ·right
    refine ⟨b, off, cap, vs', by simp [Cx.takeArr, hvs, h1], h2, h3, h4, fun i e j d v a1 a2 a3 => ?_⟩
    exact (h5 i e j d v a1 a2 a3).flat (hv e (List.mem_of_getElem? a1) d (List.mem_of_getElem? a2))
end Go.Sx
