/- Own work: a calculus of contracts for the programs of this kit: parts SxNa, SxNb, SxNd, SxNe, SxNf. -/
import Derived.Lib.ItoaNum
import Derived.Lib.AtoiAll
import Derived.Test.YtjhoplbdpdbgaaaGreatDoorSxMk
import Derived.Lib.Strings
import Derived.Lib.SplitLaws
set_option linter.unusedVariables false
set_option linter.unusedSimpArgs false
namespace Go.Sx
open Go.Lib

abbrev Bs := List UInt8
def digB (b : UInt8) : Bool := decide (48 ≤ b.toNat) && decide (b.toNat ≤ 57)
def valF (n : Nat) (l : Bs) : Nat := l.foldl (fun n b => 10 * n + (b.toNat - 48)) n
def valB (l : Bs) : Nat := valF 0 l
theorem ofNat_dig {d : Nat} (h : d < 10) : (UInt8.ofNat (48 + d)).toNat = 48 + d := by
 rw [UInt8.toNat_ofNat']; omega
theorem dig_eta {b : UInt8} (h : digB b = true) : UInt8.ofNat (48 + (b.toNat - 48)) = b := by
 simp only [digB, Bool.and_eq_true, decide_eq_true_eq] at h
 rw [show 48 + (b.toNat - 48) = b.toNat by omega]
 exact UInt8.ofNat_toNat
theorem dig_of {d : Nat} (h : d < 10) : digB (UInt8.ofNat (48 + d)) = true := by
 simp only [digB, ofNat_dig h, Bool.and_eq_true, decide_eq_true_eq]; omega
theorem dec_small {u : Nat} (h : u < 10) : decDigits u = [UInt8.ofNat (48 + u)] := decDigits_one h
theorem dec_big {u : Nat} (h : ¬ u < 10) : decDigits u = decDigits (u / 10) ++ [UInt8.ofNat (48 + u % 10)] := by rw [decDigits, dif_neg h]
theorem dec_all (u : Nat) : (decDigits u).all digB = true := by
 induction u using Nat.strongRecOn with
 | _ u ih =>
  by_cases h : u < 10
  ·rw [dec_small h]; simp only [List.all_cons, List.all_nil, dig_of h, Bool.and_true]
  ·rw [dec_big h, List.all_append, ih (u / 10) (by omega)]
   simp only [List.all_cons, List.all_nil, dig_of (Nat.mod_lt u (by omega : 0 < 10)), Bool.and_true]
theorem valF_app (n : Nat) (l r : Bs) : valF n (l ++ r) = valF (valF n l) r := by simp [valF]
theorem dec_val (u : Nat) : valB (decDigits u) = u := by
 induction u using Nat.strongRecOn with
 | _ u ih =>
  by_cases h : u < 10
  ·rw [dec_small h]; simp only [valB, valF, List.foldl_cons, List.foldl_nil, ofNat_dig h]; omega
  ·have h1 := ih (u / 10) (by omega)
   unfold valB at h1 ⊢
   rw [dec_big h, valF_app, h1]
   simp only [valF, List.foldl_cons, List.foldl_nil, ofNat_dig (Nat.mod_lt u (by omega : 0 < 10))]
   omega
theorem dec_ne (u : Nat) : decDigits u ≠ [] := by
 by_cases h : u < 10
 ·rw [dec_small h]; simp
 ·rw [dec_big h]; simp
theorem dec_head {u : Nat} (h0 : u ≠ 0) : (decDigits u).head? ≠ some 48 := by
 induction u using Nat.strongRecOn with
 | _ u ih =>
  by_cases h : u < 10
  ·rw [dec_small h]
   intro e
   have := congrArg UInt8.toNat (Option.some.inj e)
   rw [ofNat_dig h] at this
   have e2 : (48 : UInt8).toNat = 48 := rfl
   omega
  ·rw [dec_big h]
   have := ih (u / 10) (by omega) (by omega)
   have hne := dec_ne (u / 10)
   cases hd : decDigits (u / 10) with
   | nil => exact absurd hd hne
   | cons a r => rw [hd] at this; simpa using this
theorem dec_len : ∀ (k u : Nat), u < 10 ^ (k + 1) → (decDigits u).length ≤ k + 1
 | 0, u, h => by rw [dec_small (by simpa using h)]; simp
 | k + 1, u, h => by
  by_cases h1 : u < 10
  ·rw [dec_small h1]; simp
  ·rw [dec_big h1]
   have := dec_len k (u / 10) (by rw [Nat.pow_succ] at h; omega)
   simp; omega
theorem valF_lt : ∀ (l : Bs) (n : Nat), l.all digB = true → valF n l < (n + 1) * 10 ^ l.length
 | [], n, _ => by simp [valF]
 | b :: r, n, h => by
  simp only [List.all_cons, Bool.and_eq_true] at h
  have h1 := valF_lt r (10 * n + (b.toNat - 48)) h.2
  have hb := h.1
  simp only [digB, Bool.and_eq_true, decide_eq_true_eq] at hb
  have e : valF n (b :: r) = valF (10 * n + (b.toNat - 48)) r := rfl
  rw [e, List.length_cons, Nat.pow_succ]
  refine Nat.lt_of_lt_of_le h1 ?_
  rw [show (n + 1) * (10 ^ r.length * 10) = ((n + 1) * 10) * 10 ^ r.length by rw [Nat.mul_assoc, Nat.mul_comm 10]]
  exact Nat.mul_le_mul_right _ (by omega)
theorem val_dec : ∀ (n : Nat) (l : Bs), l.length = n → l ≠ [] → l.all digB = true → (l.head? = some 48 → l.length = 1) → decDigits (valB l) = l := by
 intro n
 induction n with
 | zero => intro l h1 h2; exact absurd (List.length_eq_zero_iff.1 h1) h2
 | succ n ih =>
  intro l h1 h2 h3 h4
  obtain ⟨r, b, rfl⟩ : ∃ r b, l = r ++ [b] := ⟨l.dropLast, l.getLast h2, (List.dropLast_concat_getLast h2).symm⟩
  rw [List.all_append, Bool.and_eq_true] at h3
  have hb : digB b = true := by simpa using h3.2
  have hbb := hb
  simp only [digB, Bool.and_eq_true, decide_eq_true_eq] at hbb
  have ev : valB (r ++ [b]) = 10 * valB r + (b.toNat - 48) := by unfold valB; rw [valF_app]; rfl
  by_cases hr : r = []
  ·subst hr
   rw [ev, dec_small (by simp [valB, valF]; omega)]
   have : 10 * valB [] + (b.toNat - 48) = b.toNat - 48 := by simp [valB, valF]
   rw [this, dig_eta hb]; rfl
  ·have hlen : (r ++ [b]).length ≠ 1 := by
    have := List.length_pos_iff.2 hr
    simp; omega
   have hhead : (r ++ [b]).head? = r.head? := by
    cases r with
    | nil => exact absurd rfl hr
    | cons a r => rfl
   have hn48 : r.head? ≠ some 48 := fun e => hlen (h4 (by rw [hhead]; exact e))
   have ih' := ih r (by simpa using h1) hr h3.1 (fun e => absurd e hn48)
   have hv : valB r ≠ 0 := fun e => by
    rw [e] at ih'
    rw [dec_small (by omega)] at ih'
    rw [← ih'] at hn48
    exact hn48 rfl
   rw [ev, dec_big (by omega), show (10 * valB r + (b.toNat - 48)) / 10 = valB r by omega, show (10 * valB r + (b.toNat - 48)) % 10 = b.toNat - 48 by omega, ih', dig_eta hb]

def magB (neg : Bool) (l : Bs) : Option Nat := if l = [] ∨ 10 < l.length ∨ (l.head? = some 48 ∧ (1 < l.length ∨ neg = true)) then none else if l.all digB = true then some (valB l) else none
def numB (l : Bs) : Option Int := if l.head? = some 45 ∧ 1 < l.length then (magB true l.tail).map fun (n : Nat) => -(n : Int) else (magB false l).map fun (n : Nat) => (n : Int)
theorem mag_some {neg : Bool} {l : Bs} {u : Nat} (h : magB neg l = some u) : l ≠ [] ∧ l.length ≤ 10 ∧ (l.head? = some 48 → l.length = 1 ∧ neg = false) ∧ l.all digB = true ∧ u = valB l := by
 unfold magB at h
 split at h
 ·cases h
 ·rename_i hc
  split at h
  ·rename_i hd
   cases h
   simp only [not_or, not_and, Bool.not_eq_true] at hc
   refine ⟨hc.1, by omega, fun e => ?_, hd, rfl⟩
   have := hc.2.2 e
   have hp := List.length_pos_iff.2 hc.1
   exact ⟨by omega, this.2⟩
  ·cases h
theorem mag_of {neg : Bool} {u : Nat} (hu : u < 10 ^ 10) (h0 : neg = true → u ≠ 0) : magB neg (decDigits u) = some u := by
 have hl := dec_len 9 u hu
 have hne := dec_ne u
 unfold magB
 rw [if_neg, if_pos (dec_all u), dec_val]
 simp only [not_or, not_and, Bool.not_eq_true]
 refine ⟨hne, by omega, fun e => ?_⟩
 by_cases hz : u = 0
 ·subst hz
  rw [dec_small (by omega)]
  refine ⟨by simp, ?_⟩
  cases neg
  ·rfl
  ·exact absurd rfl (h0 rfl)
 ·exact absurd e (dec_head hz)
theorem dig_ne45 {l : Bs} (h : l.all digB = true) : l.head? ≠ some 45 := by
 intro e
 cases l with
 | nil => cases e
 | cons a r =>
  simp only [List.head?_cons, Option.some.injEq] at e
  subst e
  simp [digB] at h
theorem num_iff (l : Bs) (n : Int) : numB l = some n ↔ l = itoa n ∧ n.natAbs < 10 ^ 10 := by
 constructor
 ·intro h
  unfold numB at h
  split at h
  ·rename_i hc
   obtain ⟨t, rfl⟩ : ∃ t, l = 45 :: t := by
    cases l with
    | nil => simp at hc
    | cons a t => simp at hc; exact ⟨t, by rw [hc.1]⟩
   simp only [List.tail_cons, Option.map_eq_some_iff] at h
   obtain ⟨v, h1, rfl⟩ := h
   obtain ⟨h2, h3, h4, h5, rfl⟩ := mag_some h1
   have h6 := val_dec _ t rfl h2 h5 fun e => (h4 e).1
   have hv : valB t ≠ 0 := fun e => by
    rw [e, dec_small (by omega)] at h6
    have := (h4 (by rw [← h6]; rfl)).2
    cases this
   have h7 := valF_lt t 0 h5
   have h8 : 10 ^ t.length ≤ 10 ^ 10 := Nat.pow_le_pow_right (by omega) h3
   refine ⟨?_, ?_⟩
   ·unfold itoa
    rw [if_pos (by omega), Int.natAbs_neg, Int.natAbs_natCast, h6]
   ·rw [Int.natAbs_neg, Int.natAbs_natCast]
    unfold valB; omega
  ·simp only [Option.map_eq_some_iff] at h
   obtain ⟨v, h1, rfl⟩ := h
   obtain ⟨h2, h3, h4, h5, rfl⟩ := mag_some h1
   have h6 := val_dec _ l rfl h2 h5 fun e => (h4 e).1
   have h7 := valF_lt l 0 h5
   have h8 : 10 ^ l.length ≤ 10 ^ 10 := Nat.pow_le_pow_right (by omega) h3
   refine ⟨?_, ?_⟩
   ·unfold itoa
    rw [if_neg (by omega), Int.toNat_natCast, h6]
   ·rw [Int.natAbs_natCast]
    unfold valB; omega
 ·rintro ⟨rfl, h⟩
  unfold numB itoa
  by_cases h0 : n < 0
  ·rw [if_pos h0]
   have hp := List.length_pos_iff.2 (dec_ne n.natAbs)
   rw [if_pos ⟨rfl, by simp; omega⟩, List.tail_cons, mag_of h (fun _ => by omega)]
   simp; omega
  ·rw [if_neg h0]
   have hd := dig_ne45 (dec_all n.toNat)
   rw [if_neg (fun e => hd e.1), mag_of (by omega) (fun e => by cases e)]
   simp; omega
theorem valF_le : ∀ (l : Bs) (n : Nat), n ≤ valF n l
 | [], n => Nat.le_refl _
 | b :: r, n => Nat.le_trans (by omega : n ≤ 10 * n + (b.toNat - 48)) (valF_le r _)
theorem parse_dig : ∀ (l : Bs) (acc : Nat), l.all digB = true → valF acc l < 10 ^ 18 → parseUint10 acc l = .ok (valF acc l)
 | [], acc, _, _ => rfl
 | b :: r, acc, h, hv => by
  simp only [List.all_cons, Bool.and_eq_true] at h
  have hb := h.1
  simp only [digB, Bool.and_eq_true, decide_eq_true_eq] at hb
  have hle := valF_le r (10 * acc + (b.toNat - 48))
  have e : valF acc (b :: r) = valF (10 * acc + (b.toNat - 48)) r := rfl
  rw [e] at hv ⊢
  have e2 : acc * 10 + (b.toNat - 48) = 10 * acc + (b.toNat - 48) := by omega
  rw [parseUint10, if_pos hb, if_neg (by omega), if_neg (by omega), e2]
  exact parse_dig r _ h.2 hv
theorem mag_dec {u : Nat} (h : u < 10 ^ 10) : parseMag (decDigits u) = .ok u := by
 unfold parseMag
 rw [if_neg (dec_ne u), parse_dig _ 0 (dec_all u) (by rw [show valF 0 (decDigits u) = u from dec_val u]; omega), show valF 0 (decDigits u) = u from dec_val u]
theorem atoi_itoa {n : Int} (h : n.natAbs < 10 ^ 10) : atoiAll (itoa n) = .ok n := by
 unfold itoa
 by_cases h0 : n < 0
 ·rw [if_pos h0]
  have e : (45 : UInt8).toNat = 45 := rfl
  simp only [atoiAll, e, or_true, if_true, mag_dec h]
  rw [if_neg (by simp), if_neg (by omega), show -(n.natAbs : Int) = n by omega]
 ·rw [if_neg h0]
  have hm := mag_dec (u := n.toNat) (by omega)
  have ha := dec_all n.toNat
  cases hd : decDigits n.toNat with
  | nil => exact absurd hd (dec_ne _)
  | cons c r =>
   rw [hd] at hm ha
   simp only [List.all_cons, Bool.and_eq_true] at ha
   have hb := ha.1
   simp only [digB, Bool.and_eq_true, decide_eq_true_eq] at hb
   have c1 : ¬ (c.toNat = 43 ∨ c.toNat = 45) := by omega
   have c2 : ¬ c.toNat = 45 := by omega
   have c3 : ¬ c.toNat = 43 := by omega
   simp only [atoiAll, c2, c3, or_self, not_false_eq_true, true_and, false_and, if_false]
   rw [hm]
   dsimp only
   rw [if_neg (by omega), show (n.toNat : Int) = n by omega]
def digsB (w : Bs) : Bs := if w.head? = some 45 then w.tail else w
theorem digs_itoa (n : Int) : digsB (itoa n) = decDigits n.natAbs := by
 unfold digsB itoa
 by_cases h0 : n < 0
 ·rw [if_pos h0]; rfl
 ·rw [if_neg h0, if_neg (dig_ne45 (dec_all _)), show n.toNat = n.natAbs by omega]
theorem prog_num (w : Bs) (n : Int) : ((digsB w).all digB = true ∧ atoiAll w = .ok n ∧ (digsB w).length ≤ 10 ∧ itoa n = w) ↔ numB w = some n := by
 rw [num_iff]
 constructor
 ·rintro ⟨_, _, h3, rfl⟩
  refine ⟨rfl, ?_⟩
  rw [digs_itoa] at h3
  have h7 := valF_lt (decDigits n.natAbs) 0 (dec_all _)
  rw [show valF 0 (decDigits n.natAbs) = n.natAbs from dec_val _] at h7
  have h8 : 10 ^ (decDigits n.natAbs).length ≤ 10 ^ 10 := Nat.pow_le_pow_right (by omega) h3
  omega
 ·rintro ⟨rfl, h⟩
  refine ⟨by rw [digs_itoa]; exact dec_all _, atoi_itoa h, ?_, rfl⟩
  rw [digs_itoa]
  exact dec_len 9 _ h
theorem itoa_ne (n : Int) (c : UInt8) (h1 : digB c = false) (h2 : c ≠ 45) : c ∉ itoa n := by
 have key : ∀ u, c ∉ decDigits u := fun u hc => by
  have := List.all_eq_true.1 (dec_all u) c hc
  rw [h1] at this; cases this
 unfold itoa
 split
 ·simp only [List.mem_cons, not_or]
  exact ⟨h2, key _⟩
 ·exact key _
end Go.Sx

/- Plain theory: lines of a file, with their check. Own work. -/
namespace Go.Sx
open Go.Lib

def sumB (l : Bs) : Nat := (l.map (·.toNat)).sum
def chkB (l : Bs) : Bs := [UInt8.ofNat (48 + sumB l % 100 / 10), UInt8.ofNat (48 + sumB l % 10)]
theorem sumB_app (a b : Bs) : sumB (a ++ b) = sumB a + sumB b := by simp [sumB]
theorem chk_len (a : Bs) : (chkB a).length = 2 := rfl

def spl (c : UInt8) : Bs → List Bs
 | [] => [[]]
 | b :: r => if b = c then [] :: spl c r else match spl c r with | [] => [[b]] | p :: q => (b :: p) :: q
theorem spl_cons (c b : UInt8) (r : Bs) : spl c (b :: r) = if b = c then [] :: spl c r else match spl c r with | [] => [[b]] | p :: q => (b :: p) :: q := rfl
theorem spl_ne (c : UInt8) : ∀ l, spl c l ≠ []
 | [] => by simp [spl]
 | b :: r => by
  unfold spl
  split
  ·simp
  ·cases h : spl c r <;> simp
theorem spl_one {c : UInt8} : ∀ {l : Bs}, c ∉ l → spl c l = [l]
 | [], _ => rfl
 | b :: r, h => by
  simp only [List.mem_cons, not_or] at h
  unfold spl
  rw [if_neg (fun e => h.1 e.symm), spl_one h.2]
theorem spl_app {c : UInt8} {r : Bs} : ∀ {l : Bs}, c ∉ l → spl c (l ++ c :: r) = l :: spl c r
 | [], _ => by simp [spl]
 | b :: l, h => by
  simp only [List.mem_cons, not_or] at h
  rw [List.cons_append, spl_cons, if_neg (fun e => h.1 e.symm), spl_app h.2]
def joinC (c : UInt8) : List Bs → Bs
 | [] => []
 | [p] => p
 | p :: q => p ++ c :: joinC c q
theorem joinC_cons (c : UInt8) (p : Bs) {q : List Bs} (h : q ≠ []) : joinC c (p :: q) = p ++ c :: joinC c q := by
 cases q with
 | nil => exact absurd rfl h
 | cons a b => rfl
theorem spl_join (c : UInt8) : ∀ l, joinC c (spl c l) = l
 | [] => rfl
 | b :: r => by
  have ih := spl_join c r
  unfold spl
  split
  ·rename_i e
   rw [joinC_cons c _ (spl_ne c r), ih, e]; rfl
  ·cases h : spl c r with
   | nil => exact absurd h (spl_ne c r)
   | cons p q =>
    rw [h] at ih
    dsimp only
    by_cases hq : q = []
    ·subst hq; rw [← ih]; rfl
    ·rw [joinC_cons c _ hq, List.cons_append, ← joinC_cons c p hq, ih]
theorem spl_mem {c : UInt8} : ∀ {l p : Bs}, p ∈ spl c l → c ∉ p
 | [], p, h => by simp [spl] at h; subst h; simp
 | b :: r, p, h => by
  unfold spl at h
  split at h
  ·simp only [List.mem_cons] at h
   rcases h with rfl | h
   ·simp
   ·exact spl_mem h
  ·rename_i hb
   cases hs : spl c r with
   | nil => exact absurd hs (spl_ne c r)
   | cons a q =>
    rw [hs] at h
    simp only [List.mem_cons] at h
    rcases h with rfl | h
    ·simp only [List.mem_cons, not_or]
     exact ⟨fun e => hb e.symm, spl_mem (l := r) (by rw [hs]; simp)⟩
    ·exact spl_mem (l := r) (by rw [hs]; simp [h])
theorem spl_len {c : UInt8} : ∀ l : Bs, (spl c l).length ≤ l.length + 1
 | [] => by simp [spl]
 | b :: r => by
  have := spl_len (c := c) r
  unfold spl
  split
  ·simp; omega
  ·cases h : spl c r with
   | nil => simp
   | cons p q => rw [h] at this; simp at this ⊢; omega
theorem join_len (c : UInt8) : ∀ ls : List Bs, ∀ p ∈ ls, p.length ≤ (joinC c ls).length
 | [], _, h => by simp at h
 | [a], p, h => by simp at h; subst h; exact Nat.le_refl _
 | a :: b :: q, p, h => by
  rw [joinC_cons c a (by simp)]
  rcases List.mem_cons.1 h with rfl | h
  ·simp
  ·have := join_len c (b :: q) p h
   simp only [List.length_append, List.length_cons] at this ⊢; omega
theorem spl_le {c : UInt8} {l p : Bs} (h : p ∈ spl c l) : p.length ≤ l.length := by
 have := join_len c _ p h
 rwa [spl_join] at this
theorem spl_more {c : UInt8} (l r : Bs) : ∃ p q, spl c l = p :: q ∧ ∃ t, l ++ c :: r = p ++ c :: t := by
 cases h : spl c l with
 | nil => exact absurd h (spl_ne c l)
 | cons p q =>
  refine ⟨p, q, rfl, ?_⟩
  have hj := spl_join c l
  rw [h] at hj
  by_cases hq : q = []
  ·subst hq; exact ⟨r, by rw [← hj]; rfl⟩
  ·rw [joinC_cons c p hq] at hj
   exact ⟨joinC c q ++ c :: r, by rw [← hj]; simp⟩
theorem pre_uniq {c : UInt8} : ∀ {a b s t : Bs}, c ∉ a → c ∉ b → a ++ c :: s = b ++ c :: t → a = b ∧ s = t := fun {a b s t} ha hb h => by
 have h1 := spl_app (r := s) ha
 have h2 := spl_app (r := t) hb
 have h3 : spl c (a ++ c :: s) = spl c (b ++ c :: t) := by rw [h]
 rw [h1, h2] at h3
 simp only [List.cons.injEq] at h3
 refine ⟨h3.1, ?_⟩
 rw [h3.1] at h
 simpa using h

def wrdB (xs : List Int) : Bs := xs.flatMap fun n => 32 :: itoa n
def bdyB (word : Bs) (xs : List Int) : Bs := word ++ wrdB xs
def linB (word : Bs) (xs : List Int) : Bs := bdyB word xs ++ 32 :: 61 :: chkB (bdyB word xs)
theorem spl_words : ∀ (xs : List Int) (word : Bs), 32 ∉ word → spl 32 (bdyB word xs) = word :: xs.map itoa
 | [], word, h => by simp [bdyB, wrdB, spl_one h]
 | n :: xs, word, h => by
  have ih := spl_words xs (itoa n) (itoa_ne n 32 rfl (by decide))
  have e : bdyB word (n :: xs) = word ++ 32 :: bdyB (itoa n) xs := by simp [bdyB, wrdB]
  rw [e, spl_app h, ih]; rfl
theorem join_words : ∀ (xs : List Int) (word : Bs), joinC 32 (word :: xs.map itoa) = bdyB word xs
 | [], word => by simp [joinC, bdyB, wrdB]
 | n :: xs, word => by
  have ih := join_words xs (itoa n)
  rw [List.map_cons, joinC_cons 32 _ (by simp), ih]
  simp [bdyB, wrdB]
def bodyB (s : Bs) : Option Bs := if 4 ≤ s.length ∧ s.drop (s.length - 4) = 32 :: 61 :: chkB (s.take (s.length - 4)) then some (s.take (s.length - 4)) else none
theorem body_iff (s b : Bs) : bodyB s = some b ↔ s = b ++ 32 :: 61 :: chkB b := by
 unfold bodyB
 constructor
 ·intro h
  split at h
  ·rename_i hc
   obtain rfl := Option.some.inj h
   have h1 := List.take_append_drop (s.length - 4) s
   rw [hc.2] at h1
   exact h1.symm
  ·cases h
 ·rintro rfl
  have hl : (b ++ 32 :: 61 :: chkB b).length - 4 = b.length := by simp [chk_len]
  rw [hl, List.take_left', List.drop_left', if_pos ⟨by simp [chk_len], rfl⟩] <;> rfl
def numsB : List Bs → Option (List Int)
 | [] => some []
 | w :: r => match numB w with
  | none => none
  | some n => match numsB r with
   | none => none
   | some xs => some (n :: xs)
theorem nums_iff : ∀ (ws : List Bs) (xs : List Int), numsB ws = some xs ↔ ws = xs.map itoa ∧ ∀ n ∈ xs, n.natAbs < 10 ^ 10
 | [], xs => by
  simp only [numsB, Option.some.injEq]
  constructor
  ·rintro rfl; simp
  ·rintro ⟨h, _⟩; cases xs with
   | nil => rfl
   | cons a b => simp at h
 | w :: r, xs => by
  unfold numsB
  constructor
  ·intro h
   cases h1 : numB w with
   | none => rw [h1] at h; cases h
   | some n =>
    cases h2 : numsB r with
    | none => rw [h1, h2] at h; cases h
    | some ys =>
     rw [h1, h2] at h
     obtain rfl := Option.some.inj h
     obtain ⟨rfl, g1⟩ := (num_iff w n).1 h1
     obtain ⟨rfl, g2⟩ := (nums_iff r ys).1 h2
     exact ⟨rfl, fun m hm => by rcases List.mem_cons.1 hm with rfl | hm; exact g1; exact g2 m hm⟩
  ·rintro ⟨h, hb⟩
   cases xs with
   | nil => simp at h
   | cons n ys =>
    simp only [List.map_cons, List.cons.injEq] at h
    obtain ⟨rfl, rfl⟩ := h
    rw [(num_iff _ n).2 ⟨rfl, hb n (by simp)⟩, (nums_iff _ ys).2 ⟨rfl, fun m hm => hb m (by simp [hm])⟩]
def takB (s word : Bs) (many : Nat) : Option (List Int) := match bodyB s with
 | none => none
 | some b => if (spl 32 b).length = many + 1 ∧ (spl 32 b).head? = some word then numsB (spl 32 b).tail else none
theorem tak_iff {s word : Bs} {many : Nat} {xs : List Int} (hw : 32 ∉ word) : takB s word many = some xs ↔ s = linB word xs ∧ xs.length = many ∧ ∀ n ∈ xs, n.natAbs < 10 ^ 10 := by
 unfold takB
 constructor
 ·intro h
  cases hb : bodyB s with
  | none => rw [hb] at h; cases h
  | some b =>
   rw [hb] at h
   dsimp only at h
   split at h
   ·rename_i hc
    obtain ⟨h1, h2⟩ := (nums_iff _ xs).1 h
    have hs := (body_iff s b).1 hb
    cases hsp : spl 32 b with
    | nil => exact absurd hsp (spl_ne 32 b)
    | cons p q =>
     rw [hsp] at hc h1
     simp only [List.head?_cons, Option.some.injEq, List.length_cons, List.tail_cons] at hc h1
     have hj := spl_join 32 b
     rw [hsp, hc.2, h1, join_words] at hj
     refine ⟨by rw [hs, ← hj]; rfl, ?_, h2⟩
     have := hc.1
     rw [h1, List.length_map] at this
     omega
   ·cases h
 ·rintro ⟨rfl, hl, hn⟩
  have hb : bodyB (linB word xs) = some (bdyB word xs) := (body_iff _ _).2 rfl
  rw [hb]
  dsimp only
  rw [spl_words xs word hw, if_pos ⟨by simp [hl], rfl⟩, List.tail_cons]
  exact (nums_iff _ xs).2 ⟨rfl, hn⟩
def isB (s word : Bs) : Bool := hasPrefixL s (word ++ [32])
where hasPrefixL (s p : Bs) : Bool := p.isPrefixOf s
theorem is_iff {s word : Bs} : isB s word = true ↔ ∃ t, s = word ++ 32 :: t := by
 unfold isB isB.hasPrefixL
 rw [List.isPrefixOf_iff_prefix]
 constructor
 ·rintro ⟨t, h⟩; exact ⟨t, by rw [← h]; simp⟩
 ·rintro ⟨t, h⟩; exact ⟨t, by rw [h]; simp⟩
theorem is_first {s b word : Bs} (hb : bodyB s = some b) (hw : 32 ∉ word) : isB s word = true ↔ (spl 32 b).head? = some word := by
 rw [(body_iff s b).1 hb, is_iff]
 obtain ⟨p, q, h1, t, h2⟩ := spl_more (c := 32) b (61 :: chkB b)
 rw [h1, h2, List.head?_cons, Option.some.injEq]
 have hp : 32 ∉ p := spl_mem (l := b) (by rw [h1]; simp)
 constructor
 ·rintro ⟨u, h⟩; exact (pre_uniq hp hw h).1
 ·rintro rfl; exact ⟨t, rfl⟩
theorem tak_is {s word : Bs} {many : Nat} {xs : List Int} (hw : 32 ∉ word) (h : takB s word many = some xs) : isB s word = true := by
 obtain ⟨rfl, _, _⟩ := (tak_iff hw).1 h
 exact (is_first (b := bdyB word xs) ((body_iff _ _).2 rfl) hw).2 (by rw [spl_words xs word hw]; rfl)
theorem is_uniq {s a b : Bs} (ha : 32 ∉ a) (hb : 32 ∉ b) (h1 : isB s a = true) (h2 : isB s b = true) : a = b := by
 obtain ⟨t, rfl⟩ := is_iff.1 h1
 obtain ⟨u, h⟩ := is_iff.1 h2
 exact (pre_uniq ha hb h).1
end Go.Sx

/- Sx: operations on strings, in terms of lists of bytes. Own work. -/
namespace Go.Sx
variable {P : Program}

def bS (l : Bs) : ByteArray := ⟨l.toArray⟩
theorem bS_data (l : Bs) : (bS l).data.toList = l := rfl
theorem bS_toList (l : Bs) : (bS l).toList = l := by rw [Lib.toList_data]; rfl
theorem bS_size (l : Bs) : (bS l).size = l.length := by rw [Lib.size_eq]; rfl
theorem bS_eta (b : ByteArray) : b = bS b.data.toList := (Lib.mk_data b).symm
theorem bS_ext {a b : ByteArray} (h : a.data.toList = b.data.toList) : a = b := by rw [bS_eta a, bS_eta b, h]
theorem bS_app (a b : Bs) : bS a ++ bS b = bS (a ++ b) := bS_ext (by simp [bS, ByteArray.data_append])
theorem bS_extract (l : Bs) (a b : Nat) : (bS l).extract a b = bS ((l.drop a).take (b - a)) := Lib.extract_eq _ _ _
abbrev stD (l : Bs) : D := .str (bS l)
theorem s_add (t : TypeId) {a b : Bs} (h : a.length + b.length ≤ 9223372036854775807) : binD P .add t (stD a) (stD b) = some (stD (a ++ b)) := by
 show strOp .add (bS a) (bS b) = _
 simp only [strOp, bS_size, bS_app]
 rw [if_neg (by omega)]
theorem s_eq (t : TypeId) (a b : Bs) : binD P .eql t (stD a) (stD b) = some (.bool (decide (a = b))) := by
 show strOp .eql (bS a) (bS b) = _
 simp only [strOp, bS_toList]
 congr 2
 rw [Bool.eq_iff_iff]; simp
theorem s_ne (t : TypeId) (a b : Bs) : binD P .neq t (stD a) (stD b) = some (.bool (!(decide (a = b)))) := by
 show strOp .neq (bS a) (bS b) = _
 simp only [strOp, bS_toList]
 congr 3
 rw [Bool.eq_iff_iff]; simp
theorem s_len (l : Bs) : ((bS l).size : Int) = (l.length : Int) := by rw [bS_size]
theorem s_ix {t : TypeId} (hu : P.underlying t = some .string) {l : Bs} {i : Nat} {b : UInt8} (h : l[i]? = some b) : indexD P t (stD l) (.int .i64 (i : Int)) = some (.int .u8 b.toNat) := by
 simp only [indexD, hu]
 rw [if_pos (by omega), Int.toNat_natCast]
 have e : (bS l).data[i]? = some b := by
  show l.toArray[i]? = _
  rw [List.getElem?_toArray]; exact h
 rw [e]
theorem s_take {t : TypeId} (hu : P.underlying t = some .string) {l : Bs} {i : Nat} (h : i ≤ l.length) : sliceD P t (stD l) none (some (.int .i64 (i : Int))) = some (stD (l.take i)) := by
 simp only [sliceD, hu, boundD, bS_size]
 rw [if_pos (by omega), Int.toNat_natCast]
 simp only [bS_extract, List.drop_zero, Nat.sub_zero]
theorem s_drop {t : TypeId} (hu : P.underlying t = some .string) {l : Bs} {i : Nat} (h : i ≤ l.length) : sliceD P t (stD l) (some (.int .i64 (i : Int))) none = some (stD (l.drop i)) := by
 simp only [sliceD, hu, boundD, bS_size]
 rw [if_pos (by omega), Int.toNat_natCast]
 simp only [bS_extract]
 rw [List.take_of_length_le (by simp)]
theorem s_cut {t : TypeId} (hu : P.underlying t = some .string) {l : Bs} {i j : Nat} (h : i ≤ j) (hj : j ≤ l.length) : sliceD P t (stD l) (some (.int .i64 (i : Int))) (some (.int .i64 (j : Int))) = some (stD ((l.take j).drop i)) := by
 simp only [sliceD, hu, boundD, bS_size]
 rw [if_pos (by omega), Int.toNat_natCast]
 dsimp only
 rw [if_pos (by omega), Int.toNat_natCast]
 dsimp only
 rw [bS_extract, List.drop_take]
theorem natT {i n : Nat} (h : i < n) : ((i : Int) < (n : Int)) = True := by simp [h]
theorem natF {i n : Nat} (h : n ≤ i) : ((i : Int) < (n : Int)) = False := by simp; omega
end Go.Sx

/- Plain theory: splitting at one byte, as the library says it. Own work. -/
namespace Go.Sx
open Go.Lib

theorem idx_at {c : UInt8} {r : Bs} : ∀ {l : Bs}, c ∉ l → index (l ++ c :: r) [c] = (l.length : Int)
 | [], _ => by simp [index, List.isPrefixOf]
 | b :: l, h => by
  simp only [List.mem_cons, not_or] at h
  have ih := idx_at (r := r) h.2
  have e : [c].isPrefixOf (b :: (l ++ c :: r)) = false := by simp [List.isPrefixOf, h.1]
  rw [List.cons_append, index, e, if_neg (by simp), ih, if_neg (by simp), List.length_cons]; simp
theorem cut_at {c : UInt8} : ∀ {s : Bs}, c ∈ s → ∃ l r, s = l ++ c :: r ∧ c ∉ l
 | [], h => by simp at h
 | b :: s, h => by
  by_cases e : b = c
  ·exact ⟨[], s, by rw [e]; rfl, by simp⟩
  ·obtain ⟨l, r, rfl, h2⟩ := cut_at (s := s) (by rcases List.mem_cons.1 h with h | h; exact absurd h.symm e; exact h)
   exact ⟨b :: l, r, rfl, by simp only [List.mem_cons, not_or]; exact ⟨fun x => e x.symm, h2⟩⟩
theorem splitK_spl {c : UInt8} : ∀ (k : Nat) (s : Bs), s.count c = k → splitK [c] 0 k s = spl c s
 | 0, s, h => by
  have hn : c ∉ s := List.count_eq_zero.1 h
  rw [spl_one hn]; rfl
 | k + 1, s, h => by
  have hm : c ∈ s := List.count_pos_iff.1 (by omega)
  obtain ⟨l, r, rfl, hl⟩ := cut_at hm
  have hc : r.count c = k := by
   rw [List.count_append, List.count_cons_self, List.count_eq_zero.2 hl] at h; omega
  rw [splitK, idx_at hl, if_neg (by simp), spl_app hl, ← splitK_spl k r hc]
  simp
theorem splitB_spl (c : UInt8) (s : Bs) : splitB (bS [c]) 0 (countB (bS s) (bS [c])) (bS s) = (spl c s).map bS := by
 have h1 := splitB_data (bS [c]) 0 (countB (bS s) (bS [c])) (bS s)
 have h2 : countB (bS s) (bS [c]) = s.count c := count_one c s
 rw [h2] at h1 ⊢
 simp only [bS_data] at h1
 rw [splitK_spl _ s rfl] at h1
 rw [← h1, List.map_map]
 have : (bS ∘ fun x : ByteArray => x.data.toList) = id := funext fun b => (bS_eta b).symm
 rw [this, List.map_id]
end Go.Sx

/- Plain theory: splitting from the left. Own work. -/
namespace Go.Sx

def outP (c : UInt8) (p : Bs) : List Bs := (spl c p).dropLast
def lastP (c : UInt8) (p : Bs) : Bs := (spl c p).getLast (spl_ne c p)
theorem spl_last (c : UInt8) (p : Bs) : spl c p = outP c p ++ [lastP c p] := (List.dropLast_concat_getLast (spl_ne c p)).symm
theorem spl_snoc (c b : UInt8) : ∀ p : Bs, spl c (p ++ [b]) = if b = c then spl c p ++ [[]] else outP c p ++ [lastP c p ++ [b]]
 | [] => by
  by_cases h : b = c
  ·subst h; simp [spl]
  ·simp [spl, h, outP, lastP]
 | a :: p => by
  have ih := spl_snoc c b p
  rw [List.cons_append, spl_cons, spl_cons]
  by_cases ha : a = c
  ·subst ha
   rw [if_pos rfl, if_pos rfl, ih]
   by_cases hb : b = a
   ·rw [if_pos hb, if_pos hb]; rfl
   ·rw [if_neg hb, if_neg hb]
    have e : spl a (a :: p) = [] :: spl a p := by rw [spl_cons, if_pos rfl]
    have h1 : outP a (a :: p) = [] :: outP a p := by
     unfold outP
     rw [e, List.dropLast_cons_of_ne_nil (spl_ne a p)]
    have h2 : lastP a (a :: p) = lastP a p := by
     unfold lastP
     simp only [e]
     rw [List.getLast_cons (spl_ne a p)]
    rw [h1, h2]; rfl
  ·rw [if_neg ha, if_neg ha, ih]
   have h0 := spl_last c p
   by_cases hb : b = c
   ·rw [if_pos hb, if_pos hb]
    cases h : spl c p with
    | nil => exact absurd h (spl_ne c p)
    | cons x q => rfl
   ·rw [if_neg hb, if_neg hb]
    cases h : spl c p with
    | nil => exact absurd h (spl_ne c p)
    | cons x q =>
     have e : spl c (a :: p) = (a :: x) :: q := by rw [spl_cons, if_neg ha, h]
     cases q with
     | nil =>
      have h1 : outP c p = [] := by unfold outP; rw [h]; rfl
      have h2 : lastP c p = x := by unfold lastP; simp only [h]; rfl
      have h3 : outP c (a :: p) = [] := by unfold outP; rw [e]; rfl
      have h4 : lastP c (a :: p) = a :: x := by unfold lastP; simp only [e]; rfl
      rw [h1, h2, h3, h4]; rfl
     | cons y r =>
      have h1 : outP c p = x :: (y :: r).dropLast := by unfold outP; rw [h]; rfl
      have h2 : lastP c p = (y :: r).getLast (by simp) := by unfold lastP; simp only [h]; rfl
      have h3 : outP c (a :: p) = (a :: x) :: (y :: r).dropLast := by unfold outP; rw [e]; rfl
      have h4 : lastP c (a :: p) = (y :: r).getLast (by simp) := by unfold lastP; simp only [e]; rfl
      rw [h1, h2, h3, h4]; rfl
theorem out_hit (c : UInt8) (p : Bs) : outP c (p ++ [c]) = outP c p ++ [lastP c p] := by
 show (spl c (p ++ [c])).dropLast = _
 rw [spl_snoc, if_pos rfl, List.dropLast_concat]
 exact spl_last c p
theorem last_hit (c : UInt8) (p : Bs) : lastP c (p ++ [c]) = [] := by
 unfold lastP
 simp only [spl_snoc, if_true, List.getLast_concat]
theorem out_miss {c b : UInt8} (h : b ≠ c) (p : Bs) : outP c (p ++ [b]) = outP c p := by
 have : outP c (p ++ [b]) = (outP c p ++ [lastP c p ++ [b]]).dropLast := by
  show (spl c (p ++ [b])).dropLast = _
  rw [spl_snoc, if_neg h]
 rw [this, List.dropLast_concat]
theorem last_miss {c b : UInt8} (h : b ≠ c) (p : Bs) : lastP c (p ++ [b]) = lastP c p ++ [b] := by
 have : spl c (p ++ [b]) = outP c p ++ [lastP c p ++ [b]] := by rw [spl_snoc, if_neg h]
 unfold lastP
 simp only [this, List.getLast_concat]
 rfl
theorem out_nil (c : UInt8) : outP c [] = [] := rfl
theorem last_nil (c : UInt8) : lastP c [] = [] := rfl
theorem last_suf (c : UInt8) : ∀ n (p : Bs), p.length = n → (lastP c p).length ≤ p.length ∧ p.drop (p.length - (lastP c p).length) = lastP c p := by
 intro n
 induction n with
 | zero =>
  intro p h
  have := List.length_eq_zero_iff.1 h
  subst this
  exact ⟨Nat.le_refl _, rfl⟩
 | succ n ih =>
  intro p h
  obtain ⟨q, b, rfl⟩ : ∃ q b, p = q ++ [b] := ⟨p.dropLast, p.getLast (by intro e; rw [e] at h; cases h), (List.dropLast_concat_getLast _).symm⟩
  obtain ⟨h1, h2⟩ := ih q (by simpa using h)
  by_cases hb : b = c
  ·subst hb
   rw [last_hit]
   simp
  ·rw [last_miss hb]
   refine ⟨by simp; omega, ?_⟩
   rw [List.length_append, List.length_append, List.length_singleton, show q.length + 1 - ((lastP c q).length + 1) = q.length - (lastP c q).length by omega, List.drop_append, h2]
   rw [show q.length - (lastP c q).length - q.length = 0 by omega]
   rfl
end Go.Sx
