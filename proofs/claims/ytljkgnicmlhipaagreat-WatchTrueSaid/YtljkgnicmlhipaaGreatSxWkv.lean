/- Own work: a calculus of contracts for the programs of this kit: parts SxW39v, SxW40v, SxW41v, SxW42v. -/
import Derived.Test.YtljkgnicmlhipaaGreatSxW38v
import Derived.Test.YtljkgnicmlhipaaGreatSxMi
set_option linter.unusedVariables false
set_option linter.unusedSimpArgs false
namespace Go.Sx
open Go.Proofs
set_option maxRecDepth 10000

def bitS (l : List Int) (c : Int) (b : Nat) (i : Nat) : Nat := if l.getD i 0 = c then b ||| 2 ^ i else b
def withN (l : List Int) (b : Nat) (c : Int) : Nat := (List.range l.length).foldl (bitS l c) b
def withAt (l : List Int) (b : Nat) (c : Int) (n : Nat) : Nat := (List.range n).foldl (bitS l c) b
theorem withAt_succ (l : List Int) (b : Nat) (c : Int) (n : Nat) : withAt l b c (n + 1) = bitS l c (withAt l b c n) n := by
 simp only [withAt, List.range_succ, List.foldl_append]; rfl
theorem withAt_lt (l : List Int) {k b : Nat} (hb : b < 2 ^ k) (c : Int) : ∀ n, n ≤ k → withAt l b c n < 2 ^ k
 | 0, _ => hb
 | n + 1, h => by
  rw [withAt_succ]
  unfold bitS
  have ih := withAt_lt l hb c n (by omega)
  split
  ·exact Nat.or_lt_two_pow ih (Nat.pow_lt_pow_right (by omega) (by omega))
  ·exact ih
theorem withN_lt {l : List Int} {b : Nat} (hb : b < 2 ^ l.length) (c : Int) : withN l b c < 2 ^ l.length := withAt_lt l hb c _ (Nat.le_refl _)
theorem pow_lt8 {n : Nat} (h : n ≤ 8) : 2 ^ n ≤ 256 := by
 have := Nat.pow_le_pow_right (n := 2) (by omega) h
 simpa using this
theorem sp_fit (a b : Int) : keyFit Tryz.prog 103 (.agg [.int .i64 a, .int .i64 b]) = true := by kernel_rfl
theorem sp_zero : zeroV Tryz.prog 103 = some (pD (0, 0)) := by kernel_rfl
theorem sp_und0 : (match Program.underlying Tryz.prog 103 with | some (.struct fs) => pairT Tryz.prog 103 fs.toList .i64 .i64 | _ => false) = true := by kernel_rfl
theorem sp_und : ∃ fs, Program.underlying Tryz.prog 103 = some (.struct fs) ∧ pairT Tryz.prog 103 fs.toList .i64 .i64 = true := by
 have h := sp_und0
 split at h
 ·rename_i fs hu; exact ⟨fs, hu, h⟩
 ·cases h
theorem sp_ne (a b a' b' : Int) : binD Tryz.prog .neq 103 (.agg [.int .i64 a, .int .i64 b]) (.agg [.int .i64 a', .int .i64 b']) = some (.bool (!(a == a' && b == b'))) := by
 obtain ⟨fs, hu, hp⟩ := sp_und
 have hg : Program.eqGuardType Tryz.prog (Program.depth Tryz.prog) 103 = false := by kernel_rfl
 simp only [binD, hg, pair_eqT hu hp, Bool.false_eq_true, if_false]
theorem shl_1 {i : Nat} (hi : i ≤ 60) : arith .shl .i64 1 (i : Int) = some (.int .i64 ((2 ^ i : Nat) : Int)) := by
 have h1 : ¬ ((i : Int) < 0) := by omega
 have h2 : min ((i : Int).toNat) IntKind.i64.bits = i := by
  have : IntKind.i64.bits = 64 := rfl
  rw [this]; omega
 have h3 : 2 ^ i ≤ 2 ^ 60 := Nat.pow_le_pow_right (by omega) hi
 simp only [arith, if_neg h1, h2]
 have h4 : (1 : Int) * 2 ^ i = ((2 ^ i : Nat) : Int) := by simp
 rw [h4]
 generalize (2 ^ i : Nat) = q at *
 rw [wrap_i64 (by omega) (by omega)]
theorem or_b {a b : Nat} (ha : a < 2 ^ 62) (hb : b < 2 ^ 62) : arith .or .i64 (a : Int) (b : Int) = some (.int .i64 ((a ||| b : Nat) : Int)) := by
 have h := or_i64 ha hb
 have e : IntKind.i64.bits = 64 := rfl
 simp only [arith]
 rw [← h]
 rfl
theorem sweep1_t (s : SkyW) (hb : BL s.sh) (c : Int) : Pure Tryz.prog 55 [.int .i64 c, .ref s.c 0] (.bool (!freeB s.sh c)) := by
 have oF := gFree_eq hb c
 obtain ⟨w, d, sh⟩ := s
 simp only [SkyW.c] at *
 refine pure_of_wc (rs := [.tmp 3]) (m := 8) [] e13_ok (by kernel_rfl) Tryz.func55 rfl (by kernel_rfl) rfl rfl (by kernel_rfl) ?_
 simp only [RT, FS, ↓RE, okR, argEnv, Nat.reduceAdd, Nat.reduceSub, Nat.reduceLT, Nat.reduceLeDiff, Nat.reduceEqDiff, reduceIte, RM, oF]
set_option maxHeartbeats 1000000 in
theorem sweep2_t (l : List Int) (hl : l.length ≤ 8) (c : Int) (b : Nat) (hb : b < 2 ^ l.length) : Pure Tryz.prog 56 [.int .i64 c, .int .i64 (b : Int), .ref [inD l] 0] (.agg [.int .i64 c, .int .i64 (withN l b c)]) := by
 have hp8 := pow_lt8 hl
 refine pure_of_wc (rs := [.cell 5 103]) (m := 26) [] oNone_ok (by kernel_rfl) Tryz.func56 rfl (by kernel_rfl) rfl rfl (by kernel_rfl) ?_
 simp only [RT, FS, ↓RE, okR, argEnv, Nat.reduceAdd, Nat.reduceSub, Nat.reduceLT, Nat.reduceLeDiff, Nat.reduceEqDiff, reduceIte, RM, List.length_map]
 refine loopV (ι := Nat) oNone_ok [] (fun i => [(0, .int .i64 c), (1, .int .i64 (withAt l b c i : Nat)), (2, .ref [inD l] 0), (5, .ptr 0 0), (8, .int .i64 (l.length : Int)), (9, .int .i64 (i : Int))])
  (fun i => [(0, .box [.int .i64 0, .int .i64 0])]) 1 (fun i => i ≤ l.length) (fun i => l.length - i) 0 (by kernel_rfl) (by kernel_rfl) (Nat.zero_le _) ?_ ?_
 ·simp [headW, heapW, envW, blkLt, D.ltL, D.lt, look, hget, withAt]
 intro i hil
 rcases Nat.lt_or_ge i l.length with hlt | hge
 ·have hc := nat_lt_true hlt
  obtain ⟨x, hx⟩ : ∃ x, l[i]? = some x := ⟨l[i], by simp [hlt]⟩
  have hix := aft_ix hx
  have hw1 := wrap_i64 (z := (i : Int) + 1) (by omega) (by omega)
  have hS := withAt_succ l b c i
  have hgd : l.getD i 0 = x := by simp [List.getD, hx]
  have hs1 := shl_1 (i := i) (by omega)
  have hlw := withAt_lt l hb c i (by omega)
  have hpi : 2 ^ i ≤ 2 ^ l.length := Nat.pow_le_pow_right (by omega) (by omega)
  have ho := or_b (a := withAt l b c i) (b := 2 ^ i) (by omega) (by omega)
  unfold bitS at hS
  rw [hgd] at hS
  generalize withAt l b c i = A at *
  by_cases e : x = c
  ·have q : (x == c) = true := by simp [e]
   rw [if_pos e] at hS
   simp only [RT, FS, ↓RE, okR, argEnv, Nat.reduceAdd, Nat.reduceSub, Nat.reduceLT, Nat.reduceLeDiff, Nat.reduceEqDiff, reduceIte, RM, List.length_map, hc, decide_true, hix, q, hs1, ho, hw1]
   exact ⟨i + 1, by omega, by omega, by rw [hS]; simp [headW, heapW, envW, blkLt, D.ltL, D.lt, look, hget]⟩
  ·have q : (x == c) = false := by simp [e]
   rw [if_neg e] at hS
   simp only [RT, FS, ↓RE, okR, argEnv, Nat.reduceAdd, Nat.reduceSub, Nat.reduceLT, Nat.reduceLeDiff, Nat.reduceEqDiff, reduceIte, RM, List.length_map, hc, decide_true, hix, q, hw1]
   exact ⟨i + 1, by omega, by omega, by rw [hS]; simp [headW, heapW, envW, blkLt, D.ltL, D.lt, look, hget]⟩
 ·have hc := nat_lt_false hge
  have : i = l.length := by omega
  subst this
  simp only [RT, FS, ↓RE, okR, argEnv, Nat.reduceAdd, Nat.reduceSub, Nat.reduceLT, Nat.reduceLeDiff, Nat.reduceEqDiff, reduceIte, RM, List.length_map, hc, decide_false]
  rfl
end Go.Sx

namespace Go.Sx
set_option maxRecDepth 10000

theorem lexB_app2 : ∀ {a b : List Int} (c d : List Int), a.length = b.length → lexB a b = true → lexB (a ++ c) (b ++ d) = true
 | [], [], c, d, _, h => by simp [lexB] at h
 | x :: a, y :: b, c, d, hl, h => by
  simp only [List.cons_append, lexB] at h ⊢
  by_cases e : x = y
  ·rw [if_pos e] at h ⊢; exact lexB_app2 c d (by simpa using hl) h
  ·rw [if_neg e] at h ⊢; exact h
theorem lexB_pre : ∀ (a c d : List Int), lexB (a ++ c) (a ++ d) = lexB c d
 | [], c, d => rfl
 | x :: a, c, d => by simp [lexB, lexB_pre a c d]
theorem lexB_trans : ∀ {a b c : List Int}, a.length = b.length → b.length = c.length → lexB a b = true → lexB b c = true → lexB a c = true
 | [], [], [], _, _, h, _ => h
 | x :: a, y :: b, z :: c, h1, h2, ha, hb => by
  simp only [lexB] at ha hb ⊢
  by_cases e1 : x = y
  ·subst e1
   rw [if_pos rfl] at ha
   by_cases e2 : x = z
   ·subst e2
    rw [if_pos rfl] at hb ⊢
    exact lexB_trans (by simpa using h1) (by simpa using h2) ha hb
   ·rw [if_neg e2] at hb ⊢; exact hb
  ·rw [if_neg e1] at ha
   by_cases e2 : y = z
   ·subst e2
    rw [if_neg e1]; exact ha
   ·rw [if_neg e2] at hb
    simp only [decide_eq_true_eq] at ha hb
    rw [if_neg (by omega)]; simp only [decide_eq_true_eq]; omega
theorem lessB_irr (a : List Int) : lessB a a = false := by rw [lessB, if_pos rfl, lexB_self]
theorem lessB_tot {a b : List Int} (h1 : lessB a b = false) (h2 : lessB b a = false) : a = b := by
 have := sameB_eq a b
 unfold sameB at this
 rw [h1, h2] at this
 simpa using this.symm
theorem lessB_trans {a b c : List Int} (h1 : lessB a b = true) (h2 : lessB b c = true) : lessB a c = true := by
 unfold lessB at *
 by_cases e1 : a.length = b.length
 ·rw [if_pos e1] at h1
  by_cases e2 : b.length = c.length
  ·rw [if_pos e2] at h2; rw [if_pos (e1.trans e2)]; exact lexB_trans e1 e2 h1 h2
  ·rw [if_neg e2] at h2; rw [if_neg (by omega)]; rw [e1]; exact h2
 ·rw [if_neg e1] at h1
  simp only [decide_eq_true_eq] at h1
  by_cases e2 : b.length = c.length
  ·rw [if_neg (by omega)]; simp only [decide_eq_true_eq]; omega
  ·rw [if_neg e2] at h2
   simp only [decide_eq_true_eq] at h2
   rw [if_neg (by omega)]; simp only [decide_eq_true_eq]; omega
theorem lessB_asym {a b : List Int} (h : lessB a b = true) : lessB b a = false := by
 cases h2 : lessB b a with
 | false => rfl
 | true => have := lessB_trans h h2; rw [lessB_irr] at this; cases this
theorem lessB_le {a b : List Int} (h : lessB b a = false) : a = b ∨ lessB a b = true := by
 cases h2 : lessB a b with
 | true => exact .inr rfl
 | false => exact .inl (lessB_tot h2 h)
theorem le_less {a b c : List Int} (h1 : lessB b a = false) (h2 : lessB b c = true) : lessB a c = true := by
 rcases lessB_le h1 with rfl | h
 ·exact h2
 ·exact lessB_trans h h2
theorem le_le {a b c : List Int} (h1 : lessB b a = false) (h2 : lessB c b = false) : lessB c a = false := by
 rcases lessB_le h2 with rfl | h
 ·exact h1
 ·exact lessB_asym (le_less h1 h)
theorem lessB_app {a b : List Int} (x y : Int) (h : lessB a b = true) : lessB (a ++ [x]) (b ++ [y]) = true := by
 unfold lessB at *
 by_cases e : a.length = b.length
 ·rw [if_pos e] at h
  rw [if_pos (by simp [e])]; exact lexB_app2 _ _ e h
 ·rw [if_neg e] at h
  rw [if_neg (by simpa using e)]; simpa using h
theorem le_app {a b : List Int} (x : Int) (h : lessB b a = false) : lessB (b ++ [x]) (a ++ [x]) = false := by
 rcases lessB_le h with rfl | h
 ·exact lessB_irr _
 ·exact lessB_asym (lessB_app x x h)
theorem lessB_last (a : List Int) {x y : Int} (h : x < y) : lessB (a ++ [x]) (a ++ [y]) = true := by
 rw [lessB, if_pos (by simp), lexB_pre]
 simp only [lexB]
 rw [if_neg (by omega)]; simpa using h
theorem lessB_longer (a : List Int) (x : Int) : lessB a (a ++ [x]) = true := by
 rw [lessB, if_neg (by simp)]; simp

abbrev It := List Int × Pr
def addI (p : List Int) (st : List Pr × List It) (z : Pr) : List Pr × List It := if z ∈ st.1 then st else (st.1 ++ [z], st.2 ++ [(p ++ [z.1], z)])
def bfsF (S : Pr → List Pr) (al : Int) : Nat → List Pr × List It → Option (List Int)
 | 0, _ => none
 | n + 1, st => match st.2 with
  | [] => none
  | x :: q => if x.2.2 = al then some x.1 else bfsF S al n ((S x.2).foldl (addI x.1) (st.1, q))
inductive Lw (S : Pr → List Pr) (beg : Pr) : List Int → Pr → Prop
 | one : Lw S beg [beg.1] beg
 | snoc (p : List Int) (y z : Pr) : Lw S beg p y → z ∈ S y → Lw S beg (p ++ [z.1]) z
theorem Lw.pos {S : Pr → List Pr} {beg : Pr} {p : List Int} {y : Pr} (h : Lw S beg p y) : 1 ≤ p.length := by
 cases h <;> simp
structure BOk (S : Pr → List Pr) (al : Int) (beg : Pr) (done : List It) (seen : List Pr) (q : List It) : Prop where
 lw : ∀ x ∈ done ++ q, Lw S beg x.1 x.2
 srt : (done ++ q).Pairwise fun a b => lessB a.1 b.1 = true
 sn : ∀ y, y ∈ seen ↔ ∃ x ∈ done ++ q, x.2 = y
 bg : ([beg.1], beg) ∈ done ++ q
 cl : ∀ d ∈ done, ∀ z ∈ S d.2, ∃ x ∈ done ++ q, x.2 = z ∧ lessB (d.1 ++ [z.1]) x.1 = false
 og : ∀ x ∈ done ++ q, x = ([beg.1], beg) ∨ ∃ d ∈ done, ∃ z ∈ S d.2, x = (d.1 ++ [z.1], z)
 nal : ∀ d ∈ done, d.2.2 ≠ al
section
variable {S : Pr → List Pr} {al : Int} {beg : Pr}
theorem BOk.key {done q : List It} {seen : List Pr} (h : BOk S al beg done seen q) {w : List Int} {z : Pr} (hw : Lw S beg w z) : (∀ x ∈ q, lessB w x.1 = true) → ∃ d ∈ done, d.2 = z ∧ lessB w d.1 = false := by
 induction hw with
 | one =>
  intro hq
  rcases List.mem_append.1 h.bg with hb | hb
  ·exact ⟨_, hb, rfl, lessB_irr _⟩
  ·have := hq _ hb; rw [lessB_irr] at this; cases this
 | snoc p y z hp hz ih =>
  intro hq
  obtain ⟨d', hd', rfl, hle⟩ := ih fun x hx => lessB_trans (lessB_longer p z.1) (hq x hx)
  obtain ⟨x, hx, e, hx2⟩ := h.cl d' hd' z hz
  have hxw : lessB (p ++ [z.1]) x.1 = false := le_le hx2 (le_app z.1 hle)
  rcases List.mem_append.1 hx with hx | hx
  ·exact ⟨x, hx, e, hxw⟩
  ·have := hq x hx; rw [hxw] at this; cases this
theorem BOk.none {done : List It} {seen : List Pr} (h : BOk S al beg done seen []) {w : List Int} {z : Pr} (hw : Lw S beg w z) : z.2 ≠ al := by
 obtain ⟨d, hd, e, _⟩ := h.key hw fun x hx => by cases hx
 rw [← e]; exact h.nal d hd
structure MOk (S : Pr → List Pr) (al : Int) (beg : Pr) (done : List It) (p : List Int) (y : Pr) (pre : List Pr) (seen : List Pr) (q : List It) : Prop where
 lw : ∀ x ∈ (done ++ [(p, y)]) ++ q, Lw S beg x.1 x.2
 srt : ((done ++ [(p, y)]) ++ q).Pairwise fun a b => lessB a.1 b.1 = true
 sn : ∀ y', y' ∈ seen ↔ ∃ x ∈ (done ++ [(p, y)]) ++ q, x.2 = y'
 bg : ([beg.1], beg) ∈ (done ++ [(p, y)]) ++ q
 cl : ∀ d ∈ done, ∀ z ∈ S d.2, ∃ x ∈ (done ++ [(p, y)]) ++ q, x.2 = z ∧ lessB (d.1 ++ [z.1]) x.1 = false
 cp : ∀ z ∈ pre, ∃ x ∈ (done ++ [(p, y)]) ++ q, x.2 = z ∧ lessB (p ++ [z.1]) x.1 = false
 og : ∀ x ∈ (done ++ [(p, y)]) ++ q, x = ([beg.1], beg) ∨ (∃ d ∈ done, ∃ z ∈ S d.2, x = (d.1 ++ [z.1], z)) ∨ ∃ z ∈ pre, x = (p ++ [z.1], z)
 nal : ∀ d ∈ done ++ [(p, y)], d.2.2 ≠ al
theorem MOk.lt {done q : List It} {seen : List Pr} {p : List Int} {y : Pr} {pre : List Pr} (h : MOk S al beg done p y pre seen q) {z : Pr} (hpre : ∀ u ∈ pre, u.1 < z.1) : ∀ x ∈ (done ++ [(p, y)]) ++ q, lessB x.1 (p ++ [z.1]) = true := by
 intro x hx
 have hdp : ∀ d ∈ done, lessB d.1 p = true := fun d hd => (List.pairwise_append.1 (List.pairwise_append.1 h.srt).1).2.2 d hd (p, y) (by simp)
 rcases h.og x hx with rfl | ⟨d, hd, u, _, rfl⟩ | ⟨u, hu, rfl⟩
 ·have hp := h.lw (p, y) (by simp)
  have : 1 ≤ p.length := hp.pos
  have e1 : ([beg.1] : List Int).length = 1 := rfl
  have e2 : (p ++ [z.1]).length = p.length + 1 := by rw [List.length_append]; rfl
  show lessB [beg.1] (p ++ [z.1]) = true
  rw [lessB, e1, e2, if_neg (by omega), decide_eq_true_eq]; omega
 ·exact lessB_app _ _ (hdp d hd)
 ·exact lessB_last p (hpre u hu)
theorem MOk.step {done q : List It} {seen : List Pr} {p : List Int} {y : Pr} {pre : List Pr} (h : MOk S al beg done p y pre seen q) {z : Pr} (hz : z ∈ S y) (hpre : ∀ u ∈ pre, u.1 < z.1) :
  MOk S al beg done p y (pre ++ [z]) (addI p (seen, q) z).1 (addI p (seen, q) z).2 := by
 have hlt := h.lt hpre
 unfold addI
 by_cases hm : z ∈ seen
 ·rw [if_pos hm]
  refine ⟨h.lw, h.srt, h.sn, h.bg, h.cl, fun u hu => ?_, fun x hx => ?_, h.nal⟩
  ·rcases List.mem_append.1 hu with hu | hu
   ·exact h.cp u hu
   ·simp at hu; subst hu
    obtain ⟨x, hx, e⟩ := (h.sn u).1 hm
    exact ⟨x, hx, e, lessB_asym (hlt x hx)⟩
  ·rcases h.og x hx with h1 | h1 | ⟨u, hu, h1⟩
   ·exact .inl h1
   ·exact .inr (.inl h1)
   ·exact .inr (.inr ⟨u, by simp [hu], h1⟩)
 ·rw [if_neg hm]
  have e : (done ++ [(p, y)]) ++ (q ++ [(p ++ [z.1], z)]) = ((done ++ [(p, y)]) ++ q) ++ [(p ++ [z.1], z)] := by simp
  have hin : ∀ {x : It}, x ∈ (done ++ [(p, y)]) ++ q → x ∈ (done ++ [(p, y)]) ++ (q ++ [(p ++ [z.1], z)]) := fun hx => by rw [e]; exact List.mem_append_left _ hx
  have hcase : ∀ {x : It}, x ∈ (done ++ [(p, y)]) ++ (q ++ [(p ++ [z.1], z)]) → x ∈ (done ++ [(p, y)]) ++ q ∨ x = (p ++ [z.1], z) := fun {x} hx => by
   rw [e] at hx
   rcases List.mem_append.1 hx with hx | hx
   ·exact .inl hx
   ·exact .inr (by simpa using hx)
  refine ⟨fun x hx => ?_, ?_, fun u => ?_, hin h.bg, fun d hd u hu => ?_, fun u hu => ?_, fun x hx => ?_, h.nal⟩
  ·rcases hcase hx with hx | rfl
   ·exact h.lw x hx
   ·exact .snoc p y z (h.lw (p, y) (by simp)) hz
  ·rw [e, List.pairwise_append]
   exact ⟨h.srt, by simp, fun a ha b hb => by simp at hb; subst hb; exact hlt a ha⟩
  ·simp only [List.mem_append (s := seen), List.mem_singleton]
   constructor
   ·rintro (hu | rfl)
    ·obtain ⟨x, hx, e⟩ := (h.sn u).1 hu; exact ⟨x, hin hx, e⟩
    ·exact ⟨(p ++ [u.1], u), by rw [e]; simp, rfl⟩
   ·rintro ⟨x, hx, rfl⟩
    rcases hcase hx with hx | rfl
    ·exact .inl ((h.sn x.2).2 ⟨x, hx, rfl⟩)
    ·exact .inr rfl
  ·obtain ⟨x, hx, e⟩ := h.cl d hd u hu; exact ⟨x, hin hx, e⟩
  ·rcases List.mem_append.1 hu with hu | hu
   ·obtain ⟨x, hx, e⟩ := h.cp u hu; exact ⟨x, hin hx, e⟩
   ·simp at hu; subst hu
    exact ⟨(p ++ [u.1], u), by rw [e]; simp, rfl, lessB_irr _⟩
  ·rcases hcase hx with hx | rfl
   ·rcases h.og x hx with h1 | h1 | ⟨u, hu, h1⟩
    ·exact .inl h1
    ·exact .inr (.inl h1)
    ·exact .inr (.inr ⟨u, by simp [hu], h1⟩)
   ·exact .inr (.inr ⟨z, by simp, rfl⟩)
end
end Go.Sx

namespace Go.Sx
set_option maxRecDepth 10000

theorem add_len (p : List Int) : ∀ (l : List Pr) (seen : List Pr) (q : List It), ∃ k, (l.foldl (addI p) (seen, q)).1.length = seen.length + k ∧ (l.foldl (addI p) (seen, q)).2.length = q.length + k
 | [], seen, q => ⟨0, rfl, rfl⟩
 | z :: l, seen, q => by
  rw [List.foldl_cons]
  by_cases h : z ∈ seen
  ·have e : addI p (seen, q) z = (seen, q) := by simp [addI, h]
   rw [e]; exact add_len p l seen q
  ·have e : addI p (seen, q) z = (seen ++ [z], q ++ [(p ++ [z.1], z)]) := by simp [addI, h]
   rw [e]
   obtain ⟨k, h1, h2⟩ := add_len p l (seen ++ [z]) (q ++ [(p ++ [z.1], z)])
   exact ⟨k + 1, by rw [h1]; simp; omega, by rw [h2]; simp; omega⟩
def InP (N K : Nat) (y : Pr) : Prop := (0 ≤ y.1 ∧ y.1 < (N : Int)) ∧ 0 ≤ y.2 ∧ y.2 < (K : Int)
structure SeenOk (N K : Nat) (seen : List Pr) : Prop where
 nd : seen.Nodup
 r : ∀ y ∈ seen, InP N K y
theorem SeenOk.len {N K : Nat} {seen : List Pr} (h : SeenOk N K seen) : seen.length ≤ N * K := by
 have h1 := nodup_len (N * K) (seen.map fun y => y.1 * (K : Int) + y.2) (by
  refine List.Pairwise.map _ (fun a b hab => ?_) (h.nd.imp_of_mem (S := fun a b : Pr => a ≠ b ∧ InP N K a ∧ InP N K b) fun ha hb hab => ⟨hab, h.r _ ha, h.r _ hb⟩)
  obtain ⟨hne, ⟨_, a3, a4⟩, ⟨_, b3, b4⟩⟩ := hab
  intro e
  apply hne
  have hK : (0 : Int) < K := by omega
  have e1 : (a.1 * (K : Int) + a.2) / (K : Int) = a.1 := by
   rw [Int.add_comm, Int.add_mul_ediv_right _ _ (by omega), Int.ediv_eq_zero_of_lt a3 a4]; omega
  have e2 : (b.1 * (K : Int) + b.2) / (K : Int) = b.1 := by
   rw [Int.add_comm, Int.add_mul_ediv_right _ _ (by omega), Int.ediv_eq_zero_of_lt b3 b4]; omega
  have e3 : a.1 = b.1 := by rw [← e1, ← e2, e]
  rw [e3] at e
  exact Prod.ext e3 (by omega)) fun x hx => by
   obtain ⟨y, hy, rfl⟩ := List.mem_map.1 hx
   obtain ⟨⟨a1, a2⟩, a3, a4⟩ := h.r y hy
   have h0 : 0 ≤ y.1 * (K : Int) := Int.mul_nonneg a1 (by omega)
   have h1 : (y.1 + 1) * (K : Int) ≤ (N : Int) * (K : Int) := Int.mul_le_mul_of_nonneg_right (by omega) (by omega)
   rw [Int.add_mul, Int.one_mul] at h1
   push_cast
   omega
 simpa using h1
theorem seen_add {N K : Nat} (p : List Int) : ∀ (l : List Pr) {seen : List Pr} {q : List It}, SeenOk N K seen → (∀ z ∈ l, InP N K z) → SeenOk N K (l.foldl (addI p) (seen, q)).1
 | [], _, _, h, _ => h
 | z :: l, seen, q, h, hl => by
  rw [List.foldl_cons]
  by_cases hz : z ∈ seen
  ·have e : addI p (seen, q) z = (seen, q) := by simp [addI, hz]
   rw [e]; exact seen_add p l h fun u hu => hl u (by simp [hu])
  ·have e : addI p (seen, q) z = (seen ++ [z], q ++ [(p ++ [z.1], z)]) := by simp [addI, hz]
   rw [e]
   refine seen_add p l ⟨?_, fun y hy => ?_⟩ fun u hu => hl u (by simp [hu])
   ·rw [List.nodup_append]
    exact ⟨h.nd, by simp, fun a ha b hb => by simp at hb; subst hb; exact fun e => hz (e ▸ ha)⟩
   ·rcases List.mem_append.1 hy with hy | hy
    ·exact h.r y hy
    ·simp at hy; subst hy; exact hl y (by simp)
section
variable {S : Pr → List Pr} {al : Int} {beg : Pr}
end
inductive Bk (m : MpP) (beg : Pr) : List Int → Pr → Prop
 | one : Bk m beg [beg.1] beg
 | snoc (p : List Int) (y z : Pr) : Bk m beg p y → z ≠ beg → pget m z = some y → Bk m beg (p ++ [z.1]) z
theorem Bk.put {m : MpP} {beg : Pr} {p : List Int} {y : Pr} (h : Bk m beg p y) {k : Pr} (hk : pget m k = none) (v : Pr) : Bk (pput m k v) beg p y := by
 induction h with
 | one => exact .one
 | snoc p y z h1 h2 h3 ih =>
  refine .snoc p y z ih h2 ?_
  rw [pget_put, if_neg fun e => by rw [e, hk] at h3; cases h3]
  exact h3
theorem Bk.last {m : MpP} {beg : Pr} {p : List Int} {y : Pr} (h : Bk m beg p y) : ∃ r, p = r ++ [y.1] := by
 cases h with
 | one => exact ⟨[], rfl⟩
 | snoc p y z h1 h2 h3 => exact ⟨p, rfl⟩
theorem Bk.inv {m : MpP} {beg : Pr} {r : List Int} {y : Pr} (h : Bk m beg (r ++ [y.1]) y) : (y = beg ∧ r = []) ∨ (y ≠ beg ∧ ∃ u r', pget m y = some u ∧ r = r' ++ [u.1] ∧ Bk m beg (r' ++ [u.1]) u) := by
 generalize hp : r ++ [y.1] = p at h
 cases h with
 | one =>
  left
  refine ⟨rfl, ?_⟩
  have := congrArg List.length hp
  simp only [List.length_append, List.length_cons, List.length_nil] at this
  exact List.length_eq_zero_iff.1 (by omega)
 | snoc p' u z h1 h2 h3 =>
  right
  have e := (List.append_inj' hp rfl).1
  subst e
  obtain ⟨r', e⟩ := h1.last
  exact ⟨h2, u, r', h3, e, by rw [← e]; exact h1⟩
def addW (x : Pr) (st : MpP × List Pr) (z : Pr) : MpP × List Pr := if (pget st.1 z).isSome then st else (pput st.1 z x, st.2 ++ [z])
theorem addW_len (x : Pr) : ∀ (l : List Pr) (m : MpP) (wt : List Pr), (l.foldl (addW x) (m, wt)).2.length ≤ wt.length + l.length
 | [], m, wt => by simp
 | z :: l, m, wt => by
  rw [List.foldl_cons]
  by_cases h : (pget m z).isSome = true
  ·have e : addW x (m, wt) z = (m, wt) := by simp [addW, h]
   rw [e]; have := addW_len x l m wt; simp only [List.length_cons]; omega
  ·have e : addW x (m, wt) z = (pput m z x, wt ++ [z]) := by simp [addW, h]
   rw [e]; have := addW_len x l (pput m z x) (wt ++ [z]); simp only [List.length_cons, List.length_append, List.length_nil] at this ⊢; omega
structure SwOk (beg : Pr) (seen : List Pr) (q : List It) (m : MpP) (wt : List Pr) : Prop where
 w : wt = q.map (·.2)
 k : ∀ y, (pget m y).isSome = true ↔ y ∈ seen
 b : ∀ x ∈ q, Bk m beg x.1 x.2
 l : ∀ x ∈ q, x.1.length ≤ seen.length
 g : beg ∈ seen
theorem sw_start (beg : Pr) : SwOk beg [beg] [([beg.1], beg)] (pput [] beg beg) [beg] := by
 refine ⟨rfl, fun y => ?_, fun x hx => ?_, fun x hx => ?_, by simp⟩
 ·rw [pget_put]
  by_cases e : y = beg
  ·simp [e]
  ·simp [e, pget]
 ·simp at hx; subst hx; exact .one
 ·simp at hx; subst hx; simp
theorem sw_add {beg : Pr} {p : List Int} {y : Pr} : ∀ (l : List Pr) {seen : List Pr} {q : List It} {m : MpP} {wt : List Pr}, SwOk beg seen q m wt → Bk m beg p y → p.length ≤ seen.length →
  SwOk beg (l.foldl (addI p) (seen, q)).1 (l.foldl (addI p) (seen, q)).2 (l.foldl (addW y) (m, wt)).1 (l.foldl (addW y) (m, wt)).2
 | [], _, _, _, _, h, _, _ => h
 | z :: l, seen, q, m, wt, h, hb, hl => by
  rw [List.foldl_cons, List.foldl_cons]
  by_cases hz : z ∈ seen
  ·have e : addI p (seen, q) z = (seen, q) := by simp [addI, hz]
   have e2 : addW y (m, wt) z = (m, wt) := by simp [addW, (h.k z).2 hz]
   rw [e, e2]; exact sw_add l h hb hl
  ·have hn : pget m z = none := by
    cases hg : pget m z with
    | none => rfl
    | some v => exact absurd ((h.k z).1 (by rw [hg]; rfl)) hz
   have e : addI p (seen, q) z = (seen ++ [z], q ++ [(p ++ [z.1], z)]) := by simp [addI, hz]
   have e2 : addW y (m, wt) z = (pput m z y, wt ++ [z]) := by simp [addW, hn]
   rw [e, e2]
   have hzb : z ≠ beg := fun e => hz (e ▸ h.g)
   refine sw_add l ⟨by rw [h.w]; simp, fun u => ?_, fun x hx => ?_, fun x hx => ?_, by simp [h.g]⟩ (hb.put hn y) (by simp; omega)
   ·rw [pget_put]
    by_cases eu : u = z
    ·simp [eu]
    ·rw [if_neg eu, h.k u]; simp [eu]
   ·rcases List.mem_append.1 hx with hx | hx
    ·exact (h.b x hx).put hn y
    ·simp at hx; subst hx
     exact .snoc p y z (hb.put hn y) hzb (by rw [pget_put, if_pos rfl])
   ·rcases List.mem_append.1 hx with hx | hx
    ·have := h.l x hx; simp; omega
    ·simp at hx; subst hx; simp; omega
theorem SwOk.tail {beg : Pr} {seen : List Pr} {p : List Int} {y : Pr} {q : List It} {m : MpP} {wt : List Pr} (h : SwOk beg seen ((p, y) :: q) m (y :: wt)) : SwOk beg seen q m wt :=
 ⟨by have := h.w; simpa using this, h.k, fun x hx => h.b x (by simp [hx]), fun x hx => h.l x (by simp [hx]), h.g⟩

def sucP (s : SkyW) (l : List Int) (y : Pr) : List Pr := (nbL s.w s.d s.sh y.1).map fun t => (t, (withN l y.2.toNat t : Int))
def begP (l : List Int) (frm : Int) : Pr := (frm, (withN l 0 frm : Int))
def allI (l : List Int) : Int := ((2 ^ l.length : Nat) : Int) - 1
def SFUEL : Nat := 40000
def searchO (s : SkyW) (frm : Int) (l : List Int) : Option (List Int) := bfsF (sucP s l) (allI l) SFUEL ([begP l frm], [([frm], begP l frm)])
def sweepB (s : SkyW) (frm : Int) (l : List Int) : Bool := skyB s && (freeB s.sh frm && !(l.any fun c => !freeB s.sh c))
def SweepR (s : SkyW) (frm : Int) (l : List Int) : D := if 8 < l.length then .tup [.nils, .int .i64 3] else if sweepB s frm l = true then (match searchO s frm l with
 | some p => .tup [.sl (intL p), .int .i64 0]
 | none => .tup [.nils, .int .i64 5]) else .tup [.nils, .int .i64 2]
theorem sucP_in {s : SkyW} (hs : SkyOk s) {l : List Int} {y : Pr} (hy : InP s.sh.length (2 ^ l.length) y) : ∀ z ∈ sucP s l y, InP s.sh.length (2 ^ l.length) z := fun z hz => by
 obtain ⟨t, ht, rfl⟩ := List.mem_map.1 hz
 have h1 := free_in (nbL_in hs hy.1 t ht)
 refine ⟨h1, by simp only; omega, ?_⟩
 have := withN_lt (l := l) (b := y.2.toNat) (by have := hy.2; omega) t
 simp only
 exact_mod_cast this
theorem beg_in {s : SkyW} {l : List Int} {frm : Int} (hf : freeB s.sh frm = true) : InP s.sh.length (2 ^ l.length) (begP l frm) := by
 refine ⟨free_in hf, by simp only [begP]; omega, ?_⟩
 have := withN_lt (l := l) (b := 0) (Nat.two_pow_pos _) frm
 simp only [begP]
 exact_mod_cast this
end Go.Sx

namespace Go.Sx
open Go.Proofs
set_option maxRecDepth 10000

def rvS (l : List Int) (i : Nat) : List Int := (List.range l.length).map fun k => if k < i ∨ l.length - i ≤ k then nAt l (l.length - 1 - k) else nAt l k
theorem rvS_len (l : List Int) (i : Nat) : (rvS l i).length = l.length := by simp [rvS]
theorem rvS_get (l : List Int) (i : Nat) {k : Nat} (hk : k < l.length) : (rvS l i)[k]? = some (if k < i ∨ l.length - i ≤ k then nAt l (l.length - 1 - k) else nAt l k) := by
 simp [rvS, hk]
theorem list_nAt {l : List Int} {r : List Int} (h : r.length = l.length) (h2 : ∀ k, k < l.length → r[k]? = some (nAt l k)) : r = l := by
 apply List.ext_getElem?
 intro k
 rcases Nat.lt_or_ge k l.length with hk | hk
 ·rw [h2 k hk, nAt_get hk]
 ·rw [List.getElem?_eq_none (by omega), List.getElem?_eq_none hk]
theorem rvS_zero (l : List Int) : rvS l 0 = l := list_nAt (rvS_len l 0) fun k hk => by rw [rvS_get l 0 hk, if_neg (by omega)]
theorem rvS_end (l : List Int) {i : Nat} (hi : l.length ≤ 2 * i + 1) : rvS l i = l.reverse := by
 apply List.ext_getElem?
 intro k
 rcases Nat.lt_or_ge k l.length with hk | hk
 ·rw [rvS_get l i hk, List.getElem?_reverse hk, nAt_get (by omega)]
  split
  ·rfl
  ·rw [show l.length - 1 - k = k by omega]
 ·rw [List.getElem?_eq_none (by rw [rvS_len]; exact hk), List.getElem?_eq_none (by simpa using hk)]
theorem rvS_step (l : List Int) {i : Nat} (hi : i < l.length - 1 - i) : ((rvS l i).set i (nAt l (l.length - 1 - i))).set (l.length - 1 - i) (nAt l i) = rvS l (i + 1) := by
 apply List.ext_getElem?
 intro k
 rcases Nat.lt_or_ge k l.length with hk | hk
 ·rw [rvS_get l (i + 1) hk, List.getElem?_set, List.getElem?_set]
  by_cases e1 : l.length - 1 - i = k
  ·rw [if_pos e1, if_pos (by simp [rvS_len]; omega), if_pos (by omega), show l.length - 1 - k = i by omega]
  ·rw [if_neg e1]
   by_cases e2 : i = k
   ·rw [if_pos e2, if_pos (by simp [rvS_len]; omega), if_pos (by omega), ← e2]
   ·rw [if_neg e2, rvS_get l i hk]
    by_cases e3 : k < i ∨ l.length - i ≤ k
    ·rw [if_pos e3, if_pos (by omega)]
    ·rw [if_neg e3, if_neg (by omega)]
 ·rw [List.getElem?_eq_none (by simp [rvS_len]; omega), List.getElem?_eq_none (by simp [rvS_len]; omega)]
set_option maxHeartbeats 1000000 in
theorem rev_t (l : List Int) (h1 : 1 ≤ l.length) (hl : l.length ≤ 100000) (b : Nat) : ACall Tryz.prog 57 [.osl b l.length] [(b, .arr 3 1 (intL l))] (b + 1) fun r h nid => r = .tup [] ∧ h = [(b, .arr 3 1 (intL l.reverse))] ∧ nid = b + 1 := by
 have q7 := fun h (hb : hget h b = some (.arr 3 1 (intL l))) => oI_len (n := l.length) hb rfl
 have hw := wrap_i64 (z := (l.length : Int) - 1) (by omega) (by omega)
 refine acall_of_wc (rs := []) (m := 28) [(3, [(16, false, false, [])])] oNone_ok (by kernel_rfl) Tryz.func57 rfl (by kernel_rfl) rfl rfl (by kernel_rfl) ?_
 simp only [RT, FS, ↓RE, okR, argEnv, Nat.reduceAdd, Nat.reduceSub, Nat.reduceLT, Nat.reduceLeDiff, Nat.reduceEqDiff, reduceIte, RM, q7, hw]
 refine loopV (ι := Nat) oNone_ok [(3, [(16, false, false, [])])] (fun i => [(0, .osl b l.length), (2, .int .i64 (i : Int)), (3, .int .i64 ((l.length : Int) - 1 - (i : Int)))])
  (fun i => [(b, .arr 3 1 (intL (rvS l i)))]) (b + 1) (fun i => 2 * i ≤ l.length) (fun i => l.length - i) 0 (by kernel_rfl) (by kernel_rfl) (by omega) ?_ ?_
 ·rw [rvS_zero]
  simp [headW, heapW, envW, blkLt, D.ltL, D.lt, look, hget]
 intro i hi
 by_cases hlt : i < l.length - 1 - i
 ·obtain ⟨j, hj⟩ : ∃ j : Nat, j = l.length - 1 - i := ⟨_, rfl⟩
  have hji : (l.length : Int) - 1 - (i : Int) = (j : Int) := by omega
  have hc : ((i : Int) < (j : Int)) = True := by simp; omega
  have x1 := fun h (hb : hget h b = some (.arr 3 1 (intL (rvS l i)))) => oI_ix (n := l.length) (i := i) hb (rvS_len l i) (by omega)
  have x2 := fun h (hb : hget h b = some (.arr 3 1 (intL (rvS l i)))) => oI_ix (n := l.length) (i := j) hb (rvS_len l i) (by omega)
  have l1 := fun h (hb : hget h b = some (.arr 3 1 (intL (rvS l i)))) => oI_load (n := l.length) (i := i) (x := nAt l i) hb (rvS_len l i) (by rw [rvS_get l i (by omega), if_neg (by omega)])
  have l2 := fun h (hb : hget h b = some (.arr 3 1 (intL (rvS l i)))) => oI_load (n := l.length) (i := j) (x := nAt l j) hb (rvS_len l i) (by rw [rvS_get l i (by omega), if_neg (by omega)])
  have s1 := fun h nid (hb : hget h b = some (.arr 3 1 (intL (rvS l i)))) => oI_store (n := l.length) (i := i) (x := nAt l i) hb (rvS_len l i) (by rw [rvS_get l i (by omega), if_neg (by omega)]) nid (nAt l j)
  have x3 := fun h (hb : hget h b = some (.arr 3 1 (intL ((rvS l i).set i (nAt l j))))) => oI_ix (n := l.length) (i := j) hb (by rw [List.length_set, rvS_len]) (by omega)
  have s2 := fun h nid (hb : hget h b = some (.arr 3 1 (intL ((rvS l i).set i (nAt l j))))) => oI_store (n := l.length) (i := j) (x := nAt l j) hb (by rw [List.length_set, rvS_len]) (by rw [List.getElem?_set_ne (by omega), rvS_get l i (by omega), if_neg (by omega)]) nid (nAt l i)
  have hw1 := wrap_i64 (z := (i : Int) + 1) (by omega) (by omega)
  have hw2 := wrap_i64 (z := (j : Int) - 1) (by omega) (by omega)
  have hS := rvS_step l hlt
  rw [← hj] at hS
  rw [hji]
  simp only [RT, FS, ↓RE, okR, argEnv, Nat.reduceAdd, Nat.reduceSub, Nat.reduceLT, Nat.reduceLeDiff, Nat.reduceEqDiff, reduceIte, RM, hc, decide_true, x1, x2, l1, l2, s1, x3, s2, hw1, hw2]
  exact ⟨i + 1, by omega, by omega, by rw [← hS]; simp [headW, heapW, envW, blkLt, D.ltL, D.lt, look, hget]; omega⟩
 ·have hc : ((i : Int) < (l.length : Int) - 1 - (i : Int)) = False := by simp; omega
  simp only [RT, FS, ↓RE, okR, argEnv, Nat.reduceAdd, Nat.reduceSub, Nat.reduceLT, Nat.reduceLeDiff, Nat.reduceEqDiff, reduceIte, RM, hc, decide_false]
  rw [rvS_end l (by omega)]
  exact ⟨rfl, rfl⟩
theorem wci_ix (l : List _) (x : D) (hx : En.sl enI x = some l) (g : FuncId) (caps : List D) (q : _ → Bool) (hl : l.length ≤ 9223372036854775807) (hcl : ∀ m, D.ltL m caps = true) (hcv : ∀ h, viewL h caps = caps)
  (hq : ∀ a ∈ l, Pure Tryz.prog g (.int .i64 a :: caps) (.bool (q a))) : Pure Tryz.prog 76 [x, .fn (.func g) [] caps] (.int .i64 (firstI q l 0)) := by
 have lx := fun hp => En.len (P := Tryz.prog) Fz.und_29 hx hp
 have vx := En.lt hx
 refine pure_of_wc (rs := [.tmp 4]) (m := 19) [] oNone_ok (by kernel_rfl) Tryz.func76 rfl (by kernel_rfl) rfl rfl (by kernel_rfl) ?_
 simp only [RT, FS, ↓RE, okR, argEnv, Nat.reduceAdd, Nat.reduceSub, Nat.reduceLT, Nat.reduceLeDiff, Nat.reduceEqDiff, reduceIte, lx]
 refine loopV (ι := Nat) oNone_ok [] (fun i => [(0, x), (1, .fn (.func g) [] caps), (7, .int .i64 (l.length : Int)), (8, .int .i64 (i : Int))])
  (fun i => []) 0 (fun i => i ≤ l.length ∧ (l.take i).all (fun r => !(q r)) = true) (fun i => l.length - i) 0 (by kernel_rfl) (by kernel_rfl) ⟨Nat.zero_le _, by simp⟩ ?_ ?_
 ·simp [headW, heapW, envW, blkLt, D.ltL, D.lt, look, hget, vx, hcl]
 rintro i ⟨hil, hok⟩
 rcases Nat.lt_or_ge i l.length with hlt | hge
 ·have hc : ((i : Int) < (l.length : Int)) = True := by simp [hlt]
  obtain ⟨r, hr⟩ : ∃ r, l[i]? = some r := ⟨l[i], by simp [hlt]⟩
  have hix := fun hp => En.ix (P := Tryz.prog) Fz.und_29 Fz.size_3 hx hr hp .i64
  have hw := wrap_i64 (z := (i : Int) + 1) (by omega) (by omega)
  have hqr := hq r (List.mem_of_getElem? hr)
  simp only [enI] at hix hqr
  simp only [RT, FS, ↓RE, okR, argEnv, Nat.reduceAdd, Nat.reduceSub, Nat.reduceLT, Nat.reduceLeDiff, Nat.reduceEqDiff, reduceIte, hix, hc, decide_true, List.nil_append, List.cons_append, hcv]
  refine call_of_pure hqr rfl ?_
  cases hm : q r
  ·simp only [RT, FS, ↓RE, okR, argEnv, Nat.reduceAdd, Nat.reduceSub, Nat.reduceLT, Nat.reduceLeDiff, Nat.reduceEqDiff, reduceIte, hw]
   exact ⟨i + 1, ⟨by omega, all_take hr hok (by simp [hm])⟩, by omega, by simp [headW, heapW, envW, blkLt, D.ltL, D.lt, look, hget, vx, hcl]⟩
  ·simp only [RT, FS, ↓RE, okR, argEnv, Nat.reduceAdd, Nat.reduceSub, Nat.reduceLT, Nat.reduceLeDiff, Nat.reduceEqDiff, reduceIte, hw]
   rw [firstI_at hok hr (by simp [hm])]; simp
 ·have hc : ((i : Int) < (l.length : Int)) = False := by simp; omega
  have : i = l.length := by omega
  subst this
  rw [List.take_length] at hok
  simp only [RT, FS, ↓RE, okR, argEnv, Nat.reduceAdd, Nat.reduceSub, Nat.reduceLT, Nat.reduceLeDiff, Nat.reduceEqDiff, reduceIte, hc, decide_false]
  rw [firstI_none hok]
theorem wci_has (l : List _) (x : D) (hx : En.sl enI x = some l) (g : FuncId) (caps : List D) (q : _ → Bool) (hl : l.length ≤ 9223372036854775807) (hcl : ∀ m, D.ltL m caps = true) (hcv : ∀ h, viewL h caps = caps)
  (hq : ∀ a ∈ l, Pure Tryz.prog g (.int .i64 a :: caps) (.bool (q a))) : Pure Tryz.prog 54 [x, .fn (.func g) [] caps] (.bool (l.any q)) := by
 have vx := fun h => En.view hx h
 refine pure_of_wc (rs := [.tmp 4]) (m := 9) [] oNone_ok (by kernel_rfl) Tryz.func54 rfl (by kernel_rfl) rfl rfl (by kernel_rfl) ?_
 simp only [RT, FS, ↓RE, okR, argEnv, Nat.reduceAdd, Nat.reduceSub, Nat.reduceLT, Nat.reduceLeDiff, Nat.reduceEqDiff, reduceIte, vx, view_fn, hcv]
 refine call_of_pure (wci_ix l x hx g caps q hl hcl hcv hq) rfl ?_
 simp only [RT, FS, ↓RE, okR, argEnv, Nat.reduceAdd, Nat.reduceSub, Nat.reduceLT, Nat.reduceLeDiff, Nat.reduceEqDiff, reduceIte, firstI_ge]


theorem sp_len {h : H} {b n : Nat} {l : List Pr} (hb : hget h b = some (.arr 103 2 (prL l))) (hn : l.length = n) : lenOpD Tryz.prog h 106 (.osl b n) = some (.int .i64 n) :=
 own_len Fz.und_106 hb (by rw [prL_len, hn])
theorem sp_ix0 {h : H} {b n : Nat} {l : List Pr} (hb : hget h b = some (.arr 103 2 (prL l))) (hn : l.length = n) (h0 : 0 < n) : indexAddrD Tryz.prog h 106 (.osl b n) (.int .i64 0) = some (.eptr b n 2 0 0) :=
 own_ix (i := 0) Fz.und_106 Fz.size_103 hb (by rw [prL_len, hn]) h0 .i64
theorem sp_load0 {h : H} {b n : Nat} {x y : Int} {l : List Pr} (hb : hget h b = some (.arr 103 2 (prL ((x, y) :: l)))) (hn : ((x, y) :: l).length = n) : loadAtD Tryz.prog h 103 (.eptr b n 2 0 0) = some (.agg [.int .i64 x, .int .i64 y]) := by
 rw [own_load hb (by rw [prL_len, hn]) (i := 0) (c := [.int .i64 x, .int .i64 y]) rfl 0]
 exact (loadD_agg Fz.agg_103 Fz.size_103 _ _).trans rfl
theorem sp_tail {h : H} {b n : Nat} {x : Pr} {l : List Pr} (hb : hget h b = some (.arr 103 2 (prL (x :: l)))) (hn : (x :: l).length = n) (nid : Nat) : sliceO Tryz.prog h nid 106 b n (some (.int .i64 1)) none = some (.osl nid (n - 1), (nid, .arr 103 2 (prL l)) :: herase h b, nid + 1) := by
 subst hn
 have h1 : (1 : Int) ≤ (l.length : Int) + 1 := by omega
 have h2 : (List.map enS.d l).take l.length = List.map enS.d l := List.take_of_length_le (by simp)
 simp [sliceO, Fz.und_106, hb, Fz.size_103, boundD, prL, h1, h2]
theorem sp_app {h : H} {b n b2 n2 : Nat} {l r : List Pr} (hb : hget h b = some (.arr 103 2 (prL l))) (hn : l.length = n) (hb2 : hget h b2 = some (.arr 103 2 (prL r))) (hn2 : r.length = n2) (nid : Nat) (hc : l.length + r.length ≤ 100000000000) :
  appE Tryz.prog h nid 106 106 (.osl b n) (.osl b2 n2) = some (.osl b (n + n2), hset h b (.arr 103 2 (prL (l ++ r))), nid) := by
 rw [app_osl Fz.und_106 Fz.size_103 Fz.zero_103 rfl (by omega) Fz.bytes_103_106 h nid b n b2 n2 hb (by rw [prL_len, hn]) hb2 (by rw [prL_len, hn2]) (prL_ok r) (by rw [prL_len, prL_len]; omega) (by rw [prL_len, prL_len]; omega), prL_len, prL_len, hn, hn2]
 simp [prL]
theorem sp_lit (h : H) (nid : Nat) (a b : Int) : litOpD Tryz.prog h nid 106 1 [(0, .agg [.int .i64 a, .int .i64 b])] = some (.osl nid 1, (nid, .arr 103 2 (prL [(a, b)])) :: h, nid + 1) := by kernel_rfl
theorem bef_und : Program.underlying Tryz.prog 105 = some (.map 103 103) := by kernel_rfl
theorem bf_put {h : H} {b : Nat} {m : MpP} (hb : hget h b = some (.map (pkv m))) (nid : Nat) (x y u v : Int) :
  mapUpdD Tryz.prog h nid 105 (.mp b) (.agg [.int .i64 x, .int .i64 y]) (.agg [.int .i64 u, .int .i64 v]) = some (.any, hset h b (.map (pkv (pput m (x, y) (u, v)))), nid) := pm_put bef_und sp_fit hb nid x y u v
theorem bf_look {h : H} {b : Nat} {m : MpP} (hb : hget h b = some (.map (pkv m))) (x y : Int) : lookupD Tryz.prog h 105 (.mp b) (.agg [.int .i64 x, .int .i64 y]) true =
  some (.tup [.agg [.int .i64 ((pget m (x, y)).getD (0, 0)).1, .int .i64 ((pget m (x, y)).getD (0, 0)).2], .bool (pget m (x, y)).isSome]) := pm_look bef_und sp_fit sp_zero hb x y
theorem bf_get {h : H} {b : Nat} {m : MpP} (hb : hget h b = some (.map (pkv m))) (x y : Int) : lookupD Tryz.prog h 105 (.mp b) (.agg [.int .i64 x, .int .i64 y]) false =
  some (.agg [.int .i64 ((pget m (x, y)).getD (0, 0)).1, .int .i64 ((pget m (x, y)).getD (0, 0)).2]) := pm_get bef_und sp_fit sp_zero hb x y
end Go.Sx
