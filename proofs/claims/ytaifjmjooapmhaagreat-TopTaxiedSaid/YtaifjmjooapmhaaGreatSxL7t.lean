/- Own work: contracts of functions, used in the proof of a law. -/
import Derived.Test.YtaifjmjooapmhaaGreatSxTi
set_option linter.unusedVariables false
set_option linter.unusedSimpArgs false
namespace Go.Sx.L
open Go.Proofs
set_option maxRecDepth 10000

noncomputable def chK (n : Int) : Bool := match lowE (evF Tryz.prog tabL orC (tblO (entB n)) 1000 20 48 [.agg pK.c, lgD tK, .int .i64 n] [] 0) with
 | some d => D.same d (.sl (boL (bK n)))
 | none => false
def ns0 : List Int := [10000, 5000]
def ns1 : List Int := [2500, 1250]
def ns2 : List Int := [625, 312]
def ns3 : List Int := [156, 78]
def ns4 : List Int := [117, 98]
def ns5 : List Int := [88, 83]
def ns6 : List Int := [81, 80]
def ns7 : List Int := [79, 39]
def ns8 : List Int := [59, 49]
def ns9 : List Int := [54, 52]
def ns10 : List Int := [51, 50]
def ns11 : List Int := [234, 195]
def ns12 : List Int := [176, 166]
def ns13 : List Int := [161, 159]
def ns14 : List Int := [160, 0]
def ns15 : List Int := [20000]
theorem ch0 : ns0.all chK = true := by kernel_rfl
theorem ch1 : ns1.all chK = true := by kernel_rfl
theorem ch2 : ns2.all chK = true := by kernel_rfl
theorem ch3 : ns3.all chK = true := by kernel_rfl
theorem ch4 : ns4.all chK = true := by kernel_rfl
theorem ch5 : ns5.all chK = true := by kernel_rfl
theorem ch6 : ns6.all chK = true := by kernel_rfl
theorem ch7 : ns7.all chK = true := by kernel_rfl
theorem ch8 : ns8.all chK = true := by kernel_rfl
theorem ch9 : ns9.all chK = true := by kernel_rfl
theorem ch10 : ns10.all chK = true := by kernel_rfl
theorem ch11 : ns11.all chK = true := by kernel_rfl
theorem ch12 : ns12.all chK = true := by kernel_rfl
theorem ch13 : ns13.all chK = true := by kernel_rfl
theorem ch14 : ns14.all chK = true := by kernel_rfl
theorem ch15 : ns15.all chK = true := by kernel_rfl
def nsK : List Int := ns0 ++ ns1 ++ ns2 ++ ns3 ++ ns4 ++ ns5 ++ ns6 ++ ns7 ++ ns8 ++ ns9 ++ ns10 ++ ns11 ++ ns12 ++ ns13 ++ ns14 ++ ns15
theorem brk_t (n : Int) (hn : n ∈ nsK) : Pure Tryz.prog 48 [.agg pK.c, lgD tK, .int .i64 n] (.sl (boL (bK n))) := by
 have h : chK n = true := by
  simp only [nsK, List.mem_append] at hn
  rcases hn with ((((((((((((((hn | hn) | hn) | hn) | hn) | hn) | hn) | hn) | hn) | hn) | hn) | hn) | hn) | hn) | hn) | hn
  ·exact List.all_eq_true.1 ch0 n hn
  ·exact List.all_eq_true.1 ch1 n hn
  ·exact List.all_eq_true.1 ch2 n hn
  ·exact List.all_eq_true.1 ch3 n hn
  ·exact List.all_eq_true.1 ch4 n hn
  ·exact List.all_eq_true.1 ch5 n hn
  ·exact List.all_eq_true.1 ch6 n hn
  ·exact List.all_eq_true.1 ch7 n hn
  ·exact List.all_eq_true.1 ch8 n hn
  ·exact List.all_eq_true.1 ch9 n hn
  ·exact List.all_eq_true.1 ch10 n hn
  ·exact List.all_eq_true.1 ch11 n hn
  ·exact List.all_eq_true.1 ch12 n hn
  ·exact List.all_eq_true.1 ch13 n hn
  ·exact List.all_eq_true.1 ch14 n hn
  ·exact List.all_eq_true.1 ch15 n hn
 unfold chK at h
 split at h
 ·rename_i d hd
  have e := D.same_eq h
  rw [← e]
  exact pure_of_ev (by kernel_rfl) tabL_ok orC_ok (tblO_ok (entB_ok n)) hd
 ·cases h
end Go.Sx.L
