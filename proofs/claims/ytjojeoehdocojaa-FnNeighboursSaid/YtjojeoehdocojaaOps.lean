/-
  Contracts of the operations on two ratios.
-/
import Derived.Test.YtjojeoehdocojaaTwo
namespace Go.Proofs.Ytjojeoehdocojaa
open Go.RowKit

theorem mulB (x y : Int) (hx : -1000000000 ≤ x ∧ x ≤ 1000000000) (hy : -1000000000 ≤ y ∧ y ≤ 1000000000) : -1000000000000000000 ≤ x * y ∧ x * y ≤ 1000000000000000000 := by
  have h : (x * y).natAbs ≤ 1000000000 * 1000000000 := by
    rw [Int.natAbs_mul]; exact Nat.mul_le_mul (by omega) (by omega)
  generalize x * y = z at *
  omega
theorem mulNe (x y : Int) (hx : x ≠ 0) (hy : y ≠ 0) : x * y ≠ 0 := Int.mul_ne_zero hx hy
theorem mrN_of (n : Int) {d : Int} (h : d ≠ 0) : mrN n d = mkN n d := by unfold mrN; rw [if_neg h]
theorem mrD_of (n : Int) {d : Int} (h : d ≠ 0) : mrD n d = mkD n d := by unfold mrD; rw [if_neg h]
theorem mrC_of (n : Int) {d : Int} (h : d ≠ 0) : mrC n d = codeOf (mkOk n d) := by unfold mrC codeOf; rw [if_neg h]
def addN (a b c d : Int) : Int := if both (validR a b) (validR c d) then mrN (a * d + c * b) (b * d) else 0
def addD (a b c d : Int) : Int := if both (validR a b) (validR c d) then mrD (a * d + c * b) (b * d) else 0
def addC (a b c d : Int) : Int := if both (validR a b) (validR c d) then mrC (a * d + c * b) (b * d) else 1
theorem add_f1 {a b : Int} (c d : Int) (h : validR a b = false) : addN a b c d = 0 ∧ addD a b c d = 0 ∧ addC a b c d = 1 := by unfold addN addD addC; rw [both_f1 h]; exact ⟨rfl, rfl, rfl⟩
theorem add_f2 {c d : Int} (a b : Int) (h : validR c d = false) : addN a b c d = 0 ∧ addD a b c d = 0 ∧ addC a b c d = 1 := by unfold addN addD addC; rw [both_f2 h]; exact ⟨rfl, rfl, rfl⟩
theorem add_tt {a b c d : Int} (h : validR a b = true) (h' : validR c d = true) : addN a b c d = mrN (a * d + c * b) (b * d) ∧ addD a b c d = mrD (a * d + c * b) (b * d) ∧ addC a b c d = mrC (a * d + c * b) (b * d) := by unfold addN addD addC; rw [both_tt h h']; exact ⟨rfl, rfl, rfl⟩
def subN (a b c d : Int) : Int := if both (validR a b) (validR c d) then mrN (a * d - c * b) (b * d) else 0
def subD (a b c d : Int) : Int := if both (validR a b) (validR c d) then mrD (a * d - c * b) (b * d) else 0
def subC (a b c d : Int) : Int := if both (validR a b) (validR c d) then mrC (a * d - c * b) (b * d) else 1
theorem sub_f1 {a b : Int} (c d : Int) (h : validR a b = false) : subN a b c d = 0 ∧ subD a b c d = 0 ∧ subC a b c d = 1 := by unfold subN subD subC; rw [both_f1 h]; exact ⟨rfl, rfl, rfl⟩
theorem sub_f2 {c d : Int} (a b : Int) (h : validR c d = false) : subN a b c d = 0 ∧ subD a b c d = 0 ∧ subC a b c d = 1 := by unfold subN subD subC; rw [both_f2 h]; exact ⟨rfl, rfl, rfl⟩
theorem sub_tt {a b c d : Int} (h : validR a b = true) (h' : validR c d = true) : subN a b c d = mrN (a * d - c * b) (b * d) ∧ subD a b c d = mrD (a * d - c * b) (b * d) ∧ subC a b c d = mrC (a * d - c * b) (b * d) := by unfold subN subD subC; rw [both_tt h h']; exact ⟨rfl, rfl, rfl⟩
def mulN (a b c d : Int) : Int := if both (validR a b) (validR c d) then mrN (a * c) (b * d) else 0
def mulD (a b c d : Int) : Int := if both (validR a b) (validR c d) then mrD (a * c) (b * d) else 0
def mulC (a b c d : Int) : Int := if both (validR a b) (validR c d) then mrC (a * c) (b * d) else 1
theorem mul_f1 {a b : Int} (c d : Int) (h : validR a b = false) : mulN a b c d = 0 ∧ mulD a b c d = 0 ∧ mulC a b c d = 1 := by unfold mulN mulD mulC; rw [both_f1 h]; exact ⟨rfl, rfl, rfl⟩
theorem mul_f2 {c d : Int} (a b : Int) (h : validR c d = false) : mulN a b c d = 0 ∧ mulD a b c d = 0 ∧ mulC a b c d = 1 := by unfold mulN mulD mulC; rw [both_f2 h]; exact ⟨rfl, rfl, rfl⟩
theorem mul_tt {a b c d : Int} (h : validR a b = true) (h' : validR c d = true) : mulN a b c d = mrN (a * c) (b * d) ∧ mulD a b c d = mrD (a * c) (b * d) ∧ mulC a b c d = mrC (a * c) (b * d) := by unfold mulN mulD mulC; rw [both_tt h h']; exact ⟨rfl, rfl, rfl⟩
def divN (a b c d : Int) : Int := if both (validR a b) (validR c d) then mrN (a * d) (b * c) else 0
def divD (a b c d : Int) : Int := if both (validR a b) (validR c d) then mrD (a * d) (b * c) else 0
def divC (a b c d : Int) : Int := if both (validR a b) (validR c d) then mrC (a * d) (b * c) else 1
theorem div_f1 {a b : Int} (c d : Int) (h : validR a b = false) : divN a b c d = 0 ∧ divD a b c d = 0 ∧ divC a b c d = 1 := by unfold divN divD divC; rw [both_f1 h]; exact ⟨rfl, rfl, rfl⟩
theorem div_f2 {c d : Int} (a b : Int) (h : validR c d = false) : divN a b c d = 0 ∧ divD a b c d = 0 ∧ divC a b c d = 1 := by unfold divN divD divC; rw [both_f2 h]; exact ⟨rfl, rfl, rfl⟩
theorem div_tt {a b c d : Int} (h : validR a b = true) (h' : validR c d = true) : divN a b c d = mrN (a * d) (b * c) ∧ divD a b c d = mrD (a * d) (b * c) ∧ divC a b c d = mrC (a * d) (b * c) := by unfold divN divD divC; rw [both_tt h h']; exact ⟨rfl, rfl, rfl⟩
def mediantN (a b c d : Int) : Int := if both (validR a b) (validR c d) then mrN (a + c) (b + d) else 0
def mediantD (a b c d : Int) : Int := if both (validR a b) (validR c d) then mrD (a + c) (b + d) else 0
def mediantC (a b c d : Int) : Int := if both (validR a b) (validR c d) then mrC (a + c) (b + d) else 1
theorem mediant_f1 {a b : Int} (c d : Int) (h : validR a b = false) : mediantN a b c d = 0 ∧ mediantD a b c d = 0 ∧ mediantC a b c d = 1 := by unfold mediantN mediantD mediantC; rw [both_f1 h]; exact ⟨rfl, rfl, rfl⟩
theorem mediant_f2 {c d : Int} (a b : Int) (h : validR c d = false) : mediantN a b c d = 0 ∧ mediantD a b c d = 0 ∧ mediantC a b c d = 1 := by unfold mediantN mediantD mediantC; rw [both_f2 h]; exact ⟨rfl, rfl, rfl⟩
theorem mediant_tt {a b c d : Int} (h : validR a b = true) (h' : validR c d = true) : mediantN a b c d = mrN (a + c) (b + d) ∧ mediantD a b c d = mrD (a + c) (b + d) ∧ mediantC a b c d = mrC (a + c) (b + d) := by unfold mediantN mediantD mediantC; rw [both_tt h h']; exact ⟨rfl, rfl, rfl⟩
end Go.Proofs.Ytjojeoehdocojaa
