/-
  Plain mathematics for the seat: tests, greatest common divisors. No program in sight.
-/
import Derived.WalkKit
namespace Go.Proofs.Ythagogjklocmoaa
open Go.RowKit

theorem hide {p : Prop} (h : p) : Hid p := h

/-- What the tests 'low to high' compute. -/
def inR (n lo hi : Int) : Bool := decide (lo ≤ n ∧ n ≤ hi)
theorem inR_true {n lo hi : Int} (h : inR n lo hi = true) : lo ≤ n ∧ n ≤ hi := of_decide_eq_true h
theorem inR_false {n lo hi : Int} (h : inR n lo hi = false) : ¬ (lo ≤ n ∧ n ≤ hi) := of_decide_eq_false h
theorem inR_mk {n lo hi : Int} (h : lo ≤ n ∧ n ≤ hi) : inR n lo hi = true := decide_eq_true h
theorem inR_no {n lo hi : Int} (h : ¬ (lo ≤ n ∧ n ≤ hi)) : inR n lo hi = false := decide_eq_false h

/-- The greatest common divisor, as an integer. -/
def gcdI (a b : Int) : Int := (Int.gcd a b : Int)

theorem gcdI_tmod (a b : Int) : gcdI b (a.tmod b) = gcdI a b := by
  unfold gcdI
  congr 1
  rw [Int.gcd_comm b, Int.gcd_eq_natAbs_gcd_natAbs, Int.gcd_eq_natAbs_gcd_natAbs, Int.natAbs_tmod, ← Nat.gcd_rec]
  exact Nat.gcd_comm _ _

theorem gcdI_emod (a b : Int) (ha : 0 ≤ a) : gcdI b (a % b) = gcdI a b := by
  rw [← Int.tmod_eq_emod_of_nonneg ha]; exact gcdI_tmod a b

theorem gcdI_zero (a : Int) : gcdI a 0 = if a < 0 then -a else a := by
  unfold gcdI; simp only [Int.gcd_zero_right]; split <;> omega

theorem gcdI_nonneg (a b : Int) : 0 ≤ gcdI a b := by unfold gcdI; omega

theorem gcdI_abs (a b : Int) : gcdI (if a < 0 then -a else a) b = gcdI a b := by
  unfold gcdI; split <;> simp

theorem gcdI_pos (a b : Int) (hb : 1 ≤ b) : 1 ≤ gcdI a b := by
  unfold gcdI
  have : 0 < Int.gcd a b := Int.gcd_pos_of_ne_zero_right a (by omega)
  omega

theorem gcdI_le (a b : Int) (ha : 1 ≤ a) : gcdI a b ≤ a := by
  unfold gcdI
  exact Int.le_of_dvd (by omega) (Int.gcd_dvd_left ..)
theorem gcdI_le_right (a b : Int) (hb : 1 ≤ b) : gcdI a b ≤ b := by
  unfold gcdI
  exact Int.le_of_dvd (by omega) (Int.gcd_dvd_right ..)

theorem tmod_lt (a b : Int) (hb : b ≠ 0) : -(b.natAbs : Int) < a.tmod b ∧ a.tmod b < (b.natAbs : Int) := by
  have h : (a.tmod b).natAbs < b.natAbs := by rw [Int.natAbs_tmod]; exact Nat.mod_lt _ (by omega)
  generalize a.tmod b = c at *
  omega
theorem tmod_lt' (a b : Int) (hb : b ≠ 0) : (a.tmod b).natAbs < b.natAbs := by
  rw [Int.natAbs_tmod]; exact Nat.mod_lt _ (by omega)
end Go.Proofs.Ythagogjklocmoaa
