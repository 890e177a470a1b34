/-
  Plain mathematics of ratios: validity and the reduced ratio of two numbers. No program in sight.
-/
import Derived.Test.YthagogjklocmoaaPlain
namespace Go.Proofs.Ythagogjklocmoaa
open Go.RowKit

/-- Whether n / d is a valid ratio. -/
def validR (n d : Int) : Bool := inR d 1 1000000000 && (inR n (-1000000000) 1000000000 && (gcdI n d == 1))
theorem validR_true {n d : Int} (h : validR n d = true) : (1 ≤ d ∧ d ≤ 1000000000) ∧ (-1000000000 ≤ n ∧ n ≤ 1000000000) ∧ gcdI n d = 1 := by
  unfold validR at h
  simp only [Bool.and_eq_true, beq_iff_eq] at h
  exact ⟨inR_true h.1, inR_true h.2.1, h.2.2⟩
theorem validR_mk {n d : Int} (h1 : 1 ≤ d ∧ d ≤ 1000000000) (h2 : -1000000000 ≤ n ∧ n ≤ 1000000000) (h3 : gcdI n d = 1) : validR n d = true := by
  unfold validR; rw [inR_mk h1, inR_mk h2, h3]; rfl

/-- The absolute value. -/
def absI (n : Int) : Int := (n.natAbs : Int)
theorem absI_nonneg (n : Int) : 0 ≤ absI n := by unfold absI; omega
theorem absI_of_neg {n : Int} (h : n < 0) : absI n = -n := by unfold absI; omega
theorem absI_of_nonneg {n : Int} (h : ¬ n < 0) : absI n = n := by unfold absI; omega
theorem gcdI_absI (a b : Int) : gcdI (absI a) (absI b) = gcdI a b := by unfold gcdI absI; simp [Int.gcd]
theorem gcdI_absI_left (a b : Int) : gcdI (absI a) b = gcdI a b := by unfold gcdI absI; simp [Int.gcd]

def qN (n d : Int) : Int := absI n / gcdI n d
def qD (n d : Int) : Int := absI d / gcdI n d
/-- Whether the reduced ratio is valid; its parts. -/
def mkOk (n d : Int) : Bool := decide (qN n d ≤ 1000000000) && decide (qD n d ≤ 1000000000)
def sgnd (n d : Int) : Bool := decide (n < 0) != decide (d < 0)
def mkN (n d : Int) : Int := if mkOk n d then (if sgnd n d then -qN n d else qN n d) else 0
def mkD (n d : Int) : Int := if mkOk n d then qD n d else 0
theorem q_bd (n d : Int) (hn : absI n ≤ 9223372036854775808) (hd : absI d ≤ 9223372036854775808) (h0 : d ≠ 0) : 1 ≤ gcdI n d ∧ gcdI n d ≤ 9223372036854775808 ∧ 0 ≤ qN n d ∧ qN n d ≤ 9223372036854775808 ∧ 1 ≤ qD n d ∧ qD n d ≤ 9223372036854775808 := by
  have hp : 1 ≤ gcdI n d := by
    have : 0 < Int.gcd n d := Int.gcd_pos_of_ne_zero_right n h0
    unfold gcdI; omega
  have hdd : gcdI n d ∣ absI d := by
    unfold gcdI absI; exact Int.natCast_dvd_natCast.2 (by rw [Int.gcd_eq_natAbs_gcd_natAbs]; exact Nat.gcd_dvd_right _ _)
  have hpos : 1 ≤ absI d := by unfold absI; omega
  have h1 : gcdI n d ≤ absI d := Int.le_of_dvd (by omega) hdd
  have h2 : 0 ≤ absI n / gcdI n d := Int.ediv_nonneg (absI_nonneg n) (by omega)
  have h3 : absI n / gcdI n d ≤ absI n := Int.ediv_le_self _ (absI_nonneg n)
  have h4 : 1 ≤ absI d / gcdI n d := by
    have := Int.ediv_pos_of_pos_of_dvd (by omega : 0 < absI d) (by omega) hdd
    omega
  have h5 : absI d / gcdI n d ≤ absI d := Int.ediv_le_self _ (by omega)
  unfold qN qD
  omega
theorem mkOk_true {n d : Int} (h : mkOk n d = true) : qN n d ≤ 1000000000 ∧ qD n d ≤ 1000000000 := by
  unfold mkOk at h; simpa using h
theorem gcd_quot (a b : Int) (h0 : b ≠ 0) : gcdI (qN a b) (qD a b) = 1 := by
  have hp : 0 < Int.gcd a b := Int.gcd_pos_of_ne_zero_right a h0
  have e1 : qN a b = ((a.natAbs / Nat.gcd a.natAbs b.natAbs : Nat) : Int) := by
    unfold qN absI gcdI; rw [Int.gcd_eq_natAbs_gcd_natAbs]; rfl
  have e2 : qD a b = ((b.natAbs / Nat.gcd a.natAbs b.natAbs : Nat) : Int) := by
    unfold qD absI gcdI; rw [Int.gcd_eq_natAbs_gcd_natAbs]; rfl
  rw [e1, e2]
  unfold gcdI
  rw [Int.gcd_natCast_natCast, Nat.gcd_div (Nat.gcd_dvd_left _ _) (Nat.gcd_dvd_right _ _), Nat.div_self (by rw [← Int.gcd_eq_natAbs_gcd_natAbs]; exact hp)]
  rfl
theorem gcdI_neg (a b : Int) : gcdI (-a) b = gcdI a b := by unfold gcdI; simp
theorem mk_valid {n d : Int} (h0 : d ≠ 0) (hn : absI n ≤ 9223372036854775808) (hd : absI d ≤ 9223372036854775808) (h : mkOk n d = true) : validR (mkN n d) (mkD n d) = true := by
  obtain ⟨h1, h2⟩ := mkOk_true h
  obtain ⟨_, _, h3, _, h4, _⟩ := q_bd n d hn hd h0
  unfold mkN mkD
  rw [if_pos h, if_pos h]
  refine validR_mk (by omega) ?_ ?_
  · split <;> omega
  · split
    · rw [gcdI_neg]; exact gcd_quot n d h0
    · exact gcd_quot n d h0
/-- MakeRatio: the parts and the code. -/
def mrN (n d : Int) : Int := if d = 0 then 0 else mkN n d
def mrD (n d : Int) : Int := if d = 0 then 0 else mkD n d
def mrC (n d : Int) : Int := if d = 0 then 6 else if mkOk n d then 0 else 2
end Go.Proofs.Ythagogjklocmoaa
