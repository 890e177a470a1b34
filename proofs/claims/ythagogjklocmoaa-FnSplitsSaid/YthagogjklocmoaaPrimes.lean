/-
  Plain mathematics for the seat: the prime factors by trial division. No program in sight.
-/
import Derived.Test.YthagogjklocmoaaPlain
namespace Go.Proofs.Ythagogjklocmoaa
open Go.RowKit

/-- The factors p that are taken out of n, and what is left. -/
def strip (p n : Int) : List Int × Int :=
  if _h : 2 ≤ p ∧ 1 ≤ n ∧ n % p = 0 then (p :: (strip p (n / p)).1, (strip p (n / p)).2) else ([], n)
  termination_by n.toNat
  decreasing_by
    all_goals
      have h1 : n / p < n := Int.ediv_lt_self_of_pos_of_ne_one (by omega) (by omega) 
      omega

theorem strip_no (p n : Int) (h : ¬ n % p = 0) : strip p n = ([], n) := by
  rw [strip, dif_neg (fun c => h c.2.2)]
theorem strip_yes (p n : Int) (hp : 2 ≤ p) (hn : 1 ≤ n) (h : n % p = 0) : strip p n = (p :: (strip p (n / p)).1, (strip p (n / p)).2) := by
  rw [strip, dif_pos ⟨hp, hn, h⟩]

theorem div_pos_of_dvd (p n : Int) (hp : 2 ≤ p) (hn : 1 ≤ n) (h : n % p = 0) : 1 ≤ n / p ∧ n / p < n ∧ n / p * p = n := by
  have e : n / p * p = n := Int.ediv_mul_cancel (Int.dvd_of_emod_eq_zero h)
  have h1 : 1 ≤ n / p := by
    have : 0 < n / p := by
      apply Int.pos_of_mul_pos_left (b := p)
      · rw [e]; omega
      · omega
    omega
  refine ⟨h1, ?_, e⟩
  have : n / p * 2 ≤ n / p * p := Int.mul_le_mul_of_nonneg_left hp (by omega)
  omega

theorem strip_bd (p n : Int) (hn : 1 ≤ n) : 1 ≤ (strip p n).2 ∧ (strip p n).2 ≤ n := by
  induction n using strip.induct (p := p) with
  | case1 n h ih =>
    obtain ⟨h1, h2, h3⟩ := div_pos_of_dvd p n h.1 h.2.1 h.2.2
    rw [strip, dif_pos h]
    have := ih h1
    exact ⟨this.1, by simp only; omega⟩
  | case2 n h =>
    rw [strip, dif_neg h]
    exact ⟨hn, by simp⟩

/-- The prime factors from p on. -/
def fac (p n : Int) : List Int :=
  if _h : 2 ≤ p ∧ p * p ≤ n then (strip p n).1 ++ fac (p + 1) (strip p n).2 else if 1 < n then [n] else []
  termination_by (n + 1 - p).toNat
  decreasing_by
    have h0 : p * 2 ≤ p * p := Int.mul_le_mul_of_nonneg_left _h.1 (by omega)
    have := strip_bd p n (by omega)
    omega

theorem fac_go (p n : Int) (hp : 2 ≤ p) (h : p * p ≤ n) : fac p n = (strip p n).1 ++ fac (p + 1) (strip p n).2 := by
  rw [fac, dif_pos ⟨hp, h⟩]
theorem fac_end (p n : Int) (h : ¬ p * p ≤ n) : fac p n = if 1 < n then [n] else [] := by
  rw [fac, dif_neg (fun c => h c.2)]
theorem strip_len (p n : Int) (hn : 1 ≤ n) : ((strip p n).1.length : Int) + (strip p n).2 ≤ n := by
  induction n using strip.induct (p := p) with
  | case1 n h ih =>
    obtain ⟨h1, h2, h3⟩ := div_pos_of_dvd p n h.1 h.2.1 h.2.2
    rw [strip, dif_pos h]
    have := ih h1
    simp only [List.length_cons]
    omega
  | case2 n h =>
    rw [strip, dif_neg h]
    simp
theorem fac_len (p n : Int) (hn : 1 ≤ n) : ((fac p n).length : Int) ≤ n := by
  induction p, n using fac.induct with
  | case1 p n h ih =>
    rw [fac, dif_pos h, List.length_append]
    have h1 := strip_len p n hn
    have h2 := ih (strip_bd p n hn).1
    omega
  | case2 p n h h1 => rw [fac, dif_neg h, if_pos h1]; simp; omega
  | case3 p n h h1 => rw [fac, dif_neg h, if_neg h1]; simp; omega
theorem sq_bd (p n : Int) (hp : 2 ≤ p) (h : p * p ≤ n) (hn : n ≤ 1000000000) : p ≤ 31622 := by
  by_cases c : p ≤ 31622
  · exact c
  · have h1 : 31623 * 31623 ≤ p * p := Int.mul_le_mul (by omega) (by omega) (by omega) (by omega)
    omega
end Go.Proofs.Ythagogjklocmoaa
