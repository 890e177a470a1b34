/-
  Compare, Floor, Round, Scale: contracts and the walks of their laws.
-/
import Derived.Test.YtnlimfijepjliaaDoorTwo
namespace Go.Proofs.YtnlimfijepjliaaDoor
open Go.RowKit

/-! ### Plain: quotients rounded down and to the nearest -/
theorem fdiv_t (n d : Int) (hd : 1 ≤ d) : n.tdiv d = if n.tmod d < 0 then n / d + 1 else n / d := by
  have h1 := Int.tmod_add_mul_tdiv n d
  have h2 := Int.emod_add_mul_ediv n d
  have h3 := Int.emod_nonneg n (by omega : d ≠ 0)
  have h4 := Int.emod_lt_of_pos n (by omega : 0 < d)
  rcases Int.le_total 0 n with h | h
  · rw [Int.tmod_eq_emod_of_nonneg h, if_neg (by omega), Int.tdiv_eq_ediv_of_nonneg h]
  · have h5 : n.tmod d ≤ 0 := by
      have := Int.tmod_nonneg d (a := -n) (by omega)
      rw [Int.neg_tmod] at this; omega
    have h6 : -d < n.tmod d := by
      have := Int.tmod_lt_of_pos (-n) (b := d) (by omega)
      rw [Int.neg_tmod] at this; omega
    have e : d * (n.tdiv d) - d * (n / d) = n % d - n.tmod d := by omega
    rw [← Int.mul_sub] at e
    split
    · rename_i hneg
      have : n.tdiv d - n / d = 1 := by
        have a1 : 0 < d * (n.tdiv d - n / d) := by omega
        have a2 : d * (n.tdiv d - n / d) < d * 2 := by omega
        have b1 := Int.pos_of_mul_pos_left (a := n.tdiv d - n / d) (b := d) (by rw [Int.mul_comm]; exact a1) (by omega)
        have b2 := Int.lt_of_mul_lt_mul_left a2 (by omega)
        omega
      omega
    · rename_i hneg
      have hz : n.tmod d = 0 := by omega
      have a2 : d * (n.tdiv d - n / d) < d * 1 := by omega
      have a1 : d * (-1) < d * (n.tdiv d - n / d) := by omega
      have b2 := Int.lt_of_mul_lt_mul_left a2 (by omega)
      have b1 := Int.lt_of_mul_lt_mul_left a1 (by omega)
      omega
/-- n / d to the nearest integer, halves up. -/
def near (n d : Int) : Int := (2 * n + d) / (2 * d)
theorem near_eq (n d : Int) (hd : 1 ≤ d) : near n d = if d - (n - n / d * d) ≤ n - n / d * d then n / d + 1 else n / d := by
  unfold near
  have h2 := Int.emod_add_mul_ediv n d
  have h3 := Int.emod_nonneg n (by omega : d ≠ 0)
  have h4 := Int.emod_lt_of_pos n (by omega : 0 < d)
  generalize n / d = q at *
  generalize n % d = r at *
  have e : n - q * d = r := by rw [Int.mul_comm]; omega
  rw [e]
  have e2 : 2 * n + d = (2 * r + d) + (2 * d) * q := by rw [Int.mul_assoc]; omega
  rw [e2, Int.add_mul_ediv_left _ _ (by omega)]
  split
  · have : (2 * r + d) / (2 * d) = 1 := by
      rw [Int.ediv_eq_iff_of_pos (by omega)]; omega
    omega
  · have : (2 * r + d) / (2 * d) = 0 := Int.ediv_eq_zero_of_lt (by omega) (by omega)
    omega
theorem ediv_bd (n d B : Int) (hd : 1 ≤ d) (h : -B ≤ n ∧ n ≤ B) (hB : 0 ≤ B) : -B ≤ n / d ∧ n / d ≤ B := by
  constructor
  · rw [Int.le_ediv_iff_mul_le (by omega)]
    have : B * 1 ≤ B * d := Int.mul_le_mul_of_nonneg_left hd hB
    rw [Int.neg_mul]; omega
  · rcases Int.le_total 0 n with h0 | h0
    · have := Int.ediv_le_self d h0; omega
    · have : n / d ≤ 0 := by
        have := Int.ediv_le_ediv (c := d) (by omega) h0
        simpa using this
      omega
def cmpI (a b c d : Int) : Int := if a * d < c * b then -1 else if c * b < a * d then 1 else 0
def cmpR (a b c d : Int) : Int := if both (validR a b) (validR c d) then cmpI a b c d else 0
def floorR (a b : Int) : Int := if validR a b then a / b else 0
def roundR (a b : Int) : Int := if validR a b then near a b else 0
def scale0 (n a b : Int) : Int := if both (validR a b) (inR n (-1000000000) 1000000000) then near (n * a) b else 0
def scale1 (n a b : Int) : Int := if validR a b then (if inR n (-1000000000) 1000000000 then 0 else 2) else 1
theorem floorDiv_any (n d : Int) (w : World) (hn : -4000000000000000000 ≤ n ∧ n ≤ 4000000000000000000) (hd : 1 ≤ d ∧ d ≤ 4000000000000000000) :
    Calls Tryd.prog 105 #[.int .i64 n, .int .i64 d] w fun e w' => e = .returned (.int .i64 (n / d)) ∧ w = w' := by
  have hq := ediv_bd n d 4000000000000000000 hd.1 hn (by omega)
  have hz : (d == 0) = false := by simp; omega
  have ht := fdiv_t n d hd.1
  by_cases h0 : 0 ≤ n
  · have h3 := Int.emod_nonneg n (by omega : d ≠ 0)
    clear ht
    go_enter Tryd.func105, Tryd.ntmps105
    go_wp2
    go_ret
    exact ⟨rfl, rfl⟩
  · by_cases hm : n.tmod d < 0
    · rw [if_pos hm] at ht
      have HT := hide ht
      have hb : -4000000000000000000 ≤ n.tdiv d ∧ n.tdiv d ≤ 4000000000000000001 := by omega
      clear ht
      go_enter Tryd.func105, Tryd.ntmps105
      go_wp2
      go_ret
      exact ⟨ret_int (by rw [HT.out]; omega), rfl⟩
    · rw [if_neg hm] at ht
      have HT := hide ht
      clear ht
      go_enter Tryd.func105, Tryd.ntmps105
      go_wp2
      go_ret
      exact ⟨ret_int HT.out, rfl⟩
end Go.Proofs.YtnlimfijepjliaaDoor
