/-
  Plain laws of convergents: on which side they lie. No program in sight.
-/
import Derived.Test.YtjojeoehdocojaaNear
import Derived.Test.YtjojeoehdocojaaSimple
import Derived.Test.YtjojeoehdocojaaTerms
namespace Go.Proofs.Ytjojeoehdocojaa
open Go.RowKit

/-- On which side the i-th convergent lies. -/
def sideOk (i : Nat) (x : Int) : Prop := if i % 2 = 0 then x < 0 else 0 < x
theorem side_flip {i : Nat} {x : Int} (h : sideOk i x) : sideOk (i + 1) (-x) := by
  unfold sideOk at h ⊢
  by_cases e : i % 2 = 0
  · rw [if_pos e] at h; rw [if_neg (by omega)]; omega
  · rw [if_neg e] at h; rw [if_pos (by omega)]; omega
theorem num_le {m e n d : Int} (hd : 1 ≤ d) (he : 1 ≤ e ∧ e ≤ d) (h : -d < m * d - n * e ∧ m * d - n * e < d) : absI m ≤ absI n := by
  have e1 : absI n * e ≤ absI n * d := Int.mul_le_mul_of_nonneg_left he.2 (absI_nonneg n)
  have key : ∀ x : Int, x * d < (absI n + 1) * d → x ≤ absI n := fun x hx => by
    have := Int.lt_of_mul_lt_mul_right hx (by omega)
    omega
  have e2 : (absI n + 1) * d = absI n * d + d := by grind
  have a1 : n * e ≤ absI n * e := Int.mul_le_mul_of_nonneg_right (by unfold absI; omega) (by omega)
  have a2 : -(absI n * e) ≤ n * e := by
    have : -absI n * e ≤ n * e := Int.mul_le_mul_of_nonneg_right (by unfold absI; omega) (by omega)
    rwa [Int.neg_mul] at this
  have k1 := key m (by omega)
  have k2 := key (-m) (by rw [Int.neg_mul]; omega)
  unfold absI at *; omega
theorem conv_at (i : Nat) : ∀ n d : Int, (-1000000000 ≤ n ∧ n ≤ 1000000000) → (1 ≤ d ∧ d ≤ 1000000000) → i < (cf n d).length →
    ∃ m e, rtR ((cf n d).take (i + 1)) = (m, e, true) ∧ validR m e = true ∧ e ≤ d ∧ (-d < m * d - n * e ∧ m * d - n * e < d) ∧
      (i + 1 < (cf n d).length → sideOk i (m * d - n * e)) ∧ (i + 1 = (cf n d).length → m * d - n * e = 0) := by
  induction i with
  | zero =>
    intro n d hn hd hi
    have h0 := Int.emod_nonneg n (by omega : d ≠ 0)
    have h1 := Int.emod_lt_of_pos n (show 0 < d by omega)
    have h2 : n / d * d + n % d = n := by have := Int.mul_ediv_add_emod n d; grind
    have hab := num_le (m := n / d) (e := 1) (n := n) (d := d) hd.1 ⟨by omega, hd.1⟩ ⟨by omega, by omega⟩
    have hr : -1000000000 ≤ n / d ∧ n / d ≤ 1000000000 := by unfold absI at hab; omega
    rw [cf_pos (show 0 < d by omega)]
    refine ⟨n / d, 1, ?_, valid_int hr, hd.1, ⟨by omega, by omega⟩, fun hl => ?_, fun hl => ?_⟩
    · simpa using rtR_one _ (inR_mk hr)
    · unfold sideOk
      rw [if_pos (by omega)]
      rcases Int.lt_or_le 0 (n % d) with s | s
      · omega
      · rw [show n % d = 0 by omega, cf_zero] at hl
        simp at hl
    · rcases Int.lt_or_le 0 (n % d) with s | s
      · rw [cf_pos s] at hl
        simp at hl
      · omega
  | succ i ih =>
    intro n d hn hd hi
    have h0 := Int.emod_nonneg n (by omega : d ≠ 0)
    have h1 := Int.emod_lt_of_pos n (show 0 < d by omega)
    have h2 : n / d * d + n % d = n := by have := Int.mul_ediv_add_emod n d; grind
    have hab := num_le (m := n / d) (e := 1) (n := n) (d := d) hd.1 ⟨by omega, hd.1⟩ ⟨by omega, by omega⟩
    have hr : -1000000000 ≤ n / d ∧ n / d ≤ 1000000000 := by unfold absI at hab; omega
    rw [cf_pos (show 0 < d by omega)] at hi ⊢
    simp only [List.length_cons] at hi ⊢
    have hrp : 1 ≤ n % d := by
      rcases Int.lt_or_le 0 (n % d) with s | s
      · omega
      · rw [show n % d = 0 by omega, cf_zero] at hi
        simp at hi
    obtain ⟨m, e, g1, g2, g3, g4, g5, g6⟩ := ih d (n % d) (by omega) (by omega) (by omega)
    have ve := validR_true g2
    have hm1 : 1 ≤ m := by
      have k1 : d * 1 ≤ d * e := Int.mul_le_mul_of_nonneg_left (by omega) (by omega)
      have k2 : 1 ≤ m * (n % d) := by omega
      have k3 : 0 * (n % d) < m * (n % d) := by omega
      have := Int.lt_of_mul_lt_mul_right k3 (by omega)
      omega
    have hm2 : m ≤ d := by
      have := num_le (m := m) (e := e) (n := d) (d := n % d) hrp ⟨ve.1.1, g3⟩ g4
      unfold absI at this; omega
    have eD : (n / d * m + e) * d - n * m = -(m * (n % d) - d * e) := by
      have : n * m = (n / d * d + n % d) * m := by rw [h2]
      rw [this]; grind
    have hab2 := num_le (m := n / d * m + e) (e := m) (n := n) (d := d) hd.1 ⟨hm1, hm2⟩ ⟨by omega, by omega⟩
    have hv : validR (n / d * m + e) m = true := validR_mk ⟨hm1, by omega⟩ (by unfold absI at hab2; omega) ((gcd_next _ m e).trans ve.2.2)
    refine ⟨n / d * m + e, m, ?_, hv, hm2, ⟨by omega, by omega⟩, fun hl => ?_, fun hl => ?_⟩
    · rw [List.take_succ_cons]
      refine rtR_cons _ _ m e (fun e0 => ?_) g1 (both_tt (inR_mk hr) hv)
      have h9 : ((cf d (n % d)).take (i + 1)).length = 0 := by rw [e0]; rfl
      rw [List.length_take] at h9
      omega
    · rw [eD]; exact side_flip (g5 (by omega))
    · rw [eD, g6 (by omega)]; omega
theorem ratio_eq {m e n d : Int} (he : 1 ≤ e) (hd : 1 ≤ d) (h1 : gcdI m e = 1) (h2 : gcdI n d = 1) (h : m * d - n * e = 0) : m = n ∧ e = d := by
  have g1 : Int.gcd m e = 1 := by unfold gcdI at h1; omega
  have g2 : Int.gcd n d = 1 := by unfold gcdI at h2; omega
  have c1 := Int.mul_comm n e
  have c2 := Int.mul_comm m d
  have d1 : e ∣ d := dvd_cancel g1 ⟨n, by omega⟩
  have d2 : d ∣ e := dvd_cancel g2 ⟨m, by omega⟩
  have hed : e = d := Int.le_antisymm (Int.le_of_dvd (by omega) d1) (Int.le_of_dvd (by omega) d2)
  subst hed
  exact ⟨Int.eq_of_mul_eq_mul_right (by omega) (by omega : m * e = n * e), rfl⟩
/-- The last convergent is the ratio itself. -/
theorem rtR_cf {n d : Int} (h : validR n d = true) : rtR (cf n d) = (n, d, true) := by
  obtain ⟨h1, h2, h3⟩ := validR_true h
  have hp : 0 < (cf n d).length := by rw [cf_pos (show 0 < d by omega)]; simp
  obtain ⟨m, e, g1, g2, g3, g4, g5, g6⟩ := conv_at ((cf n d).length - 1) n d h2 h1 (by omega)
  obtain ⟨v1, v2, v3⟩ := validR_true g2
  obtain ⟨rfl, rfl⟩ := ratio_eq v1.1 h1.1 v3 h3 (g6 (by omega))
  rw [show (cf m e).length - 1 + 1 = (cf m e).length by omega, List.take_length] at g1
  exact g1
end Go.Proofs.Ytjojeoehdocojaa
