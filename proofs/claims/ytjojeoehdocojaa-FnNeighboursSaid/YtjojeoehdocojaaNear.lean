/-
  Plain laws of neighbouring ratios. No program in sight.
-/
import Derived.Test.YtjojeoehdocojaaRT
namespace Go.Proofs.Ytjojeoehdocojaa
open Go.RowKit

theorem dvd_cancel {p q x : Int} (hg : Int.gcd p q = 1) (h : q ∣ p * x) : q ∣ x := by
  rw [← Int.natAbs_dvd_natAbs] at h ⊢
  rw [Int.natAbs_mul] at h
  rw [Int.gcd_eq_natAbs_gcd_natAbs] at hg
  exact Nat.Coprime.dvd_of_dvd_mul_left (by rw [Nat.Coprime, Nat.gcd_comm]; exact hg) h
/-- a/b and c/d lie side by side, with denominators up to most. -/
def Lay (most a b c d : Int) : Prop := (0 ≤ a ∧ a ≤ b) ∧ (0 ≤ c ∧ c ≤ d) ∧ (1 ≤ b ∧ b ≤ most) ∧ (1 ≤ d ∧ d ≤ most) ∧ c * b - a * d = 1
/-- p/q is strictly between them, and there is no room between them. -/
def Near (p q most a b c d : Int) : Prop := Lay most a b c d ∧ 0 < p * b - a * q ∧ 0 < c * q - p * d ∧ most < b + d

theorem den_between {a b c d x y : Int} (hb : 1 ≤ b) (hd : 1 ≤ d) (hdet : c * b - a * d = 1) (h1 : 0 < x * b - a * y) (h2 : 0 < c * y - x * d) : b + d ≤ y := by
  have e : y * (c * b - a * d) = b * (c * y - x * d) + d * (x * b - a * y) := by grind
  rw [hdet, Int.mul_one] at e
  have h3 : b * 1 ≤ b * (c * y - x * d) := Int.mul_le_mul_of_nonneg_left (by omega) (by omega)
  have h4 : d * 1 ≤ d * (x * b - a * y) := Int.mul_le_mul_of_nonneg_left (by omega) (by omega)
  omega
theorem sum_gaps {p q a b c d : Int} (hdet : c * b - a * d = 1) : d * (p * b - a * q) + b * (c * q - p * d) = q := by
  have e : d * (p * b - a * q) + b * (c * q - p * d) = q * (c * b - a * d) := by grind
  rw [e, hdet, Int.mul_one]
theorem cross_pos {p q c x y d : Int} (hq : 1 ≤ q) (hy : 1 ≤ y) (hd : 1 ≤ d) (h1 : 0 < p * y - x * q) (h2 : 0 < c * q - p * d) : 0 < c * y - x * d := by
  have e : q * (c * y - x * d) = y * (c * q - p * d) + d * (p * y - x * q) := by grind
  have h3 : y * 1 ≤ y * (c * q - p * d) := Int.mul_le_mul_of_nonneg_left (by omega) (by omega)
  have h4 : d * 1 ≤ d * (p * y - x * q) := Int.mul_le_mul_of_nonneg_left (by omega) (by omega)
  rcases Int.lt_or_le 0 (c * y - x * d) with h | h
  · exact h
  · have : q * (c * y - x * d) ≤ q * 0 := Int.mul_le_mul_of_nonneg_left h (by omega)
    omega
theorem eq_of_cross {a b c d a' b' c' d' : Int} (hb : 1 ≤ b) (hb' : 1 ≤ b') (h1 : c * b - a * d = 1) (h2 : c' * b' - a' * d' = 1) (h : a' * b = a * b') : a = a' ∧ b = b' := by
  have e1 : b' = b * (c * b' - a' * d) := by
    have : b' * (c * b - a * d) = b * (c * b' - a' * d) := by grind
    rw [h1, Int.mul_one] at this; exact this
  have e2 : b = b' * (c' * b - a * d') := by
    have : b * (c' * b' - a' * d') = b' * (c' * b - a * d') := by grind
    rw [h2, Int.mul_one] at this; exact this
  have l1 : b ≤ b' := by
    rcases Int.lt_or_le 0 (c * b' - a' * d) with g | g
    · have : b * 1 ≤ b * (c * b' - a' * d) := Int.mul_le_mul_of_nonneg_left (by omega) (by omega)
      omega
    · have : b * (c * b' - a' * d) ≤ b * 0 := Int.mul_le_mul_of_nonneg_left g (by omega)
      omega
  have l2 : b' ≤ b := by
    rcases Int.lt_or_le 0 (c' * b - a * d') with g | g
    · have : b' * 1 ≤ b' * (c' * b - a * d') := Int.mul_le_mul_of_nonneg_left (by omega) (by omega)
      omega
    · have : b' * (c' * b - a * d') ≤ b' * 0 := Int.mul_le_mul_of_nonneg_left g (by omega)
      omega
  have hbb : b = b' := by omega
  subst hbb
  exact ⟨(Int.eq_of_mul_eq_mul_right (by omega) h).symm, rfl⟩
theorem near_unique {p q most a b c d a' b' c' d' : Int} (hq : 1 ≤ q) (h : Near p q most a b c d) (h' : Near p q most a' b' c' d') : a = a' ∧ b = b' ∧ c = c' ∧ d = d' := by
  obtain ⟨⟨_, _, b1, d1, det⟩, g1, g2, m1⟩ := h
  obtain ⟨⟨_, _, b1', d1', det'⟩, g1', g2', m1'⟩ := h'
  have low : a' * b = a * b' := by
    rcases Int.lt_trichotomy (a' * b - a * b') 0 with s | s | s
    · have k1 : 0 < a * b' - a' * b := by omega
      have k2 := cross_pos hq b1.1 d1'.1 g1 g2'
      have := den_between b1'.1 d1'.1 det' k1 k2
      omega
    · omega
    · have k2 := cross_pos hq b1'.1 d1.1 g1' g2
      have := den_between b1.1 d1.1 det s k2
      omega
  have high : c * d' = c' * d := by
    rcases Int.lt_trichotomy (c * d' - c' * d) 0 with s | s | s
    · have k1 : 0 < c' * d - c * d' := by omega
      have k2 := cross_pos hq b1'.1 d1.1 g1' g2
      have := den_between b1'.1 d1'.1 det' k2 k1
      omega
    · omega
    · have k2 := cross_pos hq b1.1 d1'.1 g1 g2'
      have := den_between b1.1 d1.1 det k2 s
      omega
  obtain ⟨r1, r2⟩ := eq_of_cross b1.1 b1'.1 det det' low
  have hi := eq_of_cross (a := c) (b := d) (c := -a) (d := -b) (a' := c') (b' := d') (c' := -a') (d' := -b') d1.1 d1'.1 (by grind) (by grind) high.symm
  exact ⟨r1, r2, hi.1, hi.2⟩
theorem lay_up {most a b c d k : Int} (h : Lay most a b c d) (hk : 0 ≤ k) (hm : b + k * d ≤ most) : Lay most (a + k * c) (b + k * d) c d := by
  obtain ⟨h1, h2, h3, h4, h5⟩ := h
  have e1 : k * c ≤ k * d := Int.mul_le_mul_of_nonneg_left h2.2 hk
  have e2 : 0 ≤ k * c := Int.mul_nonneg hk h2.1
  exact ⟨by omega, h2, by omega, h4, by grind⟩
theorem lay_down {most a b c d k : Int} (h : Lay most a b c d) (hk : 0 ≤ k) (hm : d + k * b ≤ most) : Lay most a b (c + k * a) (d + k * b) := by
  obtain ⟨h1, h2, h3, h4, h5⟩ := h
  have e1 : k * a ≤ k * b := Int.mul_le_mul_of_nonneg_left h1.2 hk
  have e2 : 0 ≤ k * a := Int.mul_nonneg hk h1.1
  exact ⟨h1, by omega, h3, by omega, by grind⟩
theorem gap_up (p q a b c d k : Int) : p * (b + k * d) - (a + k * c) * q = (p * b - a * q) - k * (c * q - p * d) := by grind
theorem gap_down (p q a b c d k : Int) : (c + k * a) * q - p * (d + k * b) = (c * q - p * d) - k * (p * b - a * q) := by grind
/-- Products stay small. -/
theorem lay_bd {p q most a b c d : Int} (h : Lay most a b c d) (hm : most ≤ 1000000000) (hp : 0 ≤ p ∧ p ≤ 1000000000) (hq : 1 ≤ q ∧ q ≤ 1000000000) :
    (0 ≤ p * b ∧ p * b ≤ 1000000000000000000) ∧ (0 ≤ a * q ∧ a * q ≤ 1000000000000000000) ∧ (0 ≤ c * q ∧ c * q ≤ 1000000000000000000) ∧ (0 ≤ p * d ∧ p * d ≤ 1000000000000000000) := by
  obtain ⟨h1, h2, h3, h4, h5⟩ := h
  have f : ∀ x y : Int, 0 ≤ x ∧ x ≤ 1000000000 → 0 ≤ y ∧ y ≤ 1000000000 → 0 ≤ x * y ∧ x * y ≤ 1000000000000000000 := fun x y hx hy => by
    refine ⟨Int.mul_nonneg hx.1 hy.1, ?_⟩
    have : x * y ≤ 1000000000 * 1000000000 := Int.mul_le_mul hx.2 hy.2 hy.1 (by omega)
    omega
  exact ⟨f p b hp (by omega), f a q (by omega) (by omega), f c q (by omega) (by omega), f p d hp (by omega)⟩
theorem div_steps {u v k : Int} (hv : 1 ≤ v) (hk : k ≤ u / v) : k * v ≤ u := by
  have h1 : k * v ≤ u / v * v := Int.mul_le_mul_of_nonneg_right hk (by omega)
  have h2 := Int.ediv_mul_le u (show v ≠ 0 by omega)
  omega
theorem gap_ne {p q most a b c d : Int} (h : Lay most a b c d) (hg : Int.gcd p q = 1) (hq : most < q) (hsum : b + d ≤ most) : p * b - a * q ≠ c * q - p * d := by
  intro e
  have e2 : p * (b + d) = q * (a + c) := by grind
  have hd : q ∣ b + d := by
    have : q ∣ p * (b + d) := ⟨a + c, e2⟩
    exact dvd_cancel hg this
  obtain ⟨_, _, h3, h4, _⟩ := h
  have := Int.le_of_dvd (by omega) hd
  omega
/-- An exact hit. -/
theorem hit_low {p q most a b c d : Int} (h : Lay most a b c d) (hg : Int.gcd p q = 1) (hq : 1 ≤ q) (e : p * b - a * q = 0) : a = p ∧ b = q := by
  obtain ⟨_, _, h3, h4, h5⟩ := h
  have d1 : q ∣ b := dvd_cancel hg ⟨a, by grind⟩
  have d2 : b ∣ q := ⟨c * q - p * d, by
    have : q * (c * b - a * d) = b * (c * q - p * d) := by grind
    rw [h5, Int.mul_one] at this; exact this⟩
  have hbq : b = q := Int.le_antisymm (Int.le_of_dvd (by omega) d2) (Int.le_of_dvd (by omega) d1)
  subst hbq
  exact ⟨(Int.eq_of_mul_eq_mul_right (by omega) (by omega : p * b = a * b)).symm, rfl⟩
theorem hit_high {p q most a b c d : Int} (h : Lay most a b c d) (hg : Int.gcd p q = 1) (hq : 1 ≤ q) (e : c * q - p * d = 0) : c = p ∧ d = q := by
  obtain ⟨_, _, h3, h4, h5⟩ := h
  have d1 : q ∣ d := dvd_cancel hg ⟨c, by grind⟩
  have d2 : d ∣ q := ⟨p * b - a * q, by
    have : q * (c * b - a * d) = d * (p * b - a * q) := by grind
    rw [h5, Int.mul_one] at this; exact this⟩
  have hbq : d = q := Int.le_antisymm (Int.le_of_dvd (by omega) d2) (Int.le_of_dvd (by omega) d1)
  subst hbq
  exact ⟨(Int.eq_of_mul_eq_mul_right (by omega) (by omega : p * d = c * d)).symm, rfl⟩
end Go.Proofs.Ytjojeoehdocojaa
