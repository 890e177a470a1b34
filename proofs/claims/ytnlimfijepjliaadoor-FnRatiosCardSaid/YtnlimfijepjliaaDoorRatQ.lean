/-
  FnRatios: what the six answers satisfy, in plain Lean.
-/
import Derived.Test.YtnlimfijepjliaaDoorOps
namespace Go.Proofs.YtnlimfijepjliaaDoor
open Go.RowKit

/-- A reduced ratio is its two parts' own. -/
theorem mk_canon {x y k : Int} (hv : validR x y = true) (hk : k ≠ 0) : mkOk (x * k) (y * k) = true ∧ mkN (x * k) (y * k) = x ∧ mkD (x * k) (y * k) = y := by
  obtain ⟨hy, hx, hg⟩ := validR_true hv
  have hg' : Nat.gcd x.natAbs y.natAbs = 1 := by
    have h : (Int.gcd x y : Int) = 1 := hg
    rw [Int.gcd_eq_natAbs_gcd_natAbs] at h
    exact Int.ofNat_inj.1 h
  have hkp : 0 < k.natAbs := by omega
  have hgk : gcdI (x * k) (y * k) = (k.natAbs : Int) := by
    unfold gcdI
    rw [Int.gcd_eq_natAbs_gcd_natAbs, Int.natAbs_mul, Int.natAbs_mul, Nat.gcd_mul_right, hg', Nat.one_mul]
  have e1 : qN (x * k) (y * k) = (x.natAbs : Int) := by
    unfold qN absI
    rw [hgk, Int.natAbs_mul, ← Int.natCast_ediv, Nat.mul_div_cancel _ hkp]
  have e2 : qD (x * k) (y * k) = y := by
    unfold qD absI
    rw [hgk, Int.natAbs_mul, ← Int.natCast_ediv, Nat.mul_div_cancel _ hkp]
    omega
  have hok : mkOk (x * k) (y * k) = true := by
    unfold mkOk
    rw [e1, e2, decide_eq_true (by omega), decide_eq_true (by omega)]
    rfl
  refine ⟨hok, ?_, ?_⟩
  · unfold mkN
    rw [if_pos hok, e1]
    unfold sgnd
    rcases Int.lt_or_lt_of_ne hk with hneg | hpos
    · have hyk : y * k < 0 := Int.mul_neg_of_pos_of_neg (by omega) hneg
      rw [decide_eq_true hyk]
      rcases Int.lt_trichotomy x 0 with h | h | h
      · have : 0 < x * k := Int.mul_pos_of_neg_of_neg h hneg
        rw [decide_eq_false (by omega)]
        simp only [bne]
        rw [if_pos (by rfl)]
        omega
      · subst h
        simp
      · have : x * k < 0 := Int.mul_neg_of_pos_of_neg h hneg
        rw [decide_eq_true this]
        simp only [bne]
        rw [if_neg (by simp)]
        omega
    · have hyk : 0 < y * k := Int.mul_pos (by omega) hpos
      rw [decide_eq_false (show ¬ y * k < 0 by omega)]
      rcases Int.lt_trichotomy x 0 with h | h | h
      · have : x * k < 0 := Int.mul_neg_of_neg_of_pos h hpos
        rw [decide_eq_true this]
        simp only [bne]
        rw [if_pos (by rfl)]
        omega
      · subst h
        simp
      · have : 0 < x * k := Int.mul_pos h hpos
        rw [decide_eq_false (by omega)]
        simp only [bne]
        rw [if_neg (by simp)]
        omega
  · unfold mkD
    rw [if_pos hok, e2]
/-- X / D is the valid ratio x / y: reduced it is x / y. -/
theorem mr_canon {x y X D : Int} (hv : validR x y = true) (hD : D ≠ 0) (h : X * y = x * D) : mrN X D = x ∧ mrD X D = y ∧ mrC X D = 0 := by
  obtain ⟨hy, hx, hg⟩ := validR_true hv
  have hdv : y ∣ D := by
    have h1 : y ∣ x * D := ⟨X, by rw [← h, Int.mul_comm]⟩
    have h2 : Int.gcd y x = 1 := by
      have h : (Int.gcd x y : Int) = 1 := hg
      rw [Int.gcd_comm]
      exact Int.ofNat_inj.1 h
    have h3 : y.natAbs ∣ x.natAbs * D.natAbs := by
      rw [← Int.natAbs_mul]
      exact Int.natAbs_dvd_natAbs.2 h1
    rw [Int.gcd_eq_natAbs_gcd_natAbs] at h2
    exact Int.natAbs_dvd_natAbs.1 (Nat.Coprime.dvd_of_dvd_mul_left h2 h3)
  obtain ⟨k, hk⟩ := hdv
  have hk0 : k ≠ 0 := fun e => hD (by rw [hk, e, Int.mul_zero])
  have hX : X = x * k := by
    have h2 : X * y = (x * k) * y := by rw [h, hk, ← Int.mul_assoc, Int.mul_comm x y, Int.mul_assoc, Int.mul_comm y]
    exact Int.eq_of_mul_eq_mul_right (by omega) h2
  subst hk
  subst hX
  obtain ⟨h1, h2, h3⟩ := mk_canon hv hk0
  unfold mrN mrD mrC
  rw [if_neg hD, if_neg hD, if_neg hD, h1]
  exact ⟨h2, h3, rfl⟩
theorem abs_mul_div {X D : Int} {g : Int} (hg : 0 < g) (h1 : g ∣ X) (h2 : g ∣ D) : X / g * D = X * (D / g) := by
  obtain ⟨a, rfl⟩ := h1
  obtain ⟨b, rfl⟩ := h2
  rw [Int.mul_ediv_cancel_left _ (by omega), Int.mul_ediv_cancel_left _ (by omega)]
  rw [Int.mul_left_comm, Int.mul_assoc]
theorem mk_crossZ {X D : Int} (hD : D ≠ 0) (hok : mkOk X D = true) : mkN X D * D = X * mkD X D := by
  have hg0 : 0 < Int.gcd X D := Int.gcd_pos_of_ne_zero_right X hD
  have hg : 0 < gcdI X D := by unfold gcdI; omega
  have hX : gcdI X D ∣ X := Int.gcd_dvd_left ..
  have hDd : gcdI X D ∣ D := Int.gcd_dvd_right ..
  have hc := abs_mul_div hg hX hDd
  unfold mkN mkD
  rw [if_pos hok, if_pos hok]
  unfold qN qD sgnd
  by_cases h1 : X < 0
  · by_cases h2 : D < 0
    · rw [decide_eq_true h1, decide_eq_true h2, if_neg (by simp), absI_of_neg h1, absI_of_neg h2, Int.neg_ediv_of_dvd hX, Int.neg_ediv_of_dvd hDd, Int.neg_mul, hc, Int.mul_neg]
    · rw [decide_eq_true h1, decide_eq_false h2, if_pos (by simp), absI_of_neg h1, absI_of_nonneg h2, Int.neg_ediv_of_dvd hX, Int.neg_neg, hc]
  · by_cases h2 : D < 0
    · rw [decide_eq_false h1, decide_eq_true h2, if_pos (by simp), absI_of_nonneg h1, absI_of_neg h2, Int.neg_ediv_of_dvd hDd, Int.neg_mul, hc, Int.mul_neg]
    · rw [decide_eq_false h1, decide_eq_false h2, if_neg (by simp), absI_of_nonneg h1, absI_of_nonneg h2, hc]
theorem mr_ok {X D : Int} (hX : absI X ≤ 9223372036854775808) (hDb : absI D ≤ 9223372036854775808) (hD : D ≠ 0) (hc : mrC X D = 0) : validR (mrN X D) (mrD X D) = true ∧ mrN X D * D = X * mrD X D := by
  have hok : mkOk X D = true := by
    unfold mrC at hc
    rw [if_neg hD] at hc
    cases h : mkOk X D
    · rw [h] at hc; exact absurd hc (by decide)
    · rfl
  unfold mrN mrD
  rw [if_neg hD, if_neg hD]
  exact ⟨mk_valid hD hX hDb hok, mk_crossZ hD hok⟩
theorem abs_bd {x : Int} (h : -9223372036854775808 ≤ x ∧ x ≤ 9223372036854775808) : absI x ≤ 9223372036854775808 := by unfold absI; omega
theorem add_back {a b c d : Int} (h1 : validR a b = true) (h2 : validR c d = true) (hc : addC a b c d = 0) :
    subN (addN a b c d) (addD a b c d) c d = a ∧ subD (addN a b c d) (addD a b c d) c d = b ∧ subC (addN a b c d) (addD a b c d) c d = 0 := by
  obtain ⟨e1, e2, e3⟩ := add_tt h1 h2
  rw [e3] at hc
  rw [e1, e2]
  obtain ⟨hb, ha, _⟩ := validR_true h1
  obtain ⟨hd, hcc, _⟩ := validR_true h2
  have p1 := mulB a d ha (by omega)
  have p2 := mulB c b hcc (by omega)
  have p3 := mulB b d (by omega) (by omega)
  have hD : b * d ≠ 0 := mulNe b d (by omega) (by omega)
  obtain ⟨hv, hx⟩ := mr_ok (abs_bd (by omega)) (abs_bd (by omega)) hD hc
  obtain ⟨x, hxd⟩ : ∃ x, x = mrN (a * d + c * b) (b * d) := ⟨_, rfl⟩
  obtain ⟨y, hyd⟩ : ∃ y, y = mrD (a * d + c * b) (b * d) := ⟨_, rfl⟩
  rw [← hxd, ← hyd] at hv hx ⊢
  obtain ⟨f1, f2, f3⟩ := sub_tt hv h2
  rw [f1, f2, f3]
  obtain ⟨hy, _, _⟩ := validR_true hv
  refine mr_canon h1 (mulNe y d (by omega) (by omega)) ?_
  have q : x * d * b = (a * d + c * b) * y := by rw [← hx, Int.mul_assoc, Int.mul_comm d b]
  rw [Int.sub_mul, q, Int.add_mul]
  have r1 : c * b * y = c * y * b := by rw [Int.mul_assoc, Int.mul_assoc, Int.mul_comm b y]
  have r2 : a * d * y = a * (y * d) := by rw [Int.mul_assoc, Int.mul_comm d y]
  omega
theorem mul_back {a b c d : Int} (h1 : validR a b = true) (h2 : validR c d = true) (hc0 : c ≠ 0) (hc : mulC a b c d = 0) :
    divN (mulN a b c d) (mulD a b c d) c d = a ∧ divD (mulN a b c d) (mulD a b c d) c d = b ∧ divC (mulN a b c d) (mulD a b c d) c d = 0 := by
  obtain ⟨e1, e2, e3⟩ := mul_tt h1 h2
  rw [e3] at hc
  rw [e1, e2]
  obtain ⟨hb, ha, _⟩ := validR_true h1
  obtain ⟨hd, hcc, _⟩ := validR_true h2
  have p1 := mulB a c ha hcc
  have p3 := mulB b d (by omega) (by omega)
  have hD : b * d ≠ 0 := mulNe b d (by omega) (by omega)
  obtain ⟨hv, hx⟩ := mr_ok (abs_bd (by omega)) (abs_bd (by omega)) hD hc
  obtain ⟨x, hxd⟩ : ∃ x, x = mrN (a * c) (b * d) := ⟨_, rfl⟩
  obtain ⟨y, hyd⟩ : ∃ y, y = mrD (a * c) (b * d) := ⟨_, rfl⟩
  rw [← hxd, ← hyd] at hv hx ⊢
  obtain ⟨f1, f2, f3⟩ := div_tt hv h2
  rw [f1, f2, f3]
  obtain ⟨hy, _, _⟩ := validR_true hv
  refine mr_canon h1 (mulNe y c (by omega) hc0) ?_
  rw [Int.mul_assoc, Int.mul_comm d b, hx, Int.mul_assoc, Int.mul_comm c y]
theorem tri_back {a b : Int} (h1 : validR a b = true) : mrN (3 * a) (3 * b) = a ∧ mrD (3 * a) (3 * b) = b ∧ mrC (3 * a) (3 * b) = 0 := by
  obtain ⟨hb, _, _⟩ := validR_true h1
  refine mr_canon h1 (by omega) ?_
  rw [Int.mul_comm 3 a, Int.mul_assoc]
/-- The sign of the difference is the order. -/
theorem sub_sign {a b c d : Int} (h1 : validR a b = true) (h2 : validR c d = true) (hc : subC a b c d = 0) : (0 < subN a b c d ↔ c * b < a * d) := by
  obtain ⟨e1, e2, e3⟩ := sub_tt h1 h2
  rw [e3] at hc
  rw [e1]
  obtain ⟨hb, ha, _⟩ := validR_true h1
  obtain ⟨hd, hcc, _⟩ := validR_true h2
  have p1 := mulB a d ha (by omega)
  have p2 := mulB c b hcc (by omega)
  have p3 := mulB b d (by omega) (by omega)
  have hD : 0 < b * d := Int.mul_pos (by omega) (by omega)
  obtain ⟨hv, hx⟩ := mr_ok (abs_bd (by omega)) (abs_bd (by omega)) (by omega) hc
  obtain ⟨hy, _, _⟩ := validR_true hv
  constructor
  · intro h
    have h3 := Int.mul_pos h hD
    rw [hx] at h3
    rcases Int.lt_or_le 0 (a * d - c * b) with h4 | h4
    · omega
    · have := Int.mul_nonpos_of_nonpos_of_nonneg h4 (show 0 ≤ mrD (a * d - c * b) (b * d) by omega)
      omega
  · intro h
    have h3 := Int.mul_pos (show 0 < a * d - c * b by omega) (show 0 < mrD (a * d - c * b) (b * d) by omega)
    rw [← hx] at h3
    rcases Int.lt_or_le 0 (mrN (a * d - c * b) (b * d)) with h4 | h4
    · exact h4
    · have := Int.mul_nonpos_of_nonpos_of_nonneg h4 (show 0 ≤ b * d by omega)
      omega
theorem eq_ratio {a b c d : Int} (h1 : validR a b = true) (h2 : validR c d = true) (h : a * d = c * b) : a = c ∧ b = d := by
  obtain ⟨hd, _, _⟩ := validR_true h2
  obtain ⟨k1, k2, _⟩ := mr_canon h1 (D := d) (X := c) (by omega) h.symm
  obtain ⟨j1, j2, _⟩ := mr_canon h2 (D := d) (X := c) (by omega) rfl
  exact ⟨k1.symm.trans j1, k2.symm.trans j2⟩
end Go.Proofs.YtnlimfijepjliaaDoor
