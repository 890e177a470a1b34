/-
  The walk of ConvergentsOf's law.
-/
import Derived.Test.YtjojeoehdocojaaConv
namespace Go.Proofs.Ytjojeoehdocojaa
open Go.RowKit

theorem cf_log (k : Nat) : ∀ n d : Int, d < 2 ^ k → (cf n d).length ≤ 2 * k := by
  induction k with
  | zero =>
    intro n d h
    rw [cf, dif_neg (by omega)]
    simp
  | succ k ih =>
    intro n d h
    by_cases h0 : 0 < d
    · rw [cf_pos h0]
      by_cases h1 : 0 < n % d
      · rw [cf_pos h1]
        have e1 := Int.emod_lt_of_pos n h0
        have e2 := Int.emod_lt_of_pos d h1
        have e3 := Int.emod_nonneg d (by omega : n % d ≠ 0)
        have e4 := Int.mul_ediv_add_emod d (n % d)
        have e5 : 1 ≤ d / (n % d) := Int.le_ediv_of_mul_le h1 (by omega)
        have e6 : n % d * 1 ≤ n % d * (d / (n % d)) := Int.mul_le_mul_of_nonneg_left e5 (by omega)
        have e7 : (2 : Int) ^ (k + 1) = 2 * 2 ^ k := by rw [Int.pow_succ, Int.mul_comm]
        have := ih (n % d) (d % (n % d)) (by omega)
        simp only [List.length_cons]
        omega
      · have e2 := Int.emod_nonneg n (by omega : d ≠ 0)
        have e : n % d = 0 := by omega
        rw [e, cf_zero]
        simp only [List.length_cons, List.length_nil]
        omega
    · rw [cf, dif_neg h0]
      simp
theorem convL_len (a b : Int) : (convL a b).length ≤ 1048576 := by
  unfold convL
  cases h : validR a b
  · simp
  · have h1 := (validR_true h).1
    have h2 := cf_log 30 a b (by have : (2 : Int) ^ 30 = 1073741824 := by decide
                                 omega)
    simp only [if_true]
    rw [convs_len]
    omega
theorem walk_FnExactConvergentsOf (a b : Int) (w : World) (_h0 : -9223372036854775808 ≤ a ∧ a ≤ 9223372036854775807) (_h1 : -9223372036854775808 ≤ b ∧ b ≤ 9223372036854775807) :
    Calls Try.prog 5 #[.agg #[.int .i64 a, .int .i64 b]] w fun e w' => e = .returned (.bool true) ∧ Below w.heap.size w w' := by
  have hlen : (convL a b).length ≤ 1048576 := convL_len a b
  obtain ⟨L, hL⟩ : ∃ L, L = convL a b := ⟨_, rfl⟩
  have H1 := specConvergentsOf_any a b
  have H2 := implConvergentsOf_any a b
  rw [← hL] at hlen H1 H2
  have C1 := hide H1
  have C2 := hide H2
  clear H1 H2 hL
  have K0 := hide (cell2_new (w := w) (u := .int .i64 a) (v := .int .i64 b) 23)
  have B0 := hide (balloc (Below.refl w.heap.size w) (.cells #[.int .i64 a, .int .i64 b] 23))
  go_enter Try.func5, Try.ntmps5
  go_wp2_with fail
  refine (toRatio_any a b _).mono ?_
  rintro e v1 ⟨rfl, c1⟩
  have K1 := hide (K0.out.below c1)
  have B1 := hide (bstep B0.out c1)
  go_wp2_with fail
  refine (C1.out _).mono ?_
  rintro e w1 ⟨a1, d1, rfl, o1, b1⟩
  have D1 := hide (bstep B1.out b1)
  have K2 := hide (K1.out.below b1)
  obtain ⟨k0, k1, k2, k3⟩ := K2.out
  clear c1
  go_wp2_with fail
  refine (toRatio_any a b _).mono ?_
  rintro e v2 ⟨rfl, c2⟩
  have K3 := hide (K2.out.below c2)
  have o11 := o1.below c2
  have D1' := hide (bstep D1.out c2)
  clear k0 k1 k2 k3
  go_wp2_with fail
  refine (C2.out _).mono ?_
  rintro e w2 ⟨a2, d2, rfl, o2, b2⟩
  have K4 := hide (K3.out.below b2)
  have D2 := hide (bstep D1'.out b2)
  have o12 := o11.below b2
  go_wp2_with fail
  refine (eqRatioS_any _ _ L L _ _ _ o2.reads o12.reads hlen hlen).mono ?_
  rintro e w3 ⟨rfl, b3⟩
  have o13 := o12.below b3
  have o23 := o2.below b3
  have hd : decide (L = L) = true := decide_eq_true rfl
  have D3 := hide (bstep D2.out b3)
  have K5 := hide (K4.out.below b3)
  go_wp2_with fail
  refine (markRatioS_any _ L 1 _ _ o23 (by omega) (by omega)).mono ?_
  rintro e w4 ⟨rfl, o24, g4⟩
  have o14 := o13.same g4 (own_neP o11 o23)
  have D4 := hide (below_markP D3.out g4 o23 D1'.out.size)
  have K6 := hide (K5.out.grown g4 (fun k hk => by have h1 := o23.lt k hk; have h2 := K3.out.lt; omega))
  go_wp2_with fail
  refine (heldRatioS_any _ 1 _ _ _ o24 (by omega) (by omega)).mono ?_
  rintro e w5 ⟨rfl, b5⟩
  have o15 := o14.below b5
  have o25 := o24.below b5
  have D5 := hide (bstep D4.out b5)
  have K7 := hide (K6.out.below b5)
  obtain ⟨k0, k1, k2, k3⟩ := K7.out
  go_wp2_with fail
  refine (toRatio_any a b _).mono ?_
  rintro e v3 ⟨rfl, c3⟩
  have o15' := o15.below c3
  have o25' := o25.below c3
  have D5' := hide (bstep D5.out c3)
  clear k0 k1 k2 k3
  go_wp2_with fail
  refine (C2.out _).mono ?_
  rintro e w6 ⟨a3, d3, rfl, o3, b6⟩
  have o16 := o15'.below b6
  have o26 := o25'.below b6
  have D6 := hide (bstep D5'.out b6)
  go_wp2_with fail
  refine (eqRatioS_any _ _ L L _ _ _ o3.reads o16.reads hlen hlen).mono ?_
  rintro e w7 ⟨rfl, b7⟩
  have o27 := o26.below b7
  have D7 := hide (bstep D6.out b7)
  go_wp2_with fail
  refine (heldRatioS_any _ 1 _ _ _ o27 (by omega) (by omega)).mono ?_
  rintro e w8 ⟨rfl, b8⟩
  go_wp2_with fail
  go_ret
  exact ⟨rfl, bstep D7.out b8⟩
end Go.Proofs.Ytjojeoehdocojaa
