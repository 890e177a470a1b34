/-
  The walk of the law FnRounding.
-/
import Derived.Test.YtodldgnepiafaaaDrawA
import Derived.Test.YtodldgnepiafaaaCmp
namespace Go.Proofs.Ytodldgnepiafaaa
open Go.RowKit

theorem near_bd (x b B : Int) (hb : 1 ≤ b) (hx : -B ≤ x ∧ x ≤ B) : (-b < 2 * (near x b * b - x) ∧ 2 * (near x b * b - x) ≤ b) ∧ (-B ≤ near x b ∧ near x b ≤ B) := by
  have h1 : (2 * x + b) / (2 * b) * (2 * b) ≤ 2 * x + b := Int.ediv_mul_le _ (by omega)
  have h2 : 2 * x + b < ((2 * x + b) / (2 * b) + 1) * (2 * b) := Int.lt_ediv_add_one_mul_self _ (by omega)
  unfold near
  generalize (2 * x + b) / (2 * b) = m at *
  have e1 : m * (2 * b) = 2 * (m * b) := by grind
  have e2 : (m + 1) * (2 * b) = 2 * (m * b) + 2 * b := by grind
  rw [e1] at h1
  rw [e2] at h2
  refine ⟨by omega, ?_⟩
  have hB : 0 ≤ B := by omega
  have hBb : B ≤ B * b := by
    have : B * 1 ≤ B * b := Int.mul_le_mul_of_nonneg_left hb hB
    omega
  constructor
  · rcases Int.lt_or_le m (-B) with s | s
    · exfalso
      have : m * b ≤ (-B - 1) * b := Int.mul_le_mul_of_nonneg_right (by omega) (by omega)
      have e : (-B - 1) * b = -(B * b) - b := by grind
      omega
    · exact s
  · rcases Int.lt_or_le B m with s | s
    · exfalso
      have : (B + 1) * b ≤ m * b := Int.mul_le_mul_of_nonneg_right (by omega) (by omega)
      have e : (B + 1) * b = B * b + b := by grind
      omega
    · exact s
theorem rnd_facts {a b : Int} (h : validR a b = true) :
    (-1000000000 ≤ a / b ∧ a / b ≤ 1000000000) ∧ (-1000000000 ≤ near a b ∧ near a b ≤ 1000000000) ∧ a / b * b ≤ a ∧ a < a / b * b + b ∧ (near a b = a / b ∨ near a b = a / b + 1) := by
  obtain ⟨h1, h2, _⟩ := validR_true h
  refine ⟨ediv_bd a b 1000000000 h1.1 h2 (by omega), (near_bd a b 1000000000 h1.1 h2).2, Int.ediv_mul_le _ (by omega), ?_, ?_⟩
  · have := Int.lt_ediv_add_one_mul_self a (show 0 < b by omega)
    rw [Int.add_mul, Int.one_mul] at this
    exact this
  · rw [near_eq a b h1.1]
    split
    · right; rfl
    · left; rfl
theorem scale_t {n a b : Int} (h : validR a b = true) (hn : inR n (-1000000000) 1000000000 = true) : scale0 n a b = near (n * a) b ∧ scale1 n a b = 0 := by
  unfold scale0 scale1
  rw [both_tt h hn, h, hn]
  exact ⟨rfl, rfl⟩
set_option maxHeartbeats 2000000 in
set_option maxRecDepth 100000 in
theorem walk_FnRounding (a0 : Option Addr) (len0 cap0 : Nat) (z0 : List Int) (a1 : Option Addr) (len1 cap1 : Nat) (z1 : List Int) (w : World) (h0 : IsRow .u8 w a0 len0 cap0 z0) (h1 : IsRow .u8 w a1 len1 cap1 z1) :
    Calls Try.prog 14 #[.slice a0 len0 cap0, .slice a1 len1 cap1] w fun e w' => e = .returned (.bool true) ∧ Below w.heap.size w w' := by
  obtain ⟨b0, m0⟩ := row_bytes h0
  obtain ⟨b1, m1⟩ := row_bytes h1
  clear h0 h1
  have H0 := hide b0
  have H1 := hide b1
  clear b0 b1
  cases hl : longB len0 len1
  · have hlen : len0 ≤ 3000 ∧ len1 ≤ 3000 := by
      unfold longB at hl
      simp only [Bool.or_eq_false_iff, decide_eq_false_iff_not] at hl
      omega
    have HL := hide hl
    clear hl
    go_enter Try.func14, Try.ntmps14
    go_wp2_with fail
    refine (a2Long_any _ _ _ _ _ _ _ m0 m1).mono ?_
    rintro e w' ⟨rfl, rfl⟩
    rw [HL.out]
    go_wp2_with fail
    refine (a2Ratios_any a0 len0 cap0 _ H0.out (by omega)).mono ?_
    rintro e w1 ⟨a, b, a', b', rfl, hv, _, hb1⟩
    obtain ⟨f1, f2, f3, f4, f5⟩ := rnd_facts hv
    obtain ⟨v1, v2, _⟩ := validR_true hv
    have hs1 := scale_t (n := 1) hv (by decide)
    rw [Int.one_mul] at hs1
    have HF := fun w => implFloorRatio_any a b w
    have HR := fun w => implRoundRatio_any a b w
    have HS := fun w => implScaleRatio_any 1 a b w
    unfold floorR at HF
    unfold roundR at HR
    rw [hs1.1, hs1.2] at HS
    rw [hv] at HF HR
    simp only [if_true] at HF HR
    obtain ⟨f, hf⟩ : ∃ f, f = a / b := ⟨_, rfl⟩
    obtain ⟨n, hn⟩ : ∃ n, n = near a b := ⟨_, rfl⟩
    rw [← hf] at f1 f3 f4 f5 HF
    rw [← hn] at f2 f5 HR HS
    have HFF := hide HF
    have HRR := hide HR
    have HSS := hide HS
    have HV := hide hv
    have K0 := hide (pair_cells (w := w1) (.int .i64 a) (.int .i64 b) (.int .i64 a') (.int .i64 b') 25 25)
    have B1 := hide (balloc (balloc hb1 (.cells #[.int .i64 a, .int .i64 b] 25)) (.cells #[.int .i64 a', .int .i64 b'] 25))
    have F5 := hide f5
    clear hs1 hv hb1 HF HR HS hf hn f5
    go_wp2_with fail
    refine (HFF.out _).mono ?_
    rintro e w2 ⟨rfl, hb2⟩
    have K1 := hide (K0.out.1.below hb2)
    have B2 := hide (bstep B1.out hb2)
    obtain ⟨k0, k1, k2, k3⟩ := K1.out
    clear hb2
    go_wp2_with fail
    refine (HRR.out _).mono ?_
    rintro e w3 ⟨rfl, hb3⟩
    have K2 := hide (K1.out.below hb3)
    have B3 := hide (bstep B2.out hb3)
    clear k0 k1 k2 k3 hb3
    obtain ⟨k0, k1, k2, k3⟩ := K2.out
    go_wp2_with fail
    refine (HSS.out _).mono ?_
    rintro e w4 ⟨rfl, hb4⟩
    have K3 := hide (K2.out.below hb4)
    have B4 := hide (bstep B3.out hb4)
    have HM := hide (H1.out.grown (grown_of_below' B4.out none) (fun _ _ _ => by simp))
    clear k0 k1 k2 k3 hb4
    obtain ⟨k0, k1, k2, k3⟩ := K3.out
    go_wp2_with fail
    refine (a2At_any a1 len1 cap1 0 50 _ HM.out (by omega) (by omega) (by omega)).mono ?_
    rintro e w' ⟨k, rfl, hk, rfl⟩
    have hkr : inR k (-1000000000) 1000000000 = true := inR_mk (by omega)
    have hs2 := scale_t HV.out hkr
    have hka : -49000000000 ≤ k * a ∧ k * a ≤ 49000000000 := by
      have t1 : k * a ≤ k * 1000000000 := Int.mul_le_mul_of_nonneg_left v2.2 hk.1
      have t2 : k * -1000000000 ≤ k * a := Int.mul_le_mul_of_nonneg_left v2.1 hk.1
      omega
    obtain ⟨g1, g2⟩ := near_bd (k * a) b 49000000000 v1.1 hka
    have HS2 := fun w => implScaleRatio_any k a b w
    rw [hs2.1, hs2.2] at HS2
    obtain ⟨m, hmm⟩ : ∃ m, m = near (k * a) b := ⟨_, rfl⟩
    rw [← hmm] at g1 g2 HS2
    have HSS2 := hide HS2
    clear HS2 hs2 hmm hkr
    go_wp2_with fail
    refine (HSS2.out _).mono ?_
    rintro e w5 ⟨rfl, hb5⟩
    have K4 := hide (K3.out.below hb5)
    have B5 := hide (bstep B4.out hb5)
    clear k0 k1 k2 k3 hb5
    obtain ⟨k0, k1, k2, k3⟩ := K4.out
    have hff : (f + 1) * b = f * b + b := by rw [Int.add_mul, Int.one_mul]
    have f6 : a < (f + 1) * b := by omega
    have f7 : (f + 1) * b ≤ 2000000000 := by omega
    clear hff
    have d0 : (n != n) = false := by simp
    rcases F5.out with hnf | hnf
    · subst hnf
      by_cases hbig : 1000000 < b
      · go_wp2_with fail
        go_ret
        exact ⟨rfl, B5.out⟩
      · have mb : -100000000000 ≤ m * b ∧ m * b ≤ 100000000000 := by omega
        go_wp2_with fail
        go_ret
        exact ⟨rfl, B5.out⟩
    · subst hnf
      have d1 : (f + 1 != f) = true := by simp; omega
      have d2 : (f + 1 != f + 1) = false := by simp
      by_cases hbig : 1000000 < b
      · go_wp2_with fail
        go_ret
        exact ⟨rfl, B5.out⟩
      · have mb : -100000000000 ≤ m * b ∧ m * b ≤ 100000000000 := by omega
        go_wp2_with fail
        go_ret
        exact ⟨rfl, B5.out⟩
  · have HL := hide hl
    clear hl
    go_enter Try.func14, Try.ntmps14
    go_wp2_with fail
    refine (a2Long_any _ _ _ _ _ _ _ m0 m1).mono ?_
    rintro e w' ⟨rfl, rfl⟩
    rw [HL.out]
    go_wp2_with fail
    go_ret
    exact ⟨rfl, Below.refl _ _⟩
end Go.Proofs.Ytodldgnepiafaaa
