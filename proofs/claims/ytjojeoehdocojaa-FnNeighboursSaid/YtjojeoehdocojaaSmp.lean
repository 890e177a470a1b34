/-
  The walk of the law FnSimplest.
-/
import Derived.Test.YtjojeoehdocojaaSimpI
import Derived.Test.YtjojeoehdocojaaDrawA
import Derived.Test.YtjojeoehdocojaaOpsS
import Derived.Deep.CutRange
namespace Go.Proofs.Ytjojeoehdocojaa
open Go.RowKit

theorem mk_val {n d : Int} (hd : 1 ≤ d) (h : mkOk n d = true) : mkN n d * d = n * mkD n d := by
  have hp : 1 ≤ gcdI n d := gcdI_pos n d hd
  have d1 : gcdI n d ∣ absI n := by unfold gcdI absI; exact Int.natCast_dvd_natCast.2 (by rw [Int.gcd_eq_natAbs_gcd_natAbs]; exact Nat.gcd_dvd_left _ _)
  have d2 : gcdI n d ∣ absI d := by unfold gcdI absI; exact Int.natCast_dvd_natCast.2 (by rw [Int.gcd_eq_natAbs_gcd_natAbs]; exact Nat.gcd_dvd_right _ _)
  have e1 : qN n d * gcdI n d = absI n := Int.ediv_mul_cancel d1
  have e2 : qD n d * gcdI n d = d := by
    have := Int.ediv_mul_cancel d2
    unfold qD
    rw [absI_of_nonneg (by omega)] at this ⊢
    exact this
  unfold mkN mkD
  rw [h, if_pos rfl, if_pos rfl]
  generalize gcdI n d = g at *
  generalize qN n d = x at *
  generalize qD n d = y at *
  unfold sgnd
  by_cases hn : n < 0
  · rw [decide_eq_true hn, decide_eq_false (by omega)]
    simp only [Bool.true_bne, Bool.not_false, if_true]
    rw [absI_of_neg hn] at e1
    have e3 : n = -(x * g) := by omega
    rw [e3, ← e2]; grind
  · rw [decide_eq_false hn, decide_eq_false (by omega)]
    simp only [bne_self_eq_false, Bool.false_eq_true, if_false]
    rw [absI_of_nonneg hn] at e1
    rw [← e1, ← e2]; grind
/-- A product with an integer. -/
theorem mul_int {a1 a2 d : Int} (hv : validR a1 a2 = true) (hd : 1 ≤ d ∧ d ≤ 1000) (h : mulC a1 a2 d 1 = 0) : validR (mulN a1 a2 d 1) (mulD a1 a2 d 1) = true ∧ mulN a1 a2 d 1 * a2 = a1 * d * mulD a1 a2 d 1 := by
  obtain ⟨v1, v2, _⟩ := validR_true hv
  obtain ⟨e1, e2, e3⟩ := mul_tt hv (valid_int (t := d) (by omega))
  have hb := mulB a1 d v2 (by omega)
  rw [Int.mul_one] at e1 e2 e3
  have hne : ¬ a2 = 0 := by omega
  unfold mrC at e3
  rw [if_neg hne, h] at e3
  have hok : mkOk (a1 * d) a2 = true := by
    cases hh : mkOk (a1 * d) a2
    · rw [hh] at e3; simp at e3
    · rfl
  rw [e1, e2, mrN_of _ hne, mrD_of _ hne]
  exact ⟨mk_valid hne (by unfold absI; omega) (by unfold absI; omega) hok, mk_val v1.1 hok⟩
/-- No integer k has k/d between the borders, for a lesser denominator. -/
theorem smp_no {a1 a2 b1 b2 m n d xn xd yn yd up : Int} (hs : SimpZ a1 a2 b1 b2 m n) (ha : 1 ≤ a2) (hb : 1 ≤ b2) (hd : 1 ≤ d ∧ d < n) (hx : 1 ≤ xd) (hy : 1 ≤ yd) (ex : xn * a2 = a1 * d * xd) (ey : yn * b2 = b1 * d * yd)
    (hup : xn ≤ up * xd) : ¬ up ≤ yn / yd := by
  intro hle
  have k1 : a1 * d ≤ up * a2 := by
    refine le_of_mul hx ?_
    have : xn * a2 ≤ up * xd * a2 := Int.mul_le_mul_of_nonneg_right hup (by omega)
    have e : up * a2 * xd = up * xd * a2 := by grind
    omega
  have k2 : up * b2 ≤ b1 * d := by
    refine le_of_mul hy ?_
    have h1 : up * yd ≤ yn := by
      have h2 : up * yd ≤ yn / yd * yd := Int.mul_le_mul_of_nonneg_right hle (by omega)
      have h3 := Int.ediv_mul_le yn (show yd ≠ 0 by omega)
      omega
    have : up * yd * b2 ≤ yn * b2 := Int.mul_le_mul_of_nonneg_right h1 (by omega)
    have e : up * b2 * yd = up * yd * b2 := by grind
    omega
  have := hs.2.2.1 up d hd.1 ⟨k1, k2⟩
  omega
theorem up_ge {xn xd : Int} (hx : 1 ≤ xd) : (xd = 1 → xn ≤ xn / xd * xd) ∧ xn ≤ (xn / xd + 1) * xd := by
  refine ⟨fun h => by rw [h, Int.ediv_one, Int.mul_one]; exact Int.le_refl _, ?_⟩
  have := Int.lt_ediv_add_one_mul_self xn (show 0 < xd by omega)
  omega
theorem simpZ_valid {a1 a2 b1 b2 m n : Int} (hb : Brd a1 a2 b1 b2) (h : SimpZ a1 a2 b1 b2 m n) : validR m n = true := by
  obtain ⟨y1, y2, y3, y4, y5⟩ := hb
  have hbd := simpZ_bd y1 y2 y3 y4 y5 h
  obtain ⟨h1, ⟨h2, h3⟩, h4, _⟩ := h
  refine validR_mk ⟨h1, hbd.1⟩ hbd.2 ?_
  have hp := gcdI_pos m n h1
  obtain ⟨m1, hm1⟩ : gcdI m n ∣ m := Int.gcd_dvd_left ..
  obtain ⟨n1, hn1⟩ : gcdI m n ∣ n := Int.gcd_dvd_right ..
  generalize gcdI m n = g at *
  have hn1p : 1 ≤ n1 := pos_of_mul hp (by rw [Int.mul_comm]; omega)
  have e1 : a1 * n = a1 * n1 * g := by rw [hn1]; grind
  have e2 : m * a2 = m1 * a2 * g := by rw [hm1]; grind
  have e3 : m * b2 = m1 * b2 * g := by rw [hm1]; grind
  have e4 : b1 * n = b1 * n1 * g := by rw [hn1]; grind
  have := h4 m1 n1 hn1p ⟨le_of_mul hp (by omega), le_of_mul hp (by omega)⟩
  rcases Int.lt_or_le 1 g with s | s
  · have : 2 * n1 ≤ g * n1 := Int.mul_le_mul_of_nonneg_right (by omega) (by omega)
    omega
  · omega
theorem sb_ok {a1 a2 b1 b2 r1 r2 k : Int} (h : SbRes a1 a2 b1 b2 r1 r2 k) (h1 : validR a1 a2 = true) (h2 : validR b1 b2 = true) (h3 : a1 * b2 ≤ b1 * a2) : k = 0 ∧ SimpZ a1 a2 b1 b2 r1 r2 := by
  rcases h with ⟨g, _⟩ | ⟨_, g, _⟩ | ⟨_, _, g, hk⟩
  · rw [both_tt h1 h2] at g; contradiction
  · omega
  · exact ⟨hk, g⟩
theorem cmpR_le {a b c d : Int} (h1 : validR a b = true) (h2 : validR c d = true) (h : a * d ≤ c * b) : cmpR a b c d ≤ 0 := by
  unfold cmpR; rw [both_tt h1 h2, if_pos rfl]; exact (cmp_le h).1
set_option maxHeartbeats 4000000 in
set_option maxRecDepth 100000 in
theorem walk_FnSimplest (a0 : Option Addr) (len0 cap0 : Nat) (z0 : List Int) (w : World) (h0 : IsRow .u8 w a0 len0 cap0 z0) :
    Calls Try.prog 11 #[.slice a0 len0 cap0] w fun e w' => e = .returned (.bool true) ∧ Below w.heap.size w w' := by
  obtain ⟨b0, m0⟩ := row_bytes h0
  clear h0
  have H0 := hide b0
  clear b0
  cases hl : longB len0 0
  · have hlen : len0 ≤ 3000 := by
      unfold longB at hl
      simp only [Bool.or_eq_false_iff, decide_eq_false_iff_not] at hl
      omega
    have HL := hide hl
    clear hl
    go_enter Try.func11, Try.ntmps11
    go_wp2_with fail
    refine (a2Long_any _ _ _ _ _ _ _ m0 (Nat.zero_le _)).mono ?_
    rintro e w' ⟨rfl, rfl⟩
    rw [HL.out]
    go_wp2_with fail
    refine (a2Ratios_any a0 len0 cap0 _ H0.out (by omega)).mono ?_
    rintro e w1 ⟨a, b, a', b', rfl, hv, hv', hb1⟩
    have HV := hide hv
    have HV' := hide hv'
    have K0 := hide (pair_cells (w := w1) (.int .i64 a) (.int .i64 b) (.int .i64 a') (.int .i64 b') 27 27)
    have B1 := hide (balloc (balloc hb1 (.cells #[.int .i64 a, .int .i64 b] 27)) (.cells #[.int .i64 a', .int .i64 b'] 27))
    have hg0 : w.heap.size ≤ w1.heap.size := hb1.size
    have HCR := hide (show cmpR a b a' b' = cmpI a b a' b' by unfold cmpR; rw [both_tt hv hv']; rfl)
    clear hv hv' hb1
    go_wp2_with fail
    refine (specCompareRatio_any a b a' b' _).mono ?_
    rintro e w2 ⟨rfl, hb2⟩
    rw [HCR.out]
    have K1 := hide (K0.out.1.below hb2)
    have K2 := hide (K0.out.2.below hb2)
    have B2 := hide (bstep B1.out hb2)
    clear hb2
    obtain ⟨g, hg⟩ : ∃ g, g = w1.heap.size := ⟨_, rfl⟩
    rw [← hg] at K1 K2 hg0 ⊢
    clear hg
    go_upto_if 23 with fail
    go_cut [19] (fun _ wx => ∃ a1 a2 b1 b2 : Int, Cell2 wx g (.int .i64 a1) (.int .i64 a2) ∧ Cell2 wx (g + 1) (.int .i64 b1) (.int .i64 b2) ∧ validR a1 a2 = true ∧ validR b1 b2 = true ∧ a1 * b2 ≤ b1 * a2 ∧ Below w.heap.size w wx)
    case first =>
      obtain ⟨k0, k1, k2, k3⟩ := K1.out
      obtain ⟨k4, k5, k6, k7⟩ := K2.out
      by_cases hc : a' * b < a * b'
      · have hk := cmp_gt hc
        rw [hk]
        clear hk
        go_wp2_with fail
        go_meet
        case rel =>
          exact ⟨a', b', a, b, (K1.out.set _ _).other (by omega) _ _, (K2.out.other (by omega) _ _).set _ _, HV'.out, HV.out, by omega, bset (bset (bset (bset B2.out hg0 _) hg0 _) (Nat.le_succ_of_le hg0) _) (Nat.le_succ_of_le hg0) _⟩
      · obtain ⟨hk, hk'⟩ := cmp_le (show a * b' ≤ a' * b by omega)
        go_wp2_with fail
        go_meet
        case rel => exact ⟨a, b, a', b', K1.out, K2.out, HV.out, HV'.out, by omega, B2.out⟩
    case rest =>
      obtain ⟨a1, a2, b1, b2, c1, c2, v1, v2, hle, hbel⟩ := hcut
      have C1 := hide c1
      have C2 := hide c2
      have V1 := hide v1
      have V2 := hide v2
      have HLE := hide hle
      have B3 := hide hbel
      obtain ⟨k0, k1, k2, k3⟩ := c1
      obtain ⟨k4, k5, k6, k7⟩ := c2
      clear v1 v2 hle hbel
      go_wp2_with fail
      refine (implSimplestBetween_any a1 a2 b1 b2 _).mono ?_
      rintro e w3 ⟨⟨r1, r2, kk, hsb, rfl⟩, hb3⟩
      obtain ⟨rfl, hs⟩ := sb_ok hsb V1.out V2.out HLE.out
      have HV3 := simpZ_valid (brd_of V1.out V2.out HLE.out) hs
      have hr2 := (validR_true HV3).1
      have HC1 := cmpR_le V1.out HV3 hs.2.1.1
      have HC2 := cmpR_le HV3 V2.out hs.2.1.2
      have V3 := hide HV3
      have HS := hide hs
      have D1 := hide ((C1.out.below hb3).alloc (.cells #[.int .i64 r1, .int .i64 r2] 27))
      have D2 := hide ((C2.out.below hb3).alloc (.cells #[.int .i64 r1, .int .i64 r2] 27))
      have D3 := hide (cell2_new (w := w3) (u := .int .i64 r1) (v := .int .i64 r2) 27)
      have B4 := hide (balloc (bstep B3.out hb3) (.cells #[.int .i64 r1, .int .i64 r2] 27))
      clear hsb hs hb3 k0 k1 k2 k3 k4 k5 k6 k7 HV3
      obtain ⟨X1, hX1⟩ : ∃ x, x = cmpR a1 a2 r1 r2 := ⟨_, rfl⟩
      obtain ⟨X2, hX2⟩ : ∃ x, x = cmpR r1 r2 b1 b2 := ⟨_, rfl⟩
      have HCA := fun w => specCompareRatio_any a1 a2 r1 r2 w
      have HCB := fun w => specCompareRatio_any r1 r2 b1 b2 w
      rw [← hX1] at HCA HC1
      rw [← hX2] at HCB HC2
      have HCAA := hide HCA
      have HCBB := hide HCB
      clear HCA HCB hX1 hX2
      go_wp2_with fail
      refine (specValidRatio_any r1 r2 _).mono ?_
      rintro e w4 ⟨rfl, hb4⟩
      rw [V3.out]
      have E1 := hide (D1.out.below hb4)
      have E2 := hide (D2.out.below hb4)
      have E3 := hide (D3.out.below hb4)
      have B5 := hide (bstep B4.out hb4)
      clear hb4
      obtain ⟨k0, k1, k2, k3⟩ := E1.out
      obtain ⟨k4, k5, k6, k7⟩ := E3.out
      go_wp2_with fail
      refine (HCAA.out _).mono ?_
      rintro e w5 ⟨rfl, hb5⟩
      have F1 := hide (E1.out.below hb5)
      have F2 := hide (E2.out.below hb5)
      have F3 := hide (E3.out.below hb5)
      have B6 := hide (bstep B5.out hb5)
      clear hb5 k0 k1 k2 k3 k4 k5 k6 k7
      obtain ⟨k0, k1, k2, k3⟩ := F2.out
      obtain ⟨k4, k5, k6, k7⟩ := F3.out
      go_wp2_with fail
      refine (HCBB.out _).mono ?_
      rintro e w6 ⟨rfl, hb6⟩
      have G1 := hide (F1.out.below hb6)
      have G2 := hide (F2.out.below hb6)
      have G3 := hide (F3.out.below hb6)
      have B7 := hide (bstep B6.out hb6)
      clear hb6 k0 k1 k2 k3 k4 k5 k6 k7
      obtain ⟨q, hq⟩ : ∃ q, q = w3.heap.size := ⟨_, rfl⟩
      rw [← hq] at G3 ⊢
      clear hq
      go_wp2_with fail
      go_loopw [7, 8, 9, 10, 11, 12] (fun s7 _ _ _ _ _ wr => ∃ d : Int, (1 ≤ d ∧ d ≤ 101) ∧ s7 = .int .i64 d ∧ Cell2 wr g (.int .i64 a1) (.int .i64 a2) ∧ Cell2 wr (g + 1) (.int .i64 b1) (.int .i64 b2) ∧ Cell2 wr q (.int .i64 r1) (.int .i64 r2) ∧ Below w.heap.size w wr) (fun s7 _ _ _ _ _ _ => (200 - intOf s7).toNat)
      case atStart => exact ⟨1, by omega, rfl, G1.out, G2.out, G3.out, B7.out⟩
      case round =>
        obtain ⟨d, hd, rfl, c1, c2, c3, hbel⟩ := hrel
        have J1 := hide c1
        have J2 := hide c2
        have J3 := hide c3
        have B8 := hide hbel
        obtain ⟨k0, k1, k2, k3⟩ := c3
        clear hbel
        by_cases hd1 : d < r2
        · by_cases hd2 : d ≤ 100
          · obtain ⟨k4, k5, k6, k7⟩ := c1
            clear c2
            obtain ⟨xn, hxn⟩ : ∃ x, x = mulN a1 a2 d 1 := ⟨_, rfl⟩
            obtain ⟨xd, hxd⟩ : ∃ x, x = mulD a1 a2 d 1 := ⟨_, rfl⟩
            obtain ⟨xc, hxc⟩ : ∃ x, x = mulC a1 a2 d 1 := ⟨_, rfl⟩
            obtain ⟨yn, hyn⟩ : ∃ x, x = mulN b1 b2 d 1 := ⟨_, rfl⟩
            obtain ⟨yd, hyd⟩ : ∃ x, x = mulD b1 b2 d 1 := ⟨_, rfl⟩
            obtain ⟨yc, hyc⟩ : ∃ x, x = mulC b1 b2 d 1 := ⟨_, rfl⟩
            have MX := fun w => specMulRatio_any a1 a2 d 1 w
            have MY := fun w => specMulRatio_any b1 b2 d 1 w
            have FX := mul_int (d := d) V1.out (by omega)
            have FY := mul_int (d := d) V2.out (by omega)
            rw [← hxn, ← hxd, ← hxc] at MX FX
            rw [← hyn, ← hyd, ← hyc] at MY FY
            have MXX := hide MX
            have MYY := hide MY
            have FXX := hide FX
            have FYY := hide FY
            clear MX MY FX FY hxn hxd hxc hyn hyd hyc
            go_wp2_with fail
            refine (MXX.out _).mono ?_
            rintro e w7 ⟨rfl, hb7⟩
            have L1 := hide ((J1.out.below hb7).alloc (.cells #[.int .i64 xn, .int .i64 xd] 27))
            have L2 := hide ((J2.out.below hb7).alloc (.cells #[.int .i64 xn, .int .i64 xd] 27))
            have L3 := hide ((J3.out.below hb7).alloc (.cells #[.int .i64 xn, .int .i64 xd] 27))
            have L4 := hide (cell2_new (w := w7) (u := .int .i64 xn) (v := .int .i64 xd) 27)
            have B9 := hide (balloc (bstep B8.out hb7) (.cells #[.int .i64 xn, .int .i64 xd] 27))
            have hlt7 : g + 1 < w7.heap.size := (J2.out.below hb7).lt
            clear k0 k1 k2 k3 k4 k5 k6 k7
            obtain ⟨k0, k1, k2, k3⟩ := J2.out.below hb7
            clear hb7
            go_wp2_with fail
            refine (MYY.out _).mono ?_
            rintro e w8 ⟨rfl, hb8⟩
            have M1 := hide ((L1.out.below hb8).alloc (.cells #[.int .i64 yn, .int .i64 yd] 27))
            have M2 := hide ((L2.out.below hb8).alloc (.cells #[.int .i64 yn, .int .i64 yd] 27))
            have M3 := hide ((L3.out.below hb8).alloc (.cells #[.int .i64 yn, .int .i64 yd] 27))
            have M4 := hide ((L4.out.below hb8).alloc (.cells #[.int .i64 yn, .int .i64 yd] 27))
            have M5 := hide (cell2_new (w := w8) (u := .int .i64 yn) (v := .int .i64 yd) 27)
            have B10 := hide (balloc (bstep B9.out hb8) (.cells #[.int .i64 yn, .int .i64 yd] 27))
            have hlt8 : w7.heap.size < w8.heap.size := (L4.out.below hb8).lt
            clear k0 k1 k2 k3
            obtain ⟨k0, k1, k2, k3⟩ := L4.out.below hb8
            clear hb8
            by_cases hx0 : xc = 0
            · by_cases hy0 : yc = 0
              · obtain ⟨fx1, fx2⟩ := FXX.out hx0
                obtain ⟨fy1, fy2⟩ := FYY.out hy0
                subst hx0 hy0
                have bx := (validR_true fx1).1
                have by' := (validR_true fy1).1
                have ux := ediv_bd xn xd 1000000000 bx.1 (validR_true fx1).2.1 (by omega)
                have hup := up_ge (xn := xn) bx.1
                have hno1 := fun (h : xd = 1) => smp_no HS.out (validR_true V1.out).1.1 (validR_true V2.out).1.1 ⟨hd.1, hd1⟩ bx.1 by'.1 fx2 fy2 (hup.1 h)
                have hno2 := smp_no HS.out (validR_true V1.out).1.1 (validR_true V2.out).1.1 ⟨hd.1, hd1⟩ bx.1 by'.1 fx2 fy2 hup.2
                have RX := fun w => specFloorRatio_any xn xd w
                have RY := fun w => specFloorRatio_any yn yd w
                unfold floorR at RX RY
                rw [fx1] at RX
                rw [fy1] at RY
                simp only [if_true] at RX RY
                obtain ⟨fx, hfx⟩ : ∃ f, f = xn / xd := ⟨_, rfl⟩
                obtain ⟨fy, hfy⟩ : ∃ f, f = yn / yd := ⟨_, rfl⟩
                rw [← hfx] at RX ux hno1 hno2
                rw [← hfy] at RY hno1 hno2
                have RXX := hide RX
                have RYY := hide RY
                have HN1 := hide hno1
                have hno3 : fy < fx + 1 := by omega
                clear RX RY hno1 hno2 hup fx1 fx2 fy1 fy2 hfx hfy
                go_wp2_with fail
                refine (RXX.out _).mono ?_
                rintro e w9 ⟨rfl, hb9⟩
                have N1 := hide (M1.out.below hb9)
                have N2 := hide (M2.out.below hb9)
                have N3 := hide (M3.out.below hb9)
                have N5 := hide (M5.out.below hb9)
                have B11 := hide (bstep B10.out hb9)
                clear k0 k1 k2 k3
                obtain ⟨k0, k1, k2, k3⟩ := M4.out.below hb9
                obtain ⟨k4, k5, k6, k7⟩ := N5.out
                clear hb9
                by_cases hx1 : 1 < xd
                · go_wp2_with fail
                  refine (RYY.out _).mono ?_
                  rintro e w10 ⟨rfl, hb10⟩
                  have B12 := hide (bstep B11.out hb10)
                  have O1 := hide (N1.out.below hb10)
                  have O2 := hide (N2.out.below hb10)
                  have O3 := hide (N3.out.below hb10)
                  clear hb10
                  go_wp2_with fail
                  go_roundw
                  case rel => exact ⟨d + 1, by omega, rfl, O1.out, O2.out, O3.out, B12.out⟩
                  case measure => simp only [intOf]; omega
                · have hno4 : fy < fx := by have := HN1.out (by omega); omega
                  go_wp2_with fail
                  refine (RYY.out _).mono ?_
                  rintro e w10 ⟨rfl, hb10⟩
                  have B12 := hide (bstep B11.out hb10)
                  have O1 := hide (N1.out.below hb10)
                  have O2 := hide (N2.out.below hb10)
                  have O3 := hide (N3.out.below hb10)
                  clear hb10
                  go_wp2_with fail
                  go_roundw
                  case rel => exact ⟨d + 1, by omega, rfl, O1.out, O2.out, O3.out, B12.out⟩
                  case measure => simp only [intOf]; omega
              · have hx0' : (xc != 0) = false := by simpa using hx0
                have hy0' : (yc != 0) = true := by simpa using hy0
                clear hx0 hy0
                go_wp2_with fail
                go_ret
                exact ⟨rfl, B10.out⟩
            · have hx0' : (xc != 0) = true := by simpa using hx0
              clear hx0
              go_wp2_with fail
              go_ret
              exact ⟨rfl, B10.out⟩
          · go_wp2_with fail
            go_ret
            exact ⟨rfl, B8.out⟩
        · go_wp2_with fail
          go_ret
          exact ⟨rfl, B8.out⟩
  · have HL := hide hl
    clear hl
    go_enter Try.func11, Try.ntmps11
    go_wp2_with fail
    refine (a2Long_any _ _ _ _ _ _ _ m0 (Nat.zero_le _)).mono ?_
    rintro e w' ⟨rfl, rfl⟩
    rw [HL.out]
    go_wp2_with fail
    go_ret
    exact ⟨rfl, Below.refl _ _⟩
end Go.Proofs.Ytjojeoehdocojaa
